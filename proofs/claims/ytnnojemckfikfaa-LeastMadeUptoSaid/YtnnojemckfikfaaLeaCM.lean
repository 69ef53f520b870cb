/- LeaCM: a part of the proofs of this seat's statements. -/
import Derived.Test.YtnnojemckfikfaaLeaBM
/- The reference's least machine: which bytes it holds for one. -/
namespace Go.Ab.T
open Go Go.Ab
set_option linter.unusedVariables false
set_option linter.unusedSimpArgs false
set_option linter.unusedSectionVars false

theorem FL_idx {α : Type} [DecidableEq α] {σ : Nat → α} : ∀ c i, i < (FL σ c).length → nf σ ((FL σ c).getD i 0) = i := by
  intro c
  induction c with
  | zero => intro i hi; simp [FL] at hi
  | succ c ih =>
    intro i hi
    rw [FL_succ] at hi ⊢
    cases hfc : fstO σ c with
    | true =>
      rw [hfc, if_pos rfl] at hi
      rw [if_pos rfl, snoc_getD]
      by_cases hil : i < (FL σ c).length
      · rw [if_pos hil]; exact ih i hil
      · have : i = (FL σ c).length := by simp at hi; omega
        rw [if_neg hil, if_pos this, this, FL_len]
    | false =>
      rw [hfc] at hi
      rw [if_neg (by simp), List.append_nil] at hi ⊢
      exact ih i hi

/-- where a class leads from what is reached -/
def col (N : List (List Int)) (f : Nat → Nat) (t : List Bool) (k a : Nat) : List Nat := (List.range k).map fun s => if t.getD s false = true then f (rowN N s a) else 0
theorem col_iff {N : List (List Int)} {f : Nat → Nat} {t : List Bool} {k a b : Nat} : col N f t k a = col N f t k b ↔ ∀ s, s < k → t.getD s false = true → f (rowN N s a) = f (rowN N s b) := by
  unfold col
  constructor
  · intro h s hs ht
    have := congrArg (fun l => l[s]?) h
    simp only [List.getElem?_map, List.getElem?_range hs, Option.map_some, Option.some.injEq] at this
    rwa [if_pos ht, if_pos ht] at this
  · intro h
    refine List.map_congr_left fun s hs => ?_
    by_cases ht : t.getD s false = true
    · rw [if_pos ht, if_pos ht, h s (List.mem_range.1 hs) ht]
    · rw [if_neg ht, if_neg ht]

section
variable {R : Type} {C : List Int} {N : List (List Int)} {E : List Bool} {k m : Nat}

theorem alike_ok (h : Mch C N E k m) (kf : Nat) (hkf : 3000 ≤ kf) (f : Nat → Nat) (l : List Int) (hl : PL k f l) (t : List Bool) (ht : t.length = k) (a b : Nat) (ha : a < m) (hb : b < m) (K : Bool → Option R) :
    ref11_alike kf C N E l t (a : Int) (b : Int) K = K (decide (col N f t k a = col N f t k b)) := by
  have hN := h.nl; have hk2 := h.k2; have hl1 := hl.1
  unfold ref11_alike ref11_alike_b
  refine loop_inv (fun kk i (_ : Unit) => ref11_alike_l2 kf kk l t (a : Int) (b : Int) N (fun v18 => K v18) (K true) (i : Int)) _ k 0 (fun i _ => ∀ s, s < i → t.getD s false = true → f (rowN N s a) = f (rowN N s b)) ?_ ?_ k kf 0 () (by omega) (by omega) (fun s hs => by omega)
  · intro kk _ hall
    rw [ref11_alike_l2]
    unfold ref11_alike_l2_b
    rw [decide_eq_false (show ¬ ((k : Int) < (N.length : Int)) by omega), cond_false, decide_eq_true (col_iff.2 hall)]
  · intro kk s _ _ hs hall
    obtain ⟨r1, r2⟩ := h.row s hs
    have s0 : decide (0 ≤ (s : Int)) = true := decide_eq_true (by omega)
    have s1 : decide ((s : Int) < (N.length : Int)) = true := decide_eq_true (by omega)
    have s2 : decide ((s : Int) < (t.length : Int)) = true := decide_eq_true (by omega)
    have a0 : decide (0 ≤ (a : Int)) = true := decide_eq_true (by omega)
    have a1 : decide ((a : Int) < ((N.getD s []).length : Int)) = true := decide_eq_true (by omega)
    have b0 : decide (0 ≤ (b : Int)) = true := decide_eq_true (by omega)
    have b1 : decide ((b : Int) < ((N.getD s []).length : Int)) = true := decide_eq_true (by omega)
    obtain ⟨x, hx, hxe⟩ := r2 a ha
    obtain ⟨y, hy, hye⟩ := r2 b hb
    have ex : rowN N s a = x := by unfold rowN; rw [hxe, Int.toNat_natCast]
    have ey : rowN N s b = y := by unfold rowN; rw [hye, Int.toNat_natCast]
    have x0 : decide (0 ≤ (x : Int)) = true := decide_eq_true (by omega)
    have x1 : decide ((x : Int) < (l.length : Int)) = true := decide_eq_true (by omega)
    have y0 : decide (0 ≤ (y : Int)) = true := decide_eq_true (by omega)
    have y1 : decide ((y : Int) < (l.length : Int)) = true := decide_eq_true (by omega)
    have hun : ref11_alike_l2 kf (kk + 1) l t (a : Int) (b : Int) N (fun v18 => K v18) (K true) (s : Int) =
        bif (if t.getD s false = true then !(decide ((f x : Int) = (f y : Int))) else false) then K false else ref11_alike_l2 kf kk l t (a : Int) (b : Int) N (fun v18 => K v18) (K true) ((s + 1 : Nat) : Int) := by
      rw [ref11_alike_l2]
      unfold ref11_alike_l2_b
      dsimp only
      rw [s1, cond_true, s0, gd_true rfl, s2, gd_true rfl, Int.toNat_natCast, wi_1 s (by omega)]
      cases t.getD s false with
      | false => rfl
      | true =>
        rw [cond_true, gd_true rfl, gd_true rfl, a0, gd_true rfl, Int.toNat_natCast, a1, gd_true rfl, hxe, x0, gd_true rfl, x1, gd_true rfl, gd_true rfl, gd_true rfl, b0, gd_true rfl, Int.toNat_natCast, b1, gd_true rfl, hye, y0, gd_true rfl, y1, gd_true rfl, Int.toNat_natCast, Int.toNat_natCast, hl.2 x hx, hl.2 y hy, if_pos rfl]
    rw [hun]
    by_cases hts : t.getD s false = true
    · rw [if_pos hts]
      by_cases he : f x = f y
      · left
        refine ⟨(), fun j hj hjt => ?_, ?_⟩
        · by_cases hjs : j = s
          · subst hjs; rw [ex, ey, he]
          · exact hall j (by omega) hjt
        · rw [decide_eq_true (show (f x : Int) = (f y : Int) by omega), Bool.not_true, cond_false]
      · right
        rw [decide_eq_false (show ¬ ((f x : Int) = (f y : Int)) by omega), Bool.not_false, cond_true, decide_eq_false fun q => he (by rw [← ex, ← ey]; exact col_iff.1 q s hs hts)]
    · left
      refine ⟨(), fun j hj hjt => ?_, ?_⟩
      · by_cases hjs : j = s
        · subst hjs; exact absurd hjt hts
        · exact hall j (by omega) hjt
      · rw [if_neg hts, cond_false]

/-- the columns, byte by byte -/
def tau (C : List Int) (N : List (List Int)) (f : Nat → Nat) (t : List Bool) (k b : Nat) : List Nat := col N f t k (C.getD b 0).toNat

theorem l11_ok (h : Mch C N E k m) (kf k0 : Nat) (hkf : 3000 ≤ kf) (hk0 : 300 < k0) (f : Nat → Nat) (l : List Int) (hl : PL k f l) (t : List Bool) (ht : t.length = k) (b : Nat) (hb : b < 256) (v25 v28 : List Int) (v30 : List (List Int)) (v31 : List Bool) (v32 : List (List Int)) (v33 : List Bool)
    (Ke : Int → Int → List Int → List (List Int) → List Bool → List Int → List Int → List Bool → List Int → List Int → List (List Int) → List Bool → List (List Int) → List Bool → Option R) :
    ref11_Least_l11 kf k0 (b : Int) C N E v25 l t v28 (castF (FL (tau C N f t k) b)) v30 v31 v32 v33 Ke 0 = Ke (b : Int) ((ix (tau C N f t k) b : Nat) : Int) C N E v25 l t v28 (castF (FL (tau C N f t k) b)) v30 v31 v32 v33 := by
  generalize hσ : tau C N f t k = σ
  have hnf := nf_le σ b
  have hcl : C.length = 256 := h.cl
  refine loop_inv (fun kk i (_ : Unit) => ref11_Least_l11 kf kk (b : Int) C N E v25 l t v28 (castF (FL σ b)) v30 v31 v32 v33 Ke (i : Int)) _ (nf σ b) 0
    (fun i _ => ∀ j, j < i → σ ((FL σ b).getD j 0) ≠ σ b) ?_ ?_ (nf σ b) k0 0 () (by omega) (by omega) (by intro j hj; omega)
  · intro kk _ hno
    have hf : fstO σ b = true := by
      rw [fstO_iff]
      intro u hu he
      obtain ⟨a1, a2, a3⟩ := fo_spec σ u
      have h1 := nf_lt (c := b) a2 (by omega)
      have h2 := FL_getD σ b (fo σ u) (by omega) a2
      exact hno _ h1 (by rw [h2, a3, he])
    rw [ref11_Least_l11]
    unfold ref11_Least_l11_b
    rw [castF_len, FL_len, decide_eq_false (show ¬ (((nf σ b : Nat) : Int) < ((nf σ b : Nat) : Int)) by omega), cond_false, ix_fst hf]
  · intro kk i _ _ hi hno
    have hil : i < (FL σ b).length := by rw [FL_len]; exact hi
    obtain ⟨f1, f2⟩ := FL_mem (σ := σ) (c := b) (i := i) hil
    have hidx : ix σ ((FL σ b).getD i 0) = i := by rw [ix_fst f2, FL_idx b i hil]
    generalize hg : (FL σ b).getD i 0 = g at f1 f2 hidx
    obtain ⟨c1, c2⟩ := h.cls_lt b hb
    obtain ⟨d1, d2⟩ := h.cls_lt g (by omega)
    have hm2 := h.m2
    have e1 : IntKind.i64.wrap (C.getD b 0) = (((C.getD b 0).toNat : Nat) : Int) := by rw [c2, wi_n _ (by omega)]; omega
    have e2 : IntKind.i64.wrap (C.getD g 0) = (((C.getD g 0).toNat : Nat) : Int) := by rw [d2, wi_n _ (by omega)]; omega
    have hdec : decide (col N f t k (C.getD b 0).toNat = col N f t k (C.getD g 0).toNat) = decide (σ b = σ g) := by rw [← hσ]; rfl
    have hun : ref11_Least_l11 kf (kk + 1) (b : Int) C N E v25 l t v28 (castF (FL σ b)) v30 v31 v32 v33 Ke (i : Int) =
        bif (!(decide (σ b = σ g))) then ref11_Least_l11 kf kk (b : Int) C N E v25 l t v28 (castF (FL σ b)) v30 v31 v32 v33 Ke ((i + 1 : Nat) : Int) else Ke (b : Int) (i : Int) C N E v25 l t v28 (castF (FL σ b)) v30 v31 v32 v33 := by
      rw [ref11_Least_l11]
      unfold ref11_Least_l11_b
      rw [castF_len, decide_eq_true (show (i : Int) < ((FL σ b).length : Int) by omega), cond_true, gdd (by omega), gdd (by omega), gdd (by omega), gd_true rfl, Int.toNat_natCast, Int.toNat_natCast, castF_getD, hg, gdd (by omega), gdd (by omega), Int.toNat_natCast, e1, e2, alike_ok h kf hkf f l hl t ht _ _ c1 d1, hdec, wi_1 i (by omega)]
    rw [hun]
    by_cases he : σ b = σ g
    · right
      rw [decide_eq_true he, Bool.not_true, cond_false, ix_iff.2 he, hidx]
    · left
      refine ⟨(), fun j hj => ?_, ?_⟩
      · by_cases hji : j = i
        · subst hji; rw [hg]; exact fun q => he q.symm
        · exact hno j (by omega)
      · rw [decide_eq_false he, Bool.not_false, cond_true]

/-- all classes -/
theorem l8r_ok (h : Mch C N E k m) (kf : Nat) (hkf : 3000 ≤ kf) (f : Nat → Nat) (l : List Int) (hl : PL k f l) (t : List Bool) (ht : t.length = k) (v11 : List Int) (v16 : List (List Int)) (v17 : List Bool) (v18 : List (List Int)) (v19 : List Bool)
    (Ke : List Int → List (List Int) → List Bool → List Int → List Int → List Int → List Int → List (List Int) → List Bool → List (List Int) → List Bool → Option R) (T : Option R)
    (hT : ∀ C' : List Int, C'.length = 256 → (∀ b, b < 256 → C'.getD b 0 = ((ix (tau C N f t k) b : Nat) : Int)) → Ke C N E v11 l C' (castF (FL (tau C N f t k) 256)) v16 v17 v18 v19 = T) :
    ref11_Least_l8 kf kf Ke 0 C N E v11 l t (List.replicate 256 (0 : Int)) ([] : List Int) v16 v17 v18 v19 = T := by
  generalize hσ : tau C N f t k = σ at hT
  refine loop_all (fun kk b (acc : List Int) => ref11_Least_l8 kf kk Ke (b : Int) C N E v11 l t acc (castF (FL σ b)) v16 v17 v18 v19) T 256 400
    (fun b acc => acc.length = 256 ∧ ∀ u, u < b → acc.getD u 0 = ((ix σ u : Nat) : Int)) ?_ ?_ 256 kf 0 (List.replicate 256 (0 : Int)) (by omega) (by omega) ⟨List.length_replicate, fun u hu => by omega⟩
  · rintro kk acc ⟨h1, h2⟩
    rw [ref11_Least_l8]
    unfold ref11_Least_l8_b
    rw [decide_eq_false (show ¬ (((256 : Nat) : Int) < 256) by omega), cond_false]
    exact hT acc h1 h2
  · rintro kk b acc hB hb ⟨h1, h2⟩ hrest
    have hnf := nf_le σ b
    have hixlt := ix_lt (σ := σ) (show b < b + 1 by omega)
    have hnf2 := nf_le σ (b + 1)
    have hw : IntKind.u8.wrap ((ix σ b : Nat) : Int) = ((ix σ b : Nat) : Int) := by rw [IntKind.wrap_u8]; omega
    have hset : (acc.set b ((ix σ b : Nat) : Int)).length = 256 ∧ ∀ u, u < b + 1 → (acc.set b ((ix σ b : Nat) : Int)).getD u 0 = ((ix σ u : Nat) : Int) := by
      refine ⟨by rw [List.length_set]; exact h1, fun u hu => ?_⟩
      rw [getD_set']
      by_cases hub : b = u
      · subst hub; rw [if_pos ⟨rfl, by omega⟩]
      · rw [if_neg (fun q => hub q.1), h2 u (by omega)]
    rw [ref11_Least_l8]
    unfold ref11_Least_l8_b
    rw [decide_eq_true (show (b : Int) < 256 by omega), cond_true]
    have hl11 := fun Ke => l11_ok (R := R) h kf kk hkf (by omega) f l hl t ht b hb v11 acc v16 v17 v18 v19 Ke
    rw [hσ] at hl11
    rw [hl11]
    dsimp only
    rw [Int.toNat_natCast, hw, wi_1 b (by omega)]
    have hR := hrest _ hset
    cases hf : fstO σ b with
    | true =>
      rw [ix_fst hf, castF_len, FL_len, decide_eq_true rfl, cond_true, gdd (by rw [small_eq]; simp; omega), gdd (by omega), gdd (by omega)]
      rw [FL_succ, hf, if_pos rfl, ix_fst hf] at hR
      have hcs : castF (FL σ b) ++ [(b : Int)] = castF (FL σ b ++ [b]) := by unfold castF; simp
      rw [hcs]
      exact hR
    | false =>
      have hne : ¬ ((ix σ b : Nat) : Int) = ((nf σ b : Nat) : Int) := by
        intro q
        have hfo := (fo_spec σ b).1
        have : fo σ b ≠ b := fun z => by have := (fo_spec σ b).2.1; rw [z, hf] at this; cases this
        have := nf_lt (c := b) (fo_spec σ b).2.1 (by omega)
        unfold ix at q
        omega
      rw [castF_len, FL_len, decide_eq_false hne, cond_false, gdd (by omega), gdd (by omega)]
      rw [FL_succ, hf, if_neg (by simp), List.append_nil] at hR
      exact hR
end
end Go.Ab.T

/- The reference's least machine is the language's own form. -/
namespace Go.Ab.T
open Go Go.Ab
set_option linter.unusedVariables false
set_option linter.unusedSimpArgs false
set_option linter.unusedSectionVars false

def fnd (q : Q) : List Int := q.map fun x => (x.1 : Int)
theorem fnd_len (q : Q) : (fnd q).length = q.length := by unfold fnd; rw [List.length_map]
theorem fnd_getD {q : Q} {j : Nat} (h : j < q.length) : (fnd q).getD j 0 = ((qs q j : Nat) : Int) := by
  unfold fnd qs
  rw [List.getD_eq_getElem?_getD, List.getElem?_map, List.getD_eq_getElem?_getD, List.getElem?_eq_getElem h]; rfl
theorem fnd_snoc (q : Q) (x : Nat × List Nat) : fnd q ++ [(x.1 : Int)] = fnd (q ++ [x]) := by unfold fnd; rw [List.map_append]; rfl

def Ext (q q' : Q) : Prop := ∃ y, q' = q ++ y
theorem Ext.refl (q : Q) : Ext q q := ⟨[], (List.append_nil q).symm⟩
theorem Ext.snoc {q q' : Q} (h : Ext q q') (x : Nat × List Nat) : Ext q (q' ++ [x]) := by
  obtain ⟨y, rfl⟩ := h
  exact ⟨y ++ [x], by rw [List.append_assoc]⟩
theorem Ext.len {q q' : Q} (h : Ext q q') : q.length ≤ q'.length := by
  obtain ⟨y, rfl⟩ := h
  rw [List.length_append]; omega
theorem Ext.qs {q q' : Q} (h : Ext q q') {i : Nat} (hi : i < q.length) : T.qs q' i = T.qs q i := by
  obtain ⟨y, rfl⟩ := h
  unfold T.qs
  rw [List.getD_eq_getElem?_getD, List.getD_eq_getElem?_getD, List.getElem?_append_left hi]

/-- one state's row -/
def RowS (δ : Nat → Nat → Nat) (F : List Nat) (q : Q) (i a : Nat) (row : List Int) : Prop := row.length = a ∧ ∀ c, c < a → ∃ j, j < q.length ∧ row.getD c 0 = (j : Int) ∧ qs q j = δ (qs q i) (F.getD c 0)
theorem RowS.grow {δ : Nat → Nat → Nat} {F : List Nat} {q q' : Q} {i a : Nat} {row : List Int} (h : RowS δ F q i a row) (he : Ext q q') (hi : i < q.length) : RowS δ F q' i a row := by
  refine ⟨h.1, fun c hc => ?_⟩
  obtain ⟨j, j1, j2, j3⟩ := h.2 c hc
  have := he.len
  exact ⟨j, by omega, j2, by rw [he.qs j1, he.qs hi, j3]⟩
theorem RowS.snoc {δ : Nat → Nat → Nat} {F : List Nat} {q : Q} {i a j : Nat} {row : List Int} (h : RowS δ F q i a row) (hj : j < q.length) (he : qs q j = δ (qs q i) (F.getD a 0)) : RowS δ F q i (a + 1) (row ++ [(j : Int)]) := by
  refine ⟨by rw [List.length_append, h.1]; rfl, fun c hc => ?_⟩
  rw [snoc_getD, h.1]
  by_cases hca : c < a
  · rw [if_pos hca]; exact h.2 c hca
  · have : c = a := by omega
    subst this
    rw [if_neg hca, if_pos rfl]
    exact ⟨j, hj, rfl, he⟩

/-- where the a-th first byte stands -/
def posn (σ : Nat → List Nat) (a : Nat) : Nat := if a < nf σ 256 then (FL σ 256).getD a 0 else 256
theorem posn_spec {σ : Nat → List Nat} {a : Nat} (h : a < nf σ 256) : posn σ a = (FL σ 256).getD a 0 ∧ posn σ a < 256 ∧ fstO σ (posn σ a) = true ∧ nf σ (posn σ a) = a := by
  have hl : a < (FL σ 256).length := by rw [FL_len]; exact h
  have e : posn σ a = (FL σ 256).getD a 0 := by unfold posn; rw [if_pos h]
  obtain ⟨f1, f2⟩ := FL_mem hl
  have f3 := FL_idx 256 a hl
  rw [← e] at f1 f2 f3
  exact ⟨e, f1, f2, f3⟩
theorem posn_zero (σ : Nat → List Nat) : posn σ 0 = 0 := by
  have hf : fstO σ 0 = true := fstO_iff.2 fun u hu => by omega
  have h1 : nf σ 0 < nf σ 256 := nf_lt hf (by omega)
  have h0 : nf σ 0 = 0 := rfl
  rw [h0] at h1
  rw [(posn_spec h1).1]
  have := FL_getD σ 256 0 (by omega) hf
  rwa [h0] at this
theorem posn_gap {σ : Nat → List Nat} {a g : Nat} (h : a < nf σ 256) (h1 : posn σ a + 1 ≤ g) (h2 : g < posn σ (a + 1)) (h3 : g < 256) : fstO σ g = false := by
  cases hf : fstO σ g with
  | false => rfl
  | true =>
    obtain ⟨p1, p2, p3, p4⟩ := posn_spec h
    have q1 := nf_lt (c := g) p3 (by omega)
    by_cases h4 : a + 1 < nf σ 256
    · obtain ⟨r1, r2, r3, r4⟩ := posn_spec h4
      have := nf_lt (c := posn σ (a + 1)) hf h2
      omega
    · have := nf_lt (c := 256) hf h3
      omega
theorem posn_le {σ : Nat → List Nat} {a : Nat} (h : a < nf σ 256) : posn σ a + 1 ≤ posn σ (a + 1) := by
  obtain ⟨p1, p2, p3, p4⟩ := posn_spec h
  by_cases h4 : a + 1 < nf σ 256
  · obtain ⟨r1, r2, r3, r4⟩ := posn_spec h4
    apply Nat.succ_le_of_lt
    apply Nat.lt_of_not_le
    intro hle
    have := nf_mono σ (posn σ (a + 1)) (posn σ a - posn σ (a + 1))
    rw [show posn σ (a + 1) + (posn σ a - posn σ (a + 1)) = posn σ a by omega] at this
    omega
  · have : posn σ (a + 1) = 256 := by unfold posn; rw [if_neg h4]
    omega

noncomputable def clx (σ : Nat → List Nat) (b : Nat) : Int := ((ix σ b : Nat) : Int)
theorem clx_iff {σ : Nat → List Nat} {b b' : Nat} : clx σ b = clx σ b' ↔ σ b = σ b' := by
  unfold clx
  rw [← ix_iff (σ := σ)]
  constructor
  · intro h; omega
  · intro h; rw [h]
theorem clx_rep {σ : Nat → List Nat} {b : Nat} : isR (clx σ) b ↔ fstO σ b = true := by
  rw [fstO_iff]
  constructor
  · intro h u hu he; exact h u hu (clx_iff.2 he)
  · intro h u hu he; exact h u hu (clx_iff.1 he)

section
variable {R : Type} {C : List Int} {N : List (List Int)} {E : List Bool} {k m : Nat}

theorem l26_ok (kf k0 : Nat) (q : Q) (hq : q.length ≤ 2000) (hk0 : 2100 < k0) (t : Nat) (v91 v92 : Int) (v95 : List Int) (v96 : List (List Int)) (v97 : List Bool) (v98 v99 v100 v101 v103 : List Int) (v104 : List (List Int)) (v105 : List Bool) (v106 : List (List Int)) (v107 : List Bool)
    (Ke : Int → Int → Int → Int → List Int → List (List Int) → List Bool → List Int → List Int → List Int → List Int → List Int → List Int → List (List Int) → List Bool → List (List Int) → List Bool → Option R) (T : Option R)
    (hT : ∀ j : Nat, (j < q.length ∧ qs q j = t) ∨ (j = q.length ∧ ∀ x ∈ q, x.1 ≠ t) → Ke v91 v92 (t : Int) (j : Int) v95 v96 v97 v98 v99 v100 v101 (fnd q) v103 v104 v105 v106 v107 = T) :
    ref11_Least_l26 kf k0 v91 v92 (t : Int) v95 v96 v97 v98 v99 v100 v101 (fnd q) v103 v104 v105 v106 v107 Ke 0 = T := by
  refine loop_inv (fun kk j (_ : Unit) => ref11_Least_l26 kf kk v91 v92 (t : Int) v95 v96 v97 v98 v99 v100 v101 (fnd q) v103 v104 v105 v106 v107 Ke (j : Int)) T q.length 0 (fun j _ => ∀ i, i < j → qs q i ≠ t) ?_ ?_ q.length k0 0 () (by omega) (by omega) (fun i hi => by omega)
  · intro kk _ hno
    rw [ref11_Least_l26]
    unfold ref11_Least_l26_b
    rw [fnd_len, decide_eq_false (show ¬ ((q.length : Int) < (q.length : Int)) by omega), cond_false]
    refine hT q.length (Or.inr ⟨rfl, fun x hx he => ?_⟩)
    obtain ⟨i, hi, rfl⟩ := q_of_mem hx
    exact hno i hi he
  · intro kk j _ _ hj hno
    have hun : ref11_Least_l26 kf (kk + 1) v91 v92 (t : Int) v95 v96 v97 v98 v99 v100 v101 (fnd q) v103 v104 v105 v106 v107 Ke (j : Int) = bif (!(decide (((qs q j : Nat) : Int) = (t : Int)))) then ref11_Least_l26 kf kk v91 v92 (t : Int) v95 v96 v97 v98 v99 v100 v101 (fnd q) v103 v104 v105 v106 v107 Ke ((j + 1 : Nat) : Int) else Ke v91 v92 (t : Int) (j : Int) v95 v96 v97 v98 v99 v100 v101 (fnd q) v103 v104 v105 v106 v107 := by
      rw [ref11_Least_l26]
      unfold ref11_Least_l26_b
      rw [fnd_len, decide_eq_true (show (j : Int) < (q.length : Int) by omega), cond_true, gdd (by omega), gd_true rfl, Int.toNat_natCast, fnd_getD hj, wi_1 j (by omega)]
    by_cases he : qs q j = t
    · right
      rw [hun, decide_eq_true (show ((qs q j : Nat) : Int) = (t : Int) by omega), Bool.not_true, cond_false]
      exact hT j (Or.inl ⟨hj, he⟩)
    · left
      refine ⟨(), fun i hi => ?_, ?_⟩
      · by_cases hij : i = j
        · subst hij; exact he
        · exact hno i (by omega)
      · rw [hun, decide_eq_false (show ¬ (((qs q j : Nat) : Int) = (t : Int)) by omega), Bool.not_false, cond_true]

theorem l22_ok (h : Mch C N E k m) {f : Nat → Nat} {l : List Int} (hl : PL k f l) {σ : Nat → List Nat} (hS : Stp (dq C N f id) (Gq C N f) (clx σ) k) (kf k0 : Nat) (hk0 : 3000 < k0) (i : Nat) (q : Q) (hb : Bg (dq C N f id) (Gq C N f) (clx σ) k i 0 q) (hi : i < q.length)
    (v80 v82 : List Int) (v86 : List (List Int)) (v87 : List Bool) (v88 : List (List Int)) (v89 : List Bool)
    (Ke : Int → List Int → List (List Int) → List Bool → List Int → List Int → List Int → List Int → List Int → List Int → List (List Int) → List Bool → List (List Int) → List Bool → Option R) (T : Option R)
    (hT : ∀ (q' : Q) (row : List Int), Bg (dq C N f id) (Gq C N f) (clx σ) k i 256 q' → Ext q q' → RowS (dq C N f id) (FL σ 256) q' i (nf σ 256) row → Ke (i : Int) C N E v80 l v82 (castF (FL σ 256)) (fnd q') row v86 v87 v88 v89 = T) :
    ref11_Least_l22 kf k0 Ke (i : Int) 0 C N E v80 l v82 (castF (FL σ 256)) (fnd q) ([] : List Int) v86 v87 v88 v89 = T := by
  have hnf := nf_le σ 256
  have hN := h.nl; have hk2 := h.k2; have hl1 := hl.1
  refine loop_all (fun kk a (acc : Q × List Int) => ref11_Least_l22 kf kk Ke (i : Int) (a : Int) C N E v80 l v82 (castF (FL σ 256)) (fnd acc.1) acc.2 v86 v87 v88 v89) T (nf σ 256) 2500
    (fun a acc => Bg (dq C N f id) (Gq C N f) (clx σ) k i (posn σ a) acc.1 ∧ Ext q acc.1 ∧ RowS (dq C N f id) (FL σ 256) acc.1 i a acc.2) ?_ ?_ (nf σ 256) k0 0 (q, []) (by omega) (by omega)
    ⟨by rw [posn_zero]; exact hb, Ext.refl q, rfl, fun c hc => by omega⟩
  · rintro kk ⟨q', row⟩ ⟨h1, h2, h3⟩
    dsimp only at h1 h2 h3 ⊢
    rw [ref11_Least_l22]
    unfold ref11_Least_l22_b
    rw [castF_len, FL_len, decide_eq_false (show ¬ (((nf σ 256 : Nat) : Int) < ((nf σ 256 : Nat) : Int)) by omega), cond_false]
    have : posn σ (nf σ 256) = 256 := by unfold posn; rw [if_neg (by omega)]
    rw [this] at h1
    exact hT q' row h1 h2 h3
  · rintro kk a ⟨q', row⟩ hB ha ⟨h1, h2, h3⟩ hrest
    dsimp only at h1 h2 h3 hrest ⊢
    obtain ⟨g1, g2, g3, g4⟩ := posn_spec ha
    have hgap := fun g (z1 : posn σ a + 1 ≤ g) (z2 : g < posn σ (a + 1)) (z3 : g < 256) => posn_gap ha z1 z2 z3
    have hple := posn_le ha
    generalize hg : posn σ a = g at g1 g2 g3 g4 h1 hgap hple
    have hi' : i < q'.length := by have := h2.len; omega
    have hsz := h1.size
    obtain ⟨s1, _, _, _⟩ := h1.lt _ (q_mem hi')
    dsimp only at s1
    generalize hs : qs q' i = s at s1
    obtain ⟨c1, c2⟩ := h.cls_lt g g2
    obtain ⟨hrow, hrs⟩ := h.row s s1
    obtain ⟨x1, x2⟩ := h.row_lt s1 c1
    have hdl : dl C N s g = ((N.getD s []).getD (C.getD g 0).toNat 0).toNat := rfl
    rw [← hdl] at x1 x2
    have hdq : dq C N f id (qs q' i) g = f (dl C N s g) := by rw [hs]; rfl
    generalize hcc : (C.getD g 0).toNat = cc at c1 c2 x2
    generalize hxx : dl C N s g = x at x1 x2 hdq
    have hcl : C.length = 256 := h.cl
    rw [ref11_Least_l22]
    unfold ref11_Least_l22_b
    dsimp only
    rw [castF_len, FL_len, decide_eq_true (show (a : Int) < ((nf σ 256 : Nat) : Int) by omega), cond_true, gdd (by omega), gdd (by rw [fnd_len]; omega), Int.toNat_natCast, fnd_getD hi', hs, gdd (by omega), gdd (by omega), gdd (by omega), gd_true rfl, Int.toNat_natCast, Int.toNat_natCast, castF_getD, ← g1, gdd (by omega), gdd (by omega), Int.toNat_natCast, c2,
      gdd (by omega), gdd (by omega), Int.toNat_natCast, x2, gdd (by omega), gdd (by omega), Int.toNat_natCast, hl.2 x x1]
    refine l26_ok kf kk q' (by omega) (by omega) (f x) _ _ _ _ _ _ _ _ _ _ _ _ _ _ _ T fun j hj => ?_
    have hskip : ∀ q2, Bg (dq C N f id) (Gq C N f) (clx σ) k i (g + 1) q2 → Bg (dq C N f id) (Gq C N f) (clx σ) k i (posn σ (a + 1)) q2 := fun q2 z => z.skip _ hple fun u u1 u2 u3 u4 => by
      have := hgap u u1 u2 u3
      rw [clx_rep.1 u4] at this
      cases this
    have hrl := h3.1
    rw [wi_1 a (by omega), fnd_len]
    rcases hj with ⟨j1, j2⟩ | ⟨j1, j2⟩
    · rw [decide_eq_false (show ¬ ((j : Int) = (q'.length : Int)) by omega), cond_false, gdd (by rw [hrl, small_eq]; simp; omega)]
      exact hrest (q', row ++ [(j : Int)]) ⟨hskip _ (h1.old hS hi' g2 (clx_rep.2 g3) ⟨_, q_mem j1, by rw [hdq]; exact j2⟩), h2, h3.snoc j1 (by rw [j2, ← g1, hdq])⟩
    · subst j1
      have hnew := h1.new hS hi' g2 (clx_rep.2 g3) (by rw [hdq]; exact j2)
      rw [hdq] at hnew
      rw [decide_eq_true rfl, cond_true, gdd (by rw [small_eq]; simp; omega), gdd (by rw [hrl, small_eq]; simp; omega)]
      have hsn := fnd_snoc q' (f x, qw q' i ++ [g])
      dsimp only at hsn
      rw [hsn]
      exact hrest (q' ++ [(f x, qw q' i ++ [g])], row ++ [(q'.length : Int)]) ⟨hskip _ hnew, h2.snoc _, (h3.grow ((Ext.refl q').snoc _) hi').snoc (by rw [List.length_append]; simp) (by rw [qs_new, qs_old hi', ← g1, hdq])⟩

/-- all states -/
theorem l18_ok (h : Mch C N E k m) {f : Nat → Nat} {l : List Int} (hl : PL k f l) (hf0 : f 0 = 0) {σ : Nat → List Nat} (hS : Stp (dq C N f id) (Gq C N f) (clx σ) k) (kf : Nat) (hkf : 20000 ≤ kf) (v66 v68 : List Int) (v71 : List (List Int)) (v72 : List Bool)
    (Ke : List Int → List Int → List (List Int) → List Bool → List (List Int) → List Bool → Option R) (T : Option R)
    (hT : ∀ (q : Q) (N' : List (List Int)) (E' : List Bool), Bg (dq C N f id) (Gq C N f) (clx σ) k q.length 0 q → N'.length = q.length → (∀ c, c < q.length → RowS (dq C N f id) (FL σ 256) q c (nf σ 256) (N'.getD c [])) → E'.length = q.length → (∀ c, c < q.length → E'.getD c false = E.getD (qs q c) false) → Ke v66 v68 v71 v72 N' E' = T) :
    ref11_Least_l18 kf kf Ke 0 C N E v66 l v68 (castF (FL σ 256)) ([(0 : Int)] : List Int) v71 v72 ([] : List (List Int)) ([] : List Bool) = T := by
  have hk2 := h.k2; have hE := h.el
  refine loop_meas (fun kk (acc : Nat × Q × List (List Int) × List Bool) => ref11_Least_l18 kf kk Ke (acc.1 : Int) C N E v66 l v68 (castF (FL σ 256)) (fnd acc.2.1) v71 v72 acc.2.2.1 acc.2.2.2) T (fun acc => k + 1 - acc.1) 4000
    (fun acc => Bg (dq C N f id) (Gq C N f) (clx σ) k acc.1 0 acc.2.1 ∧ acc.2.2.1.length = acc.1 ∧ (∀ c, c < acc.1 → RowS (dq C N f id) (FL σ 256) acc.2.1 c (nf σ 256) (acc.2.2.1.getD c [])) ∧ acc.2.2.2.length = acc.1 ∧ (∀ c, c < acc.1 → acc.2.2.2.getD c false = E.getD (qs acc.2.1 c) false)) ?_ kf (0, [(0, [])], [], []) (by simp only; omega)
    ⟨Bg.start hS, rfl, fun c hc => by simp only at hc; omega, rfl, fun c hc => by simp only at hc; omega⟩
  rintro kk ⟨i, q, N', E'⟩ hB ⟨h1, h2, h3, h4, h5⟩ hrest
  dsimp only at h1 h2 h3 h4 h5 hrest ⊢
  have hsz := h1.size
  have hple := h1.ple
  rw [ref11_Least_l18]
  unfold ref11_Least_l18_b
  by_cases hi : i < q.length
  rotate_left
  · have : i = q.length := by omega
    subst this
    rw [fnd_len, decide_eq_false (show ¬ ((q.length : Int) < (q.length : Int)) by omega), cond_false]
    exact hT q N' E' h1 h2 h3 h4 h5
  rw [fnd_len, decide_eq_true (show (i : Int) < (q.length : Int) by omega), cond_true]
  refine l22_ok h hl hS kf kk (by omega) i q h1 hi _ _ _ _ _ _ _ T fun q' row r1 r2 r3 => ?_
  have hlen := r2.len
  have hi' : i < q'.length := by omega
  have hsz' := r1.size
  obtain ⟨s1, _, _, _⟩ := r1.lt _ (q_mem hi')
  dsimp only at s1
  rw [gdd (by rw [h2, small_eq]; simp; omega), gdd (by omega), gdd (by rw [fnd_len]; omega), Int.toNat_natCast, fnd_getD hi', gdd (by omega), gdd (by omega), Int.toNat_natCast, gdd (by rw [h4, small_eq]; simp; omega), wi_1 i (by omega)]
  refine hrest (i + 1, q', N' ++ [row], E' ++ [E.getD (qs q' i) false]) ⟨r1.next hi', by simp only; rw [List.length_append, h2]; rfl, fun c hc => ?_, by simp only; rw [List.length_append, h4]; rfl, fun c hc => ?_⟩ (by simp only; omega)
  · dsimp only at hc ⊢
    rw [snoc_getD, h2]
    by_cases hci : c < i
    · rw [if_pos hci]
      exact (h3 c hci).grow r2 (by omega)
    · have : c = i := by omega
      subst this
      rw [if_neg hci, if_pos rfl]
      exact r3
  · dsimp only at hc ⊢
    rw [snoc_getD, h4]
    by_cases hci : c < i
    · rw [if_pos hci, h5 c hci, r2.qs (by omega)]
    · have : c = i := by omega
      subst this
      rw [if_neg hci, if_pos rfl]
end
end Go.Ab.T

/- The reference's least machine is the language's own form; the law LeastMade. -/
namespace Go.Ab.T
open Go Go.Ab
set_option linter.unusedVariables false
set_option linter.unusedSimpArgs false
set_option linter.unusedSectionVars false

section
variable {R : Type} {C : List Int} {N : List (List Int)} {E : List Bool} {k m : Nat}

def Low (C : List Int) (N : List (List Int)) (E : List Bool) (k : Nat) (f : Nat → Nat) : Prop := ∀ s, s < k → f s ≤ s ∧ eqs C N E (f s) s ∧ ∀ t, t < k → eqs C N E t s → f s ≤ t
theorem Low.iff {f : Nat → Nat} (hf : Low C N E k f) {s t : Nat} (hs : s < k) (ht : t < k) : f s = f t ↔ eqs C N E s t := by
  obtain ⟨a1, a2, a3⟩ := hf s hs
  obtain ⟨b1, b2, b3⟩ := hf t ht
  have sym : ∀ {x y}, eqs C N E x y → eqs C N E y x := fun q v hv => (q v hv).symm
  have trans : ∀ {x y z}, eqs C N E x y → eqs C N E y z → eqs C N E x z := fun q q' v hv => (q v hv).trans (q' v hv)
  constructor
  · intro he
    rw [he] at a2
    exact trans (sym a2) b2
  · intro he
    have c1 := a3 (f t) (by omega) (trans b2 (sym he))
    have c2 := b3 (f s) (by omega) (trans a2 he)
    omega
theorem Low.pts {f : Nat → Nat} (h : Mch C N E k m) (hf : Low C N E k f) : Pts C N E k f id where
  iff := fun s t hs ht => hf.iff hs ht
  lt := fun s hs => by have := (hf s hs).1; omega
  zero := by have := (hf 0 h.k1).1; omega
  rep := fun s hs => by
    obtain ⟨a1, a2, a3⟩ := hf s hs
    have hlt : f s < k := by omega
    exact ⟨hlt, (hf.iff hlt hs).2 a2⟩
theorem Low.unique {f g : Nat → Nat} (hf : Low C N E k f) (hg : Low C N E k g) {s : Nat} (hs : s < k) : f s = g s := by
  obtain ⟨a1, a2, a3⟩ := hf s hs
  obtain ⟨b1, b2, b3⟩ := hg s hs
  have c1 := a3 (g s) (by omega) b2
  have c2 := b3 (f s) (by omega) a2
  omega

theorem J_exc {p r : Nat → Nat} {cl : Nat → Int} {q : Q} (hq : Bg (dq C N p r) (Gq C N p) cl k q.length 0 q) : ∃ J, JOk C N p r q J := by
  have : ∀ x : Nat × Nat, ∃ j, x.1 < q.length → x.2 < 256 → j < q.length ∧ qs q j = dq C N p r (qs q x.1) x.2 := by
    rintro ⟨i, b⟩
    by_cases hi : i < q.length
    · by_cases hb : b < 256
      · obtain ⟨x, hx, h1, _⟩ := hq.done i hi b hb
        obtain ⟨j, hj, rfl⟩ := q_of_mem hx
        exact ⟨j, fun _ _ => ⟨hj, h1⟩⟩
      · exact ⟨0, fun _ h => absurd h hb⟩
    · exact ⟨0, fun h => absurd h hi⟩
  obtain ⟨f, hf⟩ := Classical.axiomOfChoice this
  exact ⟨fun i b => f (i, b), fun i b hi hb => hf (i, b) hi hb⟩

theorem rleast_ok (h : Mch C N E k m) (kf : Nat) (hkf : 20000 ≤ kf) (K : List Int → List (List Int) → List Bool → Option R) (T : Option R)
    (hT : ∀ (C' : List Int) (N' : List (List Int)) (E' : List Bool) (n' m' : Nat), Canon C' N' E' n' m' → Lang C N E C' N' E' → K C' N' E' = T) : ref11_Least kf C N E K = T := by
  unfold ref11_Least ref11_Least_b
  have hk1 := h.k1
  rw [rmay_ok h kf (by omega), Bool.not_true, cond_false]
  refine rparts_ok h kf hkf _ T fun f l hl hlow => ?_
  have hlow : Low C N E k f := hlow
  have hp := hlow.pts h
  refine rreach_ok h kf hkf _ T fun t ht htr => ?_
  refine l8r_ok h kf (by omega) f l hl t ht _ _ _ _ _ _ T fun C' hC1 hC2 => ?_
  have hl0 : l.getD 0 0 = 0 := by rw [hl.2 0 hk1, hp.zero]; rfl
  rw [gdd (by rw [hl.1]; omega), hl0]
  have hcol : ∀ b b', b < 256 → b' < 256 → tau C N f t k b = tau C N f t k b' → ∀ s, s < k → rch C N s → f (dl C N s b) = f (dl C N s b') := by
    intro b b' hb hb' he s hs hr
    exact col_iff.1 he s hs ((htr s hs).2 hr)
  generalize hσ : tau C N f t k = σ at hC2 hcol
  have hS : Stp (dq C N f id) (Gq C N f) (clx σ) k := stp_q h hp (clx σ) fun P b g hG hg hb hc => by
    obtain ⟨v, hv, rfl⟩ := hG
    have hlt := h.dls_lt h.k1 hv
    rw [dq_p h hp hlt hg, dq_p h hp hlt hb]
    exact hcol g b hg hb (clx_iff.1 hc) _ hlt ⟨v, hv, rfl⟩
  refine l18_ok h hl hp.zero hS kf hkf _ _ _ _ _ T fun q N' E' hq hN' hrow hE' hends => ?_
  obtain ⟨J, hJ⟩ := J_exc hq
  have hker : Ker σ (wayN q J) 256 := by
    intro b b' hb hb'
    rw [wayN_eq]
    constructor
    · intro he i hi
      refine hq.inj_iff (hJ i b hi hb).1 (hJ i b' hi hb').1 ?_
      rw [(hJ i b hi hb).2, (hJ i b' hi hb').2]
      obtain ⟨s1, s2, _, _⟩ := hq.lt _ (q_mem hi)
      exact hS.cl _ _ _ s1 s2 hb hb' (clx_iff.2 he)
    · intro he
      rw [← hσ]
      refine col_iff.2 fun s hs hts => ?_
      obtain ⟨v, hv, rfl⟩ := (htr s hs).1 hts
      obtain ⟨i, hi, hqi, _⟩ := hq.all v.length v rfl hv
      have hrun := run_p h hp v 0 h.k1 hv
      rw [hp.zero] at hrun
      rw [hrun] at hqi
      have e1 := (hJ i b hi hb).2
      have e2 := (hJ i b' hi hb').2
      rw [hqi, dq_p h hp hs hb] at e1
      rw [hqi, dq_p h hp hs hb'] at e2
      show f (dl C N (dls C N 0 v) b) = f (dl C N (dls C N 0 v) b')
      rw [← e1, ← e2, he i hi]
  have hlaid := laid_of h hp hq hJ (C' := C') (N' := N') (E' := E') ⟨hC1, fun b hb => by rw [hC2 b hb, hker.ix hb]⟩ hN' (fun i hi => by
    obtain ⟨r1, r2⟩ := hrow i hi
    refine ⟨by rw [r1, hker.nf 256 (Nat.le_refl _)], fun g hg hfst => ?_⟩
    have hfσ : fstO σ g = true := by rw [hker.fst hg]; exact hfst
    have hlt := nf_lt (c := 256) hfσ hg
    obtain ⟨j, j1, j2, j3⟩ := r2 _ hlt
    rw [FL_getD σ 256 g hg hfσ] at j3
    rw [← hker.nf g (by omega), j2]
    have : j = J i g := hq.inj_iff j1 (hJ i g hi hg).1 (by rw [j3, (hJ i g hi hg).2])
    rw [this]) hE' hends
  obtain ⟨z1, z2⟩ := laid_canon h hp hq hlaid
  exact hT C' N' E' _ _ z1 z2

theorem sameInts_ok (kf : Nat) (l : List Int) (hs : l.length + 10 < kf) (hb : l.length ≤ 100000) (K : Bool → Option R) : law12_sameInts kf l l K = K true := by
  unfold law12_sameInts law12_sameInts_b
  rw [decide_eq_true rfl, Bool.not_true, cond_false]
  refine loop_inv (fun kk i (_ : Unit) => law12_sameInts_l4 kf kk l l (fun v6 => K v6) (K true) (i : Int)) _ l.length 0 (fun i _ => True) ?_ ?_ l.length kf 0 () (by omega) (by omega) trivial
  · intro kk _ _
    rw [law12_sameInts_l4]
    unfold law12_sameInts_l4_b
    rw [decide_eq_false (show ¬ ((l.length : Int) < (l.length : Int)) by omega), cond_false]
  · intro kk i _ _ hi _
    left
    refine ⟨(), trivial, ?_⟩
    rw [law12_sameInts_l4]
    unfold law12_sameInts_l4_b
    rw [decide_eq_true (show (i : Int) < (l.length : Int) by omega), cond_true, gdd (by omega), gd_true rfl, gdd (by omega), gd_true rfl, decide_eq_true rfl, Bool.not_true, cond_false, wi_1 i (by omega)]

theorem made_law (kf : Nat) (hkf : 20000 ≤ kf) (v1 v2 : Int) (l : List Int) (hn : 0 ≤ v1 ∧ v1 ≤ 255) (hc : 0 ≤ v2 ∧ v2 ≤ 255) (hl : ∀ x ∈ l, 0 ≤ x ∧ x ≤ 255) (K : Bool → Option R) : law12_LeastMade kf v1 v2 l K = K true := by
  unfold law12_LeastMade law12_LeastMade_b
  rw [begun_ok kf hkf, Bool.not_true, cond_false]
  by_cases hlen : 60 < (l.length : Int)
  · rw [decide_eq_true hlen, cond_true]
  rw [decide_eq_false hlen, cond_false]
  refine dfa_ok kf (by omega) v1 v2 hn hc l hl (by omega) _ _ fun C N E k m h hk8 hm4 => ?_
  refine least_ok h kf hkf _ _ fun C1 N1 E1 n1 m1 hc1 hL1 _ _ => ?_
  refine rleast_ok h kf hkf _ _ fun C2 N2 E2 n2 m2 hc2 hL2 => ?_
  obtain ⟨q1, q2, q3⟩ := hc1.unique hc2 (fun v hv => (hL1 v hv).symm.trans (hL2 v hv))
  rw [rsame_ok hc1.mch kf (by omega), decide_eq_true ⟨q1, q3, q2⟩, cond_true]
  refine lparts_ok h kf hkf _ _ fun f x hx hf => ?_
  refine rparts_ok h kf hkf _ _ fun g y hy hg => ?_
  have hf : Low C N E k f := hf
  have hg : Low C N E k g := hg
  have : x = y := ext_getD 0 (by rw [hx.1, hy.1]) fun i hi => by
    have hi' : i < k := by rw [← hx.1]; exact hi
    rw [hx.2 i hi', hy.2 i hi', hf.unique hg hi']
  subst this
  rw [sameInts_ok kf x (by rw [hx.1]; omega) (by rw [hx.1]; omega)]
end
end Go.Ab.T
