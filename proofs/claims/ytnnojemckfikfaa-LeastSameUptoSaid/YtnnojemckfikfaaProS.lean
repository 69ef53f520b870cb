/- ProS: a part of the proofs of this seat's statements. -/
import Derived.Test.YtnnojemckfikfaaMacAS
/- Two machines at once: the reference's product. -/
namespace Go.Ab.T
open Go Go.Ab
set_option linter.unusedVariables false
set_option linter.unusedSimpArgs false

def opB (how : Nat) (x y : Bool) : Bool := if how = 1 then x && y else if how = 2 then x || y else if how = 3 then x && !y else !(decide (x = y))

/-- what the common classes are -/
structure Cls2 (A B : List Int) (cl : List Int) (F : List Nat) (c : Nat) : Prop where
  len : cl.length = 256
  le : F.length ≤ c
  get : ∀ i, i < c → ∃ j, j < F.length ∧ cl.getD i 0 = (j : Int) ∧ A.getD (F.getD j 0) 0 = A.getD i 0 ∧ B.getD (F.getD j 0) 0 = B.getD i 0
  inh : ∀ j, j < F.length → F.getD j 0 < c ∧ cl.getD (F.getD j 0) 0 = (j : Int)

section
variable {R : Type} {A : List Int} {NA : List (List Int)} {EA : List Bool} {ka ma : Nat} {B : List Int} {NB : List (List Int)} {EB : List Bool} {kb mb : Nat}


theorem p11_ok (kf k0 : Nat) (hk : 300 < k0) (F : List Nat) (i : Nat) (hi : i < 256) (hF : F.length ≤ i) (hlt : ∀ j, j < F.length → F.getD j 0 < 256) (v27 v28 : Int) (v32 : List (List Int)) (v33 : List Bool) (v35 : List (List Int)) (v36 : List Bool) (v37 v38 : List Int) (v40 : List (List Int)) (v41 : List Bool) (v42 : List (List Int)) (v43 : List Bool)
    (Ke : Int → Int → Int → Int → (List Int) → (List (List Int)) → (List Bool) → (List Int) → (List (List Int)) → (List Bool) → (List Int) → (List Int) → (List Int) → (List (List Int)) → (List Bool) → (List (List Int)) → (List Bool) → Option R) (T : Option R)
    (hT : ∀ j : Nat, (j < F.length ∧ A.getD (F.getD j 0) 0 = A.getD i 0 ∧ B.getD (F.getD j 0) 0 = B.getD i 0) ∨ j = F.length → Ke v27 v28 (i : Int) (j : Int) A v32 v33 B v35 v36 v37 v38 (castF F) v40 v41 v42 v43 = T) :
    ref11_Product_l11 kf k0 v27 v28 (i : Int) A v32 v33 B v35 v36 v37 v38 (castF F) v40 v41 v42 v43 Ke 0 = T := by
  refine loop_inv (fun kk j (_ : Unit) => ref11_Product_l11 kf kk v27 v28 (i : Int) A v32 v33 B v35 v36 v37 v38 (castF F) v40 v41 v42 v43 Ke (j : Int)) T F.length 0 (fun _ _ => True) ?_ ?_ F.length k0 0 () (by omega) (by omega) trivial
  · intro kk _ _
    rw [ref11_Product_l11]
    unfold ref11_Product_l11_b
    rw [castF_len, decide_eq_false (show ¬ ((F.length : Int) < (F.length : Int)) by omega)]
    exact hT F.length (Or.inr rfl)
  · intro kk j _ _ hj _
    have hjl := hlt j hj
    have g0 : decide (0 ≤ (j : Int)) = true := decide_eq_true (by omega)
    have g1 : decide ((j : Int) < ((castF F).length : Int)) = true := decide_eq_true (by rw [castF_len]; omega)
    have g2 : decide (0 ≤ ((F.getD j 0 : Nat) : Int)) = true := decide_eq_true (by omega)
    have g3 : decide (((F.getD j 0 : Nat) : Int) < 256) = true := decide_eq_true (by omega)
    have g4 : decide (0 ≤ (i : Int)) = true := decide_eq_true (by omega)
    have g5 : decide ((i : Int) < 256) = true := decide_eq_true (by omega)
    have hw := wi_1 j (show j < 4000000000000000000 by omega)
    by_cases h1 : A.getD (F.getD j 0) 0 = A.getD i 0
    · by_cases h2 : B.getD (F.getD j 0) 0 = B.getD i 0
      · right
        rw [ref11_Product_l11]
        unfold ref11_Product_l11_b
        simp only [g0, g1, gd, cond_true, Int.toNat_natCast, castF_getD, g2, g3, g4, g5, decide_eq_true h1, decide_eq_true h2, Bool.not_true, cond_false]
        exact hT j (Or.inl ⟨hj, h1, h2⟩)
      · left
        refine ⟨(), trivial, ?_⟩
        rw [ref11_Product_l11]
        unfold ref11_Product_l11_b
        simp only [g0, g1, gd, cond_true, Int.toNat_natCast, castF_getD, g2, g3, g4, g5, decide_eq_true h1, decide_eq_false h2, Bool.not_true, Bool.not_false, cond_false, hw]
    · left
      refine ⟨(), trivial, ?_⟩
      rw [ref11_Product_l11]
      unfold ref11_Product_l11_b
      simp only [g0, g1, gd, cond_true, Int.toNat_natCast, castF_getD, g2, g3, g4, g5, decide_eq_false h1, Bool.not_false, cond_false, hw]

theorem p8_ok (kf k0 : Nat) (hk : 700 < k0) (v11 v12 : Int) (v15 : List (List Int)) (v16 : List Bool) (v18 : List (List Int)) (v19 : List Bool) (v20 : List Int) (v23 : List (List Int)) (v24 : List Bool) (v25 : List (List Int)) (v26 : List Bool)
    (Ke : Int → Int → (List Int) → (List (List Int)) → (List Bool) → (List Int) → (List (List Int)) → (List Bool) → (List Int) → (List Int) → (List Int) → (List (List Int)) → (List Bool) → (List (List Int)) → (List Bool) → Option R) (T : Option R)
    (hT : ∀ (cl : List Int) (F : List Nat), Cls2 A B cl F 256 → Ke v11 v12 A v15 v16 B v18 v19 v20 cl (castF F) v23 v24 v25 v26 = T) :
    ref11_Product_l8 kf k0 Ke v11 v12 0 A v15 v16 B v18 v19 v20 (List.replicate 256 (0 : Int)) ([] : List Int) v23 v24 v25 v26 = T := by
  refine loop_all (fun kk c (acc : List Int × List Nat) => ref11_Product_l8 kf kk Ke v11 v12 (c : Int) A v15 v16 B v18 v19 v20 acc.1 (castF acc.2) v23 v24 v25 v26) T 256 320
    (fun c acc => Cls2 A B acc.1 acc.2 c) ?_ ?_ 256 k0 0 (List.replicate 256 (0 : Int), []) (by omega) (by omega) ⟨List.length_replicate, Nat.le_refl _, fun i hi => by omega, fun j hj => by simp at hj⟩
  · rintro kk ⟨cl, F⟩ hI
    rw [ref11_Product_l8]
    unfold ref11_Product_l8_b
    rw [decide_eq_false (show ¬ (((256 : Nat) : Int) < 256) by omega), cond_false]
    exact hT cl F hI
  · rintro kk c ⟨cl, F⟩ hB hc ⟨h1, h2, h3, h4⟩ hrest
    simp only at h1 h2 h3 h4
    rw [ref11_Product_l8]
    unfold ref11_Product_l8_b
    rw [decide_eq_true (show (c : Int) < 256 by omega), cond_true]
    refine p11_ok kf kk (by omega) F c hc h2 (fun j hj => by have := (h4 j hj).1; omega) _ _ _ _ _ _ _ _ _ _ _ _ _ T fun j hj => ?_
    have hw := wi_1 c (show c < 4000000000000000000 by omega)
    have hj256 : j ≤ c := by rcases hj with ⟨hj, _⟩ | hj <;> omega
    have hw8 : IntKind.u8.wrap (j : Int) = (j : Int) := by rw [IntKind.wrap_u8]; omega
    have g1 : decide (0 ≤ (c : Int)) = true := decide_eq_true (by omega)
    have g2 : decide ((c : Int) < 256) = true := decide_eq_true (by omega)
    have key : ∀ (i : Nat) (v : Int), (cl.set c v).getD i 0 = if c = i ∧ i < cl.length then v else cl.getD i 0 := fun i v => getD_set' cl c i v 0
    rcases hj with ⟨hj1, hj2, hj3⟩ | rfl
    · rw [castF_len, decide_eq_false (show ¬ ((j : Int) = (F.length : Int)) by omega)]
      simp only [cond_false, g1, g2, gd, cond_true, Int.toNat_natCast, hw, hw8]
      refine hrest (cl.set c (j : Int), F) ⟨by rw [List.length_set]; exact h1, by simp only; omega, fun i hi => ?_, fun a ha => ?_⟩
      · simp only [key]
        by_cases hci : c = i
        · subst hci
          exact ⟨j, hj1, by rw [if_pos ⟨rfl, by omega⟩], hj2, hj3⟩
        · rw [if_neg (fun q => hci q.1)]; exact h3 i (by omega)
      · simp only [key]
        obtain ⟨p1, p2⟩ := h4 a ha
        refine ⟨by omega, ?_⟩
        rw [if_neg (fun q => by omega)]; exact p2
    · rw [castF_len, decide_eq_true rfl]
      have g3 : decide (F.length + ([(c : Int)] : List Int).length < SMALL) = true := decide_eq_true (by rw [small_eq]; simp; omega)
      simp only [cond_true, g1, g2, g3, gd, Int.toNat_natCast, hw, hw8]
      have hcs : castF F ++ [(c : Int)] = castF (F ++ [c]) := by unfold castF; simp
      rw [hcs]
      have hsn : ∀ a, (F ++ [c]).getD a 0 = if a < F.length then F.getD a 0 else if a = F.length then c else 0 := fun a => snoc_getD F c 0 a
      refine hrest (cl.set c (F.length : Int), F ++ [c]) ⟨by rw [List.length_set]; exact h1, by simp; omega, fun i hi => ?_, fun a ha => ?_⟩
      · simp only [key]
        by_cases hci : c = i
        · subst hci
          refine ⟨F.length, by simp, by rw [if_pos ⟨rfl, by omega⟩], ?_, ?_⟩ <;> rw [hsn, if_neg (by omega), if_pos rfl]
        · rw [if_neg (fun q => hci q.1)]
          obtain ⟨a, a1, a2, a3, a4⟩ := h3 i (by omega)
          refine ⟨a, by simp; omega, a2, ?_, ?_⟩ <;> rw [hsn, if_pos a1] <;> assumption
      · simp only [key]
        rw [hsn]
        have ha' : a < F.length + 1 := by simpa using ha
        by_cases haF : a < F.length
        · rw [if_pos haF]
          obtain ⟨p1, p2⟩ := h4 a haF
          refine ⟨by omega, ?_⟩
          rw [if_neg (fun q => by omega)]; exact p2
        · rw [if_neg haF, if_pos (by omega)]
          refine ⟨by omega, ?_⟩
          rw [if_pos ⟨rfl, by omega⟩]
          omega

/-! ### pairs of states -/
abbrev PQ := List (Nat × Nat)
def pl (q : PQ) : List (List Int) := q.map fun x => [(x.1 : Int), (x.2 : Int)]
theorem pl_len (q : PQ) : (pl q).length = q.length := by unfold pl; rw [List.length_map]
theorem pl_getD {q : PQ} {i : Nat} (h : i < q.length) (d : List Int) : (pl q).getD i d = [((q.getD i (0, 0)).1 : Int), ((q.getD i (0, 0)).2 : Int)] := by
  unfold pl
  rw [List.getD_eq_getElem?_getD, List.getElem?_map, List.getD_eq_getElem?_getD, List.getElem?_eq_getElem h]
  rfl
theorem pl_snoc (q : PQ) (x : Nat × Nat) : pl (q ++ [x]) = pl q ++ [[(x.1 : Int), (x.2 : Int)]] := by unfold pl; simp
theorem pq_old {q : PQ} {x : Nat × Nat} {i : Nat} (h : i < q.length) : (q ++ [x]).getD i (0, 0) = q.getD i (0, 0) := by rw [snoc_getD, if_pos h]

/-- where a step of the i-th pair leads, by the a-th class -/
def stp (A : List Int) (NA : List (List Int)) (B : List Int) (NB : List (List Int)) (F : List Nat) (x : Nat × Nat) (a : Nat) : Nat × Nat := (dl A NA x.1 (F.getD a 0), dl B NB x.2 (F.getD a 0))
def RowOk (A : List Int) (NA : List (List Int)) (B : List Int) (NB : List (List Int)) (F : List Nat) (q : PQ) (i c : Nat) (r : List Int) : Prop :=
  r.length = c ∧ ∀ a, a < c → ∃ j, j < q.length ∧ r.getD a 0 = (j : Int) ∧ q.getD j (0, 0) = stp A NA B NB F (q.getD i (0, 0)) a
theorem RowOk.more {F : List Nat} {q : PQ} {i c : Nat} {r : List Int} (h : RowOk A NA B NB F q i c r) (hi : i < q.length) (x : Nat × Nat) : RowOk A NA B NB F (q ++ [x]) i c r := by
  refine ⟨h.1, fun a ha => ?_⟩
  obtain ⟨j, h1, h2, h3⟩ := h.2 a ha
  exact ⟨j, by simp; omega, h2, by rw [pq_old h1, pq_old hi]; exact h3⟩

structure PInv (ka kb : Nat) (q : PQ) : Prop where
  lt : ∀ j, j < q.length → (q.getD j (0, 0)).1 < ka ∧ (q.getD j (0, 0)).2 < kb
  nod : q.Nodup
  pos : 0 < q.length
  zero : q.getD 0 (0, 0) = (0, 0)
theorem PInv.size {q : PQ} (h : PInv ka kb q) : q.length ≤ ka * kb := by
  have hn : (q.map fun x => x.1 * kb + x.2).Nodup := by
    have : (q.map fun x => x.1 * kb + x.2).Pairwise (· ≠ ·) := by
      rw [List.pairwise_map]
      refine List.Pairwise.imp_of_mem ?_ h.nod
      intro x y hx hy hne heq
      obtain ⟨i, hi, hxi⟩ := List.mem_iff_getElem.1 hx
      obtain ⟨j, hj, hyj⟩ := List.mem_iff_getElem.1 hy
      have h1 := h.lt i hi
      have h2 := h.lt j hj
      rw [List.getD_eq_getElem?_getD, List.getElem?_eq_getElem hi, hxi] at h1
      rw [List.getD_eq_getElem?_getD, List.getElem?_eq_getElem hj, hyj] at h2
      simp only [Option.getD_some] at h1 h2
      apply hne
      have e1 : x.1 = y.1 := by
        have q1 : (x.1 * kb + x.2) / kb = x.1 := by
          rw [Nat.mul_comm, Nat.mul_add_div (by omega), Nat.div_eq_of_lt h1.2]; omega
        have q2 : (y.1 * kb + y.2) / kb = y.1 := by
          rw [Nat.mul_comm, Nat.mul_add_div (by omega), Nat.div_eq_of_lt h2.2]; omega
        rw [← q1, ← q2, heq]
      have e2 : x.2 = y.2 := by rw [e1] at heq; omega
      exact Prod.ext e1 e2
    exact this
  have := nodup_len' (q.map fun x => x.1 * kb + x.2) (List.range (ka * kb)) hn (fun x hx => by
    rw [List.mem_map] at hx
    obtain ⟨y, hy, rfl⟩ := hx
    obtain ⟨i, hi, hyi⟩ := List.mem_iff_getElem.1 hy
    have h1 := h.lt i hi
    rw [List.getD_eq_getElem?_getD, List.getElem?_eq_getElem hi, hyi] at h1
    simp only [Option.getD_some] at h1
    rw [List.mem_range]
    calc y.1 * kb + y.2 < y.1 * kb + kb := by omega
      _ = (y.1 + 1) * kb := by rw [Nat.succ_mul]
      _ ≤ ka * kb := Nat.mul_le_mul_right _ h1.1)
  rwa [List.length_map, List.length_range] at this
where
  nodup_len' : ∀ (l ys : List Nat), l.Nodup → (∀ x ∈ l, x ∈ ys) → l.length ≤ ys.length
    | [], ys, _, _ => Nat.zero_le _
    | a :: r, ys, hn, hs => by
      rw [List.nodup_cons] at hn
      have ha := hs a (by simp)
      have ih := nodup_len' r (ys.erase a) hn.2 fun x hx => (List.mem_erase_of_ne (fun h => hn.1 (by rw [← h]; exact hx))).2 (hs x (by simp [hx]))
      rw [List.length_erase_of_mem ha] at ih
      have := List.length_pos_of_mem ha
      rw [List.length_cons]
      omega
end
end Go.Ab.T

/- Two machines at once: the pairs, and what the product runs. -/
namespace Go.Ab.T
open Go Go.Ab
set_option linter.unusedVariables false
set_option linter.unusedSimpArgs false

section
variable {R : Type} {A : List Int} {NA : List (List Int)} {EA : List Bool} {ka ma : Nat} {B : List Int} {NB : List (List Int)} {EB : List Bool} {kb mb : Nat}

def pv (x : Nat × Nat) : List Int := [(x.1 : Int), (x.2 : Int)]
theorem pv_inj {x y : Nat × Nat} (h : pv x = pv y) : x = y := by
  unfold pv at h
  simp only [List.cons.injEq, and_true] at h
  exact Prod.ext (by omega) (by omega)

theorem p26_ok (kf k0 : Nat) (q : PQ) (hk : q.length + 2 < k0) (hq : q.length ≤ 1000000) (x : Nat × Nat) (v115 v116 v117 v118 : Int) (v120 : List Int) (v121 : List (List Int)) (v122 : List Bool) (v123 : List Int) (v124 : List (List Int)) (v125 : List Bool) (v126 v127 v128 v130 : List Int) (v132 : List (List Int)) (v133 : List Bool) (v134 : List (List Int)) (v135 : List Bool)
    (Ke : Int → Int → Int → Int → Int → (List Int) → (List (List Int)) → (List Bool) → (List Int) → (List (List Int)) → (List Bool) → (List Int) → (List Int) → (List Int) → (List (List Int)) → (List Int) → (List Int) → (List (List Int)) → (List Bool) → (List (List Int)) → (List Bool) → Option R) (T : Option R)
    (hT : ∀ j : Nat, ((j < q.length ∧ q.getD j (0, 0) = x) ∨ (j = q.length ∧ ∀ y ∈ q, y ≠ x)) → Ke v115 v116 v117 v118 (j : Int) v120 v121 v122 v123 v124 v125 v126 v127 v128 (pl q) v130 (pv x) v132 v133 v134 v135 = T) :
    ref11_Product_l26 kf k0 v115 v116 v117 v118 v120 v121 v122 v123 v124 v125 v126 v127 v128 (pl q) v130 (pv x) v132 v133 v134 v135 Ke 0 = T := by
  refine loop_inv (fun kk j (_ : Unit) => ref11_Product_l26 kf kk v115 v116 v117 v118 v120 v121 v122 v123 v124 v125 v126 v127 v128 (pl q) v130 (pv x) v132 v133 v134 v135 Ke (j : Int)) T q.length 0
    (fun j _ => ∀ i, i < j → q.getD i (0, 0) ≠ x) ?_ ?_ q.length k0 0 () (by omega) (by omega) (by intro i hi; omega)
  · intro kk _ hno
    rw [ref11_Product_l26]
    unfold ref11_Product_l26_b
    rw [pl_len, decide_eq_false (show ¬ ((q.length : Int) < (q.length : Int)) by omega), cond_false]
    refine hT q.length (Or.inr ⟨rfl, fun y hy he => ?_⟩)
    obtain ⟨i, hi, hyi⟩ := List.mem_iff_getElem.1 hy
    refine hno i hi ?_
    rw [List.getD_eq_getElem?_getD, List.getElem?_eq_getElem hi, hyi]
    exact he
  · intro kk j _ _ hj hno
    have g0 : decide (0 ≤ (j : Int)) = true := decide_eq_true (by omega)
    have g1 : decide ((j : Int) < ((pl q).length : Int)) = true := decide_eq_true (by rw [pl_len]; omega)
    have hpl : (pl q).getD j (List.replicate 2 (0 : Int)) = pv (q.getD j (0, 0)) := pl_getD hj _
    by_cases he : q.getD j (0, 0) = x
    · right
      rw [ref11_Product_l26]
      unfold ref11_Product_l26_b
      simp only [g0, g1, gd, cond_true, Int.toNat_natCast, hpl, he, decide_true, Bool.not_true, cond_false]
      exact hT j (Or.inl ⟨hj, he⟩)
    · left
      refine ⟨(), fun i hi => ?_, ?_⟩
      · by_cases hij : i = j
        · subst hij; exact he
        · exact hno i (by omega)
      · have hne : decide (pv (q.getD j (0, 0)) = pv x) = false := decide_eq_false fun h => he (pv_inj h)
        rw [ref11_Product_l26]
        unfold ref11_Product_l26_b
        simp only [g0, g1, gd, cond_true, Int.toNat_natCast, hpl, hne, Bool.not_false, wi_1 j (show j < 4000000000000000000 by omega)]

/-- one pair's row -/
theorem p22_ok (hA : Mch A NA EA ka ma) (hB : Mch B NB EB kb mb) (hab : ka * kb ≤ 64) (F : List Nat) (hF : F.length ≤ 256) (hlt : ∀ j, j < F.length → F.getD j 0 < 256) (kf k0 : Nat) (hk : 500 < k0) (q : PQ) (hq : PInv ka kb q) (i : Nat) (hi : i < q.length)
    (v96 : Int) (v106 v107 : List Int) (v111 : List (List Int)) (v112 : List Bool) (v113 : List (List Int)) (v114 : List Bool)
    (Ke : Int → Int → Int → (List Int) → (List (List Int)) → (List Bool) → (List Int) → (List (List Int)) → (List Bool) → (List Int) → (List Int) → (List Int) → (List (List Int)) → (List Int) → (List (List Int)) → (List Bool) → (List (List Int)) → (List Bool) → Option R) (T : Option R)
    (hT : ∀ (r : PQ) (row : List Int), PInv ka kb (q ++ r) → RowOk A NA B NB F (q ++ r) i F.length row → Ke v96 64 (i : Int) A NA EA B NB EB v106 v107 (castF F) (pl (q ++ r)) row v111 v112 v113 v114 = T) :
    ref11_Product_l22 kf k0 Ke v96 64 (i : Int) 0 A NA EA B NB EB v106 v107 (castF F) (pl q) ([] : List Int) v111 v112 v113 v114 = T := by
  have hNA := hA.nl; have hNB := hB.nl; have hk2 := hA.k2
  refine loop_all (fun kk a (acc : PQ × List Int) => ref11_Product_l22 kf kk Ke v96 64 (i : Int) (a : Int) A NA EA B NB EB v106 v107 (castF F) (pl (q ++ acc.1)) acc.2 v111 v112 v113 v114) T F.length 200
    (fun a acc => PInv ka kb (q ++ acc.1) ∧ RowOk A NA B NB F (q ++ acc.1) i a acc.2) ?_ ?_ F.length k0 0 ([], []) (by omega) (by omega) ⟨by simpa using hq, rfl, fun a ha => by omega⟩ |> fun h => by simpa using h
  · rintro kk ⟨r, row⟩ ⟨h1, h2⟩
    simp only at h1 h2
    rw [ref11_Product_l22]
    unfold ref11_Product_l22_b
    rw [castF_len, decide_eq_false (show ¬ ((F.length : Int) < (F.length : Int)) by omega), cond_false]
    exact hT r row h1 h2
  · rintro kk a ⟨r, row⟩ hB2 ha ⟨h1, h2⟩ hrest
    simp only at h1 h2
    have hsz := h1.size
    have hlen : (q ++ r).length = q.length + r.length := List.length_append
    have hi' : i < (q ++ r).length := by omega
    have hlti := h1.lt i hi'
    generalize hQ : q ++ r = Q at h1 h2 hsz hi' hlti
    have hFa := hlt a ha
    have hpl : (pl Q).getD i (List.replicate 2 (0 : Int)) = pv (Q.getD i (0, 0)) := pl_getD hi' _
    have hstep : stp A NA B NB F (Q.getD i (0, 0)) a = (dl A NA (Q.getD i (0, 0)).1 (F.getD a 0), dl B NB (Q.getD i (0, 0)).2 (F.getD a 0)) := rfl
    generalize hx : Q.getD i (0, 0) = x at hpl hstep hlti
    generalize hf : F.getD a 0 = f at hFa hstep
    obtain ⟨c1, c2⟩ := hA.cls_lt f hFa
    obtain ⟨d1, d2⟩ := hB.cls_lt f hFa
    have hdA : dl A NA x.1 f = ((NA.getD x.1 []).getD (A.getD f 0).toNat 0).toNat := rfl
    have hdB : dl B NB x.2 f = ((NB.getD x.2 []).getD (B.getD f 0).toNat 0).toNat := rfl
    obtain ⟨s1, s2⟩ := hA.row_lt hlti.1 c1
    obtain ⟨t1, t2⟩ := hB.row_lt hlti.2 d1
    rw [← hdA] at s1 s2
    rw [← hdB] at t1 t2
    have hrA := (hA.row x.1 hlti.1).1
    have hrB := (hB.row x.2 hlti.2).1
    generalize hca : (A.getD f 0).toNat = ca at c1 c2 s2
    generalize hcb : (B.getD f 0).toNat = cb at d1 d2 t2
    have g0 : decide (0 ≤ (i : Int)) = true := decide_eq_true (by omega)
    have g1 : decide ((i : Int) < ((pl Q).length : Int)) = true := decide_eq_true (by rw [pl_len]; omega)
    have g2 : decide (0 ≤ (x.1 : Int)) = true := decide_eq_true (by omega)
    have g3 : decide ((x.1 : Int) < (NA.length : Int)) = true := decide_eq_true (by omega)
    have g4 : decide (0 ≤ (a : Int)) = true := decide_eq_true (by omega)
    have g5 : decide ((a : Int) < ((castF F).length : Int)) = true := decide_eq_true (by rw [castF_len]; omega)
    have g6 : decide (0 ≤ (f : Int)) = true := decide_eq_true (by omega)
    have g7 : decide ((f : Int) < 256) = true := decide_eq_true (by omega)
    have g8 : decide (0 ≤ (ca : Int)) = true := decide_eq_true (by omega)
    have g9 : decide ((ca : Int) < ((NA.getD x.1 []).length : Int)) = true := decide_eq_true (by omega)
    have g10 : decide (0 ≤ (x.2 : Int)) = true := decide_eq_true (by omega)
    have g11 : decide ((x.2 : Int) < (NB.length : Int)) = true := decide_eq_true (by omega)
    have g12 : decide (0 ≤ (cb : Int)) = true := decide_eq_true (by omega)
    have g13 : decide ((cb : Int) < ((NB.getD x.2 []).length : Int)) = true := decide_eq_true (by omega)
    have g14 : decide (((pl Q).length : Int) ≤ 64) = true := decide_eq_true (by rw [pl_len]; omega)
    have p0 : (pv x).getD 0 0 = (x.1 : Int) := rfl
    have p1 : (pv x).getD 1 0 = (x.2 : Int) := rfl
    rw [ref11_Product_l22]
    unfold ref11_Product_l22_b
    simp only [hQ, g0, g1, gd, cond_true, Int.toNat_natCast, hpl, p0, p1, g2, g3, g4, g5, castF_getD, hf, g6, g7, c2, d2, g8, g9, g10, g11, g12, g13, g14, s2, t2]
    refine p26_ok kf kk Q (by omega) (by omega) (dl A NA x.1 f, dl B NB x.2 f) _ _ _ _ _ _ _ _ _ _ _ _ _ _ _ _ _ _ _ T fun j hj => ?_
    have hrl := h2.1
    have hw := wi_1 a (show a < 4000000000000000000 by omega)
    have g15 : decide (row.length + ([(j : Int)] : List Int).length < SMALL) = true := decide_eq_true (by rw [small_eq]; simp; omega)
    have hsn : ∀ c, (row ++ [(j : Int)]).getD c 0 = if c < row.length then row.getD c 0 else if c = row.length then (j : Int) else 0 := fun c => snoc_getD row _ 0 c
    rcases hj with ⟨hj1, hj2⟩ | ⟨rfl, hj2⟩
    · rw [pl_len, decide_eq_false (show ¬ ((j : Int) = (Q.length : Int)) by omega)]
      simp only [cond_false, g15, gd, cond_true, hw]
      have := hrest (r, row ++ [(j : Int)]) ⟨by simp only; rw [hQ]; exact h1, by simp [hrl], fun c hc => by
        simp only
        rw [hsn, hQ]
        by_cases hca : c < a
        · rw [if_pos (by omega)]; exact h2.2 c hca
        · rw [if_neg (by omega), if_pos (by omega)]
          have : c = a := by omega
          subst this
          exact ⟨j, hj1, rfl, by rw [hj2, hx]; unfold stp; rw [hf]⟩⟩
      simp only [hQ] at this
      exact this
    · rw [pl_len, decide_eq_true rfl]
      have g16 : decide (Q.length + ([pv (dl A NA x.1 f, dl B NB x.2 f)] : List (List Int)).length < SMALL) = true := decide_eq_true (by rw [small_eq]; simp; omega)
      have hps : pl Q ++ [pv (dl A NA x.1 f, dl B NB x.2 f)] = pl (Q ++ [(dl A NA x.1 f, dl B NB x.2 f)]) := (pl_snoc _ _).symm
      have hP : PInv ka kb (Q ++ [(dl A NA x.1 f, dl B NB x.2 f)]) := by
        refine ⟨fun c hc => ?_, ?_, by simp, by rw [pq_old h1.pos]; exact h1.zero⟩
        · rw [snoc_getD]
          by_cases hcl : c < Q.length
          · rw [if_pos hcl]; exact h1.lt c hcl
          · rw [if_neg hcl]
            have : c = Q.length := by simp at hc; omega
            rw [if_pos this]; exact ⟨s1, t1⟩
        · rw [List.nodup_append]
          refine ⟨h1.nod, by simp, fun y hy z hz => ?_⟩
          rw [List.mem_singleton] at hz
          rw [hz]; exact hj2 y hy
      simp only [cond_true, g15, g16, gd, hw, hps]
      have := hrest (r ++ [(dl A NA x.1 f, dl B NB x.2 f)], row ++ [(Q.length : Int)]) ⟨by simp only; rw [← List.append_assoc, hQ]; exact hP, by simp [hrl], fun c hc => by
        simp only
        rw [hsn, ← List.append_assoc, hQ]
        by_cases hca : c < a
        · rw [if_pos (by omega)]
          exact (h2.more hi' _).2 c hca
        · rw [if_neg (by omega), if_pos (by omega)]
          have : c = a := by omega
          subst this
          refine ⟨Q.length, by simp, rfl, ?_⟩
          rw [snoc_getD, if_neg (by omega), if_pos rfl, pq_old hi', hx]
          unfold stp; rw [hf]⟩
      simp only [← List.append_assoc, hQ] at this
      exact this
end
end Go.Ab.T

/- Two machines at once: what the reference's product is. -/
namespace Go.Ab.T
open Go Go.Ab
set_option linter.unusedVariables false
set_option linter.unusedSimpArgs false

/-- a machine that runs two at once -/
structure Sim (A : List Int) (NA : List (List Int)) (EA : List Bool) (ka : Nat) (B : List Int) (NB : List (List Int)) (EB : List Bool) (kb how : Nat) (C : List Int) (N : List (List Int)) (E : List Bool) (n : Nat) (q : PQ) : Prop where
  len : q.length = n
  zero : q.getD 0 (0, 0) = (0, 0)
  lt : ∀ i, i < n → (q.getD i (0, 0)).1 < ka ∧ (q.getD i (0, 0)).2 < kb
  step : ∀ i, i < n → ∀ b, b < 256 → q.getD (dl C N i b) (0, 0) = (dl A NA (q.getD i (0, 0)).1 b, dl B NB (q.getD i (0, 0)).2 b)
  ends : ∀ i, i < n → en E i = opB how (en EA (q.getD i (0, 0)).1) (en EB (q.getD i (0, 0)).2)

section
variable {R : Type} {A : List Int} {NA : List (List Int)} {EA : List Bool} {ka ma : Nat} {B : List Int} {NB : List (List Int)} {EB : List Bool} {kb mb : Nat}

theorem p18_ok (hA : Mch A NA EA ka ma) (hB : Mch B NB EB kb mb) (hab : ka * kb ≤ 64) (F : List Nat) (hF : F.length ≤ 256) (hlt : ∀ j, j < F.length → F.getD j 0 < 256) (kf : Nat) (hkf : 3000 ≤ kf) (how : Nat) (hh : 1 ≤ how ∧ how ≤ 4)
    (v88 v89 : List Int) (v92 : List (List Int)) (v93 : List Bool) (Ke : Int → (List Int) → (List Int) → (List (List Int)) → (List (List Int)) → (List Bool) → (List (List Int)) → (List Bool) → Option R) (T : Option R)
    (hT : ∀ (q : PQ) (N' : List (List Int)) (E' : List Bool), PInv ka kb q → N'.length = q.length → E'.length = q.length → (∀ i, i < q.length → RowOk A NA B NB F q i F.length (N'.getD i [])) →
      (∀ i, i < q.length → E'.getD i false = opB how (en EA (q.getD i (0, 0)).1) (en EB (q.getD i (0, 0)).2)) → Ke 64 v88 v89 (pl q) v92 v93 N' E' = T) :
    ref11_Product_l18 kf kf Ke (how : Int) 64 0 A NA EA B NB EB v88 v89 (castF F) (pl [(0, 0)]) v92 v93 ([] : List (List Int)) ([] : List Bool) = T := by
  have hEA := hA.el; have hEB := hB.el
  refine loop_meas (fun kk (acc : Nat × PQ × List (List Int) × List Bool) => ref11_Product_l18 kf kk Ke (how : Int) 64 (acc.1 : Int) A NA EA B NB EB v88 v89 (castF F) (pl acc.2.1) v92 v93 acc.2.2.1 acc.2.2.2) T (fun acc => 66 - acc.1) 600
    (fun acc => PInv ka kb acc.2.1 ∧ acc.1 ≤ acc.2.1.length ∧ acc.2.2.1.length = acc.1 ∧ acc.2.2.2.length = acc.1 ∧ (∀ i, i < acc.1 → RowOk A NA B NB F acc.2.1 i F.length (acc.2.2.1.getD i [])) ∧
      (∀ i, i < acc.1 → acc.2.2.2.getD i false = opB how (en EA (acc.2.1.getD i (0, 0)).1) (en EB (acc.2.1.getD i (0, 0)).2))) ?_ kf (0, [(0, 0)], [], []) (by simp only; omega)
    ⟨⟨fun j hj => by
        have : j = 0 := by simp at hj; exact hj
        subst this
        exact ⟨by have := hA.k1; simp; omega, by have := hB.k1; simp; omega⟩, by simp, by simp, rfl⟩, by simp, rfl, rfl, fun i hi => by simp at hi, fun i hi => by simp at hi⟩
  rintro kk ⟨i, q, N', E'⟩ hB2 ⟨h1, h2, h3, h4, h5, h6⟩ hrest
  simp only at h1 h2 h3 h4 h5 h6 hrest
  have hsz := h1.size
  rw [ref11_Product_l18]
  unfold ref11_Product_l18_b
  dsimp only
  by_cases hi : i < q.length
  · rw [pl_len, decide_eq_true (show (i : Int) < (q.length : Int) by omega), cond_true, decide_eq_true (show (q.length : Int) ≤ 64 by omega), cond_true]
    refine p22_ok hA hB hab F hF hlt kf kk (by omega) q h1 i hi _ _ _ _ _ _ _ _ T fun r row z1 z2 => ?_
    have hlen : (q ++ r).length = q.length + r.length := List.length_append
    have hold : ∀ j, j < q.length → (q ++ r).getD j (0, 0) = q.getD j (0, 0) := fun j hj => by
      rw [List.getD_eq_getElem?_getD, List.getD_eq_getElem?_getD, List.getElem?_append_left hj]
    have hrows : ∀ j, j < i → RowOk A NA B NB F (q ++ r) j F.length (N'.getD j []) := by
      intro j hj
      obtain ⟨r1, r2⟩ := h5 j hj
      refine ⟨r1, fun a ha => ?_⟩
      obtain ⟨c, c1, c2, c3⟩ := r2 a ha
      exact ⟨c, by omega, c2, by rw [hold c c1, hold j (by omega)]; exact c3⟩
    have hi' : i < (q ++ r).length := by omega
    have hsz' := z1.size
    have hlti := z1.lt i hi'
    have hxe : (q ++ r).getD i (0, 0) = q.getD i (0, 0) := hold i hi
    have hends : ∀ j, j < i → E'.getD j false = opB how (en EA ((q ++ r).getD j (0, 0)).1) (en EB ((q ++ r).getD j (0, 0)).2) := by
      intro j hj
      rw [hold j (by omega)]; exact h6 j hj
    generalize hQ : q ++ r = Q at z1 z2 hi' hsz' hlti hrows hends
    have hpl : (pl Q).getD i (List.replicate 2 (0 : Int)) = pv (Q.getD i (0, 0)) := pl_getD hi' _
    have hgo : ∀ b : Bool, b = opB how (en EA (Q.getD i (0, 0)).1) (en EB (Q.getD i (0, 0)).2) →
        ref11_Product_l18 kf kk Ke (how : Int) 64 ((i + 1 : Nat) : Int) A NA EA B NB EB v88 v89 (castF F) (pl Q) v92 v93 (N' ++ [row]) (E' ++ [b]) = T := by
      intro b hb
      refine hrest (i + 1, Q, N' ++ [row], E' ++ [b]) ⟨z1, by simp only; omega, by simp [h3], by simp [h4], fun j hj => ?_, fun j hj => ?_⟩ (by simp only; omega)
      · simp only
        rw [snoc_getD]
        by_cases hji : j < i
        · rw [if_pos (by omega)]; exact hrows j hji
        · rw [if_neg (by omega), if_pos (by simp only at hj; omega)]
          have : j = i := by simp only at hj; omega
          subst this; exact z2
      · simp only
        rw [snoc_getD]
        by_cases hji : j < i
        · rw [if_pos (by omega)]; exact hends j hji
        · rw [if_neg (by omega), if_pos (by simp only at hj; omega)]
          have : j = i := by simp only at hj; omega
          subst this; exact hb
    generalize hx : Q.getD i (0, 0) = x at hpl hlti hgo
    have g0 : decide (0 ≤ (i : Int)) = true := decide_eq_true (by omega)
    have g1 : decide ((i : Int) < ((pl Q).length : Int)) = true := decide_eq_true (by rw [pl_len]; omega)
    have g2 : decide (0 ≤ (x.1 : Int)) = true := decide_eq_true (by omega)
    have g3 : decide ((x.1 : Int) < (EA.length : Int)) = true := decide_eq_true (by omega)
    have g4 : decide (0 ≤ (x.2 : Int)) = true := decide_eq_true (by omega)
    have g5 : decide ((x.2 : Int) < (EB.length : Int)) = true := decide_eq_true (by omega)
    have g6 : decide (N'.length + ([row] : List (List Int)).length < SMALL) = true := decide_eq_true (by rw [small_eq]; simp; omega)
    have g7 : ∀ b : Bool, decide (E'.length + ([b] : List Bool).length < SMALL) = true := fun b => decide_eq_true (by rw [small_eq]; simp; omega)
    have p0 : (pv x).getD 0 0 = (x.1 : Int) := rfl
    have p1 : (pv x).getD 1 0 = (x.2 : Int) := rfl
    have hw := wi_1 i (show i < 4000000000000000000 by omega)
    have hea : EA.getD x.1 false = en EA x.1 := rfl
    have heb : EB.getD x.2 false = en EB x.2 := rfl
    simp only [g0, g1, gd, cond_true, Int.toNat_natCast, hpl, p0, p1, g2, g3, g4, g5, g6, hea, heb, hw]
    generalize en EA x.1 = ea at hgo
    generalize en EB x.2 = eb at hgo
    rcases (show how = 1 ∨ how = 2 ∨ how = 3 ∨ how = 4 by omega) with rfl | rfl | rfl | rfl <;> cases ea <;> cases eb <;>
      simp only [cond_true, cond_false, g7, show IntKind.i64.wrap (((1 : Nat) : Int) - 1) = 0 by decide, show IntKind.i64.wrap (((2 : Nat) : Int) - 1) = 1 by decide, show IntKind.i64.wrap (((3 : Nat) : Int) - 1) = 2 by decide, show IntKind.i64.wrap (((4 : Nat) : Int) - 1) = 3 by decide] <;>
      exact hgo _ rfl
  · rw [pl_len, decide_eq_false (show ¬ ((i : Int) < (q.length : Int)) by omega), cond_false]
    have : i = q.length := by omega
    subst this
    exact hT q N' E' h1 h3 h4 h5 h6

theorem product_ok (hA : Mch A NA EA ka ma) (hB : Mch B NB EB kb mb) (hab : ka * kb ≤ 64) (kf : Nat) (hkf : 6000 ≤ kf) (how : Nat) (hh : 1 ≤ how ∧ how ≤ 4) (K : (List Int) → Int → (List (List Int)) → (List Bool) → Option R) (T : Option R)
    (hT : ∀ (C : List Int) (N : List (List Int)) (E : List Bool) (n m : Nat) (q : PQ), Mch C N E n m → n ≤ 64 → Sim A NA EA ka B NB EB kb how C N E n q → K C 0 N E = T) :
    ref11_Product kf A NA EA B NB EB (how : Int) 64 K = T := by
  unfold ref11_Product ref11_Product_b
  rw [decide_eq_false (show ¬ ((how : Int) < 1) by omega), decide_eq_false (show ¬ ((4 : Int) < (how : Int)) by omega)]
  simp only [cond_false]
  rw [rmay_ok hA kf hkf]
  simp only [Bool.not_true, cond_false]
  rw [rmay_ok hB kf hkf]
  simp only [Bool.not_true, cond_false]
  refine p8_ok kf kf (by omega) _ _ _ _ _ _ _ _ _ _ _ _ T fun cl F hc => ?_
  obtain ⟨c1, c2, c3, c4⟩ := hc
  refine p18_ok hA hB hab F c2 (fun j hj => (c4 j hj).1) kf (by omega) how hh _ _ _ _ _ T fun q N' E' h1 h2 h3 h4 h5 => ?_
  have hsz := h1.size
  have hF1 : 1 ≤ F.length := by obtain ⟨j, hj, _⟩ := c3 0 (by omega); omega
  rw [pl_len, decide_eq_false (show ¬ ((64 : Int) < (q.length : Int)) by omega), cond_false]
  have hM : Mch cl N' E' q.length F.length := by
    refine ⟨c1, fun b hb => ?_, fun a ha => ⟨F.getD a 0, (c4 a ha).1, (c4 a ha).2⟩, h2, h3, h1.pos, by omega, hF1, c2, fun s hs => ?_⟩
    · obtain ⟨j, j1, j2, _⟩ := c3 b hb
      exact ⟨j, j1, j2⟩
    · obtain ⟨r1, r2⟩ := h4 s hs
      refine ⟨r1, fun a ha => ?_⟩
      obtain ⟨j, j1, j2, _⟩ := r2 a ha
      exact ⟨j, j1, j2⟩
  refine hT cl N' E' q.length F.length q hM (by omega) ⟨rfl, h1.zero, h1.lt, fun i hi b hb => ?_, fun i hi => h5 i hi⟩
  obtain ⟨a, a1, a2, a3, a4⟩ := c3 b hb
  obtain ⟨j, j1, j2, j3⟩ := (h4 i hi).2 a a1
  have hd : dl cl N' i b = j := by
    unfold dl
    rw [a2, Int.toNat_natCast, j2, Int.toNat_natCast]
  rw [hd, j3]
  unfold stp dl
  rw [a3, a4]
end
end Go.Ab.T
