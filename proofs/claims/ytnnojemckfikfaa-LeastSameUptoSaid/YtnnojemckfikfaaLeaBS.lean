/- LeaBS: a part of the proofs of this seat's statements. -/
import Derived.Test.YtnnojemckfikfaaMacAS
import Derived.Test.YtnnojemckfikfaaLeaAS
import Derived.Test.YtnnojemckfikfaaProS
/- The reference's shortest word. -/
namespace Go.Ab.T
open Go Go.Ab
set_option linter.unusedVariables false
set_option linter.unusedSimpArgs false

/-- who waits -/
def waits (q : Q) (p : Nat) : List Int := (q.drop p).map fun x => (x.1 : Int)
theorem waits_len (q : Q) (p : Nat) : (waits q p).length = q.length - p := by unfold waits; simp
theorem waits_head {q : Q} {p : Nat} (h : p < q.length) : (waits q p).getD 0 0 = ((qs q p : Nat) : Int) := by
  unfold waits qs
  rw [List.getD_eq_getElem?_getD, List.getElem?_map, List.getElem?_drop, List.getD_eq_getElem?_getD, Nat.add_zero, List.getElem?_eq_getElem h]
  rfl
theorem waits_snoc {q : Q} {p : Nat} (h : p ≤ q.length) (x : Nat × List Nat) : waits (q ++ [x]) p = waits q p ++ [(x.1 : Int)] := by
  unfold waits
  rw [List.drop_append_of_le_length h, List.map_append]; rfl
theorem waits_tail (q : Q) (p : Nat) : (waits q p).drop 1 = waits q (p + 1) := by
  unfold waits
  rw [← List.map_drop, List.drop_drop]



section
variable {R : Type} {C : List Int} {N : List (List Int)} {E : List Bool} {k m : Nat}

theorem rep_unique {f g : Nat} (hf : isRep C f) (hg : isRep C g) (h : C.getD f 0 = C.getD g 0) : f = g := by
  rcases Nat.lt_trichotomy f g with q | q | q
  · exact absurd h (hg f q)
  · exact q
  · exact absurd h.symm (hf g q)

/-- of each class its first byte -/
theorem rfirst_ok (h : Mch C N E k m) (kf : Nat) (hkf : 1000 ≤ kf) (K : List Int → Option R) (T : Option R)
    (hT : ∀ fi : List Int, fi.length = m → (∀ b, b < 256 → ∃ f, f ≤ b ∧ isRep C f ∧ C.getD f 0 = C.getD b 0 ∧ fi.getD (C.getD b 0).toNat 0 = (f : Int)) → K fi = T) : ref9_First kf C (m : Int) K = T := by
  unfold ref9_First ref9_First_b
  have hm2 := h.m2
  rw [gdd (by omega), gdd (by omega), gdd (by rw [small_eq]; omega), Int.toNat_natCast]
  refine loop_inv (fun kk i (acc : List Int) => ref9_First_l3 kf kk C (fun v6 => K v6) (255 - (i : Int)) acc) T 256 0
    (fun i acc => acc.length = m ∧ ∀ b, 256 - i ≤ b → b < 256 → ∃ f, 256 - i ≤ f ∧ f ≤ b ∧ (∀ c, 256 - i ≤ c → c < f → C.getD c 0 ≠ C.getD f 0) ∧ C.getD f 0 = C.getD b 0 ∧ acc.getD (C.getD b 0).toNat 0 = (f : Int)) ?_ ?_ 256 kf 0 _ (by omega) (by omega)
    ⟨List.length_replicate, fun b hb hb2 => by omega⟩
  · rintro kk fi ⟨h1, h2⟩
    rw [ref9_First_l3]
    unfold ref9_First_l3_b
    rw [decide_eq_false (show ¬ ((0 : Int) ≤ 255 - ((256 : Nat) : Int)) by omega), cond_false]
    refine hT fi h1 fun b hb => ?_
    obtain ⟨f, f1, f2, f3, f4, f5⟩ := h2 b (by omega) hb
    exact ⟨f, f2, fun c hc => f3 c (by omega) hc, f4, f5⟩
  · rintro kk i acc _ hi ⟨h1, h2⟩
    left
    obtain ⟨j, hj⟩ : ∃ j, j = 255 - i := ⟨_, rfl⟩
    have hji : (255 - (i : Int)) = (j : Int) := by omega
    obtain ⟨c1, c2⟩ := h.cls_lt j (by omega)
    generalize hcc : (C.getD j 0).toNat = cc at c1 c2
    refine ⟨acc.set cc (j : Int), ⟨by rw [List.length_set]; exact h1, fun b hb hb2 => ?_⟩, ?_⟩
    · have key : (acc.set cc (j : Int)).getD (C.getD b 0).toNat 0 = if cc = (C.getD b 0).toNat ∧ (C.getD b 0).toNat < acc.length then (j : Int) else acc.getD (C.getD b 0).toNat 0 := getD_set' _ _ _ _ _
      obtain ⟨d1, d2⟩ := h.cls_lt b hb2
      by_cases hbc : cc = (C.getD b 0).toNat
      · rw [key, if_pos ⟨hbc, by omega⟩]
        exact ⟨j, by omega, by omega, fun c hc1 hc2 => by omega, by rw [c2, d2, hbc], rfl⟩
      · rw [key, if_neg (fun q => hbc q.1)]
        have hbj : b ≠ j := by rintro rfl; exact hbc hcc.symm
        obtain ⟨f, f1, f2, f3, f4, f5⟩ := h2 b (by omega) hb2
        refine ⟨f, by omega, f2, fun c hc1 hc2 => ?_, f4, f5⟩
        by_cases hcj : c = j
        · subst hcj
          rw [c2, f4, d2]
          intro hq
          exact hbc (by omega)
        · exact f3 c (by omega) hc2
    · rw [ref9_First_l3]
      unfold ref9_First_l3_b
      have hw8 : IntKind.u8.wrap (j : Int) = (j : Int) := by rw [IntKind.wrap_u8]; omega
      have hw : IntKind.i64.wrap ((j : Int) - 1) = 255 - ((i + 1 : Nat) : Int) := by rw [IntKind.wrap_i64]; omega
      rw [hji, decide_eq_true (show (0 : Int) ≤ (j : Int) by omega), cond_true, gd_true rfl, gdd (by omega), Int.toNat_natCast, c2, gdd (by omega), gdd (by omega), Int.toNat_natCast, hw8, hw]

def wdsFrom (q : Q) (p : Nat) : List (List Int) := (q.drop p).map fun x => cast x.2
theorem wdsFrom_getD {q : Q} {p i : Nat} (h : p + i < q.length) : (wdsFrom q p).getD i [] = cast (qw q (p + i)) := by
  unfold wdsFrom qw
  rw [List.getD_eq_getElem?_getD, List.getElem?_map, List.getElem?_drop, List.getD_eq_getElem?_getD, List.getElem?_eq_getElem h]
  rfl
theorem waits_getD {q : Q} {p i : Nat} (h : p + i < q.length) : (waits q p).getD i 0 = ((qs q (p + i) : Nat) : Int) := by
  unfold waits qs
  rw [List.getD_eq_getElem?_getD, List.getElem?_map, List.getElem?_drop, List.getD_eq_getElem?_getD, List.getElem?_eq_getElem h]
  rfl
theorem wdsFrom_len (q : Q) (p : Nat) : (wdsFrom q p).length = q.length - p := by unfold wdsFrom; simp
theorem wdsFrom_snoc {q : Q} {p : Nat} (h : p ≤ q.length) (x : Nat × List Nat) : wdsFrom (q ++ [x]) p = wdsFrom q p ++ [cast x.2] := by
  unfold wdsFrom
  rw [List.drop_append_of_le_length h, List.map_append]; rfl

/-- which states have been found -/
def Seen (k : Nat) (q : Q) (t : List Bool) : Prop := t.length = k ∧ ∀ s, s < k → (t.getD s false = true ↔ ∃ x ∈ q, x.1 = s)
theorem Seen.new {q : Q} {t : List Bool} (h : Seen k q t) {s : Nat} (hs : s < k) (w : List Nat) : Seen k (q ++ [(s, w)]) (t.set s true) := by
  refine ⟨by rw [List.length_set]; exact h.1, fun u hu => ?_⟩
  have key : (t.set s true).getD u false = if s = u ∧ u < t.length then true else t.getD u false := getD_set' _ _ _ _ _
  rw [key]
  by_cases hsu : s = u
  · subst hsu
    rw [if_pos ⟨rfl, by have := h.1; omega⟩]
    exact ⟨fun _ => ⟨(s, w), by simp, rfl⟩, fun _ => rfl⟩
  · rw [if_neg (fun q => hsu q.1), h.2 u hu]
    constructor
    · rintro ⟨x, hx, he⟩; exact ⟨x, List.mem_append_left _ hx, he⟩
    · rintro ⟨x, hx, he⟩
      rcases List.mem_append.1 hx with hx | hx
      · exact ⟨x, hx, he⟩
      · rw [List.mem_singleton] at hx; subst hx; exact absurd he hsu

/-- what the first bytes' table says -/
def FirstT (C : List Int) (m : Nat) (fi : List Int) : Prop := fi.length = m ∧ ∀ b, b < 256 → ∃ f, f ≤ b ∧ isRep C f ∧ C.getD f 0 = C.getD b 0 ∧ fi.getD (C.getD b 0).toNat 0 = (f : Int)

/-- one state's bytes -/
theorem rs19_ok (h : Mch C N E k m) (kf k0 : Nat) (hk : 300 < k0) (fi : List Int) (hfi : FirstT C m fi) (q0 : Q) (p e i : Nat) (he : e = q0.length) (hi : p + i < e) (hek : e ≤ k) (q : Q) (t : List Bool)
    (hb : Bfs C N E k (p + i) 0 q) (hs : Seen k q t) (hpre : ∀ j, j < e → qs q j = qs q0 j ∧ qw q j = qw q0 j) (hle : e ≤ q.length)
    (Ke : Int → (List Int) → (List (List Int)) → (List Bool) → (List Int) → (List Int) → (List (List Int)) → (List Bool) → (List Int) → (List (List Int)) → Option R) (T : Option R)
    (hT : ∀ (q' : Q) (t' : List Bool), Bfs C N E k (p + i) 256 q' → Seen k q' t' → (∀ j, j < e → qs q' j = qs q0 j ∧ qw q' j = qw q0 j) → e ≤ q'.length → Ke (i : Int) C N E fi (waits q0 p) (wdsFrom q0 p) t' (waits q' e) (wdsFrom q' e) = T) :
    ref11_Shortest_l19 kf k0 (i : Int) C N E fi (waits q0 p) (wdsFrom q0 p) Ke 0 t (waits q e) (wdsFrom q e) = T := by
  have hN := h.nl; have hm2 := h.m2; have hk2 := h.k2
  refine loop_all (fun kk b (acc : Q × List Bool) => ref11_Shortest_l19 kf kk (i : Int) C N E fi (waits q0 p) (wdsFrom q0 p) Ke (b : Int) acc.2 (waits acc.1 e) (wdsFrom acc.1 e)) T 256 0
    (fun b acc => Bfs C N E k (p + i) b acc.1 ∧ Seen k acc.1 acc.2 ∧ (∀ j, j < e → qs acc.1 j = qs q0 j ∧ qw acc.1 j = qw q0 j) ∧ e ≤ acc.1.length) ?_ ?_ 256 k0 0 (q, t) (by omega) (by omega) ⟨hb, hs, hpre, hle⟩
  · rintro kk ⟨q', t'⟩ ⟨h1, h2, h3, h4⟩
    simp only at h1 h2 h3 h4
    rw [ref11_Shortest_l19]
    unfold ref11_Shortest_l19_b
    rw [decide_eq_false (show ¬ (((256 : Nat) : Int) < 256) by omega), cond_false]
    exact hT q' t' h1 h2 h3 h4
  · rintro kk b ⟨q', t'⟩ _ hb ⟨h1, h2, h3, h4⟩ hrest
    simp only at h1 h2 h3 h4
    have hpi : p + i < q'.length := by omega
    obtain ⟨s1, s2, s3⟩ := h1.lt _ (q_mem hpi)
    simp only at s1
    have hsq := h3 (p + i) hi
    have hw0 : (waits q0 p).getD i 0 = ((qs q' (p + i) : Nat) : Int) := by rw [waits_getD (by omega), hsq.1]
    have hx0 : (wdsFrom q0 p).getD i [] = cast (qw q' (p + i)) := by rw [wdsFrom_getD (by omega), hsq.2]
    have hwl := h1.len (p + i) hpi
    have hsz := h1.size
    have hqq : qs q' (p + i) = qs q' (p + i) := rfl
    generalize hss : qs q' (p + i) = s at s1 hw0
    obtain ⟨c1, c2⟩ := h.cls_lt b hb
    have hdl : dl C N s b = ((N.getD s []).getD (C.getD b 0).toNat 0).toNat := rfl
    obtain ⟨t1, t2⟩ := h.row_lt s1 c1
    rw [← hdl] at t1 t2
    have hrow := h.row s s1
    obtain ⟨f, f1, f2, f3, f4⟩ := hfi.2 b hb
    generalize hcc : (C.getD b 0).toNat = cc at c1 c2 t2 hdl f4
    generalize htt : dl C N s b = u at t1 t2
    have hd : decide ((b : Int) < 256) = true := decide_eq_true (by omega)
    have g1 : decide (0 ≤ (b : Int)) = true := decide_eq_true (by omega)
    have g2 : decide (0 ≤ (i : Int)) = true := decide_eq_true (by omega)
    have g3 : decide ((i : Int) < ((waits q0 p).length : Int)) = true := decide_eq_true (by rw [waits_len]; omega)
    have g4 : decide (0 ≤ (s : Int)) = true := decide_eq_true (by omega)
    have g5 : decide ((s : Int) < (N.length : Int)) = true := decide_eq_true (by omega)
    have g6 : decide (0 ≤ (cc : Int)) = true := decide_eq_true (by omega)
    have g7 : decide ((cc : Int) < ((N.getD s []).length : Int)) = true := decide_eq_true (by omega)
    have g8 : decide ((cc : Int) < (fi.length : Int)) = true := decide_eq_true (by have := hfi.1; omega)
    have hwf : IntKind.i64.wrap (f : Int) = (f : Int) := wi_n f (by omega)
    have hw := wi_1 b (show b < 4000000000000000000 by omega)
    rw [ref11_Shortest_l19]
    unfold ref11_Shortest_l19_b
    rw [hd, cond_true]
    simp only [g1, hd, g2, g3, gd, cond_true, Int.toNat_natCast, hw0, g4, g5, c2, g6, g7, g8, f4, hwf, t2]
    by_cases hfb : f = b
    · subst hfb
      have gu1 : decide (0 ≤ (u : Int)) = true := decide_eq_true (by omega)
      have gu2 : decide ((u : Int) < (t'.length : Int)) = true := decide_eq_true (by have := h2.1; omega)
      simp only [decide_true, cond_true, gu1, gu2]
      cases hst : t'.getD u false with
      | true =>
        simp only [Bool.not_true, cond_false, hw]
        exact hrest (q', t') ⟨h1.old hpi hb f2 (by rw [hss, htt]; exact (h2.2 u t1).1 hst), h2, h3, h4⟩
      | false =>
        have hm' : ∀ x ∈ q', x.1 ≠ u := fun x hx he' => by
          have := (h2.2 u t1).2 ⟨x, hx, he'⟩
          rw [hst] at this; cases this
        have hnew := h1.new h hpi hb f2 (by rw [hss, htt]; exact hm')
        rw [hss, htt] at hnew
        have hw8 : IntKind.u8.wrap (f : Int) = (f : Int) := by rw [IntKind.wrap_u8]; omega
        have g9 : decide ((waits q' e).length + ([(u : Int)] : List Int).length < SMALL) = true := decide_eq_true (by rw [small_eq, waits_len]; simp; omega)
        have g10 : decide ((i : Int) < ((wdsFrom q0 p).length : Int)) = true := decide_eq_true (by rw [wdsFrom_len]; omega)
        have g11 : decide (([] : List Int).length + (cast (qw q' (p + i))).length < SMALL) = true := decide_eq_true (by rw [small_eq, cast_len]; simp; omega)
        have g12 : decide ((cast (qw q' (p + i))).length + ([(f : Int)] : List Int).length < SMALL) = true := decide_eq_true (by rw [small_eq, cast_len]; simp; omega)
        have g13 : ∀ x : List Int, decide ((wdsFrom q' e).length + ([x] : List (List Int)).length < SMALL) = true := fun x => decide_eq_true (by rw [small_eq, wdsFrom_len]; simp; omega)
        have := hrest (q' ++ [(u, qw q' (p + i) ++ [f])], t'.set u true) ⟨hnew, h2.new t1 _, fun j hj => by rw [qs_old (by omega), qw_old (by omega)]; exact h3 j hj, by simp; omega⟩
        simp only at this
        rw [waits_snoc h4, wdsFrom_snoc h4] at this
        have hcs : cast (qw q' (p + i) ++ [f]) = cast (qw q' (p + i)) ++ [(f : Int)] := by unfold cast; simp
        rw [hcs] at this
        simp only [Bool.not_false, cond_true, g9, g10, hx0, g11, List.nil_append, hw8, g12, g13, hw]
        exact this
    · have hnr : ¬ isRep C b := fun hr => hfb (rep_unique f2 hr f3)
      rw [decide_eq_false (show ¬ (f : Int) = (b : Int) by omega)]
      simp only [cond_false, hw]
      refine hrest (q', t') ⟨h1.skip (b + 1) (by omega) fun g ga gb _ => ?_, h2, h3, h4⟩
      have : g = b := by omega
      subst this
      exact hnr

theorem rs16_ok (h : Mch C N E k m) (kf k0 : Nat) (hk : k + 400 < k0) (fi : List Int) (hfi : FirstT C m fi) (q0 : Q) (p e : Nat) (he : e = q0.length) (hpe : p ≤ e) (t : List Bool)
    (hb : Bfs C N E k p 0 q0) (hs : Seen k q0 t) (hno : ∀ j, p ≤ j → j < e → en E (qs q0 j) = false)
    (Ke : (List Int) → (List (List Int)) → (List Bool) → (List Int) → (List Bool) → (List Int) → (List (List Int)) → Option R) (T : Option R)
    (hT : ∀ (q' : Q) (t' : List Bool), Bfs C N E k e 0 q' → Seen k q' t' → Ke C N E fi t' (waits q' e) (wdsFrom q' e) = T) :
    ref11_Shortest_l16 kf k0 Ke 0 C N E fi (waits q0 p) (wdsFrom q0 p) t ([] : List Int) ([] : List (List Int)) = T := by
  have hsz := hb.size
  have hw0 : waits q0 e = [] := by unfold waits; rw [he]; simp
  have hx0 : wdsFrom q0 e = [] := by unfold wdsFrom; rw [he]; simp
  have goal : ref11_Shortest_l16 kf k0 Ke ((0 : Nat) : Int) C N E fi (waits q0 p) (wdsFrom q0 p) t (waits q0 e) (wdsFrom q0 e) = T := by
    refine loop_all (fun kk i (acc : Q × List Bool) => ref11_Shortest_l16 kf kk Ke (i : Int) C N E fi (waits q0 p) (wdsFrom q0 p) acc.2 (waits acc.1 e) (wdsFrom acc.1 e)) T (e - p) 320
      (fun i acc => Bfs C N E k (p + i) 0 acc.1 ∧ Seen k acc.1 acc.2 ∧ (∀ j, j < e → qs acc.1 j = qs q0 j ∧ qw acc.1 j = qw q0 j) ∧ e ≤ acc.1.length) ?_ ?_ (e - p) k0 0 (q0, t) (by omega) (by omega) ⟨hb, hs, fun j hj => ⟨rfl, rfl⟩, Nat.le_of_eq he⟩
    · rintro kk ⟨q', t'⟩ ⟨h1, h2, h3, h4⟩
      simp only at h1 h2 h3 h4
      rw [ref11_Shortest_l16]
      unfold ref11_Shortest_l16_b
      rw [decide_eq_false (show ¬ (((e - p : Nat) : Int) < ((waits q0 p).length : Int)) by rw [waits_len]; omega), cond_false]
      exact hT q' t' (by rw [show p + (e - p) = e by omega] at h1; exact h1) h2
    · rintro kk i ⟨q', t'⟩ hB hi ⟨h1, h2, h3, h4⟩ hrest
      simp only at h1 h2 h3 h4
      rw [ref11_Shortest_l16]
      unfold ref11_Shortest_l16_b
      rw [decide_eq_true (show (i : Int) < ((waits q0 p).length : Int) by rw [waits_len]; omega), cond_true]
      refine rs19_ok h kf kk (by omega) fi hfi q0 p e i he (by omega) (by omega) q' t' h1 h2 h3 h4 _ T fun q'' t'' z1 z2 z3 z4 => ?_
      rw [wi_1 i (by have := h.k2; omega)]
      refine hrest (q'', t'') ⟨?_, z2, z3, z4⟩
      have := z1.next (by omega) (by rw [(z3 (p + i) (by omega)).1]; exact hno (p + i) (by omega) (by omega))
      rw [show p + (i + 1) = p + i + 1 by omega]
      exact this
  rw [hw0, hx0] at goal
  exact goal

theorem rshortest_ok (h : Mch C N E k m) (kf : Nat) (hkf : 20000 ≤ kf) (K : Bool → List Int → Option R) (T : Option R)
    (hT : ∀ is w, IsShort C N E k is w → K is (cast w) = T) : ref11_Shortest kf C N E K = T := by
  unfold ref11_Shortest ref11_Shortest_b
  have hk1 := h.k1; have hk2 := h.k2; have hN := h.nl; have hE := h.el
  rw [rmay_ok h kf (by omega)]
  simp only [Bool.not_true, cond_false]
  rw [rclasses_ok h kf (by omega)]
  refine rfirst_ok h kf (by omega) _ _ fun fi fi1 fi2 => ?_
  rw [gdd (by omega), gdd (by omega), gdd (by rw [small_eq]; omega), gdd (by rw [List.length_replicate]; omega), Int.toNat_natCast, hN]
  refine loop_meas (fun kk (acc : Nat × Q × List Bool) => ref11_Shortest_l7 kf kk (fun (v79 : Bool) (v80 : List Int) => K v79 v80) (K false ([] : List Int)) C N E fi (waits acc.2.1 acc.1) (wdsFrom acc.2.1 acc.1) acc.2.2) T (fun acc => k + 1 - acc.1) 6000
    (fun acc => Bfs C N E k acc.1 0 acc.2.1 ∧ Seen k acc.2.1 acc.2.2) ?_ kf (0, [(0, [])], (List.replicate k false).set 0 true) (by simp only; omega) ⟨Bfs.start hk1, ?_⟩
  · rintro kk ⟨p, q, t⟩ hB ⟨h1, h2⟩ hrest
    simp only at h1 h2 hrest ⊢
    have hsz := h1.size
    rw [ref11_Shortest_l7]
    unfold ref11_Shortest_l7_b
    by_cases hp : p < q.length
    · rw [decide_eq_true (show 0 < ((waits q p).length : Int) by rw [waits_len]; omega), cond_true]
      refine loop_all (fun kk2 i (_ : Unit) => ref11_Shortest_l9 kf kk2 C N E fi (waits q p) (wdsFrom q p) t _ _ (i : Int)) T (q.length - p) 0 (fun i _ => ∀ j, p ≤ j → j < p + i → en E (qs q j) = false) ?_ ?_ (q.length - p) kk 0 () (by omega) (by omega) (by intro j _ _; omega)
      · intro kk2 _ hno
        rw [ref11_Shortest_l9]
        unfold ref11_Shortest_l9_b
        rw [decide_eq_false (show ¬ (((q.length - p : Nat) : Int) < ((waits q p).length : Int)) by rw [waits_len]; omega), cond_false]
        dsimp only
        refine rs16_ok h kf kk (by omega) fi ⟨fi1, fi2⟩ q p q.length rfl h1.ple t h1 h2 (fun j j1 j2 => hno j j1 (by omega)) _ T fun q' t' z1 z2 => ?_
        exact hrest (q.length, q', t') ⟨z1, z2⟩ (by simp only; omega)
      · intro kk2 i _ _ hi hno hrest2
        have hpi : p + i < q.length := by omega
        obtain ⟨s1, s2, s3⟩ := h1.lt _ (q_mem hpi)
        simp only at s1 s2
        rw [ref11_Shortest_l9]
        unfold ref11_Shortest_l9_b
        rw [decide_eq_true (show (i : Int) < ((waits q p).length : Int) by rw [waits_len]; omega), cond_true, gdd (by omega), gd_true rfl, Int.toNat_natCast, waits_getD hpi, gdd (by omega), gdd (by omega), Int.toNat_natCast]
        cases hee : E.getD (qs q (p + i)) false with
        | true =>
          obtain ⟨r1, r2, r3, r4⟩ := h1.found' (p + i) (by omega) hpi (fun j j1 j2 => hno j j1 j2) hee
          rw [cond_true, gdd (by omega), gdd (by rw [wdsFrom_len]; omega), wdsFrom_getD hpi, gdd (by rw [small_eq, cast_len]; simp; omega)]
          exact hT true _ (Or.inl ⟨rfl, r1, r2, r3, r4⟩)
        | false =>
          rw [cond_false, wi_1 i (by omega)]
          refine hrest2 () fun j j1 j2 => ?_
          by_cases hji : j = p + i
          · subst hji; exact hee
          · exact hno j j1 (by omega)
    · rw [decide_eq_false (show ¬ 0 < ((waits q p).length : Int) by rw [waits_len]; omega), cond_false]
      exact hT false [] (Or.inr ⟨rfl, rfl, h1.none hp⟩)
  · refine ⟨by rw [List.length_set, List.length_replicate], fun s hs => ?_⟩
    have key : ((List.replicate k false).set 0 true).getD s false = if 0 = s ∧ s < (List.replicate k false).length then true else (List.replicate k false).getD s false := getD_set' _ _ _ _ _
    rw [key]
    by_cases h0 : 0 = s
    · subst h0
      rw [if_pos ⟨rfl, by rw [List.length_replicate]; omega⟩]
      exact ⟨fun _ => ⟨(0, []), by simp, rfl⟩, fun _ => rfl⟩
    · rw [if_neg (fun q => h0 q.1), getD_rep]
      constructor
      · intro hq; cases hq
      · rintro ⟨x, hx, hq⟩
        simp only at hx
        rw [List.mem_singleton] at hx
        subst hx
        exact absurd hq h0
end
end Go.Ab.T

/- The law LeastSame. -/
namespace Go.Ab.T
open Go Go.Ab
set_option linter.unusedVariables false
set_option linter.unusedSimpArgs false

section
variable {R : Type} {A : List Int} {NA : List (List Int)} {EA : List Bool} {ka ma : Nat} {B : List Int} {NB : List (List Int)} {EB : List Bool} {kb mb : Nat}

theorem sim_dls {C : List Int} {N : List (List Int)} {E : List Bool} {n m how : Nat} {q : PQ} (h : Mch C N E n m) (hs : Sim A NA EA ka B NB EB kb how C N E n q) :
    ∀ (v : List Nat) (i : Nat), i < n → isBy v → q.getD (dls C N i v) (0, 0) = (dls A NA (q.getD i (0, 0)).1 v, dls B NB (q.getD i (0, 0)).2 v)
  | [], i, hi, hv => rfl
  | b :: r, i, hi, hv => by
    have hb : b < 256 := hv b (List.mem_cons_self ..)
    have hr : isBy r := fun x hx => hv x (List.mem_cons_of_mem _ hx)
    show q.getD (dls C N (dl C N i b) r) (0, 0) = (dls A NA (dl A NA (q.getD i (0, 0)).1 b) r, dls B NB (dl B NB (q.getD i (0, 0)).2 b) r)
    rw [sim_dls h hs r _ (h.dl_lt hi hb) hr, hs.step i hi b hb]

theorem sim_en {C : List Int} {N : List (List Int)} {E : List Bool} {n m how : Nat} {q : PQ} (h : Mch C N E n m) (hs : Sim A NA EA ka B NB EB kb how C N E n q) {v : List Nat} (hv : isBy v) :
    en E (dls C N 0 v) = opB how (en EA (dls A NA 0 v)) (en EB (dls B NB 0 v)) := by
  rw [hs.ends _ (h.dls_lt h.k1 hv), sim_dls h hs v 0 h.k1 hv, hs.zero]

theorem same_law (kf : Nat) (hkf : 20000 ≤ kf) (v1 v2 : Int) (l : List Int) (v4 v5 : Int) (l2 : List Int) (h1 : 0 ≤ v1 ∧ v1 ≤ 255) (h2 : 0 ≤ v2 ∧ v2 ≤ 255) (hl : ∀ x ∈ l, 0 ≤ x ∧ x ≤ 255) (h4 : 0 ≤ v4 ∧ v4 ≤ 255) (h5 : 0 ≤ v5 ∧ v5 ≤ 255) (hl2 : ∀ x ∈ l2, 0 ≤ x ∧ x ≤ 255) (K : Bool → Option R) :
    law12_LeastSame kf v1 v2 l v4 v5 l2 K = K true := by
  unfold law12_LeastSame law12_LeastSame_b
  rw [begun_ok kf hkf, Bool.not_true, cond_false]
  dsimp only
  by_cases hlen : 60 < (l.length : Int)
  · rw [decide_eq_true hlen]; rfl
  rw [decide_eq_false hlen, cond_false]
  by_cases hlen2 : 60 < (l2.length : Int)
  · rw [decide_eq_true hlen2]; rfl
  rw [decide_eq_false hlen2, cond_false]
  refine dfa_ok kf (by omega) v1 v2 h1 h2 l hl (by omega) _ _ fun A NA EA ka ma hA hk8 _ => ?_
  refine dfa_ok kf (by omega) v4 v5 h4 h5 l2 hl2 (by omega) _ _ fun B NB EB kb mb hB hk8' _ => ?_
  have hab : ka * kb ≤ 64 := Nat.le_trans (Nat.mul_le_mul hk8 hk8') (by omega)
  refine product_ok hA hB hab kf (by omega) 4 (by omega) _ _ fun C N E n m q hC hn hs => ?_
  refine rshortest_ok hC kf hkf _ _ fun is w hsh => ?_
  rw [decide_eq_true rfl, cond_true]
  refine least_ok hA kf hkf _ _ fun C1 N1 E1 n1 m1 hc1 hL1 _ _ => ?_
  refine least_ok hB kf hkf _ _ fun C2 N2 E2 n2 m2 hc2 hL2 _ _ => ?_
  rw [rsame_ok hc1.mch kf (by omega)]
  have hen : ∀ v, isBy v → en E (dls C N 0 v) = !(decide (en EA (dls A NA 0 v) = en EB (dls B NB 0 v))) := fun v hv => sim_en hC hs hv
  have key : decide (C1 = C2 ∧ E1 = E2 ∧ N1 = N2) = !is := by
    rcases hsh with ⟨r1, r2, r3, r4, r5⟩ | ⟨r1, r2, r3⟩
    · rw [r1]
      apply decide_eq_false
      rintro ⟨q1, q2, q3⟩
      subst q1 q2 q3
      rw [hen w r3] at r2
      have : en EA (dls A NA 0 w) = en EB (dls B NB 0 w) := by rw [hL1 w r3, hL2 w r3]
      rw [decide_eq_true this] at r2
      cases r2
    · rw [r1]
      apply decide_eq_true
      have hL : Lang A NA EA B NB EB := fun v hv => by
        have := r3 v hv
        rw [hen v hv] at this
        exact of_decide_eq_true (by simpa using this)
      obtain ⟨q1, q2, q3⟩ := hc1.unique hc2 (hL1.symm.trans (hL.trans hL2))
      exact ⟨q1, q3, q2⟩
  rw [key, decide_eq_true rfl]
end
end Go.Ab.T
