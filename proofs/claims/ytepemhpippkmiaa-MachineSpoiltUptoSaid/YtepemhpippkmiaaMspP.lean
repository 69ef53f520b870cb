/- MchP: a part of the proofs of this seat's statements. -/
import Derived.Test.YtepemhpippkmiaaMspTA
import Derived.Laws.BitsLemmas
import Derived.Laws.BitsAllLaws
/- Plain lemmas of loops and lists. -/
namespace Go.Ab.T

/-- a loop that counts up to n: what holds at its head holds on, and at its end (or at a way out) it comes to T -/
theorem loop_inv {α R : Type} (L : Nat → Nat → α → R) (T : R) (n B : Nat) (I : Nat → α → Prop)
    (hexit : ∀ k acc, I n acc → L (k + 1) n acc = T)
    (hstep : ∀ k c acc, B ≤ k → c < n → I c acc → (∃ acc', I (c + 1) acc' ∧ L (k + 1) c acc = L k (c + 1) acc') ∨ L (k + 1) c acc = T) :
    ∀ m k c acc, c + m = n → m + B < k → I c acc → L k c acc = T
  | m, 0, c, acc, _, h, _ => by omega
  | 0, k + 1, c, acc, hc, h, hi => by
    have : c = n := by omega
    subst this
    exact hexit k acc hi
  | m + 1, k + 1, c, acc, hc, h, hi => by
    rcases hstep k c acc (by omega) (by omega) hi with ⟨acc', h1, h2⟩ | h1
    · rw [h2]
      exact loop_inv L T n B I hexit hstep m k (c + 1) acc' (by omega) (by omega) h1
    · exact h1

/-- the same, by what follows -/
theorem loop_all {α R : Type} (L : Nat → Nat → α → R) (T : R) (n B : Nat) (I : Nat → α → Prop)
    (hexit : ∀ k acc, I n acc → L (k + 1) n acc = T)
    (hstep : ∀ k c acc, B ≤ k → c < n → I c acc → (∀ acc', I (c + 1) acc' → L k (c + 1) acc' = T) → L (k + 1) c acc = T) :
    ∀ m k c acc, c + m = n → m + B < k → I c acc → L k c acc = T
  | m, 0, c, acc, _, h, _ => by omega
  | 0, k + 1, c, acc, hc, h, hi => by
    have : c = n := by omega
    subst this
    exact hexit k acc hi
  | m + 1, k + 1, c, acc, hc, h, hi =>
    hstep k c acc (by omega) (by omega) hi fun acc' h' => loop_all L T n B I hexit hstep m k (c + 1) acc' (by omega) (by omega) h'

/-- a loop with a measure -/
theorem loop_meas {α R : Type} (L : Nat → α → R) (T : R) (μ : α → Nat) (B : Nat) (I : α → Prop)
    (hstep : ∀ k acc, B ≤ k → I acc → (∀ acc', I acc' → μ acc' < μ acc → L k acc' = T) → L (k + 1) acc = T) :
    ∀ k acc, μ acc + B < k → I acc → L k acc = T
  | 0, acc, h, _ => by omega
  | k + 1, acc, h, hi => hstep k acc (by omega) hi fun acc' h' hm => loop_meas L T μ B I hstep k acc' (by omega) h'

theorem take_snoc {α : Type} (l : List α) (c : Nat) (h : c < l.length) (d : α) : l.take (c + 1) = l.take c ++ [l.getD c d] := by
  rw [List.take_add_one, List.getD_eq_getElem?_getD, List.getElem?_eq_getElem h]
  rfl
theorem getD_mem {α : Type} (l : List α) (c : Nat) (h : c < l.length) (d : α) : l.getD c d ∈ l := by
  rw [List.getD_eq_getElem?_getD, List.getElem?_eq_getElem h]
  exact List.getElem_mem h
theorem take_all {α : Type} (l : List α) : l.take l.length = l := List.take_length
theorem mem_take {α : Type} {l : List α} {c : Nat} {x : α} (h : x ∈ l.take c) : x ∈ l := List.mem_of_mem_take h
end Go.Ab.T

/- Machines: which may be, how many classes they have, and which are made of numbers. -/
namespace Go.Ab.T
open Go Go.Ab
set_option linter.unusedVariables false
set_option linter.unusedSimpArgs false

theorem gd_true {R : Type} {b : Bool} (h : b = true) (x : Option R) : gd b x = x := by subst h; rfl
theorem gdd {R : Type} {p : Prop} [Decidable p] (h : p) (x : Option R) : gd (decide p) x = x := gd_true (decide_eq_true h) x
theorem wi_n (n : Nat) (h : n < 4000000000000000000) : IntKind.i64.wrap (n : Int) = (n : Int) := by rw [IntKind.wrap_i64]; omega
theorem wi_1 (n : Nat) (h : n < 4000000000000000000) : IntKind.i64.wrap ((n : Int) + 1) = ((n + 1 : Nat) : Int) := by rw [IntKind.wrap_i64]; omega
theorem small_eq : (SMALL : Nat) = 17179869184 := rfl

/-- a machine of k states and m classes -/
structure Mch (C : List Int) (N : List (List Int)) (E : List Bool) (k m : Nat) : Prop where
  cl : C.length = 256
  clr : ∀ b, b < 256 → ∃ a : Nat, a < m ∧ C.getD b 0 = (a : Int)
  inh : ∀ a, a < m → ∃ b, b < 256 ∧ C.getD b 0 = (a : Int)
  nl : N.length = k
  el : E.length = k
  k1 : 1 ≤ k
  k2 : k ≤ 2000
  m1 : 1 ≤ m
  m2 : m ≤ 256
  row : ∀ s, s < k → (N.getD s []).length = m ∧ ∀ a, a < m → ∃ t : Nat, t < k ∧ (N.getD s []).getD a 0 = (t : Int)

def mxTo (C : List Int) : Nat → Int
  | 0 => C.getD 0 0
  | c + 1 => mx (mxTo C c) (C.getD (c + 1) 0)

section
variable {R : Type} {C : List Int} {N : List (List Int)} {E : List Bool} {k m : Nat}

theorem Mch.mx_le (h : Mch C N E k m) : ∀ c, c < 256 → 0 ≤ mxTo C c ∧ mxTo C c ≤ ((m - 1 : Nat) : Int) ∧ ∀ b, b ≤ c → C.getD b 0 ≤ mxTo C c := by
  intro c
  induction c with
  | zero =>
    intro hc
    obtain ⟨a, h1, h2⟩ := h.clr 0 hc
    refine ⟨by simp only [mxTo]; omega, by simp only [mxTo]; omega, fun b hb => ?_⟩
    have : b = 0 := by omega
    subst this; exact Int.le_refl _
  | succ c ih =>
    intro hc
    obtain ⟨a, h1, h2⟩ := h.clr (c + 1) hc
    obtain ⟨q1, q2, q3⟩ := ih (by omega)
    simp only [mxTo, mx]
    refine ⟨by split <;> omega, by split <;> omega, fun b hb => ?_⟩
    by_cases hbc : b = c + 1
    · subst hbc; split <;> omega
    · have := q3 b (by omega)
      split <;> omega
theorem Mch.mx_eq (h : Mch C N E k m) : mxTo C 255 = ((m - 1 : Nat) : Int) := by
  obtain ⟨q1, q2, q3⟩ := h.mx_le 255 (by omega)
  have hm1 := h.m1
  obtain ⟨b, h1, h2⟩ := h.inh (m - 1) (by omega)
  have := q3 b (by omega)
  omega

theorem max_ok (h : Mch C N E k m) (kf : Nat) (hkf : 3000 ≤ kf) (K : Int → Option R) : slices_Max_uint8_uint8 kf C K = K ((m - 1 : Nat) : Int) := by
  unfold slices_Max_uint8_uint8 slices_Max_uint8_uint8_b
  have hl := h.cl
  rw [decide_eq_false (show ¬ ((C.length : Int) < 1) by omega)]
  simp only [cond_false]
  rw [gdd (by omega)]
  refine loop_inv (fun kk c acc => slices_Max_uint8_uint8_l5 kf kk C (fun v5 => K v5) acc (c : Int)) _ 256 0 (fun c acc => 1 ≤ c ∧ acc = mxTo C (c - 1)) ?_ ?_ 255 kf 1 (C.getD 0 0) (by omega) (by omega) ⟨by omega, rfl⟩
  · rintro kk acc ⟨_, rfl⟩
    have hd : decide (((256 : Nat) : Int) < (C.length : Int)) = false := decide_eq_false (by omega)
    simp only [slices_Max_uint8_uint8_l5, slices_Max_uint8_uint8_l5_b, hd, cond_false]
    rw [h.mx_eq]
  · rintro kk c acc _ hc ⟨h1, rfl⟩
    left
    have hd : decide ((c : Int) < (C.length : Int)) = true := decide_eq_true (by omega)
    have g1 : decide (0 ≤ (c : Int)) = true := decide_eq_true (by omega)
    refine ⟨mx (mxTo C (c - 1)) (C.getD c 0), ⟨by omega, ?_⟩, ?_⟩
    · obtain ⟨d, rfl⟩ : ∃ d, c = d + 1 := ⟨c - 1, by omega⟩
      rfl
    · simp only [slices_Max_uint8_uint8_l5, slices_Max_uint8_uint8_l5_b, hd, g1, gd, cond_true, Int.toNat_natCast, wi_1 c (show c < 4000000000000000000 by omega)]

theorem classes_ok (h : Mch C N E k m) (kf : Nat) (hkf : 3000 ≤ kf) (K : Int → Option R) : machine_classes kf C N E K = K (m : Int) := by
  unfold machine_classes machine_classes_b
  rw [max_ok h kf hkf]
  have := h.m1; have := h.m2
  have e : IntKind.i64.wrap (IntKind.i64.wrap ((m - 1 : Nat) : Int) + 1) = (m : Int) := by
    simp only [IntKind.wrap_i64]; omega
  rw [e]

theorem contains_ok (kf : Nat) (hkf : 3000 ≤ kf) (l : List Int) (hl : l.length ≤ 256) (hr : ∀ a, a < l.length → ∃ t : Nat, t < k ∧ l.getD a 0 = (t : Int)) (K : Bool → Int → Option R) :
    slices_ContainsFunc_int_int kf l (k : Int) K = K false (k : Int) := by
  unfold slices_ContainsFunc_int_int slices_ContainsFunc_int_int_b slices_IndexFunc_int_int slices_IndexFunc_int_int_b
  refine loop_inv (fun kk c (_ : Unit) => slices_IndexFunc_int_int_l2 kf kk l (l.length : Int) (fun (v9 : Int) (v10 : Int) => K (decide (0 ≤ v9)) v10) (fun (v11 : Int) => K (decide (0 ≤ (-1 : Int))) v11) (c : Int) (k : Int)) _ l.length 0 (fun _ _ => True) ?_ ?_ l.length kf 0 () (by omega) (by omega) trivial
  · intro kk _ _
    have hd : decide ((l.length : Int) < (l.length : Int)) = false := decide_eq_false (by omega)
    simp only [slices_IndexFunc_int_int_l2, slices_IndexFunc_int_int_l2_b, hd, cond_false]
    rfl
  · intro kk c _ _ hc _
    left
    refine ⟨(), trivial, ?_⟩
    obtain ⟨t, h1, h2⟩ := hr c hc
    have hd : decide ((c : Int) < (l.length : Int)) = true := decide_eq_true (by omega)
    have g1 : decide (0 ≤ (c : Int)) = true := decide_eq_true (by omega)
    have g2 : decide ((t : Int) < 0) = false := decide_eq_false (by omega)
    have g3 : decide ((k : Int) ≤ (t : Int)) = false := decide_eq_false (by omega)
    simp only [slices_IndexFunc_int_int_l2, slices_IndexFunc_int_int_l2_b, machine_May_1, machine_May_1_b, hd, g1, gd, cond_true, cond_false, Int.toNat_natCast, h2, g2, g3, wi_1 c (show c < 4000000000000000000 by omega)]

theorem may_ok (h : Mch C N E k m) (kf : Nat) (hkf : 3000 ≤ kf) (K : Bool → Option R) : machine_May kf C N E K = K true := by
  unfold machine_May machine_May_b
  have hn := h.nl; have he := h.el; have hk1 := h.k1; have hk2 := h.k2
  rw [decide_eq_false (show ¬ ((N.length : Int) < 1) by omega), decide_eq_false (show ¬ (2000 < (N.length : Int)) by omega), decide_eq_true (show (E.length : Int) = (N.length : Int) by omega)]
  simp only [cond_false, Bool.not_true]
  rw [classes_ok h kf hkf, hn]
  refine loop_inv (fun kk c (_ : Unit) => machine_May_l6 kf kk (m : Int) N (k : Int) (fun (v16 : Bool) => K v16) (K true) (c : Int) (k : Int)) _ k 0 (fun _ _ => True) ?_ ?_ k kf 0 () (by omega) (by omega) trivial
  · intro kk _ _
    have hd : decide ((k : Int) < (k : Int)) = false := decide_eq_false (by omega)
    simp only [machine_May_l6, machine_May_l6_b, hd, cond_false]
  · intro kk c _ _ hc _
    left
    refine ⟨(), trivial, ?_⟩
    obtain ⟨h1, h2⟩ := h.row c hc
    have hd : decide ((c : Int) < (k : Int)) = true := decide_eq_true (by omega)
    have hd2 : decide ((c : Int) < (N.length : Int)) = true := decide_eq_true (by omega)
    have g1 : decide (0 ≤ (c : Int)) = true := decide_eq_true (by omega)
    have hm2 := h.m2
    have hc2 := contains_ok (R := R) (k := k) kf hkf (N.getD c []) (by omega) (by rw [h1]; exact h2)
    have hlen : decide (((N.getD c []).length : Int) = (m : Int)) = true := decide_eq_true (by omega)
    simp only [machine_May_l6, machine_May_l6_b, hd, hd2, g1, gd, cond_true, Int.toNat_natCast, hlen, Bool.not_true, cond_false, hc2, wi_1 c (show c < 4000000000000000000 by omega)]

/-! ### the reference's -/
end

/-! ### machines made of numbers -/
def clsOf (m b : Nat) : Nat := if 97 ≤ b ∧ b < 97 + m then b - 97 else b % 7 % m

/-- the next number -/
theorem num_ok {R : Type} (q : Nat) (hq : 1 ≤ q) (l : List Int) (hl : ∀ x ∈ l, 0 ≤ x ∧ x ≤ 255) (hll : l.length ≤ 1000000) (p : Nat) (hp : p ≤ 10000000) :
    ∃ (t p' : Nat), t < q ∧ p' ≤ p + 1 ∧ ∀ (K : Int → List Int → Int → Option R), play_Picks_num (q : Int) l (p : Int) K = K (t : Int) l (p' : Int) := by
  by_cases h : (l.length : Int) ≤ (p : Int)
  · refine ⟨0, p, by omega, by omega, fun K => ?_⟩
    unfold play_Picks_num play_Picks_num_b
    rw [decide_eq_true h]; rfl
  · have hw : IntKind.i64.wrap ((p : Int) + 1) = ((p + 1 : Nat) : Int) := wi_1 p (by omega)
    have hw2 : IntKind.i64.wrap (((p + 1 : Nat) : Int) - 1) = (p : Int) := by rw [IntKind.wrap_i64]; omega
    have hx := hl _ (getD_mem l p (by omega) 0)
    have hw3 : IntKind.i64.wrap (l.getD p 0) = l.getD p 0 := by rw [IntKind.wrap_i64]; omega
    have hr1 := Int.tmod_nonneg (q : Int) hx.1
    have hr2 := Int.tmod_lt_of_pos (l.getD p 0) (show (0 : Int) < (q : Int) by omega)
    obtain ⟨t, ht⟩ := Int.eq_ofNat_of_zero_le hr1
    refine ⟨t, p + 1, by omega, by omega, fun K => ?_⟩
    unfold play_Picks_num play_Picks_num_b
    rw [decide_eq_false h]
    simp only [cond_false, hw, hw2]
    rw [gdd (by omega), gdd (by omega), gdd (by omega), Int.toNat_natCast, hw3, ht]

theorem row16_ok {R : Type} (kf k0 : Nat) (l : List Int) (hl : ∀ x ∈ l, 0 ≤ x ∧ x ≤ 255) (hll : l.length ≤ 1000000) (q m : Nat) (hq : 1 ≤ q) (hm : m ≤ 256) (hk : m < k0) (v44 : Int) (v46 v49 : List Int) (v51 : List (List Int)) (v52 : List Bool) (v53 : List (List Int)) (v54 : List Bool)
    (Ke : Int → Int → Int → (List Int) → (List Int) → Int → (List Int) → (List Int) → (List (List Int)) → (List Bool) → (List (List Int)) → (List Bool) → Option R) (p : Nat) (hp : p ≤ 1000000) (T : Option R)
    (hT : ∀ (p' : Nat) (r : List Int), p' ≤ p + m → r.length = m → (∀ a, a < m → ∃ t : Nat, t < q ∧ r.getD a 0 = (t : Int)) → Ke (q : Int) (m : Int) v44 v46 l (p' : Int) v49 r v51 v52 v53 v54 = T) :
    play_Dfa_l16 kf k0 (q : Int) (m : Int) v44 v46 v49 v51 v52 v53 v54 Ke 0 l (p : Int) [] = T := by
  refine loop_inv (fun kk a (acc : Nat × List Int) => play_Dfa_l16 kf kk (q : Int) (m : Int) v44 v46 v49 v51 v52 v53 v54 Ke (a : Int) l (acc.1 : Int) acc.2) T m 0
    (fun a acc => acc.1 ≤ p + a ∧ acc.2.length = a ∧ (∀ i, i < a → ∃ t : Nat, t < q ∧ acc.2.getD i 0 = (t : Int)) ∧ a ≤ m) ?_ ?_ m k0 0 (p, []) (by omega) (by omega) ⟨by simp, rfl, fun i hi => by omega, by omega⟩
  · rintro kk ⟨p', r⟩ ⟨h1, h2, h3, _⟩
    have hd : decide ((m : Int) < (m : Int)) = false := decide_eq_false (by omega)
    simp only [play_Dfa_l16, play_Dfa_l16_b, hd, cond_false]
    exact hT p' r h1 h2 h3
  · rintro kk a ⟨p', r⟩ _ ha ⟨h1, h2, h3, _⟩
    simp only at h1 h2 h3
    have hd : decide ((a : Int) < (m : Int)) = true := decide_eq_true (by omega)
    obtain ⟨t, p'', q1, q2, q3⟩ := num_ok (R := R) q hq l hl hll p' (by omega)
    left
    refine ⟨(p'', r ++ [(t : Int)]), ⟨by simp only; omega, by simp [h2], ?_, by omega⟩, ?_⟩
    · intro i hi
      by_cases hia : i < a
      · obtain ⟨t', z1, z2⟩ := h3 i hia
        refine ⟨t', z1, ?_⟩
        simp only
        rw [List.getD_eq_getElem?_getD, List.getElem?_append_left (by omega), ← List.getD_eq_getElem?_getD, z2]
      · have : i = a := by omega
        subst this
        refine ⟨t, q1, ?_⟩
        simp only
        rw [List.getD_eq_getElem?_getD, List.getElem?_append_right (by omega), h2, Nat.sub_self]
        rfl
    · simp only [play_Dfa_l16, play_Dfa_l16_b, hd, cond_true]
      rw [q3, gdd (by show _ < 17179869184; simp; omega), wi_1 a (by omega)]

theorem snoc_getD {α : Type} (l : List α) (x d : α) (i : Nat) : (l ++ [x]).getD i d = if i < l.length then l.getD i d else if i = l.length then x else d := by
  rw [List.getD_eq_getElem?_getD, List.getD_eq_getElem?_getD]
  by_cases h : i < l.length
  · rw [if_pos h, List.getElem?_append_left h]
  · rw [if_neg h, List.getElem?_append_right (by omega)]
    by_cases h2 : i = l.length
    · rw [if_pos h2, h2, Nat.sub_self]; rfl
    · rw [if_neg h2, List.getElem?_eq_none (by simp; omega)]; rfl

theorem cls_mod (m : Nat) (hm1 : 1 ≤ m) (b : Nat) : clsOf m b < m := by
  unfold clsOf
  split
  · omega
  · exact Nat.mod_lt _ hm1

theorem dfa_ok {R : Type} (kf : Nat) (hkf : 3000 ≤ kf) (n c : Int) (hn : 0 ≤ n ∧ n ≤ 255) (hc : 0 ≤ c ∧ c ≤ 255) (l : List Int) (hl : ∀ x ∈ l, 0 ≤ x ∧ x ≤ 255) (hll : l.length ≤ 100) (K : (List Int) → (List (List Int)) → (List Bool) → Option R) (T : Option R)
    (hT : ∀ (C : List Int) (N : List (List Int)) (E : List Bool) (k m : Nat), Mch C N E k m → k ≤ 8 → m ≤ 4 → K C N E = T) : play_Dfa kf n c l K = T := by
  obtain ⟨n, rfl⟩ := Int.eq_ofNat_of_zero_le hn.1
  obtain ⟨c, rfl⟩ := Int.eq_ofNat_of_zero_le hc.1
  unfold play_Dfa play_Dfa_b play_Made play_Made_b
  have e1 : IntKind.i64.wrap (1 + IntKind.i64.wrap (Int.tmod (n : Int) 8)) = ((1 + n % 8 : Nat) : Int) := by
    rw [Int.tmod_eq_emod_of_nonneg (by omega)]; simp only [IntKind.wrap_i64]; omega
  have e2 : IntKind.i64.wrap (1 + IntKind.i64.wrap (Int.tmod (c : Int) 4)) = ((1 + c % 4 : Nat) : Int) := by
    rw [Int.tmod_eq_emod_of_nonneg (by omega)]; simp only [IntKind.wrap_i64]; omega
  rw [e1, e2]
  obtain ⟨k, hk⟩ : ∃ k, k = 1 + n % 8 := ⟨_, rfl⟩
  obtain ⟨m, hm⟩ : ∃ m, m = 1 + c % 4 := ⟨_, rfl⟩
  rw [← hk, ← hm]
  have hk8 : 1 ≤ k ∧ k ≤ 8 := by omega
  have hm4 : 1 ≤ m ∧ m ≤ 4 := by omega
  clear hk hm e1 e2
  refine loop_inv (fun kk b (acc : List Int) => play_Dfa_l5 kf kk (k : Int) (m : Int) (List.replicate 256 (0 : Int)) l 0 ([] : List (List Int)) ([] : List Bool) ([] : List (List Int)) ([] : List Bool) _ (b : Int) acc) T 256 0
    (fun b acc => acc.length = 256 ∧ ∀ i, i < b → acc.getD i 0 = ((clsOf m i : Nat) : Int)) ?_ ?_ 256 kf 0 (List.replicate 256 (0 : Int)) (by omega) (by omega) ⟨List.length_replicate, fun i hi => by omega⟩
  · rintro kk C ⟨h1, h2⟩
    simp only [play_Dfa_l5, play_Dfa_l5_b, show decide (((256 : Nat) : Int) < 256) = false from rfl, cond_false]
    refine loop_all (fun kk s (acc : Nat × List (List Int) × List Bool) => play_Dfa_l12 kf kk (fun (v73 : (List Int)) (v74 : (List Int)) (v75 : (List (List Int))) (v76 : (List Bool)) (v77 : (List (List Int))) (v78 : (List Bool)) => K v74 v77 v78) (k : Int) (m : Int) (s : Int) (List.replicate 256 (0 : Int)) l (acc.1 : Int) C ([] : List (List Int)) ([] : List Bool) acc.2.1 acc.2.2) T k 100
      (fun s acc => acc.1 ≤ 20 * s ∧ acc.2.1.length = s ∧ acc.2.2.length = s ∧ s ≤ k ∧ ∀ i, i < s → (acc.2.1.getD i []).length = m ∧ ∀ a, a < m → ∃ t : Nat, t < k ∧ (acc.2.1.getD i []).getD a 0 = (t : Int)) ?_ ?_ k kf 0 (0, [], []) (by omega) (by omega)
      ⟨by simp, rfl, rfl, by omega, fun i hi => by omega⟩
    · rintro kk ⟨p, N, E⟩ ⟨q1, q2, q3, _, q4⟩
      simp only at q1 q2 q3 q4
      have hd : decide ((k : Int) < (k : Int)) = false := decide_eq_false (by omega)
      simp only [play_Dfa_l12, play_Dfa_l12_b, hd, cond_false]
      refine hT C N E k m ⟨h1, fun b hb => ⟨clsOf m b, cls_mod m hm4.1 b, h2 b hb⟩, fun a ha => ⟨97 + a, by omega, ?_⟩, q2, q3, hk8.1, by omega, hm4.1, by omega, q4⟩ hk8.2 hm4.2
      rw [h2 _ (by omega)]
      unfold clsOf
      rw [if_pos (by omega)]
      omega
    · rintro kk s ⟨p, N, E⟩ hB hs ⟨q1, q2, q3, _, q4⟩ hrest
      simp only at q1 q2 q3 q4
      have hd : decide ((s : Int) < (k : Int)) = true := decide_eq_true (by omega)
      have hw := wi_1 s (by omega)
      -- a row, then whether it ends
      have main : ∀ (T' : Option R), (∀ (p' : Nat) (r : List Int) (e : Bool), p' ≤ 20 * (s + 1) → r.length = m → (∀ a, a < m → ∃ t : Nat, t < k ∧ r.getD a 0 = (t : Int)) →
          play_Dfa_l12 kf kk (fun (v73 : (List Int)) (v74 : (List Int)) (v75 : (List (List Int))) (v76 : (List Bool)) (v77 : (List (List Int))) (v78 : (List Bool)) => K v74 v77 v78) (k : Int) (m : Int) ((s + 1 : Nat) : Int) (List.replicate 256 (0 : Int)) l (p' : Int) C ([] : List (List Int)) ([] : List Bool) (N ++ [r]) (E ++ [e]) = T') →
          play_Dfa_l12 kf (kk + 1) (fun (v73 : (List Int)) (v74 : (List Int)) (v75 : (List (List Int))) (v76 : (List Bool)) (v77 : (List (List Int))) (v78 : (List Bool)) => K v74 v77 v78) (k : Int) (m : Int) (s : Int) (List.replicate 256 (0 : Int)) l (p : Int) C ([] : List (List Int)) ([] : List Bool) N E = T' := by
        intro T' hT'
        simp only [play_Dfa_l12, play_Dfa_l12_b, hd, cond_true]
        refine row16_ok kf kk l hl (by omega) k m hk8.1 (by omega) (by omega) _ _ _ _ _ _ _ _ p (by omega) T' ?_
        intro p' r z1 z2 z3
        obtain ⟨t, p'', y1, y2, y3⟩ := num_ok (R := R) 2 (by omega) l hl (by omega) p' (by omega)
        rw [gdd (by show _ < 17179869184; simp; omega)]
        have y3' := y3
        rw [show ((2 : Nat) : Int) = 2 from rfl] at y3'
        rw [y3', gdd (by show _ < 17179869184; simp; omega), hw]
        exact hT' p'' r _ (by omega) z2 z3
      refine main T fun p' r e z1 z2 z3 => hrest (p', N ++ [r], E ++ [e]) ⟨z1, by simp [q2], by simp [q3], by omega, fun i hi => ?_⟩
      simp only
      rw [snoc_getD]
      by_cases his : i < s
      · rw [if_pos (by omega)]; exact q4 i his
      · rw [if_neg (by omega), if_pos (by omega)]; exact ⟨z2, z3⟩
  · rintro kk b C _ hb ⟨h1, h2⟩
    left
    have hd : decide ((b : Int) < 256) = true := decide_eq_true (by omega)
    have g1 : decide (0 ≤ (b : Int)) = true := decide_eq_true (by omega)
    have g2 : decide ((m : Int) ≠ 0) = true := decide_eq_true (by omega)
    have hw := wi_1 b (by omega)
    have hcl := cls_mod m hm4.1 b
    have h8 : IntKind.u8.wrap ((clsOf m b : Nat) : Int) = ((clsOf m b : Nat) : Int) := by rw [IntKind.wrap_u8]; omega
    refine ⟨C.set b ((clsOf m b : Nat) : Int), ⟨by rw [List.length_set]; exact h1, fun i hi => ?_⟩, ?_⟩
    · rw [List.getD_eq_getElem?_getD, List.getElem?_set]
      by_cases hbi : b = i
      · subst hbi; rw [if_pos rfl, if_pos (by omega)]; rfl
      · rw [if_neg hbi, ← List.getD_eq_getElem?_getD]; exact h2 i (by omega)
    · simp only [play_Dfa_l5, play_Dfa_l5_b, hd, g1, g2, gd, cond_true, hw, Int.toNat_natCast]
      have hs : IntKind.i64.wrap ((97 : Int) + (m : Int)) = ((97 + m : Nat) : Int) := by rw [IntKind.wrap_i64]; omega
      rw [hs]
      by_cases hlo : 97 ≤ b
      · rw [decide_eq_true (show (97 : Int) ≤ (b : Int) by omega)]
        simp only [cond_true]
        by_cases hhi : b < 97 + m
        · rw [decide_eq_true (show (b : Int) < ((97 + m : Nat) : Int) by omega)]
          have e : IntKind.i64.wrap ((b : Int) - 97) = ((clsOf m b : Nat) : Int) := by
            unfold clsOf; rw [if_pos ⟨hlo, hhi⟩, IntKind.wrap_i64]; omega
          simp only [cond_true, e, h8]
        · rw [decide_eq_false (show ¬ (b : Int) < ((97 + m : Nat) : Int) by omega)]
          have e : Int.tmod (Int.tmod (b : Int) 7) (m : Int) = ((clsOf m b : Nat) : Int) := by
            unfold clsOf; rw [if_neg (by omega), Int.tmod_eq_emod_of_nonneg (show (0 : Int) ≤ (b : Int) by omega), Int.tmod_eq_emod_of_nonneg (by omega)]; push_cast; rfl
          simp only [cond_false, e, h8]
      · rw [decide_eq_false (show ¬ (97 : Int) ≤ (b : Int) by omega)]
        have e : Int.tmod (Int.tmod (b : Int) 7) (m : Int) = ((clsOf m b : Nat) : Int) := by
          unfold clsOf; rw [if_neg (by omega), Int.tmod_eq_emod_of_nonneg (show (0 : Int) ≤ (b : Int) by omega), Int.tmod_eq_emod_of_nonneg (by omega)]; push_cast; rfl
        simp only [cond_false, e, h8]
end Go.Ab.T

/- Machines: where words lead, how many there are, and which; words as numbers. -/
namespace Go.Ab.T
open Go Go.Ab
set_option linter.unusedVariables false
set_option linter.unusedSimpArgs false

/-- the state behind a byte -/
def dl (C : List Int) (N : List (List Int)) (s b : Nat) : Nat := ((N.getD s []).getD (C.getD b 0).toNat 0).toNat
def en (E : List Bool) (s : Nat) : Bool := E.getD s false
def dls (C : List Int) (N : List (List Int)) : Nat → List Nat → Nat
  | s, [] => s
  | s, b :: r => dls C N (dl C N s b) r
theorem dls_snoc (C : List Int) (N : List (List Int)) (b : Nat) : ∀ (w : List Nat) (s : Nat), dls C N s (w ++ [b]) = dl C N (dls C N s w) b
  | [], s => rfl
  | a :: r, s => dls_snoc C N b r (dl C N s a)

def sumR (n : Nat) (f : Nat → Nat) : Nat := ((List.range n).map f).sum
theorem sumR_zero (f : Nat → Nat) : sumR 0 f = 0 := rfl
theorem sumR_succ (n : Nat) (f : Nat → Nat) : sumR (n + 1) f = sumR n f + f n := by
  unfold sumR
  rw [List.range_succ, List.map_append, List.sum_append]
  simp
theorem sumR_congr {n : Nat} {f g : Nat → Nat} (h : ∀ i, i < n → f i = g i) : sumR n f = sumR n g := by
  induction n with
  | zero => rfl
  | succ n ih => rw [sumR_succ, sumR_succ, ih fun i hi => h i (by omega), h n (by omega)]
theorem sumR_add (n : Nat) (f g : Nat → Nat) : sumR n (fun i => f i + g i) = sumR n f + sumR n g := by
  induction n with
  | zero => rfl
  | succ n ih => rw [sumR_succ, sumR_succ, sumR_succ, ih]; omega
theorem sumR_const (n c : Nat) : sumR n (fun _ => c) = n * c := by
  induction n with
  | zero => simp [sumR_zero]
  | succ n ih => rw [sumR_succ, ih, Nat.succ_mul]
theorem sumR_single (m x : Nat) (f : Nat → Nat) : sumR m (fun a => if x = a then f a else 0) = if x < m then f x else 0 := by
  induction m with
  | zero => rfl
  | succ m ih =>
    rw [sumR_succ, ih]
    by_cases h : x = m
    · subst h; simp
    · rw [if_neg h]
      by_cases h2 : x < m
      · rw [if_pos h2, if_pos (by omega)]; omega
      · rw [if_neg h2, if_neg (by omega)]
theorem sumR_pos {n : Nat} {f : Nat → Nat} : 0 < sumR n f ↔ ∃ i, i < n ∧ 0 < f i := by
  induction n with
  | zero => simp [sumR_zero]
  | succ n ih =>
    rw [sumR_succ]
    constructor
    · intro h
      by_cases h2 : 0 < f n
      · exact ⟨n, by omega, h2⟩
      · obtain ⟨i, h3, h4⟩ := ih.1 (by omega)
        exact ⟨i, by omega, h4⟩
    · rintro ⟨i, h1, h2⟩
      by_cases h3 : i = n
      · subst h3; omega
      · have := ih.2 ⟨i, by omega, h2⟩; omega
/-- by classes -/
theorem class_sum (m : Nat) (g f : Nat → Nat) : ∀ n, (∀ b, b < n → g b < m) → sumR n (fun b => f (g b)) = sumR m fun a => (List.range n).countP (fun b => decide (g b = a)) * f a
  | 0, _ => by
    rw [sumR_zero, sumR_congr (g := fun _ => 0) fun i _ => by simp, sumR_const]; simp
  | n + 1, h => by
    rw [sumR_succ, class_sum m g f n fun b hb => h b (by omega)]
    have e : ∀ a, (List.range (n + 1)).countP (fun b => decide (g b = a)) * f a = (List.range n).countP (fun b => decide (g b = a)) * f a + if g n = a then f a else 0 := by
      intro a
      rw [List.range_succ, List.countP_append, List.countP_cons, List.countP_nil]
      by_cases hga : g n = a
      · simp [hga, Nat.add_mul]
      · simp [hga]
    rw [sumR_congr fun a _ => e a, sumR_add, sumR_single, if_pos (h n (by omega))]

section
variable (C : List Int) (N : List (List Int)) (E : List Bool)
/-- how many words of n bytes end well from s -/
def W : Nat → Nat → Nat
  | 0, s => if en E s then 1 else 0
  | n + 1, s => sumR 256 fun b => W n (dl C N s b)
/-- these words, in order -/
def ws : Nat → Nat → List (List Int)
  | 0, s => if en E s then [[]] else []
  | n + 1, s => (List.range 256).flatMap fun b => (ws n (dl C N s b)).map fun w => (b : Int) :: w
theorem length_flatMap' {α β : Type} (l : List α) (f : α → List β) : (l.flatMap f).length = (l.map fun a => (f a).length).sum := by
  induction l with
  | nil => rfl
  | cons a r ih => rw [List.flatMap_cons, List.length_append, ih]; simp
theorem ws_length : ∀ n s, (ws C N E n s).length = W C N E n s
  | 0, s => by simp only [ws, W]; split <;> rfl
  | n + 1, s => by
    simp only [ws, W]
    rw [length_flatMap']
    unfold sumR
    congr 1
    apply List.map_congr_left
    intro b _
    rw [List.length_map, ws_length n]
end

section
variable {R : Type} {C : List Int} {N : List (List Int)} {E : List Bool} {k m : Nat}
theorem Mch.cls_lt (h : Mch C N E k m) (b : Nat) (hb : b < 256) : (C.getD b 0).toNat < m ∧ C.getD b 0 = (((C.getD b 0).toNat : Nat) : Int) := by
  obtain ⟨a, h1, h2⟩ := h.clr b hb
  rw [h2]; simp; exact h1
theorem Mch.row_lt (h : Mch C N E k m) {s a : Nat} (hs : s < k) (ha : a < m) : ((N.getD s []).getD a 0).toNat < k ∧ (N.getD s []).getD a 0 = ((((N.getD s []).getD a 0).toNat : Nat) : Int) := by
  obtain ⟨t, h1, h2⟩ := (h.row s hs).2 a ha
  rw [h2]; simp; exact h1
theorem Mch.dl_lt (h : Mch C N E k m) {s b : Nat} (hs : s < k) (hb : b < 256) : dl C N s b < k := (h.row_lt hs (h.cls_lt b hb).1).1
theorem Mch.dls_lt (h : Mch C N E k m) : ∀ {w : List Nat} {s : Nat}, s < k → (∀ b ∈ w, b < 256) → dls C N s w < k
  | [], s, hs, _ => hs
  | b :: r, s, hs, hw => Mch.dls_lt h (w := r) (s := dl C N s b) (h.dl_lt hs (hw b (by simp))) fun x hx => hw x (by simp [hx])
end

/-! ### words as numbers: shorter ones first, then by bytes -/
def code (w : List Nat) : Nat := w.foldl (fun a b => 256 * a + b + 1) 0
theorem code_nil : code [] = 0 := rfl
theorem code_snoc (w : List Nat) (b : Nat) : code (w ++ [b]) = 256 * code w + b + 1 := by
  unfold code; rw [List.foldl_append]; rfl
theorem snoc_cases {α : Type} (w : List α) : w = [] ∨ ∃ v b, w = v ++ [b] := by
  rcases List.eq_nil_or_concat w with h | ⟨v, b, h⟩
  · exact Or.inl h
  · exact Or.inr ⟨v, b, by rw [h]; simp⟩
theorem code_inj : ∀ (n : Nat) (v w : List Nat), v.length ≤ n → (∀ b ∈ v, b < 256) → (∀ b ∈ w, b < 256) → code v = code w → v = w := by
  intro n
  induction n with
  | zero =>
    intro v w hn hv hw h
    have : v = [] := List.length_eq_zero_iff.1 (by omega)
    subst this
    rcases snoc_cases w with rfl | ⟨w', b, rfl⟩
    · rfl
    · rw [code_nil, code_snoc] at h; omega
  | succ n ih =>
    intro v w hn hv hw h
    rcases snoc_cases v with rfl | ⟨v', a, rfl⟩
    · rcases snoc_cases w with rfl | ⟨w', b, rfl⟩
      · rfl
      · rw [code_nil, code_snoc] at h; omega
    · rcases snoc_cases w with rfl | ⟨w', b, rfl⟩
      · rw [code_nil, code_snoc] at h; omega
      · rw [code_snoc, code_snoc] at h
        have ha := hv a (by simp)
        have hb := hw b (by simp)
        have e1 : a = b := by omega
        have e2 : code v' = code w' := by omega
        subst e1
        rw [ih v' w' (by simp at hn; omega) (fun x hx => hv x (by simp [hx])) (fun x hx => hw x (by simp [hx])) e2]
/-- shorter ones are smaller -/
def geo : Nat → Nat
  | 0 => 0
  | n + 1 => 256 * geo n + 1
theorem code_bounds : ∀ (n : Nat) (w : List Nat), w.length = n → (∀ b ∈ w, b < 256) → geo n ≤ code w ∧ code w < geo (n + 1)
  | 0, w, hn, hw => by
    have : w = [] := List.length_eq_zero_iff.1 hn
    subst this
    exact ⟨Nat.le_refl _, by decide⟩
  | n + 1, w, hn, hw => by
    rcases snoc_cases w with rfl | ⟨v, b, rfl⟩
    · simp at hn
    · have hb := hw b (by simp)
      obtain ⟨h1, h2⟩ := code_bounds n v (by simpa using hn) (fun x hx => hw x (by simp [hx]))
      rw [code_snoc]
      simp only [geo] at h1 h2 ⊢
      constructor <;> omega
theorem geo_mono : ∀ {n m : Nat}, n ≤ m → geo n ≤ geo m
  | n, 0, h => by have : n = 0 := by omega
                  subst this; exact Nat.le_refl _
  | n, m + 1, h => by
    by_cases hn : n = m + 1
    · subst hn; exact Nat.le_refl _
    · have := geo_mono (n := n) (m := m) (by omega)
      simp only [geo]; omega
theorem code_len {v w : List Nat} (hv : ∀ b ∈ v, b < 256) (hw : ∀ b ∈ w, b < 256) (h : v.length < w.length) : code v < code w := by
  have h1 := (code_bounds _ v rfl hv).2
  have h2 := (code_bounds _ w rfl hw).1
  have := geo_mono (show v.length + 1 ≤ w.length by omega)
  omega
end Go.Ab.T

/- Lists of numbers, and a machine that is flipped. -/
namespace Go.Ab.T
open Go Go.Ab
set_option linter.unusedVariables false
set_option linter.unusedSimpArgs false

theorem getD_set' {α : Type} (l : List α) (d i : Nat) (v x : α) : (l.set d v).getD i x = if d = i ∧ i < l.length then v else l.getD i x := by
  rw [List.getD_eq_getElem?_getD, List.getD_eq_getElem?_getD, List.getElem?_set]
  by_cases h : d = i
  · subst h
    by_cases hl : d < l.length
    · simp [hl]
    · rw [if_pos rfl, if_neg hl, if_neg (fun q => hl q.2), List.getElem?_eq_none (by omega)]
  · rw [if_neg h, if_neg (fun q => h q.1)]
theorem getD_rep {α : Type} (n i : Nat) (v : α) : (List.replicate n v).getD i v = v := by
  rw [List.getD_eq_getElem?_getD, List.getElem?_replicate]
  split <;> rfl

def cast (w : List Nat) : List Int := w.map fun b : Nat => (b : Int)
theorem cast_len (w : List Nat) : (cast w).length = w.length := by unfold cast; rw [List.length_map]
theorem cast_inj {v w : List Nat} (h : cast v = cast w) : v = w := by
  unfold cast at h
  apply List.ext_getElem
  · have := congrArg List.length h
    simpa using this
  · intro i h1 h2
    have := congrArg (fun l => l[i]?) h
    simp only [List.getElem?_map, List.getElem?_eq_getElem h1, List.getElem?_eq_getElem h2, Option.map_some, Option.some.injEq] at this
    omega

theorem map_getD (l : List Nat) (i : Nat) : (l.map fun b : Nat => (b : Int)).getD i 0 = ((l.getD i 0 : Nat) : Int) := by
  rw [List.getD_eq_getElem?_getD, List.getD_eq_getElem?_getD, List.getElem?_map]
  cases l[i]? <;> rfl

def castF (F : List Nat) : List Int := F.map fun b : Nat => (b : Int)
theorem castF_len (F : List Nat) : (castF F).length = F.length := by unfold castF; rw [List.length_map]
theorem castF_getD (F : List Nat) (j : Nat) : (castF F).getD j 0 = ((F.getD j 0 : Nat) : Int) := map_getD F j
theorem ext_getD {α : Type} (d : α) {a b : List α} (hl : a.length = b.length) (h : ∀ i, i < a.length → a.getD i d = b.getD i d) : a = b := by
  apply List.ext_getElem hl
  intro i h1 h2
  have := h i h1
  rwa [List.getD_eq_getElem?_getD, List.getD_eq_getElem?_getD, List.getElem?_eq_getElem h1, List.getElem?_eq_getElem h2] at this

section
variable {R : Type} {C : List Int} {N : List (List Int)} {E : List Bool} {k m : Nat}
theorem Mch.flip (h : Mch C N E k m) : Mch C N (E.map fun b => !b) k m :=
  ⟨h.cl, h.clr, h.inh, h.nl, by rw [List.length_map]; exact h.el, h.k1, h.k2, h.m1, h.m2, h.row⟩
theorem flip_en (h : Mch C N E k m) {s : Nat} (hs : s < k) : en (E.map fun b => !b) s = !en E s := by
  have hE := h.el
  unfold en
  rw [List.getD_eq_getElem?_getD, List.getD_eq_getElem?_getD, List.getElem?_map, List.getElem?_eq_getElem (by omega)]
  rfl
end
end Go.Ab.T

/- Machines: the reference's copy, flip, runs, and which states are live. -/
namespace Go.Ab.T
open Go Go.Ab
set_option linter.unusedVariables false
set_option linter.unusedSimpArgs false

section
variable {R : Type} {C : List Int} {N : List (List Int)} {E : List Bool} {k m : Nat}
/-! ### the reference's copy and flip -/
/-! ### running -/
end
end Go.Ab.T

/- Machines: which states are live, by the reference. -/
namespace Go.Ab.T
open Go Go.Ab
set_option linter.unusedVariables false
set_option linter.unusedSimpArgs false

section
variable {R : Type} {C : List Int} {N : List (List Int)} {E : List Bool} {k m : Nat}
/-! ### which states are live -/
def live (C : List Int) (N : List (List Int)) (E : List Bool) (s : Nat) : Prop := ∃ v : List Nat, (∀ b ∈ v, b < 256) ∧ en E (dls C N s v) = true
theorem live_step (h : Mch C N E k m) {s a : Nat} (ha : a < m) (hl : live C N E ((N.getD s []).getD a 0).toNat) : live C N E s := by
  obtain ⟨v, h1, h2⟩ := hl
  obtain ⟨b, hb, he⟩ := h.inh a ha
  refine ⟨b :: v, ?_, ?_⟩
  · intro x hx
    rcases List.mem_cons.1 hx with rfl | hx
    · exact hb
    · exact h1 x hx
  · simp only [dls]
    have : dl C N s b = ((N.getD s []).getD a 0).toNat := by unfold dl; rw [he]; rfl
    rw [this]; exact h2
/-- a set of states that holds who ends, and whom a step leads into it -/
theorem live_in (h : Mch C N E k m) (t : List Bool) (h1 : ∀ s, s < k → en E s = true → t.getD s false = true)
    (h2 : ∀ s, s < k → t.getD s false = false → ∀ a, a < m → t.getD ((N.getD s []).getD a 0).toNat false = false) : ∀ (v : List Nat) (s : Nat), s < k → (∀ b ∈ v, b < 256) → en E (dls C N s v) = true → t.getD s false = true
  | [], s, hs, _, he => h1 s hs he
  | b :: v, s, hs, hv, he => by
    have hb := hv b (by simp)
    have ih := live_in h t h1 h2 v (dl C N s b) (h.dl_lt hs hb) (fun x hx => hv x (by simp [hx])) he
    cases hts : t.getD s false with
    | true => rfl
    | false =>
      have := h2 s hs hts (C.getD b 0).toNat (h.cls_lt b hb).1
      unfold dl at ih
      rw [ih] at this; cases this

def falses (k : Nat) (t : List Bool) : Nat := sumR k fun s => if t.getD s false = true then 0 else 1
theorem sumR_le {n : Nat} {f g : Nat → Nat} (h : ∀ i, i < n → f i ≤ g i) : sumR n f ≤ sumR n g := by
  induction n with
  | zero => exact Nat.le_refl _
  | succ n ih =>
    rw [sumR_succ, sumR_succ]
    have := ih fun i hi => h i (by omega)
    have := h n (by omega)
    omega
theorem sumR_lt {n : Nat} {f g : Nat → Nat} (h : ∀ i, i < n → f i ≤ g i) (i : Nat) (hi : i < n) (hl : f i < g i) : sumR n f < sumR n g := by
  induction n with
  | zero => omega
  | succ n ih =>
    rw [sumR_succ, sumR_succ]
    by_cases hin : i = n
    · subst hin
      have := sumR_le (n := i) fun j hj => h j (by omega)
      omega
    · have := ih (fun j hj => h j (by omega)) (by omega)
      have := h n (by omega)
      omega
theorem falses_le (k : Nat) (t : List Bool) : falses k t ≤ k := by
  have := sumR_le (n := k) (f := fun s => if t.getD s false = true then 0 else 1) (g := fun _ => 1) fun i _ => by split <;> omega
  rw [sumR_const] at this
  unfold falses; omega
theorem falses_set {k : Nat} {t : List Bool} (hl : t.length = k) {i : Nat} (hi : i < k) (hf : t.getD i false = false) : falses k (t.set i true) < falses k t := by
  have key : ∀ j, (t.set i true).getD j false = if i = j ∧ j < t.length then true else t.getD j false := fun j => getD_set' t i j true false
  unfold falses
  refine sumR_lt (fun j hj => ?_) i hi ?_
  · simp only [key j]
    by_cases hij : i = j ∧ j < t.length
    · rw [if_pos hij]; simp
    · rw [if_neg hij]; exact Nat.le_refl _
  · have ki := key i
    rw [if_pos ⟨rfl, by omega⟩] at ki
    simp only [ki, hf]
    simp

end
end Go.Ab.T

/- Machines: which are the same, which states are reached (by the reference). -/
namespace Go.Ab.T
open Go Go.Ab
set_option linter.unusedVariables false
set_option linter.unusedSimpArgs false

section
variable {R : Type}
theorem eqI_ok (kf : Nat) (a b : List Int) (hs : a.length + 10 < kf) (hb : a.length ≤ 100000) (K : Bool → Option R) : slices_Equal_int_int kf a b K = K (decide (a = b)) := by
  unfold slices_Equal_int_int slices_Equal_int_int_b
  by_cases hl : a.length = b.length
  rotate_left
  · have hne : a ≠ b := fun h => hl (by rw [h])
    rw [decide_eq_false (show ¬ ((a.length : Int) = (b.length : Int)) by omega), Bool.not_false, cond_true, decide_eq_false hne]
  rw [hl, decide_eq_true rfl, Bool.not_true, cond_false]
  refine loop_inv (fun kk i (_ : Unit) => slices_Equal_int_int_l4 kf kk a b (b.length : Int) (fun (v7 : Bool) => K v7) (K true) (i : Int)) _ b.length 0 (fun i _ => ∀ j, j < i → a.getD j 0 = b.getD j 0) ?_ ?_ b.length kf 0 () (by omega) (by omega) (by intro j hj; omega)
  · intro kk _ hall
    rw [slices_Equal_int_int_l4]
    unfold slices_Equal_int_int_l4_b
    rw [decide_eq_false (show ¬ ((b.length : Int) < (b.length : Int)) by omega), cond_false]
    have : a = b := ext_getD 0 hl fun i hi => hall i (by omega)
    rw [decide_eq_true this]
  · intro kk i _ _ hi hall
    have g0 : decide (0 ≤ (i : Int)) = true := decide_eq_true (by omega)
    have g1 : decide ((i : Int) < (a.length : Int)) = true := decide_eq_true (by omega)
    have g2 : decide ((i : Int) < (b.length : Int)) = true := decide_eq_true (by omega)
    by_cases he : a.getD i 0 = b.getD i 0
    · left
      refine ⟨(), fun j hj => ?_, ?_⟩
      · by_cases hji : j = i
        · subst hji; exact he
        · exact hall j (by omega)
      · rw [slices_Equal_int_int_l4]
        unfold slices_Equal_int_int_l4_b
        rw [g2, cond_true, g0, gd_true rfl, g1, gd_true rfl, gd_true rfl, gd_true rfl, Int.toNat_natCast, he, decide_eq_true rfl, Bool.not_true, cond_false, wi_1 i (by omega)]
    · right
      have hne : a ≠ b := fun h => he (by rw [h])
      rw [slices_Equal_int_int_l4]
      unfold slices_Equal_int_int_l4_b
      rw [g2, cond_true, g0, gd_true rfl, g1, gd_true rfl, gd_true rfl, gd_true rfl, Int.toNat_natCast, decide_eq_false he, Bool.not_false, cond_true, decide_eq_false hne]

theorem eqB_ok (kf : Nat) (a b : List Bool) (hs : a.length + 10 < kf) (hb : a.length ≤ 100000) (K : Bool → Option R) : slices_Equal_bool_bool kf a b K = K (decide (a = b)) := by
  unfold slices_Equal_bool_bool slices_Equal_bool_bool_b
  by_cases hl : a.length = b.length
  rotate_left
  · have hne : a ≠ b := fun h => hl (by rw [h])
    rw [decide_eq_false (show ¬ ((a.length : Int) = (b.length : Int)) by omega), Bool.not_false, cond_true, decide_eq_false hne]
  rw [hl, decide_eq_true rfl, Bool.not_true, cond_false]
  refine loop_inv (fun kk i (_ : Unit) => slices_Equal_bool_bool_l4 kf kk a b (b.length : Int) (fun (v7 : Bool) => K v7) (K true) (i : Int)) _ b.length 0 (fun i _ => ∀ j, j < i → a.getD j false = b.getD j false) ?_ ?_ b.length kf 0 () (by omega) (by omega) (by intro j hj; omega)
  · intro kk _ hall
    rw [slices_Equal_bool_bool_l4]
    unfold slices_Equal_bool_bool_l4_b
    rw [decide_eq_false (show ¬ ((b.length : Int) < (b.length : Int)) by omega), cond_false]
    have : a = b := ext_getD false hl fun i hi => hall i (by omega)
    rw [decide_eq_true this]
  · intro kk i _ _ hi hall
    have g0 : decide (0 ≤ (i : Int)) = true := decide_eq_true (by omega)
    have g1 : decide ((i : Int) < (a.length : Int)) = true := decide_eq_true (by omega)
    have g2 : decide ((i : Int) < (b.length : Int)) = true := decide_eq_true (by omega)
    by_cases he : a.getD i false = b.getD i false
    · left
      refine ⟨(), fun j hj => ?_, ?_⟩
      · by_cases hji : j = i
        · subst hji; exact he
        · exact hall j (by omega)
      · rw [slices_Equal_bool_bool_l4]
        unfold slices_Equal_bool_bool_l4_b
        rw [g2, cond_true, g0, gd_true rfl, g1, gd_true rfl, gd_true rfl, gd_true rfl, Int.toNat_natCast, decide_eq_true he, Bool.not_true, cond_false, wi_1 i (by omega)]
    · right
      have hne : a ≠ b := fun h => he (by rw [h])
      rw [slices_Equal_bool_bool_l4]
      unfold slices_Equal_bool_bool_l4_b
      rw [g2, cond_true, g0, gd_true rfl, g1, gd_true rfl, gd_true rfl, gd_true rfl, Int.toNat_natCast, decide_eq_false he, Bool.not_false, cond_true, decide_eq_false hne]

theorem eqF_ok (kf : Nat) (a b : List (List Int)) (hs : a.length + 300 < kf) (hb : a.length ≤ 100000) (hr : ∀ i, i < a.length → (a.getD i []).length ≤ 256) (K : Bool → Option R) : slices_EqualFunc_int_int_int_int kf a b K = K (decide (a = b)) := by
  unfold slices_EqualFunc_int_int_int_int slices_EqualFunc_int_int_int_int_b
  by_cases hl : a.length = b.length
  rotate_left
  · have hne : a ≠ b := fun h => hl (by rw [h])
    rw [decide_eq_false (show ¬ ((a.length : Int) = (b.length : Int)) by omega), Bool.not_false, cond_true, decide_eq_false hne]
  rw [hl, decide_eq_true rfl, Bool.not_true, cond_false]
  refine loop_inv (fun kk i (_ : Unit) => slices_EqualFunc_int_int_int_int_l4 kf kk b a (b.length : Int) (fun (v8 : Bool) => K v8) (K true) (i : Int)) _ b.length 0 (fun i _ => ∀ j, j < i → a.getD j [] = b.getD j []) ?_ ?_ b.length kf 0 () (by omega) (by omega) (by intro j hj; omega)
  · intro kk _ hall
    rw [slices_EqualFunc_int_int_int_int_l4]
    unfold slices_EqualFunc_int_int_int_int_l4_b
    rw [decide_eq_false (show ¬ ((b.length : Int) < (b.length : Int)) by omega), cond_false]
    have : a = b := ext_getD [] hl fun i hi => hall i (by omega)
    rw [decide_eq_true this]
  · intro kk i _ _ hi hall
    have g0 : decide (0 ≤ (i : Int)) = true := decide_eq_true (by omega)
    have g1 : decide ((i : Int) < (a.length : Int)) = true := decide_eq_true (by omega)
    have g2 : decide ((i : Int) < (b.length : Int)) = true := decide_eq_true (by omega)
    have hri := hr i (by omega)
    by_cases he : a.getD i [] = b.getD i []
    · left
      refine ⟨(), fun j hj => ?_, ?_⟩
      · by_cases hji : j = i
        · subst hji; exact he
        · exact hall j (by omega)
      · rw [slices_EqualFunc_int_int_int_int_l4]
        unfold slices_EqualFunc_int_int_int_int_l4_b machine_Same_1 machine_Same_1_b
        rw [g2, cond_true, g0, gd_true rfl, g1, gd_true rfl, gd_true rfl, gd_true rfl, Int.toNat_natCast, eqI_ok kf _ _ (by omega) (by omega), decide_eq_true he]
        dsimp only
        rw [Bool.not_true, cond_false, wi_1 i (by omega)]
    · right
      have hne : a ≠ b := fun h => he (by rw [h])
      rw [slices_EqualFunc_int_int_int_int_l4]
      unfold slices_EqualFunc_int_int_int_int_l4_b machine_Same_1 machine_Same_1_b
      rw [g2, cond_true, g0, gd_true rfl, g1, gd_true rfl, gd_true rfl, gd_true rfl, Int.toNat_natCast, eqI_ok kf _ _ (by omega) (by omega), decide_eq_false he]
      dsimp only
      rw [Bool.not_false, cond_true, decide_eq_false hne]

variable {C : List Int} {N : List (List Int)} {E : List Bool} {k m : Nat}

theorem same_ok (h : Mch C N E k m) (kf : Nat) (hkf : 3000 ≤ kf) (C' : List Int) (N' : List (List Int)) (E' : List Bool) (K : Bool → Option R) : machine_Same kf C N E C' N' E' K = K (decide (C = C' ∧ E = E' ∧ N = N')) := by
  unfold machine_Same machine_Same_b
  have hE := h.el; have hN := h.nl; have hk2 := h.k2; have hm2 := h.m2
  by_cases h1 : C = C'
  rotate_left
  · rw [decide_eq_false h1, cond_false, decide_eq_false fun q => h1 q.1]
  rw [decide_eq_true h1, cond_true, eqB_ok kf _ _ (by omega) (by omega)]
  by_cases h2 : E = E'
  rotate_left
  · rw [decide_eq_false h2, cond_false, decide_eq_false fun q => h2 q.2.1]
  rw [decide_eq_true h2, cond_true, eqF_ok kf _ _ (by omega) (by omega) fun i hi => by have := (h.row i (by omega)).1; omega]
  by_cases h3 : N = N'
  · rw [decide_eq_true h3, decide_eq_true ⟨h1, h2, h3⟩]
  · rw [decide_eq_false h3, decide_eq_false fun q => h3 q.2.2]

end
theorem classesC_ok {R : Type} {C : List Int} {N : List (List Int)} {E : List Bool} {k m : Nat} (h : Mch C N E k m) (kf : Nat) (hkf : 20000 ≤ kf) (K : Int → Option R) : machine_Classes kf C N E K = K (m : Int) := by
  unfold machine_Classes machine_Classes_b
  rw [may_ok h kf (by omega), Bool.not_true, cond_false, classes_ok h kf (by omega)]

def isBy (w : List Nat) : Prop := ∀ b ∈ w, b < 256
def rowN (N : List (List Int)) (s a : Nat) : Nat := ((N.getD s []).getD a 0).toNat
section
variable {R : Type} {C : List Int} {N : List (List Int)} {E : List Bool} {k m : Nat}
def rch (C : List Int) (N : List (List Int)) (s : Nat) : Prop := ∃ v, isBy v ∧ dls C N 0 v = s
theorem rch_step (h : Mch C N E k m) {s a : Nat} (hs : rch C N s) (ha : a < m) : rch C N (rowN N s a) := by
  obtain ⟨v, hv, rfl⟩ := hs
  obtain ⟨b, hb, he⟩ := h.inh a ha
  refine ⟨v ++ [b], ?_, ?_⟩
  · intro x hx
    rcases List.mem_append.1 hx with q | q
    · exact hv x q
    · rw [List.mem_singleton.1 q]; exact hb
  · rw [dls_snoc]
    unfold dl rowN
    rw [he]; rfl
theorem rch_in (h : Mch C N E k m) {t : List Bool} (h0 : t.getD 0 false = true) (hc : ∀ s, s < k → t.getD s false = true → ∀ a, a < m → t.getD (rowN N s a) false = true) {s : Nat} (hs : rch C N s) : t.getD s false = true := by
  obtain ⟨v, hv, rfl⟩ := hs
  have key : ∀ (v : List Nat) (s : Nat), s < k → t.getD s false = true → isBy v → t.getD (dls C N s v) false = true := by
    intro v
    induction v with
    | nil => intro s _ q _; exact q
    | cons b r ih =>
      intro s hs q hv
      have hb := hv b (List.mem_cons_self ..)
      exact ih _ (h.dl_lt hs hb) (hc s hs q _ (h.cls_lt b hb).1) fun x hx => hv x (List.mem_cons_of_mem _ hx)
  exact key v 0 h.k1 h0 hv

/-- what becomes of what is reached -/
structure Grow (C : List Int) (N : List (List Int)) (k : Nat) (t : List Bool) (ag : Bool) (t' : List Bool) : Prop where
  len : t'.length = k
  snd : ∀ s, s < k → t'.getD s false = true → rch C N s
  mono : ∀ s, s < k → t.getD s false = true → t'.getD s false = true
  less : ag = true → falses k t' < falses k t
  same : ag = false → t' = t

theorem Grow.set {t t' : List Bool} {ag : Bool} (h : Grow C N k t ag t') {x : Nat} (hx : x < k) (hr : rch C N x) : Grow C N k t (ag || !(t'.getD x false)) (t'.set x true) := by
  have hl := h.len
  have hg : ∀ s, (t'.set x true).getD s false = if x = s ∧ x < t'.length then true else t'.getD s false := fun s => by
    rw [getD_set']
    by_cases hs : x = s
    · subst hs; rfl
    · rw [if_neg (fun q => hs q.1), if_neg (fun q => hs q.1)]
  cases hc : t'.getD x false with
  | true =>
    have : t'.set x true = t' := ext_getD false (List.length_set ..) fun i hi => by
      rw [hg]
      split
      · rename_i q; rw [← q.1, hc]
      · rfl
    rw [this, Bool.not_true, Bool.or_false]
    exact h
  | false =>
    rw [Bool.not_false, Bool.or_true]
    have hf := falses_set hl hx hc
    refine ⟨by rw [List.length_set]; exact hl, fun s hs hst => ?_, fun s hs hst => ?_, fun _ => ?_, fun q => (by cases q)⟩
    · rw [hg] at hst
      by_cases hxs : x = s ∧ x < t'.length
      · rw [← hxs.1]; exact hr
      · rw [if_neg hxs] at hst; exact h.snd s hs hst
    · rw [hg]
      split
      · rfl
      · exact h.mono s hs hst
    · cases ag with
      | true => have := h.less rfl; omega
      | false => rw [← h.same rfl]; exact hf

end
end Go.Ab.T

/- Machines: which states are reached, which are live: the program's searches. -/
namespace Go.Ab.T
open Go Go.Ab
set_option linter.unusedVariables false
set_option linter.unusedSimpArgs false

/-- states that are seen, and those that wait -/
def visit (t : List Bool) (q : List Int) : List Int → List Bool × List Int
  | [] => (t, q)
  | x :: r => if t.getD x.toNat false = true then visit t q r else visit (t.set x.toNat true) (q ++ [x]) r
structure Vis (k : Nat) (l : List Int) (t : List Bool) (q : List Int) (t' : List Bool) (q' : List Int) : Prop where
  len : t'.length = k
  mono : ∀ s : Nat, t.getD s false = true → t'.getD s false = true
  all : ∀ x ∈ l, t'.getD x.toNat false = true
  new : ∀ s : Nat, t'.getD s false = true → t.getD s false = true ∨ (s : Int) ∈ l
  wait : ∀ s : Nat, t'.getD s false = true → t.getD s false = true ∨ (s : Int) ∈ q'
  old : ∀ x ∈ q, x ∈ q'
  of : ∀ x ∈ q', x ∈ q ∨ x ∈ l
  μ : 2 * falses k t' + q'.length ≤ 2 * falses k t + q.length
theorem visit_ok {k : Nat} : ∀ (l : List Int) (t : List Bool) (q : List Int), t.length = k → (∀ x ∈ l, 0 ≤ x ∧ x < (k : Int)) → Vis k l t q (visit t q l).1 (visit t q l).2
  | [], t, q, ht, _ => ⟨ht, fun _ h => h, fun _ h => by simp at h, fun _ h => .inl h, fun _ h => .inl h, fun _ h => h, fun _ h => .inl h, Nat.le_refl _⟩
  | x :: r, t, q, ht, hl => by
    have hx := hl x List.mem_cons_self
    have hr : ∀ y ∈ r, 0 ≤ y ∧ y < (k : Int) := fun y hy => hl y (List.mem_cons_of_mem _ hy)
    unfold visit
    by_cases h : t.getD x.toNat false = true
    · rw [if_pos h]
      have v := visit_ok r t q ht hr
      refine ⟨v.len, v.mono, fun y hy => ?_, fun s hs => ?_, v.wait, v.old, fun y hy => ?_, v.μ⟩
      · rcases List.mem_cons.1 hy with rfl | hy
        · exact v.mono _ h
        · exact v.all y hy
      · rcases v.new s hs with q | q
        · exact .inl q
        · exact .inr (List.mem_cons_of_mem _ q)
      · rcases v.of y hy with q | q
        · exact .inl q
        · exact .inr (List.mem_cons_of_mem _ q)
    · rw [if_neg h]
      have v := visit_ok r (t.set x.toNat true) (q ++ [x]) (by rw [List.length_set]; exact ht) hr
      have hf : t.getD x.toNat false = false := by cases hh : t.getD x.toNat false with | true => exact absurd hh h | false => rfl
      have hfl := falses_set (k := k) ht (i := x.toNat) (by omega) hf
      have hself : (t.set x.toNat true).getD x.toNat false = true := by rw [getD_set', if_pos ⟨rfl, by omega⟩]
      refine ⟨v.len, fun s hs => v.mono s ?_, fun y hy => ?_, fun s hs => ?_, fun s hs => ?_, fun y hy => v.old y (by simp [hy]), fun y hy => ?_, ?_⟩
      · rw [getD_set']; split
        · rfl
        · exact hs
      · rcases List.mem_cons.1 hy with rfl | hy
        · exact v.mono _ hself
        · exact v.all y hy
      · rcases v.new s hs with g | g
        · rw [getD_set'] at g
          split at g
          · rename_i e
            right
            have : (s : Int) = x := by omega
            rw [this]; exact List.mem_cons_self
          · exact .inl g
        · exact .inr (List.mem_cons_of_mem _ g)
      · rcases v.wait s hs with g | g
        · rw [getD_set'] at g
          split at g
          · rename_i e
            right
            have : (s : Int) = x := by omega
            rw [this]; exact v.old x (by simp)
          · exact .inl g
        · exact .inr g
      · rcases v.of y hy with g | g
        · rcases List.mem_append.1 g with g | g
          · exact .inl g
          · rw [List.mem_singleton.1 g]; exact .inr List.mem_cons_self
        · exact .inr (List.mem_cons_of_mem _ g)
      · have := v.μ
        rw [List.length_append, List.length_singleton] at this
        omega

section
variable {R : Type} {C : List Int} {N : List (List Int)} {E : List Bool} {k m : Nat}

theorem reach_l10 (kf : Nat) (L : List Int) (hL : L.length ≤ 100000) (hin : ∀ x ∈ L, 0 ≤ x ∧ x < (k : Int)) (Ke : List Int → List (List Int) → List Bool → List Bool → List Int → Option R) :
    ∀ (d kk i : Nat) (t : List Bool) (q : List Int), i + d = L.length → d < kk → t.length = k → q.length + d ≤ 1000000 →
    machine_Reach_l10 kf kk L (L.length : Int) C N E Ke (i : Int) t q = Ke C N E (visit t q (L.drop i)).1 (visit t q (L.drop i)).2
  | d, 0, i, t, q, _, h, _, _ => by omega
  | 0, kk + 1, i, t, q, hi, _, _, _ => by
    have : decide ((i : Int) < (L.length : Int)) = false := decide_eq_false (by omega)
    rw [machine_Reach_l10]
    unfold machine_Reach_l10_b
    rw [this, cond_false, List.drop_eq_nil_of_le (by omega)]; rfl
  | d + 1, kk + 1, i, t, q, hi, hk, ht, hq => by
    have hl : i < L.length := by omega
    have g0 : decide (0 ≤ (i : Int)) = true := decide_eq_true (by omega)
    have g1 : decide ((i : Int) < (L.length : Int)) = true := decide_eq_true (by omega)
    have hx := hin _ (List.getElem_mem hl)
    have hgd : L.getD i 0 = L[i] := by rw [List.getD_eq_getElem?_getD, List.getElem?_eq_getElem hl]; rfl
    rw [machine_Reach_l10]
    unfold machine_Reach_l10_b
    rw [g1, cond_true, g0, gd_true rfl, gd_true rfl, Int.toNat_natCast, hgd, gd_true (decide_eq_true hx.1), gd_true (decide_eq_true (by omega)), gd_true (decide_eq_true hx.1), gd_true (decide_eq_true (by omega)), wi_1 i (by omega), List.drop_eq_getElem_cons hl]
    unfold visit
    cases hv : t.getD (L[i]).toNat false with
    | true =>
      rw [if_pos rfl, Bool.not_true, cond_false]
      exact reach_l10 kf L hL hin Ke d kk (i + 1) t q (by omega) (by omega) ht (by omega)
    | false =>
      rw [if_neg (by decide), Bool.not_false, cond_true, gd_true (decide_eq_true (by rw [small_eq]; simp; omega))]
      exact reach_l10 kf L hL hin Ke d kk (i + 1) _ _ (by omega) (by omega) (by rw [List.length_set]; exact ht) (by simp; omega)

theorem mreach_ok (h : Mch C N E k m) (kf : Nat) (hkf : 20000 ≤ kf) (K : List Bool → Option R) (T : Option R)
    (hT : ∀ t : List Bool, t.length = k → (∀ s, s < k → (t.getD s false = true ↔ rch C N s)) → K t = T) : machine_Reach kf C N E K = T := by
  unfold machine_Reach machine_Reach_b
  have hN := h.nl; have hk2 := h.k2; have hk1 := h.k1; have hm2 := h.m2
  rw [may_ok h kf (by omega), Bool.not_true, cond_false, hN, gdd (by omega), gdd (by omega), gdd (by rw [small_eq]; omega), Int.toNat_natCast, gdd (by rw [List.length_replicate]; omega)]
  have hz : ∀ s : Nat, ((List.replicate k false).set 0 true).getD s false = true → s = 0 := by
    intro s hs
    rw [getD_set'] at hs
    by_cases h0 : s = 0
    · exact h0
    · rw [if_neg (fun q => h0 q.1.symm), getD_rep] at hs; cases hs
  have hfl := falses_le k ((List.replicate k false).set 0 true)
  refine loop_meas (fun kk (acc : List Bool × List Int) => machine_Reach_l6 kf kk (fun v24 => K v24) C N E acc.1 acc.2) T (fun acc => 2 * falses k acc.1 + acc.2.length) 5000
    (fun acc => acc.1.length = k ∧ (∀ s, s < k → acc.1.getD s false = true → rch C N s) ∧ acc.1.getD 0 false = true ∧ (∀ x ∈ acc.2, ∃ n : Nat, n < k ∧ x = (n : Int) ∧ acc.1.getD n false = true) ∧
      (∀ s : Nat, s < k → acc.1.getD s false = true → (s : Int) ∈ acc.2 ∨ ∀ a, a < m → acc.1.getD (rowN N s a) false = true) ∧ 2 * falses k acc.1 + acc.2.length ≤ 5000) ?_ kf (((List.replicate k false).set 0 true), [0])
    (by show 2 * falses k ((List.replicate k false).set 0 true) + 1 + 5000 < kf; omega)
    ⟨by simp, fun s hs q => ⟨[], (by intro b hb; cases hb), (hz s q).symm⟩, by rw [getD_set', if_pos ⟨rfl, by rw [List.length_replicate]; omega⟩],
      fun x hx => ⟨0, by omega, by simpa using hx, by rw [getD_set', if_pos ⟨rfl, by rw [List.length_replicate]; omega⟩]⟩, fun s _ q => .inl (by rw [hz s q]; simp), by show 2 * falses k ((List.replicate k false).set 0 true) + 1 ≤ 5000; omega⟩
  rintro kk ⟨t, q⟩ hB ⟨h1, h2, h3, h4, h5, h6⟩ hrest
  dsimp only at h1 h2 h3 h4 h5 h6 hrest ⊢
  rw [machine_Reach_l6]
  unfold machine_Reach_l6_b
  cases q with
  | nil =>
    refine (?_ : _ = K t).trans (hT t h1 fun s hs => ⟨h2 s hs, fun hr => ?_⟩)
    · rfl
    · refine rch_in h h3 (fun s hs hts => ?_) hr
      rcases h5 s hs hts with g | g
      · simp at g
      · exact g
  | cons x q =>
    obtain ⟨n, hn, rfl, hnt⟩ := h4 x List.mem_cons_self
    obtain ⟨r1, r2⟩ := h.row n hn
    have hin : ∀ x ∈ N.getD n [], 0 ≤ x ∧ x < (k : Int) := by
      intro x hx
      obtain ⟨a, ha, rfl⟩ := List.getElem_of_mem hx
      obtain ⟨t', ht1, ht2⟩ := r2 a (by omega)
      have : (N.getD n []).getD a 0 = (N.getD n [])[a] := by rw [List.getD_eq_getElem?_getD, List.getElem?_eq_getElem ha]; rfl
      rw [this] at ht2
      omega
    have hlen : ((n : Int) :: q).length = q.length + 1 := rfl
    simp only [hlen] at h6
    rw [decide_eq_true (by omega : 0 < (((n : Int) :: q).length : Int)), cond_true, gd_true rfl, gd_true (decide_eq_true (by omega)), show ((n : Int) :: q).getD 0 0 = (n : Int) from rfl, gd_true (decide_eq_true (by omega)), gd_true (decide_eq_true (by omega)), Int.toNat_natCast]
    dsimp only
    have v := visit_ok (k := k) (N.getD n []) t q h1 hin
    refine (reach_l10 kf (N.getD n []) (by omega) hin _ (N.getD n []).length kk 0 t q (by omega) (by omega) h1 (by omega)).trans ?_
    rw [List.drop_zero]
    generalize visit t q (N.getD n []) = w at v ⊢
    obtain ⟨t', q'⟩ := w
    dsimp only at v ⊢
    have hsucc : ∀ a, a < m → ((rowN N n a : Nat) : Int) ∈ N.getD n [] := by
      intro a ha
      obtain ⟨t'', ht1, ht2⟩ := r2 a ha
      unfold rowN
      rw [ht2, Int.toNat_natCast, ← ht2]
      have hal : a < (N.getD n []).length := by omega
      exact getD_mem _ a hal 0
    refine hrest (t', q') ⟨v.len, fun s hs hst => ?_, v.mono 0 h3, fun x hx => ?_, fun s hs hst => ?_, ?_⟩ ?_
    · rcases v.new s hst with g | g
      · exact h2 s hs g
      · obtain ⟨a, ha, hae⟩ := List.getElem_of_mem g
        have hgd : (N.getD n []).getD a 0 = (s : Int) := by rw [List.getD_eq_getElem?_getD, List.getElem?_eq_getElem ha]; exact hae
        have := rch_step h (h2 n hn hnt) (a := a) (by omega)
        unfold rowN at this
        rwa [hgd, Int.toNat_natCast] at this
    · rcases v.of x hx with g | g
      · obtain ⟨n', q1, q2, q3⟩ := h4 x (List.mem_cons_of_mem _ g)
        exact ⟨n', q1, q2, v.mono _ q3⟩
      · have hx' := hin x g
        exact ⟨x.toNat, by omega, by omega, v.all x g⟩
    · by_cases hsn : s = n
      · subst hsn
        right
        intro a ha
        have := v.all _ (hsucc a ha)
        rwa [Int.toNat_natCast] at this
      · rcases v.wait s hst with g | g
        · rcases h5 s hs g with q1 | q1
          · rcases List.mem_cons.1 q1 with q1 | q1
            · exact absurd (by omega) hsn
            · exact .inl (v.old _ q1)
          · exact .inr fun a ha => v.mono _ (q1 a ha)
        · exact .inl g
    · have := v.μ
      show 2 * falses k t' + q'.length ≤ 5000
      omega
    · have := v.μ
      show 2 * falses k t' + q'.length < 2 * falses k t + ((n : Int) :: q).length
      rw [hlen]; omega

/-! ### which are live -/
theorem live_l16 (kf : Nat) (F : List (List Int)) (t : List Bool) (ht : t.length ≤ 100000) (Ke : List (List Int) → List Bool → List Int → Option R) :
    ∀ (d kk i : Nat) (q : List Int), i + d = t.length → d < kk → q.length ≤ i →
    machine_Live_l16 kf kk (t.length : Int) F t Ke (i : Int) q = Ke F t (q ++ ((List.range' i d).filter fun s => t.getD s false).map fun s : Nat => (s : Int))
  | d, 0, i, q, _, h, _ => by omega
  | 0, kk + 1, i, q, hi, _, _ => by
    have : decide ((i : Int) < (t.length : Int)) = false := decide_eq_false (by omega)
    rw [machine_Live_l16]
    unfold machine_Live_l16_b
    rw [this, cond_false]; simp
  | d + 1, kk + 1, i, q, hi, hk, hq => by
    have g0 : decide (0 ≤ (i : Int)) = true := decide_eq_true (by omega)
    have g1 : decide ((i : Int) < (t.length : Int)) = true := decide_eq_true (by omega)
    rw [machine_Live_l16]
    unfold machine_Live_l16_b
    rw [g1, cond_true, g0, gd_true rfl, gd_true rfl, Int.toNat_natCast, wi_1 i (by omega), List.range'_succ, List.filter_cons]
    cases hv : t.getD i false with
    | true =>
      rw [cond_true, gd_true (decide_eq_true (by rw [small_eq]; simp; omega)), live_l16 kf F t ht Ke d kk (i + 1) _ (by omega) (by omega) (by simp; omega), if_pos rfl, List.map_cons, List.append_assoc]
      rfl
    | false =>
      rw [cond_false, live_l16 kf F t ht Ke d kk (i + 1) q (by omega) (by omega) (by omega), if_neg (by decide)]

theorem live_l25 (kf : Nat) (F : List (List Int)) (L : List Int) (hL : L.length ≤ 10000000) (hin : ∀ x ∈ L, 0 ≤ x ∧ x < (k : Int)) (Ke : List (List Int) → List Bool → List Int → Option R) :
    ∀ (d kk i : Nat) (t : List Bool) (q : List Int), i + d = L.length → d < kk → t.length = k → 2 * falses k t + q.length ≤ 6000 →
    machine_Live_l25 kf kk L (L.length : Int) F Ke (i : Int) t q = Ke F (visit t q (L.drop i)).1 (visit t q (L.drop i)).2
  | d, 0, i, t, q, _, h, _, _ => by omega
  | 0, kk + 1, i, t, q, hi, _, _, _ => by
    have : decide ((i : Int) < (L.length : Int)) = false := decide_eq_false (by omega)
    rw [machine_Live_l25]
    unfold machine_Live_l25_b
    rw [this, cond_false, List.drop_eq_nil_of_le (by omega)]; rfl
  | d + 1, kk + 1, i, t, q, hi, hk, ht, hq => by
    have hl : i < L.length := by omega
    have g0 : decide (0 ≤ (i : Int)) = true := decide_eq_true (by omega)
    have g1 : decide ((i : Int) < (L.length : Int)) = true := decide_eq_true (by omega)
    have hx := hin _ (List.getElem_mem hl)
    have hgd : L.getD i 0 = L[i] := by rw [List.getD_eq_getElem?_getD, List.getElem?_eq_getElem hl]; rfl
    rw [machine_Live_l25]
    unfold machine_Live_l25_b
    rw [g1, cond_true, g0, gd_true rfl, gd_true rfl, Int.toNat_natCast, hgd, gd_true (decide_eq_true hx.1), gd_true (decide_eq_true (by omega)), gd_true (decide_eq_true hx.1), gd_true (decide_eq_true (by omega)), wi_1 i (by omega), List.drop_eq_getElem_cons hl]
    unfold visit
    cases hv : t.getD (L[i]).toNat false with
    | true =>
      rw [if_pos rfl, cond_true]
      exact live_l25 kf F L hL hin Ke d kk (i + 1) t q (by omega) (by omega) ht hq
    | false =>
      have hfl := falses_set (k := k) ht (i := (L[i]).toNat) (by omega) hv
      rw [if_neg (by decide), cond_false, gd_true (decide_eq_true (by rw [small_eq]; simp; omega))]
      exact live_l25 kf F L hL hin Ke d kk (i + 1) _ _ (by omega) (by omega) (by rw [List.length_set]; exact ht) (by rw [List.length_append, List.length_singleton]; omega)

/-- who leads to a state -/
theorem pushRow_iff (s : Int) : ∀ (l : List Int) (X : Nat → List Int) (i : Nat) (x : Int), (∀ y ∈ l, 0 ≤ y) → (x ∈ pushRow X s l i ↔ x ∈ X i ∨ (x = s ∧ (i : Int) ∈ l))
  | [], X, i, x, _ => by simp [pushRow]
  | y :: r, X, i, x, h => by
    have hy := h y List.mem_cons_self
    rw [pushRow, pushRow_iff s r _ i x fun z hz => h z (List.mem_cons_of_mem _ hz)]
    by_cases hi : i = y.toNat
    · have e : (i : Int) = y := by omega
      rw [if_pos hi, ← hi, List.mem_append, List.mem_singleton, List.mem_cons]
      constructor
      · rintro ((q | q) | q)
        · exact .inl q
        · exact .inr ⟨q, .inl e⟩
        · exact .inr ⟨q.1, .inr q.2⟩
      · rintro (q | ⟨q1, q2 | q2⟩)
        · exact .inl (.inl q)
        · exact .inl (.inr q1)
        · exact .inr ⟨q1, q2⟩
    · have e : (i : Int) ≠ y := by omega
      rw [if_neg hi, List.mem_cons]
      constructor
      · rintro (q | q)
        · exact .inl q
        · exact .inr ⟨q.1, .inr q.2⟩
      · rintro (q | ⟨q1, q2 | q2⟩)
        · exact .inl q
        · exact absurd q2 e
        · exact .inr ⟨q1, q2⟩
theorem pushRows_iff : ∀ (r : List (List Int)) (s : Nat) (X : Nat → List Int) (i : Nat) (x : Int), (∀ l ∈ r, ∀ y ∈ l, 0 ≤ y) → (x ∈ pushRows X s r i ↔ x ∈ X i ∨ ∃ j : Nat, j < r.length ∧ x = ((s + j : Nat) : Int) ∧ (i : Int) ∈ r.getD j [])
  | [], s, X, i, x, _ => by simp [pushRows]
  | l :: r, s, X, i, x, h => by
    rw [pushRows, pushRows_iff r (s + 1) _ i x fun l' hl' => h l' (List.mem_cons_of_mem _ hl'), pushRow_iff (s : Int) l X i x (h l List.mem_cons_self)]
    constructor
    · rintro ((q | ⟨q1, q2⟩) | ⟨j, j1, j2, j3⟩)
      · exact .inl q
      · exact .inr ⟨0, by simp, by simpa using q1, q2⟩
      · exact .inr ⟨j + 1, by simp; omega, by rw [j2]; congr 1; omega, by simpa using j3⟩
    · rintro (q | ⟨j, j1, j2, j3⟩)
      · exact .inl (.inl q)
      · cases j with
        | zero => exact .inl (.inr ⟨by simpa using j2, by simpa using j3⟩)
        | succ j => exact .inr ⟨j, by simp at j1; omega, by rw [j2]; congr 1; omega, by simpa using j3⟩

theorem row_in (h : Mch C N E k m) {n : Nat} (hn : n < k) : ∀ x ∈ N.getD n [], 0 ≤ x ∧ x < (k : Int) := by
  obtain ⟨r1, r2⟩ := h.row n hn
  intro x hx
  obtain ⟨a, ha, rfl⟩ := List.getElem_of_mem hx
  obtain ⟨t', ht1, ht2⟩ := r2 a (by omega)
  have : (N.getD n []).getD a 0 = (N.getD n [])[a] := by rw [List.getD_eq_getElem?_getD, List.getElem?_eq_getElem ha]; rfl
  rw [this] at ht2
  omega
theorem rows_in (h : Mch C N E k m) : ∀ l ∈ N, ∀ x ∈ l, 0 ≤ x ∧ x < (k : Int) := by
  intro l hl x hx
  obtain ⟨n, hn, rfl⟩ := List.getElem_of_mem hl
  have hN := h.nl
  have := row_in h (n := n) (by omega) x
  rw [List.getD_eq_getElem?_getD, List.getElem?_eq_getElem hn] at this
  exact this hx
theorem rows_tot (h : Mch C N E k m) : N.flatten.length ≤ 600000 := by
  have hN := h.nl; have hk2 := h.k2; have hm2 := h.m2
  have key : ∀ L : List (List Int), (∀ l ∈ L, l.length ≤ 256) → L.flatten.length ≤ L.length * 256 := by
    intro L
    induction L with
    | nil => intro _; simp
    | cons l r ih =>
      intro hl
      have h1 := hl l List.mem_cons_self
      have h2 := ih fun x hx => hl x (List.mem_cons_of_mem _ hx)
      rw [List.flatten_cons, List.length_append, List.length_cons]
      omega
  have := key N fun l hl => by
    obtain ⟨n, hn, rfl⟩ := List.getElem_of_mem hl
    have := (h.row n (by omega)).1
    rw [List.getD_eq_getElem?_getD, List.getElem?_eq_getElem hn] at this
    have : N[n].length = m := this
    omega
  have : N.length * 256 ≤ 2000 * 256 := Nat.mul_le_mul_right _ (by omega)
  omega
theorem from_ok (h : Mch C N E k m) : fromG N = true := by
  have hN := h.nl; have hk2 := h.k2
  have := rows_tot h
  unfold fromG
  simp only [Bool.and_eq_true, List.all_eq_true, decide_eq_true_eq]
  have hS : SMALL = 17179869184 := rfl
  refine ⟨fun l hl x hx => ?_, by omega, by omega⟩
  have := rows_in h l hl x hx
  omega
theorem from_getD (h : Mch C N E k m) {u : Nat} (hu : u < k) : (fromK N).getD u [] = pushRows (fun _ => []) 0 N u := by
  have hN := h.nl
  unfold fromK
  rw [List.getD_eq_getElem?_getD, List.getElem?_map, List.getElem?_range (by omega)]; rfl
theorem from_iff (h : Mch C N E k m) {u : Nat} (hu : u < k) (x : Int) : x ∈ (fromK N).getD u [] ↔ ∃ s : Nat, s < k ∧ x = (s : Int) ∧ ∃ a, a < m ∧ rowN N s a = u := by
  have hN := h.nl
  rw [from_getD h hu, pushRows_iff N 0 _ u x fun l hl y hy => (rows_in h l hl y hy).1]
  simp only [List.not_mem_nil, false_or, Nat.zero_add]
  constructor
  · rintro ⟨j, j1, j2, j3⟩
    refine ⟨j, by omega, j2, ?_⟩
    obtain ⟨a, ha, hae⟩ := List.getElem_of_mem j3
    obtain ⟨r1, _⟩ := h.row j (by omega)
    refine ⟨a, by omega, ?_⟩
    unfold rowN
    rw [show (N.getD j []).getD a 0 = (u : Int) by rw [List.getD_eq_getElem?_getD (l := N.getD j []), List.getElem?_eq_getElem ha]; exact hae, Int.toNat_natCast]
  · rintro ⟨s, s1, s2, a, a1, a2⟩
    refine ⟨s, by omega, s2, ?_⟩
    obtain ⟨r1, r2⟩ := h.row s s1
    obtain ⟨t', ht1, ht2⟩ := r2 a a1
    have : (u : Int) = (N.getD s []).getD a 0 := by rw [← a2]; unfold rowN; rw [ht2, Int.toNat_natCast]
    rw [this]
    exact getD_mem _ a (by omega) 0
theorem from_len (h : Mch C N E k m) {u : Nat} (hu : u < k) : ((fromK N).getD u []).length ≤ 600000 := by
  rw [from_getD h hu]
  have := pushRows_len N 0 (fun _ => []) u
  have := rows_tot h
  simp only [List.length_nil] at *
  omega

theorem mlive_ok (h : Mch C N E k m) (kf : Nat) (hkf : 700000 ≤ kf) (K : List Bool → Option R) (T : Option R)
    (hT : ∀ t : List Bool, t.length = k → (∀ s, s < k → (t.getD s false = true ↔ live C N E s)) → K t = T) : machine_Live kf C N E K = T := by
  have hN := h.nl; have hE := h.el; have hk2 := h.k2; have hk1 := h.k1; have hm2 := h.m2
  unfold machine_Live machine_Live_b live0
  rw [may_ok h kf (by omega), Bool.not_true, cond_false, from_ok h, gd_true rfl]
  unfold live3
  rw [gdd (by rw [small_eq]; omega)]
  refine (live_l16 kf (fromK N) E (by omega) _ E.length kf 0 [] (by omega) (by omega) (by simp)).trans ?_
  rw [List.nil_append]
  obtain ⟨q0, hq0⟩ : ∃ q0, q0 = ((List.range' 0 E.length).filter fun s => E.getD s false).map fun s : Nat => (s : Int) := ⟨_, rfl⟩
  rw [← hq0]
  have hq1 : ∀ s : Nat, (s : Int) ∈ q0 ↔ s < k ∧ E.getD s false = true := by
    intro s
    rw [hq0]
    simp only [List.mem_map, List.mem_filter, List.mem_range'_1]
    constructor
    · rintro ⟨a, ⟨⟨_, a1⟩, a2⟩, a3⟩
      have : a = s := by omega
      subst this
      exact ⟨by omega, a2⟩
    · rintro ⟨s1, s2⟩
      exact ⟨s, ⟨⟨by omega, by omega⟩, s2⟩, rfl⟩
  have hq2 : ∀ x ∈ q0, ∃ n : Nat, n < k ∧ x = (n : Int) ∧ E.getD n false = true := by
    intro x hx
    rw [hq0] at hx
    simp only [List.mem_map, List.mem_filter, List.mem_range'_1] at hx
    obtain ⟨a, ⟨⟨_, a1⟩, a2⟩, a3⟩ := hx
    exact ⟨a, by omega, a3.symm, a2⟩
  have hq3 : q0.length ≤ k := by
    rw [hq0, List.length_map]
    have := List.length_filter_le (fun s => E.getD s false) (List.range' 0 E.length)
    rw [List.length_range'] at this
    omega
  have hfl := falses_le k E
  refine loop_meas (fun kk (acc : List Bool × List Int) => machine_Live_l21 kf kk (fun v26 => K v26) (fromK N) acc.1 acc.2) T (fun acc => 2 * falses k acc.1 + acc.2.length) 650000
    (fun acc => acc.1.length = k ∧ (∀ s, s < k → acc.1.getD s false = true → live C N E s) ∧ (∀ s, s < k → en E s = true → acc.1.getD s false = true) ∧ (∀ x ∈ acc.2, ∃ n : Nat, n < k ∧ x = (n : Int) ∧ acc.1.getD n false = true) ∧
      (∀ u : Nat, u < k → acc.1.getD u false = true → (u : Int) ∈ acc.2 ∨ ∀ s, s < k → ∀ a, a < m → rowN N s a = u → acc.1.getD s false = true) ∧ 2 * falses k acc.1 + acc.2.length ≤ 6000) ?_ kf (E, q0)
    (by show 2 * falses k E + q0.length + 650000 < kf; omega)
    ⟨hE, fun s hs q => ⟨[], by simp, q⟩, fun s hs q => q, hq2, fun u hu q => .inl ((hq1 u).2 ⟨hu, q⟩), by show 2 * falses k E + q0.length ≤ 6000; omega⟩
  rintro kk ⟨t, q⟩ hB ⟨h1, h2, h3, h4, h5, h6⟩ hrest
  dsimp only at h1 h2 h3 h4 h5 h6 hrest ⊢
  rw [machine_Live_l21]
  unfold machine_Live_l21_b
  cases q with
  | nil =>
    refine (?_ : _ = K t).trans (hT t h1 fun s hs => ⟨h2 s hs, fun hr => ?_⟩)
    · rfl
    · obtain ⟨v, hv, he⟩ := hr
      refine live_in h t h3 (fun j hj htj a ha => ?_) v s hs hv he
      cases hh : t.getD ((N.getD j []).getD a 0).toNat false with
      | false => rfl
      | true =>
        exfalso
        rcases h5 _ (h.row_lt hj ha).1 hh with g | g
        · simp at g
        · have := g j hj a ha rfl
          rw [htj] at this; cases this
  | cons x q =>
    obtain ⟨n, hn, rfl, hnt⟩ := h4 x List.mem_cons_self
    have hF : (fromK N).length = k := by unfold fromK; simp [hN]
    have hin : ∀ x ∈ (fromK N).getD n [], 0 ≤ x ∧ x < (k : Int) := by
      intro x hx
      obtain ⟨s, s1, s2, _⟩ := (from_iff h hn x).1 hx
      omega
    have hlen : ((n : Int) :: q).length = q.length + 1 := rfl
    have hfln := from_len h hn
    simp only [hlen] at h6
    rw [decide_eq_false (by omega : ¬ (((n : Int) :: q).length : Int) = 0), cond_false, gd_true (decide_eq_true (by omega)), gd_true (decide_eq_true (by omega)), show ((n : Int) :: q).getD 0 0 = (n : Int) from rfl, gd_true (decide_eq_true (by omega)), gd_true (decide_eq_true (by omega)), Int.toNat_natCast]
    dsimp only
    have v := visit_ok (k := k) ((fromK N).getD n []) t q h1 hin
    refine (live_l25 kf (fromK N) ((fromK N).getD n []) (by omega) hin _ ((fromK N).getD n []).length kk 0 t q (by omega) (by omega) h1 (by omega)).trans ?_
    rw [List.drop_zero]
    generalize visit t q ((fromK N).getD n []) = w at v ⊢
    obtain ⟨t', q'⟩ := w
    dsimp only at v ⊢
    refine hrest (t', q') ⟨v.len, fun s hs hst => ?_, fun s hs he => v.mono s (h3 s hs he), fun x hx => ?_, fun u hu hut => ?_, ?_⟩ ?_
    · rcases v.new s hst with g | g
      · exact h2 s hs g
      · obtain ⟨s', s1, s2, a, a1, a2⟩ := (from_iff h hn _).1 g
        have : s' = s := by omega
        subst this
        refine live_step h a1 ?_
        have := h2 n hn hnt
        rw [← a2] at this
        exact this
    · rcases v.of x hx with g | g
      · obtain ⟨n', q1, q2, q3⟩ := h4 x (List.mem_cons_of_mem _ g)
        exact ⟨n', q1, q2, v.mono _ q3⟩
      · have hx' := hin x g
        exact ⟨x.toNat, by omega, by omega, v.all x g⟩
    · by_cases hun : u = n
      · subst hun
        right
        intro s hs a ha hsa
        have := v.all (s : Int) ((from_iff h hu _).2 ⟨s, hs, rfl, a, ha, hsa⟩)
        rwa [Int.toNat_natCast] at this
      · rcases v.wait u hut with g | g
        · rcases h5 u hu g with q1 | q1
          · rcases List.mem_cons.1 q1 with q1 | q1
            · exact absurd (by omega) hun
            · exact .inl (v.old _ q1)
          · exact .inr fun s hs a ha e => v.mono _ (q1 s hs a ha e)
        · exact .inl g
    · have := v.μ
      show 2 * falses k t' + q'.length ≤ 6000
      omega
    · have := v.μ
      show 2 * falses k t' + q'.length < 2 * falses k t + ((n : Int) :: q).length
      rw [hlen]; omega
end
end Go.Ab.T

/- Machines: the program's runs, copies and flips. -/
namespace Go.Ab.T
open Go Go.Ab
set_option linter.unusedVariables false
set_option linter.unusedSimpArgs false
section
variable {R : Type} {C : List Int} {N : List (List Int)} {E : List Bool} {k m : Nat}

theorem mto_ok (h : Mch C N E k m) (kf : Nat) (hkf : 6000 ≤ kf) (s : Nat) (hs : s < k) (w : List Nat) (hw : ∀ b ∈ w, b < 256) (hl : w.length < 3000) (K : Int → Option R) : machine_To kf C N E (s : Int) (cast w) K = K ((dls C N s w : Nat) : Int) := by
  unfold machine_To machine_To_b
  have hN := h.nl; have hm2 := h.m2
  rw [may_ok h kf (by omega), decide_eq_false (show ¬ ((s : Int) < 0) by omega), decide_eq_false (show ¬ ((N.length : Int) ≤ (s : Int)) by omega)]
  simp only [Bool.not_true, cond_false]
  refine loop_inv (fun kk i (acc : Nat) => machine_To_l4 kf kk (cast w) ((cast w).length : Int) C N (fun v14 => K v14) (acc : Int) (i : Int)) _ w.length 0
    (fun i acc => acc = dls C N s (w.take i)) ?_ ?_ w.length kf 0 s (by omega) (by omega) rfl
  · rintro kk acc rfl
    have hd : decide ((w.length : Int) < ((cast w).length : Int)) = false := decide_eq_false (by rw [cast_len]; omega)
    simp only [machine_To_l4, machine_To_l4_b, hd, cond_false, List.take_length]
  · rintro kk i acc _ hi rfl
    left
    have hsi : dls C N s (w.take i) < k := h.dls_lt hs fun b hb => hw b (mem_take hb)
    have hb := hw _ (getD_mem w i hi 0)
    have hcw : (cast w).getD i 0 = ((w.getD i 0 : Nat) : Int) := map_getD w i
    rw [take_snoc w i hi 0]
    generalize hx : dls C N s (w.take i) = x at hsi
    generalize hbb : w.getD i 0 = b at hb hcw
    obtain ⟨c1, c2⟩ := h.cls_lt b hb
    have hdl : dl C N x b = ((N.getD x []).getD (C.getD b 0).toNat 0).toNat := rfl
    obtain ⟨t1, t2⟩ := h.row_lt hsi c1
    rw [← hdl] at t1 t2
    have hrow := h.row x hsi
    refine ⟨dl C N x b, by rw [dls_snoc, hx], ?_⟩
    generalize hcc : (C.getD b 0).toNat = cc at c1 c2 t2 hdl
    have hd : decide ((i : Int) < ((cast w).length : Int)) = true := decide_eq_true (by rw [cast_len]; omega)
    have g1 : decide (0 ≤ (i : Int)) = true := decide_eq_true (by omega)
    have g2 : decide (0 ≤ (x : Int)) = true := decide_eq_true (by omega)
    have g3 : decide ((x : Int) < (N.length : Int)) = true := decide_eq_true (by omega)
    have g4 : decide (0 ≤ (b : Int)) = true := decide_eq_true (by omega)
    have g5 : decide ((b : Int) < 256) = true := decide_eq_true (by omega)
    have g6 : decide (0 ≤ (cc : Int)) = true := decide_eq_true (by omega)
    have g7 : decide ((cc : Int) < ((N.getD x []).length : Int)) = true := decide_eq_true (by omega)
    simp only [machine_To_l4, machine_To_l4_b, hd, g1, g2, g3, gd, cond_true, Int.toNat_natCast, hcw, g4, g5, c2, g6, g7, t2, wi_1 i (show i < 4000000000000000000 by omega)]

theorem mrun_ok (h : Mch C N E k m) (kf : Nat) (hkf : 6000 ≤ kf) (w : List Nat) (hw : ∀ b ∈ w, b < 256) (hl : w.length < 3000) (K : Bool → Option R) : machine_Run kf C N E (cast w) K = K (en E (dls C N 0 w)) := by
  unfold machine_Run machine_Run_b
  have hk1 := h.k1; have hE := h.el
  have := mto_ok (R := R) h kf hkf 0 (by omega) w hw hl
  rw [show ((0 : Nat) : Int) = 0 from rfl] at this
  rw [this]
  have hlt : dls C N 0 w < k := h.dls_lt (by omega) hw
  rw [decide_eq_true (by omega : (0 : Int) ≤ ((dls C N 0 w : Nat) : Int)), cond_true, gd_true rfl, gd_true (decide_eq_true (by omega)), Int.toNat_natCast]
  rfl

theorem mcopy_ok (h : Mch C N E k m) (kf : Nat) (hkf : 3000 ≤ kf) (K : List Int → List (List Int) → List Bool → Option R) : machine_Copy kf C N E K = K C N E := by
  have hN := h.nl; have hk2 := h.k2; have hm2 := h.m2; have hE := h.el
  unfold machine_Copy machine_Copy_b
  refine loop_inv (fun kk i (acc : List (List Int)) => machine_Copy_l3 kf kk N (N.length : Int) C N E (List.replicate 256 (0 : Int)) [] [] (fun v14 v15 v16 v17 v18 v19 v20 => gd (decide (v16.length < SMALL)) (K v14 v18 v16)) (i : Int) acc) _ N.length 0
    (fun i acc => acc = N.take i) ?_ ?_ N.length kf 0 [] (by omega) (by omega) rfl
  · rintro kk acc rfl
    have hd : decide ((N.length : Int) < (N.length : Int)) = false := decide_eq_false (by omega)
    simp only [machine_Copy_l3, machine_Copy_l3_b, hd, cond_false, List.take_length]
    rw [gdd (by rw [small_eq]; omega)]
  · rintro kk i acc _ hi rfl
    left
    refine ⟨N.take (i + 1), rfl, ?_⟩
    have hd : decide ((i : Int) < (N.length : Int)) = true := decide_eq_true (by omega)
    have g1 : decide (0 ≤ (i : Int)) = true := decide_eq_true (by omega)
    have hr := (h.row i (by omega)).1
    have g2 : decide ((N.getD i []).length < SMALL) = true := decide_eq_true (by rw [small_eq]; omega)
    have g3 : decide ((N.take i).length + [N.getD i []].length < SMALL) = true := decide_eq_true (by rw [small_eq, List.length_take, List.length_singleton]; omega)
    rw [machine_Copy_l3]
    unfold machine_Copy_l3_b
    rw [hd, cond_true, g1, gd_true rfl, gd_true rfl, Int.toNat_natCast, g2, gd_true rfl, g3, gd_true rfl, wi_1 i (by omega), take_snoc N i hi []]

theorem mflip_ok (h : Mch C N E k m) (kf : Nat) (hkf : 6000 ≤ kf) (K : List Int → List (List Int) → List Bool → Option R) : machine_Flip kf C N E K = K C N (E.map fun b => !b) := by
  have hk2 := h.k2; have hE := h.el
  unfold machine_Flip machine_Flip_b
  rw [may_ok h kf (by omega), Bool.not_true, cond_false, mcopy_ok h kf (by omega)]
  refine loop_inv (fun kk i (acc : List Bool) => machine_Flip_l5 kf kk (E.length : Int) (List.replicate 256 (0 : Int)) C [] [] N (fun v16 v17 v18 v19 v20 v21 => K v17 v20 v21) (i : Int) acc) _ E.length 0
    (fun i acc => acc = (E.take i).map (fun b => !b) ++ E.drop i) ?_ ?_ E.length kf 0 E (by omega) (by omega) (by simp)
  · rintro kk acc rfl
    have hd : decide ((E.length : Int) < (E.length : Int)) = false := decide_eq_false (by omega)
    simp only [machine_Flip_l5, machine_Flip_l5_b, hd, cond_false, List.take_length, List.drop_length, List.append_nil]
  · rintro kk i acc _ hi rfl
    left
    refine ⟨_, rfl, ?_⟩
    have hd : decide ((i : Int) < (E.length : Int)) = true := decide_eq_true (by omega)
    have g1 : decide (0 ≤ (i : Int)) = true := decide_eq_true (by omega)
    have hlen : ((E.take i).map (fun b => !b) ++ E.drop i).length = E.length := by simp; omega
    have g2 : decide ((i : Int) < (((E.take i).map (fun b => !b) ++ E.drop i).length : Int)) = true := decide_eq_true (by rw [hlen]; omega)
    have ht : ((E.take i).map (fun b => !b)).length = i := by simp; omega
    have hget : ((E.take i).map (fun b => !b) ++ E.drop i).getD i false = E.getD i false := by
      rw [List.getD_eq_getElem?_getD, List.getElem?_append_right (by omega), ht, Nat.sub_self, List.getElem?_drop, List.getD_eq_getElem?_getD]; rfl
    have hset : ((E.take i).map (fun b => !b) ++ E.drop i).set i (!(E.getD i false)) = (E.take (i + 1)).map (fun b => !b) ++ E.drop (i + 1) := by
      rw [List.set_append, if_neg (by omega), ht, Nat.sub_self, List.drop_eq_getElem_cons hi, List.set_cons_zero, take_snoc E i hi false, List.map_append, List.append_assoc]
      rfl
    rw [machine_Flip_l5]
    unfold machine_Flip_l5_b
    rw [hd, cond_true, g1, gd_true rfl, g2, gd_true rfl, gd_true rfl, gd_true rfl, Int.toNat_natCast, wi_1 i (by omega), hget, hset]

/-- lists of bits that say the same -/
theorem bools_ext {P : Nat → Prop} {a b : List Bool} (ha : a.length = k) (hb : b.length = k) (h1 : ∀ s, s < k → (a.getD s false = true ↔ P s)) (h2 : ∀ s, s < k → (b.getD s false = true ↔ P s)) : a = b := by
  refine ext_getD false (by omega) fun i hi => ?_
  have := (h1 i (by omega)).trans (h2 i (by omega)).symm
  cases h3 : a.getD i false with
  | true => exact (this.1 h3).symm
  | false =>
    cases h4 : b.getD i false with
    | false => rfl
    | true => rw [this.2 h4] at h3; cases h3

theorem cast_of {l : List Int} (hl : ∀ x ∈ l, 0 ≤ x ∧ x ≤ 255) : ∃ w : List Nat, cast w = l ∧ (∀ b ∈ w, b < 256) ∧ w.length = l.length := by
  refine ⟨l.map Int.toNat, ?_, ?_, by simp⟩
  · unfold cast
    rw [List.map_map]
    refine (List.map_congr_left (g := id) fun x hx => ?_).trans (List.map_id l)
    have := hl x hx
    show ((x.toNat : Nat) : Int) = x
    omega
  · intro b hb
    obtain ⟨x, hx, rfl⟩ := List.mem_map.1 hb
    have := hl x hx
    omega

/-! ### what is begun -/
abbrev rep0 : List Int := List.replicate 256 (0 : Int)
theorem rep0_getD (j : Nat) : rep0.getD j 0 = 0 := getD_rep 256 j 0
theorem one_mch (e : Bool) : Mch rep0 [[0]] [e] 1 1 where
  cl := List.length_replicate
  clr := fun b hb => ⟨0, by omega, rep0_getD _⟩
  inh := fun a ha => ⟨0, by omega, by rw [rep0_getD]; omega⟩
  nl := rfl
  el := rfl
  k1 := by omega
  k2 := by omega
  m1 := by omega
  m2 := by omega
  row := by
    intro s hs
    have : s = 0 := by omega
    subst this
    exact ⟨rfl, fun a ha => ⟨0, by omega, by
    have : a = 0 := by omega
    subst this; rfl⟩⟩
theorem begun11_ok (kf : Nat) (hkf : 700000 ≤ kf) (K : Bool → Option R) : law11_begun kf K = K true := by
  have h := one_mch true
  have hf := one_mch false
  have hr0 : ∀ K : Bool → Option R, machine_Run kf rep0 [[0]] [true] [] K = K true := fun K => mrun_ok h kf (by omega) [] (by simp) (by simp) K
  have hr1 : ∀ K : Bool → Option R, machine_Run kf rep0 [[0]] [false] [] K = K false := fun K => mrun_ok hf kf (by omega) [] (by simp) (by simp) K
  have hto : ∀ K : Int → Option R, machine_To kf rep0 [[0]] [true] 0 [97] K = K 0 := fun K => by
    have := mto_ok h kf (by omega) 0 (by omega) [97] (by simp) (by simp) K
    rw [show dls rep0 [[0]] 0 [97] = 0 by unfold dls dls dl; rw [rep0_getD]; rfl] at this
    exact this
  unfold law11_begun law11_begun_b
  rw [may_ok h kf (by omega), cond_true, classesC_ok h kf (by omega), show decide (((1 : Nat) : Int) = 1) = true from rfl, cond_true, hr0, cond_true, mflip_ok h kf (by omega)]
  rw [show ([true].map fun b => !b) = [false] from rfl, hr1, Bool.not_false, cond_true, gd_true (by decide), hto, decide_eq_true rfl, cond_true]
  refine mreach_ok h kf (by omega) _ _ fun t ht _ => ?_
  rw [ht, show decide (((1 : Nat) : Int) = 1) = true from rfl, cond_true]
  refine mlive_ok h kf (by omega) _ _ fun t' ht' _ => ?_
  rw [ht', show decide (((1 : Nat) : Int) = 1) = true from rfl, cond_true, mcopy_ok h kf (by omega), same_ok h kf (by omega), decide_eq_true ⟨rfl, rfl, rfl⟩]

/-! ### the laws -/
theorem dls_app (C : List Int) (N : List (List Int)) : ∀ (v w : List Nat) (s : Nat), dls C N s (v ++ w) = dls C N (dls C N s v) w
  | [], w, s => rfl
  | b :: v, w, s => dls_app C N v w (dl C N s b)
theorem cast_app (v w : List Nat) : cast v ++ cast w = cast (v ++ w) := by unfold cast; rw [List.map_append]

end
end Go.Ab.T
