/- LeaM: a part of the proofs of this seat's statements. -/
import Derived.Test.YtnnojemckfikfaaLeaATA
import Derived.Laws.BitsLemmas
import Derived.Laws.BitsAllLaws
/- Plain lemmas of loops and lists. -/
namespace Go.Ab.T

/-- a loop that counts up to n: what holds at its head holds on, and at its end (or at a way out) it comes to T -/
theorem loop_inv {α R : Type} (L : Nat → Nat → α → R) (T : R) (n B : Nat) (I : Nat → α → Prop)
    (hexit : ∀ k acc, I n acc → L (k + 1) n acc = T)
    (hstep : ∀ k c acc, B ≤ k → c < n → I c acc → (∃ acc', I (c + 1) acc' ∧ L (k + 1) c acc = L k (c + 1) acc') ∨ L (k + 1) c acc = T) :
    ∀ m k c acc, c + m = n → m + B < k → I c acc → L k c acc = T
  | m, 0, c, acc, _, h, _ => by omega
  | 0, k + 1, c, acc, hc, h, hi => by
    have : c = n := by omega
    subst this
    exact hexit k acc hi
  | m + 1, k + 1, c, acc, hc, h, hi => by
    rcases hstep k c acc (by omega) (by omega) hi with ⟨acc', h1, h2⟩ | h1
    · rw [h2]
      exact loop_inv L T n B I hexit hstep m k (c + 1) acc' (by omega) (by omega) h1
    · exact h1

/-- the same, by what follows -/
theorem loop_all {α R : Type} (L : Nat → Nat → α → R) (T : R) (n B : Nat) (I : Nat → α → Prop)
    (hexit : ∀ k acc, I n acc → L (k + 1) n acc = T)
    (hstep : ∀ k c acc, B ≤ k → c < n → I c acc → (∀ acc', I (c + 1) acc' → L k (c + 1) acc' = T) → L (k + 1) c acc = T) :
    ∀ m k c acc, c + m = n → m + B < k → I c acc → L k c acc = T
  | m, 0, c, acc, _, h, _ => by omega
  | 0, k + 1, c, acc, hc, h, hi => by
    have : c = n := by omega
    subst this
    exact hexit k acc hi
  | m + 1, k + 1, c, acc, hc, h, hi =>
    hstep k c acc (by omega) (by omega) hi fun acc' h' => loop_all L T n B I hexit hstep m k (c + 1) acc' (by omega) (by omega) h'

/-- a loop with a measure -/
theorem loop_meas {α R : Type} (L : Nat → α → R) (T : R) (μ : α → Nat) (B : Nat) (I : α → Prop)
    (hstep : ∀ k acc, B ≤ k → I acc → (∀ acc', I acc' → μ acc' < μ acc → L k acc' = T) → L (k + 1) acc = T) :
    ∀ k acc, μ acc + B < k → I acc → L k acc = T
  | 0, acc, h, _ => by omega
  | k + 1, acc, h, hi => hstep k acc (by omega) hi fun acc' h' hm => loop_meas L T μ B I hstep k acc' (by omega) h'

theorem take_snoc {α : Type} (l : List α) (c : Nat) (h : c < l.length) (d : α) : l.take (c + 1) = l.take c ++ [l.getD c d] := by
  rw [List.take_add_one, List.getD_eq_getElem?_getD, List.getElem?_eq_getElem h]
  rfl
theorem getD_mem {α : Type} (l : List α) (c : Nat) (h : c < l.length) (d : α) : l.getD c d ∈ l := by
  rw [List.getD_eq_getElem?_getD, List.getElem?_eq_getElem h]
  exact List.getElem_mem h
theorem take_all {α : Type} (l : List α) : l.take l.length = l := List.take_length
theorem mem_take {α : Type} {l : List α} {c : Nat} {x : α} (h : x ∈ l.take c) : x ∈ l := List.mem_of_mem_take h
end Go.Ab.T

/- Machines: which may be, how many classes they have, and which are made of numbers. -/
namespace Go.Ab.T
open Go Go.Ab
set_option linter.unusedVariables false
set_option linter.unusedSimpArgs false

theorem gd_true {R : Type} {b : Bool} (h : b = true) (x : Option R) : gd b x = x := by subst h; rfl
theorem gdd {R : Type} {p : Prop} [Decidable p] (h : p) (x : Option R) : gd (decide p) x = x := gd_true (decide_eq_true h) x
theorem wi_n (n : Nat) (h : n < 4000000000000000000) : IntKind.i64.wrap (n : Int) = (n : Int) := by rw [IntKind.wrap_i64]; omega
theorem wi_1 (n : Nat) (h : n < 4000000000000000000) : IntKind.i64.wrap ((n : Int) + 1) = ((n + 1 : Nat) : Int) := by rw [IntKind.wrap_i64]; omega
theorem small_eq : (SMALL : Nat) = 17179869184 := rfl

/-- a machine of k states and m classes -/
structure Mch (C : List Int) (N : List (List Int)) (E : List Bool) (k m : Nat) : Prop where
  cl : C.length = 256
  clr : ∀ b, b < 256 → ∃ a : Nat, a < m ∧ C.getD b 0 = (a : Int)
  inh : ∀ a, a < m → ∃ b, b < 256 ∧ C.getD b 0 = (a : Int)
  nl : N.length = k
  el : E.length = k
  k1 : 1 ≤ k
  k2 : k ≤ 2000
  m1 : 1 ≤ m
  m2 : m ≤ 256
  row : ∀ s, s < k → (N.getD s []).length = m ∧ ∀ a, a < m → ∃ t : Nat, t < k ∧ (N.getD s []).getD a 0 = (t : Int)

def mxTo (C : List Int) : Nat → Int
  | 0 => C.getD 0 0
  | c + 1 => mx (mxTo C c) (C.getD (c + 1) 0)

section
variable {R : Type} {C : List Int} {N : List (List Int)} {E : List Bool} {k m : Nat}

theorem Mch.mx_le (h : Mch C N E k m) : ∀ c, c < 256 → 0 ≤ mxTo C c ∧ mxTo C c ≤ ((m - 1 : Nat) : Int) ∧ ∀ b, b ≤ c → C.getD b 0 ≤ mxTo C c := by
  intro c
  induction c with
  | zero =>
    intro hc
    obtain ⟨a, h1, h2⟩ := h.clr 0 hc
    refine ⟨by simp only [mxTo]; omega, by simp only [mxTo]; omega, fun b hb => ?_⟩
    have : b = 0 := by omega
    subst this; exact Int.le_refl _
  | succ c ih =>
    intro hc
    obtain ⟨a, h1, h2⟩ := h.clr (c + 1) hc
    obtain ⟨q1, q2, q3⟩ := ih (by omega)
    simp only [mxTo, mx]
    refine ⟨by split <;> omega, by split <;> omega, fun b hb => ?_⟩
    by_cases hbc : b = c + 1
    · subst hbc; split <;> omega
    · have := q3 b (by omega)
      split <;> omega
theorem Mch.mx_eq (h : Mch C N E k m) : mxTo C 255 = ((m - 1 : Nat) : Int) := by
  obtain ⟨q1, q2, q3⟩ := h.mx_le 255 (by omega)
  have hm1 := h.m1
  obtain ⟨b, h1, h2⟩ := h.inh (m - 1) (by omega)
  have := q3 b (by omega)
  omega

theorem max_ok (h : Mch C N E k m) (kf : Nat) (hkf : 3000 ≤ kf) (K : Int → Option R) : slices_Max_uint8_uint8 kf C K = K ((m - 1 : Nat) : Int) := by
  unfold slices_Max_uint8_uint8 slices_Max_uint8_uint8_b
  have hl := h.cl
  rw [decide_eq_false (show ¬ ((C.length : Int) < 1) by omega)]
  simp only [cond_false]
  rw [gdd (by omega)]
  refine loop_inv (fun kk c acc => slices_Max_uint8_uint8_l5 kf kk C (fun v5 => K v5) acc (c : Int)) _ 256 0 (fun c acc => 1 ≤ c ∧ acc = mxTo C (c - 1)) ?_ ?_ 255 kf 1 (C.getD 0 0) (by omega) (by omega) ⟨by omega, rfl⟩
  · rintro kk acc ⟨_, rfl⟩
    have hd : decide (((256 : Nat) : Int) < (C.length : Int)) = false := decide_eq_false (by omega)
    simp only [slices_Max_uint8_uint8_l5, slices_Max_uint8_uint8_l5_b, hd, cond_false]
    rw [h.mx_eq]
  · rintro kk c acc _ hc ⟨h1, rfl⟩
    left
    have hd : decide ((c : Int) < (C.length : Int)) = true := decide_eq_true (by omega)
    have g1 : decide (0 ≤ (c : Int)) = true := decide_eq_true (by omega)
    refine ⟨mx (mxTo C (c - 1)) (C.getD c 0), ⟨by omega, ?_⟩, ?_⟩
    · obtain ⟨d, rfl⟩ : ∃ d, c = d + 1 := ⟨c - 1, by omega⟩
      rfl
    · simp only [slices_Max_uint8_uint8_l5, slices_Max_uint8_uint8_l5_b, hd, g1, gd, cond_true, Int.toNat_natCast, wi_1 c (show c < 4000000000000000000 by omega)]

theorem classes_ok (h : Mch C N E k m) (kf : Nat) (hkf : 3000 ≤ kf) (K : Int → Option R) : machine_classes kf C N E K = K (m : Int) := by
  unfold machine_classes machine_classes_b
  rw [max_ok h kf hkf]
  have := h.m1; have := h.m2
  have e : IntKind.i64.wrap (IntKind.i64.wrap ((m - 1 : Nat) : Int) + 1) = (m : Int) := by
    simp only [IntKind.wrap_i64]; omega
  rw [e]

theorem contains_ok (kf : Nat) (hkf : 3000 ≤ kf) (l : List Int) (hl : l.length ≤ 256) (hr : ∀ a, a < l.length → ∃ t : Nat, t < k ∧ l.getD a 0 = (t : Int)) (K : Bool → Int → Option R) :
    slices_ContainsFunc_int_int kf l (k : Int) K = K false (k : Int) := by
  unfold slices_ContainsFunc_int_int slices_ContainsFunc_int_int_b slices_IndexFunc_int_int_1 slices_IndexFunc_int_int_1_b
  refine loop_inv (fun kk c (_ : Unit) => slices_IndexFunc_int_int_1_l2 kf kk l (l.length : Int) (fun (v9 : Int) (v10 : Int) => K (decide (0 ≤ v9)) v10) (fun (v11 : Int) => K (decide (0 ≤ (-1 : Int))) v11) (c : Int) (k : Int)) _ l.length 0 (fun _ _ => True) ?_ ?_ l.length kf 0 () (by omega) (by omega) trivial
  · intro kk _ _
    have hd : decide ((l.length : Int) < (l.length : Int)) = false := decide_eq_false (by omega)
    simp only [slices_IndexFunc_int_int_1_l2, slices_IndexFunc_int_int_1_l2_b, hd, cond_false]
    rfl
  · intro kk c _ _ hc _
    left
    refine ⟨(), trivial, ?_⟩
    obtain ⟨t, h1, h2⟩ := hr c hc
    have hd : decide ((c : Int) < (l.length : Int)) = true := decide_eq_true (by omega)
    have g1 : decide (0 ≤ (c : Int)) = true := decide_eq_true (by omega)
    have g2 : decide ((t : Int) < 0) = false := decide_eq_false (by omega)
    have g3 : decide ((k : Int) ≤ (t : Int)) = false := decide_eq_false (by omega)
    simp only [slices_IndexFunc_int_int_1_l2, slices_IndexFunc_int_int_1_l2_b, machine_May_1, machine_May_1_b, hd, g1, gd, cond_true, cond_false, Int.toNat_natCast, h2, g2, g3, wi_1 c (show c < 4000000000000000000 by omega)]

theorem may_ok (h : Mch C N E k m) (kf : Nat) (hkf : 3000 ≤ kf) (K : Bool → Option R) : machine_May kf C N E K = K true := by
  unfold machine_May machine_May_b
  have hn := h.nl; have he := h.el; have hk1 := h.k1; have hk2 := h.k2
  rw [decide_eq_false (show ¬ ((N.length : Int) < 1) by omega), decide_eq_false (show ¬ (2000 < (N.length : Int)) by omega), decide_eq_true (show (E.length : Int) = (N.length : Int) by omega)]
  simp only [cond_false, Bool.not_true]
  rw [classes_ok h kf hkf, hn]
  refine loop_inv (fun kk c (_ : Unit) => machine_May_l6 kf kk (m : Int) N (k : Int) (fun (v16 : Bool) => K v16) (K true) (c : Int) (k : Int)) _ k 0 (fun _ _ => True) ?_ ?_ k kf 0 () (by omega) (by omega) trivial
  · intro kk _ _
    have hd : decide ((k : Int) < (k : Int)) = false := decide_eq_false (by omega)
    simp only [machine_May_l6, machine_May_l6_b, hd, cond_false]
  · intro kk c _ _ hc _
    left
    refine ⟨(), trivial, ?_⟩
    obtain ⟨h1, h2⟩ := h.row c hc
    have hd : decide ((c : Int) < (k : Int)) = true := decide_eq_true (by omega)
    have hd2 : decide ((c : Int) < (N.length : Int)) = true := decide_eq_true (by omega)
    have g1 : decide (0 ≤ (c : Int)) = true := decide_eq_true (by omega)
    have hm2 := h.m2
    have hc2 := contains_ok (R := R) (k := k) kf hkf (N.getD c []) (by omega) (by rw [h1]; exact h2)
    have hlen : decide (((N.getD c []).length : Int) = (m : Int)) = true := decide_eq_true (by omega)
    simp only [machine_May_l6, machine_May_l6_b, hd, hd2, g1, gd, cond_true, Int.toNat_natCast, hlen, Bool.not_true, cond_false, hc2, wi_1 c (show c < 4000000000000000000 by omega)]

/-! ### the reference's -/
theorem rclasses_ok (h : Mch C N E k m) (kf : Nat) (hkf : 3000 ≤ kf) (K : Int → Option R) : ref11_Classes kf C N E K = K (m : Int) := by
  unfold ref11_Classes ref11_Classes_b
  have hm1 := h.m1; have hm2 := h.m2
  refine loop_inv (fun kk c acc => ref11_Classes_l3 kf kk C (fun v10 => K v10) acc (c : Int)) _ 256 0 (fun c acc => acc = if c = 0 then 0 else mxTo C (c - 1) + 1) ?_ ?_ 256 kf 0 0 (by omega) (by omega) rfl
  · rintro kk acc rfl
    have hd : decide (((256 : Nat) : Int) < 256) = false := rfl
    simp only [ref11_Classes_l3, ref11_Classes_l3_b, hd, cond_false]
    rw [if_neg (by omega), h.mx_eq]
    congr 1
    omega
  · rintro kk c acc _ hc rfl
    left
    have hd : decide ((c : Int) < 256) = true := decide_eq_true (by omega)
    have g1 : decide (0 ≤ (c : Int)) = true := decide_eq_true (by omega)
    obtain ⟨a, ha1, ha2⟩ := h.clr c hc
    refine ⟨_, rfl, ?_⟩
    simp only [ref11_Classes_l3, ref11_Classes_l3_b, hd, g1, gd, cond_true, Int.toNat_natCast, wi_1 c (show c < 4000000000000000000 by omega), ha2, wi_n a (show a < 4000000000000000000 by omega), wi_1 a (show a < 4000000000000000000 by omega)]
    have e : mx (if c = 0 then 0 else mxTo C (c - 1) + 1) ((a + 1 : Nat) : Int) = if c + 1 = 0 then 0 else mxTo C (c + 1 - 1) + 1 := by
      rw [if_neg (show ¬ (c + 1 = 0) by omega)]
      simp only [Nat.add_sub_cancel]
      cases c with
      | zero =>
        simp only [if_true, mxTo, mx]
        rw [ha2]
        split <;> omega
      | succ d =>
        rw [if_neg (by omega)]
        simp only [Nat.add_sub_cancel, mxTo, mx]
        rw [ha2]
        split <;> split <;> omega
    rw [e]

theorem rmay_ok (h : Mch C N E k m) (kf : Nat) (hkf : 6000 ≤ kf) (K : Bool → Option R) : ref11_May kf C N E K = K true := by
  unfold ref11_May ref11_May_b
  have hn := h.nl; have he := h.el; have hk1 := h.k1; have hk2 := h.k2; have hm2 := h.m2
  rw [rclasses_ok h kf (by omega), decide_eq_false (show ¬ ((N.length : Int) < 1) by omega), decide_eq_false (show ¬ (2000 < (N.length : Int)) by omega), decide_eq_true (show (E.length : Int) = (N.length : Int) by omega)]
  simp only [cond_false, Bool.not_true]
  rw [hn]
  refine loop_inv (fun kk c (_ : Unit) => ref11_May_l5 kf kk (fun (v34 : Bool) => K v34) (K true) (k : Int) (m : Int) (c : Int) C N E) _ k 1000 (fun _ _ => True) ?_ ?_ k kf 0 () (by omega) (by omega) trivial
  · intro kk _ _
    have hd : decide ((k : Int) < (k : Int)) = false := decide_eq_false (by omega)
    simp only [ref11_May_l5, ref11_May_l5_b, hd, cond_false]
  · intro kk c _ hB hc _
    left
    refine ⟨(), trivial, ?_⟩
    obtain ⟨h1, h2⟩ := h.row c hc
    have hd : decide ((c : Int) < (k : Int)) = true := decide_eq_true (by omega)
    have hd2 : decide ((c : Int) < (N.length : Int)) = true := decide_eq_true (by omega)
    have g1 : decide (0 ≤ (c : Int)) = true := decide_eq_true (by omega)
    have hlen : decide (((N.getD c []).length : Int) = (m : Int)) = true := decide_eq_true (by omega)
    simp only [ref11_May_l5, ref11_May_l5_b, hd, hd2, g1, gd, cond_true, Int.toNat_natCast, hlen, Bool.not_true, cond_false]
    refine loop_inv (fun kk2 a (_ : Unit) => ref11_May_l10 kf kk2 (k : Int) (m : Int) (c : Int) C N E (fun (v21 : Bool) (v22 : Int) (v23 : Int) (v24 : Int) (v25 : (List Int)) (v26 : (List (List Int))) (v27 : (List Bool)) => K v21)
        (fun (v28 : Int) (v29 : Int) (v30 : Int) (v31 : (List Int)) (v32 : (List (List Int))) (v33 : (List Bool)) => ref11_May_l5 kf kk (fun (v34 : Bool) => K v34) (K true) v28 v29 (IntKind.i64.wrap (v30 + 1)) v31 v32 v33) (a : Int)) _ m 0 (fun _ _ => True) ?_ ?_ m kk 0 () (by omega) (by omega) trivial
    · intro kk2 _ _
      have hd : decide ((m : Int) < (m : Int)) = false := decide_eq_false (by omega)
      simp only [ref11_May_l10, ref11_May_l10_b, hd, cond_false, wi_1 c (show c < 4000000000000000000 by omega)]
    · intro kk2 a _ _ ha _
      left
      refine ⟨(), trivial, ?_⟩
      obtain ⟨t, ht1, ht2⟩ := h2 a ha
      have hda : decide ((a : Int) < (m : Int)) = true := decide_eq_true (by omega)
      have ga : decide (0 ≤ (a : Int)) = true := decide_eq_true (by omega)
      have gb : decide ((a : Int) < ((N.getD c []).length : Int)) = true := decide_eq_true (by omega)
      have g2 : decide ((t : Int) < 0) = false := decide_eq_false (by omega)
      have g3 : decide ((k : Int) ≤ (t : Int)) = false := decide_eq_false (by omega)
      simp only [ref11_May_l10, ref11_May_l10_b, hda, hd2, g1, ga, gb, gd, cond_true, cond_false, Int.toNat_natCast, ht2, g2, g3, wi_1 a (show a < 4000000000000000000 by omega)]
end

/-! ### machines made of numbers -/
def clsOf (m b : Nat) : Nat := if 97 ≤ b ∧ b < 97 + m then b - 97 else b % 7 % m

/-- the next number -/
theorem num_ok {R : Type} (q : Nat) (hq : 1 ≤ q) (l : List Int) (hl : ∀ x ∈ l, 0 ≤ x ∧ x ≤ 255) (hll : l.length ≤ 1000000) (p : Nat) (hp : p ≤ 10000000) :
    ∃ (t p' : Nat), t < q ∧ p' ≤ p + 1 ∧ ∀ (K : Int → List Int → Int → Option R), play_Picks_num (q : Int) l (p : Int) K = K (t : Int) l (p' : Int) := by
  by_cases h : (l.length : Int) ≤ (p : Int)
  · refine ⟨0, p, by omega, by omega, fun K => ?_⟩
    unfold play_Picks_num play_Picks_num_b
    rw [decide_eq_true h]; rfl
  · have hw : IntKind.i64.wrap ((p : Int) + 1) = ((p + 1 : Nat) : Int) := wi_1 p (by omega)
    have hw2 : IntKind.i64.wrap (((p + 1 : Nat) : Int) - 1) = (p : Int) := by rw [IntKind.wrap_i64]; omega
    have hx := hl _ (getD_mem l p (by omega) 0)
    have hw3 : IntKind.i64.wrap (l.getD p 0) = l.getD p 0 := by rw [IntKind.wrap_i64]; omega
    have hr1 := Int.tmod_nonneg (q : Int) hx.1
    have hr2 := Int.tmod_lt_of_pos (l.getD p 0) (show (0 : Int) < (q : Int) by omega)
    obtain ⟨t, ht⟩ := Int.eq_ofNat_of_zero_le hr1
    refine ⟨t, p + 1, by omega, by omega, fun K => ?_⟩
    unfold play_Picks_num play_Picks_num_b
    rw [decide_eq_false h]
    simp only [cond_false, hw, hw2]
    rw [gdd (by omega), gdd (by omega), gdd (by omega), Int.toNat_natCast, hw3, ht]

theorem row16_ok {R : Type} (kf k0 : Nat) (l : List Int) (hl : ∀ x ∈ l, 0 ≤ x ∧ x ≤ 255) (hll : l.length ≤ 1000000) (q m : Nat) (hq : 1 ≤ q) (hm : m ≤ 256) (hk : m < k0) (v44 : Int) (v46 v49 : List Int) (v51 : List (List Int)) (v52 : List Bool) (v53 : List (List Int)) (v54 : List Bool)
    (Ke : Int → Int → Int → (List Int) → (List Int) → Int → (List Int) → (List Int) → (List (List Int)) → (List Bool) → (List (List Int)) → (List Bool) → Option R) (p : Nat) (hp : p ≤ 1000000) (T : Option R)
    (hT : ∀ (p' : Nat) (r : List Int), p' ≤ p + m → r.length = m → (∀ a, a < m → ∃ t : Nat, t < q ∧ r.getD a 0 = (t : Int)) → Ke (q : Int) (m : Int) v44 v46 l (p' : Int) v49 r v51 v52 v53 v54 = T) :
    play_Dfa_l16 kf k0 (q : Int) (m : Int) v44 v46 v49 v51 v52 v53 v54 Ke 0 l (p : Int) [] = T := by
  refine loop_inv (fun kk a (acc : Nat × List Int) => play_Dfa_l16 kf kk (q : Int) (m : Int) v44 v46 v49 v51 v52 v53 v54 Ke (a : Int) l (acc.1 : Int) acc.2) T m 0
    (fun a acc => acc.1 ≤ p + a ∧ acc.2.length = a ∧ (∀ i, i < a → ∃ t : Nat, t < q ∧ acc.2.getD i 0 = (t : Int)) ∧ a ≤ m) ?_ ?_ m k0 0 (p, []) (by omega) (by omega) ⟨by simp, rfl, fun i hi => by omega, by omega⟩
  · rintro kk ⟨p', r⟩ ⟨h1, h2, h3, _⟩
    have hd : decide ((m : Int) < (m : Int)) = false := decide_eq_false (by omega)
    simp only [play_Dfa_l16, play_Dfa_l16_b, hd, cond_false]
    exact hT p' r h1 h2 h3
  · rintro kk a ⟨p', r⟩ _ ha ⟨h1, h2, h3, _⟩
    simp only at h1 h2 h3
    have hd : decide ((a : Int) < (m : Int)) = true := decide_eq_true (by omega)
    obtain ⟨t, p'', q1, q2, q3⟩ := num_ok (R := R) q hq l hl hll p' (by omega)
    left
    refine ⟨(p'', r ++ [(t : Int)]), ⟨by simp only; omega, by simp [h2], ?_, by omega⟩, ?_⟩
    · intro i hi
      by_cases hia : i < a
      · obtain ⟨t', z1, z2⟩ := h3 i hia
        refine ⟨t', z1, ?_⟩
        simp only
        rw [List.getD_eq_getElem?_getD, List.getElem?_append_left (by omega), ← List.getD_eq_getElem?_getD, z2]
      · have : i = a := by omega
        subst this
        refine ⟨t, q1, ?_⟩
        simp only
        rw [List.getD_eq_getElem?_getD, List.getElem?_append_right (by omega), h2, Nat.sub_self]
        rfl
    · simp only [play_Dfa_l16, play_Dfa_l16_b, hd, cond_true]
      rw [q3, gdd (by show _ < 17179869184; simp; omega), wi_1 a (by omega)]

theorem snoc_getD {α : Type} (l : List α) (x d : α) (i : Nat) : (l ++ [x]).getD i d = if i < l.length then l.getD i d else if i = l.length then x else d := by
  rw [List.getD_eq_getElem?_getD, List.getD_eq_getElem?_getD]
  by_cases h : i < l.length
  · rw [if_pos h, List.getElem?_append_left h]
  · rw [if_neg h, List.getElem?_append_right (by omega)]
    by_cases h2 : i = l.length
    · rw [if_pos h2, h2, Nat.sub_self]; rfl
    · rw [if_neg h2, List.getElem?_eq_none (by simp; omega)]; rfl

theorem cls_mod (m : Nat) (hm1 : 1 ≤ m) (b : Nat) : clsOf m b < m := by
  unfold clsOf
  split
  · omega
  · exact Nat.mod_lt _ hm1

theorem dfa_ok {R : Type} (kf : Nat) (hkf : 3000 ≤ kf) (n c : Int) (hn : 0 ≤ n ∧ n ≤ 255) (hc : 0 ≤ c ∧ c ≤ 255) (l : List Int) (hl : ∀ x ∈ l, 0 ≤ x ∧ x ≤ 255) (hll : l.length ≤ 100) (K : (List Int) → (List (List Int)) → (List Bool) → Option R) (T : Option R)
    (hT : ∀ (C : List Int) (N : List (List Int)) (E : List Bool) (k m : Nat), Mch C N E k m → k ≤ 8 → m ≤ 4 → K C N E = T) : play_Dfa kf n c l K = T := by
  obtain ⟨n, rfl⟩ := Int.eq_ofNat_of_zero_le hn.1
  obtain ⟨c, rfl⟩ := Int.eq_ofNat_of_zero_le hc.1
  unfold play_Dfa play_Dfa_b play_Made play_Made_b
  have e1 : IntKind.i64.wrap (1 + IntKind.i64.wrap (Int.tmod (n : Int) 8)) = ((1 + n % 8 : Nat) : Int) := by
    rw [Int.tmod_eq_emod_of_nonneg (by omega)]; simp only [IntKind.wrap_i64]; omega
  have e2 : IntKind.i64.wrap (1 + IntKind.i64.wrap (Int.tmod (c : Int) 4)) = ((1 + c % 4 : Nat) : Int) := by
    rw [Int.tmod_eq_emod_of_nonneg (by omega)]; simp only [IntKind.wrap_i64]; omega
  rw [e1, e2]
  obtain ⟨k, hk⟩ : ∃ k, k = 1 + n % 8 := ⟨_, rfl⟩
  obtain ⟨m, hm⟩ : ∃ m, m = 1 + c % 4 := ⟨_, rfl⟩
  rw [← hk, ← hm]
  have hk8 : 1 ≤ k ∧ k ≤ 8 := by omega
  have hm4 : 1 ≤ m ∧ m ≤ 4 := by omega
  clear hk hm e1 e2
  refine loop_inv (fun kk b (acc : List Int) => play_Dfa_l5 kf kk (k : Int) (m : Int) (List.replicate 256 (0 : Int)) l 0 ([] : List (List Int)) ([] : List Bool) ([] : List (List Int)) ([] : List Bool) _ (b : Int) acc) T 256 0
    (fun b acc => acc.length = 256 ∧ ∀ i, i < b → acc.getD i 0 = ((clsOf m i : Nat) : Int)) ?_ ?_ 256 kf 0 (List.replicate 256 (0 : Int)) (by omega) (by omega) ⟨List.length_replicate, fun i hi => by omega⟩
  · rintro kk C ⟨h1, h2⟩
    simp only [play_Dfa_l5, play_Dfa_l5_b, show decide (((256 : Nat) : Int) < 256) = false from rfl, cond_false]
    refine loop_all (fun kk s (acc : Nat × List (List Int) × List Bool) => play_Dfa_l12 kf kk (fun (v73 : (List Int)) (v74 : (List Int)) (v75 : (List (List Int))) (v76 : (List Bool)) (v77 : (List (List Int))) (v78 : (List Bool)) => K v74 v77 v78) (k : Int) (m : Int) (s : Int) (List.replicate 256 (0 : Int)) l (acc.1 : Int) C ([] : List (List Int)) ([] : List Bool) acc.2.1 acc.2.2) T k 100
      (fun s acc => acc.1 ≤ 20 * s ∧ acc.2.1.length = s ∧ acc.2.2.length = s ∧ s ≤ k ∧ ∀ i, i < s → (acc.2.1.getD i []).length = m ∧ ∀ a, a < m → ∃ t : Nat, t < k ∧ (acc.2.1.getD i []).getD a 0 = (t : Int)) ?_ ?_ k kf 0 (0, [], []) (by omega) (by omega)
      ⟨by simp, rfl, rfl, by omega, fun i hi => by omega⟩
    · rintro kk ⟨p, N, E⟩ ⟨q1, q2, q3, _, q4⟩
      simp only at q1 q2 q3 q4
      have hd : decide ((k : Int) < (k : Int)) = false := decide_eq_false (by omega)
      simp only [play_Dfa_l12, play_Dfa_l12_b, hd, cond_false]
      refine hT C N E k m ⟨h1, fun b hb => ⟨clsOf m b, cls_mod m hm4.1 b, h2 b hb⟩, fun a ha => ⟨97 + a, by omega, ?_⟩, q2, q3, hk8.1, by omega, hm4.1, by omega, q4⟩ hk8.2 hm4.2
      rw [h2 _ (by omega)]
      unfold clsOf
      rw [if_pos (by omega)]
      omega
    · rintro kk s ⟨p, N, E⟩ hB hs ⟨q1, q2, q3, _, q4⟩ hrest
      simp only at q1 q2 q3 q4
      have hd : decide ((s : Int) < (k : Int)) = true := decide_eq_true (by omega)
      have hw := wi_1 s (by omega)
      -- a row, then whether it ends
      have main : ∀ (T' : Option R), (∀ (p' : Nat) (r : List Int) (e : Bool), p' ≤ 20 * (s + 1) → r.length = m → (∀ a, a < m → ∃ t : Nat, t < k ∧ r.getD a 0 = (t : Int)) →
          play_Dfa_l12 kf kk (fun (v73 : (List Int)) (v74 : (List Int)) (v75 : (List (List Int))) (v76 : (List Bool)) (v77 : (List (List Int))) (v78 : (List Bool)) => K v74 v77 v78) (k : Int) (m : Int) ((s + 1 : Nat) : Int) (List.replicate 256 (0 : Int)) l (p' : Int) C ([] : List (List Int)) ([] : List Bool) (N ++ [r]) (E ++ [e]) = T') →
          play_Dfa_l12 kf (kk + 1) (fun (v73 : (List Int)) (v74 : (List Int)) (v75 : (List (List Int))) (v76 : (List Bool)) (v77 : (List (List Int))) (v78 : (List Bool)) => K v74 v77 v78) (k : Int) (m : Int) (s : Int) (List.replicate 256 (0 : Int)) l (p : Int) C ([] : List (List Int)) ([] : List Bool) N E = T' := by
        intro T' hT'
        simp only [play_Dfa_l12, play_Dfa_l12_b, hd, cond_true]
        refine row16_ok kf kk l hl (by omega) k m hk8.1 (by omega) (by omega) _ _ _ _ _ _ _ _ p (by omega) T' ?_
        intro p' r z1 z2 z3
        obtain ⟨t, p'', y1, y2, y3⟩ := num_ok (R := R) 2 (by omega) l hl (by omega) p' (by omega)
        rw [gdd (by show _ < 17179869184; simp; omega)]
        have y3' := y3
        rw [show ((2 : Nat) : Int) = 2 from rfl] at y3'
        rw [y3', gdd (by show _ < 17179869184; simp; omega), hw]
        exact hT' p'' r _ (by omega) z2 z3
      refine main T fun p' r e z1 z2 z3 => hrest (p', N ++ [r], E ++ [e]) ⟨z1, by simp [q2], by simp [q3], by omega, fun i hi => ?_⟩
      simp only
      rw [snoc_getD]
      by_cases his : i < s
      · rw [if_pos (by omega)]; exact q4 i his
      · rw [if_neg (by omega), if_pos (by omega)]; exact ⟨z2, z3⟩
  · rintro kk b C _ hb ⟨h1, h2⟩
    left
    have hd : decide ((b : Int) < 256) = true := decide_eq_true (by omega)
    have g1 : decide (0 ≤ (b : Int)) = true := decide_eq_true (by omega)
    have g2 : decide ((m : Int) ≠ 0) = true := decide_eq_true (by omega)
    have hw := wi_1 b (by omega)
    have hcl := cls_mod m hm4.1 b
    have h8 : IntKind.u8.wrap ((clsOf m b : Nat) : Int) = ((clsOf m b : Nat) : Int) := by rw [IntKind.wrap_u8]; omega
    refine ⟨C.set b ((clsOf m b : Nat) : Int), ⟨by rw [List.length_set]; exact h1, fun i hi => ?_⟩, ?_⟩
    · rw [List.getD_eq_getElem?_getD, List.getElem?_set]
      by_cases hbi : b = i
      · subst hbi; rw [if_pos rfl, if_pos (by omega)]; rfl
      · rw [if_neg hbi, ← List.getD_eq_getElem?_getD]; exact h2 i (by omega)
    · simp only [play_Dfa_l5, play_Dfa_l5_b, hd, g1, g2, gd, cond_true, hw, Int.toNat_natCast]
      have hs : IntKind.i64.wrap ((97 : Int) + (m : Int)) = ((97 + m : Nat) : Int) := by rw [IntKind.wrap_i64]; omega
      rw [hs]
      by_cases hlo : 97 ≤ b
      · rw [decide_eq_true (show (97 : Int) ≤ (b : Int) by omega)]
        simp only [cond_true]
        by_cases hhi : b < 97 + m
        · rw [decide_eq_true (show (b : Int) < ((97 + m : Nat) : Int) by omega)]
          have e : IntKind.i64.wrap ((b : Int) - 97) = ((clsOf m b : Nat) : Int) := by
            unfold clsOf; rw [if_pos ⟨hlo, hhi⟩, IntKind.wrap_i64]; omega
          simp only [cond_true, e, h8]
        · rw [decide_eq_false (show ¬ (b : Int) < ((97 + m : Nat) : Int) by omega)]
          have e : Int.tmod (Int.tmod (b : Int) 7) (m : Int) = ((clsOf m b : Nat) : Int) := by
            unfold clsOf; rw [if_neg (by omega), Int.tmod_eq_emod_of_nonneg (show (0 : Int) ≤ (b : Int) by omega), Int.tmod_eq_emod_of_nonneg (by omega)]; push_cast; rfl
          simp only [cond_false, e, h8]
      · rw [decide_eq_false (show ¬ (97 : Int) ≤ (b : Int) by omega)]
        have e : Int.tmod (Int.tmod (b : Int) 7) (m : Int) = ((clsOf m b : Nat) : Int) := by
          unfold clsOf; rw [if_neg (by omega), Int.tmod_eq_emod_of_nonneg (show (0 : Int) ≤ (b : Int) by omega), Int.tmod_eq_emod_of_nonneg (by omega)]; push_cast; rfl
        simp only [cond_false, e, h8]
end Go.Ab.T

/- Machines: where words lead, how many there are, and which; words as numbers. -/
namespace Go.Ab.T
open Go Go.Ab
set_option linter.unusedVariables false
set_option linter.unusedSimpArgs false

/-- the state behind a byte -/
def dl (C : List Int) (N : List (List Int)) (s b : Nat) : Nat := ((N.getD s []).getD (C.getD b 0).toNat 0).toNat
def en (E : List Bool) (s : Nat) : Bool := E.getD s false
def dls (C : List Int) (N : List (List Int)) : Nat → List Nat → Nat
  | s, [] => s
  | s, b :: r => dls C N (dl C N s b) r
theorem dls_snoc (C : List Int) (N : List (List Int)) (b : Nat) : ∀ (w : List Nat) (s : Nat), dls C N s (w ++ [b]) = dl C N (dls C N s w) b
  | [], s => rfl
  | a :: r, s => dls_snoc C N b r (dl C N s a)

def sumR (n : Nat) (f : Nat → Nat) : Nat := ((List.range n).map f).sum
theorem sumR_zero (f : Nat → Nat) : sumR 0 f = 0 := rfl
theorem sumR_succ (n : Nat) (f : Nat → Nat) : sumR (n + 1) f = sumR n f + f n := by
  unfold sumR
  rw [List.range_succ, List.map_append, List.sum_append]
  simp
theorem sumR_congr {n : Nat} {f g : Nat → Nat} (h : ∀ i, i < n → f i = g i) : sumR n f = sumR n g := by
  induction n with
  | zero => rfl
  | succ n ih => rw [sumR_succ, sumR_succ, ih fun i hi => h i (by omega), h n (by omega)]
theorem sumR_add (n : Nat) (f g : Nat → Nat) : sumR n (fun i => f i + g i) = sumR n f + sumR n g := by
  induction n with
  | zero => rfl
  | succ n ih => rw [sumR_succ, sumR_succ, sumR_succ, ih]; omega
theorem sumR_const (n c : Nat) : sumR n (fun _ => c) = n * c := by
  induction n with
  | zero => simp [sumR_zero]
  | succ n ih => rw [sumR_succ, ih, Nat.succ_mul]
theorem sumR_single (m x : Nat) (f : Nat → Nat) : sumR m (fun a => if x = a then f a else 0) = if x < m then f x else 0 := by
  induction m with
  | zero => rfl
  | succ m ih =>
    rw [sumR_succ, ih]
    by_cases h : x = m
    · subst h; simp
    · rw [if_neg h]
      by_cases h2 : x < m
      · rw [if_pos h2, if_pos (by omega)]; omega
      · rw [if_neg h2, if_neg (by omega)]
theorem sumR_pos {n : Nat} {f : Nat → Nat} : 0 < sumR n f ↔ ∃ i, i < n ∧ 0 < f i := by
  induction n with
  | zero => simp [sumR_zero]
  | succ n ih =>
    rw [sumR_succ]
    constructor
    · intro h
      by_cases h2 : 0 < f n
      · exact ⟨n, by omega, h2⟩
      · obtain ⟨i, h3, h4⟩ := ih.1 (by omega)
        exact ⟨i, by omega, h4⟩
    · rintro ⟨i, h1, h2⟩
      by_cases h3 : i = n
      · subst h3; omega
      · have := ih.2 ⟨i, by omega, h2⟩; omega
/-- by classes -/
theorem class_sum (m : Nat) (g f : Nat → Nat) : ∀ n, (∀ b, b < n → g b < m) → sumR n (fun b => f (g b)) = sumR m fun a => (List.range n).countP (fun b => decide (g b = a)) * f a
  | 0, _ => by
    rw [sumR_zero, sumR_congr (g := fun _ => 0) fun i _ => by simp, sumR_const]; simp
  | n + 1, h => by
    rw [sumR_succ, class_sum m g f n fun b hb => h b (by omega)]
    have e : ∀ a, (List.range (n + 1)).countP (fun b => decide (g b = a)) * f a = (List.range n).countP (fun b => decide (g b = a)) * f a + if g n = a then f a else 0 := by
      intro a
      rw [List.range_succ, List.countP_append, List.countP_cons, List.countP_nil]
      by_cases hga : g n = a
      · simp [hga, Nat.add_mul]
      · simp [hga]
    rw [sumR_congr fun a _ => e a, sumR_add, sumR_single, if_pos (h n (by omega))]

section
variable (C : List Int) (N : List (List Int)) (E : List Bool)
/-- how many words of n bytes end well from s -/
def W : Nat → Nat → Nat
  | 0, s => if en E s then 1 else 0
  | n + 1, s => sumR 256 fun b => W n (dl C N s b)
/-- these words, in order -/
def ws : Nat → Nat → List (List Int)
  | 0, s => if en E s then [[]] else []
  | n + 1, s => (List.range 256).flatMap fun b => (ws n (dl C N s b)).map fun w => (b : Int) :: w
theorem length_flatMap' {α β : Type} (l : List α) (f : α → List β) : (l.flatMap f).length = (l.map fun a => (f a).length).sum := by
  induction l with
  | nil => rfl
  | cons a r ih => rw [List.flatMap_cons, List.length_append, ih]; simp
theorem ws_length : ∀ n s, (ws C N E n s).length = W C N E n s
  | 0, s => by simp only [ws, W]; split <;> rfl
  | n + 1, s => by
    simp only [ws, W]
    rw [length_flatMap']
    unfold sumR
    congr 1
    apply List.map_congr_left
    intro b _
    rw [List.length_map, ws_length n]
end

section
variable {R : Type} {C : List Int} {N : List (List Int)} {E : List Bool} {k m : Nat}
theorem Mch.cls_lt (h : Mch C N E k m) (b : Nat) (hb : b < 256) : (C.getD b 0).toNat < m ∧ C.getD b 0 = (((C.getD b 0).toNat : Nat) : Int) := by
  obtain ⟨a, h1, h2⟩ := h.clr b hb
  rw [h2]; simp; exact h1
theorem Mch.row_lt (h : Mch C N E k m) {s a : Nat} (hs : s < k) (ha : a < m) : ((N.getD s []).getD a 0).toNat < k ∧ (N.getD s []).getD a 0 = ((((N.getD s []).getD a 0).toNat : Nat) : Int) := by
  obtain ⟨t, h1, h2⟩ := (h.row s hs).2 a ha
  rw [h2]; simp; exact h1
theorem Mch.dl_lt (h : Mch C N E k m) {s b : Nat} (hs : s < k) (hb : b < 256) : dl C N s b < k := (h.row_lt hs (h.cls_lt b hb).1).1
theorem Mch.dls_lt (h : Mch C N E k m) : ∀ {w : List Nat} {s : Nat}, s < k → (∀ b ∈ w, b < 256) → dls C N s w < k
  | [], s, hs, _ => hs
  | b :: r, s, hs, hw => Mch.dls_lt h (w := r) (s := dl C N s b) (h.dl_lt hs (hw b (by simp))) fun x hx => hw x (by simp [hx])
end

/-! ### words as numbers: shorter ones first, then by bytes -/
def code (w : List Nat) : Nat := w.foldl (fun a b => 256 * a + b + 1) 0
theorem code_nil : code [] = 0 := rfl
theorem code_snoc (w : List Nat) (b : Nat) : code (w ++ [b]) = 256 * code w + b + 1 := by
  unfold code; rw [List.foldl_append]; rfl
theorem snoc_cases {α : Type} (w : List α) : w = [] ∨ ∃ v b, w = v ++ [b] := by
  rcases List.eq_nil_or_concat w with h | ⟨v, b, h⟩
  · exact Or.inl h
  · exact Or.inr ⟨v, b, by rw [h]; simp⟩
theorem code_inj : ∀ (n : Nat) (v w : List Nat), v.length ≤ n → (∀ b ∈ v, b < 256) → (∀ b ∈ w, b < 256) → code v = code w → v = w := by
  intro n
  induction n with
  | zero =>
    intro v w hn hv hw h
    have : v = [] := List.length_eq_zero_iff.1 (by omega)
    subst this
    rcases snoc_cases w with rfl | ⟨w', b, rfl⟩
    · rfl
    · rw [code_nil, code_snoc] at h; omega
  | succ n ih =>
    intro v w hn hv hw h
    rcases snoc_cases v with rfl | ⟨v', a, rfl⟩
    · rcases snoc_cases w with rfl | ⟨w', b, rfl⟩
      · rfl
      · rw [code_nil, code_snoc] at h; omega
    · rcases snoc_cases w with rfl | ⟨w', b, rfl⟩
      · rw [code_nil, code_snoc] at h; omega
      · rw [code_snoc, code_snoc] at h
        have ha := hv a (by simp)
        have hb := hw b (by simp)
        have e1 : a = b := by omega
        have e2 : code v' = code w' := by omega
        subst e1
        rw [ih v' w' (by simp at hn; omega) (fun x hx => hv x (by simp [hx])) (fun x hx => hw x (by simp [hx])) e2]
/-- shorter ones are smaller -/
def geo : Nat → Nat
  | 0 => 0
  | n + 1 => 256 * geo n + 1
theorem code_bounds : ∀ (n : Nat) (w : List Nat), w.length = n → (∀ b ∈ w, b < 256) → geo n ≤ code w ∧ code w < geo (n + 1)
  | 0, w, hn, hw => by
    have : w = [] := List.length_eq_zero_iff.1 hn
    subst this
    exact ⟨Nat.le_refl _, by decide⟩
  | n + 1, w, hn, hw => by
    rcases snoc_cases w with rfl | ⟨v, b, rfl⟩
    · simp at hn
    · have hb := hw b (by simp)
      obtain ⟨h1, h2⟩ := code_bounds n v (by simpa using hn) (fun x hx => hw x (by simp [hx]))
      rw [code_snoc]
      simp only [geo] at h1 h2 ⊢
      constructor <;> omega
theorem geo_mono : ∀ {n m : Nat}, n ≤ m → geo n ≤ geo m
  | n, 0, h => by have : n = 0 := by omega
                  subst this; exact Nat.le_refl _
  | n, m + 1, h => by
    by_cases hn : n = m + 1
    · subst hn; exact Nat.le_refl _
    · have := geo_mono (n := n) (m := m) (by omega)
      simp only [geo]; omega
theorem code_len {v w : List Nat} (hv : ∀ b ∈ v, b < 256) (hw : ∀ b ∈ w, b < 256) (h : v.length < w.length) : code v < code w := by
  have h1 := (code_bounds _ v rfl hv).2
  have h2 := (code_bounds _ w rfl hw).1
  have := geo_mono (show v.length + 1 ≤ w.length by omega)
  omega
end Go.Ab.T

/- Lists of numbers, and a machine that is flipped. -/
namespace Go.Ab.T
open Go Go.Ab
set_option linter.unusedVariables false
set_option linter.unusedSimpArgs false

theorem getD_set' {α : Type} (l : List α) (d i : Nat) (v x : α) : (l.set d v).getD i x = if d = i ∧ i < l.length then v else l.getD i x := by
  rw [List.getD_eq_getElem?_getD, List.getD_eq_getElem?_getD, List.getElem?_set]
  by_cases h : d = i
  · subst h
    by_cases hl : d < l.length
    · simp [hl]
    · rw [if_pos rfl, if_neg hl, if_neg (fun q => hl q.2), List.getElem?_eq_none (by omega)]
  · rw [if_neg h, if_neg (fun q => h q.1)]
theorem getD_rep {α : Type} (n i : Nat) (v : α) : (List.replicate n v).getD i v = v := by
  rw [List.getD_eq_getElem?_getD, List.getElem?_replicate]
  split <;> rfl

def cast (w : List Nat) : List Int := w.map fun b : Nat => (b : Int)
theorem cast_len (w : List Nat) : (cast w).length = w.length := by unfold cast; rw [List.length_map]
theorem cast_inj {v w : List Nat} (h : cast v = cast w) : v = w := by
  unfold cast at h
  apply List.ext_getElem
  · have := congrArg List.length h
    simpa using this
  · intro i h1 h2
    have := congrArg (fun l => l[i]?) h
    simp only [List.getElem?_map, List.getElem?_eq_getElem h1, List.getElem?_eq_getElem h2, Option.map_some, Option.some.injEq] at this
    omega

theorem map_getD (l : List Nat) (i : Nat) : (l.map fun b : Nat => (b : Int)).getD i 0 = ((l.getD i 0 : Nat) : Int) := by
  rw [List.getD_eq_getElem?_getD, List.getD_eq_getElem?_getD, List.getElem?_map]
  cases l[i]? <;> rfl

def castF (F : List Nat) : List Int := F.map fun b : Nat => (b : Int)
theorem castF_len (F : List Nat) : (castF F).length = F.length := by unfold castF; rw [List.length_map]
theorem castF_getD (F : List Nat) (j : Nat) : (castF F).getD j 0 = ((F.getD j 0 : Nat) : Int) := map_getD F j
theorem ext_getD {α : Type} (d : α) {a b : List α} (hl : a.length = b.length) (h : ∀ i, i < a.length → a.getD i d = b.getD i d) : a = b := by
  apply List.ext_getElem hl
  intro i h1 h2
  have := h i h1
  rwa [List.getD_eq_getElem?_getD, List.getD_eq_getElem?_getD, List.getElem?_eq_getElem h1, List.getElem?_eq_getElem h2] at this

section
variable {R : Type} {C : List Int} {N : List (List Int)} {E : List Bool} {k m : Nat}
theorem Mch.flip (h : Mch C N E k m) : Mch C N (E.map fun b => !b) k m :=
  ⟨h.cl, h.clr, h.inh, h.nl, by rw [List.length_map]; exact h.el, h.k1, h.k2, h.m1, h.m2, h.row⟩
theorem flip_en (h : Mch C N E k m) {s : Nat} (hs : s < k) : en (E.map fun b => !b) s = !en E s := by
  have hE := h.el
  unfold en
  rw [List.getD_eq_getElem?_getD, List.getD_eq_getElem?_getD, List.getElem?_map, List.getElem?_eq_getElem (by omega)]
  rfl
end
end Go.Ab.T

/- The words that lead to states, shortest and least first: a search in the order of words. -/
namespace Go.Ab.T
open Go Go.Ab
set_option linter.unusedVariables false
set_option linter.unusedSimpArgs false

theorem nodup_len : ∀ (l ys : List Nat), l.Nodup → (∀ x ∈ l, x ∈ ys) → l.length ≤ ys.length
  | [], ys, _, _ => Nat.zero_le _
  | a :: r, ys, hn, hs => by
    rw [List.nodup_cons] at hn
    have ha := hs a (by simp)
    have ih := nodup_len r (ys.erase a) hn.2 fun x hx => (List.mem_erase_of_ne (fun h => hn.1 (by rw [← h]; exact hx))).2 (hs x (by simp [hx]))
    rw [List.length_erase_of_mem ha] at ih
    have := List.length_pos_of_mem ha
    rw [List.length_cons]
    omega

/-- the first byte of its class -/
def isRep (C : List Int) (f : Nat) : Prop := ∀ b, b < f → C.getD b 0 ≠ C.getD f 0
theorem rep_of (C : List Int) : ∀ b : Nat, ∃ f, f ≤ b ∧ isRep C f ∧ C.getD f 0 = C.getD b 0 := by
  intro b
  induction b using Nat.strongRecOn with
  | _ b ih =>
    by_cases h : isRep C b
    · exact ⟨b, Nat.le_refl _, h, rfl⟩
    · obtain ⟨c, hc⟩ := Classical.not_forall.1 h
      obtain ⟨h1, h2⟩ := Classical.not_imp.1 hc
      obtain ⟨f, q1, q2, q3⟩ := ih c h1
      exact ⟨f, by omega, q2, by rw [q3]; exact Classical.not_not.1 h2⟩

abbrev Q := List (Nat × List Nat)
def qs (q : Q) (i : Nat) : Nat := (q.getD i (0, [])).1
def qw (q : Q) (i : Nat) : List Nat := (q.getD i (0, [])).2
theorem q_mem {q : Q} {i : Nat} (h : i < q.length) : (qs q i, qw q i) ∈ q := by
  unfold qs qw
  exact getD_mem q i h (0, [])
theorem q_of_mem {q : Q} {x : Nat × List Nat} (h : x ∈ q) : ∃ i, i < q.length ∧ x = (qs q i, qw q i) := by
  obtain ⟨i, h1, h2⟩ := List.mem_iff_getElem.1 h
  refine ⟨i, h1, ?_⟩
  unfold qs qw
  rw [List.getD_eq_getElem?_getD, List.getElem?_eq_getElem h1, h2]
  rfl
theorem qs_old {q : Q} {x : Nat × List Nat} {i : Nat} (h : i < q.length) : qs (q ++ [x]) i = qs q i := by
  unfold qs; rw [snoc_getD, if_pos h]
theorem qw_old {q : Q} {x : Nat × List Nat} {i : Nat} (h : i < q.length) : qw (q ++ [x]) i = qw q i := by
  unfold qw; rw [snoc_getD, if_pos h]
theorem qs_new {q : Q} {x : Nat × List Nat} : qs (q ++ [x]) q.length = x.1 := by
  unfold qs; rw [snoc_getD, if_neg (by omega), if_pos rfl]
theorem qw_new {q : Q} {x : Nat × List Nat} : qw (q ++ [x]) q.length = x.2 := by
  unfold qw; rw [snoc_getD, if_neg (by omega), if_pos rfl]

structure Bfs (C : List Int) (N : List (List Int)) (E : List Bool) (k : Nat) (p B : Nat) (q : Q) : Prop where
  root : (0, []) ∈ q
  lt : ∀ x ∈ q, x.1 < k ∧ (∀ b ∈ x.2, b < 256) ∧ dls C N 0 x.2 = x.1
  inj : ∀ i j, i < j → j < q.length → qs q i ≠ qs q j
  sorted : ∀ i j, i < j → j < q.length → code (qw q i) < code (qw q j)
  top : p < q.length → ∀ x ∈ q, code x.2 < 256 * code (qw q p) + B + 1
  done : ∀ i, i < p → ∀ b, b < 256 → ∃ x ∈ q, x.1 = dl C N (qs q i) b ∧ code x.2 ≤ 256 * code (qw q i) + b + 1
  part : p < q.length → ∀ b f, b < 256 → f ≤ b → isRep C f → f < B → C.getD f 0 = C.getD b 0 → ∃ x ∈ q, x.1 = dl C N (qs q p) b ∧ code x.2 ≤ 256 * code (qw q p) + b + 1
  dead : ∀ i, i < p → en E (qs q i) = false
  len : ∀ i, i < q.length → (qw q i).length ≤ i
  ple : p ≤ q.length

section
variable {C : List Int} {N : List (List Int)} {E : List Bool} {k m p B : Nat} {q : Q}

theorem dl_cls {s b f : Nat} (h : C.getD f 0 = C.getD b 0) : dl C N s f = dl C N s b := by unfold dl; rw [h]

theorem Bfs.start (hk : 1 ≤ k) : Bfs C N E k 0 0 [(0, [])] := by
  refine ⟨by simp, ?_, ?_, ?_, ?_, ?_, ?_, ?_, ?_, ?_⟩
  · intro x hx
    rw [List.mem_singleton] at hx
    subst hx
    exact ⟨hk, by simp, rfl⟩
  · intro i j hij hj; simp at hj; omega
  · intro i j hij hj; simp at hj; omega
  · intro _ x hx
    rw [List.mem_singleton] at hx
    subst hx
    have : qw [(0, [])] 0 = [] := rfl
    rw [this, code_nil]
    show code [] < _
    rw [code_nil]; omega
  · intro i hi; omega
  · intro _ b f _ _ _ hf; omega
  · intro i hi; omega
  · intro i hi
    simp at hi
    subst hi
    exact Nat.le_refl _
  · simp

/-- bytes that are not the first of their class -/
theorem Bfs.skip (h : Bfs C N E k p B q) (B' : Nat) (hB : B ≤ B') (hn : ∀ f, B ≤ f → f < B' → f < 256 → ¬ isRep C f) : Bfs C N E k p B' q := by
  refine ⟨h.root, h.lt, h.inj, h.sorted, ?_, h.done, ?_, h.dead, h.len, h.ple⟩
  · intro hp x hx
    have := h.top hp x hx
    omega
  · intro hp b f hb hfb hf hfB hc
    by_cases hlt : f < B
    · exact h.part hp b f hb hfb hf hlt hc
    · exact absurd hf (hn f (by omega) hfB (by omega))

theorem Bfs.old (h : Bfs C N E k p B q) (hp : p < q.length) (hB : B < 256) (hr : isRep C B) (hm : ∃ x ∈ q, x.1 = dl C N (qs q p) B) : Bfs C N E k p (B + 1) q := by
  refine ⟨h.root, h.lt, h.inj, h.sorted, ?_, h.done, ?_, h.dead, h.len, h.ple⟩
  · intro hp x hx
    have := h.top hp x hx
    omega
  · intro hp b f hb hfb hf hfB hc
    by_cases hlt : f < B
    · exact h.part hp b f hb hfb hf hlt hc
    · have : f = B := by omega
      subst this
      obtain ⟨x, hx, he⟩ := hm
      refine ⟨x, hx, by rw [he, dl_cls hc], ?_⟩
      have := h.top hp x hx
      omega

theorem Bfs.new (hM : Mch C N E k m) (h : Bfs C N E k p B q) (hp : p < q.length) (hB : B < 256) (hr : isRep C B) (hm : ∀ x ∈ q, x.1 ≠ dl C N (qs q p) B) : Bfs C N E k p (B + 1) (q ++ [(dl C N (qs q p) B, qw q p ++ [B])]) := by
  obtain ⟨p1, p2, p3⟩ := h.lt _ (q_mem hp)
  have hlen : (q ++ [(dl C N (qs q p) B, qw q p ++ [B])]).length = q.length + 1 := by simp
  refine ⟨?_, ?_, ?_, ?_, ?_, ?_, ?_, ?_, ?_, ?_⟩
  · exact List.mem_append_left _ h.root
  · intro x hx
    rcases List.mem_append.1 hx with hx | hx
    · exact h.lt x hx
    · rw [List.mem_singleton] at hx
      subst hx
      refine ⟨hM.dl_lt p1 hB, ?_, ?_⟩
      · intro b hb
        rcases List.mem_append.1 hb with hb | hb
        · exact p2 b hb
        · rw [List.mem_singleton] at hb; omega
      · rw [dls_snoc]
        show dl C N (dls C N 0 (qw q p)) B = _
        rw [show dls C N 0 (qw q p) = qs q p from p3]
  · intro i j hij hj
    rw [hlen] at hj
    by_cases hjl : j < q.length
    · rw [qs_old hjl, qs_old (by omega)]; exact h.inj i j hij hjl
    · have : j = q.length := by omega
      subst this
      rw [qs_new, qs_old hij]
      exact hm _ (q_mem hij)
  · intro i j hij hj
    rw [hlen] at hj
    by_cases hjl : j < q.length
    · rw [qw_old hjl, qw_old (by omega)]; exact h.sorted i j hij hjl
    · have : j = q.length := by omega
      subst this
      rw [qw_new, qw_old hij, code_snoc]
      have := h.top hp _ (q_mem hij)
      exact this
  · intro _ x hx
    rw [qw_old hp]
    rcases List.mem_append.1 hx with hx | hx
    · have := h.top hp x hx; omega
    · rw [List.mem_singleton] at hx
      subst hx
      rw [code_snoc]; omega
  · intro i hi b hb
    obtain ⟨x, hx, h1, h2⟩ := h.done i hi b hb
    have hi' : i < q.length := by have := h.ple; omega
    rw [qs_old hi', qw_old hi']
    exact ⟨x, List.mem_append_left _ hx, h1, h2⟩
  · intro _ b f hb hfb hf hfB hc
    rw [qs_old hp, qw_old hp]
    by_cases hlt : f < B
    · obtain ⟨x, hx, h1, h2⟩ := h.part hp b f hb hfb hf hlt hc
      exact ⟨x, List.mem_append_left _ hx, h1, h2⟩
    · have : f = B := by omega
      subst this
      refine ⟨_, List.mem_append_right _ (List.mem_singleton.2 rfl), by rw [dl_cls hc], ?_⟩
      rw [code_snoc]; omega
  · intro i hi
    have hi' : i < q.length := by have := h.ple; omega
    rw [qs_old hi']; exact h.dead i hi
  · intro i hi
    rw [hlen] at hi
    by_cases hil : i < q.length
    · rw [qw_old hil]; exact h.len i hil
    · have : i = q.length := by omega
      subst this
      rw [qw_new, List.length_append, List.length_singleton]
      have := h.len p hp
      omega
  · have := h.ple; omega

/-- on to the next one -/
theorem Bfs.next (h : Bfs C N E k p 256 q) (hp : p < q.length) (he : en E (qs q p) = false) : Bfs C N E k (p + 1) 0 q := by
  refine ⟨h.root, h.lt, h.inj, h.sorted, ?_, ?_, ?_, ?_, h.len, by omega⟩
  · intro hp1 x hx
    have h1 := h.top hp x hx
    have h2 := h.sorted p (p + 1) (by omega) hp1
    omega
  · intro i hi b hb
    by_cases hip : i < p
    · exact h.done i hip b hb
    · have : i = p := by omega
      subst this
      obtain ⟨f, f1, f2, f3⟩ := rep_of C b
      exact h.part hp b f hb f1 f2 (by omega) f3
  · intro _ b f _ _ _ hf; omega
  · intro i hi
    by_cases hip : i < p
    · exact h.dead i hip
    · have : i = p := by omega
      subst this; exact he

theorem Bfs.size (h : Bfs C N E k p B q) : q.length ≤ k := by
  have hn : (q.map (·.1)).Nodup := by
    unfold List.Nodup
    rw [List.pairwise_iff_getElem]
    intro i j hi hj hij
    rw [List.getElem_map, List.getElem_map]
    rw [List.length_map] at hi hj
    have := h.inj i j hij hj
    unfold qs at this
    rwa [List.getD_eq_getElem?_getD, List.getD_eq_getElem?_getD, List.getElem?_eq_getElem hi, List.getElem?_eq_getElem hj] at this
  have := nodup_len (q.map (·.1)) (List.range k) hn (fun x hx => by
    rw [List.mem_map] at hx
    obtain ⟨y, hy, rfl⟩ := hx
    exact List.mem_range.2 (h.lt y hy).1)
  rwa [List.length_map, List.length_range] at this

/-- each word: its state has been found by one that is no greater, or all that is still to come is ahead of it -/
theorem Bfs.all (h : Bfs C N E k p 0 q) : ∀ (n : Nat) (v : List Nat), v.length = n → (∀ b ∈ v, b < 256) →
    (∃ x ∈ q, x.1 = dls C N 0 v ∧ code x.2 ≤ code v) ∨ (p < q.length ∧ 256 * code (qw q p) + 1 ≤ code v)
  | 0, v, hn, _ => by
    have : v = [] := List.length_eq_zero_iff.1 hn
    subst this
    exact Or.inl ⟨(0, []), h.root, rfl, Nat.le_refl _⟩
  | n + 1, v, hn, hv => by
    rcases snoc_cases v with rfl | ⟨u, b, rfl⟩
    · simp at hn
    · have hb := hv b (by simp)
      rw [code_snoc, dls_snoc]
      rcases h.all n u (by simpa using hn) (fun x hx => hv x (by simp [hx])) with ⟨x, hx, h1, h2⟩ | ⟨h1, h2⟩
      · obtain ⟨i, hi, rfl⟩ := q_of_mem hx
        simp only at h1 h2
        by_cases hip : i < p
        · obtain ⟨y, hy, y1, y2⟩ := h.done i hip b hb
          left
          exact ⟨y, hy, by rw [y1, h1], by omega⟩
        · right
          refine ⟨by omega, ?_⟩
          by_cases hpi : p = i
          · subst hpi; omega
          · have := h.sorted p i (by omega) hi; omega
      · exact Or.inr ⟨h1, by omega⟩

/-- found: the least word of all -/
theorem Bfs.found (h : Bfs C N E k p 0 q) (hp : p < q.length) (he : en E (qs q p) = true) :
    en E (dls C N 0 (qw q p)) = true ∧ (∀ b ∈ qw q p, b < 256) ∧ (qw q p).length < k ∧ ∀ v, (∀ b ∈ v, b < 256) → en E (dls C N 0 v) = true → code (qw q p) ≤ code v := by
  obtain ⟨p1, p2, p3⟩ := h.lt _ (q_mem hp)
  simp only at p1 p2 p3
  refine ⟨by rw [p3]; exact he, p2, ?_, ?_⟩
  · have := h.len p hp; have := h.size; omega
  · intro v hv hev
    rcases h.all v.length v rfl hv with ⟨x, hx, h1, h2⟩ | ⟨_, h2⟩
    · obtain ⟨i, hi, rfl⟩ := q_of_mem hx
      simp only at h1 h2
      have hip : ¬ i < p := by
        intro hip
        have := h.dead i hip
        rw [h1, hev] at this; cases this
      by_cases hpi : p = i
      · subst hpi; exact h2
      · have := h.sorted p i (by omega) hi; omega
    · omega
/-- found later on, among those that were there when the p-th was looked at -/
theorem Bfs.found' (h : Bfs C N E k p 0 q) (i : Nat) (hpi : p ≤ i) (hi : i < q.length) (hno : ∀ j, p ≤ j → j < i → en E (qs q j) = false) (he : en E (qs q i) = true) :
    en E (dls C N 0 (qw q i)) = true ∧ (∀ b ∈ qw q i, b < 256) ∧ (qw q i).length < k ∧ ∀ v, (∀ b ∈ v, b < 256) → en E (dls C N 0 v) = true → code (qw q i) ≤ code v := by
  obtain ⟨p1, p2, p3⟩ := h.lt _ (q_mem hi)
  simp only at p1 p2 p3
  refine ⟨by rw [p3]; exact he, p2, ?_, ?_⟩
  · have := h.len i hi; have := h.size; omega
  · intro v hv hev
    rcases h.all v.length v rfl hv with ⟨x, hx, h1, h2⟩ | ⟨h1, h2⟩
    · obtain ⟨j, hj, rfl⟩ := q_of_mem hx
      simp only at h1 h2
      have hij : i ≤ j := by
        apply Classical.byContradiction
        intro hn
        have : en E (qs q j) = false := by
          by_cases hjp : j < p
          · exact h.dead j hjp
          · exact hno j (by omega) (by omega)
        rw [h1, hev] at this; cases this
      by_cases hij' : i = j
      · subst hij'; exact h2
      · have := h.sorted i j (by omega) hj; omega
    · have := h.top h1 _ (q_mem hi)
      simp only at this
      omega
/-- none -/
theorem Bfs.none (h : Bfs C N E k p 0 q) (hp : ¬ p < q.length) : ∀ v, (∀ b ∈ v, b < 256) → en E (dls C N 0 v) = false := by
  intro v hv
  rcases h.all v.length v rfl hv with ⟨x, hx, h1, h2⟩ | ⟨h1, _⟩
  · obtain ⟨i, hi, rfl⟩ := q_of_mem hx
    simp only at h1
    rw [← h1]
    exact h.dead i (by omega)
  · exact absurd h1 hp
end

/-- what a search for the shortest word comes to -/
def IsShort (C : List Int) (N : List (List Int)) (E : List Bool) (k : Nat) (is : Bool) (w : List Nat) : Prop :=
  (is = true ∧ en E (dls C N 0 w) = true ∧ (∀ b ∈ w, b < 256) ∧ w.length < k ∧ ∀ v, (∀ b ∈ v, b < 256) → en E (dls C N 0 v) = true → code w ≤ code v) ∨
  (is = false ∧ w = [] ∧ ∀ v, (∀ b ∈ v, b < 256) → en E (dls C N 0 v) = false)
theorem IsShort.unique {C : List Int} {N : List (List Int)} {E : List Bool} {k : Nat} {is is' : Bool} {w w' : List Nat} (h : IsShort C N E k is w) (h' : IsShort C N E k is' w') : is = is' ∧ w = w' := by
  rcases h with ⟨a1, a2, a3, a4, a5⟩ | ⟨a1, a2, a3⟩
  · rcases h' with ⟨b1, b2, b3, b4, b5⟩ | ⟨b1, b2, b3⟩
    · refine ⟨by rw [a1, b1], code_inj _ w w' (Nat.le_refl _) a3 b3 ?_⟩
      have := a5 w' b3 b2
      have := b5 w a3 a2
      omega
    · rw [b3 w a3] at a2; cases a2
  · rcases h' with ⟨b1, b2, b3, b4, b5⟩ | ⟨b1, b2, b3⟩
    · rw [a3 w' b3] at b2; cases b2
    · exact ⟨by rw [a1, b1], by rw [a2, b2]⟩
end Go.Ab.T

/- Machines in their own form: of each language just one. -/
namespace Go.Ab.T
open Go Go.Ab
set_option linter.unusedVariables false
set_option linter.unusedSimpArgs false

def isBy (w : List Nat) : Prop := ∀ b ∈ w, b < 256
def repB (C : List Int) (f : Nat) : Bool := (List.range f).all fun b => !decide (C.getD b 0 = C.getD f 0)
theorem repB_iff {C : List Int} {f : Nat} : repB C f = true ↔ isRep C f := by
  unfold repB isRep
  rw [List.all_eq_true]
  simp [List.mem_range]

theorem dls_append (C : List Int) (N : List (List Int)) : ∀ (v w : List Nat) (s : Nat), dls C N s (v ++ w) = dls C N (dls C N s v) w
  | [], w, s => rfl
  | b :: v, w, s => dls_append C N v w (dl C N s b)

/-- alike in all words -/
def eqs (C : List Int) (N : List (List Int)) (E : List Bool) (s t : Nat) : Prop := ∀ v, isBy v → en E (dls C N s v) = en E (dls C N t v)
theorem eqs_step {C : List Int} {N : List (List Int)} {E : List Bool} {s t : Nat} (h : eqs C N E s t) {b : Nat} (hb : b < 256) : eqs C N E (dl C N s b) (dl C N t b) := fun v hv => h (b :: v) (by
  intro x hx
  rcases List.mem_cons.1 hx with rfl | hx
  · exact hb
  · exact hv x hx)

structure Canon (C : List Int) (N : List (List Int)) (E : List Bool) (n m : Nat) : Prop where
  mch : Mch C N E n m
  ord : ∃ wd : Nat → List Nat, (∀ j, j < n → isBy (wd j) ∧ dls C N 0 (wd j) = j ∧ ∀ v, isBy v → dls C N 0 v = j → code (wd j) ≤ code v) ∧ ∀ i j, i < j → j < n → code (wd i) < code (wd j)
  dist : ∀ i j, i < n → j < n → eqs C N E i j → i = j
  cls : ∀ b b', b < 256 → b' < 256 → (∀ i, i < n → dl C N i b = dl C N i b') → C.getD b 0 = C.getD b' 0
  num : ∀ b, b < 256 → isRep C b → C.getD b 0 = (((List.range b).countP (repB C) : Nat) : Int)

theorem mono_le {f : Nat → Nat} {n : Nat} (hf : ∀ i j, i < j → j < n → f i < f j) : ∀ i, i < n → i ≤ f i
  | 0, _ => Nat.zero_le _
  | i + 1, h => by
    have := mono_le hf i (by omega)
    have := hf i (i + 1) (by omega) h
    omega
theorem mono_up {f : Nat → Nat} {n : Nat} (hf : ∀ i j, i < j → j < n → f i < f j) (hb : ∀ i, i < n → f i < n) : ∀ d i, i + d + 1 = n → f i ≤ i
  | 0, i, h => by have := hb i (by omega); omega
  | d + 1, i, h => by
    have := mono_up hf hb d (i + 1) (by omega)
    have := hf i (i + 1) (by omega) (by omega)
    omega

section
variable {C C' : List Int} {N N' : List (List Int)} {E E' : List Bool} {n n' m m' : Nat}

/-- two of the same words -/
def Lang (C : List Int) (N : List (List Int)) (E : List Bool) (C' : List Int) (N' : List (List Int)) (E' : List Bool) : Prop := ∀ v, isBy v → en E (dls C N 0 v) = en E' (dls C' N' 0 v)
theorem Lang.symm (h : Lang C N E C' N' E') : Lang C' N' E' C N E := fun v hv => (h v hv).symm

theorem Canon.same_state (h : Canon C N E n m) (h' : Canon C' N' E' n' m') (hL : Lang C N E C' N' E') {v u : List Nat} (hv : isBy v) (hu : isBy u) (he : dls C N 0 v = dls C N 0 u) : dls C' N' 0 v = dls C' N' 0 u := by
  refine h'.dist _ _ (h'.mch.dls_lt h'.mch.k1 hv) (h'.mch.dls_lt h'.mch.k1 hu) fun w hw => ?_
  rw [← dls_append, ← dls_append, ← hL _ (fun x hx => by
    rcases List.mem_append.1 hx with hx | hx
    · exact hv x hx
    · exact hw x hx), ← hL _ (fun x hx => by
    rcases List.mem_append.1 hx with hx | hx
    · exact hu x hx
    · exact hw x hx), dls_append, dls_append, he]

theorem Canon.half (h : Canon C N E n m) (h' : Canon C' N' E' n' m') (hL : Lang C N E C' N' E') :
    ∃ f : Nat → Nat, (∀ i, i < n → f i < n') ∧ (∀ i j, i < j → j < n → f i < f j) ∧ ∀ v, isBy v → f (dls C N 0 v) = dls C' N' 0 v := by
  obtain ⟨wd, w1, w2⟩ := h.ord
  obtain ⟨wd', w1', w2'⟩ := h'.ord
  refine ⟨fun i => dls C' N' 0 (wd i), fun i hi => h'.mch.dls_lt h'.mch.k1 (w1 i hi).1, fun i j hij hj => ?_, fun v hv => ?_⟩
  · -- the least word of a state is the least one of its like
    have key : ∀ i, i < n → code (wd i) = code (wd' (dls C' N' 0 (wd i))) := by
      intro i hi
      obtain ⟨a1, a2, a3⟩ := w1 i hi
      have hlt := h'.mch.dls_lt h'.mch.k1 a1
      obtain ⟨b1, b2, b3⟩ := w1' _ hlt
      have c1 := b3 (wd i) a1 rfl
      have c2 := a3 (wd' (dls C' N' 0 (wd i))) b1 (by
        have := h'.same_state h hL.symm b1 a1 b2
        rw [this, a2])
      omega
    have hi : i < n := by omega
    have h1 := w2 i j hij hj
    rw [key i hi, key j hj] at h1
    apply Classical.byContradiction
    intro hn
    have hn : ¬ dls C' N' 0 (wd i) < dls C' N' 0 (wd j) := hn
    have hlti := h'.mch.dls_lt h'.mch.k1 (w1 i hi).1
    rcases Nat.lt_or_ge (dls C' N' 0 (wd j)) (dls C' N' 0 (wd i)) with hlt | hge
    · have := w2' _ _ hlt hlti
      omega
    · have : dls C' N' 0 (wd i) = dls C' N' 0 (wd j) := by omega
      rw [this] at h1; omega
  · have hlt := h.mch.dls_lt h.mch.k1 hv
    obtain ⟨a1, a2, a3⟩ := w1 _ hlt
    exact h.same_state h' hL a1 hv a2

theorem Canon.unique (h : Canon C N E n m) (h' : Canon C' N' E' n' m') (hL : Lang C N E C' N' E') : C = C' ∧ N = N' ∧ E = E' := by
  obtain ⟨f, f1, f2, f3⟩ := h.half h' hL
  obtain ⟨g, g1, g2, g3⟩ := h'.half h hL.symm
  have hn : n = n' := by
    have := h.mch.k1; have := h'.mch.k1
    have a1 := mono_le f2 (n - 1) (by omega)
    have a2 := f1 (n - 1) (by omega)
    have b1 := mono_le g2 (n' - 1) (by omega)
    have b2 := g1 (n' - 1) (by omega)
    omega
  subst hn
  have hid : ∀ i, i < n → f i = i := fun i hi => by
    have := mono_le f2 i hi
    have := mono_up f2 f1 (n - 1 - i) i (by omega)
    omega
  have hd : ∀ v, isBy v → dls C N 0 v = dls C' N' 0 v := fun v hv => by
    rw [← f3 v hv, hid _ (h.mch.dls_lt h.mch.k1 hv)]
  obtain ⟨wd, w1, w2⟩ := h.ord
  have hdl : ∀ i, i < n → ∀ b, b < 256 → dl C N i b = dl C' N' i b := by
    intro i hi b hb
    obtain ⟨a1, a2, _⟩ := w1 i hi
    have hv : isBy (wd i ++ [b]) := by
      intro x hx
      rcases List.mem_append.1 hx with hx | hx
      · exact a1 x hx
      · rw [List.mem_singleton] at hx; omega
    have := hd _ hv
    rw [dls_snoc, dls_snoc, ← hd _ a1, a2] at this
    exact this
  have hen : ∀ i, i < n → en E i = en E' i := by
    intro i hi
    obtain ⟨a1, a2, _⟩ := w1 i hi
    have := hL _ a1
    rwa [← hd _ a1, a2] at this
  have hceq : ∀ b b', b < 256 → b' < 256 → (C.getD b 0 = C.getD b' 0 ↔ C'.getD b 0 = C'.getD b' 0) := by
    intro b b' hb hb'
    constructor
    · intro he
      refine h'.cls b b' hb hb' fun i hi => ?_
      rw [← hdl i hi b hb, ← hdl i hi b' hb']
      unfold dl; rw [he]
    · intro he
      refine h.cls b b' hb hb' fun i hi => ?_
      rw [hdl i hi b hb, hdl i hi b' hb']
      unfold dl; rw [he]
  have hrep : ∀ b, b < 256 → repB C b = repB C' b := by
    intro b hb
    rw [Bool.eq_iff_iff, repB_iff, repB_iff]
    constructor
    · intro hr c hc he
      exact hr c hc ((hceq c b (by omega) hb).2 he)
    · intro hr c hc he
      exact hr c hc ((hceq c b (by omega) hb).1 he)
  have hC : ∀ b, b < 256 → C.getD b 0 = C'.getD b 0 := by
    intro b hb
    obtain ⟨f0, q1, q2, q3⟩ := rep_of C b
    have q2' : isRep C' f0 := repB_iff.1 (by rw [← hrep f0 (by omega)]; exact repB_iff.2 q2)
    have q3' := (hceq f0 b (by omega) hb).1 q3
    rw [← q3, ← q3', h.num f0 (by omega) q2, h'.num f0 (by omega) q2']
    congr 1
    apply List.countP_congr
    intro x hx
    rw [hrep x (by have := List.mem_range.1 hx; omega)]
  have eC : C = C' := by
    apply List.ext_getElem
    · rw [h.mch.cl, h'.mch.cl]
    · intro i h1 h2
      have hi : i < 256 := by have := h.mch.cl; omega
      have := hC i hi
      rwa [List.getD_eq_getElem?_getD, List.getD_eq_getElem?_getD, List.getElem?_eq_getElem h1, List.getElem?_eq_getElem h2] at this
  subst eC
  have hm : m = m' := by
    have := h.mch.m1; have := h'.mch.m1
    obtain ⟨b, hb, he⟩ := h.mch.inh (m - 1) (by omega)
    obtain ⟨a, ha, he2⟩ := h'.mch.clr b hb
    obtain ⟨b', hb', he'⟩ := h'.mch.inh (m' - 1) (by omega)
    obtain ⟨a', ha', he2'⟩ := h.mch.clr b' hb'
    omega
  subst hm
  refine ⟨rfl, ?_, ?_⟩
  · apply List.ext_getElem
    · rw [h.mch.nl, h'.mch.nl]
    · intro i h1 h2
      have hi : i < n := by rw [← h.mch.nl]; exact h1
      obtain ⟨r1, r2⟩ := h.mch.row i hi
      obtain ⟨r1', r2'⟩ := h'.mch.row i hi
      have e1 : N.getD i [] = N[i] := by rw [List.getD_eq_getElem?_getD, List.getElem?_eq_getElem h1]; rfl
      have e2 : N'.getD i [] = N'[i] := by rw [List.getD_eq_getElem?_getD, List.getElem?_eq_getElem h2]; rfl
      rw [← e1, ← e2]
      apply List.ext_getElem
      · rw [r1, r1']
      · intro a a1 a2
        have ha : a < m := by omega
        obtain ⟨b, hb, he⟩ := h.mch.inh a ha
        have := hdl i hi b hb
        unfold dl at this
        rw [he, Int.toNat_natCast] at this
        obtain ⟨t, t1, t2⟩ := r2 a ha
        obtain ⟨t', t1', t2'⟩ := r2' a ha
        rw [t2, t2', Int.toNat_natCast, Int.toNat_natCast] at this
        have q1 : (N.getD i [])[a] = (N.getD i []).getD a 0 := by rw [List.getD_eq_getElem?_getD (l := N.getD i []), List.getElem?_eq_getElem a1]; rfl
        have q2 : (N'.getD i [])[a] = (N'.getD i []).getD a 0 := by rw [List.getD_eq_getElem?_getD (l := N'.getD i []), List.getElem?_eq_getElem a2]; rfl
        rw [q1, q2, t2, t2', this]
  · apply List.ext_getElem
    · rw [h.mch.el, h'.mch.el]
    · intro i h1 h2
      have hi : i < n := by rw [← h.mch.el]; exact h1
      have := hen i hi
      unfold en at this
      rwa [List.getD_eq_getElem?_getD, List.getD_eq_getElem?_getD, List.getElem?_eq_getElem h1, List.getElem?_eq_getElem h2] at this
end
end Go.Ab.T

/- The same search, over any steps: states in the order of their least words. -/
namespace Go.Ab.T
open Go Go.Ab
set_option linter.unusedVariables false
set_option linter.unusedSimpArgs false

def run (δ : Nat → Nat → Nat) : Nat → List Nat → Nat
  | s, [] => s
  | s, b :: r => run δ (δ s b) r
theorem run_snoc (δ : Nat → Nat → Nat) (b : Nat) : ∀ (w : List Nat) (s : Nat), run δ s (w ++ [b]) = δ (run δ s w) b
  | [], s => rfl
  | a :: r, s => run_snoc δ b r (δ s a)

/-- the first of those that count as one -/
def isR (cl : Nat → Int) (f : Nat) : Prop := ∀ b, b < f → cl b ≠ cl f
theorem r_of (cl : Nat → Int) : ∀ b : Nat, ∃ f, f ≤ b ∧ isR cl f ∧ cl f = cl b := by
  intro b
  induction b using Nat.strongRecOn with
  | _ b ih =>
    by_cases h : isR cl b
    · exact ⟨b, Nat.le_refl _, h, rfl⟩
    · obtain ⟨c, hc⟩ := Classical.not_forall.1 h
      obtain ⟨h1, h2⟩ := Classical.not_imp.1 hc
      obtain ⟨f, q1, q2, q3⟩ := ih c h1
      exact ⟨f, by omega, q2, by rw [q3]; exact Classical.not_not.1 h2⟩

/-- steps that stay inside, and do not tell bytes of one class apart -/
structure Stp (δ : Nat → Nat → Nat) (G : Nat → Prop) (cl : Nat → Int) (k : Nat) : Prop where
  zero : 0 < k ∧ G 0
  lt : ∀ s b, s < k → G s → b < 256 → δ s b < k ∧ G (δ s b)
  cl : ∀ s b f, s < k → G s → f < 256 → b < 256 → cl f = cl b → δ s f = δ s b

structure Bg (δ : Nat → Nat → Nat) (G : Nat → Prop) (cl : Nat → Int) (k : Nat) (p B : Nat) (q : Q) : Prop where
  root : qs q 0 = 0 ∧ qw q 0 = [] ∧ 0 < q.length
  lt : ∀ x ∈ q, x.1 < k ∧ G x.1 ∧ isBy x.2 ∧ run δ 0 x.2 = x.1
  inj : ∀ i j, i < j → j < q.length → qs q i ≠ qs q j
  sorted : ∀ i j, i < j → j < q.length → code (qw q i) < code (qw q j)
  top : p < q.length → ∀ x ∈ q, code x.2 < 256 * code (qw q p) + B + 1
  done : ∀ i, i < p → ∀ b, b < 256 → ∃ x ∈ q, x.1 = δ (qs q i) b ∧ code x.2 ≤ 256 * code (qw q i) + b + 1
  part : p < q.length → ∀ b f, b < 256 → f ≤ b → isR cl f → f < B → cl f = cl b → ∃ x ∈ q, x.1 = δ (qs q p) b ∧ code x.2 ≤ 256 * code (qw q p) + b + 1
  ple : p ≤ q.length

section
variable {δ : Nat → Nat → Nat} {G : Nat → Prop} {cl : Nat → Int} {k p B : Nat} {q : Q}

theorem Bg.start (hS : Stp δ G cl k) : Bg δ G cl k 0 0 [(0, [])] := by
  refine ⟨⟨rfl, rfl, by simp⟩, ?_, ?_, ?_, ?_, ?_, ?_, ?_⟩
  · intro x hx
    rw [List.mem_singleton] at hx
    subst hx
    exact ⟨hS.zero.1, hS.zero.2, fun b hb => (nomatch hb), rfl⟩
  · intro i j hij hj; simp at hj; omega
  · intro i j hij hj; simp at hj; omega
  · intro _ x hx
    rw [List.mem_singleton] at hx
    subst hx
    have : qw [(0, [])] 0 = [] := rfl
    rw [this, code_nil]
    show code [] < _
    rw [code_nil]; omega
  · intro i hi; omega
  · intro _ b f _ _ _ hf; omega
  · simp

theorem Bg.skip (h : Bg δ G cl k p B q) (B' : Nat) (hB : B ≤ B') (hn : ∀ f, B ≤ f → f < B' → f < 256 → ¬ isR cl f) : Bg δ G cl k p B' q := by
  refine ⟨h.root, h.lt, h.inj, h.sorted, ?_, h.done, ?_, h.ple⟩
  · intro hp x hx
    have := h.top hp x hx
    omega
  · intro hp b f hb hfb hf hfB hc
    by_cases hlt : f < B
    · exact h.part hp b f hb hfb hf hlt hc
    · exact absurd hf (hn f (by omega) hfB (by omega))

theorem Bg.old (hS : Stp δ G cl k) (h : Bg δ G cl k p B q) (hp : p < q.length) (hB : B < 256) (hr : isR cl B) (hm : ∃ x ∈ q, x.1 = δ (qs q p) B) : Bg δ G cl k p (B + 1) q := by
  obtain ⟨p1, p2, p3, p4⟩ := h.lt _ (q_mem hp)
  refine ⟨h.root, h.lt, h.inj, h.sorted, ?_, h.done, ?_, h.ple⟩
  · intro hp x hx
    have := h.top hp x hx
    omega
  · intro hp b f hb hfb hf hfB hc
    by_cases hlt : f < B
    · exact h.part hp b f hb hfb hf hlt hc
    · have : f = B := by omega
      subst this
      obtain ⟨x, hx, he⟩ := hm
      refine ⟨x, hx, by rw [he, hS.cl _ b f p1 p2 hB hb hc], ?_⟩
      have := h.top hp x hx
      omega

theorem Bg.new (hS : Stp δ G cl k) (h : Bg δ G cl k p B q) (hp : p < q.length) (hB : B < 256) (hr : isR cl B) (hm : ∀ x ∈ q, x.1 ≠ δ (qs q p) B) : Bg δ G cl k p (B + 1) (q ++ [(δ (qs q p) B, qw q p ++ [B])]) := by
  obtain ⟨p1, p2, p3, p4⟩ := h.lt _ (q_mem hp)
  have hlen : (q ++ [(δ (qs q p) B, qw q p ++ [B])]).length = q.length + 1 := by simp
  refine ⟨?_, ?_, ?_, ?_, ?_, ?_, ?_, ?_⟩
  · obtain ⟨r1, r2, r3⟩ := h.root
    exact ⟨by rw [qs_old r3]; exact r1, by rw [qw_old r3]; exact r2, by omega⟩
  · intro x hx
    rcases List.mem_append.1 hx with hx | hx
    · exact h.lt x hx
    · rw [List.mem_singleton] at hx
      subst hx
      obtain ⟨d1, d2⟩ := hS.lt _ B p1 p2 hB
      refine ⟨d1, d2, ?_, ?_⟩
      · intro b hb
        rcases List.mem_append.1 hb with hb | hb
        · exact p3 b hb
        · rw [List.mem_singleton] at hb; omega
      · rw [run_snoc]
        show δ (run δ 0 (qw q p)) B = _
        rw [show run δ 0 (qw q p) = qs q p from p4]
  · intro i j hij hj
    rw [hlen] at hj
    by_cases hjl : j < q.length
    · rw [qs_old hjl, qs_old (by omega)]; exact h.inj i j hij hjl
    · have : j = q.length := by omega
      subst this
      rw [qs_new, qs_old hij]
      exact hm _ (q_mem hij)
  · intro i j hij hj
    rw [hlen] at hj
    by_cases hjl : j < q.length
    · rw [qw_old hjl, qw_old (by omega)]; exact h.sorted i j hij hjl
    · have : j = q.length := by omega
      subst this
      rw [qw_new, qw_old hij, code_snoc]
      have := h.top hp _ (q_mem hij)
      exact this
  · intro _ x hx
    rw [qw_old hp]
    rcases List.mem_append.1 hx with hx | hx
    · have := h.top hp x hx; omega
    · rw [List.mem_singleton] at hx
      subst hx
      rw [code_snoc]; omega
  · intro i hi b hb
    obtain ⟨x, hx, h1, h2⟩ := h.done i hi b hb
    have hi' : i < q.length := by have := h.ple; omega
    rw [qs_old hi', qw_old hi']
    exact ⟨x, List.mem_append_left _ hx, h1, h2⟩
  · intro _ b f hb hfb hf hfB hc
    rw [qs_old hp, qw_old hp]
    by_cases hlt : f < B
    · obtain ⟨x, hx, h1, h2⟩ := h.part hp b f hb hfb hf hlt hc
      exact ⟨x, List.mem_append_left _ hx, h1, h2⟩
    · have : f = B := by omega
      subst this
      refine ⟨_, List.mem_append_right _ (List.mem_singleton.2 rfl), by rw [hS.cl _ b f p1 p2 hB hb hc], ?_⟩
      rw [code_snoc]; omega
  · have := h.ple; omega

theorem Bg.next (h : Bg δ G cl k p 256 q) (hp : p < q.length) : Bg δ G cl k (p + 1) 0 q := by
  refine ⟨h.root, h.lt, h.inj, h.sorted, ?_, ?_, ?_, by omega⟩
  · intro hp1 x hx
    have h1 := h.top hp x hx
    have h2 := h.sorted p (p + 1) (by omega) hp1
    omega
  · intro i hi b hb
    by_cases hip : i < p
    · exact h.done i hip b hb
    · have : i = p := by omega
      subst this
      obtain ⟨f, f1, f2, f3⟩ := r_of cl b
      exact h.part hp b f hb f1 f2 (by omega) f3
  · intro _ b f _ _ _ hf; omega

theorem Bg.size (h : Bg δ G cl k p B q) : q.length ≤ k := by
  have hn : (q.map (·.1)).Nodup := by
    unfold List.Nodup
    rw [List.pairwise_iff_getElem]
    intro i j hi hj hij
    rw [List.getElem_map, List.getElem_map]
    rw [List.length_map] at hi hj
    have := h.inj i j hij hj
    unfold qs at this
    rwa [List.getD_eq_getElem?_getD, List.getD_eq_getElem?_getD, List.getElem?_eq_getElem hi, List.getElem?_eq_getElem hj] at this
  have := nodup_len (q.map (·.1)) (List.range k) hn (fun x hx => by
    rw [List.mem_map] at hx
    obtain ⟨y, hy, rfl⟩ := hx
    exact List.mem_range.2 (h.lt y hy).1)
  rwa [List.length_map, List.length_range] at this

/-- when none is left: each word's state is there, by a word no greater -/
theorem Bg.all (h : Bg δ G cl k q.length 0 q) : ∀ (n : Nat) (v : List Nat), v.length = n → isBy v → ∃ i, i < q.length ∧ qs q i = run δ 0 v ∧ code (qw q i) ≤ code v
  | 0, v, hn, _ => by
    have : v = [] := List.length_eq_zero_iff.1 hn
    subst this
    obtain ⟨r1, r2, r3⟩ := h.root
    exact ⟨0, r3, r1, by rw [r2]; exact Nat.le_refl _⟩
  | n + 1, v, hn, hv => by
    rcases snoc_cases v with rfl | ⟨u, b, rfl⟩
    · simp at hn
    · have hb := hv b (by simp)
      rw [code_snoc, run_snoc]
      obtain ⟨i, h1, h2, h3⟩ := h.all n u (by simpa using hn) (fun x hx => hv x (by simp [hx]))
      obtain ⟨x, hx, x1, x2⟩ := h.done i h1 b hb
      obtain ⟨j, hj, rfl⟩ := q_of_mem hx
      exact ⟨j, hj, by rw [← h2]; exact x1, by simp only at x2; omega⟩

theorem Bg.inj_iff (h : Bg δ G cl k p B q) {i j : Nat} (hi : i < q.length) (hj : j < q.length) (he : qs q i = qs q j) : i = j := by
  rcases Nat.lt_trichotomy i j with hlt | heq | hgt
  · exact absurd he (h.inj i j hlt hj)
  · exact heq
  · exact absurd he.symm (h.inj j i hgt hi)
end
end Go.Ab.T

/- A machine's parts, put in order: its own form. -/
namespace Go.Ab.T
open Go Go.Ab
set_option linter.unusedVariables false
set_option linter.unusedSimpArgs false

/-- each state's part: who is alike is in one -/
structure Pts (C : List Int) (N : List (List Int)) (E : List Bool) (k : Nat) (p : Nat → Nat) (r : Nat → Nat) : Prop where
  iff : ∀ s t, s < k → t < k → (p s = p t ↔ eqs C N E s t)
  lt : ∀ s, s < k → p s < k
  zero : p 0 = 0
  rep : ∀ s, s < k → r (p s) < k ∧ p (r (p s)) = p s

def dq (C : List Int) (N : List (List Int)) (p r : Nat → Nat) (P b : Nat) : Nat := p (dl C N (r P) b)
def Gq (C : List Int) (N : List (List Int)) (p : Nat → Nat) (P : Nat) : Prop := ∃ v, isBy v ∧ p (dls C N 0 v) = P

section
variable {C : List Int} {N : List (List Int)} {E : List Bool} {k m : Nat} {p r : Nat → Nat}

theorem dq_p (h : Mch C N E k m) (hp : Pts C N E k p r) {s b : Nat} (hs : s < k) (hb : b < 256) : dq C N p r (p s) b = p (dl C N s b) := by
  obtain ⟨r1, r2⟩ := hp.rep s hs
  unfold dq
  exact (hp.iff _ _ (h.dl_lt r1 hb) (h.dl_lt hs hb)).2 (eqs_step ((hp.iff _ _ r1 hs).1 r2) hb)
theorem run_p (h : Mch C N E k m) (hp : Pts C N E k p r) : ∀ (v : List Nat) (s : Nat), s < k → isBy v → run (dq C N p r) (p s) v = p (dls C N s v)
  | [], s, hs, _ => rfl
  | b :: v, s, hs, hv => by
    have hb := hv b (by simp)
    simp only [run, dls]
    rw [dq_p h hp hs hb]
    exact run_p h hp v _ (h.dl_lt hs hb) fun x hx => hv x (by simp [hx])
theorem stp_q (h : Mch C N E k m) (hp : Pts C N E k p r) (cl : Nat → Int)
    (hcl : ∀ P b f, Gq C N p P → f < 256 → b < 256 → cl f = cl b → dq C N p r P f = dq C N p r P b) : Stp (dq C N p r) (Gq C N p) cl k := by
  refine ⟨⟨h.k1, [], fun b hb => (nomatch hb), hp.zero⟩, ?_, fun P b f _ hG hf hb hc => hcl P b f hG hf hb hc⟩
  rintro P b hP ⟨v, hv, rfl⟩ hb
  have hlt := h.dls_lt h.k1 hv
  rw [dq_p h hp hlt hb]
  refine ⟨hp.lt _ (h.dl_lt hlt hb), v ++ [b], ?_, by rw [dls_snoc]⟩
  intro x hx
  rcases List.mem_append.1 hx with hx | hx
  · exact hv x hx
  · rw [List.mem_singleton] at hx; omega

/-- an automaton that is laid out along the search -/
structure Laid (C : List Int) (N : List (List Int)) (E : List Bool) (p r : Nat → Nat) (q : Q) (C' : List Int) (N' : List (List Int)) (E' : List Bool) (m' : Nat) : Prop where
  cl : C'.length = 256
  clr : ∀ b, b < 256 → ∃ a : Nat, a < m' ∧ C'.getD b 0 = (a : Int)
  inh : ∀ a, a < m' → ∃ b, b < 256 ∧ C'.getD b 0 = (a : Int)
  m2 : m' ≤ 256
  same : ∀ b b', b < 256 → b' < 256 → (C'.getD b 0 = C'.getD b' 0 ↔ ∀ i, i < q.length → dq C N p r (qs q i) b = dq C N p r (qs q i) b')
  num : ∀ b, b < 256 → isRep C' b → C'.getD b 0 = (((List.range b).countP (repB C') : Nat) : Int)
  nl : N'.length = q.length
  row : ∀ i, i < q.length → (N'.getD i []).length = m' ∧ ∀ b, b < 256 → ∃ j : Nat, j < q.length ∧ (N'.getD i []).getD (C'.getD b 0).toNat 0 = (j : Int) ∧ qs q j = dq C N p r (qs q i) b
  el : E'.length = q.length
  ends : ∀ i, i < q.length → en E' i = en E (r (qs q i))

theorem laid_canon (h : Mch C N E k m) (hp : Pts C N E k p r) {cl : Nat → Int} {q : Q} (hq : Bg (dq C N p r) (Gq C N p) cl k q.length 0 q) {C' : List Int} {N' : List (List Int)} {E' : List Bool} {m' : Nat} (hl : Laid C N E p r q C' N' E' m') :
    Canon C' N' E' q.length m' ∧ Lang C N E C' N' E' := by
  have hk2 := h.k2
  obtain ⟨z1, z2, z3⟩ := hq.root
  have hsz := hq.size
  have hm1 : 1 ≤ m' := by obtain ⟨a, ha, _⟩ := hl.clr 0 (by omega); omega
  have hM : Mch C' N' E' q.length m' := by
    refine ⟨hl.cl, hl.clr, hl.inh, hl.nl, hl.el, z3, by omega, hm1, hl.m2, fun i hi => ?_⟩
    obtain ⟨r1, r2⟩ := hl.row i hi
    refine ⟨r1, fun a ha => ?_⟩
    obtain ⟨b, hb, he⟩ := hl.inh a ha
    obtain ⟨j, j1, j2, _⟩ := r2 b hb
    rw [he, Int.toNat_natCast] at j2
    exact ⟨j, j1, j2⟩
  have hstep : ∀ i, i < q.length → ∀ b, b < 256 → dl C' N' i b < q.length ∧ qs q (dl C' N' i b) = dq C N p r (qs q i) b := by
    intro i hi b hb
    obtain ⟨j, j1, j2, j3⟩ := (hl.row i hi).2 b hb
    have : dl C' N' i b = j := by unfold dl; rw [j2, Int.toNat_natCast]
    rw [this]; exact ⟨j1, j3⟩
  have hrun : ∀ (v : List Nat) (i : Nat), i < q.length → isBy v → dls C' N' i v < q.length ∧ qs q (dls C' N' i v) = run (dq C N p r) (qs q i) v := by
    intro v
    induction v with
    | nil => intro i hi _; exact ⟨hi, rfl⟩
    | cons b v ih =>
      intro i hi hv
      have hb := hv b (by simp)
      obtain ⟨s1, s2⟩ := hstep i hi b hb
      simp only [dls, run]
      rw [← s2]
      exact ih _ s1 fun x hx => hv x (by simp [hx])
  -- each found part is some state's
  have hpart : ∀ i, i < q.length → ∃ s, s < k ∧ p s = qs q i := by
    intro i hi
    obtain ⟨_, ⟨v, hv, he⟩, _, _⟩ := hq.lt _ (q_mem hi)
    exact ⟨_, h.dls_lt h.k1 hv, he⟩
  have hen : ∀ i, i < q.length → ∀ s, s < k → p s = qs q i → en E' i = en E s := by
    intro i hi s hs he
    rw [hl.ends i hi, ← he]
    obtain ⟨r1, r2⟩ := hp.rep s hs
    exact (hp.iff _ _ r1 hs).1 r2 [] fun b hb => (nomatch hb)
  have hlang : ∀ i, i < q.length → ∀ s, s < k → p s = qs q i → ∀ v, isBy v → en E' (dls C' N' i v) = en E (dls C N s v) := by
    intro i hi s hs he v hv
    obtain ⟨a1, a2⟩ := hrun v i hi hv
    refine hen _ a1 _ (h.dls_lt hs hv) ?_
    rw [a2, ← he, run_p h hp v s hs hv]
  refine ⟨⟨hM, ⟨fun j => qw q j, fun j hj => ?_, fun i j hij hj => hq.sorted i j hij hj⟩, fun i j hi hj he => ?_, fun b b' hb hb' he => ?_, hl.num⟩, fun v hv => ?_⟩
  · obtain ⟨_, _, b3, b4⟩ := hq.lt _ (q_mem hj)
    simp only at b3 b4
    refine ⟨b3, ?_, fun v hv hvj => ?_⟩
    · obtain ⟨a1, a2⟩ := hrun (qw q j) 0 z3 b3
      rw [z1, b4] at a2
      exact hq.inj_iff a1 hj a2
    · obtain ⟨i, i1, i2, i3⟩ := hq.all v.length v rfl hv
      obtain ⟨a1, a2⟩ := hrun v 0 z3 hv
      rw [z1, ← i2, hvj] at a2
      have : j = i := hq.inj_iff hj i1 a2
      subst this
      exact i3
  · obtain ⟨s, s1, s2⟩ := hpart i hi
    obtain ⟨t, t1, t2⟩ := hpart j hj
    refine hq.inj_iff hi hj ?_
    rw [← s2, ← t2, hp.iff s t s1 t1]
    intro v hv
    rw [← hlang i hi s s1 s2 v hv, ← hlang j hj t t1 t2 v hv]
    exact he v hv
  · refine (hl.same b b' hb hb').2 fun i hi => ?_
    rw [← (hstep i hi b hb).2, ← (hstep i hi b' hb').2, he i hi]
  · exact (hlang 0 z3 0 h.k1 (by rw [hp.zero, z1]) v hv).symm
end
end Go.Ab.T
