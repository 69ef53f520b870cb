/- WitL: a part of the proofs of this seat's statements. -/
import Derived.Test.YtpcfmaghlglomaaWitTA
import Derived.Laws.BitsLemmas
import Derived.Laws.BitsAllLaws
/- Plain lemmas of loops and lists. -/
namespace Go.Ab.T

/-- a loop that counts up to n: what holds at its head holds on, and at its end (or at a way out) it comes to T -/
theorem loop_inv {α R : Type} (L : Nat → Nat → α → R) (T : R) (n B : Nat) (I : Nat → α → Prop)
    (hexit : ∀ k acc, I n acc → L (k + 1) n acc = T)
    (hstep : ∀ k c acc, B ≤ k → c < n → I c acc → (∃ acc', I (c + 1) acc' ∧ L (k + 1) c acc = L k (c + 1) acc') ∨ L (k + 1) c acc = T) :
    ∀ m k c acc, c + m = n → m + B < k → I c acc → L k c acc = T
  | m, 0, c, acc, _, h, _ => by omega
  | 0, k + 1, c, acc, hc, h, hi => by
    have : c = n := by omega
    subst this
    exact hexit k acc hi
  | m + 1, k + 1, c, acc, hc, h, hi => by
    rcases hstep k c acc (by omega) (by omega) hi with ⟨acc', h1, h2⟩ | h1
    · rw [h2]
      exact loop_inv L T n B I hexit hstep m k (c + 1) acc' (by omega) (by omega) h1
    · exact h1

/-- the same, by what follows -/
theorem loop_all {α R : Type} (L : Nat → Nat → α → R) (T : R) (n B : Nat) (I : Nat → α → Prop)
    (hexit : ∀ k acc, I n acc → L (k + 1) n acc = T)
    (hstep : ∀ k c acc, B ≤ k → c < n → I c acc → (∀ acc', I (c + 1) acc' → L k (c + 1) acc' = T) → L (k + 1) c acc = T) :
    ∀ m k c acc, c + m = n → m + B < k → I c acc → L k c acc = T
  | m, 0, c, acc, _, h, _ => by omega
  | 0, k + 1, c, acc, hc, h, hi => by
    have : c = n := by omega
    subst this
    exact hexit k acc hi
  | m + 1, k + 1, c, acc, hc, h, hi =>
    hstep k c acc (by omega) (by omega) hi fun acc' h' => loop_all L T n B I hexit hstep m k (c + 1) acc' (by omega) (by omega) h'

/-- a loop with a measure -/
theorem loop_meas {α R : Type} (L : Nat → α → R) (T : R) (μ : α → Nat) (B : Nat) (I : α → Prop)
    (hstep : ∀ k acc, B ≤ k → I acc → (∀ acc', I acc' → μ acc' < μ acc → L k acc' = T) → L (k + 1) acc = T) :
    ∀ k acc, μ acc + B < k → I acc → L k acc = T
  | 0, acc, h, _ => by omega
  | k + 1, acc, h, hi => hstep k acc (by omega) hi fun acc' h' hm => loop_meas L T μ B I hstep k acc' (by omega) h'

theorem take_snoc {α : Type} (l : List α) (c : Nat) (h : c < l.length) (d : α) : l.take (c + 1) = l.take c ++ [l.getD c d] := by
  rw [List.take_add_one, List.getD_eq_getElem?_getD, List.getElem?_eq_getElem h]
  rfl
theorem getD_mem {α : Type} (l : List α) (c : Nat) (h : c < l.length) (d : α) : l.getD c d ∈ l := by
  rw [List.getD_eq_getElem?_getD, List.getElem?_eq_getElem h]
  exact List.getElem_mem h
theorem take_all {α : Type} (l : List α) : l.take l.length = l := List.take_length
theorem mem_take {α : Type} {l : List α} {c : Nat} {x : α} (h : x ∈ l.take c) : x ∈ l := List.mem_of_mem_take h
end Go.Ab.T

/- Machines: which may be, how many classes they have, and which are made of numbers. -/
namespace Go.Ab.T
open Go Go.Ab
set_option linter.unusedVariables false
set_option linter.unusedSimpArgs false

theorem gd_true {R : Type} {b : Bool} (h : b = true) (x : Option R) : gd b x = x := by subst h; rfl
theorem gdd {R : Type} {p : Prop} [Decidable p] (h : p) (x : Option R) : gd (decide p) x = x := gd_true (decide_eq_true h) x
theorem wi_n (n : Nat) (h : n < 4000000000000000000) : IntKind.i64.wrap (n : Int) = (n : Int) := by rw [IntKind.wrap_i64]; omega
theorem wi_1 (n : Nat) (h : n < 4000000000000000000) : IntKind.i64.wrap ((n : Int) + 1) = ((n + 1 : Nat) : Int) := by rw [IntKind.wrap_i64]; omega
theorem small_eq : (SMALL : Nat) = 17179869184 := rfl

/-- a machine of k states and m classes -/
structure Mch (C : List Int) (N : List (List Int)) (E : List Bool) (k m : Nat) : Prop where
  cl : C.length = 256
  clr : ∀ b, b < 256 → ∃ a : Nat, a < m ∧ C.getD b 0 = (a : Int)
  inh : ∀ a, a < m → ∃ b, b < 256 ∧ C.getD b 0 = (a : Int)
  nl : N.length = k
  el : E.length = k
  k1 : 1 ≤ k
  k2 : k ≤ 2000
  m1 : 1 ≤ m
  m2 : m ≤ 256
  row : ∀ s, s < k → (N.getD s []).length = m ∧ ∀ a, a < m → ∃ t : Nat, t < k ∧ (N.getD s []).getD a 0 = (t : Int)

def mxTo (C : List Int) : Nat → Int
  | 0 => C.getD 0 0
  | c + 1 => mx (mxTo C c) (C.getD (c + 1) 0)

section
variable {R : Type} {C : List Int} {N : List (List Int)} {E : List Bool} {k m : Nat}

theorem Mch.mx_le (h : Mch C N E k m) : ∀ c, c < 256 → 0 ≤ mxTo C c ∧ mxTo C c ≤ ((m - 1 : Nat) : Int) ∧ ∀ b, b ≤ c → C.getD b 0 ≤ mxTo C c := by
  intro c
  induction c with
  | zero =>
    intro hc
    obtain ⟨a, h1, h2⟩ := h.clr 0 hc
    refine ⟨by simp only [mxTo]; omega, by simp only [mxTo]; omega, fun b hb => ?_⟩
    have : b = 0 := by omega
    subst this; exact Int.le_refl _
  | succ c ih =>
    intro hc
    obtain ⟨a, h1, h2⟩ := h.clr (c + 1) hc
    obtain ⟨q1, q2, q3⟩ := ih (by omega)
    simp only [mxTo, mx]
    refine ⟨by split <;> omega, by split <;> omega, fun b hb => ?_⟩
    by_cases hbc : b = c + 1
    · subst hbc; split <;> omega
    · have := q3 b (by omega)
      split <;> omega
theorem Mch.mx_eq (h : Mch C N E k m) : mxTo C 255 = ((m - 1 : Nat) : Int) := by
  obtain ⟨q1, q2, q3⟩ := h.mx_le 255 (by omega)
  have hm1 := h.m1
  obtain ⟨b, h1, h2⟩ := h.inh (m - 1) (by omega)
  have := q3 b (by omega)
  omega

theorem max_ok (h : Mch C N E k m) (kf : Nat) (hkf : 3000 ≤ kf) (K : Int → Option R) : slices_Max_uint8_uint8 kf C K = K ((m - 1 : Nat) : Int) := by
  unfold slices_Max_uint8_uint8 slices_Max_uint8_uint8_b
  have hl := h.cl
  rw [decide_eq_false (show ¬ ((C.length : Int) < 1) by omega)]
  simp only [cond_false]
  rw [gdd (by omega)]
  refine loop_inv (fun kk c acc => slices_Max_uint8_uint8_l5 kf kk C (fun v5 => K v5) acc (c : Int)) _ 256 0 (fun c acc => 1 ≤ c ∧ acc = mxTo C (c - 1)) ?_ ?_ 255 kf 1 (C.getD 0 0) (by omega) (by omega) ⟨by omega, rfl⟩
  · rintro kk acc ⟨_, rfl⟩
    have hd : decide (((256 : Nat) : Int) < (C.length : Int)) = false := decide_eq_false (by omega)
    simp only [slices_Max_uint8_uint8_l5, slices_Max_uint8_uint8_l5_b, hd, cond_false]
    rw [h.mx_eq]
  · rintro kk c acc _ hc ⟨h1, rfl⟩
    left
    have hd : decide ((c : Int) < (C.length : Int)) = true := decide_eq_true (by omega)
    have g1 : decide (0 ≤ (c : Int)) = true := decide_eq_true (by omega)
    refine ⟨mx (mxTo C (c - 1)) (C.getD c 0), ⟨by omega, ?_⟩, ?_⟩
    · obtain ⟨d, rfl⟩ : ∃ d, c = d + 1 := ⟨c - 1, by omega⟩
      rfl
    · simp only [slices_Max_uint8_uint8_l5, slices_Max_uint8_uint8_l5_b, hd, g1, gd, cond_true, Int.toNat_natCast, wi_1 c (show c < 4000000000000000000 by omega)]

theorem classes_ok (h : Mch C N E k m) (kf : Nat) (hkf : 3000 ≤ kf) (K : Int → Option R) : machine_classes kf C N E K = K (m : Int) := by
  unfold machine_classes machine_classes_b
  rw [max_ok h kf hkf]
  have := h.m1; have := h.m2
  have e : IntKind.i64.wrap (IntKind.i64.wrap ((m - 1 : Nat) : Int) + 1) = (m : Int) := by
    simp only [IntKind.wrap_i64]; omega
  rw [e]

theorem contains_ok (kf : Nat) (hkf : 3000 ≤ kf) (l : List Int) (hl : l.length ≤ 256) (hr : ∀ a, a < l.length → ∃ t : Nat, t < k ∧ l.getD a 0 = (t : Int)) (K : Bool → Int → Option R) :
    slices_ContainsFunc_int_int kf l (k : Int) K = K false (k : Int) := by
  unfold slices_ContainsFunc_int_int slices_ContainsFunc_int_int_b slices_IndexFunc_int_int slices_IndexFunc_int_int_b
  refine loop_inv (fun kk c (_ : Unit) => slices_IndexFunc_int_int_l2 kf kk l (l.length : Int) (fun (v9 : Int) (v10 : Int) => K (decide (0 ≤ v9)) v10) (fun (v11 : Int) => K (decide (0 ≤ (-1 : Int))) v11) (c : Int) (k : Int)) _ l.length 0 (fun _ _ => True) ?_ ?_ l.length kf 0 () (by omega) (by omega) trivial
  · intro kk _ _
    have hd : decide ((l.length : Int) < (l.length : Int)) = false := decide_eq_false (by omega)
    simp only [slices_IndexFunc_int_int_l2, slices_IndexFunc_int_int_l2_b, hd, cond_false]
    rfl
  · intro kk c _ _ hc _
    left
    refine ⟨(), trivial, ?_⟩
    obtain ⟨t, h1, h2⟩ := hr c hc
    have hd : decide ((c : Int) < (l.length : Int)) = true := decide_eq_true (by omega)
    have g1 : decide (0 ≤ (c : Int)) = true := decide_eq_true (by omega)
    have g2 : decide ((t : Int) < 0) = false := decide_eq_false (by omega)
    have g3 : decide ((k : Int) ≤ (t : Int)) = false := decide_eq_false (by omega)
    simp only [slices_IndexFunc_int_int_l2, slices_IndexFunc_int_int_l2_b, machine_May_1, machine_May_1_b, hd, g1, gd, cond_true, cond_false, Int.toNat_natCast, h2, g2, g3, wi_1 c (show c < 4000000000000000000 by omega)]

theorem may_ok (h : Mch C N E k m) (kf : Nat) (hkf : 3000 ≤ kf) (K : Bool → Option R) : machine_May kf C N E K = K true := by
  unfold machine_May machine_May_b
  have hn := h.nl; have he := h.el; have hk1 := h.k1; have hk2 := h.k2
  rw [decide_eq_false (show ¬ ((N.length : Int) < 1) by omega), decide_eq_false (show ¬ (2000 < (N.length : Int)) by omega), decide_eq_true (show (E.length : Int) = (N.length : Int) by omega)]
  simp only [cond_false, Bool.not_true]
  rw [classes_ok h kf hkf, hn]
  refine loop_inv (fun kk c (_ : Unit) => machine_May_l6 kf kk (m : Int) N (k : Int) (fun (v16 : Bool) => K v16) (K true) (c : Int) (k : Int)) _ k 0 (fun _ _ => True) ?_ ?_ k kf 0 () (by omega) (by omega) trivial
  · intro kk _ _
    have hd : decide ((k : Int) < (k : Int)) = false := decide_eq_false (by omega)
    simp only [machine_May_l6, machine_May_l6_b, hd, cond_false]
  · intro kk c _ _ hc _
    left
    refine ⟨(), trivial, ?_⟩
    obtain ⟨h1, h2⟩ := h.row c hc
    have hd : decide ((c : Int) < (k : Int)) = true := decide_eq_true (by omega)
    have hd2 : decide ((c : Int) < (N.length : Int)) = true := decide_eq_true (by omega)
    have g1 : decide (0 ≤ (c : Int)) = true := decide_eq_true (by omega)
    have hm2 := h.m2
    have hc2 := contains_ok (R := R) (k := k) kf hkf (N.getD c []) (by omega) (by rw [h1]; exact h2)
    have hlen : decide (((N.getD c []).length : Int) = (m : Int)) = true := decide_eq_true (by omega)
    simp only [machine_May_l6, machine_May_l6_b, hd, hd2, g1, gd, cond_true, Int.toNat_natCast, hlen, Bool.not_true, cond_false, hc2, wi_1 c (show c < 4000000000000000000 by omega)]

/-! ### the reference's -/
theorem rclasses_ok (h : Mch C N E k m) (kf : Nat) (hkf : 3000 ≤ kf) (K : Int → Option R) : ref11_Classes kf C N E K = K (m : Int) := by
  unfold ref11_Classes ref11_Classes_b
  have hm1 := h.m1; have hm2 := h.m2
  refine loop_inv (fun kk c acc => ref11_Classes_l3 kf kk C (fun v10 => K v10) acc (c : Int)) _ 256 0 (fun c acc => acc = if c = 0 then 0 else mxTo C (c - 1) + 1) ?_ ?_ 256 kf 0 0 (by omega) (by omega) rfl
  · rintro kk acc rfl
    have hd : decide (((256 : Nat) : Int) < 256) = false := rfl
    simp only [ref11_Classes_l3, ref11_Classes_l3_b, hd, cond_false]
    rw [if_neg (by omega), h.mx_eq]
    congr 1
    omega
  · rintro kk c acc _ hc rfl
    left
    have hd : decide ((c : Int) < 256) = true := decide_eq_true (by omega)
    have g1 : decide (0 ≤ (c : Int)) = true := decide_eq_true (by omega)
    obtain ⟨a, ha1, ha2⟩ := h.clr c hc
    refine ⟨_, rfl, ?_⟩
    simp only [ref11_Classes_l3, ref11_Classes_l3_b, hd, g1, gd, cond_true, Int.toNat_natCast, wi_1 c (show c < 4000000000000000000 by omega), ha2, wi_n a (show a < 4000000000000000000 by omega), wi_1 a (show a < 4000000000000000000 by omega)]
    have e : mx (if c = 0 then 0 else mxTo C (c - 1) + 1) ((a + 1 : Nat) : Int) = if c + 1 = 0 then 0 else mxTo C (c + 1 - 1) + 1 := by
      rw [if_neg (show ¬ (c + 1 = 0) by omega)]
      simp only [Nat.add_sub_cancel]
      cases c with
      | zero =>
        simp only [if_true, mxTo, mx]
        rw [ha2]
        split <;> omega
      | succ d =>
        rw [if_neg (by omega)]
        simp only [Nat.add_sub_cancel, mxTo, mx]
        rw [ha2]
        split <;> split <;> omega
    rw [e]

theorem rmay_ok (h : Mch C N E k m) (kf : Nat) (hkf : 6000 ≤ kf) (K : Bool → Option R) : ref11_May kf C N E K = K true := by
  unfold ref11_May ref11_May_b
  have hn := h.nl; have he := h.el; have hk1 := h.k1; have hk2 := h.k2; have hm2 := h.m2
  rw [rclasses_ok h kf (by omega), decide_eq_false (show ¬ ((N.length : Int) < 1) by omega), decide_eq_false (show ¬ (2000 < (N.length : Int)) by omega), decide_eq_true (show (E.length : Int) = (N.length : Int) by omega)]
  simp only [cond_false, Bool.not_true]
  rw [hn]
  refine loop_inv (fun kk c (_ : Unit) => ref11_May_l5 kf kk (fun (v34 : Bool) => K v34) (K true) (k : Int) (m : Int) (c : Int) C N E) _ k 1000 (fun _ _ => True) ?_ ?_ k kf 0 () (by omega) (by omega) trivial
  · intro kk _ _
    have hd : decide ((k : Int) < (k : Int)) = false := decide_eq_false (by omega)
    simp only [ref11_May_l5, ref11_May_l5_b, hd, cond_false]
  · intro kk c _ hB hc _
    left
    refine ⟨(), trivial, ?_⟩
    obtain ⟨h1, h2⟩ := h.row c hc
    have hd : decide ((c : Int) < (k : Int)) = true := decide_eq_true (by omega)
    have hd2 : decide ((c : Int) < (N.length : Int)) = true := decide_eq_true (by omega)
    have g1 : decide (0 ≤ (c : Int)) = true := decide_eq_true (by omega)
    have hlen : decide (((N.getD c []).length : Int) = (m : Int)) = true := decide_eq_true (by omega)
    simp only [ref11_May_l5, ref11_May_l5_b, hd, hd2, g1, gd, cond_true, Int.toNat_natCast, hlen, Bool.not_true, cond_false]
    refine loop_inv (fun kk2 a (_ : Unit) => ref11_May_l10 kf kk2 (k : Int) (m : Int) (c : Int) C N E (fun (v21 : Bool) (v22 : Int) (v23 : Int) (v24 : Int) (v25 : (List Int)) (v26 : (List (List Int))) (v27 : (List Bool)) => K v21)
        (fun (v28 : Int) (v29 : Int) (v30 : Int) (v31 : (List Int)) (v32 : (List (List Int))) (v33 : (List Bool)) => ref11_May_l5 kf kk (fun (v34 : Bool) => K v34) (K true) v28 v29 (IntKind.i64.wrap (v30 + 1)) v31 v32 v33) (a : Int)) _ m 0 (fun _ _ => True) ?_ ?_ m kk 0 () (by omega) (by omega) trivial
    · intro kk2 _ _
      have hd : decide ((m : Int) < (m : Int)) = false := decide_eq_false (by omega)
      simp only [ref11_May_l10, ref11_May_l10_b, hd, cond_false, wi_1 c (show c < 4000000000000000000 by omega)]
    · intro kk2 a _ _ ha _
      left
      refine ⟨(), trivial, ?_⟩
      obtain ⟨t, ht1, ht2⟩ := h2 a ha
      have hda : decide ((a : Int) < (m : Int)) = true := decide_eq_true (by omega)
      have ga : decide (0 ≤ (a : Int)) = true := decide_eq_true (by omega)
      have gb : decide ((a : Int) < ((N.getD c []).length : Int)) = true := decide_eq_true (by omega)
      have g2 : decide ((t : Int) < 0) = false := decide_eq_false (by omega)
      have g3 : decide ((k : Int) ≤ (t : Int)) = false := decide_eq_false (by omega)
      simp only [ref11_May_l10, ref11_May_l10_b, hda, hd2, g1, ga, gb, gd, cond_true, cond_false, Int.toNat_natCast, ht2, g2, g3, wi_1 a (show a < 4000000000000000000 by omega)]
end

/-! ### machines made of numbers -/
def clsOf (m b : Nat) : Nat := if 97 ≤ b ∧ b < 97 + m then b - 97 else b % 7 % m

/-- the next number -/
theorem num_ok {R : Type} (q : Nat) (hq : 1 ≤ q) (l : List Int) (hl : ∀ x ∈ l, 0 ≤ x ∧ x ≤ 255) (hll : l.length ≤ 1000000) (p : Nat) (hp : p ≤ 10000000) :
    ∃ (t p' : Nat), t < q ∧ p' ≤ p + 1 ∧ ∀ (K : Int → List Int → Int → Option R), play_Picks_num (q : Int) l (p : Int) K = K (t : Int) l (p' : Int) := by
  by_cases h : (l.length : Int) ≤ (p : Int)
  · refine ⟨0, p, by omega, by omega, fun K => ?_⟩
    unfold play_Picks_num play_Picks_num_b
    rw [decide_eq_true h]; rfl
  · have hw : IntKind.i64.wrap ((p : Int) + 1) = ((p + 1 : Nat) : Int) := wi_1 p (by omega)
    have hw2 : IntKind.i64.wrap (((p + 1 : Nat) : Int) - 1) = (p : Int) := by rw [IntKind.wrap_i64]; omega
    have hx := hl _ (getD_mem l p (by omega) 0)
    have hw3 : IntKind.i64.wrap (l.getD p 0) = l.getD p 0 := by rw [IntKind.wrap_i64]; omega
    have hr1 := Int.tmod_nonneg (q : Int) hx.1
    have hr2 := Int.tmod_lt_of_pos (l.getD p 0) (show (0 : Int) < (q : Int) by omega)
    obtain ⟨t, ht⟩ := Int.eq_ofNat_of_zero_le hr1
    refine ⟨t, p + 1, by omega, by omega, fun K => ?_⟩
    unfold play_Picks_num play_Picks_num_b
    rw [decide_eq_false h]
    simp only [cond_false, hw, hw2]
    rw [gdd (by omega), gdd (by omega), gdd (by omega), Int.toNat_natCast, hw3, ht]

theorem row16_ok {R : Type} (kf k0 : Nat) (l : List Int) (hl : ∀ x ∈ l, 0 ≤ x ∧ x ≤ 255) (hll : l.length ≤ 1000000) (q m : Nat) (hq : 1 ≤ q) (hm : m ≤ 256) (hk : m < k0) (v44 : Int) (v46 v49 : List Int) (v51 : List (List Int)) (v52 : List Bool) (v53 : List (List Int)) (v54 : List Bool)
    (Ke : Int → Int → Int → (List Int) → (List Int) → Int → (List Int) → (List Int) → (List (List Int)) → (List Bool) → (List (List Int)) → (List Bool) → Option R) (p : Nat) (hp : p ≤ 1000000) (T : Option R)
    (hT : ∀ (p' : Nat) (r : List Int), p' ≤ p + m → r.length = m → (∀ a, a < m → ∃ t : Nat, t < q ∧ r.getD a 0 = (t : Int)) → Ke (q : Int) (m : Int) v44 v46 l (p' : Int) v49 r v51 v52 v53 v54 = T) :
    play_Dfa_l16 kf k0 (q : Int) (m : Int) v44 v46 v49 v51 v52 v53 v54 Ke 0 l (p : Int) [] = T := by
  refine loop_inv (fun kk a (acc : Nat × List Int) => play_Dfa_l16 kf kk (q : Int) (m : Int) v44 v46 v49 v51 v52 v53 v54 Ke (a : Int) l (acc.1 : Int) acc.2) T m 0
    (fun a acc => acc.1 ≤ p + a ∧ acc.2.length = a ∧ (∀ i, i < a → ∃ t : Nat, t < q ∧ acc.2.getD i 0 = (t : Int)) ∧ a ≤ m) ?_ ?_ m k0 0 (p, []) (by omega) (by omega) ⟨by simp, rfl, fun i hi => by omega, by omega⟩
  · rintro kk ⟨p', r⟩ ⟨h1, h2, h3, _⟩
    have hd : decide ((m : Int) < (m : Int)) = false := decide_eq_false (by omega)
    simp only [play_Dfa_l16, play_Dfa_l16_b, hd, cond_false]
    exact hT p' r h1 h2 h3
  · rintro kk a ⟨p', r⟩ _ ha ⟨h1, h2, h3, _⟩
    simp only at h1 h2 h3
    have hd : decide ((a : Int) < (m : Int)) = true := decide_eq_true (by omega)
    obtain ⟨t, p'', q1, q2, q3⟩ := num_ok (R := R) q hq l hl hll p' (by omega)
    left
    refine ⟨(p'', r ++ [(t : Int)]), ⟨by simp only; omega, by simp [h2], ?_, by omega⟩, ?_⟩
    · intro i hi
      by_cases hia : i < a
      · obtain ⟨t', z1, z2⟩ := h3 i hia
        refine ⟨t', z1, ?_⟩
        simp only
        rw [List.getD_eq_getElem?_getD, List.getElem?_append_left (by omega), ← List.getD_eq_getElem?_getD, z2]
      · have : i = a := by omega
        subst this
        refine ⟨t, q1, ?_⟩
        simp only
        rw [List.getD_eq_getElem?_getD, List.getElem?_append_right (by omega), h2, Nat.sub_self]
        rfl
    · simp only [play_Dfa_l16, play_Dfa_l16_b, hd, cond_true]
      rw [q3, gdd (by show _ < 17179869184; simp; omega), wi_1 a (by omega)]

theorem snoc_getD {α : Type} (l : List α) (x d : α) (i : Nat) : (l ++ [x]).getD i d = if i < l.length then l.getD i d else if i = l.length then x else d := by
  rw [List.getD_eq_getElem?_getD, List.getD_eq_getElem?_getD]
  by_cases h : i < l.length
  · rw [if_pos h, List.getElem?_append_left h]
  · rw [if_neg h, List.getElem?_append_right (by omega)]
    by_cases h2 : i = l.length
    · rw [if_pos h2, h2, Nat.sub_self]; rfl
    · rw [if_neg h2, List.getElem?_eq_none (by simp; omega)]; rfl

theorem cls_mod (m : Nat) (hm1 : 1 ≤ m) (b : Nat) : clsOf m b < m := by
  unfold clsOf
  split
  · omega
  · exact Nat.mod_lt _ hm1

theorem dfa_ok {R : Type} (kf : Nat) (hkf : 3000 ≤ kf) (n c : Int) (hn : 0 ≤ n ∧ n ≤ 255) (hc : 0 ≤ c ∧ c ≤ 255) (l : List Int) (hl : ∀ x ∈ l, 0 ≤ x ∧ x ≤ 255) (hll : l.length ≤ 100) (K : (List Int) → (List (List Int)) → (List Bool) → Option R) (T : Option R)
    (hT : ∀ (C : List Int) (N : List (List Int)) (E : List Bool) (k m : Nat), Mch C N E k m → k ≤ 8 → m ≤ 4 → K C N E = T) : play_Dfa kf n c l K = T := by
  obtain ⟨n, rfl⟩ := Int.eq_ofNat_of_zero_le hn.1
  obtain ⟨c, rfl⟩ := Int.eq_ofNat_of_zero_le hc.1
  unfold play_Dfa play_Dfa_b play_Made play_Made_b
  have e1 : IntKind.i64.wrap (1 + IntKind.i64.wrap (Int.tmod (n : Int) 8)) = ((1 + n % 8 : Nat) : Int) := by
    rw [Int.tmod_eq_emod_of_nonneg (by omega)]; simp only [IntKind.wrap_i64]; omega
  have e2 : IntKind.i64.wrap (1 + IntKind.i64.wrap (Int.tmod (c : Int) 4)) = ((1 + c % 4 : Nat) : Int) := by
    rw [Int.tmod_eq_emod_of_nonneg (by omega)]; simp only [IntKind.wrap_i64]; omega
  rw [e1, e2]
  obtain ⟨k, hk⟩ : ∃ k, k = 1 + n % 8 := ⟨_, rfl⟩
  obtain ⟨m, hm⟩ : ∃ m, m = 1 + c % 4 := ⟨_, rfl⟩
  rw [← hk, ← hm]
  have hk8 : 1 ≤ k ∧ k ≤ 8 := by omega
  have hm4 : 1 ≤ m ∧ m ≤ 4 := by omega
  clear hk hm e1 e2
  refine loop_inv (fun kk b (acc : List Int) => play_Dfa_l5 kf kk (k : Int) (m : Int) (List.replicate 256 (0 : Int)) l 0 ([] : List (List Int)) ([] : List Bool) ([] : List (List Int)) ([] : List Bool) _ (b : Int) acc) T 256 0
    (fun b acc => acc.length = 256 ∧ ∀ i, i < b → acc.getD i 0 = ((clsOf m i : Nat) : Int)) ?_ ?_ 256 kf 0 (List.replicate 256 (0 : Int)) (by omega) (by omega) ⟨List.length_replicate, fun i hi => by omega⟩
  · rintro kk C ⟨h1, h2⟩
    simp only [play_Dfa_l5, play_Dfa_l5_b, show decide (((256 : Nat) : Int) < 256) = false from rfl, cond_false]
    refine loop_all (fun kk s (acc : Nat × List (List Int) × List Bool) => play_Dfa_l12 kf kk (fun (v73 : (List Int)) (v74 : (List Int)) (v75 : (List (List Int))) (v76 : (List Bool)) (v77 : (List (List Int))) (v78 : (List Bool)) => K v74 v77 v78) (k : Int) (m : Int) (s : Int) (List.replicate 256 (0 : Int)) l (acc.1 : Int) C ([] : List (List Int)) ([] : List Bool) acc.2.1 acc.2.2) T k 100
      (fun s acc => acc.1 ≤ 20 * s ∧ acc.2.1.length = s ∧ acc.2.2.length = s ∧ s ≤ k ∧ ∀ i, i < s → (acc.2.1.getD i []).length = m ∧ ∀ a, a < m → ∃ t : Nat, t < k ∧ (acc.2.1.getD i []).getD a 0 = (t : Int)) ?_ ?_ k kf 0 (0, [], []) (by omega) (by omega)
      ⟨by simp, rfl, rfl, by omega, fun i hi => by omega⟩
    · rintro kk ⟨p, N, E⟩ ⟨q1, q2, q3, _, q4⟩
      simp only at q1 q2 q3 q4
      have hd : decide ((k : Int) < (k : Int)) = false := decide_eq_false (by omega)
      simp only [play_Dfa_l12, play_Dfa_l12_b, hd, cond_false]
      refine hT C N E k m ⟨h1, fun b hb => ⟨clsOf m b, cls_mod m hm4.1 b, h2 b hb⟩, fun a ha => ⟨97 + a, by omega, ?_⟩, q2, q3, hk8.1, by omega, hm4.1, by omega, q4⟩ hk8.2 hm4.2
      rw [h2 _ (by omega)]
      unfold clsOf
      rw [if_pos (by omega)]
      omega
    · rintro kk s ⟨p, N, E⟩ hB hs ⟨q1, q2, q3, _, q4⟩ hrest
      simp only at q1 q2 q3 q4
      have hd : decide ((s : Int) < (k : Int)) = true := decide_eq_true (by omega)
      have hw := wi_1 s (by omega)
      -- a row, then whether it ends
      have main : ∀ (T' : Option R), (∀ (p' : Nat) (r : List Int) (e : Bool), p' ≤ 20 * (s + 1) → r.length = m → (∀ a, a < m → ∃ t : Nat, t < k ∧ r.getD a 0 = (t : Int)) →
          play_Dfa_l12 kf kk (fun (v73 : (List Int)) (v74 : (List Int)) (v75 : (List (List Int))) (v76 : (List Bool)) (v77 : (List (List Int))) (v78 : (List Bool)) => K v74 v77 v78) (k : Int) (m : Int) ((s + 1 : Nat) : Int) (List.replicate 256 (0 : Int)) l (p' : Int) C ([] : List (List Int)) ([] : List Bool) (N ++ [r]) (E ++ [e]) = T') →
          play_Dfa_l12 kf (kk + 1) (fun (v73 : (List Int)) (v74 : (List Int)) (v75 : (List (List Int))) (v76 : (List Bool)) (v77 : (List (List Int))) (v78 : (List Bool)) => K v74 v77 v78) (k : Int) (m : Int) (s : Int) (List.replicate 256 (0 : Int)) l (p : Int) C ([] : List (List Int)) ([] : List Bool) N E = T' := by
        intro T' hT'
        simp only [play_Dfa_l12, play_Dfa_l12_b, hd, cond_true]
        refine row16_ok kf kk l hl (by omega) k m hk8.1 (by omega) (by omega) _ _ _ _ _ _ _ _ p (by omega) T' ?_
        intro p' r z1 z2 z3
        obtain ⟨t, p'', y1, y2, y3⟩ := num_ok (R := R) 2 (by omega) l hl (by omega) p' (by omega)
        rw [gdd (by show _ < 17179869184; simp; omega)]
        have y3' := y3
        rw [show ((2 : Nat) : Int) = 2 from rfl] at y3'
        rw [y3', gdd (by show _ < 17179869184; simp; omega), hw]
        exact hT' p'' r _ (by omega) z2 z3
      refine main T fun p' r e z1 z2 z3 => hrest (p', N ++ [r], E ++ [e]) ⟨z1, by simp [q2], by simp [q3], by omega, fun i hi => ?_⟩
      simp only
      rw [snoc_getD]
      by_cases his : i < s
      · rw [if_pos (by omega)]; exact q4 i his
      · rw [if_neg (by omega), if_pos (by omega)]; exact ⟨z2, z3⟩
  · rintro kk b C _ hb ⟨h1, h2⟩
    left
    have hd : decide ((b : Int) < 256) = true := decide_eq_true (by omega)
    have g1 : decide (0 ≤ (b : Int)) = true := decide_eq_true (by omega)
    have g2 : decide ((m : Int) ≠ 0) = true := decide_eq_true (by omega)
    have hw := wi_1 b (by omega)
    have hcl := cls_mod m hm4.1 b
    have h8 : IntKind.u8.wrap ((clsOf m b : Nat) : Int) = ((clsOf m b : Nat) : Int) := by rw [IntKind.wrap_u8]; omega
    refine ⟨C.set b ((clsOf m b : Nat) : Int), ⟨by rw [List.length_set]; exact h1, fun i hi => ?_⟩, ?_⟩
    · rw [List.getD_eq_getElem?_getD, List.getElem?_set]
      by_cases hbi : b = i
      · subst hbi; rw [if_pos rfl, if_pos (by omega)]; rfl
      · rw [if_neg hbi, ← List.getD_eq_getElem?_getD]; exact h2 i (by omega)
    · simp only [play_Dfa_l5, play_Dfa_l5_b, hd, g1, g2, gd, cond_true, hw, Int.toNat_natCast]
      have hs : IntKind.i64.wrap ((97 : Int) + (m : Int)) = ((97 + m : Nat) : Int) := by rw [IntKind.wrap_i64]; omega
      rw [hs]
      by_cases hlo : 97 ≤ b
      · rw [decide_eq_true (show (97 : Int) ≤ (b : Int) by omega)]
        simp only [cond_true]
        by_cases hhi : b < 97 + m
        · rw [decide_eq_true (show (b : Int) < ((97 + m : Nat) : Int) by omega)]
          have e : IntKind.i64.wrap ((b : Int) - 97) = ((clsOf m b : Nat) : Int) := by
            unfold clsOf; rw [if_pos ⟨hlo, hhi⟩, IntKind.wrap_i64]; omega
          simp only [cond_true, e, h8]
        · rw [decide_eq_false (show ¬ (b : Int) < ((97 + m : Nat) : Int) by omega)]
          have e : Int.tmod (Int.tmod (b : Int) 7) (m : Int) = ((clsOf m b : Nat) : Int) := by
            unfold clsOf; rw [if_neg (by omega), Int.tmod_eq_emod_of_nonneg (show (0 : Int) ≤ (b : Int) by omega), Int.tmod_eq_emod_of_nonneg (by omega)]; push_cast; rfl
          simp only [cond_false, e, h8]
      · rw [decide_eq_false (show ¬ (97 : Int) ≤ (b : Int) by omega)]
        have e : Int.tmod (Int.tmod (b : Int) 7) (m : Int) = ((clsOf m b : Nat) : Int) := by
          unfold clsOf; rw [if_neg (by omega), Int.tmod_eq_emod_of_nonneg (show (0 : Int) ≤ (b : Int) by omega), Int.tmod_eq_emod_of_nonneg (by omega)]; push_cast; rfl
        simp only [cond_false, e, h8]
end Go.Ab.T

/- Machines: where words lead, how many there are, and which; words as numbers. -/
namespace Go.Ab.T
open Go Go.Ab
set_option linter.unusedVariables false
set_option linter.unusedSimpArgs false

/-- the state behind a byte -/
def dl (C : List Int) (N : List (List Int)) (s b : Nat) : Nat := ((N.getD s []).getD (C.getD b 0).toNat 0).toNat
def en (E : List Bool) (s : Nat) : Bool := E.getD s false
def dls (C : List Int) (N : List (List Int)) : Nat → List Nat → Nat
  | s, [] => s
  | s, b :: r => dls C N (dl C N s b) r
theorem dls_snoc (C : List Int) (N : List (List Int)) (b : Nat) : ∀ (w : List Nat) (s : Nat), dls C N s (w ++ [b]) = dl C N (dls C N s w) b
  | [], s => rfl
  | a :: r, s => dls_snoc C N b r (dl C N s a)

def sumR (n : Nat) (f : Nat → Nat) : Nat := ((List.range n).map f).sum
theorem sumR_zero (f : Nat → Nat) : sumR 0 f = 0 := rfl
theorem sumR_succ (n : Nat) (f : Nat → Nat) : sumR (n + 1) f = sumR n f + f n := by
  unfold sumR
  rw [List.range_succ, List.map_append, List.sum_append]
  simp
theorem sumR_congr {n : Nat} {f g : Nat → Nat} (h : ∀ i, i < n → f i = g i) : sumR n f = sumR n g := by
  induction n with
  | zero => rfl
  | succ n ih => rw [sumR_succ, sumR_succ, ih fun i hi => h i (by omega), h n (by omega)]
theorem sumR_add (n : Nat) (f g : Nat → Nat) : sumR n (fun i => f i + g i) = sumR n f + sumR n g := by
  induction n with
  | zero => rfl
  | succ n ih => rw [sumR_succ, sumR_succ, sumR_succ, ih]; omega
theorem sumR_const (n c : Nat) : sumR n (fun _ => c) = n * c := by
  induction n with
  | zero => simp [sumR_zero]
  | succ n ih => rw [sumR_succ, ih, Nat.succ_mul]
theorem sumR_single (m x : Nat) (f : Nat → Nat) : sumR m (fun a => if x = a then f a else 0) = if x < m then f x else 0 := by
  induction m with
  | zero => rfl
  | succ m ih =>
    rw [sumR_succ, ih]
    by_cases h : x = m
    · subst h; simp
    · rw [if_neg h]
      by_cases h2 : x < m
      · rw [if_pos h2, if_pos (by omega)]; omega
      · rw [if_neg h2, if_neg (by omega)]
theorem sumR_pos {n : Nat} {f : Nat → Nat} : 0 < sumR n f ↔ ∃ i, i < n ∧ 0 < f i := by
  induction n with
  | zero => simp [sumR_zero]
  | succ n ih =>
    rw [sumR_succ]
    constructor
    · intro h
      by_cases h2 : 0 < f n
      · exact ⟨n, by omega, h2⟩
      · obtain ⟨i, h3, h4⟩ := ih.1 (by omega)
        exact ⟨i, by omega, h4⟩
    · rintro ⟨i, h1, h2⟩
      by_cases h3 : i = n
      · subst h3; omega
      · have := ih.2 ⟨i, by omega, h2⟩; omega
/-- by classes -/
theorem class_sum (m : Nat) (g f : Nat → Nat) : ∀ n, (∀ b, b < n → g b < m) → sumR n (fun b => f (g b)) = sumR m fun a => (List.range n).countP (fun b => decide (g b = a)) * f a
  | 0, _ => by
    rw [sumR_zero, sumR_congr (g := fun _ => 0) fun i _ => by simp, sumR_const]; simp
  | n + 1, h => by
    rw [sumR_succ, class_sum m g f n fun b hb => h b (by omega)]
    have e : ∀ a, (List.range (n + 1)).countP (fun b => decide (g b = a)) * f a = (List.range n).countP (fun b => decide (g b = a)) * f a + if g n = a then f a else 0 := by
      intro a
      rw [List.range_succ, List.countP_append, List.countP_cons, List.countP_nil]
      by_cases hga : g n = a
      · simp [hga, Nat.add_mul]
      · simp [hga]
    rw [sumR_congr fun a _ => e a, sumR_add, sumR_single, if_pos (h n (by omega))]

section
variable (C : List Int) (N : List (List Int)) (E : List Bool)
/-- how many words of n bytes end well from s -/
def W : Nat → Nat → Nat
  | 0, s => if en E s then 1 else 0
  | n + 1, s => sumR 256 fun b => W n (dl C N s b)
/-- these words, in order -/
def ws : Nat → Nat → List (List Int)
  | 0, s => if en E s then [[]] else []
  | n + 1, s => (List.range 256).flatMap fun b => (ws n (dl C N s b)).map fun w => (b : Int) :: w
theorem length_flatMap' {α β : Type} (l : List α) (f : α → List β) : (l.flatMap f).length = (l.map fun a => (f a).length).sum := by
  induction l with
  | nil => rfl
  | cons a r ih => rw [List.flatMap_cons, List.length_append, ih]; simp
theorem ws_length : ∀ n s, (ws C N E n s).length = W C N E n s
  | 0, s => by simp only [ws, W]; split <;> rfl
  | n + 1, s => by
    simp only [ws, W]
    rw [length_flatMap']
    unfold sumR
    congr 1
    apply List.map_congr_left
    intro b _
    rw [List.length_map, ws_length n]
end

section
variable {R : Type} {C : List Int} {N : List (List Int)} {E : List Bool} {k m : Nat}
theorem Mch.cls_lt (h : Mch C N E k m) (b : Nat) (hb : b < 256) : (C.getD b 0).toNat < m ∧ C.getD b 0 = (((C.getD b 0).toNat : Nat) : Int) := by
  obtain ⟨a, h1, h2⟩ := h.clr b hb
  rw [h2]; simp; exact h1
theorem Mch.row_lt (h : Mch C N E k m) {s a : Nat} (hs : s < k) (ha : a < m) : ((N.getD s []).getD a 0).toNat < k ∧ (N.getD s []).getD a 0 = ((((N.getD s []).getD a 0).toNat : Nat) : Int) := by
  obtain ⟨t, h1, h2⟩ := (h.row s hs).2 a ha
  rw [h2]; simp; exact h1
theorem Mch.dl_lt (h : Mch C N E k m) {s b : Nat} (hs : s < k) (hb : b < 256) : dl C N s b < k := (h.row_lt hs (h.cls_lt b hb).1).1
theorem Mch.dls_lt (h : Mch C N E k m) : ∀ {w : List Nat} {s : Nat}, s < k → (∀ b ∈ w, b < 256) → dls C N s w < k
  | [], s, hs, _ => hs
  | b :: r, s, hs, hw => Mch.dls_lt h (w := r) (s := dl C N s b) (h.dl_lt hs (hw b (by simp))) fun x hx => hw x (by simp [hx])
end

/-! ### words as numbers: shorter ones first, then by bytes -/
def code (w : List Nat) : Nat := w.foldl (fun a b => 256 * a + b + 1) 0
theorem code_nil : code [] = 0 := rfl
theorem code_snoc (w : List Nat) (b : Nat) : code (w ++ [b]) = 256 * code w + b + 1 := by
  unfold code; rw [List.foldl_append]; rfl
theorem snoc_cases {α : Type} (w : List α) : w = [] ∨ ∃ v b, w = v ++ [b] := by
  rcases List.eq_nil_or_concat w with h | ⟨v, b, h⟩
  · exact Or.inl h
  · exact Or.inr ⟨v, b, by rw [h]; simp⟩
theorem code_inj : ∀ (n : Nat) (v w : List Nat), v.length ≤ n → (∀ b ∈ v, b < 256) → (∀ b ∈ w, b < 256) → code v = code w → v = w := by
  intro n
  induction n with
  | zero =>
    intro v w hn hv hw h
    have : v = [] := List.length_eq_zero_iff.1 (by omega)
    subst this
    rcases snoc_cases w with rfl | ⟨w', b, rfl⟩
    · rfl
    · rw [code_nil, code_snoc] at h; omega
  | succ n ih =>
    intro v w hn hv hw h
    rcases snoc_cases v with rfl | ⟨v', a, rfl⟩
    · rcases snoc_cases w with rfl | ⟨w', b, rfl⟩
      · rfl
      · rw [code_nil, code_snoc] at h; omega
    · rcases snoc_cases w with rfl | ⟨w', b, rfl⟩
      · rw [code_nil, code_snoc] at h; omega
      · rw [code_snoc, code_snoc] at h
        have ha := hv a (by simp)
        have hb := hw b (by simp)
        have e1 : a = b := by omega
        have e2 : code v' = code w' := by omega
        subst e1
        rw [ih v' w' (by simp at hn; omega) (fun x hx => hv x (by simp [hx])) (fun x hx => hw x (by simp [hx])) e2]
/-- shorter ones are smaller -/
def geo : Nat → Nat
  | 0 => 0
  | n + 1 => 256 * geo n + 1
theorem code_bounds : ∀ (n : Nat) (w : List Nat), w.length = n → (∀ b ∈ w, b < 256) → geo n ≤ code w ∧ code w < geo (n + 1)
  | 0, w, hn, hw => by
    have : w = [] := List.length_eq_zero_iff.1 hn
    subst this
    exact ⟨Nat.le_refl _, by decide⟩
  | n + 1, w, hn, hw => by
    rcases snoc_cases w with rfl | ⟨v, b, rfl⟩
    · simp at hn
    · have hb := hw b (by simp)
      obtain ⟨h1, h2⟩ := code_bounds n v (by simpa using hn) (fun x hx => hw x (by simp [hx]))
      rw [code_snoc]
      simp only [geo] at h1 h2 ⊢
      constructor <;> omega
theorem geo_mono : ∀ {n m : Nat}, n ≤ m → geo n ≤ geo m
  | n, 0, h => by have : n = 0 := by omega
                  subst this; exact Nat.le_refl _
  | n, m + 1, h => by
    by_cases hn : n = m + 1
    · subst hn; exact Nat.le_refl _
    · have := geo_mono (n := n) (m := m) (by omega)
      simp only [geo]; omega
theorem code_len {v w : List Nat} (hv : ∀ b ∈ v, b < 256) (hw : ∀ b ∈ w, b < 256) (h : v.length < w.length) : code v < code w := by
  have h1 := (code_bounds _ v rfl hv).2
  have h2 := (code_bounds _ w rfl hw).1
  have := geo_mono (show v.length + 1 ≤ w.length by omega)
  omega
end Go.Ab.T

/- Machines: the reference's copy, flip, runs, and which states are live. -/
namespace Go.Ab.T
open Go Go.Ab
set_option linter.unusedVariables false
set_option linter.unusedSimpArgs false

theorem getD_set' {α : Type} (l : List α) (d i : Nat) (v x : α) : (l.set d v).getD i x = if d = i ∧ i < l.length then v else l.getD i x := by
  rw [List.getD_eq_getElem?_getD, List.getD_eq_getElem?_getD, List.getElem?_set]
  by_cases h : d = i
  · subst h
    by_cases hl : d < l.length
    · simp [hl]
    · rw [if_pos rfl, if_neg hl, if_neg (fun q => hl q.2), List.getElem?_eq_none (by omega)]
  · rw [if_neg h, if_neg (fun q => h q.1)]
theorem getD_rep {α : Type} (n i : Nat) (v : α) : (List.replicate n v).getD i v = v := by
  rw [List.getD_eq_getElem?_getD, List.getElem?_replicate]
  split <;> rfl

def cast (w : List Nat) : List Int := w.map fun b : Nat => (b : Int)
theorem cast_len (w : List Nat) : (cast w).length = w.length := by unfold cast; rw [List.length_map]
theorem cast_inj {v w : List Nat} (h : cast v = cast w) : v = w := by
  unfold cast at h
  apply List.ext_getElem
  · have := congrArg List.length h
    simpa using this
  · intro i h1 h2
    have := congrArg (fun l => l[i]?) h
    simp only [List.getElem?_map, List.getElem?_eq_getElem h1, List.getElem?_eq_getElem h2, Option.map_some, Option.some.injEq] at this
    omega

section
variable {R : Type} {C : List Int} {N : List (List Int)} {E : List Bool} {k m : Nat}
theorem map_getD (l : List Nat) (i : Nat) : (l.map fun b : Nat => (b : Int)).getD i 0 = ((l.getD i 0 : Nat) : Int) := by
  rw [List.getD_eq_getElem?_getD, List.getD_eq_getElem?_getD, List.getElem?_map]
  cases l[i]? <;> rfl

/-! ### the reference's copy and flip -/
theorem rcopy_ok (kf : Nat) (h : Mch C N E k m) (hkf : 3000 ≤ kf) (K : (List Int) → (List (List Int)) → (List Bool) → Option R) : ref11_Copy kf C N E K = K C N E := by
  unfold ref11_Copy ref11_Copy_b
  have hN := h.nl; have hE := h.el; have hk2 := h.k2; have hm2 := h.m2
  rw [gdd (by rw [small_eq]; simp; omega)]
  refine loop_inv (fun kk s (acc : List (List Int)) => ref11_Copy_l3 kf kk N (List.replicate 256 (0 : Int)) C ([] : List (List Int)) ([] : List Bool) (([] : List Bool) ++ E) (fun (v14 : (List Int)) (v15 : (List Int)) (v16 : (List (List Int))) (v17 : (List Bool)) (v18 : (List (List Int))) (v19 : (List Bool)) => K v15 v18 v19) (s : Int) acc) _ k 0
    (fun s acc => acc = N.take s) ?_ ?_ k kf 0 [] (by omega) (by omega) (by simp)
  · rintro kk acc rfl
    have hd : decide ((k : Int) < (N.length : Int)) = false := decide_eq_false (by omega)
    simp only [ref11_Copy_l3, ref11_Copy_l3_b, hd, cond_false, List.nil_append]
    rw [← hN, List.take_length]
  · rintro kk s acc _ hs rfl
    left
    have hd : decide ((s : Int) < (N.length : Int)) = true := decide_eq_true (by omega)
    have g1 : decide (0 ≤ (s : Int)) = true := decide_eq_true (by omega)
    have hrow := (h.row s hs).1
    have g2 : decide (([] : List Int).length + (N.getD s []).length < SMALL) = true := decide_eq_true (by rw [small_eq]; simp at hrow ⊢; omega)
    have g3 : ∀ x : List Int, decide ((N.take s).length + ([x] : List (List Int)).length < SMALL) = true := fun x => decide_eq_true (by rw [small_eq]; simp; omega)
    refine ⟨_, rfl, ?_⟩
    rw [take_snoc N s (by omega) []]
    simp only [ref11_Copy_l3, ref11_Copy_l3_b, hd, g1, gd, cond_true, Int.toNat_natCast, g2, g3, List.nil_append, wi_1 s (show s < 4000000000000000000 by omega)]

theorem rflip_ok (kf : Nat) (h : Mch C N E k m) (hkf : 6000 ≤ kf) (K : (List Int) → (List (List Int)) → (List Bool) → Option R) : ref11_Flip kf C N E K = K C N (E.map fun b => !b) := by
  unfold ref11_Flip ref11_Flip_b
  have hE := h.el; have hk2 := h.k2
  rw [rmay_ok h kf hkf]
  simp only [Bool.not_true, cond_false]
  rw [rcopy_ok kf h (by omega)]
  refine loop_inv (fun kk s (acc : List Bool) => ref11_Flip_l5 kf kk (List.replicate 256 (0 : Int)) C ([] : List (List Int)) ([] : List Bool) N (fun (v15 : (List Int)) (v16 : (List Int)) (v17 : (List (List Int))) (v18 : (List Bool)) (v19 : (List (List Int))) (v20 : (List Bool)) => K v16 v19 v20) (s : Int) acc) _ k 0
    (fun s acc => acc.length = k ∧ ∀ a, a < k → acc.getD a false = if a < s then !(E.getD a false) else E.getD a false) ?_ ?_ k kf 0 E (by omega) (by omega) ⟨hE, fun a ha => by rw [if_neg (by omega)]⟩
  · rintro kk acc ⟨h1, h2⟩
    have hd : decide ((k : Int) < (acc.length : Int)) = false := decide_eq_false (by omega)
    have he : acc = E.map fun b => !b := by
      apply List.ext_getElem
      · rw [List.length_map, h1, hE]
      · intro i i1 i2
        have := h2 i (by omega)
        rw [if_pos (by omega), List.getD_eq_getElem?_getD, List.getD_eq_getElem?_getD, List.getElem?_eq_getElem i1, List.getElem?_eq_getElem (by omega)] at this
        rw [List.getElem_map]
        exact this
    simp only [ref11_Flip_l5, ref11_Flip_l5_b, hd, cond_false]
    rw [he]
  · rintro kk s acc _ hs ⟨h1, h2⟩
    left
    have hd : decide ((s : Int) < (acc.length : Int)) = true := decide_eq_true (by omega)
    have g1 : decide (0 ≤ (s : Int)) = true := decide_eq_true (by omega)
    refine ⟨acc.set s (!(acc.getD s false)), ⟨by rw [List.length_set]; exact h1, fun a ha => ?_⟩, ?_⟩
    · rw [getD_set']
      by_cases hsa : s = a
      · subst hsa
        rw [if_pos ⟨rfl, by omega⟩, if_pos (by omega), h2 s hs, if_neg (by omega)]
      · rw [if_neg (fun q => hsa q.1), h2 a ha]
        by_cases hlt : a < s
        · rw [if_pos hlt, if_pos (by omega)]
        · rw [if_neg hlt, if_neg (by omega)]
    · simp only [ref11_Flip_l5, ref11_Flip_l5_b, hd, g1, gd, cond_true, Int.toNat_natCast, wi_1 s (show s < 4000000000000000000 by omega)]

theorem Mch.flip (h : Mch C N E k m) : Mch C N (E.map fun b => !b) k m :=
  ⟨h.cl, h.clr, h.inh, h.nl, by rw [List.length_map]; exact h.el, h.k1, h.k2, h.m1, h.m2, h.row⟩
theorem flip_en (h : Mch C N E k m) {s : Nat} (hs : s < k) : en (E.map fun b => !b) s = !en E s := by
  have hE := h.el
  unfold en
  rw [List.getD_eq_getElem?_getD, List.getD_eq_getElem?_getD, List.getElem?_map, List.getElem?_eq_getElem (by omega)]
  rfl
/-! ### running -/
theorem rto_ok (h : Mch C N E k m) (kf : Nat) (hkf : 6000 ≤ kf) (s : Nat) (hs : s < k) (w : List Nat) (hw : ∀ b ∈ w, b < 256) (hl : w.length < 3000) (K : Int → Option R) : ref11_To kf C N E (s : Int) (cast w) K = K ((dls C N s w : Nat) : Int) := by
  unfold ref11_To ref11_To_b
  have hN := h.nl; have hm2 := h.m2
  rw [rmay_ok h kf hkf, decide_eq_false (show ¬ ((s : Int) < 0) by omega), decide_eq_false (show ¬ ((N.length : Int) ≤ (s : Int)) by omega)]
  simp only [Bool.not_true, cond_false]
  refine loop_inv (fun kk i (acc : Nat) => ref11_To_l4 kf kk (cast w) C N (fun v14 => K v14) (acc : Int) (i : Int)) _ w.length 0
    (fun i acc => acc = dls C N s (w.take i)) ?_ ?_ w.length kf 0 s (by omega) (by omega) rfl
  · rintro kk acc rfl
    have hd : decide ((w.length : Int) < ((cast w).length : Int)) = false := decide_eq_false (by rw [cast_len]; omega)
    simp only [ref11_To_l4, ref11_To_l4_b, hd, cond_false, List.take_length]
  · rintro kk i acc _ hi rfl
    left
    have hsi : dls C N s (w.take i) < k := h.dls_lt hs fun b hb => hw b (mem_take hb)
    have hb := hw _ (getD_mem w i hi 0)
    have hcw : (cast w).getD i 0 = ((w.getD i 0 : Nat) : Int) := map_getD w i
    rw [take_snoc w i hi 0]
    generalize hx : dls C N s (w.take i) = x at hsi
    generalize hbb : w.getD i 0 = b at hb hcw
    obtain ⟨c1, c2⟩ := h.cls_lt b hb
    have hdl : dl C N x b = ((N.getD x []).getD (C.getD b 0).toNat 0).toNat := rfl
    obtain ⟨t1, t2⟩ := h.row_lt hsi c1
    rw [← hdl] at t1 t2
    have hrow := h.row x hsi
    refine ⟨dl C N x b, by rw [dls_snoc, hx], ?_⟩
    generalize hcc : (C.getD b 0).toNat = cc at c1 c2 t2 hdl
    have hd : decide ((i : Int) < ((cast w).length : Int)) = true := decide_eq_true (by rw [cast_len]; omega)
    have g1 : decide (0 ≤ (i : Int)) = true := decide_eq_true (by omega)
    have g2 : decide (0 ≤ (x : Int)) = true := decide_eq_true (by omega)
    have g3 : decide ((x : Int) < (N.length : Int)) = true := decide_eq_true (by omega)
    have g4 : decide (0 ≤ (b : Int)) = true := decide_eq_true (by omega)
    have g5 : decide ((b : Int) < 256) = true := decide_eq_true (by omega)
    have g6 : decide (0 ≤ (cc : Int)) = true := decide_eq_true (by omega)
    have g7 : decide ((cc : Int) < ((N.getD x []).length : Int)) = true := decide_eq_true (by omega)
    simp only [ref11_To_l4, ref11_To_l4_b, hd, g1, g2, g3, gd, cond_true, Int.toNat_natCast, hcw, g4, g5, c2, g6, g7, t2, wi_1 i (show i < 4000000000000000000 by omega)]

theorem rrun_ok (h : Mch C N E k m) (kf : Nat) (hkf : 6000 ≤ kf) (w : List Nat) (hw : ∀ b ∈ w, b < 256) (hl : w.length < 3000) (K : Bool → Option R) : ref11_Run kf C N E (cast w) K = K (en E (dls C N 0 w)) := by
  unfold ref11_Run ref11_Run_b
  have hk1 := h.k1; have hE := h.el
  have := rto_ok (R := R) h kf hkf 0 (by omega) w hw hl
  rw [show ((0 : Nat) : Int) = 0 from rfl] at this
  rw [this]
  have hlt : dls C N 0 w < k := h.dls_lt (by omega) hw
  rw [decide_eq_true (show (0 : Int) ≤ ((dls C N 0 w : Nat) : Int) by omega), cond_true, gd_true rfl, gdd (by omega), Int.toNat_natCast]
  rfl


/-! ### which states are live -/
def live (C : List Int) (N : List (List Int)) (E : List Bool) (s : Nat) : Prop := ∃ v : List Nat, (∀ b ∈ v, b < 256) ∧ en E (dls C N s v) = true
theorem live_step (h : Mch C N E k m) {s a : Nat} (ha : a < m) (hl : live C N E ((N.getD s []).getD a 0).toNat) : live C N E s := by
  obtain ⟨v, h1, h2⟩ := hl
  obtain ⟨b, hb, he⟩ := h.inh a ha
  refine ⟨b :: v, ?_, ?_⟩
  · intro x hx
    rcases List.mem_cons.1 hx with rfl | hx
    · exact hb
    · exact h1 x hx
  · simp only [dls]
    have : dl C N s b = ((N.getD s []).getD a 0).toNat := by unfold dl; rw [he]; rfl
    rw [this]; exact h2
/-- a set of states that holds who ends, and whom a step leads into it -/
theorem live_in (h : Mch C N E k m) (t : List Bool) (h1 : ∀ s, s < k → en E s = true → t.getD s false = true)
    (h2 : ∀ s, s < k → t.getD s false = false → ∀ a, a < m → t.getD ((N.getD s []).getD a 0).toNat false = false) : ∀ (v : List Nat) (s : Nat), s < k → (∀ b ∈ v, b < 256) → en E (dls C N s v) = true → t.getD s false = true
  | [], s, hs, _, he => h1 s hs he
  | b :: v, s, hs, hv, he => by
    have hb := hv b (by simp)
    have ih := live_in h t h1 h2 v (dl C N s b) (h.dl_lt hs hb) (fun x hx => hv x (by simp [hx])) he
    cases hts : t.getD s false with
    | true => rfl
    | false =>
      have := h2 s hs hts (C.getD b 0).toNat (h.cls_lt b hb).1
      unfold dl at ih
      rw [ih] at this; cases this

def falses (k : Nat) (t : List Bool) : Nat := sumR k fun s => if t.getD s false = true then 0 else 1
theorem sumR_le {n : Nat} {f g : Nat → Nat} (h : ∀ i, i < n → f i ≤ g i) : sumR n f ≤ sumR n g := by
  induction n with
  | zero => exact Nat.le_refl _
  | succ n ih =>
    rw [sumR_succ, sumR_succ]
    have := ih fun i hi => h i (by omega)
    have := h n (by omega)
    omega
theorem sumR_lt {n : Nat} {f g : Nat → Nat} (h : ∀ i, i < n → f i ≤ g i) (i : Nat) (hi : i < n) (hl : f i < g i) : sumR n f < sumR n g := by
  induction n with
  | zero => omega
  | succ n ih =>
    rw [sumR_succ, sumR_succ]
    by_cases hin : i = n
    · subst hin
      have := sumR_le (n := i) fun j hj => h j (by omega)
      omega
    · have := ih (fun j hj => h j (by omega)) (by omega)
      have := h n (by omega)
      omega
theorem falses_le (k : Nat) (t : List Bool) : falses k t ≤ k := by
  have := sumR_le (n := k) (f := fun s => if t.getD s false = true then 0 else 1) (g := fun _ => 1) fun i _ => by split <;> omega
  rw [sumR_const] at this
  unfold falses; omega
theorem falses_set {k : Nat} {t : List Bool} (hl : t.length = k) {i : Nat} (hi : i < k) (hf : t.getD i false = false) : falses k (t.set i true) < falses k t := by
  have key : ∀ j, (t.set i true).getD j false = if i = j ∧ j < t.length then true else t.getD j false := fun j => getD_set' t i j true false
  unfold falses
  refine sumR_lt (fun j hj => ?_) i hi ?_
  · simp only [key j]
    by_cases hij : i = j ∧ j < t.length
    · rw [if_pos hij]; simp
    · rw [if_neg hij]; exact Nat.le_refl _
  · have ki := key i
    rw [if_pos ⟨rfl, by omega⟩] at ki
    simp only [ki, hf]
    simp

theorem rl11_ok (h : Mch C N E k m) (kf k0 : Nat) (hk : 300 < k0) (i : Nat) (hi : i < k) (ag : Bool) (t : List Bool) (ht : t.length = k) (v19 : List Int) (v21 : List Bool) (Ke : Bool → Int → (List Int) → (List (List Int)) → (List Bool) → (List Bool) → Option R) (T : Option R)
    (hT : ∀ ag' t', ((t' = t ∧ ag' = ag ∧ (t.getD i false = false → ∀ a, a < m → t.getD ((N.getD i []).getD a 0).toNat false = false)) ∨
      (t.getD i false = false ∧ t' = t.set i true ∧ ag' = true ∧ ∃ a, a < m ∧ t.getD ((N.getD i []).getD a 0).toNat false = true)) → Ke ag' (i : Int) v19 N v21 t' = T) :
    ref11_Live_l11 kf k0 (i : Int) v19 N v21 Ke ag 0 t = T := by
  have hm2 := h.m2; have hN := h.nl
  obtain ⟨r1, r2⟩ := h.row i hi
  have g0 : decide (0 ≤ (i : Int)) = true := decide_eq_true (by omega)
  have g1 : decide ((i : Int) < (N.length : Int)) = true := decide_eq_true (by omega)
  have g2 : decide ((i : Int) < (t.length : Int)) = true := decide_eq_true (by omega)
  cases hti : t.getD i false with
  | true =>
    obtain ⟨k1, rfl⟩ : ∃ k1, k0 = k1 + 1 := ⟨k0 - 1, by omega⟩
    have hm1 := h.m1
    have hd : decide ((0 : Int) < ((N.getD i []).length : Int)) = true := decide_eq_true (by omega)
    simp only [ref11_Live_l11, ref11_Live_l11_b, g0, g1, g2, gd, cond_true, cond_false, Int.toNat_natCast, hd, hti, Bool.not_true]
    exact hT ag t (Or.inl ⟨rfl, rfl, fun h => by rw [hti] at h; cases h⟩)
  | false =>
    refine loop_all (fun kk a (_ : Unit) => ref11_Live_l11 kf kk (i : Int) v19 N v21 Ke ag (a : Int) t) T m 2
      (fun a _ => ∀ c, c < a → t.getD ((N.getD i []).getD c 0).toNat false = false) ?_ ?_ m k0 0 () (by omega) (by omega) (by intro c hc; omega)
    · intro kk _ hno
      have hd : decide ((m : Int) < ((N.getD i []).length : Int)) = false := decide_eq_false (by omega)
      simp only [ref11_Live_l11, ref11_Live_l11_b, g0, g1, gd, cond_true, cond_false, Int.toNat_natCast, hd]
      exact hT ag t (Or.inl ⟨rfl, rfl, fun _ => hno⟩)
    · intro kk a _ hB ha hno hrest
      obtain ⟨q1, q2⟩ := h.row_lt hi ha
      generalize huu : ((N.getD i []).getD a 0).toNat = u at q1 q2
      have hd : decide ((a : Int) < ((N.getD i []).length : Int)) = true := decide_eq_true (by omega)
      have ga : decide (0 ≤ (a : Int)) = true := decide_eq_true (by omega)
      have gu : decide (0 ≤ (u : Int)) = true := decide_eq_true (by omega)
      have gu2 : decide ((u : Int) < (t.length : Int)) = true := decide_eq_true (by omega)
      have hw := wi_1 a (show a < 4000000000000000000 by omega)
      cases htu : t.getD u false with
      | true =>
        obtain ⟨k1, rfl⟩ : ∃ k1, kk = k1 + 1 := ⟨kk - 1, by omega⟩
        have hset : (t.set i true).getD i false = true := by rw [getD_set', if_pos ⟨rfl, by omega⟩]
        have g3 : decide ((i : Int) < ((t.set i true).length : Int)) = true := decide_eq_true (by rw [List.length_set]; omega)
        have hend : ∀ x, ref11_Live_l11 kf (k1 + 1) (i : Int) v19 N v21 Ke true x (t.set i true) = Ke true (i : Int) v19 N v21 (t.set i true) := by
          intro x
          rw [ref11_Live_l11]
          unfold ref11_Live_l11_b
          rw [g0, gd_true rfl, g1, gd_true rfl]
          cases decide (x < ((N.getD (Int.toNat (i : Int)) []).length : Int)) with
          | false => rfl
          | true => rw [cond_true, gd_true rfl, g3, gd_true rfl, Int.toNat_natCast, hset]; rfl
        rw [ref11_Live_l11]
        unfold ref11_Live_l11_b
        simp only [g0, g1, g2, gd, cond_true, cond_false, Int.toNat_natCast, hd, hti, Bool.not_false, ga, q2, gu, gu2, htu, hend]
        exact hT true (t.set i true) (Or.inr ⟨hti, rfl, rfl, a, ha, by rw [huu]; exact htu⟩)
      | false =>
        have := hrest () fun c hc => by
          by_cases hca : c = a
          · subst hca; rw [huu]; exact htu
          · exact hno c (by omega)
        rw [ref11_Live_l11]
        unfold ref11_Live_l11_b
        simp only [g0, g1, g2, gd, cond_true, cond_false, Int.toNat_natCast, hd, hti, Bool.not_false, ga, q2, gu, gu2, htu, hw]
        exact this

/-- one round -/
theorem rl8_ok (h : Mch C N E k m) (kf k0 : Nat) (hk : k + 400 < k0) (t : List Bool) (ht : t.length = k) (hs : ∀ s, s < k → t.getD s false = true → live C N E s) (v12 : List Int) (v14 : List Bool) (Ke : Bool → (List Int) → (List (List Int)) → (List Bool) → (List Bool) → Option R) (T : Option R)
    (hT : ∀ ag' t', t'.length = k → (∀ s, s < k → t'.getD s false = true → live C N E s) → (∀ s, s < k → t.getD s false = true → t'.getD s false = true) →
      ((ag' = true ∧ falses k t' < falses k t) ∨ (ag' = false ∧ t' = t ∧ ∀ j, j < k → t.getD j false = false → ∀ a, a < m → t.getD ((N.getD j []).getD a 0).toNat false = false)) → Ke ag' v12 N v14 t' = T) :
    ref11_Live_l8 kf k0 Ke false 0 v12 N v14 t = T := by
  refine loop_all (fun kk i (acc : Bool × List Bool) => ref11_Live_l8 kf kk Ke acc.1 (i : Int) v12 N v14 acc.2) T k 320
    (fun i acc => acc.2.length = k ∧ (∀ s, s < k → acc.2.getD s false = true → live C N E s) ∧ (∀ s, s < k → t.getD s false = true → acc.2.getD s false = true) ∧
      ((acc.1 = true ∧ falses k acc.2 < falses k t) ∨ (acc.1 = false ∧ acc.2 = t ∧ ∀ j, j < i → t.getD j false = false → ∀ a, a < m → t.getD ((N.getD j []).getD a 0).toNat false = false))) ?_ ?_ k k0 0 (false, t) (by omega) (by omega)
    ⟨ht, hs, fun s _ h => h, Or.inr ⟨rfl, rfl, fun j hj => by omega⟩⟩
  · rintro kk ⟨ag, t'⟩ ⟨h1, h2, h3, h4⟩
    simp only at h1 h2 h3 h4
    have hd : decide ((k : Int) < (t'.length : Int)) = false := decide_eq_false (by omega)
    rw [ref11_Live_l8]
    unfold ref11_Live_l8_b
    rw [hd, cond_false]
    exact hT ag t' h1 h2 h3 h4
  · rintro kk i ⟨ag, t'⟩ hB hi ⟨h1, h2, h3, h4⟩ hrest
    simp only at h1 h2 h3 h4
    have hd : decide ((i : Int) < (t'.length : Int)) = true := decide_eq_true (by omega)
    rw [ref11_Live_l8]
    unfold ref11_Live_l8_b
    rw [hd, cond_true]
    refine rl11_ok h kf kk (by omega) i hi ag t' h1 v12 v14 _ T fun ag' t'' hres => ?_
    rw [wi_1 i (by have := h.k2; omega)]
    refine hrest (ag', t'') ?_
    rcases hres with ⟨rfl, rfl, hcl⟩ | ⟨hti, rfl, rfl, a, ha, hta⟩
    · refine ⟨h1, h2, h3, ?_⟩
      rcases h4 with h4 | ⟨h5, h6, h7⟩
      · exact Or.inl h4
      · refine Or.inr ⟨h5, h6, fun j hj => ?_⟩
        by_cases hji : j = i
        · subst hji; rw [← h6]; exact hcl
        · exact h7 j (by omega)
    · have hfl := falses_set h1 hi hti
      refine ⟨by simp only; rw [List.length_set]; exact h1, fun s hs' => ?_, fun s hs' hst => ?_, Or.inl ⟨rfl, ?_⟩⟩
      · simp only
        rw [getD_set']
        by_cases his : i = s
        · subst his
          intro _
          exact live_step h ha (h2 _ (h.row_lt hi ha).1 hta)
        · rw [if_neg (fun q => his q.1)]; exact h2 s hs'
      · simp only
        rw [getD_set']
        split
        · rfl
        · exact h3 s hs' hst
      · rcases h4 with ⟨_, h5⟩ | ⟨_, h6, _⟩
        · show falses k (t'.set i true) < falses k t
          omega
        · show falses k (t'.set i true) < falses k t
          rw [h6] at hfl ⊢; exact hfl

theorem rlive_ok (h : Mch C N E k m) (kf : Nat) (hkf : 20000 ≤ kf) (K : List Bool → Option R) (T : Option R)
    (hT : ∀ t : List Bool, t.length = k → (∀ s, s < k → (t.getD s false = true ↔ live C N E s)) → K t = T) : ref11_Live kf C N E K = T := by
  unfold ref11_Live ref11_Live_b
  have hE := h.el; have hk2 := h.k2
  rw [rmay_ok h kf (by omega)]
  simp only [Bool.not_true, cond_false, List.nil_append]
  rw [gdd (by rw [small_eq]; simp; omega)]
  refine loop_meas (fun kk (acc : Bool × List Bool) => ref11_Live_l5 kf kk (fun (v34 : List Bool) => K v34) acc.1 C N E acc.2) T (fun acc => 2 * falses k acc.2 + if acc.1 = true then 1 else 0) 5000
    (fun acc => acc.2.length = k ∧ (∀ s, s < k → acc.2.getD s false = true → live C N E s) ∧ (∀ s, s < k → en E s = true → acc.2.getD s false = true) ∧
      (acc.1 = false → ∀ j, j < k → acc.2.getD j false = false → ∀ a, a < m → acc.2.getD ((N.getD j []).getD a 0).toNat false = false)) ?_ kf (true, E) (by have := falses_le k E; simp only [if_true]; omega)
    ⟨hE, fun s hs h => ⟨[], by simp, h⟩, fun s hs h => h, fun h => by cases h⟩
  rintro kk ⟨ag, t⟩ hB ⟨h1, h2, h3, h4⟩ hrest
  simp only at h1 h2 h3 h4
  rw [ref11_Live_l5]
  unfold ref11_Live_l5_b
  cases ag with
  | false =>
    rw [cond_false]
    refine hT t h1 fun s hs => ⟨h2 s hs, ?_⟩
    rintro ⟨v, hv, he⟩
    exact live_in h t h3 (h4 rfl) v s hs hv he
  | true =>
    rw [cond_true]
    refine rl8_ok h kf kk (by omega) t h1 h2 C E _ T fun ag' t' z1 z2 z3 z4 => ?_
    refine hrest (ag', t') ⟨z1, z2, fun s hs he => z3 s hs (h3 s hs he), fun ha => ?_⟩ ?_
    · rcases z4 with ⟨z5, _⟩ | ⟨_, z6, z7⟩
      · simp only at ha; rw [ha] at z5; cases z5
      · simp only; rw [z6]; exact z7
    · simp only [if_true]
      rcases z4 with ⟨z5, z6⟩ | ⟨z5, z6, _⟩
      · rw [z5]; simp; omega
      · rw [z5, z6]; simp
end
end Go.Ab.T

/- The words that lead to states, shortest and least first: a search in the order of words. -/
namespace Go.Ab.T
open Go Go.Ab
set_option linter.unusedVariables false
set_option linter.unusedSimpArgs false

theorem nodup_len : ∀ (l ys : List Nat), l.Nodup → (∀ x ∈ l, x ∈ ys) → l.length ≤ ys.length
  | [], ys, _, _ => Nat.zero_le _
  | a :: r, ys, hn, hs => by
    rw [List.nodup_cons] at hn
    have ha := hs a (by simp)
    have ih := nodup_len r (ys.erase a) hn.2 fun x hx => (List.mem_erase_of_ne (fun h => hn.1 (by rw [← h]; exact hx))).2 (hs x (by simp [hx]))
    rw [List.length_erase_of_mem ha] at ih
    have := List.length_pos_of_mem ha
    rw [List.length_cons]
    omega

/-- the first byte of its class -/
def isRep (C : List Int) (f : Nat) : Prop := ∀ b, b < f → C.getD b 0 ≠ C.getD f 0
theorem rep_of (C : List Int) : ∀ b : Nat, ∃ f, f ≤ b ∧ isRep C f ∧ C.getD f 0 = C.getD b 0 := by
  intro b
  induction b using Nat.strongRecOn with
  | _ b ih =>
    by_cases h : isRep C b
    · exact ⟨b, Nat.le_refl _, h, rfl⟩
    · obtain ⟨c, hc⟩ := Classical.not_forall.1 h
      obtain ⟨h1, h2⟩ := Classical.not_imp.1 hc
      obtain ⟨f, q1, q2, q3⟩ := ih c h1
      exact ⟨f, by omega, q2, by rw [q3]; exact Classical.not_not.1 h2⟩

abbrev Q := List (Nat × List Nat)
def qs (q : Q) (i : Nat) : Nat := (q.getD i (0, [])).1
def qw (q : Q) (i : Nat) : List Nat := (q.getD i (0, [])).2
theorem q_mem {q : Q} {i : Nat} (h : i < q.length) : (qs q i, qw q i) ∈ q := by
  unfold qs qw
  exact getD_mem q i h (0, [])
theorem q_of_mem {q : Q} {x : Nat × List Nat} (h : x ∈ q) : ∃ i, i < q.length ∧ x = (qs q i, qw q i) := by
  obtain ⟨i, h1, h2⟩ := List.mem_iff_getElem.1 h
  refine ⟨i, h1, ?_⟩
  unfold qs qw
  rw [List.getD_eq_getElem?_getD, List.getElem?_eq_getElem h1, h2]
  rfl
theorem qs_old {q : Q} {x : Nat × List Nat} {i : Nat} (h : i < q.length) : qs (q ++ [x]) i = qs q i := by
  unfold qs; rw [snoc_getD, if_pos h]
theorem qw_old {q : Q} {x : Nat × List Nat} {i : Nat} (h : i < q.length) : qw (q ++ [x]) i = qw q i := by
  unfold qw; rw [snoc_getD, if_pos h]
theorem qs_new {q : Q} {x : Nat × List Nat} : qs (q ++ [x]) q.length = x.1 := by
  unfold qs; rw [snoc_getD, if_neg (by omega), if_pos rfl]
theorem qw_new {q : Q} {x : Nat × List Nat} : qw (q ++ [x]) q.length = x.2 := by
  unfold qw; rw [snoc_getD, if_neg (by omega), if_pos rfl]

structure Bfs (C : List Int) (N : List (List Int)) (E : List Bool) (k : Nat) (p B : Nat) (q : Q) : Prop where
  root : (0, []) ∈ q
  lt : ∀ x ∈ q, x.1 < k ∧ (∀ b ∈ x.2, b < 256) ∧ dls C N 0 x.2 = x.1
  inj : ∀ i j, i < j → j < q.length → qs q i ≠ qs q j
  sorted : ∀ i j, i < j → j < q.length → code (qw q i) < code (qw q j)
  top : p < q.length → ∀ x ∈ q, code x.2 < 256 * code (qw q p) + B + 1
  done : ∀ i, i < p → ∀ b, b < 256 → ∃ x ∈ q, x.1 = dl C N (qs q i) b ∧ code x.2 ≤ 256 * code (qw q i) + b + 1
  part : p < q.length → ∀ b f, b < 256 → f ≤ b → isRep C f → f < B → C.getD f 0 = C.getD b 0 → ∃ x ∈ q, x.1 = dl C N (qs q p) b ∧ code x.2 ≤ 256 * code (qw q p) + b + 1
  dead : ∀ i, i < p → en E (qs q i) = false
  len : ∀ i, i < q.length → (qw q i).length ≤ i
  ple : p ≤ q.length

section
variable {C : List Int} {N : List (List Int)} {E : List Bool} {k m p B : Nat} {q : Q}

theorem dl_cls {s b f : Nat} (h : C.getD f 0 = C.getD b 0) : dl C N s f = dl C N s b := by unfold dl; rw [h]

theorem Bfs.start (hk : 1 ≤ k) : Bfs C N E k 0 0 [(0, [])] := by
  refine ⟨by simp, ?_, ?_, ?_, ?_, ?_, ?_, ?_, ?_, ?_⟩
  · intro x hx
    rw [List.mem_singleton] at hx
    subst hx
    exact ⟨hk, by simp, rfl⟩
  · intro i j hij hj; simp at hj; omega
  · intro i j hij hj; simp at hj; omega
  · intro _ x hx
    rw [List.mem_singleton] at hx
    subst hx
    have : qw [(0, [])] 0 = [] := rfl
    rw [this, code_nil]
    show code [] < _
    rw [code_nil]; omega
  · intro i hi; omega
  · intro _ b f _ _ _ hf; omega
  · intro i hi; omega
  · intro i hi
    simp at hi
    subst hi
    exact Nat.le_refl _
  · simp

/-- bytes that are not the first of their class -/
theorem Bfs.skip (h : Bfs C N E k p B q) (B' : Nat) (hB : B ≤ B') (hn : ∀ f, B ≤ f → f < B' → f < 256 → ¬ isRep C f) : Bfs C N E k p B' q := by
  refine ⟨h.root, h.lt, h.inj, h.sorted, ?_, h.done, ?_, h.dead, h.len, h.ple⟩
  · intro hp x hx
    have := h.top hp x hx
    omega
  · intro hp b f hb hfb hf hfB hc
    by_cases hlt : f < B
    · exact h.part hp b f hb hfb hf hlt hc
    · exact absurd hf (hn f (by omega) hfB (by omega))

theorem Bfs.old (h : Bfs C N E k p B q) (hp : p < q.length) (hB : B < 256) (hr : isRep C B) (hm : ∃ x ∈ q, x.1 = dl C N (qs q p) B) : Bfs C N E k p (B + 1) q := by
  refine ⟨h.root, h.lt, h.inj, h.sorted, ?_, h.done, ?_, h.dead, h.len, h.ple⟩
  · intro hp x hx
    have := h.top hp x hx
    omega
  · intro hp b f hb hfb hf hfB hc
    by_cases hlt : f < B
    · exact h.part hp b f hb hfb hf hlt hc
    · have : f = B := by omega
      subst this
      obtain ⟨x, hx, he⟩ := hm
      refine ⟨x, hx, by rw [he, dl_cls hc], ?_⟩
      have := h.top hp x hx
      omega

theorem Bfs.new (hM : Mch C N E k m) (h : Bfs C N E k p B q) (hp : p < q.length) (hB : B < 256) (hr : isRep C B) (hm : ∀ x ∈ q, x.1 ≠ dl C N (qs q p) B) : Bfs C N E k p (B + 1) (q ++ [(dl C N (qs q p) B, qw q p ++ [B])]) := by
  obtain ⟨p1, p2, p3⟩ := h.lt _ (q_mem hp)
  have hlen : (q ++ [(dl C N (qs q p) B, qw q p ++ [B])]).length = q.length + 1 := by simp
  refine ⟨?_, ?_, ?_, ?_, ?_, ?_, ?_, ?_, ?_, ?_⟩
  · exact List.mem_append_left _ h.root
  · intro x hx
    rcases List.mem_append.1 hx with hx | hx
    · exact h.lt x hx
    · rw [List.mem_singleton] at hx
      subst hx
      refine ⟨hM.dl_lt p1 hB, ?_, ?_⟩
      · intro b hb
        rcases List.mem_append.1 hb with hb | hb
        · exact p2 b hb
        · rw [List.mem_singleton] at hb; omega
      · rw [dls_snoc]
        show dl C N (dls C N 0 (qw q p)) B = _
        rw [show dls C N 0 (qw q p) = qs q p from p3]
  · intro i j hij hj
    rw [hlen] at hj
    by_cases hjl : j < q.length
    · rw [qs_old hjl, qs_old (by omega)]; exact h.inj i j hij hjl
    · have : j = q.length := by omega
      subst this
      rw [qs_new, qs_old hij]
      exact hm _ (q_mem hij)
  · intro i j hij hj
    rw [hlen] at hj
    by_cases hjl : j < q.length
    · rw [qw_old hjl, qw_old (by omega)]; exact h.sorted i j hij hjl
    · have : j = q.length := by omega
      subst this
      rw [qw_new, qw_old hij, code_snoc]
      have := h.top hp _ (q_mem hij)
      exact this
  · intro _ x hx
    rw [qw_old hp]
    rcases List.mem_append.1 hx with hx | hx
    · have := h.top hp x hx; omega
    · rw [List.mem_singleton] at hx
      subst hx
      rw [code_snoc]; omega
  · intro i hi b hb
    obtain ⟨x, hx, h1, h2⟩ := h.done i hi b hb
    have hi' : i < q.length := by have := h.ple; omega
    rw [qs_old hi', qw_old hi']
    exact ⟨x, List.mem_append_left _ hx, h1, h2⟩
  · intro _ b f hb hfb hf hfB hc
    rw [qs_old hp, qw_old hp]
    by_cases hlt : f < B
    · obtain ⟨x, hx, h1, h2⟩ := h.part hp b f hb hfb hf hlt hc
      exact ⟨x, List.mem_append_left _ hx, h1, h2⟩
    · have : f = B := by omega
      subst this
      refine ⟨_, List.mem_append_right _ (List.mem_singleton.2 rfl), by rw [dl_cls hc], ?_⟩
      rw [code_snoc]; omega
  · intro i hi
    have hi' : i < q.length := by have := h.ple; omega
    rw [qs_old hi']; exact h.dead i hi
  · intro i hi
    rw [hlen] at hi
    by_cases hil : i < q.length
    · rw [qw_old hil]; exact h.len i hil
    · have : i = q.length := by omega
      subst this
      rw [qw_new, List.length_append, List.length_singleton]
      have := h.len p hp
      omega
  · have := h.ple; omega

/-- on to the next one -/
theorem Bfs.next (h : Bfs C N E k p 256 q) (hp : p < q.length) (he : en E (qs q p) = false) : Bfs C N E k (p + 1) 0 q := by
  refine ⟨h.root, h.lt, h.inj, h.sorted, ?_, ?_, ?_, ?_, h.len, by omega⟩
  · intro hp1 x hx
    have h1 := h.top hp x hx
    have h2 := h.sorted p (p + 1) (by omega) hp1
    omega
  · intro i hi b hb
    by_cases hip : i < p
    · exact h.done i hip b hb
    · have : i = p := by omega
      subst this
      obtain ⟨f, f1, f2, f3⟩ := rep_of C b
      exact h.part hp b f hb f1 f2 (by omega) f3
  · intro _ b f _ _ _ hf; omega
  · intro i hi
    by_cases hip : i < p
    · exact h.dead i hip
    · have : i = p := by omega
      subst this; exact he

theorem Bfs.size (h : Bfs C N E k p B q) : q.length ≤ k := by
  have hn : (q.map (·.1)).Nodup := by
    unfold List.Nodup
    rw [List.pairwise_iff_getElem]
    intro i j hi hj hij
    rw [List.getElem_map, List.getElem_map]
    rw [List.length_map] at hi hj
    have := h.inj i j hij hj
    unfold qs at this
    rwa [List.getD_eq_getElem?_getD, List.getD_eq_getElem?_getD, List.getElem?_eq_getElem hi, List.getElem?_eq_getElem hj] at this
  have := nodup_len (q.map (·.1)) (List.range k) hn (fun x hx => by
    rw [List.mem_map] at hx
    obtain ⟨y, hy, rfl⟩ := hx
    exact List.mem_range.2 (h.lt y hy).1)
  rwa [List.length_map, List.length_range] at this

/-- each word: its state has been found by one that is no greater, or all that is still to come is ahead of it -/
theorem Bfs.all (h : Bfs C N E k p 0 q) : ∀ (n : Nat) (v : List Nat), v.length = n → (∀ b ∈ v, b < 256) →
    (∃ x ∈ q, x.1 = dls C N 0 v ∧ code x.2 ≤ code v) ∨ (p < q.length ∧ 256 * code (qw q p) + 1 ≤ code v)
  | 0, v, hn, _ => by
    have : v = [] := List.length_eq_zero_iff.1 hn
    subst this
    exact Or.inl ⟨(0, []), h.root, rfl, Nat.le_refl _⟩
  | n + 1, v, hn, hv => by
    rcases snoc_cases v with rfl | ⟨u, b, rfl⟩
    · simp at hn
    · have hb := hv b (by simp)
      rw [code_snoc, dls_snoc]
      rcases h.all n u (by simpa using hn) (fun x hx => hv x (by simp [hx])) with ⟨x, hx, h1, h2⟩ | ⟨h1, h2⟩
      · obtain ⟨i, hi, rfl⟩ := q_of_mem hx
        simp only at h1 h2
        by_cases hip : i < p
        · obtain ⟨y, hy, y1, y2⟩ := h.done i hip b hb
          left
          exact ⟨y, hy, by rw [y1, h1], by omega⟩
        · right
          refine ⟨by omega, ?_⟩
          by_cases hpi : p = i
          · subst hpi; omega
          · have := h.sorted p i (by omega) hi; omega
      · exact Or.inr ⟨h1, by omega⟩

/-- found: the least word of all -/
theorem Bfs.found (h : Bfs C N E k p 0 q) (hp : p < q.length) (he : en E (qs q p) = true) :
    en E (dls C N 0 (qw q p)) = true ∧ (∀ b ∈ qw q p, b < 256) ∧ (qw q p).length < k ∧ ∀ v, (∀ b ∈ v, b < 256) → en E (dls C N 0 v) = true → code (qw q p) ≤ code v := by
  obtain ⟨p1, p2, p3⟩ := h.lt _ (q_mem hp)
  simp only at p1 p2 p3
  refine ⟨by rw [p3]; exact he, p2, ?_, ?_⟩
  · have := h.len p hp; have := h.size; omega
  · intro v hv hev
    rcases h.all v.length v rfl hv with ⟨x, hx, h1, h2⟩ | ⟨_, h2⟩
    · obtain ⟨i, hi, rfl⟩ := q_of_mem hx
      simp only at h1 h2
      have hip : ¬ i < p := by
        intro hip
        have := h.dead i hip
        rw [h1, hev] at this; cases this
      by_cases hpi : p = i
      · subst hpi; exact h2
      · have := h.sorted p i (by omega) hi; omega
    · omega
/-- found later on, among those that were there when the p-th was looked at -/
theorem Bfs.found' (h : Bfs C N E k p 0 q) (i : Nat) (hpi : p ≤ i) (hi : i < q.length) (hno : ∀ j, p ≤ j → j < i → en E (qs q j) = false) (he : en E (qs q i) = true) :
    en E (dls C N 0 (qw q i)) = true ∧ (∀ b ∈ qw q i, b < 256) ∧ (qw q i).length < k ∧ ∀ v, (∀ b ∈ v, b < 256) → en E (dls C N 0 v) = true → code (qw q i) ≤ code v := by
  obtain ⟨p1, p2, p3⟩ := h.lt _ (q_mem hi)
  simp only at p1 p2 p3
  refine ⟨by rw [p3]; exact he, p2, ?_, ?_⟩
  · have := h.len i hi; have := h.size; omega
  · intro v hv hev
    rcases h.all v.length v rfl hv with ⟨x, hx, h1, h2⟩ | ⟨h1, h2⟩
    · obtain ⟨j, hj, rfl⟩ := q_of_mem hx
      simp only at h1 h2
      have hij : i ≤ j := by
        apply Classical.byContradiction
        intro hn
        have : en E (qs q j) = false := by
          by_cases hjp : j < p
          · exact h.dead j hjp
          · exact hno j (by omega) (by omega)
        rw [h1, hev] at this; cases this
      by_cases hij' : i = j
      · subst hij'; exact h2
      · have := h.sorted i j (by omega) hj; omega
    · have := h.top h1 _ (q_mem hi)
      simp only at this
      omega
/-- none -/
theorem Bfs.none (h : Bfs C N E k p 0 q) (hp : ¬ p < q.length) : ∀ v, (∀ b ∈ v, b < 256) → en E (dls C N 0 v) = false := by
  intro v hv
  rcases h.all v.length v rfl hv with ⟨x, hx, h1, h2⟩ | ⟨h1, _⟩
  · obtain ⟨i, hi, rfl⟩ := q_of_mem hx
    simp only at h1
    rw [← h1]
    exact h.dead i (by omega)
  · exact absurd h1 hp
end

/-- what a search for the shortest word comes to -/
def IsShort (C : List Int) (N : List (List Int)) (E : List Bool) (k : Nat) (is : Bool) (w : List Nat) : Prop :=
  (is = true ∧ en E (dls C N 0 w) = true ∧ (∀ b ∈ w, b < 256) ∧ w.length < k ∧ ∀ v, (∀ b ∈ v, b < 256) → en E (dls C N 0 v) = true → code w ≤ code v) ∨
  (is = false ∧ w = [] ∧ ∀ v, (∀ b ∈ v, b < 256) → en E (dls C N 0 v) = false)
theorem IsShort.unique {C : List Int} {N : List (List Int)} {E : List Bool} {k : Nat} {is is' : Bool} {w w' : List Nat} (h : IsShort C N E k is w) (h' : IsShort C N E k is' w') : is = is' ∧ w = w' := by
  rcases h with ⟨a1, a2, a3, a4, a5⟩ | ⟨a1, a2, a3⟩
  · rcases h' with ⟨b1, b2, b3, b4, b5⟩ | ⟨b1, b2, b3⟩
    · refine ⟨by rw [a1, b1], code_inj _ w w' (Nat.le_refl _) a3 b3 ?_⟩
      have := a5 w' b3 b2
      have := b5 w a3 a2
      omega
    · rw [b3 w a3] at a2; cases a2
  · rcases h' with ⟨b1, b2, b3, b4, b5⟩ | ⟨b1, b2, b3⟩
    · rw [a3 w' b3] at b2; cases b2
    · exact ⟨by rw [a1, b1], by rw [a2, b2]⟩
end Go.Ab.T

/- How many words: witness.Count. -/
namespace Go.Ab.T
open Go Go.Ab
set_option linter.unusedVariables false
set_option linter.unusedSimpArgs false

theorem mod_step (S c w M : Nat) : (S % M + c * (w % M) % M) % M = (S + c * w) % M := by
  rw [Nat.mul_mod_mod, ← Nat.add_mod]
theorem wu (n : Nat) : IntKind.u64.wrap (n : Int) = ((n % 18446744073709551616 : Nat) : Int) := by
  rw [IntKind.wrap_u64]; omega
theorem wu_step (S c w : Nat) : IntKind.u64.wrap (((S % 18446744073709551616 : Nat) : Int) + IntKind.u64.wrap (mulZ (c : Int) ((w % 18446744073709551616 : Nat) : Int))) = (((S + c * w) % 18446744073709551616 : Nat) : Int) := by
  have e : mulZ (c : Int) ((w % 18446744073709551616 : Nat) : Int) = ((c * (w % 18446744073709551616) : Nat) : Int) := by
    unfold mulZ
    rw [wall_eq, Int.natCast_mul]
  rw [e, wu, ← Int.natCast_add, wu, mod_step]

def cntC (C : List Int) (a : Nat) : Nat := (List.range 256).countP fun b => decide ((C.getD b 0).toNat = a)

section
variable {R : Type} {C : List Int} {N : List (List Int)} {E : List Bool} {k m : Nat}

theorem W_succ_cls (h : Mch C N E k m) (n s : Nat) : W C N E (n + 1) s = sumR m fun a => cntC C a * W C N E n ((N.getD s []).getD a 0).toNat :=
  class_sum m (fun b => (C.getD b 0).toNat) (fun a => W C N E n ((N.getD s []).getD a 0).toNat) 256 fun b hb => (h.cls_lt b hb).1

/-- how many bytes each class has -/
theorem many_ok (h : Mch C N E k m) (kf k0 : Nat) (hk : 256 < k0) (v6 : Int) (v9 : List Int) (v10 : List (List Int)) (v11 : List Bool) (Ke : Int → (List Int) → (List (List Int)) → (List Bool) → (List Int) → Option R) (T : Option R)
    (hT : ∀ mn : List Int, mn.length = 256 → (∀ a, a < 256 → mn.getD a 0 = ((cntC C a : Nat) : Int)) → Ke v6 v9 v10 v11 mn = T) :
    witness_Count_l5 kf k0 v6 C v9 v10 v11 Ke 0 (List.replicate 256 (0 : Int)) = T := by
  have hm2 := h.m2
  refine loop_inv (fun kk b (acc : List Int) => witness_Count_l5 kf kk v6 C v9 v10 v11 Ke (b : Int) acc) T 256 0
    (fun b acc => acc.length = 256 ∧ ∀ a, a < 256 → acc.getD a 0 = (((List.range b).countP fun b => decide ((C.getD b 0).toNat = a) : Nat) : Int)) ?_ ?_ 256 k0 0 _ (by omega) (by omega)
    ⟨List.length_replicate, fun a ha => by rw [getD_rep]; simp⟩
  · rintro kk mn ⟨h1, h2⟩
    simp only [witness_Count_l5, witness_Count_l5_b, show decide (((256 : Nat) : Int) < 256) = false from rfl, cond_false]
    exact hT mn h1 h2
  · rintro kk b acc _ hb ⟨h1, h2⟩
    left
    obtain ⟨c1, c2⟩ := h.cls_lt b hb
    generalize hcc : (C.getD b 0).toNat = cc at c1 c2
    have hd : decide ((b : Int) < 256) = true := decide_eq_true (by omega)
    have g1 : decide (0 ≤ (b : Int)) = true := decide_eq_true (by omega)
    have g2 : decide (0 ≤ (cc : Int)) = true := decide_eq_true (by omega)
    have g3 : decide ((cc : Int) < 256) = true := decide_eq_true (by omega)
    have hle : (List.range b).countP (fun b => decide ((C.getD b 0).toNat = cc)) ≤ b := by
      have := List.countP_le_length (p := fun b => decide ((C.getD b 0).toNat = cc)) (l := List.range b)
      rwa [List.length_range] at this
    have hw : IntKind.u64.wrap ((((List.range b).countP fun b => decide ((C.getD b 0).toNat = cc) : Nat) : Int) + 1) = (((List.range (b + 1)).countP fun b => decide ((C.getD b 0).toNat = cc) : Nat) : Int) := by
      rw [List.range_succ, List.countP_append, List.countP_cons, List.countP_nil, hcc]
      simp only [decide_true, if_true]
      rw [IntKind.wrap_u64]
      omega
    refine ⟨acc.set cc (((List.range (b + 1)).countP fun b => decide ((C.getD b 0).toNat = cc) : Nat) : Int), ⟨by rw [List.length_set]; exact h1, fun a ha => ?_⟩, ?_⟩
    · rw [getD_set']
      by_cases hca : cc = a
      · subst hca; rw [if_pos ⟨rfl, by omega⟩]
      · rw [if_neg (fun q => hca q.1), h2 a ha, List.range_succ, List.countP_append, List.countP_cons, List.countP_nil, hcc]
        simp [hca]
    · simp only [witness_Count_l5, witness_Count_l5_b, hd, g1, gd, cond_true, Int.toNat_natCast, c2, g2, g3, h2 cc (by omega), hw, wi_1 b (show b < 4000000000000000000 by omega)]

/-- which states end -/
theorem now0_ok (h : Mch C N E k m) (kf k0 : Nat) (hk : k < k0) (v18 : Int) (v22 : List Int) (v23 : List (List Int)) (v24 : List Bool) (v25 : List Int) (Ke : Int → (List Int) → (List (List Int)) → (List Bool) → (List Int) → (List Int) → Option R) (T : Option R)
    (hT : ∀ nw : List Int, nw.length = k → (∀ s, s < k → nw.getD s 0 = ((W C N E 0 s % 18446744073709551616 : Nat) : Int)) → Ke v18 v22 v23 v24 v25 nw = T) :
    witness_Count_l11 kf k0 v18 E (k : Int) v22 v23 v24 v25 Ke 0 (List.replicate k (0 : Int)) = T := by
  have he := h.el
  refine loop_inv (fun kk s (acc : List Int) => witness_Count_l11 kf kk v18 E (k : Int) v22 v23 v24 v25 Ke (s : Int) acc) T k 0
    (fun s acc => acc.length = k ∧ ∀ a, a < k → acc.getD a 0 = if a < s then ((W C N E 0 a % 18446744073709551616 : Nat) : Int) else 0) ?_ ?_ k k0 0 _ (by omega) (by omega)
    ⟨List.length_replicate, fun a ha => by rw [getD_rep]; simp⟩
  · rintro kk nw ⟨h1, h2⟩
    have hd : decide ((k : Int) < (k : Int)) = false := decide_eq_false (by omega)
    simp only [witness_Count_l11, witness_Count_l11_b, hd, cond_false]
    exact hT nw h1 fun s hs => by rw [h2 s hs, if_pos hs]
  · rintro kk s acc _ hs ⟨h1, h2⟩
    left
    have hd : decide ((s : Int) < (k : Int)) = true := decide_eq_true (by omega)
    have hd2 : decide ((s : Int) < (E.length : Int)) = true := decide_eq_true (by omega)
    have hd3 : decide ((s : Int) < (acc.length : Int)) = true := decide_eq_true (by omega)
    have g1 : decide (0 ≤ (s : Int)) = true := decide_eq_true (by omega)
    cases hes : E.getD s false with
    | false =>
      refine ⟨acc, ⟨h1, fun a ha => ?_⟩, ?_⟩
      · rw [h2 a ha]
        by_cases has : a = s
        · subst has
          rw [if_neg (by omega), if_pos (by omega)]
          have : W C N E 0 a = 0 := by simp only [W, en, hes]; rfl
          rw [this]; rfl
        · by_cases hlt : a < s
          · rw [if_pos hlt, if_pos (by omega)]
          · rw [if_neg hlt, if_neg (by omega)]
      · simp only [witness_Count_l11, witness_Count_l11_b, hd, hd2, g1, gd, cond_true, cond_false, Int.toNat_natCast, hes, wi_1 s (show s < 4000000000000000000 by have := h.k2; omega)]
    | true =>
      refine ⟨acc.set s 1, ⟨by rw [List.length_set]; exact h1, fun a ha => ?_⟩, ?_⟩
      · rw [getD_set']
        by_cases has : s = a
        · subst has
          rw [if_pos ⟨rfl, by omega⟩, if_pos (by omega)]
          have : W C N E 0 s = 1 := by simp only [W, en, hes]; rfl
          rw [this]; rfl
        · rw [if_neg (fun q => has q.1), h2 a ha]
          by_cases hlt : a < s
          · rw [if_pos hlt, if_pos (by omega)]
          · rw [if_neg hlt, if_neg (by omega)]
      · simp only [witness_Count_l11, witness_Count_l11_b, hd, hd2, hd3, g1, gd, cond_true, cond_false, Int.toNat_natCast, hes, wi_1 s (show s < 4000000000000000000 by have := h.k2; omega)]

/-- one state's next number -/
theorem l23_ok (h : Mch C N E k m) (kf k0 : Nat) (hk : 256 < k0) (i s : Nat) (hs : s < k) (v52 v53 v55 v56 : Int) (v54 : List (List Int)) (v60 : List Int) (v61 : List (List Int)) (v62 : List Bool) (mn nw nx : List Int)
    (hmn : mn.length = 256 ∧ ∀ a, a < 256 → mn.getD a 0 = ((cntC C a : Nat) : Int)) (hnw : nw.length = k ∧ ∀ s, s < k → nw.getD s 0 = ((W C N E i s % 18446744073709551616 : Nat) : Int)) (hnx : nx.length = k) (hnx0 : nx.getD s 0 = 0)
    (Ke : Int → Int → (List (List Int)) → Int → Int → (List Int) → (List (List Int)) → (List Bool) → (List Int) → (List Int) → (List Int) → Option R) :
    witness_Count_l23 kf k0 (s : Int) v52 v53 v54 v55 v56 (N.getD s []) ((N.getD s []).length : Int) v60 v61 v62 mn nw Ke 0 nx = Ke v52 v53 v54 v55 v56 v60 v61 v62 mn nw (nx.set s ((W C N E (i + 1) s % 18446744073709551616 : Nat) : Int)) := by
  have hm2 := h.m2
  obtain ⟨r1, r2⟩ := h.row s hs
  rw [W_succ_cls h]
  refine loop_inv (fun kk a (acc : List Int) => witness_Count_l23 kf kk (s : Int) v52 v53 v54 v55 v56 (N.getD s []) ((N.getD s []).length : Int) v60 v61 v62 mn nw Ke (a : Int) acc) _ m 0
    (fun a acc => acc = nx.set s ((sumR a (fun a => cntC C a * W C N E i ((N.getD s []).getD a 0).toNat) % 18446744073709551616 : Nat) : Int)) ?_ ?_ m k0 0 nx (by omega) (by omega) ?_
  · rintro kk acc rfl
    have hd : decide ((m : Int) < ((N.getD s []).length : Int)) = false := decide_eq_false (by omega)
    simp only [witness_Count_l23, witness_Count_l23_b, hd, cond_false]
  · rintro kk a acc _ ha rfl
    left
    obtain ⟨q1, q2⟩ := h.row_lt hs ha
    refine ⟨_, rfl, ?_⟩
    generalize hS : sumR a (fun a => cntC C a * W C N E i ((N.getD s []).getD a 0).toNat) = S
    rw [sumR_succ, hS]
    generalize ht : ((N.getD s []).getD a 0).toNat = t at q1 q2
    have hd : decide ((a : Int) < ((N.getD s []).length : Int)) = true := decide_eq_true (by omega)
    have g1 : decide (0 ≤ (a : Int)) = true := decide_eq_true (by omega)
    have g2 : decide (0 ≤ (s : Int)) = true := decide_eq_true (by omega)
    have g3 : ∀ x : Int, decide ((s : Int) < ((nx.set s x).length : Int)) = true := fun x => decide_eq_true (by rw [List.length_set]; omega)
    have g4 : decide ((a : Int) < 256) = true := decide_eq_true (by omega)
    have g5 : decide (0 ≤ (t : Int)) = true := decide_eq_true (by omega)
    have g6 : decide ((t : Int) < (nw.length : Int)) = true := decide_eq_true (by omega)
    have g7 : ∀ x : Int, (nx.set s x).getD s 0 = x := fun x => by rw [getD_set', if_pos ⟨rfl, by omega⟩]
    simp only [witness_Count_l23, witness_Count_l23_b, hd, g1, g2, g3, g4, gd, cond_true, Int.toNat_natCast, q2, g5, g6, g7, hmn.2 a (show a < 256 by omega), hnw.2 t q1, wu_step, List.set_set, wi_1 a (show a < 4000000000000000000 by omega)]
  · rw [sumR_zero]
    apply List.ext_getElem
    · rw [List.length_set]
    · intro j h1 h2
      rw [List.getElem_set]
      by_cases hsj : s = j
      · subst hsj
        rw [if_pos rfl, List.getD_eq_getElem?_getD, List.getElem?_eq_getElem h1] at *
        simpa using hnx0
      · rw [if_neg hsj]

theorem l20_ok (h : Mch C N E k m) (kf k0 : Nat) (hk : k + 300 < k0) (i : Nat) (v40 v41 : Int) (v45 : List Int) (v46 : List (List Int)) (v47 : List Bool) (mn nw : List Int)
    (hmn : mn.length = 256 ∧ ∀ a, a < 256 → mn.getD a 0 = ((cntC C a : Nat) : Int)) (hnw : nw.length = k ∧ ∀ s, s < k → nw.getD s 0 = ((W C N E i s % 18446744073709551616 : Nat) : Int))
    (Ke : Int → Int → (List Int) → (List (List Int)) → (List Bool) → (List Int) → (List Int) → Option R) (T : Option R)
    (hT : ∀ nx : List Int, nx.length = k → (∀ s, s < k → nx.getD s 0 = ((W C N E (i + 1) s % 18446744073709551616 : Nat) : Int)) → Ke v40 v41 v45 v46 v47 mn nx = T) :
    witness_Count_l20 kf k0 Ke v40 v41 N (N.length : Int) 0 v45 v46 v47 mn nw (List.replicate k (0 : Int)) = T := by
  have hn := h.nl
  refine loop_inv (fun kk s (acc : List Int) => witness_Count_l20 kf kk Ke v40 v41 N (N.length : Int) (s : Int) v45 v46 v47 mn nw acc) T k 280
    (fun s acc => acc.length = k ∧ ∀ a, a < k → acc.getD a 0 = if a < s then ((W C N E (i + 1) a % 18446744073709551616 : Nat) : Int) else 0) ?_ ?_ k k0 0 _ (by omega) (by omega)
    ⟨List.length_replicate, fun a ha => by rw [getD_rep]; simp⟩
  · rintro kk nx ⟨h1, h2⟩
    have hd : decide ((k : Int) < (N.length : Int)) = false := decide_eq_false (by omega)
    simp only [witness_Count_l20, witness_Count_l20_b, hd, cond_false]
    exact hT nx h1 fun s hs => by rw [h2 s hs, if_pos hs]
  · rintro kk s acc hB hs ⟨h1, h2⟩
    left
    have hd : decide ((s : Int) < (N.length : Int)) = true := decide_eq_true (by omega)
    have g1 : decide (0 ≤ (s : Int)) = true := decide_eq_true (by omega)
    refine ⟨acc.set s ((W C N E (i + 1) s % 18446744073709551616 : Nat) : Int), ⟨by rw [List.length_set]; exact h1, fun a ha => ?_⟩, ?_⟩
    · rw [getD_set']
      by_cases has : s = a
      · subst has
        rw [if_pos ⟨rfl, by omega⟩, if_pos (by omega)]
      · rw [if_neg (fun q => has q.1), h2 a ha]
        by_cases hlt : a < s
        · rw [if_pos hlt, if_pos (by omega)]
        · rw [if_neg hlt, if_neg (by omega)]
    · simp only [witness_Count_l20, witness_Count_l20_b, hd, g1, gd, cond_true, Int.toNat_natCast]
      have hw := wi_1 s (show s < 4000000000000000000 by have := h.k2; omega)
      rw [l23_ok h kf kk (by omega) i s hs _ _ _ _ _ _ _ _ mn nw acc hmn hnw h1 (by rw [h2 s hs, if_neg (by omega)])]
      rw [hw]

theorem count_ok (h : Mch C N E k m) (kf : Nat) (hkf : 10000 ≤ kf) (n : Nat) (hn : n ≤ 1000) (K : Int → Option R) : witness_Count kf C N E (n : Int) K = K ((W C N E n 0 % 18446744073709551616 : Nat) : Int) := by
  unfold witness_Count witness_Count_b
  have hN := h.nl; have hE := h.el; have hk2 := h.k2
  rw [may_ok h kf (by omega)]
  rw [decide_eq_false (show ¬ ((n : Int) < 0) by omega)]
  simp only [Bool.not_true, cond_false]
  refine many_ok h kf kf (by omega) _ _ _ _ _ _ fun mn m1 m2 => ?_
  have hsm : ∀ x : Nat, x ≤ 2000 → (x : Int) < (SMALL : Int) := fun x hx => by rw [small_eq]; omega
  rw [gdd (by omega), gdd (by omega), gdd (hsm _ (by omega)), Int.toNat_natCast, hN, hE]
  refine now0_ok h kf kf (by omega) _ _ _ _ _ _ _ fun nw n1 n2 => ?_
  have hmn : Go.Ab.mn (n : Int) 1000 = (n : Int) := by unfold Go.Ab.mn; split <;> omega
  rw [hmn]
  refine loop_all (fun kk i (acc : List Int) => witness_Count_l17 kf kk (fun (v84 : (List Int)) => gd (decide (0 < (v84.length : Int))) (K (v84.getD 0 (0 : Int)))) (n : Int) (i : Int) C N E mn acc) _ n 3000
    (fun i acc => acc.length = k ∧ ∀ s, s < k → acc.getD s 0 = ((W C N E i s % 18446744073709551616 : Nat) : Int)) ?_ ?_ n kf 0 nw (by omega) (by omega) ⟨n1, n2⟩
  · rintro kk acc ⟨q1, q2⟩
    have hd : decide ((n : Int) < (n : Int)) = false := decide_eq_false (by omega)
    simp only [witness_Count_l17, witness_Count_l17_b, hd, cond_false]
    have hk1 := h.k1
    rw [gdd (by omega), q2 0 (by omega)]
  · rintro kk i acc hB hi ⟨q1, q2⟩ hrest
    have hd : decide ((i : Int) < (n : Int)) = true := decide_eq_true (by omega)
    rw [witness_Count_l17]
    unfold witness_Count_l17_b
    rw [hd, cond_true]
    rw [gdd (by omega), gdd (by omega), gdd (hsm _ (by omega)), Int.toNat_natCast, q1]
    refine l20_ok h kf kk (by omega) i _ _ _ _ _ mn acc ⟨m1, m2⟩ ⟨q1, q2⟩ _ _ fun nx z1 z2 => ?_
    rw [wi_1 i (by omega)]
    exact hrest nx ⟨z1, z2⟩
theorem count_neg (h : Mch C N E k m) (kf : Nat) (hkf : 10000 ≤ kf) (K : Int → Option R) : witness_Count kf C N E (-1) K = K 0 := by
  unfold witness_Count witness_Count_b
  rw [may_ok h kf (by omega)]
  rfl
end
end Go.Ab.T

/- The shortest word: witness.Shortest. -/
namespace Go.Ab.T
open Go Go.Ab
set_option linter.unusedVariables false
set_option linter.unusedSimpArgs false

/-! ### maps -/
theorem mget_mset {β : Type} (m : List (Int × β)) (a b : Int) (v : β) : mget (mset m a v) b = if b = a then some v else mget m b := by
  unfold mget mset
  induction m with
  | nil =>
    simp only [mput, mfind]
    by_cases h : b = a
    · rw [decide_eq_true h, if_pos h]; rfl
    · rw [decide_eq_false h, if_neg h]; rfl
  | cons x r ih =>
    obtain ⟨c, w⟩ := x
    simp only [mput]
    by_cases hac : a = c
    · rw [decide_eq_true hac]
      simp only [cond_true, mfind]
      by_cases h : b = a
      · rw [decide_eq_true h, if_pos h]; rfl
      · have hbc : ¬ b = c := by rw [← hac]; exact h
        rw [decide_eq_false h, decide_eq_false hbc, if_neg h]; rfl
    · rw [decide_eq_false hac]
      simp only [cond_false, mfind]
      by_cases hbc : b = c
      · rw [decide_eq_true hbc]
        have : ¬ b = a := fun h => hac (by rw [← h, hbc])
        rw [if_neg this]; rfl
      · rw [decide_eq_false hbc]
        simp only [cond_false]
        exact ih

/-! ### the first bytes of classes -/
def repB (C : List Int) (f : Nat) : Bool := (List.range f).all fun b => !decide (C.getD b 0 = C.getD f 0)
theorem repB_iff {C : List Int} {f : Nat} : repB C f = true ↔ isRep C f := by
  unfold repB isRep
  rw [List.all_eq_true]
  simp [List.mem_range]
def firstsN (C : List Int) (c : Nat) : List Nat := (List.range c).filter (repB C)
theorem mem_firstsN {C : List Int} {c x : Nat} : x ∈ firstsN C c ↔ x < c ∧ repB C x = true := by
  unfold firstsN; rw [List.mem_filter, List.mem_range]
theorem firstsN_succ (C : List Int) (c : Nat) : firstsN C (c + 1) = firstsN C c ++ (if repB C c then [c] else []) := by
  unfold firstsN
  rw [List.range_succ, List.filter_append]
  congr 1
  simp only [List.filter_cons, List.filter_nil]
theorem firstsN_len (C : List Int) (c : Nat) : (firstsN C c).length ≤ c := by
  unfold firstsN
  have := List.length_filter_le (repB C) (List.range c)
  rwa [List.length_range] at this
theorem firstsN_mono (C : List Int) (c i j : Nat) (hij : i < j) (hj : j < (firstsN C c).length) : (firstsN C c).getD i 0 < (firstsN C c).getD j 0 := by
  have hp : (firstsN C c).Pairwise (· < ·) := List.Pairwise.filter _ List.pairwise_lt_range
  have := List.pairwise_iff_getElem.1 hp i j (by omega) hj hij
  rwa [List.getD_eq_getElem?_getD, List.getD_eq_getElem?_getD, List.getElem?_eq_getElem (by omega), List.getElem?_eq_getElem hj]
/-- from where on the j-th of them is looked for -/
def fromB (C : List Int) (j : Nat) : Nat := if j = 0 then 0 else (firstsN C 256).getD (j - 1) 0 + 1
theorem gap (C : List Int) (j f : Nat) (hj : j ≤ (firstsN C 256).length) (h1 : fromB C j ≤ f) (h2 : f < 256) (h3 : j < (firstsN C 256).length → f < (firstsN C 256).getD j 0) : ¬ isRep C f := by
  intro hr
  have hm := mem_firstsN.2 ⟨h2, repB_iff.2 hr⟩
  obtain ⟨i, hi, he⟩ := List.mem_iff_getElem.1 hm
  have he' : (firstsN C 256).getD i 0 = f := by
    rw [List.getD_eq_getElem?_getD, List.getElem?_eq_getElem hi, he]; rfl
  by_cases hij : i < j
  · unfold fromB at h1
    rw [if_neg (by omega)] at h1
    by_cases hij' : i = j - 1
    · subst hij'; omega
    · have := firstsN_mono C 256 i (j - 1) (by omega) (by omega)
      omega
  · have h4 := h3 (by omega)
    by_cases hij' : i = j
    · subst hij'; omega
    · have := firstsN_mono C 256 j i (by omega) hi
      omega

section
variable {R : Type} {C : List Int} {N : List (List Int)} {E : List Bool} {k m : Nat}

theorem firsts_ok (h : Mch C N E k m) (kf : Nat) (hkf : 1000 ≤ kf) (K : List Int → Option R) : witness_firsts kf C N E K = K ((firstsN C 256).map fun b : Nat => (b : Int)) := by
  unfold witness_firsts witness_firsts_b
  have hm2 := h.m2
  refine loop_inv (fun kk b (acc : List Int × List Bool) => witness_firsts_l4 kf kk C (fun v8 => K v8) (b : Int) acc.1 acc.2) _ 256 0
    (fun b acc => acc.1 = ((firstsN C b).map fun b : Nat => (b : Int)) ∧ acc.2.length = 256 ∧ ∀ a : Nat, a < 256 → (acc.2.getD a false = true ↔ ∃ c, c < b ∧ C.getD c 0 = (a : Int))) ?_ ?_ 256 kf 0 ([], List.replicate 256 false) (by omega) (by omega)
    ⟨rfl, List.length_replicate, fun a ha => by
      rw [getD_rep]
      constructor
      · intro h; cases h
      · rintro ⟨c, hc, _⟩; omega⟩
  · rintro kk ⟨a1, a2⟩ ⟨h1, h2, h3⟩
    simp only at h1
    simp only [witness_firsts_l4, witness_firsts_l4_b, show decide (((256 : Nat) : Int) < 256) = false from rfl, cond_false, h1]
  · rintro kk b ⟨a1, a2⟩ _ hb ⟨h1, h2, h3⟩
    simp only at h1 h2 h3
    left
    obtain ⟨c1, c2⟩ := h.cls_lt b hb
    generalize hcc : (C.getD b 0).toNat = cc at c1 c2
    have hd : decide ((b : Int) < 256) = true := decide_eq_true (by omega)
    have g1 : decide (0 ≤ (b : Int)) = true := decide_eq_true (by omega)
    have g2 : decide (0 ≤ (cc : Int)) = true := decide_eq_true (by omega)
    have g3 : decide ((cc : Int) < 256) = true := decide_eq_true (by omega)
    have hw8 : IntKind.u8.wrap (b : Int) = (b : Int) := by rw [IntKind.wrap_u8]; omega
    have hlen := firstsN_len C b
    have hs := h3 cc (by omega)
    cases hsn : a2.getD cc false with
    | true =>
      have hnr : repB C b = false := by
        rw [hsn] at hs
        obtain ⟨c, hc, he⟩ := hs.1 rfl
        cases hr : repB C b with
        | false => rfl
        | true => exact absurd (by rw [he, c2]) (repB_iff.1 hr c hc)
      refine ⟨(a1, a2), ⟨?_, h2, fun a ha => ?_⟩, ?_⟩
      · simp only
        rw [h1, firstsN_succ, hnr]; simp
      · rw [h3 a ha]
        constructor
        · rintro ⟨c, hc, he⟩; exact ⟨c, by omega, he⟩
        · rintro ⟨c, hc, he⟩
          by_cases hcb : c = b
          · subst hcb
            rw [c2] at he
            have : cc = a := by omega
            subst this
            exact hs.1 hsn
          · exact ⟨c, by omega, he⟩
      · simp only [witness_firsts_l4, witness_firsts_l4_b, hd, g1, gd, cond_true, cond_false, Int.toNat_natCast, c2, g2, g3, hsn, Bool.not_true, wi_1 b (show b < 4000000000000000000 by omega)]
    | false =>
      have hr : repB C b = true := by
        rw [repB_iff]
        intro c hc he
        have := hs.2 ⟨c, hc, by rw [he, c2]⟩
        rw [hsn] at this; cases this
      refine ⟨(a1 ++ [(b : Int)], a2.set cc true), ⟨?_, by simp only; rw [List.length_set]; exact h2, fun a ha => ?_⟩, ?_⟩
      · simp only
        rw [h1, firstsN_succ, hr]; simp
      · simp only
        rw [getD_set']
        by_cases hca : cc = a
        · subst hca
          rw [if_pos ⟨rfl, by omega⟩]
          exact ⟨fun _ => ⟨b, by omega, c2⟩, fun _ => rfl⟩
        · rw [if_neg (fun q => hca q.1), h3 a ha]
          constructor
          · rintro ⟨c, hc, he⟩; exact ⟨c, by omega, he⟩
          · rintro ⟨c, hc, he⟩
            by_cases hcb : c = b
            · subst hcb; rw [c2] at he; omega
            · exact ⟨c, by omega, he⟩
      · have g4 : decide (a1.length + ([(b : Int)] : List Int).length < SMALL) = true := decide_eq_true (by rw [small_eq, h1]; simp; omega)
        simp only [witness_firsts_l4, witness_firsts_l4_b, hd, g1, gd, cond_true, cond_false, Int.toNat_natCast, c2, g2, g3, g4, hsn, Bool.not_false, hw8, wi_1 b (show b < 4000000000000000000 by omega)]

/-! ### turned around -/
theorem reverse_ok (kf : Nat) (l : List Int) (hl : l.length + 2 < kf) (hs : l.length < 1000000) (K : List Int → Option R) : slices_Reverse_byte_byte kf l K = K l.reverse := by
  unfold slices_Reverse_byte_byte slices_Reverse_byte_byte_b
  have key : ∀ (kk : Nat) (i j : Nat) (x : List Int), x.length = l.length → i + j = l.length → j - i < kk → (∀ c, c < l.length → x.getD c 0 = if c < i ∨ j ≤ c then l.getD (l.length - 1 - c) 0 else l.getD c 0) →
      slices_Reverse_byte_byte_l1 kf kk (fun v5 => K v5) (i : Int) ((j : Int) - 1) x = K l.reverse := by
    intro kk
    induction kk with
    | zero => intro i j x _ _ h _; omega
    | succ kk ih =>
      intro i j x hx hij hk hc
      by_cases hlt : (i : Int) < (j : Int) - 1
      · have hi : i < l.length := by omega
        have hj : j - 1 < l.length := by omega
        have ej : (j : Int) - 1 = ((j - 1 : Nat) : Int) := by omega
        have hw1 : IntKind.i64.wrap ((i : Int) + 1) = ((i + 1 : Nat) : Int) := wi_1 i (by omega)
        have hw2 : IntKind.i64.wrap (((j - 1 : Nat) : Int) - 1) = ((j - 1 : Nat) : Int) - 1 := by rw [IntKind.wrap_i64]; omega
        have hd : decide ((i : Int) < ((j - 1 : Nat) : Int)) = true := decide_eq_true (by omega)
        rw [ej]
        simp only [slices_Reverse_byte_byte_l1, slices_Reverse_byte_byte_l1_b, hd, cond_true]
        rw [gdd (by omega), gdd (by omega), gdd (by omega), gdd (by omega), gdd (by omega), gdd (by omega), gdd (by omega), gdd (by rw [List.length_set]; omega), hw1, hw2, Int.toNat_natCast, Int.toNat_natCast]
        refine ih (i + 1) (j - 1) _ (by rw [List.length_set, List.length_set]; exact hx) (by omega) (by omega) fun c hcl => ?_
        rw [getD_set', getD_set', List.length_set]
        by_cases h1 : j - 1 = c
        · rw [if_pos ⟨h1, by omega⟩, if_pos (by omega), hc i hi, if_neg (by omega)]
          congr 1
          omega
        · rw [if_neg (fun q => h1 q.1)]
          by_cases h2 : i = c
          · rw [if_pos ⟨h2, by omega⟩, if_pos (by omega), hc (j - 1) hj, if_neg (by omega)]
            congr 1
            omega
          · rw [if_neg (fun q => h2 q.1), hc c hcl]
            by_cases h3 : c < i ∨ j ≤ c
            · rw [if_pos h3, if_pos (by omega)]
            · rw [if_neg h3, if_neg (by omega)]
      · have hd : decide ((i : Int) < (j : Int) - 1) = false := decide_eq_false hlt
        simp only [slices_Reverse_byte_byte_l1, slices_Reverse_byte_byte_l1_b, hd, cond_false]
        congr 1
        apply List.ext_getElem
        · rw [hx, List.length_reverse]
        · intro c h1 h2
          have h := hc c (by omega)
          rw [List.getElem_reverse]
          rw [List.getD_eq_getElem?_getD, List.getElem?_eq_getElem h1] at h
          refine Eq.trans h ?_
          by_cases h3 : c < i ∨ j ≤ c
          · rw [if_pos h3, List.getD_eq_getElem?_getD, List.getElem?_eq_getElem (by omega)]
            rfl
          · rw [if_neg h3, List.getD_eq_getElem?_getD, List.getElem?_eq_getElem (by omega)]
            have : c = l.length - 1 - c := by omega
            simp only [Option.getD_some]
            congr 1
  have hw : IntKind.i64.wrap ((l.length : Int) - 1) = (l.length : Int) - 1 := by rw [IntKind.wrap_i64]; omega
  rw [hw]
  exact key kf 0 l.length l rfl (by omega) (by omega) fun c hc => by rw [if_neg (by omega)]

/-! ### from where one came -/
abbrev CameT := List (Int × (Int × (Int × Unit)))
def Came (q : Q) (mp : CameT) : Prop :=
  (∀ t : Nat, (∀ x ∈ q, x.1 ≠ t) → mget mp (t : Int) = none) ∧
  ∀ x ∈ q, (x.2 = [] ∧ mget mp (x.1 : Int) = some (-1, 0, ())) ∨ ∃ y ∈ q, ∃ b : Nat, x.2 = y.2 ++ [b] ∧ mget mp (x.1 : Int) = some ((y.1 : Int), (b : Int), ())

theorem walk_ok (kf : Nat) (mp : CameT) (q : Q) (hc : Came q mp) (Ke : List Int → Option R) : ∀ (n : Nat) (x : Nat × List Nat), x ∈ q → x.2.length = n → ∀ (k0 : Nat) (acc : List Int), n < k0 → acc.length + n < 1000000 →
    witness_Shortest_l11 kf k0 mp Ke acc (((mget mp (x.1 : Int)).getD ((0 : Int), ((0 : Int), ()))).1) (((mget mp (x.1 : Int)).getD ((0 : Int), ((0 : Int), ()))).2.1) = Ke (acc ++ (x.2.reverse.map fun b : Nat => (b : Int)))
  | n, x, hx, hn, 0, acc, hk, _ => by omega
  | n, x, hx, hn, k0 + 1, acc, hk, hl => by
    rcases hc.2 x hx with ⟨h1, h2⟩ | ⟨y, hy, b, h1, h2⟩
    · rw [h2, h1]
      simp only [witness_Shortest_l11, witness_Shortest_l11_b, Option.getD_some, show decide ((0 : Int) ≤ -1) = false from rfl, cond_false, List.reverse_nil, List.map_nil, List.append_nil]
    · rw [h2]
      have hd : decide ((0 : Int) ≤ (y.1 : Int)) = true := decide_eq_true (by omega)
      have hg : decide (acc.length + ([(b : Int)] : List Int).length < SMALL) = true := decide_eq_true (by rw [small_eq]; simp; omega)
      simp only [witness_Shortest_l11, witness_Shortest_l11_b, Option.getD_some, hd, cond_true, hg, gd]
      have hyn : y.2.length = n - 1 := by rw [h1] at hn; simp at hn; omega
      have hn0 : 1 ≤ n := by rw [h1] at hn; simp at hn; omega
      rw [walk_ok kf mp q hc Ke (n - 1) y hy hyn k0 (acc ++ [(b : Int)]) (by omega) (by simp; omega), h1]
      congr 1
      simp

theorem Came.new {q : Q} {mp : CameT} (h : Came q mp) {y : Nat × List Nat} (hy : y ∈ q) {t b : Nat} (ht : ∀ x ∈ q, x.1 ≠ t) : Came (q ++ [(t, y.2 ++ [b])]) (mset mp (t : Int) ((y.1 : Int), (b : Int), ())) := by
  refine ⟨fun u hu => ?_, fun x hx => ?_⟩
  · have h1 : t ≠ u := hu (t, y.2 ++ [b]) (by simp)
    rw [mget_mset, if_neg (by omega)]
    exact h.1 u fun x hx => hu x (List.mem_append_left _ hx)
  · rcases List.mem_append.1 hx with hx | hx
    · have h1 := ht x hx
      rw [mget_mset, if_neg (by omega)]
      rcases h.2 x hx with h2 | ⟨z, hz, c, h2, h3⟩
      · exact Or.inl h2
      · exact Or.inr ⟨z, List.mem_append_left _ hz, c, h2, h3⟩
    · rw [List.mem_singleton] at hx
      subst hx
      right
      exact ⟨y, List.mem_append_left _ hy, b, rfl, by rw [mget_mset, if_pos rfl]⟩

def waits (q : Q) (p : Nat) : List Int := (q.drop p).map fun x => (x.1 : Int)
theorem waits_len (q : Q) (p : Nat) : (waits q p).length = q.length - p := by unfold waits; simp
theorem waits_head {q : Q} {p : Nat} (h : p < q.length) : (waits q p).getD 0 0 = ((qs q p : Nat) : Int) := by
  unfold waits qs
  rw [List.getD_eq_getElem?_getD, List.getElem?_map, List.getElem?_drop, List.getD_eq_getElem?_getD, Nat.add_zero, List.getElem?_eq_getElem h]
  rfl
theorem waits_snoc {q : Q} {p : Nat} (h : p ≤ q.length) (x : Nat × List Nat) : waits (q ++ [x]) p = waits q p ++ [(x.1 : Int)] := by
  unfold waits
  rw [List.drop_append_of_le_length h, List.map_append]; rfl
theorem waits_tail (q : Q) (p : Nat) : (waits q p).drop 1 = waits q (p + 1) := by
  unfold waits
  rw [← List.map_drop, List.drop_drop]

/-- one state's bytes -/
theorem l19_ok (h : Mch C N E k m) (kf k0 : Nat) (hk : 300 < k0) (p : Nat) (q : Q) (mp : CameT) (hb : Bfs C N E k p 0 q) (hc : Came q mp) (hp : p < q.length)
    (Ke : (List Int) → (List (List Int)) → (List Bool) → (List Int) → CameT → (List Int) → (List Int) → Option R) (T : Option R)
    (hT : ∀ (q' : Q) (mp' : CameT), Bfs C N E k p 256 q' → Came q' mp' → p < q'.length → qs q' p = qs q p → Ke C N E [] mp' ((firstsN C 256).map fun b : Nat => (b : Int)) (waits q' p) = T) :
    witness_Shortest_l19 kf k0 ((qs q p : Nat) : Int) (((firstsN C 256).map fun b : Nat => (b : Int)).length : Int) C N E [] ((firstsN C 256).map fun b : Nat => (b : Int)) Ke 0 mp (waits q p) = T := by
  have hfl := firstsN_len C 256
  have hN := h.nl; have hk2 := h.k2
  generalize hs : qs q p = s
  have hsk : s < k := by have := (hb.lt _ (q_mem hp)).1; simp only at this; omega
  have hrow := h.row s hsk
  rw [List.length_map]
  refine loop_all (fun kk j (acc : Q × CameT) => witness_Shortest_l19 kf kk (s : Int) ((firstsN C 256).length : Int) C N E [] ((firstsN C 256).map fun b : Nat => (b : Int)) Ke (j : Int) acc.2 (waits acc.1 p)) T (firstsN C 256).length 0
    (fun j acc => Bfs C N E k p (fromB C j) acc.1 ∧ Came acc.1 acc.2 ∧ p < acc.1.length ∧ qs acc.1 p = s) ?_ ?_ (firstsN C 256).length k0 0 (q, mp) (by omega) (by omega) ⟨hb, hc, hp, hs⟩
  · rintro kk ⟨q', mp'⟩ ⟨h1, h2, h3, h4⟩
    simp only at h1 h2 h3 h4
    have hd : decide (((firstsN C 256).length : Int) < ((firstsN C 256).length : Int)) = false := decide_eq_false (by omega)
    simp only [witness_Shortest_l19, witness_Shortest_l19_b, hd, cond_false]
    refine hT q' mp' (h1.skip 256 ?_ fun f f1 f2 f3 => gap C _ f (Nat.le_refl _) f1 f3 fun h => by omega) h2 h3 (by rw [h4, hs])
    unfold fromB
    split
    · omega
    · have := (mem_firstsN.1 (getD_mem (firstsN C 256) ((firstsN C 256).length - 1) (by omega) 0)).1
      omega
  · rintro kk j ⟨q', mp'⟩ _ hj ⟨h1, h2, h3, h4⟩ hrest
    simp only at h1 h2 h3 h4
    obtain ⟨f1, f2⟩ := mem_firstsN.1 (getD_mem (firstsN C 256) j hj 0)
    have hr := repB_iff.1 f2
    have hfb : fromB C j ≤ (firstsN C 256).getD j 0 := by
      unfold fromB
      split
      · omega
      · have := firstsN_mono C 256 (j - 1) j (by omega) hj; omega
    have hnext : fromB C (j + 1) = (firstsN C 256).getD j 0 + 1 := by
      unfold fromB
      rw [if_neg (by omega)]; rfl
    generalize hf : (firstsN C 256).getD j 0 = f at f1 f2 hr hfb hnext
    have h1' := h1.skip f hfb fun g g1 g2 g3 => gap C j g (by omega) g1 g3 fun _ => by rw [hf]; exact g2
    obtain ⟨c1, c2⟩ := h.cls_lt f f1
    have hdl : dl C N s f = ((N.getD s []).getD (C.getD f 0).toNat 0).toNat := rfl
    obtain ⟨t1, t2⟩ := h.row_lt hsk c1
    rw [← hdl] at t1 t2
    generalize hcc : (C.getD f 0).toNat = cc at c1 c2 t2 hdl
    generalize ht : dl C N s f = t at t1 t2
    have hd : decide ((j : Int) < ((firstsN C 256).length : Int)) = true := decide_eq_true (by omega)
    have hd2 : decide ((j : Int) < (((firstsN C 256).map fun b : Nat => (b : Int)).length : Int)) = true := decide_eq_true (by rw [List.length_map]; omega)
    have g1 : decide (0 ≤ (j : Int)) = true := decide_eq_true (by omega)
    have g2 : decide (0 ≤ (s : Int)) = true := decide_eq_true (by omega)
    have g3 : decide ((s : Int) < (N.length : Int)) = true := decide_eq_true (by omega)
    have g4 : decide (0 ≤ (f : Int)) = true := decide_eq_true (by omega)
    have g5 : decide ((f : Int) < 256) = true := decide_eq_true (by omega)
    have g6 : decide (0 ≤ (cc : Int)) = true := decide_eq_true (by omega)
    have g7 : decide ((cc : Int) < ((N.getD s []).length : Int)) = true := decide_eq_true (by omega)
    have hw := wi_1 j (show j < 4000000000000000000 by omega)
    have hsize := h1'.size
    by_cases hm : ∃ x ∈ q', x.1 = t
    · have hold := h1'.old h3 f1 hr (by rw [h4, ht]; exact hm)
      have hsome : (mget mp' (t : Int)).isSome = true := by
        obtain ⟨x, hx, he⟩ := hm
        rcases h2.2 x hx with ⟨_, h5⟩ | ⟨y, hy, b, _, h5⟩
        · rw [← he, h5]; rfl
        · rw [← he, h5]; rfl
      have := hrest (q', mp') ⟨by rw [hnext]; exact hold, h2, h3, h4⟩
      simp only at this
      simp only [witness_Shortest_l19, witness_Shortest_l19_b, hd, hd2, g1, g2, g3, gd, cond_true, cond_false, Int.toNat_natCast, map_getD, hf, g4, g5, c2, g6, g7, t2, hsome, Bool.not_true, hw]
      exact this
    · have hm' : ∀ x ∈ q', x.1 ≠ t := fun x hx he => hm ⟨x, hx, he⟩
      have hnew := h1'.new h h3 f1 hr (by rw [h4, ht]; exact hm')
      rw [h4, ht] at hnew
      have hnone : (mget mp' (t : Int)).isSome = false := by rw [h2.1 t hm']; rfl
      have hcn := h2.new (b := f) (q_mem h3) hm'
      simp only [h4] at hcn
      have := hrest (q' ++ [(t, qw q' p ++ [f])], mset mp' (t : Int) ((s : Int), (f : Int), ())) ⟨by rw [hnext]; exact hnew, hcn, by simp; omega, by rw [qs_old h3]; exact h4⟩
      simp only at this
      rw [waits_snoc (by omega)] at this
      have g8 : decide ((waits q' p).length + ([(t : Int)] : List Int).length < SMALL) = true := decide_eq_true (by rw [small_eq, waits_len]; simp; omega)
      simp only [witness_Shortest_l19, witness_Shortest_l19_b, hd, hd2, g1, g2, g3, gd, cond_true, cond_false, Int.toNat_natCast, map_getD, hf, g4, g5, c2, g6, g7, t2, hnone, Bool.not_false, hw, g8]
      exact this

theorem shortest_ok (h : Mch C N E k m) (kf : Nat) (hkf : 10000 ≤ kf) (K : Bool → List Int → Option R) (T : Option R)
    (hT : ∀ is w, IsShort C N E k is w → K is (w.map fun b : Nat => (b : Int)) = T) : witness_Shortest kf C N E K = T := by
  unfold witness_Shortest witness_Shortest_b
  rw [may_ok h kf (by omega)]
  simp only [Bool.not_true, cond_false]
  rw [firsts_ok h kf (by omega)]
  have hk2 := h.k2; have hE := h.el
  have hstart : waits [(0, [])] 0 = ([0] : List Int) := rfl
  rw [← hstart]
  refine loop_meas (fun kk (acc : Nat × Q × CameT) => witness_Shortest_l6 kf kk (fun (v37 : Bool) (v38 : (List Int)) => K v37 v38) (fun (v39 : (List Int)) => K false ([] : List Int)) C N E ([] : List Int) acc.2.2 ((firstsN C 256).map fun b : Nat => (b : Int)) (waits acc.2.1 acc.1)) T (fun acc => k + 1 - acc.1) 3000
    (fun acc => Bfs C N E k acc.1 0 acc.2.1 ∧ Came acc.2.1 acc.2.2) ?_ kf (0, [(0, [])], _) (by simp only; omega) ⟨Bfs.start h.k1, ?_⟩
  · rintro kk ⟨p, q, mp⟩ hB ⟨h1, h2⟩ hrest
    simp only at h1 h2 hrest ⊢
    have hsize := h1.size
    by_cases hp : p < q.length
    · have hd : decide (0 < ((waits q p).length : Int)) = true := decide_eq_true (by rw [waits_len]; omega)
      obtain ⟨p1, p2, p3⟩ := h1.lt _ (q_mem hp)
      simp only at p1 p2 p3
      have g1 : decide (0 ≤ ((qs q p : Nat) : Int)) = true := decide_eq_true (by omega)
      have g2 : decide (((qs q p : Nat) : Int) < (E.length : Int)) = true := decide_eq_true (by omega)
      simp only [witness_Shortest_l6, witness_Shortest_l6_b, hd, cond_true, gd, waits_head hp, g1, g2, Int.toNat_natCast]
      cases he : E.getD (qs q p) false with
      | true =>
        simp only [cond_true]
        obtain ⟨f1, f2, f3, f4⟩ := h1.found hp he
        have := walk_ok kf mp q h2 (fun (v17 : (List Int)) => slices_Reverse_byte_byte kf v17 (fun (v18 : (List Int)) => K true v18)) (qw q p).length (qs q p, qw q p) (q_mem hp) rfl kk [] (by omega) (by simp; omega)
        simp only at this
        refine Eq.trans this ?_
        rw [List.nil_append, reverse_ok kf _ (by simp; omega) (by simp; omega), List.map_reverse, List.reverse_reverse]
        exact hT true (qw q p) (Or.inl ⟨rfl, f1, f2, f3, f4⟩)
      | false =>
        simp only [cond_false]
        refine l19_ok h kf kk (by omega) p q mp h1 h2 hp _ T ?_
        intro q' mp' b1 b2 b3 b4
        rw [decide_eq_true (show 1 ≤ ((waits q' p).length : Int) by rw [waits_len]; omega), waits_tail]
        exact hrest (p + 1, q', mp') ⟨b1.next b3 (by rw [b4]; exact he), b2⟩ (by have := h1.ple; simp only; omega)
    · have hd : decide (0 < ((waits q p).length : Int)) = false := decide_eq_false (by rw [waits_len]; omega)
      simp only [witness_Shortest_l6, witness_Shortest_l6_b, hd, cond_false]
      exact hT false [] (Or.inr ⟨rfl, rfl, h1.none hp⟩)
  · simp only
    refine ⟨fun t ht => ?_, fun x hx => ?_⟩
    · have : (0 : Nat) ≠ t := ht (0, []) (by simp)
      show (bif decide ((t : Int) = 0) then _ else none) = none
      rw [decide_eq_false (by omega)]; rfl
    · rw [List.mem_singleton] at hx
      subst hx
      left
      exact ⟨rfl, rfl⟩
end
end Go.Ab.T

/- The words of one length, in order: witness.Words. -/
namespace Go.Ab.T
open Go Go.Ab
set_option linter.unusedVariables false
set_option linter.unusedSimpArgs false

section
variable {R : Type} {C : List Int} {N : List (List Int)} {E : List Bool} {k m : Nat}

/-- is there a word of so many bytes from s on? -/
def can (C : List Int) (N : List (List Int)) (E : List Bool) (n s : Nat) : Bool := decide (0 < W C N E n s)
theorem can_iff {n s : Nat} : can C N E n s = true ↔ 0 < W C N E n s := decide_eq_true_iff
theorem W_zero_pos {s : Nat} : 0 < W C N E 0 s ↔ E.getD s false = true := by
  show 0 < (if en E s = true then 1 else 0) ↔ _
  unfold en
  by_cases h : E.getD s false = true
  · rw [if_pos h]; exact ⟨fun _ => h, fun _ => Nat.one_pos⟩
  · rw [if_neg h]; exact ⟨fun q => absurd q (Nat.lt_irrefl 0), fun q => absurd q h⟩
theorem W_succ_pos {n s : Nat} : 0 < W C N E (n + 1) s ↔ ∃ b, b < 256 ∧ 0 < W C N E n (dl C N s b) := sumR_pos
theorem can_zero (s : Nat) : can C N E 0 s = E.getD s false := by
  rw [Bool.eq_iff_iff, can_iff, W_zero_pos]
theorem can_succ (h : Mch C N E k m) {n s : Nat} : can C N E (n + 1) s = true ↔ ∃ a, a < m ∧ can C N E n ((N.getD s []).getD a 0).toNat = true := by
  rw [can_iff, W_succ_pos]
  constructor
  · rintro ⟨b, hb, h1⟩
    exact ⟨(C.getD b 0).toNat, (h.cls_lt b hb).1, can_iff.2 h1⟩
  · rintro ⟨a, ha, h1⟩
    obtain ⟨b, hb, he⟩ := h.inh a ha
    refine ⟨b, hb, ?_⟩
    unfold dl
    rw [he]
    exact can_iff.1 h1
theorem can_ws {n s : Nat} (h : can C N E n s = false) : ws C N E n s = [] := by
  unfold can at h
  have := of_decide_eq_false h
  rw [← ws_length] at this
  exact List.length_eq_zero_iff.1 (by omega)
theorem can_ws' {n s : Nat} (h : can C N E n s = true) : ws C N E n s ≠ [] := by
  unfold can at h
  have := of_decide_eq_true h
  rw [← ws_length] at this
  intro h0
  rw [h0] at this; exact absurd this (by simp)

/-- a table of one length -/
def Tab (C : List Int) (N : List (List Int)) (E : List Bool) (k n : Nat) (t : List Bool) : Prop := t.length = k ∧ ∀ s, s < k → t.getD s false = can C N E n s

theorem contains1_ok (h : Mch C N E k m) (kf : Nat) (hkf : 3000 ≤ kf) (n s : Nat) (hs : s < k) (t : List Bool) (ht : Tab C N E k n t) (K : Bool → List Bool → Option R) :
    slices_ContainsFunc_int_int_s1 kf (N.getD s []) t K = K (can C N E (n + 1) s) t := by
  unfold slices_ContainsFunc_int_int_s1 slices_ContainsFunc_int_int_s1_b slices_IndexFunc_int_int_s1 slices_IndexFunc_int_int_s1_b
  obtain ⟨r1, r2⟩ := h.row s hs
  have hm2 := h.m2
  refine loop_inv (fun kk c (_ : Unit) => slices_IndexFunc_int_int_s1_l2 kf kk (N.getD s []) ((N.getD s []).length : Int) (fun (v9 : Int) (v10 : List Bool) => K (decide (0 ≤ v9)) v10) (fun (v11 : List Bool) => K (decide (0 ≤ (-1 : Int))) v11) (c : Int) t) _ m 0
    (fun c _ => ∀ a, a < c → can C N E n ((N.getD s []).getD a 0).toNat = false) ?_ ?_ m kf 0 () (by omega) (by omega) (by intro a ha; omega)
  · intro kk _ hno
    have hd : decide ((m : Int) < ((N.getD s []).length : Int)) = false := decide_eq_false (by omega)
    have : can C N E (n + 1) s = false := by
      cases hq : can C N E (n + 1) s with
      | false => rfl
      | true =>
        obtain ⟨a, ha, h1⟩ := (can_succ h).1 hq
        rw [hno a ha] at h1; cases h1
    simp only [slices_IndexFunc_int_int_s1_l2, slices_IndexFunc_int_int_s1_l2_b, hd, cond_false]
    rw [this]; rfl
  · intro kk c _ _ hc hno
    obtain ⟨q1, q2⟩ := h.row_lt hs hc
    generalize htt : ((N.getD s []).getD c 0).toNat = u at q1 q2
    have hd : decide ((c : Int) < ((N.getD s []).length : Int)) = true := decide_eq_true (by omega)
    have g1 : decide (0 ≤ (c : Int)) = true := decide_eq_true (by omega)
    have g2 : decide (0 ≤ (u : Int)) = true := decide_eq_true (by omega)
    have g3 : decide ((u : Int) < (t.length : Int)) = true := decide_eq_true (by have := ht.1; omega)
    cases hcn : can C N E n u with
    | true =>
      right
      have : can C N E (n + 1) s = true := (can_succ h).2 ⟨c, hc, by rw [htt]; exact hcn⟩
      simp only [slices_IndexFunc_int_int_s1_l2, slices_IndexFunc_int_int_s1_l2_b, witness_Words_1, witness_Words_1_b, hd, g1, gd, cond_true, Int.toNat_natCast, q2, g2, g3, ht.2 u q1, hcn, this]
    | false =>
      left
      refine ⟨(), fun a ha => ?_, ?_⟩
      · by_cases hac : a = c
        · subst hac; rw [htt]; exact hcn
        · exact hno a (by omega)
      · simp only [slices_IndexFunc_int_int_s1_l2, slices_IndexFunc_int_int_s1_l2_b, witness_Words_1, witness_Words_1_b, hd, g1, gd, cond_true, cond_false, Int.toNat_natCast, q2, g2, g3, ht.2 u q1, hcn, wi_1 c (show c < 4000000000000000000 by omega)]

theorem l9_ok (h : Mch C N E k m) (kf k0 : Nat) (hkf : 3000 ≤ kf) (hk0 : k < k0) (n : Nat) (t : List Bool) (ht : Tab C N E k n t) (v21 v22 v23 : Int) (v27 : List Int) (v28 : List (List Int)) (v29 : List Bool) (v30 : List Int) (v31 : List (List Int)) (v32 : List Bool) (v33 : Int) (v36 : List (List Bool)) (v37 : List Int) (v38 : List (List Int))
    (Ke : Int → Int → Int → (List Int) → (List (List Int)) → (List Bool) → (List Int) → (List (List Int)) → (List Bool) → Int → (List Bool) → (List (List Bool)) → (List Int) → (List (List Int)) → Option R) (T : Option R)
    (hT : ∀ t', Tab C N E k (n + 1) t' → Ke v21 v22 v23 v27 v28 v29 v30 v31 v32 v33 t' v36 v37 v38 = T) :
    witness_Words_l9 kf k0 v21 v22 v23 N (N.length : Int) v27 v28 v29 v30 v31 v32 v33 v36 v37 v38 Ke 0 t (List.replicate k false) = T := by
  have hN := h.nl; have hk2 := h.k2
  refine loop_inv (fun kk s (acc : List Bool) => witness_Words_l9 kf kk v21 v22 v23 N (N.length : Int) v27 v28 v29 v30 v31 v32 v33 v36 v37 v38 Ke (s : Int) t acc) T k 0
    (fun s acc => acc.length = k ∧ ∀ a, a < s → acc.getD a false = can C N E (n + 1) a) ?_ ?_ k k0 0 _ (by omega) (by omega) ⟨List.length_replicate, fun a ha => by omega⟩
  · rintro kk t' ⟨h1, h2⟩
    have hd : decide ((k : Int) < (N.length : Int)) = false := decide_eq_false (by omega)
    simp only [witness_Words_l9, witness_Words_l9_b, hd, cond_false]
    exact hT t' ⟨h1, h2⟩
  · rintro kk s acc _ hs ⟨h1, h2⟩
    left
    have hd : decide ((s : Int) < (N.length : Int)) = true := decide_eq_true (by omega)
    have hd2 : decide ((s : Int) < (acc.length : Int)) = true := decide_eq_true (by omega)
    have g1 : decide (0 ≤ (s : Int)) = true := decide_eq_true (by omega)
    refine ⟨acc.set s (can C N E (n + 1) s), ⟨by rw [List.length_set]; exact h1, fun a ha => ?_⟩, ?_⟩
    · rw [getD_set']
      by_cases hsa : s = a
      · subst hsa; rw [if_pos ⟨rfl, by omega⟩]
      · rw [if_neg (fun q => hsa q.1)]; exact h2 a (by omega)
    · simp only [witness_Words_l9, witness_Words_l9_b, hd, g1, gd, cond_true, Int.toNat_natCast]
      rw [contains1_ok h kf hkf n s hs t ht]
      simp only [hd2, cond_true, wi_1 s (show s < 4000000000000000000 by omega)]

/-- the words that have been found so far -/
def upTo (C : List Int) (N : List (List Int)) (E : List Bool) (n s c : Nat) : List (List Int) := (List.range c).flatMap fun b => (ws C N E n (dl C N s b)).map fun w => (b : Int) :: w
theorem upTo_succ (n s c : Nat) : upTo C N E n s (c + 1) = upTo C N E n s c ++ (ws C N E n (dl C N s c)).map fun w => (c : Int) :: w := by
  unfold upTo
  rw [List.range_succ, List.flatMap_append]
  simp

def AllTab (C : List Int) (N : List (List Int)) (E : List Bool) (k n : Nat) (left : List (List Bool)) : Prop := left.length = n + 1 ∧ ∀ i, i ≤ n → Tab C N E k i (left.getD i [])

abbrev FindT (R : Type) := Int → Int → (List Int) → (List (List Int)) → (List Bool) → Int → (List (List Bool)) → (List Int) → (List (List Int)) → ((List Int) → (List (List Int)) → (List Bool) → Int → (List (List Bool)) → (List Int) → (List (List Int)) → Option R) → Option R

theorem take_step (out A B : List (List Int)) (most : Nat) : (out ++ A.take (most - out.length)) ++ B.take (most - (out ++ A.take (most - out.length)).length) = out ++ (A ++ B).take (most - out.length) := by
  rw [List.take_append, List.append_assoc]
  congr 2
  congr 1
  rw [List.length_append, List.length_take]
  omega

theorem find4_ok (h : Mch C N E k m) (kf k0 : Nat) (hk0 : 256 < k0) (self : FindT R) (n s most : Nat) (hs : s < k) (hn : n ≤ 1000) (hmost : most ≤ 1000) (left : List (List Bool)) (w : List Int) (hw : w.length ≤ 1000)
    (hself : ∀ (t : Nat) (w' : List Int) (out : List (List Int)) (K : (List Int) → (List (List Int)) → (List Bool) → Int → (List (List Bool)) → (List Int) → (List (List Int)) → Option R), t < k → w'.length = w.length + 1 → out.length ≤ most →
      self (t : Int) (n : Int) C N E (most : Int) left w' out K = K C N E (most : Int) left w' (out ++ ((ws C N E n t).map fun v => w' ++ v).take (most - out.length)))
    (out : List (List Int)) (ho : out.length ≤ most) (Ke : (List Int) → (List (List Int)) → (List Bool) → Int → (List (List Bool)) → (List Int) → (List (List Int)) → Option R) :
    witness_finder_finds_l4 self kf k0 (s : Int) ((n + 1 : Nat) : Int) Ke 0 C N E (most : Int) left w out = Ke C N E (most : Int) left w (out ++ ((ws C N E (n + 1) s).map fun v => w ++ v).take (most - out.length)) := by
  have hm2 := h.m2; have hN := h.nl
  refine loop_inv (fun kk c (acc : List (List Int)) => witness_finder_finds_l4 self kf kk (s : Int) ((n + 1 : Nat) : Int) Ke (c : Int) C N E (most : Int) left w acc) _ 256 0
    (fun c acc => acc = out ++ ((upTo C N E n s c).map fun v => w ++ v).take (most - out.length)) ?_ ?_ 256 k0 0 out (by omega) (by omega) (by simp [upTo])
  · rintro kk acc rfl
    simp only [witness_finder_finds_l4, witness_finder_finds_l4_b, show decide (((256 : Nat) : Int) < 256) = false from rfl, cond_false]
    rfl
  · rintro kk c acc _ hc rfl
    left
    refine ⟨_, rfl, ?_⟩
    obtain ⟨c1, c2⟩ := h.cls_lt c hc
    have hdl : dl C N s c = ((N.getD s []).getD (C.getD c 0).toNat 0).toNat := rfl
    obtain ⟨t1, t2⟩ := h.row_lt hs c1
    rw [← hdl] at t1 t2
    have hrow := h.row s hs
    rw [upTo_succ, List.map_append]
    generalize hA : ((upTo C N E n s c).map fun v => w ++ v) = A
    generalize hcc : (C.getD c 0).toNat = cc at c1 c2 t2 hdl
    generalize ht : dl C N s c = t at t1 t2
    have hd : decide ((c : Int) < 256) = true := decide_eq_true (by omega)
    have g1 : decide (0 ≤ (c : Int)) = true := decide_eq_true (by omega)
    have g2 : decide (0 ≤ (s : Int)) = true := decide_eq_true (by omega)
    have g3 : decide ((s : Int) < (N.length : Int)) = true := decide_eq_true (by omega)
    have g4 : decide (0 ≤ (cc : Int)) = true := decide_eq_true (by omega)
    have g5 : decide ((cc : Int) < ((N.getD s []).length : Int)) = true := decide_eq_true (by omega)
    have hw8 : IntKind.u8.wrap (c : Int) = (c : Int) := by rw [IntKind.wrap_u8]; omega
    have g6 : decide (w.length + ([(c : Int)] : List Int).length < SMALL) = true := decide_eq_true (by rw [small_eq]; simp; omega)
    have hn1 : IntKind.i64.wrap (((n + 1 : Nat) : Int) - 1) = (n : Int) := by rw [IntKind.wrap_i64]; omega
    have hout : (out ++ A.take (most - out.length)).length ≤ most := by rw [List.length_append, List.length_take]; omega
    simp only [witness_finder_finds_l4, witness_finder_finds_l4_b, hd, g1, g2, g3, gd, cond_true, Int.toNat_natCast, hw8, g6, c2, g4, g5, t2, hn1]
    rw [hself t (w ++ [(c : Int)]) _ _ t1 (by simp) hout]
    have hl1 : IntKind.i64.wrap (((w ++ [(c : Int)]).length : Int) - 1) = (w.length : Int) := by rw [List.length_append, List.length_singleton, IntKind.wrap_i64]; omega
    have g7 : decide (0 ≤ (w.length : Int)) = true := decide_eq_true (by omega)
    have g8 : decide ((w.length : Int) ≤ ((w ++ [(c : Int)]).length : Int)) = true := decide_eq_true (by simp; omega)
    simp only [hl1, g7, g8, cond_true, Int.toNat_natCast, List.take_left, wi_1 c (show c < 4000000000000000000 by omega)]
    have hB : ((ws C N E n t).map fun v => w ++ [(c : Int)] ++ v) = ((ws C N E n t).map fun w => (c : Int) :: w).map fun v => w ++ v := by
      rw [List.map_map]
      apply List.map_congr_left
      intro v _
      simp
    rw [hB, take_step out A _ most]

theorem finds_ok (h : Mch C N E k m) (most : Nat) (hm1 : 1 ≤ most) (hmost : most ≤ 1000) (nmax : Nat) (hnm : nmax ≤ 500) (left : List (List Bool)) (hleft : AllTab C N E k nmax left) : ∀ (n kf : Nat), n + 400 ≤ kf → n ≤ nmax → ∀ (s : Nat) (w : List Int) (out : List (List Int))
    (K : (List Int) → (List (List Int)) → (List Bool) → Int → (List (List Bool)) → (List Int) → (List (List Int)) → Option R), s < k → w.length + n ≤ 600 → out.length ≤ most →
    witness_finder_finds kf (s : Int) (n : Int) C N E (most : Int) left w out K = K C N E (most : Int) left w (out ++ ((ws C N E n s).map fun v => w ++ v).take (most - out.length)) := by
  intro n
  induction n with
  | zero =>
    intro kf hkf hn s w out K hs hw ho
    obtain ⟨kf, rfl⟩ : ∃ k', kf = k' + 1 := ⟨kf - 1, by omega⟩
    rw [witness_finder_finds]
    unfold witness_finder_finds_b
    obtain ⟨t1, t2⟩ := hleft.2 0 (by omega)
    by_cases hfull : (most : Int) ≤ (out.length : Int)
    · rw [decide_eq_true hfull, cond_true, show most - out.length = 0 by omega, List.take_zero, List.append_nil]
    · rw [decide_eq_false hfull, cond_false, gdd (by omega), gdd (by have := hleft.1; omega), gdd (by omega), gdd (by rw [Int.toNat_natCast, t1]; omega), Int.toNat_natCast, Int.toNat_natCast, t2 s hs, can_zero]
      cases hes : E.getD s false with
      | false =>
        have : ws C N E 0 s = [] := by simp only [ws, en, hes]; rfl
        rw [this]
        simp
      | true =>
        have : ws C N E 0 s = [[]] := by simp only [ws, en, hes]; rfl
        rw [this]
        simp only [Bool.not_true, cond_false, show decide (((0 : Nat) : Int) = 0) = true from rfl, cond_true]
        rw [gdd (by rw [small_eq]; omega), gdd (by rw [small_eq]; simp; omega)]
        obtain ⟨j, hj⟩ : ∃ j, most - out.length = j + 1 := ⟨most - out.length - 1, by omega⟩
        rw [hj]
        simp
  | succ n ih =>
    intro kf hkf hn s w out K hs hw ho
    obtain ⟨kf, rfl⟩ : ∃ k', kf = k' + 1 := ⟨kf - 1, by omega⟩
    rw [witness_finder_finds]
    unfold witness_finder_finds_b
    obtain ⟨t1, t2⟩ := hleft.2 (n + 1) (by omega)
    by_cases hfull : (most : Int) ≤ (out.length : Int)
    · rw [decide_eq_true hfull, cond_true, show most - out.length = 0 by omega, List.take_zero, List.append_nil]
    · rw [decide_eq_false hfull, cond_false, gdd (by omega), gdd (by have := hleft.1; omega), gdd (by omega), gdd (by rw [Int.toNat_natCast, t1]; omega), Int.toNat_natCast, Int.toNat_natCast, t2 s hs]
      cases hcn : can C N E (n + 1) s with
      | false =>
        rw [can_ws hcn]
        simp
      | true =>
        rw [Bool.not_true, cond_false, decide_eq_false (show ¬ ((n + 1 : Nat) : Int) = 0 by omega), cond_false]
        exact find4_ok h kf kf (by omega) (witness_finder_finds kf) n s most hs (by omega) hmost left w (by omega) (fun t w' out' K' ht hw' ho' => ih kf (by omega) (by omega) t w' out' K' ht (by omega) ho') out ho _

theorem words_ok (h : Mch C N E k m) (kf : Nat) (hkf : 10000 ≤ kf) (n most : Nat) (hn : n ≤ 200) (K : List (List Int) → Option R) :
    witness_Words kf C N E (n : Int) (most : Int) K = K ((ws C N E n 0).take (min most 1000)) := by
  unfold witness_Words witness_Words_b
  have hk1 := h.k1; have hk2 := h.k2; have hE := h.el
  rw [may_ok h kf (by omega)]
  rw [decide_eq_false (show ¬ ((n : Int) < 0) by omega), decide_eq_false (show ¬ (200 < (n : Int)) by omega)]
  simp only [Bool.not_true, cond_false]
  by_cases hm : (most : Int) < 1
  · rw [decide_eq_true hm, show min most 1000 = 0 by omega, List.take_zero]; rfl
  · rw [decide_eq_false hm]
    simp only [cond_false]
    have hmn : Go.Ab.mn (most : Int) 1000 = ((min most 1000 : Nat) : Int) := by unfold Go.Ab.mn; split <;> omega
    rw [hmn]
    refine loop_all (fun kk i (acc : List (List Bool)) => witness_Words_l5 kf kk (fun (v55 : Int) (v56 : (List Int)) (v57 : (List (List Int))) (v58 : (List Bool)) (v59 : Int) (v60 : (List (List Bool))) (v61 : (List Int)) (v62 : (List (List Int))) =>
       witness_finder_finds kf 0 v55 v56 v57 v58 v59 v60 v61 v62 (fun (v63 : (List Int)) (v64 : (List (List Int))) (v65 : (List Bool)) (v66 : Int) (v67 : (List (List Bool))) (v68 : (List Int)) (v69 : (List (List Int))) =>
        K v69)) (n : Int) (n : Int) (i : Int) C N E C N E ((min most 1000 : Nat) : Int) acc ([] : List Int) ([] : List (List Int))) _ n 3000
      (fun i acc => AllTab C N E k i acc) ?_ ?_ n kf 0 [E] (by omega) (by omega) ⟨rfl, fun i hi => by
        have : i = 0 := by omega
        subst this
        exact ⟨hE, fun s hs => (can_zero s).symm⟩⟩
    · intro kk left hleft
      rw [witness_Words_l5]
      unfold witness_Words_l5_b
      rw [decide_eq_false (show ¬ ((n : Int) < (n : Int)) by omega), cond_false]
      have := finds_ok (R := R) h (min most 1000) (by omega) (by omega) n (by omega) left hleft n kf (by omega) (Nat.le_refl _) 0 [] [] (fun _ _ _ _ _ _ v69 => K v69) (by omega) (by simp; omega) (by simp)
      simp only [List.nil_append, List.length_nil, Nat.sub_zero, List.map_id'] at this
      exact this
    · intro kk i left hB hi hleft hrest
      obtain ⟨l1, l2⟩ := hleft
      obtain ⟨t1, t2⟩ := l2 i (Nat.le_refl _)
      rw [witness_Words_l5]
      unfold witness_Words_l5_b
      have hl : IntKind.i64.wrap ((left.length : Int) - 1) = (i : Int) := by rw [l1, IntKind.wrap_i64]; omega
      rw [decide_eq_true (show (i : Int) < (n : Int) by omega), cond_true, hl, gdd (by omega), gdd (by omega), Int.toNat_natCast, t1]
      simp only
      rw [gdd (by omega), gdd (by omega), gdd (by rw [small_eq]; omega), Int.toNat_natCast]
      refine l9_ok h kf kk (by omega) (by omega) i _ ⟨t1, t2⟩ _ _ _ _ _ _ _ _ _ _ _ _ _ _ _ ?_
      intro t' ht'
      rw [gdd (by rw [small_eq]; simp; omega), wi_1 i (by omega)]
      refine hrest (left ++ [t']) ⟨by simp [l1], fun j hj => ?_⟩
      rw [snoc_getD]
      by_cases hji : j < i + 1
      · rw [if_pos (by omega)]; exact l2 j (by omega)
      · rw [if_neg (by omega), if_pos (by omega), show j = i + 1 by omega]; exact ht'

theorem words_none (h : Mch C N E k m) (kf : Nat) (hkf : 10000 ≤ kf) (n most : Int) (hn : n < 0 ∨ 200 < n) (K : List (List Int) → Option R) : witness_Words kf C N E n most K = K [] := by
  unfold witness_Words witness_Words_b
  rw [may_ok h kf (by omega)]
  simp only [Bool.not_true, cond_false]
  by_cases h0 : n < 0
  · rw [decide_eq_true h0]; rfl
  · rw [decide_eq_false h0]
    simp only [cond_false]
    rw [decide_eq_true (show 200 < n by omega)]; rfl
end
end Go.Ab.T

/- The laws WitnessFlip, WitnessFirst. -/
namespace Go.Ab.T
open Go Go.Ab
set_option linter.unusedVariables false
set_option linter.unusedSimpArgs false

/-! ### a machine that runs all words -/
theorem triv : Mch (List.replicate 256 (0 : Int)) [[0]] [true] 1 1 := by
  refine ⟨List.length_replicate, fun b hb => ⟨0, by omega, getD_rep _ _ _⟩, fun a ha => ⟨0, by omega, ?_⟩, rfl, rfl, by omega, by omega, by omega, by omega, fun s hs => ?_⟩
  · have : a = 0 := by omega
    subst this
    exact getD_rep _ _ _
  · have : s = 0 := by omega
    subst this
    refine ⟨rfl, fun a ha => ⟨0, by omega, ?_⟩⟩
    have : a = 0 := by omega
    subst this; rfl
theorem triv_dl (b : Nat) : dl (List.replicate 256 (0 : Int)) [[0]] 0 b = 0 := by
  unfold dl; rw [getD_rep]; rfl
theorem triv_W : ∀ n, W (List.replicate 256 (0 : Int)) [[0]] [true] n 0 = 256 ^ n
  | 0 => rfl
  | n + 1 => by
    simp only [W]
    rw [sumR_congr (g := fun _ => 256 ^ n) fun b _ => by rw [triv_dl, triv_W n], sumR_const, Nat.pow_succ, Nat.mul_comm]

section
variable {R : Type} {C : List Int} {N : List (List Int)} {E : List Bool} {k m : Nat}

theorem begun_ok (kf : Nat) (hkf : 10000 ≤ kf) (K : Bool → Option R) : law14_begun kf K = K true := by
  unfold law14_begun law14_begun_b
  refine shortest_ok triv kf hkf _ _ fun is w hw => ?_
  obtain ⟨rfl, rfl⟩ := hw.unique (is' := true) (w' := []) (Or.inl ⟨rfl, rfl, by simp, by simp, fun v _ _ => by rw [code_nil]; omega⟩)
  simp only [cond_true, List.map_nil, show decide ((([] : List Int).length : Int) = 0) = true from rfl]
  have h1 : ∀ K, witness_Count (R := R) kf (List.replicate 256 (0 : Int)) [[0]] [true] 2 K = K ((W (List.replicate 256 (0 : Int)) [[0]] [true] 2 0 % 18446744073709551616 : Nat) : Int) := fun K => count_ok triv kf hkf 2 (by omega) K
  have h2 : ∀ K, witness_Words (R := R) kf (List.replicate 256 (0 : Int)) [[0]] [true] 1 3 K = K ((ws (List.replicate 256 (0 : Int)) [[0]] [true] 1 0).take (min 3 1000)) := fun K => words_ok triv kf hkf 1 3 (by omega) K
  rw [h1, triv_W, decide_eq_true (show (((256 ^ 2 % 18446744073709551616 : Nat)) : Int) = 65536 from rfl), cond_true, h2, List.length_take, ws_length, triv_W]
  rfl

theorem flip_W (h : Mch C N E k m) : ∀ n s, s < k → W C N E n s + W C N (E.map fun b => !b) n s = 256 ^ n
  | 0, s, hs => by
    simp only [W]
    rw [flip_en h hs]
    cases en E s <;> rfl
  | n + 1, s, hs => by
    simp only [W]
    rw [← sumR_add, sumR_congr (g := fun _ => 256 ^ n) fun b hb => flip_W h n _ (h.dl_lt hs hb), sumR_const, Nat.pow_succ, Nat.mul_comm]

theorem sum_mod (a b M : Nat) : (a % M + b % M) % M = (a + b) % M := (Nat.add_mod a b M).symm

theorem flip_law (kf : Nat) (hkf : 10000 ≤ kf) (n c : Int) (l : List Int) (q : Int) (hn : 0 ≤ n ∧ n ≤ 255) (hc : 0 ≤ c ∧ c ≤ 255) (hl : ∀ x ∈ l, 0 ≤ x ∧ x ≤ 255) (hq : 0 ≤ q ∧ q ≤ 255) (K : Bool → Option R) : law14_WitnessFlip kf n c l q K = K true := by
  unfold law14_WitnessFlip law14_WitnessFlip_b
  rw [begun_ok kf hkf]
  simp only [Bool.not_true, cond_false]
  by_cases hlen : 60 < (l.length : Int)
  · rw [decide_eq_true hlen]; rfl
  · rw [decide_eq_false hlen]
    simp only [cond_false]
    refine dfa_ok kf (by omega) n c hn hc l hl (by omega) _ _ fun C N E k m h hk8 hm4 => ?_
    have hmod : IntKind.i64.wrap (Int.tmod q 12) = ((q.toNat % 12 : Nat) : Int) := by
      rw [Int.tmod_eq_emod_of_nonneg hq.1, IntKind.wrap_i64]; omega
    rw [hmod]
    generalize hz : q.toNat % 12 = z
    have hz12 : z < 12 := by omega
    have hw256 : ∀ i : Nat, IntKind.u64.wrap (mulZ ((256 ^ i % 18446744073709551616 : Nat) : Int) 256) = ((256 ^ (i + 1) % 18446744073709551616 : Nat) : Int) := by
      intro i
      have e : mulZ ((256 ^ i % 18446744073709551616 : Nat) : Int) 256 = (((256 ^ i % 18446744073709551616) * 256 : Nat) : Int) := by
        unfold mulZ
        rw [wall_eq, Int.natCast_mul]; rfl
      rw [e, wu, Nat.pow_succ]
      generalize 256 ^ i = y
      rw [Nat.mod_mul_mod]
    refine loop_inv (fun kk i (acc : Int) => law14_WitnessFlip_l9 kf kk (z : Int) C N E (fun (v15 : Int) (v16 : Int) (v17 : (List Int)) (v18 : (List (List Int))) (v19 : (List Bool)) =>
         witness_Count kf v17 v18 v19 v15 (fun (v20 : Int) =>
          ref11_Flip kf v17 v18 v19 (fun (v21 : (List Int)) (v22 : (List (List Int))) (v23 : (List Bool)) =>
           witness_Count kf v21 v22 v23 v15 (fun (v24 : Int) =>
            K (decide ((IntKind.u64.wrap (v20 + v24)) = v16)))))) acc (i : Int)) _ z 0 (fun i acc => acc = ((256 ^ i % 18446744073709551616 : Nat) : Int)) ?_ ?_ z kf 0 1 (by omega) (by omega) rfl
    · rintro kk acc rfl
      rw [law14_WitnessFlip_l9]
      unfold law14_WitnessFlip_l9_b
      rw [decide_eq_false (show ¬ ((z : Int) < (z : Int)) by omega), cond_false]
      dsimp only
      rw [count_ok h kf hkf z (by omega), rflip_ok kf h (by omega), count_ok h.flip kf hkf z (by omega), ← Int.natCast_add, wu, sum_mod, flip_W h z 0 (by have := h.k1; omega), decide_eq_true rfl]
    · rintro kk i acc _ hi rfl
      left
      refine ⟨_, rfl, ?_⟩
      rw [law14_WitnessFlip_l9]
      unfold law14_WitnessFlip_l9_b
      rw [decide_eq_true (show (i : Int) < (z : Int) by omega), cond_true, hw256, wi_1 i (by omega)]

theorem mn_nat (a b : Nat) : Go.Ab.mn (a : Int) (b : Int) = ((min a b : Nat) : Int) := by unfold Go.Ab.mn; split <;> omega

theorem first_law (kf : Nat) (hkf : 10000 ≤ kf) (n c : Int) (l : List Int) (q most : Int) (hn : 0 ≤ n ∧ n ≤ 255) (hc : 0 ≤ c ∧ c ≤ 255) (hl : ∀ x ∈ l, 0 ≤ x ∧ x ≤ 255) (hq : 0 ≤ q ∧ q ≤ 255) (hm : 0 ≤ most ∧ most ≤ 255) (K : Bool → Option R) : law14_WitnessFirst kf n c l q most K = K true := by
  unfold law14_WitnessFirst law14_WitnessFirst_b
  rw [begun_ok kf hkf]
  simp only [Bool.not_true, cond_false]
  by_cases hlen : 60 < (l.length : Int)
  · rw [decide_eq_true hlen]; rfl
  · rw [decide_eq_false hlen]
    simp only [cond_false]
    refine dfa_ok kf (by omega) n c hn hc l hl (by omega) _ _ fun C N E k m h hk8 hm4 => ?_
    have hmod : IntKind.i64.wrap (Int.tmod q 4) = ((q.toNat % 4 : Nat) : Int) := by
      rw [Int.tmod_eq_emod_of_nonneg hq.1, IntKind.wrap_i64]; omega
    have hmod2 : IntKind.i64.wrap (Int.tmod most 60) = ((most.toNat % 60 : Nat) : Int) := by
      rw [Int.tmod_eq_emod_of_nonneg hm.1, IntKind.wrap_i64]; omega
    rw [hmod, hmod2]
    generalize hz : q.toNat % 4 = z
    generalize hy : most.toNat % 60 = y
    have h1 : ∀ K, witness_Words (R := R) kf C N E (z : Int) 60 K = K ((ws C N E z 0).take (min 60 1000)) := fun K => words_ok h kf hkf z 60 (by omega) K
    rw [h1, words_ok h kf hkf z y (by omega), show min 60 1000 = 60 from rfl, show min y 1000 = y by omega]
    generalize ws C N E z 0 = L
    have hlens : (((L.take y).length : Nat) : Int) = Go.Ab.mn (((L.take 60).length : Nat) : Int) (y : Int) := by
      rw [mn_nat, List.length_take, List.length_take]; omega
    rw [decide_eq_true hlens]
    simp only [Bool.not_true, cond_false]
    refine loop_inv (fun kk i (_ : Unit) => law14_WitnessFirst_l10 kf kk C (L.take 60) (L.take y) N E (fun (v18 : Bool) (v19 : (List Int)) (v20 : (List (List Int))) (v21 : (List Bool)) => K v18)
           (fun (v22 : (List Int)) (v23 : (List (List Int))) (v24 : (List Bool)) =>
            witness_Words kf v22 v23 v24 (-1) 5 (fun (v25 : (List (List Int))) =>
             witness_Words kf v22 v23 v24 201 5 (fun (v26 : (List (List Int))) =>
              bif decide ((IntKind.i64.wrap ((v25.length : Int) + (v26.length : Int))) = 0) then
              (witness_Count kf v22 v23 v24 (-1) (fun (v27 : Int) =>
                K (decide (v27 = 0))))
              else (K false)))) (i : Int)) _ (L.take y).length 0 (fun _ _ => True) ?_ ?_ (L.take y).length kf 0 () (by omega) (by rw [List.length_take]; omega) trivial
    · intro kk _ _
      rw [law14_WitnessFirst_l10]
      unfold law14_WitnessFirst_l10_b
      rw [decide_eq_false (show ¬ (((L.take y).length : Int) < ((L.take y).length : Int)) by omega), cond_false]
      dsimp only
      rw [words_none h kf hkf (-1) 5 (by omega), words_none h kf hkf 201 5 (by omega)]
      simp only [show decide (IntKind.i64.wrap ((([] : List (List Int)).length : Int) + (([] : List (List Int)).length : Int)) = 0) = true from rfl, cond_true]
      rw [count_neg h kf hkf]; rfl
    · intro kk i _ _ hi _
      left
      refine ⟨(), trivial, ?_⟩
      have hi' : i < (L.take 60).length := by rw [List.length_take] at hi ⊢; omega
      have he : (L.take 60).getD i [] = (L.take y).getD i [] := by
        rw [List.length_take] at hi hi'
        rw [List.getD_eq_getElem?_getD, List.getD_eq_getElem?_getD, List.getElem?_take, List.getElem?_take, if_pos (by omega), if_pos (by omega)]
      rw [law14_WitnessFirst_l10]
      unfold law14_WitnessFirst_l10_b
      rw [decide_eq_true (show (i : Int) < ((L.take y).length : Int) by omega), cond_true, gdd (by omega), gdd (by omega), gdd (by omega), gd_true rfl, Int.toNat_natCast, decide_eq_true he, Bool.not_true, cond_false, wi_1 i (by rw [List.length_take] at hi; omega)]
end
end Go.Ab.T

/- Two machines at once: the reference's product. -/
namespace Go.Ab.T
open Go Go.Ab
set_option linter.unusedVariables false
set_option linter.unusedSimpArgs false

def opB (how : Nat) (x y : Bool) : Bool := if how = 1 then x && y else if how = 2 then x || y else if how = 3 then x && !y else !(decide (x = y))

/-- what the common classes are -/
structure Cls2 (A B : List Int) (cl : List Int) (F : List Nat) (c : Nat) : Prop where
  len : cl.length = 256
  le : F.length ≤ c
  get : ∀ i, i < c → ∃ j, j < F.length ∧ cl.getD i 0 = (j : Int) ∧ A.getD (F.getD j 0) 0 = A.getD i 0 ∧ B.getD (F.getD j 0) 0 = B.getD i 0
  inh : ∀ j, j < F.length → F.getD j 0 < c ∧ cl.getD (F.getD j 0) 0 = (j : Int)

section
variable {R : Type} {A : List Int} {NA : List (List Int)} {EA : List Bool} {ka ma : Nat} {B : List Int} {NB : List (List Int)} {EB : List Bool} {kb mb : Nat}

def castF (F : List Nat) : List Int := F.map fun b : Nat => (b : Int)
theorem castF_len (F : List Nat) : (castF F).length = F.length := by unfold castF; rw [List.length_map]
theorem castF_getD (F : List Nat) (j : Nat) : (castF F).getD j 0 = ((F.getD j 0 : Nat) : Int) := map_getD F j

theorem p11_ok (kf k0 : Nat) (hk : 300 < k0) (F : List Nat) (i : Nat) (hi : i < 256) (hF : F.length ≤ i) (hlt : ∀ j, j < F.length → F.getD j 0 < 256) (v27 v28 : Int) (v32 : List (List Int)) (v33 : List Bool) (v35 : List (List Int)) (v36 : List Bool) (v37 v38 : List Int) (v40 : List (List Int)) (v41 : List Bool) (v42 : List (List Int)) (v43 : List Bool)
    (Ke : Int → Int → Int → Int → (List Int) → (List (List Int)) → (List Bool) → (List Int) → (List (List Int)) → (List Bool) → (List Int) → (List Int) → (List Int) → (List (List Int)) → (List Bool) → (List (List Int)) → (List Bool) → Option R) (T : Option R)
    (hT : ∀ j : Nat, (j < F.length ∧ A.getD (F.getD j 0) 0 = A.getD i 0 ∧ B.getD (F.getD j 0) 0 = B.getD i 0) ∨ j = F.length → Ke v27 v28 (i : Int) (j : Int) A v32 v33 B v35 v36 v37 v38 (castF F) v40 v41 v42 v43 = T) :
    ref11_Product_l11 kf k0 v27 v28 (i : Int) A v32 v33 B v35 v36 v37 v38 (castF F) v40 v41 v42 v43 Ke 0 = T := by
  refine loop_inv (fun kk j (_ : Unit) => ref11_Product_l11 kf kk v27 v28 (i : Int) A v32 v33 B v35 v36 v37 v38 (castF F) v40 v41 v42 v43 Ke (j : Int)) T F.length 0 (fun _ _ => True) ?_ ?_ F.length k0 0 () (by omega) (by omega) trivial
  · intro kk _ _
    rw [ref11_Product_l11]
    unfold ref11_Product_l11_b
    rw [castF_len, decide_eq_false (show ¬ ((F.length : Int) < (F.length : Int)) by omega)]
    exact hT F.length (Or.inr rfl)
  · intro kk j _ _ hj _
    have hjl := hlt j hj
    have g0 : decide (0 ≤ (j : Int)) = true := decide_eq_true (by omega)
    have g1 : decide ((j : Int) < ((castF F).length : Int)) = true := decide_eq_true (by rw [castF_len]; omega)
    have g2 : decide (0 ≤ ((F.getD j 0 : Nat) : Int)) = true := decide_eq_true (by omega)
    have g3 : decide (((F.getD j 0 : Nat) : Int) < 256) = true := decide_eq_true (by omega)
    have g4 : decide (0 ≤ (i : Int)) = true := decide_eq_true (by omega)
    have g5 : decide ((i : Int) < 256) = true := decide_eq_true (by omega)
    have hw := wi_1 j (show j < 4000000000000000000 by omega)
    by_cases h1 : A.getD (F.getD j 0) 0 = A.getD i 0
    · by_cases h2 : B.getD (F.getD j 0) 0 = B.getD i 0
      · right
        rw [ref11_Product_l11]
        unfold ref11_Product_l11_b
        simp only [g0, g1, gd, cond_true, Int.toNat_natCast, castF_getD, g2, g3, g4, g5, decide_eq_true h1, decide_eq_true h2, Bool.not_true, cond_false]
        exact hT j (Or.inl ⟨hj, h1, h2⟩)
      · left
        refine ⟨(), trivial, ?_⟩
        rw [ref11_Product_l11]
        unfold ref11_Product_l11_b
        simp only [g0, g1, gd, cond_true, Int.toNat_natCast, castF_getD, g2, g3, g4, g5, decide_eq_true h1, decide_eq_false h2, Bool.not_true, Bool.not_false, cond_false, hw]
    · left
      refine ⟨(), trivial, ?_⟩
      rw [ref11_Product_l11]
      unfold ref11_Product_l11_b
      simp only [g0, g1, gd, cond_true, Int.toNat_natCast, castF_getD, g2, g3, g4, g5, decide_eq_false h1, Bool.not_false, cond_false, hw]

theorem p8_ok (kf k0 : Nat) (hk : 700 < k0) (v11 v12 : Int) (v15 : List (List Int)) (v16 : List Bool) (v18 : List (List Int)) (v19 : List Bool) (v20 : List Int) (v23 : List (List Int)) (v24 : List Bool) (v25 : List (List Int)) (v26 : List Bool)
    (Ke : Int → Int → (List Int) → (List (List Int)) → (List Bool) → (List Int) → (List (List Int)) → (List Bool) → (List Int) → (List Int) → (List Int) → (List (List Int)) → (List Bool) → (List (List Int)) → (List Bool) → Option R) (T : Option R)
    (hT : ∀ (cl : List Int) (F : List Nat), Cls2 A B cl F 256 → Ke v11 v12 A v15 v16 B v18 v19 v20 cl (castF F) v23 v24 v25 v26 = T) :
    ref11_Product_l8 kf k0 Ke v11 v12 0 A v15 v16 B v18 v19 v20 (List.replicate 256 (0 : Int)) ([] : List Int) v23 v24 v25 v26 = T := by
  refine loop_all (fun kk c (acc : List Int × List Nat) => ref11_Product_l8 kf kk Ke v11 v12 (c : Int) A v15 v16 B v18 v19 v20 acc.1 (castF acc.2) v23 v24 v25 v26) T 256 320
    (fun c acc => Cls2 A B acc.1 acc.2 c) ?_ ?_ 256 k0 0 (List.replicate 256 (0 : Int), []) (by omega) (by omega) ⟨List.length_replicate, Nat.le_refl _, fun i hi => by omega, fun j hj => by simp at hj⟩
  · rintro kk ⟨cl, F⟩ hI
    rw [ref11_Product_l8]
    unfold ref11_Product_l8_b
    rw [decide_eq_false (show ¬ (((256 : Nat) : Int) < 256) by omega), cond_false]
    exact hT cl F hI
  · rintro kk c ⟨cl, F⟩ hB hc ⟨h1, h2, h3, h4⟩ hrest
    simp only at h1 h2 h3 h4
    rw [ref11_Product_l8]
    unfold ref11_Product_l8_b
    rw [decide_eq_true (show (c : Int) < 256 by omega), cond_true]
    refine p11_ok kf kk (by omega) F c hc h2 (fun j hj => by have := (h4 j hj).1; omega) _ _ _ _ _ _ _ _ _ _ _ _ _ T fun j hj => ?_
    have hw := wi_1 c (show c < 4000000000000000000 by omega)
    have hj256 : j ≤ c := by rcases hj with ⟨hj, _⟩ | hj <;> omega
    have hw8 : IntKind.u8.wrap (j : Int) = (j : Int) := by rw [IntKind.wrap_u8]; omega
    have g1 : decide (0 ≤ (c : Int)) = true := decide_eq_true (by omega)
    have g2 : decide ((c : Int) < 256) = true := decide_eq_true (by omega)
    have key : ∀ (i : Nat) (v : Int), (cl.set c v).getD i 0 = if c = i ∧ i < cl.length then v else cl.getD i 0 := fun i v => getD_set' cl c i v 0
    rcases hj with ⟨hj1, hj2, hj3⟩ | rfl
    · rw [castF_len, decide_eq_false (show ¬ ((j : Int) = (F.length : Int)) by omega)]
      simp only [cond_false, g1, g2, gd, cond_true, Int.toNat_natCast, hw, hw8]
      refine hrest (cl.set c (j : Int), F) ⟨by rw [List.length_set]; exact h1, by simp only; omega, fun i hi => ?_, fun a ha => ?_⟩
      · simp only [key]
        by_cases hci : c = i
        · subst hci
          exact ⟨j, hj1, by rw [if_pos ⟨rfl, by omega⟩], hj2, hj3⟩
        · rw [if_neg (fun q => hci q.1)]; exact h3 i (by omega)
      · simp only [key]
        obtain ⟨p1, p2⟩ := h4 a ha
        refine ⟨by omega, ?_⟩
        rw [if_neg (fun q => by omega)]; exact p2
    · rw [castF_len, decide_eq_true rfl]
      have g3 : decide (F.length + ([(c : Int)] : List Int).length < SMALL) = true := decide_eq_true (by rw [small_eq]; simp; omega)
      simp only [cond_true, g1, g2, g3, gd, Int.toNat_natCast, hw, hw8]
      have hcs : castF F ++ [(c : Int)] = castF (F ++ [c]) := by unfold castF; simp
      rw [hcs]
      have hsn : ∀ a, (F ++ [c]).getD a 0 = if a < F.length then F.getD a 0 else if a = F.length then c else 0 := fun a => snoc_getD F c 0 a
      refine hrest (cl.set c (F.length : Int), F ++ [c]) ⟨by rw [List.length_set]; exact h1, by simp; omega, fun i hi => ?_, fun a ha => ?_⟩
      · simp only [key]
        by_cases hci : c = i
        · subst hci
          refine ⟨F.length, by simp, by rw [if_pos ⟨rfl, by omega⟩], ?_, ?_⟩ <;> rw [hsn, if_neg (by omega), if_pos rfl]
        · rw [if_neg (fun q => hci q.1)]
          obtain ⟨a, a1, a2, a3, a4⟩ := h3 i (by omega)
          refine ⟨a, by simp; omega, a2, ?_, ?_⟩ <;> rw [hsn, if_pos a1] <;> assumption
      · simp only [key]
        rw [hsn]
        have ha' : a < F.length + 1 := by simpa using ha
        by_cases haF : a < F.length
        · rw [if_pos haF]
          obtain ⟨p1, p2⟩ := h4 a haF
          refine ⟨by omega, ?_⟩
          rw [if_neg (fun q => by omega)]; exact p2
        · rw [if_neg haF, if_pos (by omega)]
          refine ⟨by omega, ?_⟩
          rw [if_pos ⟨rfl, by omega⟩]
          omega

/-! ### pairs of states -/
abbrev PQ := List (Nat × Nat)
def pl (q : PQ) : List (List Int) := q.map fun x => [(x.1 : Int), (x.2 : Int)]
theorem pl_len (q : PQ) : (pl q).length = q.length := by unfold pl; rw [List.length_map]
theorem pl_getD {q : PQ} {i : Nat} (h : i < q.length) (d : List Int) : (pl q).getD i d = [((q.getD i (0, 0)).1 : Int), ((q.getD i (0, 0)).2 : Int)] := by
  unfold pl
  rw [List.getD_eq_getElem?_getD, List.getElem?_map, List.getD_eq_getElem?_getD, List.getElem?_eq_getElem h]
  rfl
theorem pl_snoc (q : PQ) (x : Nat × Nat) : pl (q ++ [x]) = pl q ++ [[(x.1 : Int), (x.2 : Int)]] := by unfold pl; simp
theorem pq_old {q : PQ} {x : Nat × Nat} {i : Nat} (h : i < q.length) : (q ++ [x]).getD i (0, 0) = q.getD i (0, 0) := by rw [snoc_getD, if_pos h]

/-- where a step of the i-th pair leads, by the a-th class -/
def stp (A : List Int) (NA : List (List Int)) (B : List Int) (NB : List (List Int)) (F : List Nat) (x : Nat × Nat) (a : Nat) : Nat × Nat := (dl A NA x.1 (F.getD a 0), dl B NB x.2 (F.getD a 0))
def RowOk (A : List Int) (NA : List (List Int)) (B : List Int) (NB : List (List Int)) (F : List Nat) (q : PQ) (i c : Nat) (r : List Int) : Prop :=
  r.length = c ∧ ∀ a, a < c → ∃ j, j < q.length ∧ r.getD a 0 = (j : Int) ∧ q.getD j (0, 0) = stp A NA B NB F (q.getD i (0, 0)) a
theorem RowOk.more {F : List Nat} {q : PQ} {i c : Nat} {r : List Int} (h : RowOk A NA B NB F q i c r) (hi : i < q.length) (x : Nat × Nat) : RowOk A NA B NB F (q ++ [x]) i c r := by
  refine ⟨h.1, fun a ha => ?_⟩
  obtain ⟨j, h1, h2, h3⟩ := h.2 a ha
  exact ⟨j, by simp; omega, h2, by rw [pq_old h1, pq_old hi]; exact h3⟩

structure PInv (ka kb : Nat) (q : PQ) : Prop where
  lt : ∀ j, j < q.length → (q.getD j (0, 0)).1 < ka ∧ (q.getD j (0, 0)).2 < kb
  nod : q.Nodup
  pos : 0 < q.length
  zero : q.getD 0 (0, 0) = (0, 0)
theorem PInv.size {q : PQ} (h : PInv ka kb q) : q.length ≤ ka * kb := by
  have hn : (q.map fun x => x.1 * kb + x.2).Nodup := by
    have : (q.map fun x => x.1 * kb + x.2).Pairwise (· ≠ ·) := by
      rw [List.pairwise_map]
      refine List.Pairwise.imp_of_mem ?_ h.nod
      intro x y hx hy hne heq
      obtain ⟨i, hi, hxi⟩ := List.mem_iff_getElem.1 hx
      obtain ⟨j, hj, hyj⟩ := List.mem_iff_getElem.1 hy
      have h1 := h.lt i hi
      have h2 := h.lt j hj
      rw [List.getD_eq_getElem?_getD, List.getElem?_eq_getElem hi, hxi] at h1
      rw [List.getD_eq_getElem?_getD, List.getElem?_eq_getElem hj, hyj] at h2
      simp only [Option.getD_some] at h1 h2
      apply hne
      have e1 : x.1 = y.1 := by
        have q1 : (x.1 * kb + x.2) / kb = x.1 := by
          rw [Nat.mul_comm, Nat.mul_add_div (by omega), Nat.div_eq_of_lt h1.2]; omega
        have q2 : (y.1 * kb + y.2) / kb = y.1 := by
          rw [Nat.mul_comm, Nat.mul_add_div (by omega), Nat.div_eq_of_lt h2.2]; omega
        rw [← q1, ← q2, heq]
      have e2 : x.2 = y.2 := by rw [e1] at heq; omega
      exact Prod.ext e1 e2
    exact this
  have := nodup_len' (q.map fun x => x.1 * kb + x.2) (List.range (ka * kb)) hn (fun x hx => by
    rw [List.mem_map] at hx
    obtain ⟨y, hy, rfl⟩ := hx
    obtain ⟨i, hi, hyi⟩ := List.mem_iff_getElem.1 hy
    have h1 := h.lt i hi
    rw [List.getD_eq_getElem?_getD, List.getElem?_eq_getElem hi, hyi] at h1
    simp only [Option.getD_some] at h1
    rw [List.mem_range]
    calc y.1 * kb + y.2 < y.1 * kb + kb := by omega
      _ = (y.1 + 1) * kb := by rw [Nat.succ_mul]
      _ ≤ ka * kb := Nat.mul_le_mul_right _ h1.1)
  rwa [List.length_map, List.length_range] at this
where
  nodup_len' : ∀ (l ys : List Nat), l.Nodup → (∀ x ∈ l, x ∈ ys) → l.length ≤ ys.length
    | [], ys, _, _ => Nat.zero_le _
    | a :: r, ys, hn, hs => by
      rw [List.nodup_cons] at hn
      have ha := hs a (by simp)
      have ih := nodup_len' r (ys.erase a) hn.2 fun x hx => (List.mem_erase_of_ne (fun h => hn.1 (by rw [← h]; exact hx))).2 (hs x (by simp [hx]))
      rw [List.length_erase_of_mem ha] at ih
      have := List.length_pos_of_mem ha
      rw [List.length_cons]
      omega
end
end Go.Ab.T

/- Two machines at once: the pairs, and what the product runs. -/
namespace Go.Ab.T
open Go Go.Ab
set_option linter.unusedVariables false
set_option linter.unusedSimpArgs false

section
variable {R : Type} {A : List Int} {NA : List (List Int)} {EA : List Bool} {ka ma : Nat} {B : List Int} {NB : List (List Int)} {EB : List Bool} {kb mb : Nat}

def pv (x : Nat × Nat) : List Int := [(x.1 : Int), (x.2 : Int)]
theorem pv_inj {x y : Nat × Nat} (h : pv x = pv y) : x = y := by
  unfold pv at h
  simp only [List.cons.injEq, and_true] at h
  exact Prod.ext (by omega) (by omega)

theorem p26_ok (kf k0 : Nat) (q : PQ) (hk : q.length + 2 < k0) (hq : q.length ≤ 1000000) (x : Nat × Nat) (v115 v116 v117 v118 : Int) (v120 : List Int) (v121 : List (List Int)) (v122 : List Bool) (v123 : List Int) (v124 : List (List Int)) (v125 : List Bool) (v126 v127 v128 v130 : List Int) (v132 : List (List Int)) (v133 : List Bool) (v134 : List (List Int)) (v135 : List Bool)
    (Ke : Int → Int → Int → Int → Int → (List Int) → (List (List Int)) → (List Bool) → (List Int) → (List (List Int)) → (List Bool) → (List Int) → (List Int) → (List Int) → (List (List Int)) → (List Int) → (List Int) → (List (List Int)) → (List Bool) → (List (List Int)) → (List Bool) → Option R) (T : Option R)
    (hT : ∀ j : Nat, ((j < q.length ∧ q.getD j (0, 0) = x) ∨ (j = q.length ∧ ∀ y ∈ q, y ≠ x)) → Ke v115 v116 v117 v118 (j : Int) v120 v121 v122 v123 v124 v125 v126 v127 v128 (pl q) v130 (pv x) v132 v133 v134 v135 = T) :
    ref11_Product_l26 kf k0 v115 v116 v117 v118 v120 v121 v122 v123 v124 v125 v126 v127 v128 (pl q) v130 (pv x) v132 v133 v134 v135 Ke 0 = T := by
  refine loop_inv (fun kk j (_ : Unit) => ref11_Product_l26 kf kk v115 v116 v117 v118 v120 v121 v122 v123 v124 v125 v126 v127 v128 (pl q) v130 (pv x) v132 v133 v134 v135 Ke (j : Int)) T q.length 0
    (fun j _ => ∀ i, i < j → q.getD i (0, 0) ≠ x) ?_ ?_ q.length k0 0 () (by omega) (by omega) (by intro i hi; omega)
  · intro kk _ hno
    rw [ref11_Product_l26]
    unfold ref11_Product_l26_b
    rw [pl_len, decide_eq_false (show ¬ ((q.length : Int) < (q.length : Int)) by omega), cond_false]
    refine hT q.length (Or.inr ⟨rfl, fun y hy he => ?_⟩)
    obtain ⟨i, hi, hyi⟩ := List.mem_iff_getElem.1 hy
    refine hno i hi ?_
    rw [List.getD_eq_getElem?_getD, List.getElem?_eq_getElem hi, hyi]
    exact he
  · intro kk j _ _ hj hno
    have g0 : decide (0 ≤ (j : Int)) = true := decide_eq_true (by omega)
    have g1 : decide ((j : Int) < ((pl q).length : Int)) = true := decide_eq_true (by rw [pl_len]; omega)
    have hpl : (pl q).getD j (List.replicate 2 (0 : Int)) = pv (q.getD j (0, 0)) := pl_getD hj _
    by_cases he : q.getD j (0, 0) = x
    · right
      rw [ref11_Product_l26]
      unfold ref11_Product_l26_b
      simp only [g0, g1, gd, cond_true, Int.toNat_natCast, hpl, he, decide_true, Bool.not_true, cond_false]
      exact hT j (Or.inl ⟨hj, he⟩)
    · left
      refine ⟨(), fun i hi => ?_, ?_⟩
      · by_cases hij : i = j
        · subst hij; exact he
        · exact hno i (by omega)
      · have hne : decide (pv (q.getD j (0, 0)) = pv x) = false := decide_eq_false fun h => he (pv_inj h)
        rw [ref11_Product_l26]
        unfold ref11_Product_l26_b
        simp only [g0, g1, gd, cond_true, Int.toNat_natCast, hpl, hne, Bool.not_false, wi_1 j (show j < 4000000000000000000 by omega)]

/-- one pair's row -/
theorem p22_ok (hA : Mch A NA EA ka ma) (hB : Mch B NB EB kb mb) (hab : ka * kb ≤ 64) (F : List Nat) (hF : F.length ≤ 256) (hlt : ∀ j, j < F.length → F.getD j 0 < 256) (kf k0 : Nat) (hk : 500 < k0) (q : PQ) (hq : PInv ka kb q) (i : Nat) (hi : i < q.length)
    (v96 : Int) (v106 v107 : List Int) (v111 : List (List Int)) (v112 : List Bool) (v113 : List (List Int)) (v114 : List Bool)
    (Ke : Int → Int → Int → (List Int) → (List (List Int)) → (List Bool) → (List Int) → (List (List Int)) → (List Bool) → (List Int) → (List Int) → (List Int) → (List (List Int)) → (List Int) → (List (List Int)) → (List Bool) → (List (List Int)) → (List Bool) → Option R) (T : Option R)
    (hT : ∀ (r : PQ) (row : List Int), PInv ka kb (q ++ r) → RowOk A NA B NB F (q ++ r) i F.length row → Ke v96 64 (i : Int) A NA EA B NB EB v106 v107 (castF F) (pl (q ++ r)) row v111 v112 v113 v114 = T) :
    ref11_Product_l22 kf k0 Ke v96 64 (i : Int) 0 A NA EA B NB EB v106 v107 (castF F) (pl q) ([] : List Int) v111 v112 v113 v114 = T := by
  have hNA := hA.nl; have hNB := hB.nl; have hk2 := hA.k2
  refine loop_all (fun kk a (acc : PQ × List Int) => ref11_Product_l22 kf kk Ke v96 64 (i : Int) (a : Int) A NA EA B NB EB v106 v107 (castF F) (pl (q ++ acc.1)) acc.2 v111 v112 v113 v114) T F.length 200
    (fun a acc => PInv ka kb (q ++ acc.1) ∧ RowOk A NA B NB F (q ++ acc.1) i a acc.2) ?_ ?_ F.length k0 0 ([], []) (by omega) (by omega) ⟨by simpa using hq, rfl, fun a ha => by omega⟩ |> fun h => by simpa using h
  · rintro kk ⟨r, row⟩ ⟨h1, h2⟩
    simp only at h1 h2
    rw [ref11_Product_l22]
    unfold ref11_Product_l22_b
    rw [castF_len, decide_eq_false (show ¬ ((F.length : Int) < (F.length : Int)) by omega), cond_false]
    exact hT r row h1 h2
  · rintro kk a ⟨r, row⟩ hB2 ha ⟨h1, h2⟩ hrest
    simp only at h1 h2
    have hsz := h1.size
    have hlen : (q ++ r).length = q.length + r.length := List.length_append
    have hi' : i < (q ++ r).length := by omega
    have hlti := h1.lt i hi'
    generalize hQ : q ++ r = Q at h1 h2 hsz hi' hlti
    have hFa := hlt a ha
    have hpl : (pl Q).getD i (List.replicate 2 (0 : Int)) = pv (Q.getD i (0, 0)) := pl_getD hi' _
    have hstep : stp A NA B NB F (Q.getD i (0, 0)) a = (dl A NA (Q.getD i (0, 0)).1 (F.getD a 0), dl B NB (Q.getD i (0, 0)).2 (F.getD a 0)) := rfl
    generalize hx : Q.getD i (0, 0) = x at hpl hstep hlti
    generalize hf : F.getD a 0 = f at hFa hstep
    obtain ⟨c1, c2⟩ := hA.cls_lt f hFa
    obtain ⟨d1, d2⟩ := hB.cls_lt f hFa
    have hdA : dl A NA x.1 f = ((NA.getD x.1 []).getD (A.getD f 0).toNat 0).toNat := rfl
    have hdB : dl B NB x.2 f = ((NB.getD x.2 []).getD (B.getD f 0).toNat 0).toNat := rfl
    obtain ⟨s1, s2⟩ := hA.row_lt hlti.1 c1
    obtain ⟨t1, t2⟩ := hB.row_lt hlti.2 d1
    rw [← hdA] at s1 s2
    rw [← hdB] at t1 t2
    have hrA := (hA.row x.1 hlti.1).1
    have hrB := (hB.row x.2 hlti.2).1
    generalize hca : (A.getD f 0).toNat = ca at c1 c2 s2
    generalize hcb : (B.getD f 0).toNat = cb at d1 d2 t2
    have g0 : decide (0 ≤ (i : Int)) = true := decide_eq_true (by omega)
    have g1 : decide ((i : Int) < ((pl Q).length : Int)) = true := decide_eq_true (by rw [pl_len]; omega)
    have g2 : decide (0 ≤ (x.1 : Int)) = true := decide_eq_true (by omega)
    have g3 : decide ((x.1 : Int) < (NA.length : Int)) = true := decide_eq_true (by omega)
    have g4 : decide (0 ≤ (a : Int)) = true := decide_eq_true (by omega)
    have g5 : decide ((a : Int) < ((castF F).length : Int)) = true := decide_eq_true (by rw [castF_len]; omega)
    have g6 : decide (0 ≤ (f : Int)) = true := decide_eq_true (by omega)
    have g7 : decide ((f : Int) < 256) = true := decide_eq_true (by omega)
    have g8 : decide (0 ≤ (ca : Int)) = true := decide_eq_true (by omega)
    have g9 : decide ((ca : Int) < ((NA.getD x.1 []).length : Int)) = true := decide_eq_true (by omega)
    have g10 : decide (0 ≤ (x.2 : Int)) = true := decide_eq_true (by omega)
    have g11 : decide ((x.2 : Int) < (NB.length : Int)) = true := decide_eq_true (by omega)
    have g12 : decide (0 ≤ (cb : Int)) = true := decide_eq_true (by omega)
    have g13 : decide ((cb : Int) < ((NB.getD x.2 []).length : Int)) = true := decide_eq_true (by omega)
    have g14 : decide (((pl Q).length : Int) ≤ 64) = true := decide_eq_true (by rw [pl_len]; omega)
    have p0 : (pv x).getD 0 0 = (x.1 : Int) := rfl
    have p1 : (pv x).getD 1 0 = (x.2 : Int) := rfl
    rw [ref11_Product_l22]
    unfold ref11_Product_l22_b
    simp only [hQ, g0, g1, gd, cond_true, Int.toNat_natCast, hpl, p0, p1, g2, g3, g4, g5, castF_getD, hf, g6, g7, c2, d2, g8, g9, g10, g11, g12, g13, g14, s2, t2]
    refine p26_ok kf kk Q (by omega) (by omega) (dl A NA x.1 f, dl B NB x.2 f) _ _ _ _ _ _ _ _ _ _ _ _ _ _ _ _ _ _ _ T fun j hj => ?_
    have hrl := h2.1
    have hw := wi_1 a (show a < 4000000000000000000 by omega)
    have g15 : decide (row.length + ([(j : Int)] : List Int).length < SMALL) = true := decide_eq_true (by rw [small_eq]; simp; omega)
    have hsn : ∀ c, (row ++ [(j : Int)]).getD c 0 = if c < row.length then row.getD c 0 else if c = row.length then (j : Int) else 0 := fun c => snoc_getD row _ 0 c
    rcases hj with ⟨hj1, hj2⟩ | ⟨rfl, hj2⟩
    · rw [pl_len, decide_eq_false (show ¬ ((j : Int) = (Q.length : Int)) by omega)]
      simp only [cond_false, g15, gd, cond_true, hw]
      have := hrest (r, row ++ [(j : Int)]) ⟨by simp only; rw [hQ]; exact h1, by simp [hrl], fun c hc => by
        simp only
        rw [hsn, hQ]
        by_cases hca : c < a
        · rw [if_pos (by omega)]; exact h2.2 c hca
        · rw [if_neg (by omega), if_pos (by omega)]
          have : c = a := by omega
          subst this
          exact ⟨j, hj1, rfl, by rw [hj2, hx]; unfold stp; rw [hf]⟩⟩
      simp only [hQ] at this
      exact this
    · rw [pl_len, decide_eq_true rfl]
      have g16 : decide (Q.length + ([pv (dl A NA x.1 f, dl B NB x.2 f)] : List (List Int)).length < SMALL) = true := decide_eq_true (by rw [small_eq]; simp; omega)
      have hps : pl Q ++ [pv (dl A NA x.1 f, dl B NB x.2 f)] = pl (Q ++ [(dl A NA x.1 f, dl B NB x.2 f)]) := (pl_snoc _ _).symm
      have hP : PInv ka kb (Q ++ [(dl A NA x.1 f, dl B NB x.2 f)]) := by
        refine ⟨fun c hc => ?_, ?_, by simp, by rw [pq_old h1.pos]; exact h1.zero⟩
        · rw [snoc_getD]
          by_cases hcl : c < Q.length
          · rw [if_pos hcl]; exact h1.lt c hcl
          · rw [if_neg hcl]
            have : c = Q.length := by simp at hc; omega
            rw [if_pos this]; exact ⟨s1, t1⟩
        · rw [List.nodup_append]
          refine ⟨h1.nod, by simp, fun y hy z hz => ?_⟩
          rw [List.mem_singleton] at hz
          rw [hz]; exact hj2 y hy
      simp only [cond_true, g15, g16, gd, hw, hps]
      have := hrest (r ++ [(dl A NA x.1 f, dl B NB x.2 f)], row ++ [(Q.length : Int)]) ⟨by simp only; rw [← List.append_assoc, hQ]; exact hP, by simp [hrl], fun c hc => by
        simp only
        rw [hsn, ← List.append_assoc, hQ]
        by_cases hca : c < a
        · rw [if_pos (by omega)]
          exact (h2.more hi' _).2 c hca
        · rw [if_neg (by omega), if_pos (by omega)]
          have : c = a := by omega
          subst this
          refine ⟨Q.length, by simp, rfl, ?_⟩
          rw [snoc_getD, if_neg (by omega), if_pos rfl, pq_old hi', hx]
          unfold stp; rw [hf]⟩
      simp only [← List.append_assoc, hQ] at this
      exact this
end
end Go.Ab.T

/- Two machines at once: what the reference's product is. -/
namespace Go.Ab.T
open Go Go.Ab
set_option linter.unusedVariables false
set_option linter.unusedSimpArgs false

/-- a machine that runs two at once -/
structure Sim (A : List Int) (NA : List (List Int)) (EA : List Bool) (ka : Nat) (B : List Int) (NB : List (List Int)) (EB : List Bool) (kb how : Nat) (C : List Int) (N : List (List Int)) (E : List Bool) (n : Nat) (q : PQ) : Prop where
  len : q.length = n
  zero : q.getD 0 (0, 0) = (0, 0)
  lt : ∀ i, i < n → (q.getD i (0, 0)).1 < ka ∧ (q.getD i (0, 0)).2 < kb
  step : ∀ i, i < n → ∀ b, b < 256 → q.getD (dl C N i b) (0, 0) = (dl A NA (q.getD i (0, 0)).1 b, dl B NB (q.getD i (0, 0)).2 b)
  ends : ∀ i, i < n → en E i = opB how (en EA (q.getD i (0, 0)).1) (en EB (q.getD i (0, 0)).2)

section
variable {R : Type} {A : List Int} {NA : List (List Int)} {EA : List Bool} {ka ma : Nat} {B : List Int} {NB : List (List Int)} {EB : List Bool} {kb mb : Nat}

theorem p18_ok (hA : Mch A NA EA ka ma) (hB : Mch B NB EB kb mb) (hab : ka * kb ≤ 64) (F : List Nat) (hF : F.length ≤ 256) (hlt : ∀ j, j < F.length → F.getD j 0 < 256) (kf : Nat) (hkf : 3000 ≤ kf) (how : Nat) (hh : 1 ≤ how ∧ how ≤ 4)
    (v88 v89 : List Int) (v92 : List (List Int)) (v93 : List Bool) (Ke : Int → (List Int) → (List Int) → (List (List Int)) → (List (List Int)) → (List Bool) → (List (List Int)) → (List Bool) → Option R) (T : Option R)
    (hT : ∀ (q : PQ) (N' : List (List Int)) (E' : List Bool), PInv ka kb q → N'.length = q.length → E'.length = q.length → (∀ i, i < q.length → RowOk A NA B NB F q i F.length (N'.getD i [])) →
      (∀ i, i < q.length → E'.getD i false = opB how (en EA (q.getD i (0, 0)).1) (en EB (q.getD i (0, 0)).2)) → Ke 64 v88 v89 (pl q) v92 v93 N' E' = T) :
    ref11_Product_l18 kf kf Ke (how : Int) 64 0 A NA EA B NB EB v88 v89 (castF F) (pl [(0, 0)]) v92 v93 ([] : List (List Int)) ([] : List Bool) = T := by
  have hEA := hA.el; have hEB := hB.el
  refine loop_meas (fun kk (acc : Nat × PQ × List (List Int) × List Bool) => ref11_Product_l18 kf kk Ke (how : Int) 64 (acc.1 : Int) A NA EA B NB EB v88 v89 (castF F) (pl acc.2.1) v92 v93 acc.2.2.1 acc.2.2.2) T (fun acc => 66 - acc.1) 600
    (fun acc => PInv ka kb acc.2.1 ∧ acc.1 ≤ acc.2.1.length ∧ acc.2.2.1.length = acc.1 ∧ acc.2.2.2.length = acc.1 ∧ (∀ i, i < acc.1 → RowOk A NA B NB F acc.2.1 i F.length (acc.2.2.1.getD i [])) ∧
      (∀ i, i < acc.1 → acc.2.2.2.getD i false = opB how (en EA (acc.2.1.getD i (0, 0)).1) (en EB (acc.2.1.getD i (0, 0)).2))) ?_ kf (0, [(0, 0)], [], []) (by simp only; omega)
    ⟨⟨fun j hj => by
        have : j = 0 := by simp at hj; exact hj
        subst this
        exact ⟨by have := hA.k1; simp; omega, by have := hB.k1; simp; omega⟩, by simp, by simp, rfl⟩, by simp, rfl, rfl, fun i hi => by simp at hi, fun i hi => by simp at hi⟩
  rintro kk ⟨i, q, N', E'⟩ hB2 ⟨h1, h2, h3, h4, h5, h6⟩ hrest
  simp only at h1 h2 h3 h4 h5 h6 hrest
  have hsz := h1.size
  rw [ref11_Product_l18]
  unfold ref11_Product_l18_b
  dsimp only
  by_cases hi : i < q.length
  · rw [pl_len, decide_eq_true (show (i : Int) < (q.length : Int) by omega), cond_true, decide_eq_true (show (q.length : Int) ≤ 64 by omega), cond_true]
    refine p22_ok hA hB hab F hF hlt kf kk (by omega) q h1 i hi _ _ _ _ _ _ _ _ T fun r row z1 z2 => ?_
    have hlen : (q ++ r).length = q.length + r.length := List.length_append
    have hold : ∀ j, j < q.length → (q ++ r).getD j (0, 0) = q.getD j (0, 0) := fun j hj => by
      rw [List.getD_eq_getElem?_getD, List.getD_eq_getElem?_getD, List.getElem?_append_left hj]
    have hrows : ∀ j, j < i → RowOk A NA B NB F (q ++ r) j F.length (N'.getD j []) := by
      intro j hj
      obtain ⟨r1, r2⟩ := h5 j hj
      refine ⟨r1, fun a ha => ?_⟩
      obtain ⟨c, c1, c2, c3⟩ := r2 a ha
      exact ⟨c, by omega, c2, by rw [hold c c1, hold j (by omega)]; exact c3⟩
    have hi' : i < (q ++ r).length := by omega
    have hsz' := z1.size
    have hlti := z1.lt i hi'
    have hxe : (q ++ r).getD i (0, 0) = q.getD i (0, 0) := hold i hi
    have hends : ∀ j, j < i → E'.getD j false = opB how (en EA ((q ++ r).getD j (0, 0)).1) (en EB ((q ++ r).getD j (0, 0)).2) := by
      intro j hj
      rw [hold j (by omega)]; exact h6 j hj
    generalize hQ : q ++ r = Q at z1 z2 hi' hsz' hlti hrows hends
    have hpl : (pl Q).getD i (List.replicate 2 (0 : Int)) = pv (Q.getD i (0, 0)) := pl_getD hi' _
    have hgo : ∀ b : Bool, b = opB how (en EA (Q.getD i (0, 0)).1) (en EB (Q.getD i (0, 0)).2) →
        ref11_Product_l18 kf kk Ke (how : Int) 64 ((i + 1 : Nat) : Int) A NA EA B NB EB v88 v89 (castF F) (pl Q) v92 v93 (N' ++ [row]) (E' ++ [b]) = T := by
      intro b hb
      refine hrest (i + 1, Q, N' ++ [row], E' ++ [b]) ⟨z1, by simp only; omega, by simp [h3], by simp [h4], fun j hj => ?_, fun j hj => ?_⟩ (by simp only; omega)
      · simp only
        rw [snoc_getD]
        by_cases hji : j < i
        · rw [if_pos (by omega)]; exact hrows j hji
        · rw [if_neg (by omega), if_pos (by simp only at hj; omega)]
          have : j = i := by simp only at hj; omega
          subst this; exact z2
      · simp only
        rw [snoc_getD]
        by_cases hji : j < i
        · rw [if_pos (by omega)]; exact hends j hji
        · rw [if_neg (by omega), if_pos (by simp only at hj; omega)]
          have : j = i := by simp only at hj; omega
          subst this; exact hb
    generalize hx : Q.getD i (0, 0) = x at hpl hlti hgo
    have g0 : decide (0 ≤ (i : Int)) = true := decide_eq_true (by omega)
    have g1 : decide ((i : Int) < ((pl Q).length : Int)) = true := decide_eq_true (by rw [pl_len]; omega)
    have g2 : decide (0 ≤ (x.1 : Int)) = true := decide_eq_true (by omega)
    have g3 : decide ((x.1 : Int) < (EA.length : Int)) = true := decide_eq_true (by omega)
    have g4 : decide (0 ≤ (x.2 : Int)) = true := decide_eq_true (by omega)
    have g5 : decide ((x.2 : Int) < (EB.length : Int)) = true := decide_eq_true (by omega)
    have g6 : decide (N'.length + ([row] : List (List Int)).length < SMALL) = true := decide_eq_true (by rw [small_eq]; simp; omega)
    have g7 : ∀ b : Bool, decide (E'.length + ([b] : List Bool).length < SMALL) = true := fun b => decide_eq_true (by rw [small_eq]; simp; omega)
    have p0 : (pv x).getD 0 0 = (x.1 : Int) := rfl
    have p1 : (pv x).getD 1 0 = (x.2 : Int) := rfl
    have hw := wi_1 i (show i < 4000000000000000000 by omega)
    have hea : EA.getD x.1 false = en EA x.1 := rfl
    have heb : EB.getD x.2 false = en EB x.2 := rfl
    simp only [g0, g1, gd, cond_true, Int.toNat_natCast, hpl, p0, p1, g2, g3, g4, g5, g6, hea, heb, hw]
    generalize en EA x.1 = ea at hgo
    generalize en EB x.2 = eb at hgo
    rcases (show how = 1 ∨ how = 2 ∨ how = 3 ∨ how = 4 by omega) with rfl | rfl | rfl | rfl <;> cases ea <;> cases eb <;>
      simp only [cond_true, cond_false, g7, show IntKind.i64.wrap (((1 : Nat) : Int) - 1) = 0 by decide, show IntKind.i64.wrap (((2 : Nat) : Int) - 1) = 1 by decide, show IntKind.i64.wrap (((3 : Nat) : Int) - 1) = 2 by decide, show IntKind.i64.wrap (((4 : Nat) : Int) - 1) = 3 by decide] <;>
      exact hgo _ rfl
  · rw [pl_len, decide_eq_false (show ¬ ((i : Int) < (q.length : Int)) by omega), cond_false]
    have : i = q.length := by omega
    subst this
    exact hT q N' E' h1 h3 h4 h5 h6

theorem product_ok (hA : Mch A NA EA ka ma) (hB : Mch B NB EB kb mb) (hab : ka * kb ≤ 64) (kf : Nat) (hkf : 6000 ≤ kf) (how : Nat) (hh : 1 ≤ how ∧ how ≤ 4) (K : (List Int) → Int → (List (List Int)) → (List Bool) → Option R) (T : Option R)
    (hT : ∀ (C : List Int) (N : List (List Int)) (E : List Bool) (n m : Nat) (q : PQ), Mch C N E n m → n ≤ 64 → Sim A NA EA ka B NB EB kb how C N E n q → K C 0 N E = T) :
    ref11_Product kf A NA EA B NB EB (how : Int) 64 K = T := by
  unfold ref11_Product ref11_Product_b
  rw [decide_eq_false (show ¬ ((how : Int) < 1) by omega), decide_eq_false (show ¬ ((4 : Int) < (how : Int)) by omega)]
  simp only [cond_false]
  rw [rmay_ok hA kf hkf]
  simp only [Bool.not_true, cond_false]
  rw [rmay_ok hB kf hkf]
  simp only [Bool.not_true, cond_false]
  refine p8_ok kf kf (by omega) _ _ _ _ _ _ _ _ _ _ _ _ T fun cl F hc => ?_
  obtain ⟨c1, c2, c3, c4⟩ := hc
  refine p18_ok hA hB hab F c2 (fun j hj => (c4 j hj).1) kf (by omega) how hh _ _ _ _ _ T fun q N' E' h1 h2 h3 h4 h5 => ?_
  have hsz := h1.size
  have hF1 : 1 ≤ F.length := by obtain ⟨j, hj, _⟩ := c3 0 (by omega); omega
  rw [pl_len, decide_eq_false (show ¬ ((64 : Int) < (q.length : Int)) by omega), cond_false]
  have hM : Mch cl N' E' q.length F.length := by
    refine ⟨c1, fun b hb => ?_, fun a ha => ⟨F.getD a 0, (c4 a ha).1, (c4 a ha).2⟩, h2, h3, h1.pos, by omega, hF1, c2, fun s hs => ?_⟩
    · obtain ⟨j, j1, j2, _⟩ := c3 b hb
      exact ⟨j, j1, j2⟩
    · obtain ⟨r1, r2⟩ := h4 s hs
      refine ⟨r1, fun a ha => ?_⟩
      obtain ⟨j, j1, j2, _⟩ := r2 a ha
      exact ⟨j, j1, j2⟩
  refine hT cl N' E' q.length F.length q hM (by omega) ⟨rfl, h1.zero, h1.lt, fun i hi b hb => ?_, fun i hi => h5 i hi⟩
  obtain ⟨a, a1, a2, a3, a4⟩ := c3 b hb
  obtain ⟨j, j1, j2, j3⟩ := (h4 i hi).2 a a1
  have hd : dl cl N' i b = j := by
    unfold dl
    rw [a2, Int.toNat_natCast, j2, Int.toNat_natCast]
  rw [hd, j3]
  unfold stp dl
  rw [a3, a4]
end
end Go.Ab.T

/- The law WitnessPairs. -/
namespace Go.Ab.T
open Go Go.Ab
set_option linter.unusedVariables false
set_option linter.unusedSimpArgs false

section
variable {R : Type} {A : List Int} {NA : List (List Int)} {EA : List Bool} {ka ma : Nat} {B : List Int} {NB : List (List Int)} {EB : List Bool} {kb mb : Nat}

def W2 (A : List Int) (NA : List (List Int)) (EA : List Bool) (B : List Int) (NB : List (List Int)) (EB : List Bool) (how : Nat) : Nat → Nat × Nat → Nat
  | 0, x => if opB how (en EA x.1) (en EB x.2) = true then 1 else 0
  | z + 1, x => sumR 256 fun b => W2 A NA EA B NB EB how z (dl A NA x.1 b, dl B NB x.2 b)

theorem W_sim {C : List Int} {N : List (List Int)} {E : List Bool} {n m how : Nat} {q : PQ} (h : Mch C N E n m) (hs : Sim A NA EA ka B NB EB kb how C N E n q) : ∀ (z i : Nat), i < n → W C N E z i = W2 A NA EA B NB EB how z (q.getD i (0, 0))
  | 0, i, hi => by
    simp only [W, W2]
    rw [hs.ends i hi]
  | z + 1, i, hi => by
    simp only [W, W2]
    apply sumR_congr
    intro b hb
    rw [W_sim h hs z _ (h.dl_lt hi hb), hs.step i hi b hb]

theorem W2_both : ∀ (z : Nat) (x : Nat × Nat), W2 A NA EA B NB EB 1 z x + W2 A NA EA B NB EB 2 z x = W A NA EA z x.1 + W B NB EB z x.2
  | 0, x => by
    simp only [W2, W, opB]
    cases en EA x.1 <;> cases en EB x.2 <;> rfl
  | z + 1, x => by
    simp only [W2, W]
    rw [← sumR_add, ← sumR_add]
    apply sumR_congr
    intro b _
    exact W2_both z _

theorem pairs_law (kf : Nat) (hkf : 20000 ≤ kf) (n c : Int) (l : List Int) (n2 c2 : Int) (l2 : List Int) (sz : Int) (hn : 0 ≤ n ∧ n ≤ 255) (hc : 0 ≤ c ∧ c ≤ 255) (hl : ∀ x ∈ l, 0 ≤ x ∧ x ≤ 255) (hn2 : 0 ≤ n2 ∧ n2 ≤ 255) (hc2 : 0 ≤ c2 ∧ c2 ≤ 255) (hl2 : ∀ x ∈ l2, 0 ≤ x ∧ x ≤ 255) (hz : 0 ≤ sz ∧ sz ≤ 255) (K : Bool → Option R) :
    law14_WitnessPairs kf n c l n2 c2 l2 sz K = K true := by
  unfold law14_WitnessPairs law14_WitnessPairs_b
  rw [begun_ok kf (by omega)]
  simp only [Bool.not_true, cond_false]
  by_cases hlen : 60 < (l.length : Int)
  · rw [decide_eq_true hlen]; rfl
  · rw [decide_eq_false hlen]
    simp only [cond_false]
    by_cases hlen2 : 60 < (l2.length : Int)
    · rw [decide_eq_true hlen2]; rfl
    · rw [decide_eq_false hlen2]
      simp only [cond_false]
      refine dfa_ok kf (by omega) n c hn hc l hl (by omega) _ _ fun A NA EA ka ma hA hka hma => ?_
      refine dfa_ok kf (by omega) n2 c2 hn2 hc2 l2 hl2 (by omega) _ _ fun B NB EB kb mb hB hkb hmb => ?_
      have hab : ka * kb ≤ 64 := by
        have := Nat.mul_le_mul hka hkb
        omega
      have h10 : IntKind.i64.wrap (Int.tmod sz 10) = ((sz.toNat % 10 : Nat) : Int) := by
        rw [Int.tmod_eq_emod_of_nonneg hz.1, IntKind.wrap_i64]; omega
      rw [h10]
      generalize hzz : sz.toNat % 10 = z
      have p1 : ∀ K T, _ → ref11_Product (R := R) kf A NA EA B NB EB 1 64 K = T := fun K T h => product_ok hA hB hab kf (by omega) 1 (by omega) K T h
      have p2 : ∀ K T, _ → ref11_Product (R := R) kf A NA EA B NB EB 2 64 K = T := fun K T h => product_ok hA hB hab kf (by omega) 2 (by omega) K T h
      refine p1 _ _ fun C1 N1 E1 k1 m1 q1 h1 hk1 hs1 => ?_
      refine p2 _ _ fun C2 N2 E2 k2 m2 q2 h2 hk2 hs2 => ?_
      rw [count_ok hA kf (by omega) z (by omega), count_ok hB kf (by omega) z (by omega), count_ok h1 kf (by omega) z (by omega), count_ok h2 kf (by omega) z (by omega)]
      rw [← Int.natCast_add, wu, ← Int.natCast_add, wu, sum_mod, sum_mod, W_sim h1 hs1 z 0 h1.k1, W_sim h2 hs2 z 0 h2.k1, hs1.zero, hs2.zero, W2_both, decide_eq_true rfl]
end
end Go.Ab.T
