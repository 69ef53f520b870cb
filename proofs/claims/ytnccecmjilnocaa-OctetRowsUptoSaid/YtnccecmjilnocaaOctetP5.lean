/- Numbers and texts in a row are read on, one by one. -/
import Derived.Test.YtnccecmjilnocaaOctetP4
namespace Go.Ab.T
open Go Go.Ab
set_option linter.unusedVariables false
set_option linter.unusedSimpArgs false

def nums : Nat → List Int → List Int
  | _, [] => []
  | i, v :: r => le (1 + i % 8) v ++ nums (i + 1) r
def texts : List (List Int) → List Int
  | [] => []
  | t :: r => le 2 (t.length : Int) ++ t ++ texts r

theorem nums_len : ∀ (i : Nat) (vs : List Int), (nums i vs).length ≤ 8 * vs.length
  | _, [] => Nat.le_refl _
  | i, v :: r => by
    have := nums_len (i + 1) r
    simp only [nums, List.length_append, le_length, List.length_cons]
    omega
theorem nums_isB : ∀ (i : Nat) (vs : List Int), isB (nums i vs)
  | _, [] => fun x hx => nomatch hx
  | i, v :: r => isB_append (le_isB _ _) (nums_isB (i + 1) r)
theorem texts_len : ∀ (ts : List (List Int)), (∀ t ∈ ts, t.length ≤ 100) → (texts ts).length ≤ 102 * ts.length
  | [], _ => Nat.le_refl _
  | t :: r, h => by
    have := texts_len r fun t ht => h t (by simp [ht])
    have := h t (by simp)
    simp only [texts, List.length_append, le_length, List.length_cons]
    omega
theorem texts_isB : ∀ (ts : List (List Int)), (∀ t ∈ ts, isB t) → isB (texts ts)
  | [], _ => fun x hx => nomatch hx
  | t :: r, h => isB_append (isB_append (le_isB _ _) (h t (by simp))) (texts_isB r fun t ht => h t (by simp [ht]))

theorem wrap_place (i : Nat) (hi : i ≤ 1000) : IntKind.i64.wrap (1 + Int.tmod (i : Int) 8) = ((1 + i % 8 : Nat) : Int) := by
  rw [Int.tmod_eq_emod_of_nonneg (by omega), IntKind.wrap_i64]
  omega
theorem wrap_next (i : Nat) (hi : i ≤ 1000000) : IntKind.i64.wrap ((i : Int) + 1) = ((i + 1 : Nat) : Int) := by
  rw [IntKind.wrap_i64]; omega
theorem getD_at {α : Type} (pre : List α) (x : α) (r : List α) (d : α) : (pre ++ x :: r).getD (Int.toNat (pre.length : Int)) d = x := by
  rw [Int.toNat_natCast, List.getD_eq_getElem?_getD, List.getElem?_append_right (Nat.le_refl _)]
  simp

theorem rows_l7 {R : Type} (kf : Nat) (hkf : 9 ≤ kf) (ts : List (List Int)) (Ke : List Int → List (List Int) → List Int → Option R) : ∀ (r pre : List Int) (k : Nat) (acc : List Int), pre.length + r.length ≤ 20 → acc.length ≤ 8 * pre.length → r.length < k →
    law1_OctetRows_l7 kf k (pre ++ r) ts Ke (pre.length : Int) acc = Ke (pre ++ r) ts (acc ++ nums pre.length r)
  | r, pre, 0, acc, _, _, hk => by omega
  | [], pre, k + 1, acc, hl, ha, hk => by
    have h1 : decide ((pre.length : Int) < (pre.length : Int)) = false := decide_eq_false (by omega)
    simp only [law1_OctetRows_l7, law1_OctetRows_l7_b, List.append_nil, h1, cond_false, nums]
  | v :: r, pre, k + 1, acc, hl, ha, hk => by
    have h1 : decide ((pre.length : Int) < ((pre ++ v :: r).length : Int)) = true := decide_eq_true (by simp; omega)
    have h0 : decide (0 ≤ (pre.length : Int)) = true := decide_eq_true (by omega)
    simp only [List.length_cons] at hl hk
    simp only [law1_OctetRows_l7, law1_OctetRows_l7_b, h1, h0, cond_true, gd]
    rw [wrap_place _ (by omega), getD_at, put_ok kf hkf acc v (1 + pre.length % 8) (by omega) (by omega), wrap_next _ (by omega)]
    have ih := rows_l7 kf hkf ts Ke r (pre ++ [v]) k (acc ++ le (1 + pre.length % 8) v) (by simp; omega) (by simp [le_length]; omega) (by omega)
    simp only [List.append_assoc, List.singleton_append, List.length_append, List.length_cons, List.length_nil, Nat.zero_add] at ih
    rw [ih]
    simp only [nums]

theorem rows_l12 {R : Type} (kf : Nat) (hkf : 9 ≤ kf) (vs : List Int) (p : Int) (K : Bool → Option R) (Ke : List Int → List (List Int) → Int → List Int → Option R) : ∀ (r pre : List (List Int)) (k : Nat) (acc : List Int), pre.length + r.length ≤ 20 → acc.length ≤ 160 + 102 * pre.length → r.length < k →
    law1_OctetRows_l12 kf k vs (pre ++ r) p (fun _ _ v _ _ => K v) Ke (pre.length : Int) acc = K true ∨
    ((∀ t ∈ r, t.length ≤ 100) ∧ law1_OctetRows_l12 kf k vs (pre ++ r) p (fun _ _ v _ _ => K v) Ke (pre.length : Int) acc = Ke vs (pre ++ r) p (acc ++ texts r))
  | r, pre, 0, acc, _, _, hk => by omega
  | [], pre, k + 1, acc, hl, ha, hk => by
    right
    refine ⟨fun t ht => (nomatch ht), ?_⟩
    have h1 : decide ((pre.length : Int) < (pre.length : Int)) = false := decide_eq_false (by omega)
    simp only [law1_OctetRows_l12, law1_OctetRows_l12_b, List.append_nil, h1, cond_false, texts]
  | t :: r, pre, k + 1, acc, hl, ha, hk => by
    have h1 : decide ((pre.length : Int) < ((pre ++ t :: r).length : Int)) = true := decide_eq_true (by simp; omega)
    have h0 : decide (0 ≤ (pre.length : Int)) = true := decide_eq_true (by omega)
    simp only [List.length_cons] at hl hk
    simp only [law1_OctetRows_l12, law1_OctetRows_l12_b, h1, h0, cond_true, gd]
    rw [getD_at]
    by_cases h2 : 100 < (t.length : Int)
    · left
      simp only [h2, decide_true, cond_true]
    · simp only [h2, decide_false, cond_false]
      rw [text_ok kf hkf acc t (by omega) (by omega), wrap_next _ (by omega)]
      have ih := rows_l12 kf hkf vs p K Ke r (pre ++ [t]) k (acc ++ le 2 (t.length : Int) ++ t) (by simp; omega) (by simp [le_length]; omega) (by omega)
      simp only [List.append_assoc, List.singleton_append, List.length_append, List.length_cons, List.length_nil, Nat.zero_add] at ih
      simp only [List.append_assoc]
      rcases ih with ih | ⟨ih1, ih2⟩
      · exact .inl ih
      · right
        refine ⟨?_, ?_⟩
        · intro x hx
          rcases List.mem_cons.1 hx with rfl | hx
          · omega
          · exact ih1 x hx
        · rw [ih2]
          simp only [texts, List.append_assoc]

theorem rows_l19 {R : Type} (kf : Nat) (ts : List (List Int)) (p : Int) (tail : List Int) (Kr : List (List Int) → Bool → Int → List Int → Option R) (Ke : List (List Int) → Int → List Int → Option R) :
    ∀ (r pre : List Int) (k : Nat) (b0 b : List Int), pre.length + r.length ≤ 20 → (∀ v ∈ r, 0 ≤ v ∧ v ≤ 18446744073709551615) → b0.length ≤ 8 * pre.length → b = b0 ++ (nums pre.length r ++ tail) → isB b → b.length ≤ 1048576 → r.length < k →
    law1_OctetRows_l19 kf k (pre ++ r) ts p b Kr Ke (b0.length : Int) (pre.length : Int) = Ke ts p b
  | r, pre, 0, b0, b, _, _, _, _, _, _, hk => by omega
  | [], pre, k + 1, b0, b, hl, hv, h0, hb, hB, hbl, hk => by
    have h1 : decide ((pre.length : Int) < (pre.length : Int)) = false := decide_eq_false (by omega)
    simp only [law1_OctetRows_l19, law1_OctetRows_l19_b, List.append_nil, h1, cond_false]
  | v :: r, pre, k + 1, b0, b, hl, hv, h0, hb, hB, hbl, hk => by
    have h1 : decide ((pre.length : Int) < ((pre ++ v :: r).length : Int)) = true := decide_eq_true (by simp; omega)
    have hp0 : decide (0 ≤ (pre.length : Int)) = true := decide_eq_true (by omega)
    simp only [List.length_cons] at hl hk
    obtain ⟨n, hn⟩ : ∃ n, n = 1 + pre.length % 8 := ⟨_, rfl⟩
    have hv0 := hv v (by simp)
    have hb' : b = b0 ++ (le n v ++ (nums (pre.length + 1) r ++ tail)) := by rw [hb, hn]; simp only [nums, List.append_assoc]
    have hbl' : b0.length + n ≤ b.length := by rw [hb', List.length_append, List.length_append, le_length]; omega
    have hd : (b.drop b0.length).take n = le n v := by
      rw [hb', List.drop_left, List.take_append_of_le_length (by rw [le_length]; omega), List.take_of_length_le (by rw [le_length]; omega)]
    have hnext : IntKind.i64.wrap ((b0.length : Int) + (n : Int)) = ((b0 ++ le n v).length : Int) := by
      rw [List.length_append, le_length, IntKind.wrap_i64]; omega
    have ih := rows_l19 kf ts p tail Kr Ke r (pre ++ [v]) k (b0 ++ le n v) b (by simp; omega) (fun x hx => hv x (by simp [hx])) (by rw [List.length_append, le_length, List.length_append]; simp; omega) (by rw [hb']; simp only [List.append_assoc, List.length_append, List.length_cons, List.length_nil, Nat.zero_add]) hB hbl (by omega)
    simp only [List.append_assoc, List.singleton_append] at ih
    have hpl : ((pre ++ [v]).length : Int) = ((pre.length + 1 : Nat) : Int) := by simp
    rw [hpl] at ih
    simp only [law1_OctetRows_l19, law1_OctetRows_l19_b, h1, hp0, cond_true, gd]
    rw [wrap_place _ (by omega), ← hn, take_ok b b0.length n (by omega) hB (by omega) hbl', hd, de_le n v hv0.1, getD_at, hnext, wrap_next _ (by omega)]
    by_cases h8 : (n : Int) < 8
    · have hn8 : n < 8 := by omega
      have hpos : (0 : Int) < ((256 ^ n : Nat) : Int) := by
        have := Nat.pow_pos (n := n) (show 0 < 256 by omega)
        omega
      have hw0 : IntKind.i64.wrap (mulZ 8 (n : Int)) = ((8 * n : Nat) : Int) := by
        have h1 : mulZ 8 (n : Int) = ((8 * n : Nat) : Int) := by unfold mulZ; rw [wall_eq]; omega
        rw [h1, IntKind.wrap_i64]; omega
      have g0 : decide (0 ≤ IntKind.i64.wrap (mulZ 8 (n : Int))) = true := decide_eq_true (by rw [hw0]; omega)
      have g1 : decide (((256 ^ n : Nat) : Int) ≠ 0) = true := decide_eq_true (by omega)
      have ht : Int.tmod v ((256 ^ n : Nat) : Int) = v % ((256 ^ n : Nat) : Int) := Int.tmod_eq_emod_of_nonneg hv0.1
      simp only [h8, decide_true, cond_true, g0, one_shl n hn8, g1, ht, Bool.not_true, cond_false]
      exact ih
    · have hn8 : n = 8 := by omega
      have he : v % ((256 ^ n : Nat) : Int) = v := by rw [hn8]; exact Int.emod_eq_of_lt hv0.1 (by show _ < (18446744073709551616 : Int); omega)
      simp only [h8, decide_false, cond_false, he, decide_true, Bool.not_true]
      exact ih

theorem rows_l30 {R : Type} (kf : Nat) (Kr : Bool → Int → List Int → Option R) (Ke : Int → List Int → Option R) :
    ∀ (r pre : List (List Int)) (k : Nat) (b0 b : List Int), pre.length + r.length ≤ 20 → (∀ t ∈ r, t.length ≤ 100 ∧ isB t) → b = b0 ++ texts r → isB b → b.length ≤ 1048576 → r.length < k →
    law1_OctetRows_l30 kf k (pre ++ r) b Kr Ke (b0.length : Int) (pre.length : Int) = Ke (b.length : Int) b
  | r, pre, 0, b0, b, _, _, _, _, _, hk => by omega
  | [], pre, k + 1, b0, b, hl, hv, hb, hB, hbl, hk => by
    have h1 : decide ((pre.length : Int) < (pre.length : Int)) = false := decide_eq_false (by omega)
    simp only [texts, List.append_nil] at hb
    subst hb
    simp only [law1_OctetRows_l30, law1_OctetRows_l30_b, List.append_nil, h1, cond_false]
  | t :: r, pre, k + 1, b0, b, hl, hv, hb, hB, hbl, hk => by
    have h1 : decide ((pre.length : Int) < ((pre ++ t :: r).length : Int)) = true := decide_eq_true (by simp; omega)
    have hp0 : decide (0 ≤ (pre.length : Int)) = true := decide_eq_true (by omega)
    simp only [List.length_cons] at hl hk
    have ht := hv t (by simp)
    have hb' : b = b0 ++ (le 2 (t.length : Int) ++ t ++ texts r) := by rw [hb]; simp only [texts]
    have hbl' : b0.length ≤ b.length := by rw [hb', List.length_append]; omega
    have hlen : b.length = b0.length + (2 + t.length + (texts r).length) := by rw [hb']; simp only [List.length_append, le_length]
    have hr : ∀ x ∈ r, x.length ≤ 100 ∧ isB x := fun x hx => hv x (by simp [hx])
    have hd : b.drop (Int.toNat (b0.length : Int)) = le 2 (t.length : Int) ++ t ++ texts r := by rw [Int.toNat_natCast, hb', List.drop_left]
    have hnext : IntKind.i64.wrap ((b0.length : Int) + (2 + (t.length : Int))) = ((b0 ++ (le 2 (t.length : Int) ++ t)).length : Int) := by
      rw [List.length_append, List.length_append, le_length, IntKind.wrap_i64]; omega
    have ih := rows_l30 kf Kr Ke r (pre ++ [t]) k (b0 ++ (le 2 (t.length : Int) ++ t)) b (by simp; omega) hr (by rw [hb']; simp only [List.append_assoc]) hB hbl (by omega)
    simp only [List.append_assoc, List.singleton_append] at ih
    have hpl : ((pre ++ [t]).length : Int) = ((pre.length + 1 : Nat) : Int) := by simp
    rw [hpl] at ih
    have g1 : decide (0 ≤ (b0.length : Int)) = true := decide_eq_true (by omega)
    have g2 : decide ((b0.length : Int) ≤ (b.length : Int)) = true := decide_eq_true (by omega)
    simp only [law1_OctetRows_l30, law1_OctetRows_l30_b, h1, hp0, g1, g2, cond_true, gd]
    rw [hd, takeText_back t (texts r) ht.2 (texts_isB r fun x hx => (hr x hx).2) (by omega) (by have := texts_len r fun x hx => (hr x hx).1; omega) 100 (by omega), getD_at, hnext, wrap_next _ (by omega)]
    simp only [decide_true, Bool.not_true, cond_false]
    exact ih

theorem rows_ok {R : Type} (kf : Nat) (hkf : 30 ≤ kf) (vs : List Int) (ts : List (List Int)) (hv : ∀ v ∈ vs, 0 ≤ v ∧ v ≤ 18446744073709551615) (ht : ∀ t ∈ ts, isB t) (K : Bool → Option R) : law1_OctetRows kf vs ts K = K true := by
  unfold law1_OctetRows law1_OctetRows_b
  rw [begun_ok kf (by omega)]
  simp only [Bool.not_true, cond_false]
  by_cases c1 : 20 < (vs.length : Int)
  · simp only [c1, decide_true, cond_true]
  by_cases c2 : 20 < (ts.length : Int)
  · simp only [c1, c2, decide_true, decide_false, cond_true, cond_false]
  simp only [c1, c2, decide_false, cond_false]
  have e7 : ∀ Ke : List Int → List (List Int) → List Int → Option R, law1_OctetRows_l7 kf kf vs ts Ke 0 [] = Ke vs ts (nums 0 vs) := by
    intro Ke
    have := rows_l7 (R := R) kf (by omega) ts Ke vs [] kf [] (by simp; omega) (by simp) (by omega)
    simpa using this
  have hn := nums_len 0 vs
  have e12 : ∀ Ke : List Int → List (List Int) → Int → List Int → Option R, law1_OctetRows_l12 kf kf vs ts ((nums 0 vs).length : Int) (fun _ _ v _ _ => K v) Ke 0 (nums 0 vs) = K true ∨
      ((∀ t ∈ ts, t.length ≤ 100) ∧ law1_OctetRows_l12 kf kf vs ts ((nums 0 vs).length : Int) (fun _ _ v _ _ => K v) Ke 0 (nums 0 vs) = Ke vs ts ((nums 0 vs).length : Int) (nums 0 vs ++ texts ts)) := by
    intro Ke
    have := rows_l12 (R := R) kf (by omega) vs ((nums 0 vs).length : Int) K Ke ts [] kf (nums 0 vs) (by simp; omega) (by simp; omega) (by omega)
    simpa using this
  rw [e7]
  rcases e12 _ with h | ⟨h1, h2⟩
  · exact h
  · refine h2.trans ?_
    have hlen : (nums 0 vs ++ texts ts).length ≤ 1048576 := by
      have := texts_len ts h1
      rw [List.length_append]; omega
    have hB : isB (nums 0 vs ++ texts ts) := isB_append (nums_isB 0 vs) (texts_isB ts ht)
    have e19 : ∀ (Kr : List (List Int) → Bool → Int → List Int → Option R) (Ke : List (List Int) → Int → List Int → Option R), law1_OctetRows_l19 kf kf vs ts ((nums 0 vs).length : Int) (nums 0 vs ++ texts ts) Kr Ke 0 0 = Ke ts ((nums 0 vs).length : Int) (nums 0 vs ++ texts ts) := by
      intro Kr Ke
      have := rows_l19 (R := R) kf ts ((nums 0 vs).length : Int) (texts ts) Kr Ke vs [] kf [] (nums 0 vs ++ texts ts) (by simp; omega) hv (by simp) (by simp) hB hlen (by omega)
      simpa using this
    have e30 : ∀ (Kr : Bool → Int → List Int → Option R) (Ke : Int → List Int → Option R), law1_OctetRows_l30 kf kf ts (nums 0 vs ++ texts ts) Kr Ke ((nums 0 vs).length : Int) 0 = Ke ((nums 0 vs ++ texts ts).length : Int) (nums 0 vs ++ texts ts) := by
      intro Kr Ke
      have := rows_l30 (R := R) kf Kr Ke ts [] kf (nums 0 vs) (nums 0 vs ++ texts ts) (by simp; omega) (fun t htt => ⟨h1 t htt, ht t htt⟩) rfl hB hlen (by omega)
      simpa using this
    rw [e19, e30]
    simp
end Go.Ab.T
