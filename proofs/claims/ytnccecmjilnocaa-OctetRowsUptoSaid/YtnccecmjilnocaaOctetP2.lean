/- Numbers are read, whatever their size. -/
import Derived.Test.YtnccecmjilnocaaOctetP
namespace Go.Ab.T
open Go Go.Ab
set_option linter.unusedVariables false
set_option linter.unusedSimpArgs false

theorem or0 (a z x : Int) (ha : a = 256 * z) (hz : 0 ≤ z ∧ z < 72057594037927936) (hx : 0 ≤ x ∧ x ≤ 255) : bvop .u64 .or a x = 1 * (x + 256 * z) := by
  have pm : (2 : Int) ^ 8 = 256 := by decide
  rw [or_add a x 8 (by omega) z (by rw [pm]; exact ha) hz.1 (by omega) (by omega) (by rw [pm]; omega)]
  omega
theorem or1 (a z x : Int) (ha : a = 65536 * z) (hz : 0 ≤ z ∧ z < 281474976710656) (hx : 0 ≤ x ∧ x ≤ 255) : bvop .u64 .or a (shl .u64 x 8) = 256 * (x + 256 * z) := by
  have pd : (2 : Int) ^ 8 = 256 := by decide
  have hs : shl .u64 x 8 = x * 256 := by
    have := shl_ok x 8 (by omega) hx.1 (by rw [pd]; omega)
    rw [pd] at this; exact this
  rw [hs]
  have pm : (2 : Int) ^ 16 = 65536 := by decide
  rw [or_add a (x * 256) 16 (by omega) z (by rw [pm]; exact ha) hz.1 (by omega) (by omega) (by rw [pm]; omega)]
  omega
theorem or2 (a z x : Int) (ha : a = 16777216 * z) (hz : 0 ≤ z ∧ z < 1099511627776) (hx : 0 ≤ x ∧ x ≤ 255) : bvop .u64 .or a (shl .u64 x 16) = 65536 * (x + 256 * z) := by
  have pd : (2 : Int) ^ 16 = 65536 := by decide
  have hs : shl .u64 x 16 = x * 65536 := by
    have := shl_ok x 16 (by omega) hx.1 (by rw [pd]; omega)
    rw [pd] at this; exact this
  rw [hs]
  have pm : (2 : Int) ^ 24 = 16777216 := by decide
  rw [or_add a (x * 65536) 24 (by omega) z (by rw [pm]; exact ha) hz.1 (by omega) (by omega) (by rw [pm]; omega)]
  omega
theorem or3 (a z x : Int) (ha : a = 4294967296 * z) (hz : 0 ≤ z ∧ z < 4294967296) (hx : 0 ≤ x ∧ x ≤ 255) : bvop .u64 .or a (shl .u64 x 24) = 16777216 * (x + 256 * z) := by
  have pd : (2 : Int) ^ 24 = 16777216 := by decide
  have hs : shl .u64 x 24 = x * 16777216 := by
    have := shl_ok x 24 (by omega) hx.1 (by rw [pd]; omega)
    rw [pd] at this; exact this
  rw [hs]
  have pm : (2 : Int) ^ 32 = 4294967296 := by decide
  rw [or_add a (x * 16777216) 32 (by omega) z (by rw [pm]; exact ha) hz.1 (by omega) (by omega) (by rw [pm]; omega)]
  omega
theorem or4 (a z x : Int) (ha : a = 1099511627776 * z) (hz : 0 ≤ z ∧ z < 16777216) (hx : 0 ≤ x ∧ x ≤ 255) : bvop .u64 .or a (shl .u64 x 32) = 4294967296 * (x + 256 * z) := by
  have pd : (2 : Int) ^ 32 = 4294967296 := by decide
  have hs : shl .u64 x 32 = x * 4294967296 := by
    have := shl_ok x 32 (by omega) hx.1 (by rw [pd]; omega)
    rw [pd] at this; exact this
  rw [hs]
  have pm : (2 : Int) ^ 40 = 1099511627776 := by decide
  rw [or_add a (x * 4294967296) 40 (by omega) z (by rw [pm]; exact ha) hz.1 (by omega) (by omega) (by rw [pm]; omega)]
  omega
theorem or5 (a z x : Int) (ha : a = 281474976710656 * z) (hz : 0 ≤ z ∧ z < 65536) (hx : 0 ≤ x ∧ x ≤ 255) : bvop .u64 .or a (shl .u64 x 40) = 1099511627776 * (x + 256 * z) := by
  have pd : (2 : Int) ^ 40 = 1099511627776 := by decide
  have hs : shl .u64 x 40 = x * 1099511627776 := by
    have := shl_ok x 40 (by omega) hx.1 (by rw [pd]; omega)
    rw [pd] at this; exact this
  rw [hs]
  have pm : (2 : Int) ^ 48 = 281474976710656 := by decide
  rw [or_add a (x * 1099511627776) 48 (by omega) z (by rw [pm]; exact ha) hz.1 (by omega) (by omega) (by rw [pm]; omega)]
  omega
theorem or6 (a z x : Int) (ha : a = 72057594037927936 * z) (hz : 0 ≤ z ∧ z < 256) (hx : 0 ≤ x ∧ x ≤ 255) : bvop .u64 .or a (shl .u64 x 48) = 281474976710656 * (x + 256 * z) := by
  have pd : (2 : Int) ^ 48 = 281474976710656 := by decide
  have hs : shl .u64 x 48 = x * 281474976710656 := by
    have := shl_ok x 48 (by omega) hx.1 (by rw [pd]; omega)
    rw [pd] at this; exact this
  rw [hs]
  have pm : (2 : Int) ^ 56 = 72057594037927936 := by decide
  rw [or_add a (x * 281474976710656) 56 (by omega) z (by rw [pm]; exact ha) hz.1 (by omega) (by omega) (by rw [pm]; omega)]
  omega
theorem shl7 (x : Int) (hx : 0 ≤ x ∧ x ≤ 255) : shl .u64 x 56 = 72057594037927936 * x := by
  have pd : (2 : Int) ^ 56 = 72057594037927936 := by decide
  have := shl_ok x 56 (by omega) hx.1 (by rw [pd]; omega)
  rw [pd] at this
  rw [show (56 : Int) = ((56 : Nat) : Int) from rfl, this]; omega
theorem take_0 {R : Type} (b : List Int) (p : Nat) (hb : isB b) (hl : b.length ≤ 1048576 * 16) (h : p + 0 ≤ b.length) (K : Int → Int → Option R) : octet_Take b p 0 K = K (de ((b.drop p).take 0)) 0 := by
  have hw : IntKind.i64.wrap ((p : Int) + 0) = (p : Int) + 0 := by rw [IntKind.wrap_i64]; omega
  have a1 : decide ((p : Int) < 0) = false := decide_eq_false (by omega)
  have a2 : decide ((b.length : Int) < (p : Int)) = false := decide_eq_false (by omega)
  have a3 : decide (IntKind.i64.wrap ((b.length : Int) - (p : Int)) < 0) = false := decide_eq_false (by rw [IntKind.wrap_i64]; omega)
  have g1 : decide (0 ≤ (p : Int) + 0) = true := decide_eq_true (by omega)
  have g2 : decide ((p : Int) + 0 ≤ (b.length : Int)) = true := decide_eq_true (by omega)
  have g3 : decide ((p : Int) + 0 ≤ (p : Int) + 0) = true := decide_eq_true (by omega)
  have g4 : decide (0 ≤ (p : Int)) = true := decide_eq_true (by omega)
  have g5 : decide ((p : Int) ≤ (p : Int) + 0) = true := decide_eq_true (by omega)
  have t1 : Int.toNat ((p : Int) + 0) - p = 0 := by omega
  have t2 : Int.toNat (p : Int) = p := by omega
  obtain ⟨l, hll⟩ : ∃ l, l = (b.drop p).take 0 := ⟨_, rfl⟩
  have hlen : l.length = 0 := by rw [hll, List.length_take, List.length_drop]; omega
  have hB : isB l := by intro x hx; rw [hll] at hx; exact hb x (List.mem_of_mem_drop (List.mem_of_mem_take hx))
  unfold octet_Take octet_Take_b
  simp only [a1, a2, a3, hw, g1, g2, g3, g4, g5, gd, t1, t2, ← hll, cond_true, cond_false, show decide ((0 : Int) < 0) = false from rfl, show decide ((8 : Int) < 0) = false from rfl]
  match l, hlen with
  | [], _ =>
    rfl
theorem take_1 {R : Type} (b : List Int) (p : Nat) (hb : isB b) (hl : b.length ≤ 1048576 * 16) (h : p + 1 ≤ b.length) (K : Int → Int → Option R) : octet_Take b p 1 K = K (de ((b.drop p).take 1)) 0 := by
  have hw : IntKind.i64.wrap ((p : Int) + 1) = (p : Int) + 1 := by rw [IntKind.wrap_i64]; omega
  have a1 : decide ((p : Int) < 0) = false := decide_eq_false (by omega)
  have a2 : decide ((b.length : Int) < (p : Int)) = false := decide_eq_false (by omega)
  have a3 : decide (IntKind.i64.wrap ((b.length : Int) - (p : Int)) < 1) = false := decide_eq_false (by rw [IntKind.wrap_i64]; omega)
  have g1 : decide (0 ≤ (p : Int) + 1) = true := decide_eq_true (by omega)
  have g2 : decide ((p : Int) + 1 ≤ (b.length : Int)) = true := decide_eq_true (by omega)
  have g3 : decide ((p : Int) + 1 ≤ (p : Int) + 1) = true := decide_eq_true (by omega)
  have g4 : decide (0 ≤ (p : Int)) = true := decide_eq_true (by omega)
  have g5 : decide ((p : Int) ≤ (p : Int) + 1) = true := decide_eq_true (by omega)
  have t1 : Int.toNat ((p : Int) + 1) - p = 1 := by omega
  have t2 : Int.toNat (p : Int) = p := by omega
  obtain ⟨l, hll⟩ : ∃ l, l = (b.drop p).take 1 := ⟨_, rfl⟩
  have hlen : l.length = 1 := by rw [hll, List.length_take, List.length_drop]; omega
  have hB : isB l := by intro x hx; rw [hll] at hx; exact hb x (List.mem_of_mem_drop (List.mem_of_mem_take hx))
  unfold octet_Take octet_Take_b
  simp only [a1, a2, a3, hw, g1, g2, g3, g4, g5, gd, t1, t2, ← hll, cond_true, cond_false, show decide ((1 : Int) < 0) = false from rfl, show decide ((8 : Int) < 1) = false from rfl]
  match l, hlen, hB with
  | [x0], _, hB =>
    have b0 := hB x0 (by simp)
    have w0 : IntKind.u64.wrap x0 = x0 := by rw [IntKind.wrap_u64]; omega
    simp only [show decide ((1 : Int) = 8) = false from rfl, show decide ((1 : Int) = 7) = false from rfl, show decide ((1 : Int) = 6) = false from rfl, show decide ((1 : Int) = 5) = false from rfl, show decide ((1 : Int) = 4) = false from rfl, show decide ((1 : Int) = 3) = false from rfl, show decide ((1 : Int) = 2) = false from rfl, show decide ((1 : Int) = 1) = true from rfl, show decide ((0 : Int) < (([x0] : List Int).length : Int)) = true from rfl, show ([x0] : List Int).getD 0 0 = x0 from rfl, w0, cond_true, cond_false, decide_true]
    rw [or0 0 (0) x0 (by omega) (by omega) b0]
    congr 1
    simp only [de]
    omega
theorem take_2 {R : Type} (b : List Int) (p : Nat) (hb : isB b) (hl : b.length ≤ 1048576 * 16) (h : p + 2 ≤ b.length) (K : Int → Int → Option R) : octet_Take b p 2 K = K (de ((b.drop p).take 2)) 0 := by
  have hw : IntKind.i64.wrap ((p : Int) + 2) = (p : Int) + 2 := by rw [IntKind.wrap_i64]; omega
  have a1 : decide ((p : Int) < 0) = false := decide_eq_false (by omega)
  have a2 : decide ((b.length : Int) < (p : Int)) = false := decide_eq_false (by omega)
  have a3 : decide (IntKind.i64.wrap ((b.length : Int) - (p : Int)) < 2) = false := decide_eq_false (by rw [IntKind.wrap_i64]; omega)
  have g1 : decide (0 ≤ (p : Int) + 2) = true := decide_eq_true (by omega)
  have g2 : decide ((p : Int) + 2 ≤ (b.length : Int)) = true := decide_eq_true (by omega)
  have g3 : decide ((p : Int) + 2 ≤ (p : Int) + 2) = true := decide_eq_true (by omega)
  have g4 : decide (0 ≤ (p : Int)) = true := decide_eq_true (by omega)
  have g5 : decide ((p : Int) ≤ (p : Int) + 2) = true := decide_eq_true (by omega)
  have t1 : Int.toNat ((p : Int) + 2) - p = 2 := by omega
  have t2 : Int.toNat (p : Int) = p := by omega
  obtain ⟨l, hll⟩ : ∃ l, l = (b.drop p).take 2 := ⟨_, rfl⟩
  have hlen : l.length = 2 := by rw [hll, List.length_take, List.length_drop]; omega
  have hB : isB l := by intro x hx; rw [hll] at hx; exact hb x (List.mem_of_mem_drop (List.mem_of_mem_take hx))
  unfold octet_Take octet_Take_b
  simp only [a1, a2, a3, hw, g1, g2, g3, g4, g5, gd, t1, t2, ← hll, cond_true, cond_false, show decide ((2 : Int) < 0) = false from rfl, show decide ((8 : Int) < 2) = false from rfl]
  match l, hlen, hB with
  | [x0, x1], _, hB =>
    have b0 := hB x0 (by simp)
    have w0 : IntKind.u64.wrap x0 = x0 := by rw [IntKind.wrap_u64]; omega
    have b1 := hB x1 (by simp)
    have w1 : IntKind.u64.wrap x1 = x1 := by rw [IntKind.wrap_u64]; omega
    simp only [show decide ((2 : Int) = 8) = false from rfl, show decide ((2 : Int) = 7) = false from rfl, show decide ((2 : Int) = 6) = false from rfl, show decide ((2 : Int) = 5) = false from rfl, show decide ((2 : Int) = 4) = false from rfl, show decide ((2 : Int) = 3) = false from rfl, show decide ((2 : Int) = 2) = true from rfl, show decide ((2 : Int) = 1) = false from rfl, show decide ((0 : Int) < (([x0, x1] : List Int).length : Int)) = true from rfl, show decide ((1 : Int) < (([x0, x1] : List Int).length : Int)) = true from rfl, show ([x0, x1] : List Int).getD 0 0 = x0 from rfl, show ([x0, x1] : List Int).getD 1 0 = x1 from rfl, w0, w1, cond_true, cond_false, decide_true]
    rw [or1 0 (0) x1 (by omega) (by omega) b1]
    rw [or0 (256 * (x1 + 256 * (0))) (x1 + 256 * (0)) x0 (by omega) (by omega) b0]
    congr 1
    simp only [de]
    omega
theorem take_3 {R : Type} (b : List Int) (p : Nat) (hb : isB b) (hl : b.length ≤ 1048576 * 16) (h : p + 3 ≤ b.length) (K : Int → Int → Option R) : octet_Take b p 3 K = K (de ((b.drop p).take 3)) 0 := by
  have hw : IntKind.i64.wrap ((p : Int) + 3) = (p : Int) + 3 := by rw [IntKind.wrap_i64]; omega
  have a1 : decide ((p : Int) < 0) = false := decide_eq_false (by omega)
  have a2 : decide ((b.length : Int) < (p : Int)) = false := decide_eq_false (by omega)
  have a3 : decide (IntKind.i64.wrap ((b.length : Int) - (p : Int)) < 3) = false := decide_eq_false (by rw [IntKind.wrap_i64]; omega)
  have g1 : decide (0 ≤ (p : Int) + 3) = true := decide_eq_true (by omega)
  have g2 : decide ((p : Int) + 3 ≤ (b.length : Int)) = true := decide_eq_true (by omega)
  have g3 : decide ((p : Int) + 3 ≤ (p : Int) + 3) = true := decide_eq_true (by omega)
  have g4 : decide (0 ≤ (p : Int)) = true := decide_eq_true (by omega)
  have g5 : decide ((p : Int) ≤ (p : Int) + 3) = true := decide_eq_true (by omega)
  have t1 : Int.toNat ((p : Int) + 3) - p = 3 := by omega
  have t2 : Int.toNat (p : Int) = p := by omega
  obtain ⟨l, hll⟩ : ∃ l, l = (b.drop p).take 3 := ⟨_, rfl⟩
  have hlen : l.length = 3 := by rw [hll, List.length_take, List.length_drop]; omega
  have hB : isB l := by intro x hx; rw [hll] at hx; exact hb x (List.mem_of_mem_drop (List.mem_of_mem_take hx))
  unfold octet_Take octet_Take_b
  simp only [a1, a2, a3, hw, g1, g2, g3, g4, g5, gd, t1, t2, ← hll, cond_true, cond_false, show decide ((3 : Int) < 0) = false from rfl, show decide ((8 : Int) < 3) = false from rfl]
  match l, hlen, hB with
  | [x0, x1, x2], _, hB =>
    have b0 := hB x0 (by simp)
    have w0 : IntKind.u64.wrap x0 = x0 := by rw [IntKind.wrap_u64]; omega
    have b1 := hB x1 (by simp)
    have w1 : IntKind.u64.wrap x1 = x1 := by rw [IntKind.wrap_u64]; omega
    have b2 := hB x2 (by simp)
    have w2 : IntKind.u64.wrap x2 = x2 := by rw [IntKind.wrap_u64]; omega
    simp only [show decide ((3 : Int) = 8) = false from rfl, show decide ((3 : Int) = 7) = false from rfl, show decide ((3 : Int) = 6) = false from rfl, show decide ((3 : Int) = 5) = false from rfl, show decide ((3 : Int) = 4) = false from rfl, show decide ((3 : Int) = 3) = true from rfl, show decide ((3 : Int) = 2) = false from rfl, show decide ((3 : Int) = 1) = false from rfl, show decide ((0 : Int) < (([x0, x1, x2] : List Int).length : Int)) = true from rfl, show decide ((1 : Int) < (([x0, x1, x2] : List Int).length : Int)) = true from rfl, show decide ((2 : Int) < (([x0, x1, x2] : List Int).length : Int)) = true from rfl, show ([x0, x1, x2] : List Int).getD 0 0 = x0 from rfl, show ([x0, x1, x2] : List Int).getD 1 0 = x1 from rfl, show ([x0, x1, x2] : List Int).getD 2 0 = x2 from rfl, w0, w1, w2, cond_true, cond_false, decide_true]
    rw [or2 0 (0) x2 (by omega) (by omega) b2]
    rw [or1 (65536 * (x2 + 256 * (0))) (x2 + 256 * (0)) x1 (by omega) (by omega) b1]
    rw [or0 (256 * (x1 + 256 * (x2 + 256 * (0)))) (x1 + 256 * (x2 + 256 * (0))) x0 (by omega) (by omega) b0]
    congr 1
    simp only [de]
    omega
theorem take_4 {R : Type} (b : List Int) (p : Nat) (hb : isB b) (hl : b.length ≤ 1048576 * 16) (h : p + 4 ≤ b.length) (K : Int → Int → Option R) : octet_Take b p 4 K = K (de ((b.drop p).take 4)) 0 := by
  have hw : IntKind.i64.wrap ((p : Int) + 4) = (p : Int) + 4 := by rw [IntKind.wrap_i64]; omega
  have a1 : decide ((p : Int) < 0) = false := decide_eq_false (by omega)
  have a2 : decide ((b.length : Int) < (p : Int)) = false := decide_eq_false (by omega)
  have a3 : decide (IntKind.i64.wrap ((b.length : Int) - (p : Int)) < 4) = false := decide_eq_false (by rw [IntKind.wrap_i64]; omega)
  have g1 : decide (0 ≤ (p : Int) + 4) = true := decide_eq_true (by omega)
  have g2 : decide ((p : Int) + 4 ≤ (b.length : Int)) = true := decide_eq_true (by omega)
  have g3 : decide ((p : Int) + 4 ≤ (p : Int) + 4) = true := decide_eq_true (by omega)
  have g4 : decide (0 ≤ (p : Int)) = true := decide_eq_true (by omega)
  have g5 : decide ((p : Int) ≤ (p : Int) + 4) = true := decide_eq_true (by omega)
  have t1 : Int.toNat ((p : Int) + 4) - p = 4 := by omega
  have t2 : Int.toNat (p : Int) = p := by omega
  obtain ⟨l, hll⟩ : ∃ l, l = (b.drop p).take 4 := ⟨_, rfl⟩
  have hlen : l.length = 4 := by rw [hll, List.length_take, List.length_drop]; omega
  have hB : isB l := by intro x hx; rw [hll] at hx; exact hb x (List.mem_of_mem_drop (List.mem_of_mem_take hx))
  unfold octet_Take octet_Take_b
  simp only [a1, a2, a3, hw, g1, g2, g3, g4, g5, gd, t1, t2, ← hll, cond_true, cond_false, show decide ((4 : Int) < 0) = false from rfl, show decide ((8 : Int) < 4) = false from rfl]
  match l, hlen, hB with
  | [x0, x1, x2, x3], _, hB =>
    have b0 := hB x0 (by simp)
    have w0 : IntKind.u64.wrap x0 = x0 := by rw [IntKind.wrap_u64]; omega
    have b1 := hB x1 (by simp)
    have w1 : IntKind.u64.wrap x1 = x1 := by rw [IntKind.wrap_u64]; omega
    have b2 := hB x2 (by simp)
    have w2 : IntKind.u64.wrap x2 = x2 := by rw [IntKind.wrap_u64]; omega
    have b3 := hB x3 (by simp)
    have w3 : IntKind.u64.wrap x3 = x3 := by rw [IntKind.wrap_u64]; omega
    simp only [show decide ((4 : Int) = 8) = false from rfl, show decide ((4 : Int) = 7) = false from rfl, show decide ((4 : Int) = 6) = false from rfl, show decide ((4 : Int) = 5) = false from rfl, show decide ((4 : Int) = 4) = true from rfl, show decide ((4 : Int) = 3) = false from rfl, show decide ((4 : Int) = 2) = false from rfl, show decide ((4 : Int) = 1) = false from rfl, show decide ((0 : Int) < (([x0, x1, x2, x3] : List Int).length : Int)) = true from rfl, show decide ((1 : Int) < (([x0, x1, x2, x3] : List Int).length : Int)) = true from rfl, show decide ((2 : Int) < (([x0, x1, x2, x3] : List Int).length : Int)) = true from rfl, show decide ((3 : Int) < (([x0, x1, x2, x3] : List Int).length : Int)) = true from rfl, show ([x0, x1, x2, x3] : List Int).getD 0 0 = x0 from rfl, show ([x0, x1, x2, x3] : List Int).getD 1 0 = x1 from rfl, show ([x0, x1, x2, x3] : List Int).getD 2 0 = x2 from rfl, show ([x0, x1, x2, x3] : List Int).getD 3 0 = x3 from rfl, w0, w1, w2, w3, cond_true, cond_false, decide_true]
    rw [or3 0 (0) x3 (by omega) (by omega) b3]
    rw [or2 (16777216 * (x3 + 256 * (0))) (x3 + 256 * (0)) x2 (by omega) (by omega) b2]
    rw [or1 (65536 * (x2 + 256 * (x3 + 256 * (0)))) (x2 + 256 * (x3 + 256 * (0))) x1 (by omega) (by omega) b1]
    rw [or0 (256 * (x1 + 256 * (x2 + 256 * (x3 + 256 * (0))))) (x1 + 256 * (x2 + 256 * (x3 + 256 * (0)))) x0 (by omega) (by omega) b0]
    congr 1
    simp only [de]
    omega
theorem take_5 {R : Type} (b : List Int) (p : Nat) (hb : isB b) (hl : b.length ≤ 1048576 * 16) (h : p + 5 ≤ b.length) (K : Int → Int → Option R) : octet_Take b p 5 K = K (de ((b.drop p).take 5)) 0 := by
  have hw : IntKind.i64.wrap ((p : Int) + 5) = (p : Int) + 5 := by rw [IntKind.wrap_i64]; omega
  have a1 : decide ((p : Int) < 0) = false := decide_eq_false (by omega)
  have a2 : decide ((b.length : Int) < (p : Int)) = false := decide_eq_false (by omega)
  have a3 : decide (IntKind.i64.wrap ((b.length : Int) - (p : Int)) < 5) = false := decide_eq_false (by rw [IntKind.wrap_i64]; omega)
  have g1 : decide (0 ≤ (p : Int) + 5) = true := decide_eq_true (by omega)
  have g2 : decide ((p : Int) + 5 ≤ (b.length : Int)) = true := decide_eq_true (by omega)
  have g3 : decide ((p : Int) + 5 ≤ (p : Int) + 5) = true := decide_eq_true (by omega)
  have g4 : decide (0 ≤ (p : Int)) = true := decide_eq_true (by omega)
  have g5 : decide ((p : Int) ≤ (p : Int) + 5) = true := decide_eq_true (by omega)
  have t1 : Int.toNat ((p : Int) + 5) - p = 5 := by omega
  have t2 : Int.toNat (p : Int) = p := by omega
  obtain ⟨l, hll⟩ : ∃ l, l = (b.drop p).take 5 := ⟨_, rfl⟩
  have hlen : l.length = 5 := by rw [hll, List.length_take, List.length_drop]; omega
  have hB : isB l := by intro x hx; rw [hll] at hx; exact hb x (List.mem_of_mem_drop (List.mem_of_mem_take hx))
  unfold octet_Take octet_Take_b
  simp only [a1, a2, a3, hw, g1, g2, g3, g4, g5, gd, t1, t2, ← hll, cond_true, cond_false, show decide ((5 : Int) < 0) = false from rfl, show decide ((8 : Int) < 5) = false from rfl]
  match l, hlen, hB with
  | [x0, x1, x2, x3, x4], _, hB =>
    have b0 := hB x0 (by simp)
    have w0 : IntKind.u64.wrap x0 = x0 := by rw [IntKind.wrap_u64]; omega
    have b1 := hB x1 (by simp)
    have w1 : IntKind.u64.wrap x1 = x1 := by rw [IntKind.wrap_u64]; omega
    have b2 := hB x2 (by simp)
    have w2 : IntKind.u64.wrap x2 = x2 := by rw [IntKind.wrap_u64]; omega
    have b3 := hB x3 (by simp)
    have w3 : IntKind.u64.wrap x3 = x3 := by rw [IntKind.wrap_u64]; omega
    have b4 := hB x4 (by simp)
    have w4 : IntKind.u64.wrap x4 = x4 := by rw [IntKind.wrap_u64]; omega
    simp only [show decide ((5 : Int) = 8) = false from rfl, show decide ((5 : Int) = 7) = false from rfl, show decide ((5 : Int) = 6) = false from rfl, show decide ((5 : Int) = 5) = true from rfl, show decide ((5 : Int) = 4) = false from rfl, show decide ((5 : Int) = 3) = false from rfl, show decide ((5 : Int) = 2) = false from rfl, show decide ((5 : Int) = 1) = false from rfl, show decide ((0 : Int) < (([x0, x1, x2, x3, x4] : List Int).length : Int)) = true from rfl, show decide ((1 : Int) < (([x0, x1, x2, x3, x4] : List Int).length : Int)) = true from rfl, show decide ((2 : Int) < (([x0, x1, x2, x3, x4] : List Int).length : Int)) = true from rfl, show decide ((3 : Int) < (([x0, x1, x2, x3, x4] : List Int).length : Int)) = true from rfl, show decide ((4 : Int) < (([x0, x1, x2, x3, x4] : List Int).length : Int)) = true from rfl, show ([x0, x1, x2, x3, x4] : List Int).getD 0 0 = x0 from rfl, show ([x0, x1, x2, x3, x4] : List Int).getD 1 0 = x1 from rfl, show ([x0, x1, x2, x3, x4] : List Int).getD 2 0 = x2 from rfl, show ([x0, x1, x2, x3, x4] : List Int).getD 3 0 = x3 from rfl, show ([x0, x1, x2, x3, x4] : List Int).getD 4 0 = x4 from rfl, w0, w1, w2, w3, w4, cond_true, cond_false, decide_true]
    rw [or4 0 (0) x4 (by omega) (by omega) b4]
    rw [or3 (4294967296 * (x4 + 256 * (0))) (x4 + 256 * (0)) x3 (by omega) (by omega) b3]
    rw [or2 (16777216 * (x3 + 256 * (x4 + 256 * (0)))) (x3 + 256 * (x4 + 256 * (0))) x2 (by omega) (by omega) b2]
    rw [or1 (65536 * (x2 + 256 * (x3 + 256 * (x4 + 256 * (0))))) (x2 + 256 * (x3 + 256 * (x4 + 256 * (0)))) x1 (by omega) (by omega) b1]
    rw [or0 (256 * (x1 + 256 * (x2 + 256 * (x3 + 256 * (x4 + 256 * (0)))))) (x1 + 256 * (x2 + 256 * (x3 + 256 * (x4 + 256 * (0))))) x0 (by omega) (by omega) b0]
    congr 1
    simp only [de]
    omega
theorem take_6 {R : Type} (b : List Int) (p : Nat) (hb : isB b) (hl : b.length ≤ 1048576 * 16) (h : p + 6 ≤ b.length) (K : Int → Int → Option R) : octet_Take b p 6 K = K (de ((b.drop p).take 6)) 0 := by
  have hw : IntKind.i64.wrap ((p : Int) + 6) = (p : Int) + 6 := by rw [IntKind.wrap_i64]; omega
  have a1 : decide ((p : Int) < 0) = false := decide_eq_false (by omega)
  have a2 : decide ((b.length : Int) < (p : Int)) = false := decide_eq_false (by omega)
  have a3 : decide (IntKind.i64.wrap ((b.length : Int) - (p : Int)) < 6) = false := decide_eq_false (by rw [IntKind.wrap_i64]; omega)
  have g1 : decide (0 ≤ (p : Int) + 6) = true := decide_eq_true (by omega)
  have g2 : decide ((p : Int) + 6 ≤ (b.length : Int)) = true := decide_eq_true (by omega)
  have g3 : decide ((p : Int) + 6 ≤ (p : Int) + 6) = true := decide_eq_true (by omega)
  have g4 : decide (0 ≤ (p : Int)) = true := decide_eq_true (by omega)
  have g5 : decide ((p : Int) ≤ (p : Int) + 6) = true := decide_eq_true (by omega)
  have t1 : Int.toNat ((p : Int) + 6) - p = 6 := by omega
  have t2 : Int.toNat (p : Int) = p := by omega
  obtain ⟨l, hll⟩ : ∃ l, l = (b.drop p).take 6 := ⟨_, rfl⟩
  have hlen : l.length = 6 := by rw [hll, List.length_take, List.length_drop]; omega
  have hB : isB l := by intro x hx; rw [hll] at hx; exact hb x (List.mem_of_mem_drop (List.mem_of_mem_take hx))
  unfold octet_Take octet_Take_b
  simp only [a1, a2, a3, hw, g1, g2, g3, g4, g5, gd, t1, t2, ← hll, cond_true, cond_false, show decide ((6 : Int) < 0) = false from rfl, show decide ((8 : Int) < 6) = false from rfl]
  match l, hlen, hB with
  | [x0, x1, x2, x3, x4, x5], _, hB =>
    have b0 := hB x0 (by simp)
    have w0 : IntKind.u64.wrap x0 = x0 := by rw [IntKind.wrap_u64]; omega
    have b1 := hB x1 (by simp)
    have w1 : IntKind.u64.wrap x1 = x1 := by rw [IntKind.wrap_u64]; omega
    have b2 := hB x2 (by simp)
    have w2 : IntKind.u64.wrap x2 = x2 := by rw [IntKind.wrap_u64]; omega
    have b3 := hB x3 (by simp)
    have w3 : IntKind.u64.wrap x3 = x3 := by rw [IntKind.wrap_u64]; omega
    have b4 := hB x4 (by simp)
    have w4 : IntKind.u64.wrap x4 = x4 := by rw [IntKind.wrap_u64]; omega
    have b5 := hB x5 (by simp)
    have w5 : IntKind.u64.wrap x5 = x5 := by rw [IntKind.wrap_u64]; omega
    simp only [show decide ((6 : Int) = 8) = false from rfl, show decide ((6 : Int) = 7) = false from rfl, show decide ((6 : Int) = 6) = true from rfl, show decide ((6 : Int) = 5) = false from rfl, show decide ((6 : Int) = 4) = false from rfl, show decide ((6 : Int) = 3) = false from rfl, show decide ((6 : Int) = 2) = false from rfl, show decide ((6 : Int) = 1) = false from rfl, show decide ((0 : Int) < (([x0, x1, x2, x3, x4, x5] : List Int).length : Int)) = true from rfl, show decide ((1 : Int) < (([x0, x1, x2, x3, x4, x5] : List Int).length : Int)) = true from rfl, show decide ((2 : Int) < (([x0, x1, x2, x3, x4, x5] : List Int).length : Int)) = true from rfl, show decide ((3 : Int) < (([x0, x1, x2, x3, x4, x5] : List Int).length : Int)) = true from rfl, show decide ((4 : Int) < (([x0, x1, x2, x3, x4, x5] : List Int).length : Int)) = true from rfl, show decide ((5 : Int) < (([x0, x1, x2, x3, x4, x5] : List Int).length : Int)) = true from rfl, show ([x0, x1, x2, x3, x4, x5] : List Int).getD 0 0 = x0 from rfl, show ([x0, x1, x2, x3, x4, x5] : List Int).getD 1 0 = x1 from rfl, show ([x0, x1, x2, x3, x4, x5] : List Int).getD 2 0 = x2 from rfl, show ([x0, x1, x2, x3, x4, x5] : List Int).getD 3 0 = x3 from rfl, show ([x0, x1, x2, x3, x4, x5] : List Int).getD 4 0 = x4 from rfl, show ([x0, x1, x2, x3, x4, x5] : List Int).getD 5 0 = x5 from rfl, w0, w1, w2, w3, w4, w5, cond_true, cond_false, decide_true]
    rw [or5 0 (0) x5 (by omega) (by omega) b5]
    rw [or4 (1099511627776 * (x5 + 256 * (0))) (x5 + 256 * (0)) x4 (by omega) (by omega) b4]
    rw [or3 (4294967296 * (x4 + 256 * (x5 + 256 * (0)))) (x4 + 256 * (x5 + 256 * (0))) x3 (by omega) (by omega) b3]
    rw [or2 (16777216 * (x3 + 256 * (x4 + 256 * (x5 + 256 * (0))))) (x3 + 256 * (x4 + 256 * (x5 + 256 * (0)))) x2 (by omega) (by omega) b2]
    rw [or1 (65536 * (x2 + 256 * (x3 + 256 * (x4 + 256 * (x5 + 256 * (0)))))) (x2 + 256 * (x3 + 256 * (x4 + 256 * (x5 + 256 * (0))))) x1 (by omega) (by omega) b1]
    rw [or0 (256 * (x1 + 256 * (x2 + 256 * (x3 + 256 * (x4 + 256 * (x5 + 256 * (0))))))) (x1 + 256 * (x2 + 256 * (x3 + 256 * (x4 + 256 * (x5 + 256 * (0)))))) x0 (by omega) (by omega) b0]
    congr 1
    simp only [de]
    omega
theorem take_7 {R : Type} (b : List Int) (p : Nat) (hb : isB b) (hl : b.length ≤ 1048576 * 16) (h : p + 7 ≤ b.length) (K : Int → Int → Option R) : octet_Take b p 7 K = K (de ((b.drop p).take 7)) 0 := by
  have hw : IntKind.i64.wrap ((p : Int) + 7) = (p : Int) + 7 := by rw [IntKind.wrap_i64]; omega
  have a1 : decide ((p : Int) < 0) = false := decide_eq_false (by omega)
  have a2 : decide ((b.length : Int) < (p : Int)) = false := decide_eq_false (by omega)
  have a3 : decide (IntKind.i64.wrap ((b.length : Int) - (p : Int)) < 7) = false := decide_eq_false (by rw [IntKind.wrap_i64]; omega)
  have g1 : decide (0 ≤ (p : Int) + 7) = true := decide_eq_true (by omega)
  have g2 : decide ((p : Int) + 7 ≤ (b.length : Int)) = true := decide_eq_true (by omega)
  have g3 : decide ((p : Int) + 7 ≤ (p : Int) + 7) = true := decide_eq_true (by omega)
  have g4 : decide (0 ≤ (p : Int)) = true := decide_eq_true (by omega)
  have g5 : decide ((p : Int) ≤ (p : Int) + 7) = true := decide_eq_true (by omega)
  have t1 : Int.toNat ((p : Int) + 7) - p = 7 := by omega
  have t2 : Int.toNat (p : Int) = p := by omega
  obtain ⟨l, hll⟩ : ∃ l, l = (b.drop p).take 7 := ⟨_, rfl⟩
  have hlen : l.length = 7 := by rw [hll, List.length_take, List.length_drop]; omega
  have hB : isB l := by intro x hx; rw [hll] at hx; exact hb x (List.mem_of_mem_drop (List.mem_of_mem_take hx))
  unfold octet_Take octet_Take_b
  simp only [a1, a2, a3, hw, g1, g2, g3, g4, g5, gd, t1, t2, ← hll, cond_true, cond_false, show decide ((7 : Int) < 0) = false from rfl, show decide ((8 : Int) < 7) = false from rfl]
  match l, hlen, hB with
  | [x0, x1, x2, x3, x4, x5, x6], _, hB =>
    have b0 := hB x0 (by simp)
    have w0 : IntKind.u64.wrap x0 = x0 := by rw [IntKind.wrap_u64]; omega
    have b1 := hB x1 (by simp)
    have w1 : IntKind.u64.wrap x1 = x1 := by rw [IntKind.wrap_u64]; omega
    have b2 := hB x2 (by simp)
    have w2 : IntKind.u64.wrap x2 = x2 := by rw [IntKind.wrap_u64]; omega
    have b3 := hB x3 (by simp)
    have w3 : IntKind.u64.wrap x3 = x3 := by rw [IntKind.wrap_u64]; omega
    have b4 := hB x4 (by simp)
    have w4 : IntKind.u64.wrap x4 = x4 := by rw [IntKind.wrap_u64]; omega
    have b5 := hB x5 (by simp)
    have w5 : IntKind.u64.wrap x5 = x5 := by rw [IntKind.wrap_u64]; omega
    have b6 := hB x6 (by simp)
    have w6 : IntKind.u64.wrap x6 = x6 := by rw [IntKind.wrap_u64]; omega
    simp only [show decide ((7 : Int) = 8) = false from rfl, show decide ((7 : Int) = 7) = true from rfl, show decide ((7 : Int) = 6) = false from rfl, show decide ((7 : Int) = 5) = false from rfl, show decide ((7 : Int) = 4) = false from rfl, show decide ((7 : Int) = 3) = false from rfl, show decide ((7 : Int) = 2) = false from rfl, show decide ((7 : Int) = 1) = false from rfl, show decide ((0 : Int) < (([x0, x1, x2, x3, x4, x5, x6] : List Int).length : Int)) = true from rfl, show decide ((1 : Int) < (([x0, x1, x2, x3, x4, x5, x6] : List Int).length : Int)) = true from rfl, show decide ((2 : Int) < (([x0, x1, x2, x3, x4, x5, x6] : List Int).length : Int)) = true from rfl, show decide ((3 : Int) < (([x0, x1, x2, x3, x4, x5, x6] : List Int).length : Int)) = true from rfl, show decide ((4 : Int) < (([x0, x1, x2, x3, x4, x5, x6] : List Int).length : Int)) = true from rfl, show decide ((5 : Int) < (([x0, x1, x2, x3, x4, x5, x6] : List Int).length : Int)) = true from rfl, show decide ((6 : Int) < (([x0, x1, x2, x3, x4, x5, x6] : List Int).length : Int)) = true from rfl, show ([x0, x1, x2, x3, x4, x5, x6] : List Int).getD 0 0 = x0 from rfl, show ([x0, x1, x2, x3, x4, x5, x6] : List Int).getD 1 0 = x1 from rfl, show ([x0, x1, x2, x3, x4, x5, x6] : List Int).getD 2 0 = x2 from rfl, show ([x0, x1, x2, x3, x4, x5, x6] : List Int).getD 3 0 = x3 from rfl, show ([x0, x1, x2, x3, x4, x5, x6] : List Int).getD 4 0 = x4 from rfl, show ([x0, x1, x2, x3, x4, x5, x6] : List Int).getD 5 0 = x5 from rfl, show ([x0, x1, x2, x3, x4, x5, x6] : List Int).getD 6 0 = x6 from rfl, w0, w1, w2, w3, w4, w5, w6, cond_true, cond_false, decide_true]
    rw [or6 0 (0) x6 (by omega) (by omega) b6]
    rw [or5 (281474976710656 * (x6 + 256 * (0))) (x6 + 256 * (0)) x5 (by omega) (by omega) b5]
    rw [or4 (1099511627776 * (x5 + 256 * (x6 + 256 * (0)))) (x5 + 256 * (x6 + 256 * (0))) x4 (by omega) (by omega) b4]
    rw [or3 (4294967296 * (x4 + 256 * (x5 + 256 * (x6 + 256 * (0))))) (x4 + 256 * (x5 + 256 * (x6 + 256 * (0)))) x3 (by omega) (by omega) b3]
    rw [or2 (16777216 * (x3 + 256 * (x4 + 256 * (x5 + 256 * (x6 + 256 * (0)))))) (x3 + 256 * (x4 + 256 * (x5 + 256 * (x6 + 256 * (0))))) x2 (by omega) (by omega) b2]
    rw [or1 (65536 * (x2 + 256 * (x3 + 256 * (x4 + 256 * (x5 + 256 * (x6 + 256 * (0))))))) (x2 + 256 * (x3 + 256 * (x4 + 256 * (x5 + 256 * (x6 + 256 * (0)))))) x1 (by omega) (by omega) b1]
    rw [or0 (256 * (x1 + 256 * (x2 + 256 * (x3 + 256 * (x4 + 256 * (x5 + 256 * (x6 + 256 * (0)))))))) (x1 + 256 * (x2 + 256 * (x3 + 256 * (x4 + 256 * (x5 + 256 * (x6 + 256 * (0))))))) x0 (by omega) (by omega) b0]
    congr 1
    simp only [de]
    omega
theorem take_8 {R : Type} (b : List Int) (p : Nat) (hb : isB b) (hl : b.length ≤ 1048576 * 16) (h : p + 8 ≤ b.length) (K : Int → Int → Option R) : octet_Take b p 8 K = K (de ((b.drop p).take 8)) 0 := by
  have hw : IntKind.i64.wrap ((p : Int) + 8) = (p : Int) + 8 := by rw [IntKind.wrap_i64]; omega
  have a1 : decide ((p : Int) < 0) = false := decide_eq_false (by omega)
  have a2 : decide ((b.length : Int) < (p : Int)) = false := decide_eq_false (by omega)
  have a3 : decide (IntKind.i64.wrap ((b.length : Int) - (p : Int)) < 8) = false := decide_eq_false (by rw [IntKind.wrap_i64]; omega)
  have g1 : decide (0 ≤ (p : Int) + 8) = true := decide_eq_true (by omega)
  have g2 : decide ((p : Int) + 8 ≤ (b.length : Int)) = true := decide_eq_true (by omega)
  have g3 : decide ((p : Int) + 8 ≤ (p : Int) + 8) = true := decide_eq_true (by omega)
  have g4 : decide (0 ≤ (p : Int)) = true := decide_eq_true (by omega)
  have g5 : decide ((p : Int) ≤ (p : Int) + 8) = true := decide_eq_true (by omega)
  have t1 : Int.toNat ((p : Int) + 8) - p = 8 := by omega
  have t2 : Int.toNat (p : Int) = p := by omega
  obtain ⟨l, hll⟩ : ∃ l, l = (b.drop p).take 8 := ⟨_, rfl⟩
  have hlen : l.length = 8 := by rw [hll, List.length_take, List.length_drop]; omega
  have hB : isB l := by intro x hx; rw [hll] at hx; exact hb x (List.mem_of_mem_drop (List.mem_of_mem_take hx))
  unfold octet_Take octet_Take_b
  simp only [a1, a2, a3, hw, g1, g2, g3, g4, g5, gd, t1, t2, ← hll, cond_true, cond_false, show decide ((8 : Int) < 0) = false from rfl, show decide ((8 : Int) < 8) = false from rfl]
  match l, hlen, hB with
  | [x0, x1, x2, x3, x4, x5, x6, x7], _, hB =>
    have b0 := hB x0 (by simp)
    have w0 : IntKind.u64.wrap x0 = x0 := by rw [IntKind.wrap_u64]; omega
    have b1 := hB x1 (by simp)
    have w1 : IntKind.u64.wrap x1 = x1 := by rw [IntKind.wrap_u64]; omega
    have b2 := hB x2 (by simp)
    have w2 : IntKind.u64.wrap x2 = x2 := by rw [IntKind.wrap_u64]; omega
    have b3 := hB x3 (by simp)
    have w3 : IntKind.u64.wrap x3 = x3 := by rw [IntKind.wrap_u64]; omega
    have b4 := hB x4 (by simp)
    have w4 : IntKind.u64.wrap x4 = x4 := by rw [IntKind.wrap_u64]; omega
    have b5 := hB x5 (by simp)
    have w5 : IntKind.u64.wrap x5 = x5 := by rw [IntKind.wrap_u64]; omega
    have b6 := hB x6 (by simp)
    have w6 : IntKind.u64.wrap x6 = x6 := by rw [IntKind.wrap_u64]; omega
    have b7 := hB x7 (by simp)
    have w7 : IntKind.u64.wrap x7 = x7 := by rw [IntKind.wrap_u64]; omega
    simp only [show decide ((8 : Int) = 8) = true from rfl, show decide ((8 : Int) = 7) = false from rfl, show decide ((8 : Int) = 6) = false from rfl, show decide ((8 : Int) = 5) = false from rfl, show decide ((8 : Int) = 4) = false from rfl, show decide ((8 : Int) = 3) = false from rfl, show decide ((8 : Int) = 2) = false from rfl, show decide ((8 : Int) = 1) = false from rfl, show decide ((0 : Int) < (([x0, x1, x2, x3, x4, x5, x6, x7] : List Int).length : Int)) = true from rfl, show decide ((1 : Int) < (([x0, x1, x2, x3, x4, x5, x6, x7] : List Int).length : Int)) = true from rfl, show decide ((2 : Int) < (([x0, x1, x2, x3, x4, x5, x6, x7] : List Int).length : Int)) = true from rfl, show decide ((3 : Int) < (([x0, x1, x2, x3, x4, x5, x6, x7] : List Int).length : Int)) = true from rfl, show decide ((4 : Int) < (([x0, x1, x2, x3, x4, x5, x6, x7] : List Int).length : Int)) = true from rfl, show decide ((5 : Int) < (([x0, x1, x2, x3, x4, x5, x6, x7] : List Int).length : Int)) = true from rfl, show decide ((6 : Int) < (([x0, x1, x2, x3, x4, x5, x6, x7] : List Int).length : Int)) = true from rfl, show decide ((7 : Int) < (([x0, x1, x2, x3, x4, x5, x6, x7] : List Int).length : Int)) = true from rfl, show ([x0, x1, x2, x3, x4, x5, x6, x7] : List Int).getD 0 0 = x0 from rfl, show ([x0, x1, x2, x3, x4, x5, x6, x7] : List Int).getD 1 0 = x1 from rfl, show ([x0, x1, x2, x3, x4, x5, x6, x7] : List Int).getD 2 0 = x2 from rfl, show ([x0, x1, x2, x3, x4, x5, x6, x7] : List Int).getD 3 0 = x3 from rfl, show ([x0, x1, x2, x3, x4, x5, x6, x7] : List Int).getD 4 0 = x4 from rfl, show ([x0, x1, x2, x3, x4, x5, x6, x7] : List Int).getD 5 0 = x5 from rfl, show ([x0, x1, x2, x3, x4, x5, x6, x7] : List Int).getD 6 0 = x6 from rfl, show ([x0, x1, x2, x3, x4, x5, x6, x7] : List Int).getD 7 0 = x7 from rfl, w0, w1, w2, w3, w4, w5, w6, w7, cond_true, cond_false, decide_true]
    rw [shl7 x7 b7]
    rw [or6 (72057594037927936 * x7) (x7) x6 (by omega) (by omega) b6]
    rw [or5 (281474976710656 * (x6 + 256 * (x7))) (x6 + 256 * (x7)) x5 (by omega) (by omega) b5]
    rw [or4 (1099511627776 * (x5 + 256 * (x6 + 256 * (x7)))) (x5 + 256 * (x6 + 256 * (x7))) x4 (by omega) (by omega) b4]
    rw [or3 (4294967296 * (x4 + 256 * (x5 + 256 * (x6 + 256 * (x7))))) (x4 + 256 * (x5 + 256 * (x6 + 256 * (x7)))) x3 (by omega) (by omega) b3]
    rw [or2 (16777216 * (x3 + 256 * (x4 + 256 * (x5 + 256 * (x6 + 256 * (x7)))))) (x3 + 256 * (x4 + 256 * (x5 + 256 * (x6 + 256 * (x7))))) x2 (by omega) (by omega) b2]
    rw [or1 (65536 * (x2 + 256 * (x3 + 256 * (x4 + 256 * (x5 + 256 * (x6 + 256 * (x7))))))) (x2 + 256 * (x3 + 256 * (x4 + 256 * (x5 + 256 * (x6 + 256 * (x7)))))) x1 (by omega) (by omega) b1]
    rw [or0 (256 * (x1 + 256 * (x2 + 256 * (x3 + 256 * (x4 + 256 * (x5 + 256 * (x6 + 256 * (x7)))))))) (x1 + 256 * (x2 + 256 * (x3 + 256 * (x4 + 256 * (x5 + 256 * (x6 + 256 * (x7))))))) x0 (by omega) (by omega) b0]
    congr 1
    simp only [de]
    omega
end Go.Ab.T
