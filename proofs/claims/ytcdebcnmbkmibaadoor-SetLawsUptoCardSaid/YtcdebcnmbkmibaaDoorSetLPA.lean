/- SetLPA: a part of the proofs of this seat's statements. -/
import Derived.Test.YtcdebcnmbkmibaaDoorSetLTA
import Derived.Laws.BitsLemmas
import Derived.Laws.BitsAllLaws
/- Sets of bytes: what the printed functions come to, told by who is in. -/
namespace Go.Ab.T
open Go Go.Ab
set_option linter.unusedVariables false
set_option linter.unusedSimpArgs false

theorem gd_true {R : Type} {b : Bool} (h : b = true) (x : Option R) : gd b x = x := by subst h; rfl

def isW (x : Int) : Prop := 0 ≤ x ∧ x < 18446744073709551616
/-- a word, by its bits -/
def bit (x : Int) (j : Nat) : Bool := x.toNat.testBit j

theorem bits64 : IntKind.u64.bits = 64 := rfl
theorem p64 : (2 : Nat) ^ 64 = 18446744073709551616 := by decide

theorem bv_nat (x : Int) (hx : isW x) : (BitVec.ofInt IntKind.u64.bits x).toNat = x.toNat := by
  obtain ⟨n, rfl⟩ := Int.eq_ofNat_of_zero_le hx.1
  have : n < 2 ^ 64 := by have := hx.2; rw [p64]; omega
  simp only [BitVec.ofInt_natCast, BitVec.toNat_ofNat, Int.toNat_natCast]
  rw [bits64]
  exact Nat.mod_eq_of_lt this

theorem wrapN (n : Nat) (h : n < 2 ^ 64) : IntKind.u64.wrap (n : Int) = (n : Int) := by
  rw [IntKind.wrap_u64]
  rw [p64] at h
  omega

theorem isW_lt {x : Int} (hx : isW x) : x.toNat < 2 ^ 64 := by
  rw [p64]; have := hx.1; have := hx.2; omega
theorem isW_nat {n : Nat} (h : n < 2 ^ 64) : isW (n : Int) := by
  rw [p64] at h; constructor <;> omega

theorem and_eq (x y : Int) (hx : isW x) (hy : isW y) : bvop .u64 .and x y = ((x.toNat &&& y.toNat : Nat) : Int) := by
  unfold bvop
  simp only [wall_eq]
  rw [BitVec.toNat_and, bv_nat x hx, bv_nat y hy]
  exact wrapN _ (Nat.and_lt_two_pow _ (isW_lt hy))
theorem or_eq (x y : Int) (hx : isW x) (hy : isW y) : bvop .u64 .or x y = ((x.toNat ||| y.toNat : Nat) : Int) := by
  unfold bvop
  simp only [wall_eq]
  rw [BitVec.toNat_or, bv_nat x hx, bv_nat y hy]
  exact wrapN _ (Nat.or_lt_two_pow (isW_lt hx) (isW_lt hy))
theorem xor_eq (x y : Int) (hx : isW x) (hy : isW y) : bvop .u64 .xor x y = ((x.toNat ^^^ y.toNat : Nat) : Int) := by
  unfold bvop
  simp only [wall_eq]
  rw [BitVec.toNat_xor, bv_nat x hx, bv_nat y hy]
  exact wrapN _ (Nat.xor_lt_two_pow (isW_lt hx) (isW_lt hy))

theorem and_isW (x y : Int) (hx : isW x) (hy : isW y) : isW (bvop .u64 .and x y) := by
  rw [and_eq x y hx hy]; exact isW_nat (Nat.and_lt_two_pow _ (isW_lt hy))
theorem or_isW (x y : Int) (hx : isW x) (hy : isW y) : isW (bvop .u64 .or x y) := by
  rw [or_eq x y hx hy]; exact isW_nat (Nat.or_lt_two_pow (isW_lt hx) (isW_lt hy))
theorem xor_isW (x y : Int) (hx : isW x) (hy : isW y) : isW (bvop .u64 .xor x y) := by
  rw [xor_eq x y hx hy]; exact isW_nat (Nat.xor_lt_two_pow (isW_lt hx) (isW_lt hy))
theorem bit_and (x y : Int) (hx : isW x) (hy : isW y) (j : Nat) : bit (bvop .u64 .and x y) j = (bit x j && bit y j) := by
  unfold bit; rw [and_eq x y hx hy, Int.toNat_natCast, Nat.testBit_and]
theorem bit_or (x y : Int) (hx : isW x) (hy : isW y) (j : Nat) : bit (bvop .u64 .or x y) j = (bit x j || bit y j) := by
  unfold bit; rw [or_eq x y hx hy, Int.toNat_natCast, Nat.testBit_or]
theorem bit_xor (x y : Int) (hx : isW x) (hy : isW y) (j : Nat) : bit (bvop .u64 .xor x y) j = (bit x j != bit y j) := by
  unfold bit; rw [xor_eq x y hx hy, Int.toNat_natCast, Nat.testBit_xor]

theorem max_isW : isW IntKind.u64.max := ⟨by decide, by decide⟩
theorem bit_max (j : Nat) (hj : j < 64) : bit IntKind.u64.max j = true := by
  have : IntKind.u64.max.toNat = 2 ^ 64 - 1 := by decide
  unfold bit
  rw [this, Nat.testBit_two_pow_sub_one]
  simpa using hj

theorem word_ext (x y : Int) (hx : isW x) (hy : isW y) (h : ∀ j, j < 64 → bit x j = bit y j) : x = y := by
  have : x.toNat = y.toNat := by
    apply Nat.eq_of_testBit_eq
    intro j
    by_cases hj : j < 64
    · exact h j hj
    · rw [Nat.testBit_lt_two_pow (Nat.lt_of_lt_of_le (isW_lt hx) (Nat.pow_le_pow_right (by omega) (by omega))), Nat.testBit_lt_two_pow (Nat.lt_of_lt_of_le (isW_lt hy) (Nat.pow_le_pow_right (by omega) (by omega)))]
  have := hx.1; have := hy.1
  omega

theorem shr_eq (x : Int) (j : Nat) (hj : j ≤ 64) (hx : isW x) : shr .u64 x (j : Int) = ((x.toNat / 2 ^ j : Nat) : Int) := by
  unfold shr
  have : min (j : Int).toNat IntKind.u64.bits = j := by rw [bits64]; omega
  rw [wall_eq, this, Int.fdiv_eq_ediv_of_nonneg _ (Int.pow_nonneg (by decide))]
  obtain ⟨n, rfl⟩ := Int.eq_ofNat_of_zero_le hx.1
  rw [Int.toNat_natCast, Int.natCast_ediv, Int.natCast_pow]
  rfl
theorem shr_isW (x : Int) (j : Nat) (hj : j ≤ 64) (hx : isW x) : isW (shr .u64 x (j : Int)) := by
  rw [shr_eq x j hj hx]
  exact isW_nat (Nat.lt_of_le_of_lt (Nat.div_le_self _ _) (isW_lt hx))
theorem shr_and1 (x : Int) (j : Nat) (hj : j < 64) (hx : isW x) : decide (bvop .u64 .and (shr .u64 x (j : Int)) 1 = 1) = bit x j := by
  rw [and_eq _ 1 (shr_isW x j (by omega) hx) ⟨by decide, by decide⟩, shr_eq x j (by omega) hx, Int.toNat_natCast]
  have e : (1 : Int).toNat = 1 := rfl
  rw [e, Nat.and_one_is_mod]
  unfold bit
  rw [Nat.testBit_eq_decide_div_mod_eq]
  apply decide_eq_decide.2
  omega
theorem shl1_eq (j : Nat) (hj : j < 64) : shl .u64 1 (j : Int) = ((2 ^ j : Nat) : Int) := by
  unfold shl
  have : min (j : Int).toNat IntKind.u64.bits = j := by rw [bits64]; omega
  rw [wall_eq, this, Int.one_mul]
  have e : (2 : Int) ^ j = ((2 ^ j : Nat) : Int) := by rw [Int.natCast_pow]; rfl
  rw [e]
  exact wrapN _ (Nat.pow_lt_pow_right (by omega) hj)
theorem shl1_isW (j : Nat) (hj : j < 64) : isW (shl .u64 1 (j : Int)) := by
  rw [shl1_eq j hj]; exact isW_nat (Nat.pow_lt_pow_right (by omega) hj)
theorem bit_shl1 (j i : Nat) (hj : j < 64) : bit (shl .u64 1 (j : Int)) i = decide (j = i) := by
  unfold bit
  rw [shl1_eq j hj, Int.toNat_natCast, Nat.testBit_two_pow]

/-! ### sets -/
def isSet (s : List Int) : Prop := s.length = 4 ∧ ∀ x ∈ s, isW x
def mem (s : List Int) (b : Nat) : Bool := bit (s.getD (b / 64) 0) (b % 64)

theorem set_getD {s : List Int} (hs : isSet s) (i : Nat) : isW (s.getD i 0) := by
  rw [List.getD_eq_getElem?_getD]
  by_cases h : i < s.length
  · rw [List.getElem?_eq_getElem h]; exact hs.2 _ (List.getElem_mem h)
  · rw [List.getElem?_eq_none (by omega)]; exact ⟨Int.le_refl _, by decide⟩

theorem set_ext {s t : List Int} (hs : isSet s) (ht : isSet t) (h : ∀ b, b < 256 → mem s b = mem t b) : s = t := by
  apply List.ext_getElem (by rw [hs.1, ht.1])
  intro i h1 h2
  refine word_ext _ _ (hs.2 _ (List.getElem_mem h1)) (ht.2 _ (List.getElem_mem h2)) fun j hj => ?_
  have hi : i < 4 := by rw [← hs.1]; exact h1
  have := h (64 * i + j) (by omega)
  unfold mem at this
  have e1 : (64 * i + j) / 64 = i := by omega
  have e2 : (64 * i + j) % 64 = j := by omega
  rw [e1, e2, List.getD_eq_getElem?_getD, List.getD_eq_getElem?_getD, List.getElem?_eq_getElem h1, List.getElem?_eq_getElem h2] at this
  exact this

theorem zero_isSet : isSet (List.replicate 4 (0 : Int)) := ⟨rfl, fun x hx => by rw [List.mem_replicate] at hx; rw [hx.2]; exact ⟨Int.le_refl _, by decide⟩⟩
theorem mem_zero (b : Nat) : mem (List.replicate 4 (0 : Int)) b = false := by
  unfold mem bit
  rw [List.getD_eq_getElem?_getD, List.getElem?_replicate]
  split <;> simp

theorem has_ok {R : Type} (s : List Int) (hs : isSet s) (b : Nat) (hb : b < 256) (K : Bool → Option R) : byteset_Has s (b : Int) K = K (mem s b) := by
  unfold byteset_Has byteset_Has_b
  have e1 : IntKind.u8.wrap (Int.tdiv (b : Int) 64) = ((b / 64 : Nat) : Int) := by
    rw [Int.tdiv_eq_ediv_of_nonneg (by omega), IntKind.wrap_u8]; omega
  have e2 : Int.tmod (b : Int) 64 = ((b % 64 : Nat) : Int) := by
    rw [Int.tmod_eq_emod_of_nonneg (by omega)]; omega
  rw [e1, e2, gd_true (decide_eq_true (by omega)), gd_true (decide_eq_true (by omega)), gd_true (decide_eq_true (by omega)), Int.toNat_natCast, shr_and1 _ _ (by omega) (set_getD hs _)]
  rfl

theorem getD_setI (l : List Int) (d i : Nat) (v x : Int) : (l.set d v).getD i x = if d = i ∧ i < l.length then v else l.getD i x := by
  rw [List.getD_eq_getElem?_getD, List.getD_eq_getElem?_getD, List.getElem?_set]
  by_cases h : d = i
  · subst h
    by_cases hl : d < l.length
    · simp [hl]
    · rw [if_pos rfl, if_neg hl, if_neg (fun q => hl q.2), List.getElem?_eq_none (by omega)]
  · rw [if_neg h, if_neg (fun q => h q.1)]

/-- one byte more -/
theorem put_mem {s : List Int} (hs : isSet s) (c : Nat) (hc : c < 256) :
    isSet (s.set (c / 64) (bvop .u64 .or (s.getD (c / 64) 0) (shl .u64 1 ((c % 64 : Nat) : Int)))) ∧
    ∀ b, mem (s.set (c / 64) (bvop .u64 .or (s.getD (c / 64) 0) (shl .u64 1 ((c % 64 : Nat) : Int)))) b = (mem s b || decide (c = b)) := by
  have hw := or_isW _ _ (set_getD hs (c / 64)) (shl1_isW (c % 64) (by omega))
  refine ⟨⟨by rw [List.length_set]; exact hs.1, fun x hx => ?_⟩, fun b => ?_⟩
  · rcases List.mem_or_eq_of_mem_set hx with h | h
    · exact hs.2 x h
    · rw [h]; exact hw
  · unfold mem
    rw [getD_setI]
    by_cases h : c / 64 = b / 64 ∧ b / 64 < s.length
    · rw [if_pos h, bit_or _ _ (set_getD hs _) (shl1_isW _ (by omega)), bit_shl1 _ _ (by omega), h.1]
      congr 1
      apply decide_eq_decide.2
      omega
    · rw [if_neg h]
      have : decide (c = b) = false := decide_eq_false (by rintro rfl; exact h ⟨rfl, by rw [hs.1]; omega⟩)
      rw [this, Bool.or_false]
end Go.Ab.T

/- Sets of bytes: ranges, joins, lists. -/
namespace Go.Ab.T
open Go Go.Ab
set_option linter.unusedVariables false
set_option linter.unusedSimpArgs false

theorem wrap_i (n : Nat) (h : n < 1000000) : IntKind.i64.wrap (n : Int) = (n : Int) := by rw [IntKind.wrap_i64]; omega
theorem wrap_i1 (n : Nat) (h : n < 1000000) : IntKind.i64.wrap ((n : Int) + 1) = ((n + 1 : Nat) : Int) := by rw [IntKind.wrap_i64]; omega

theorem range_l3 {R : Type} (kf : Nat) (t : Nat) (ht : t < 256) (z : List Int) (Ke : List Int → List Int → Option R) : ∀ (m k c : Nat) (s : List Int), (t < c ∨ c + m = t + 1) → (t < c → m = 0) → m < k → isSet s →
    ∃ r, isSet r ∧ (∀ b, mem r b = (mem s b || decide (c ≤ b ∧ b ≤ t))) ∧ ∀ _ : True, byteset_Range_l3 kf k (t : Int) z Ke (c : Int) s = Ke z r
  | m, 0, c, s, _, _, hk, _ => by omega
  | 0, k + 1, c, s, hc, h0, hk, hs => by
    have hlt : t < c := by omega
    refine ⟨s, hs, fun b => ?_, fun _ => ?_⟩
    · have : decide (c ≤ b ∧ b ≤ t) = false := decide_eq_false (by omega)
      rw [this, Bool.or_false]
    · have h1 : decide ((c : Int) ≤ (t : Int)) = false := decide_eq_false (by omega)
      simp only [byteset_Range_l3, byteset_Range_l3_b, wrap_i t (by omega), h1, cond_false]
  | m + 1, k + 1, c, s, hc, h0, hk, hs => by
    have hle : c ≤ t := by
      by_cases h : t < c
      · have := h0 h; omega
      · omega
    obtain ⟨p1, p2⟩ := put_mem hs c (by omega)
    obtain ⟨r, r1, r2, r3⟩ := range_l3 kf t ht z Ke m k (c + 1) _ (by omega) (by omega) (by omega) p1
    refine ⟨r, r1, fun b => ?_, fun _ => ?_⟩
    · rw [r2, p2]
      cases mem s b
      · simp only [Bool.false_or]
        by_cases h : c = b
        · subst h; simp [hle]
        · have : decide (c = b) = false := decide_eq_false h
          rw [this, Bool.false_or]
          apply decide_eq_decide.2
          omega
      · simp
    · have h1 : decide ((c : Int) ≤ (t : Int)) = true := decide_eq_true (by omega)
      have e1 : IntKind.i64.wrap (Int.tdiv (c : Int) 64) = ((c / 64 : Nat) : Int) := by
        rw [Int.tdiv_eq_ediv_of_nonneg (by omega), IntKind.wrap_i64]; omega
      have e2 : Int.tmod (c : Int) 64 = ((c % 64 : Nat) : Int) := by
        rw [Int.tmod_eq_emod_of_nonneg (by omega)]; omega
      have g1 : decide (0 ≤ ((c / 64 : Nat) : Int)) = true := decide_eq_true (by omega)
      have g2 : decide (((c / 64 : Nat) : Int) < 4) = true := decide_eq_true (by omega)
      have g3 : decide (0 ≤ ((c % 64 : Nat) : Int)) = true := decide_eq_true (by omega)
      simp only [byteset_Range_l3, byteset_Range_l3_b, wrap_i t (by omega), h1, cond_true, e1, e2, g1, g2, g3, gd, Int.toNat_natCast, wrap_i1 c (by omega)]
      exact r3 trivial

theorem range_ok (kf : Nat) (hkf : 300 ≤ kf) (f t : Nat) (hf : f < 256) (ht : t < 256) : ∃ r, isSet r ∧ (∀ b, mem r b = decide (f ≤ b ∧ b ≤ t)) ∧ ∀ {R : Type} (K : List Int → Option R), byteset_Range kf (f : Int) (t : Int) K = K r := by
  have key : ∀ (R : Type) (K : List Int → Option R), ∃ r, isSet r ∧ (∀ b, mem r b = decide (f ≤ b ∧ b ≤ t)) ∧ byteset_Range kf (f : Int) (t : Int) K = K r := by
    intro R K
    obtain ⟨r, r1, r2, r3⟩ := range_l3 kf t ht (List.replicate 4 (0 : Int)) (fun _ v8 => K v8) (t + 1 - f) kf f (List.replicate 4 (0 : Int)) (by omega) (by omega) (by omega) zero_isSet
    refine ⟨r, r1, fun b => by rw [r2, mem_zero, Bool.false_or], ?_⟩
    unfold byteset_Range byteset_Range_b
    rw [wrap_i f (by omega)]
    exact r3 trivial
  obtain ⟨r, r1, r2, _⟩ := key Unit (fun _ => none)
  refine ⟨r, r1, r2, fun {R} K => ?_⟩
  obtain ⟨r', q1, q2, q3⟩ := key R K
  have : r' = r := set_ext q1 r1 fun b hb => by rw [q2, r2]
  rw [q3, this]

/-! ### joins -/
theorem four {s : List Int} (hs : isSet s) : ∃ a b c d, s = [a, b, c, d] ∧ isW a ∧ isW b ∧ isW c ∧ isW d := by
  obtain ⟨h1, h2⟩ := hs
  match s, h1 with
  | [a, b, c, d], _ => exact ⟨a, b, c, d, rfl, h2 a (by simp), h2 b (by simp), h2 c (by simp), h2 d (by simp)⟩

theorem mem_four (a b c d : Int) (x : Nat) : mem [a, b, c, d] x = bit (if x / 64 = 0 then a else if x / 64 = 1 then b else if x / 64 = 2 then c else if x / 64 = 3 then d else 0) (x % 64) := by
  unfold mem
  congr 1
  rw [List.getD_eq_getElem?_getD]
  match x / 64 with
  | 0 => rfl
  | 1 => rfl
  | 2 => rfl
  | 3 => rfl
  | n + 4 => simp

theorem and_rfl {R : Type} (k : Nat) (a0 a1 a2 a3 b0 b1 b2 b3 : Int) (K : List Int → Option R) :
    byteset_And (k + 5) [a0, a1, a2, a3] [b0, b1, b2, b3] K = K [bvop .u64 .and a0 b0, bvop .u64 .and a1 b1, bvop .u64 .and a2 b2, bvop .u64 .and a3 b3] := rfl
theorem or_rfl {R : Type} (k : Nat) (a0 a1 a2 a3 b0 b1 b2 b3 : Int) (K : List Int → Option R) :
    byteset_Or (k + 5) [a0, a1, a2, a3] [b0, b1, b2, b3] K = K [bvop .u64 .or a0 b0, bvop .u64 .or a1 b1, bvop .u64 .or a2 b2, bvop .u64 .or a3 b3] := rfl
theorem not_rfl {R : Type} (k : Nat) (a0 a1 a2 a3 : Int) (K : List Int → Option R) :
    byteset_Not (k + 5) [a0, a1, a2, a3] K = K [bvop .u64 .xor IntKind.u64.max a0, bvop .u64 .xor IntKind.u64.max a1, bvop .u64 .xor IntKind.u64.max a2, bvop .u64 .xor IntKind.u64.max a3] := rfl

noncomputable def andS (s t : List Int) : List Int := [bvop .u64 .and (s.getD 0 0) (t.getD 0 0), bvop .u64 .and (s.getD 1 0) (t.getD 1 0), bvop .u64 .and (s.getD 2 0) (t.getD 2 0), bvop .u64 .and (s.getD 3 0) (t.getD 3 0)]
noncomputable def orS (s t : List Int) : List Int := [bvop .u64 .or (s.getD 0 0) (t.getD 0 0), bvop .u64 .or (s.getD 1 0) (t.getD 1 0), bvop .u64 .or (s.getD 2 0) (t.getD 2 0), bvop .u64 .or (s.getD 3 0) (t.getD 3 0)]
noncomputable def notS (s : List Int) : List Int := [bvop .u64 .xor IntKind.u64.max (s.getD 0 0), bvop .u64 .xor IntKind.u64.max (s.getD 1 0), bvop .u64 .xor IntKind.u64.max (s.getD 2 0), bvop .u64 .xor IntKind.u64.max (s.getD 3 0)]

theorem four_set {a b c d : Int} (ha : isW a) (hb : isW b) (hc : isW c) (hd : isW d) : isSet [a, b, c, d] :=
  ⟨rfl, fun x hx => by simp at hx; rcases hx with rfl | rfl | rfl | rfl <;> assumption⟩

theorem and_isSet {s t : List Int} (hs : isSet s) (ht : isSet t) : isSet (andS s t) := four_set (and_isW _ _ (set_getD hs _) (set_getD ht _)) (and_isW _ _ (set_getD hs _) (set_getD ht _)) (and_isW _ _ (set_getD hs _) (set_getD ht _)) (and_isW _ _ (set_getD hs _) (set_getD ht _))
theorem or_isSet {s t : List Int} (hs : isSet s) (ht : isSet t) : isSet (orS s t) := four_set (or_isW _ _ (set_getD hs _) (set_getD ht _)) (or_isW _ _ (set_getD hs _) (set_getD ht _)) (or_isW _ _ (set_getD hs _) (set_getD ht _)) (or_isW _ _ (set_getD hs _) (set_getD ht _))
theorem not_isSet {s : List Int} (hs : isSet s) : isSet (notS s) := four_set (xor_isW _ _ max_isW (set_getD hs _)) (xor_isW _ _ max_isW (set_getD hs _)) (xor_isW _ _ max_isW (set_getD hs _)) (xor_isW _ _ max_isW (set_getD hs _))

theorem lt4 {x : Nat} (hx : x < 256) : x / 64 = 0 ∨ x / 64 = 1 ∨ x / 64 = 2 ∨ x / 64 = 3 := by omega
theorem mem_and {s t : List Int} (hs : isSet s) (ht : isSet t) (x : Nat) (hx : x < 256) : mem (andS s t) x = (mem s x && mem t x) := by
  unfold mem andS
  rcases lt4 hx with h | h | h | h <;> rw [h] <;> exact bit_and _ _ (set_getD hs _) (set_getD ht _) _
theorem mem_or {s t : List Int} (hs : isSet s) (ht : isSet t) (x : Nat) (hx : x < 256) : mem (orS s t) x = (mem s x || mem t x) := by
  unfold mem orS
  rcases lt4 hx with h | h | h | h <;> rw [h] <;> exact bit_or _ _ (set_getD hs _) (set_getD ht _) _
theorem mem_not {s : List Int} (hs : isSet s) (x : Nat) (hx : x < 256) : mem (notS s) x = !mem s x := by
  have key : ∀ y, isW y → bit (bvop .u64 .xor IntKind.u64.max y) (x % 64) = !bit y (x % 64) := by
    intro y hy
    rw [bit_xor _ _ max_isW hy, bit_max _ (by omega)]
    cases bit y (x % 64) <;> rfl
  unfold mem notS
  rcases lt4 hx with h | h | h | h <;> rw [h] <;> exact key _ (set_getD hs _)

theorem and_ok {R : Type} (kf : Nat) (hkf : 5 ≤ kf) {s t : List Int} (hs : isSet s) (ht : isSet t) (K : List Int → Option R) : byteset_And kf s t K = K (andS s t) := by
  obtain ⟨a0, a1, a2, a3, rfl, _⟩ := four hs
  obtain ⟨b0, b1, b2, b3, rfl, _⟩ := four ht
  obtain ⟨k, rfl⟩ : ∃ k, kf = k + 5 := ⟨kf - 5, by omega⟩
  exact and_rfl k _ _ _ _ _ _ _ _ K
theorem or_ok {R : Type} (kf : Nat) (hkf : 5 ≤ kf) {s t : List Int} (hs : isSet s) (ht : isSet t) (K : List Int → Option R) : byteset_Or kf s t K = K (orS s t) := by
  obtain ⟨a0, a1, a2, a3, rfl, _⟩ := four hs
  obtain ⟨b0, b1, b2, b3, rfl, _⟩ := four ht
  obtain ⟨k, rfl⟩ : ∃ k, kf = k + 5 := ⟨kf - 5, by omega⟩
  exact or_rfl k _ _ _ _ _ _ _ _ K
theorem not_ok {R : Type} (kf : Nat) (hkf : 5 ≤ kf) {s : List Int} (hs : isSet s) (K : List Int → Option R) : byteset_Not kf s K = K (notS s) := by
  obtain ⟨a0, a1, a2, a3, rfl, _⟩ := four hs
  obtain ⟨k, rfl⟩ : ∃ k, kf = k + 5 := ⟨kf - 5, by omega⟩
  exact not_rfl k _ _ _ _ K

/-! ### lists -/
/-- those from c on, m of them, that are in -/
def elems (s : List Int) (c m : Nat) : List Int := ((List.range' c m).filter fun b : Nat => mem s b).map fun b : Nat => (b : Int)

theorem list_l3 {R : Type} (kf : Nat) (s : List Int) (hs : isSet s) (Ke : List Int → Option R) : ∀ (m k c : Nat) (acc : List Int), c + m = 256 → m < k → acc.length ≤ c → byteset_List_l3 kf k s Ke (c : Int) acc = Ke (acc ++ elems s c m)
  | m, 0, c, acc, _, hk, _ => by omega
  | 0, k + 1, c, acc, hc, hk, ha => by
    have h1 : decide ((c : Int) < 256) = false := decide_eq_false (by omega)
    simp only [byteset_List_l3, byteset_List_l3_b, h1, cond_false, elems, List.range'_zero, List.filter_nil, List.map_nil, List.append_nil]
  | m + 1, k + 1, c, acc, hc, hk, ha => by
    have h1 : decide ((c : Int) < 256) = true := decide_eq_true (by omega)
    have hw : IntKind.u8.wrap (c : Int) = (c : Int) := by rw [IntKind.wrap_u8]; omega
    simp only [byteset_List_l3, byteset_List_l3_b, h1, cond_true, hw]
    rw [has_ok s hs c (by omega), wrap_i1 c (by omega)]
    have ih := fun acc ha => list_l3 kf s hs Ke m k (c + 1) acc (by omega) (by omega) ha
    cases hm : mem s c with
    | false =>
      simp only [cond_false]
      rw [ih acc (by omega)]
      simp [elems, List.range'_succ, hm]
    | true =>
      simp only [cond_true]
      rw [gd_true (decide_eq_true (by show _ < 17179869184; simp; omega)), ih _ (by simp; omega)]
      simp [elems, List.range'_succ, hm]

theorem list_ok {R : Type} (kf : Nat) (hkf : 300 ≤ kf) (s : List Int) (hs : isSet s) (K : List Int → Option R) : byteset_List kf s K = K (elems s 0 256) := by
  unfold byteset_List byteset_List_b
  have := list_l3 kf s hs (fun v6 => K v6) 256 kf 0 [] (by omega) (by omega) (by simp)
  simpa using this
end Go.Ab.T

/- The lowest bit of a word; which of two sets stands ahead. -/
namespace Go.Ab.T
open Go Go.Ab
set_option linter.unusedVariables false
set_option linter.unusedSimpArgs false

theorem odd_part (n : Nat) : n ≠ 0 → ∃ k m, n = 2 ^ k * (2 * m + 1) := by
  induction n using Nat.strongRecOn with
  | _ n ih =>
    intro h
    by_cases h2 : n % 2 = 1
    · exact ⟨0, n / 2, by rw [Nat.pow_zero, Nat.one_mul]; omega⟩
    · obtain ⟨k, m, e⟩ := ih (n / 2) (by omega) (by omega)
      refine ⟨k + 1, m, ?_⟩
      rw [Nat.pow_succ, Nat.mul_comm (2 ^ k) 2, Nat.mul_assoc, ← e]
      omega

theorem tb_odd (m i : Nat) : (2 * m + 1).testBit (i + 1) = m.testBit i := by
  rw [Nat.testBit_succ]; congr 1; omega
theorem tb_even (m i : Nat) : (2 * m).testBit (i + 1) = m.testBit i := by
  rw [Nat.testBit_succ]; congr 1; omega

theorem odd_bits (k m j : Nat) : (2 ^ k * (2 * m + 1)).testBit j = (decide (j ≥ k) && (2 * m + 1).testBit (j - k)) := Nat.testBit_two_pow_mul

theorem low_and (k m : Nat) (h : 2 ^ k * (2 * m + 1) < 2 ^ 64) : (2 ^ k * (2 * m + 1)) &&& (2 ^ 64 - 2 ^ k * (2 * m + 1)) = 2 ^ k := by
  have hpos : 0 < 2 ^ k := Nat.pow_pos (by omega)
  have e1 : 2 ^ k * (2 * m + 1) - 1 = 2 ^ k * (2 * m) + (2 ^ k - 1) := by
    rw [Nat.mul_succ]; omega
  have e2 : 2 ^ 64 - 2 ^ k * (2 * m + 1) = 2 ^ 64 - ((2 ^ k * (2 * m + 1) - 1) + 1) := by
    have : 0 < 2 ^ k * (2 * m + 1) := Nat.mul_pos hpos (by omega)
    omega
  apply Nat.eq_of_testBit_eq
  intro j
  rw [Nat.testBit_and, e2, Nat.testBit_two_pow_sub_succ (by omega), e1, odd_bits, Nat.testBit_two_pow_mul_add _ (by omega), Nat.testBit_two_pow]
  by_cases hj : j < k
  · have h1 : decide (j ≥ k) = false := decide_eq_false (by omega)
    have h2 : decide (k = j) = false := decide_eq_false (by omega)
    rw [h1, h2]; simp
  · rw [if_neg hj]
    have h1 : decide (j ≥ k) = true := decide_eq_true (by omega)
    rw [h1, Bool.true_and]
    by_cases hjk : k = j
    · subst hjk
      have hk64 : k < 64 := by
        by_cases hk : k < 64
        · exact hk
        · exfalso
          have : 2 ^ 64 ≤ 2 ^ k := Nat.pow_le_pow_right (by omega) (by omega)
          have : 2 ^ k * 1 ≤ 2 ^ k * (2 * m + 1) := Nat.mul_le_mul_left _ (by omega)
          omega
      simp [hk64]
    · obtain ⟨i, hi⟩ : ∃ i, j - k = i + 1 := ⟨j - k - 1, by omega⟩
      rw [hi, tb_odd, tb_even]
      have h2 : decide (k = j) = false := decide_eq_false hjk
      rw [h2]
      cases m.testBit i <;> simp

theorem table_ok : ∀ k : Nat, k < 64 → deBruijn.getD ((2 ^ k * 285870213051353865) % 18446744073709551616 / 288230376151711744) 0 = (k : Int) := by decide +kernel
theorem table_lt : ∀ k : Nat, k < 64 → (2 ^ k * 285870213051353865) % 18446744073709551616 / 288230376151711744 < 64 := by decide +kernel

theorem neg_eq (x : Int) (hx : isW x) (h0 : x ≠ 0) : IntKind.u64.wrap (0 - x) = ((2 ^ 64 - x.toNat : Nat) : Int) := by
  have hlt := isW_lt hx
  rw [IntKind.wrap_u64]
  rw [p64] at hlt ⊢
  have := hx.1
  omega
theorem negW (x : Int) (hx : isW x) (h0 : x ≠ 0) : isW ((2 ^ 64 - x.toNat : Nat) : Int) := by
  have := hx.1
  rw [p64]; constructor <;> omega
theorem mul_eq (n : Nat) : IntKind.u64.wrap (mulZ (n : Int) 285870213051353865) = ((n * 285870213051353865 % 18446744073709551616 : Nat) : Int) := by
  unfold mulZ
  rw [wall_eq, IntKind.wrap_u64]
  omega
theorem mulW (n : Nat) : isW ((n * 285870213051353865 % 18446744073709551616 : Nat) : Int) := by constructor <;> omega
theorem shr58 (n : Nat) : shr .u64 ((n * 285870213051353865 % 18446744073709551616 : Nat) : Int) 58 = ((n * 285870213051353865 % 18446744073709551616 / 288230376151711744 : Nat) : Int) := by
  have h := shr_eq _ 58 (by omega) (mulW n)
  rw [Int.toNat_natCast] at h
  have p58 : (2 : Nat) ^ 58 = 288230376151711744 := by decide
  rw [p58] at h
  exact h
theorem low_eq (x : Int) (hx : isW x) (h0 : x ≠ 0) (k m : Nat) (e : x.toNat = 2 ^ k * (2 * m + 1)) : bvop .u64 .and x (IntKind.u64.wrap (0 - x)) = ((2 ^ k : Nat) : Int) := by
  have hlt := isW_lt hx
  rw [neg_eq x hx h0, and_eq x _ hx (negW x hx h0), Int.toNat_natCast, e, low_and k m (by rw [← e]; exact hlt)]

theorem low_lt (x : Int) (hx : isW x) (k m : Nat) (e : x.toNat = 2 ^ k * (2 * m + 1)) : k < 64 := by
  have hlt := isW_lt hx
  by_cases hk : k < 64
  · exact hk
  · exfalso
    have : 2 ^ 64 ≤ 2 ^ k := Nat.pow_le_pow_right (by omega) (by omega)
    have : 2 ^ k * 1 ≤ 2 ^ k * (2 * m + 1) := Nat.mul_le_mul_left _ (by omega)
    omega

theorem idx_eq (x : Int) (hx : isW x) (h0 : x ≠ 0) (k m : Nat) (e : x.toNat = 2 ^ k * (2 * m + 1)) : ∃ j : Nat, j < 64 ∧ deBruijn.getD j 0 = (k : Int) ∧ shr .u64 (IntKind.u64.wrap (mulZ (bvop .u64 .and x (IntKind.u64.wrap (0 - x))) 285870213051353865)) 58 = (j : Int) := by
  have hk := low_lt x hx k m e
  refine ⟨_, table_lt k hk, table_ok k hk, ?_⟩
  rw [low_eq x hx h0 k m e, mul_eq, shr58]

theorem tz_body {R : Type} (x : Int) (h0 : x ≠ 0) (j k : Nat) (hj : j < 64) (hk : k < 64) (hd : deBruijn.getD j 0 = (k : Int)) (hs : shr .u64 (IntKind.u64.wrap (mulZ (bvop .u64 .and x (IntKind.u64.wrap (0 - x))) 285870213051353865)) 58 = (j : Int)) (K : Int → Option R) : math_bits_TrailingZeros64 x K = K (k : Int) := by
  unfold math_bits_TrailingZeros64 math_bits_TrailingZeros64_b
  rw [hs, decide_eq_false h0, gd_true (decide_eq_true (by omega)), gd_true (decide_eq_true (by omega)), Int.toNat_natCast, hd, wrap_i k (by omega)]
  rfl

/-- the lowest bit that is set -/
theorem tz_ok (x : Int) (hx : isW x) (h0 : x ≠ 0) : ∃ k, k < 64 ∧ bit x k = true ∧ (∀ j, j < k → bit x j = false) ∧ ∀ {R : Type} (K : Int → Option R), math_bits_TrailingZeros64 x K = K (k : Int) := by
  have hn0 : x.toNat ≠ 0 := by have := hx.1; omega
  obtain ⟨k, m, e⟩ := odd_part x.toNat hn0
  have hk64 := low_lt x hx k m e
  obtain ⟨j, hj, hd, hs⟩ := idx_eq x hx h0 k m e
  refine ⟨k, hk64, ?_, ?_, fun K => tz_body x h0 j k hj hk64 hd hs K⟩
  · unfold bit; rw [e, odd_bits]; simp
  · intro i hi
    unfold bit; rw [e, odd_bits]
    have : decide (i ≥ k) = false := decide_eq_false (by omega)
    rw [this, Bool.false_and]
end Go.Ab.T

/- Which of two sets stands ahead. -/
namespace Go.Ab.T
open Go Go.Ab
set_option linter.unusedVariables false
set_option linter.unusedSimpArgs false

noncomputable def lessStep {R : Type} (K : Bool → Option R) (a b : Int) (rest : Option R) : Option R :=
  bif (!(decide (bvop .u64 .xor a b = 0))) then (math_bits_TrailingZeros64 (bvop .u64 .xor a b) (fun v7 => gd (decide (0 ≤ v7)) (K (decide ((bvop .u64 .and (shr .u64 a v7) 1) = 1))))) else rest

theorem less_rfl {R : Type} (k : Nat) (a0 a1 a2 a3 b0 b1 b2 b3 : Int) (K : Bool → Option R) :
    byteset_Less (k + 5) [a0, a1, a2, a3] [b0, b1, b2, b3] K = lessStep K a0 b0 (lessStep K a1 b1 (lessStep K a2 b2 (lessStep K a3 b3 (K false)))) := rfl

theorem step_ok (a b : Int) (ha : isW a) (hb : isW b) : (a = b ∧ ∀ {R : Type} (K : Bool → Option R) (rest : Option R), lessStep K a b rest = rest) ∨
    ∃ k, k < 64 ∧ bit a k ≠ bit b k ∧ (∀ j, j < k → bit a j = bit b j) ∧ ∀ {R : Type} (K : Bool → Option R) (rest : Option R), lessStep K a b rest = K (bit a k) := by
  have hx := xor_isW a b ha hb
  by_cases h : bvop .u64 .xor a b = 0
  · left
    refine ⟨word_ext a b ha hb fun j hj => ?_, fun K rest => ?_⟩
    · have := bit_xor a b ha hb j
      rw [h] at this
      have e : bit 0 j = false := by unfold bit; simp
      rw [e] at this
      revert this
      cases bit a j <;> cases bit b j <;> simp
    · unfold lessStep; rw [decide_eq_true h]; rfl
  · right
    obtain ⟨k, h1, h2, h3, h4⟩ := tz_ok _ hx h
    refine ⟨k, h1, ?_, ?_, fun K rest => ?_⟩
    · rw [bit_xor a b ha hb] at h2
      simpa using h2
    · intro j hj
      have := h3 j hj
      rw [bit_xor a b ha hb] at this
      simpa using this
    · unfold lessStep
      rw [decide_eq_false h, Bool.not_false, cond_true, h4, gd_true (decide_eq_true (by omega)), shr_and1 a k h1 ha]

/-- the first byte that is in one of the two alone is in the first one -/
def ahead (s t : List Int) : Prop := ∃ b, b < 256 ∧ mem s b = true ∧ mem t b = false ∧ ∀ c, c < b → mem s c = mem t c

theorem less_ok (kf : Nat) (hkf : 5 ≤ kf) {s t : List Int} (hs : isSet s) (ht : isSet t) : ∃ r : Bool, (r = true ↔ ahead s t) ∧ ∀ {R : Type} (K : Bool → Option R), byteset_Less kf s t K = K r := by
  obtain ⟨k, rfl⟩ : ∃ k, kf = k + 5 := ⟨kf - 5, by omega⟩
  obtain ⟨a0, a1, a2, a3, rfl, ha0, ha1, ha2, ha3⟩ := four hs
  obtain ⟨b0, b1, b2, b3, rfl, hb0, hb1, hb2, hb3⟩ := four ht
  have word : ∀ (w : Nat) (x y : Int) (j : Nat), w < 4 → j < 64 → isW x → isW y → ([a0, a1, a2, a3] : List Int).getD w 0 = x → ([b0, b1, b2, b3] : List Int).getD w 0 = y → bit x j ≠ bit y j → (∀ i, i < j → bit x i = bit y i) →
      (∀ v, v < w → ([a0, a1, a2, a3] : List Int).getD v 0 = ([b0, b1, b2, b3] : List Int).getD v 0) → (bit x j = true ↔ ahead [a0, a1, a2, a3] [b0, b1, b2, b3]) := by
    intro w x y j hw hj hx hy e1 e2 hne hlow hbefore
    have m1 : mem [a0, a1, a2, a3] (64 * w + j) = bit x j := by
      unfold mem
      rw [show (64 * w + j) / 64 = w by omega, show (64 * w + j) % 64 = j by omega, e1]
    have m2 : mem [b0, b1, b2, b3] (64 * w + j) = bit y j := by
      unfold mem
      rw [show (64 * w + j) / 64 = w by omega, show (64 * w + j) % 64 = j by omega, e2]
    have same : ∀ c, c < 64 * w + j → mem [a0, a1, a2, a3] c = mem [b0, b1, b2, b3] c := by
      intro c hc
      unfold mem
      by_cases hcw : c / 64 < w
      · rw [hbefore _ hcw]
      · have : c / 64 = w := by omega
        rw [this, e1, e2]
        exact hlow _ (by omega)
    constructor
    · intro hb
      refine ⟨64 * w + j, by omega, by rw [m1, hb], ?_, same⟩
      rw [m2]
      cases hq : bit y j with
      | false => rfl
      | true => rw [hb, hq] at hne; exact absurd rfl hne
    · rintro ⟨c, hc, h1, h2, h3⟩
      have hcc : c = 64 * w + j := by
        rcases Nat.lt_trichotomy c (64 * w + j) with h | h | h
        · have := same c h; rw [h1, h2] at this; cases this
        · exact h
        · have := h3 _ h; rw [m1, m2] at this; exact absurd this hne
      subst hcc
      rw [← m1]; exact h1
  rcases step_ok a0 b0 ha0 hb0 with ⟨q0, z0⟩ | ⟨j, hj, n1, n2, z⟩
  · rcases step_ok a1 b1 ha1 hb1 with ⟨q1, z1⟩ | ⟨j, hj, n1, n2, z⟩
    · rcases step_ok a2 b2 ha2 hb2 with ⟨q2, z2⟩ | ⟨j, hj, n1, n2, z⟩
      · rcases step_ok a3 b3 ha3 hb3 with ⟨q3, z3⟩ | ⟨j, hj, n1, n2, z⟩
        · refine ⟨false, ⟨fun h => (nomatch h), ?_⟩, fun K => by rw [less_rfl, z0, z1, z2, z3]⟩
          rintro ⟨c, hc, h1, h2, _⟩
          subst q0 q1 q2 q3
          rw [h1] at h2; cases h2
        · refine ⟨bit a3 j, word 3 a3 b3 j (by omega) hj ha3 hb3 rfl rfl n1 n2 ?_, fun K => by rw [less_rfl, z0, z1, z2, z]⟩
          intro v hv
          match v, hv with
          | 0, _ => exact q0
          | 1, _ => exact q1
          | 2, _ => exact q2
      · refine ⟨bit a2 j, word 2 a2 b2 j (by omega) hj ha2 hb2 rfl rfl n1 n2 ?_, fun K => by rw [less_rfl, z0, z1, z]⟩
        intro v hv
        match v, hv with
        | 0, _ => exact q0
        | 1, _ => exact q1
    · refine ⟨bit a1 j, word 1 a1 b1 j (by omega) hj ha1 hb1 rfl rfl n1 n2 ?_, fun K => by rw [less_rfl, z0, z]⟩
      intro v hv
      match v, hv with
      | 0, _ => exact q0
  · refine ⟨bit a0 j, word 0 a0 b0 j (by omega) hj ha0 hb0 rfl rfl n1 n2 ?_, fun K => by rw [less_rfl, z]⟩
    intro v hv; omega
end Go.Ab.T
