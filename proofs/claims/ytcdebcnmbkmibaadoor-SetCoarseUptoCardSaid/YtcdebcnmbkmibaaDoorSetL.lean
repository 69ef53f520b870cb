/- SetL: a part of the proofs of this seat's statements. -/
import Derived.Test.YtcdebcnmbkmibaaDoorSetTA
import Derived.Laws.BitsLemmas
import Derived.Laws.BitsAllLaws
/- Plain lemmas of loops and lists. -/
namespace Go.Ab.T

/-- a loop that counts up to n: what holds at its head holds on, and at its end (or at a way out) it comes to T -/
theorem loop_inv {α R : Type} (L : Nat → Nat → α → R) (T : R) (n B : Nat) (I : Nat → α → Prop)
    (hexit : ∀ k acc, I n acc → L (k + 1) n acc = T)
    (hstep : ∀ k c acc, B ≤ k → c < n → I c acc → (∃ acc', I (c + 1) acc' ∧ L (k + 1) c acc = L k (c + 1) acc') ∨ L (k + 1) c acc = T) :
    ∀ m k c acc, c + m = n → m + B < k → I c acc → L k c acc = T
  | m, 0, c, acc, _, h, _ => by omega
  | 0, k + 1, c, acc, hc, h, hi => by
    have : c = n := by omega
    subst this
    exact hexit k acc hi
  | m + 1, k + 1, c, acc, hc, h, hi => by
    rcases hstep k c acc (by omega) (by omega) hi with ⟨acc', h1, h2⟩ | h1
    · rw [h2]
      exact loop_inv L T n B I hexit hstep m k (c + 1) acc' (by omega) (by omega) h1
    · exact h1

theorem take_snoc {α : Type} (l : List α) (c : Nat) (h : c < l.length) (d : α) : l.take (c + 1) = l.take c ++ [l.getD c d] := by
  rw [List.take_add_one, List.getD_eq_getElem?_getD, List.getElem?_eq_getElem h]
  rfl
theorem getD_mem {α : Type} (l : List α) (c : Nat) (h : c < l.length) (d : α) : l.getD c d ∈ l := by
  rw [List.getD_eq_getElem?_getD, List.getElem?_eq_getElem h]
  exact List.getElem_mem h
theorem take_all {α : Type} (l : List α) : l.take l.length = l := List.take_length
theorem mem_take {α : Type} {l : List α} {c : Nat} {x : α} (h : x ∈ l.take c) : x ∈ l := List.mem_of_mem_take h
end Go.Ab.T

/- Sets of bytes: what the printed functions come to, told by who is in. -/
namespace Go.Ab.T
open Go Go.Ab
set_option linter.unusedVariables false
set_option linter.unusedSimpArgs false

theorem gd_true {R : Type} {b : Bool} (h : b = true) (x : Option R) : gd b x = x := by subst h; rfl

def isW (x : Int) : Prop := 0 ≤ x ∧ x < 18446744073709551616
/-- a word, by its bits -/
def bit (x : Int) (j : Nat) : Bool := x.toNat.testBit j

theorem bits64 : IntKind.u64.bits = 64 := rfl
theorem p64 : (2 : Nat) ^ 64 = 18446744073709551616 := by decide

theorem bv_nat (x : Int) (hx : isW x) : (BitVec.ofInt IntKind.u64.bits x).toNat = x.toNat := by
  obtain ⟨n, rfl⟩ := Int.eq_ofNat_of_zero_le hx.1
  have : n < 2 ^ 64 := by have := hx.2; rw [p64]; omega
  simp only [BitVec.ofInt_natCast, BitVec.toNat_ofNat, Int.toNat_natCast]
  rw [bits64]
  exact Nat.mod_eq_of_lt this

theorem wrapN (n : Nat) (h : n < 2 ^ 64) : IntKind.u64.wrap (n : Int) = (n : Int) := by
  rw [IntKind.wrap_u64]
  rw [p64] at h
  omega

theorem isW_lt {x : Int} (hx : isW x) : x.toNat < 2 ^ 64 := by
  rw [p64]; have := hx.1; have := hx.2; omega
theorem isW_nat {n : Nat} (h : n < 2 ^ 64) : isW (n : Int) := by
  rw [p64] at h; constructor <;> omega

theorem and_eq (x y : Int) (hx : isW x) (hy : isW y) : bvop .u64 .and x y = ((x.toNat &&& y.toNat : Nat) : Int) := by
  unfold bvop
  simp only [wall_eq]
  rw [BitVec.toNat_and, bv_nat x hx, bv_nat y hy]
  exact wrapN _ (Nat.and_lt_two_pow _ (isW_lt hy))
theorem or_eq (x y : Int) (hx : isW x) (hy : isW y) : bvop .u64 .or x y = ((x.toNat ||| y.toNat : Nat) : Int) := by
  unfold bvop
  simp only [wall_eq]
  rw [BitVec.toNat_or, bv_nat x hx, bv_nat y hy]
  exact wrapN _ (Nat.or_lt_two_pow (isW_lt hx) (isW_lt hy))
theorem xor_eq (x y : Int) (hx : isW x) (hy : isW y) : bvop .u64 .xor x y = ((x.toNat ^^^ y.toNat : Nat) : Int) := by
  unfold bvop
  simp only [wall_eq]
  rw [BitVec.toNat_xor, bv_nat x hx, bv_nat y hy]
  exact wrapN _ (Nat.xor_lt_two_pow (isW_lt hx) (isW_lt hy))

theorem and_isW (x y : Int) (hx : isW x) (hy : isW y) : isW (bvop .u64 .and x y) := by
  rw [and_eq x y hx hy]; exact isW_nat (Nat.and_lt_two_pow _ (isW_lt hy))
theorem or_isW (x y : Int) (hx : isW x) (hy : isW y) : isW (bvop .u64 .or x y) := by
  rw [or_eq x y hx hy]; exact isW_nat (Nat.or_lt_two_pow (isW_lt hx) (isW_lt hy))
theorem xor_isW (x y : Int) (hx : isW x) (hy : isW y) : isW (bvop .u64 .xor x y) := by
  rw [xor_eq x y hx hy]; exact isW_nat (Nat.xor_lt_two_pow (isW_lt hx) (isW_lt hy))
theorem bit_and (x y : Int) (hx : isW x) (hy : isW y) (j : Nat) : bit (bvop .u64 .and x y) j = (bit x j && bit y j) := by
  unfold bit; rw [and_eq x y hx hy, Int.toNat_natCast, Nat.testBit_and]
theorem bit_or (x y : Int) (hx : isW x) (hy : isW y) (j : Nat) : bit (bvop .u64 .or x y) j = (bit x j || bit y j) := by
  unfold bit; rw [or_eq x y hx hy, Int.toNat_natCast, Nat.testBit_or]
theorem bit_xor (x y : Int) (hx : isW x) (hy : isW y) (j : Nat) : bit (bvop .u64 .xor x y) j = (bit x j != bit y j) := by
  unfold bit; rw [xor_eq x y hx hy, Int.toNat_natCast, Nat.testBit_xor]

theorem max_isW : isW IntKind.u64.max := ⟨by decide, by decide⟩
theorem bit_max (j : Nat) (hj : j < 64) : bit IntKind.u64.max j = true := by
  have : IntKind.u64.max.toNat = 2 ^ 64 - 1 := by decide
  unfold bit
  rw [this, Nat.testBit_two_pow_sub_one]
  simpa using hj

theorem word_ext (x y : Int) (hx : isW x) (hy : isW y) (h : ∀ j, j < 64 → bit x j = bit y j) : x = y := by
  have : x.toNat = y.toNat := by
    apply Nat.eq_of_testBit_eq
    intro j
    by_cases hj : j < 64
    · exact h j hj
    · rw [Nat.testBit_lt_two_pow (Nat.lt_of_lt_of_le (isW_lt hx) (Nat.pow_le_pow_right (by omega) (by omega))), Nat.testBit_lt_two_pow (Nat.lt_of_lt_of_le (isW_lt hy) (Nat.pow_le_pow_right (by omega) (by omega)))]
  have := hx.1; have := hy.1
  omega

theorem shr_eq (x : Int) (j : Nat) (hj : j ≤ 64) (hx : isW x) : shr .u64 x (j : Int) = ((x.toNat / 2 ^ j : Nat) : Int) := by
  unfold shr
  have : min (j : Int).toNat IntKind.u64.bits = j := by rw [bits64]; omega
  rw [wall_eq, this, Int.fdiv_eq_ediv_of_nonneg _ (Int.pow_nonneg (by decide))]
  obtain ⟨n, rfl⟩ := Int.eq_ofNat_of_zero_le hx.1
  rw [Int.toNat_natCast, Int.natCast_ediv, Int.natCast_pow]
  rfl
theorem shr_isW (x : Int) (j : Nat) (hj : j ≤ 64) (hx : isW x) : isW (shr .u64 x (j : Int)) := by
  rw [shr_eq x j hj hx]
  exact isW_nat (Nat.lt_of_le_of_lt (Nat.div_le_self _ _) (isW_lt hx))
theorem shr_and1 (x : Int) (j : Nat) (hj : j < 64) (hx : isW x) : decide (bvop .u64 .and (shr .u64 x (j : Int)) 1 = 1) = bit x j := by
  rw [and_eq _ 1 (shr_isW x j (by omega) hx) ⟨by decide, by decide⟩, shr_eq x j (by omega) hx, Int.toNat_natCast]
  have e : (1 : Int).toNat = 1 := rfl
  rw [e, Nat.and_one_is_mod]
  unfold bit
  rw [Nat.testBit_eq_decide_div_mod_eq]
  apply decide_eq_decide.2
  omega
theorem shl1_eq (j : Nat) (hj : j < 64) : shl .u64 1 (j : Int) = ((2 ^ j : Nat) : Int) := by
  unfold shl
  have : min (j : Int).toNat IntKind.u64.bits = j := by rw [bits64]; omega
  rw [wall_eq, this, Int.one_mul]
  have e : (2 : Int) ^ j = ((2 ^ j : Nat) : Int) := by rw [Int.natCast_pow]; rfl
  rw [e]
  exact wrapN _ (Nat.pow_lt_pow_right (by omega) hj)
theorem shl1_isW (j : Nat) (hj : j < 64) : isW (shl .u64 1 (j : Int)) := by
  rw [shl1_eq j hj]; exact isW_nat (Nat.pow_lt_pow_right (by omega) hj)
theorem bit_shl1 (j i : Nat) (hj : j < 64) : bit (shl .u64 1 (j : Int)) i = decide (j = i) := by
  unfold bit
  rw [shl1_eq j hj, Int.toNat_natCast, Nat.testBit_two_pow]

/-! ### sets -/
def isSet (s : List Int) : Prop := s.length = 4 ∧ ∀ x ∈ s, isW x
def mem (s : List Int) (b : Nat) : Bool := bit (s.getD (b / 64) 0) (b % 64)

theorem set_getD {s : List Int} (hs : isSet s) (i : Nat) : isW (s.getD i 0) := by
  rw [List.getD_eq_getElem?_getD]
  by_cases h : i < s.length
  · rw [List.getElem?_eq_getElem h]; exact hs.2 _ (List.getElem_mem h)
  · rw [List.getElem?_eq_none (by omega)]; exact ⟨Int.le_refl _, by decide⟩

theorem set_ext {s t : List Int} (hs : isSet s) (ht : isSet t) (h : ∀ b, b < 256 → mem s b = mem t b) : s = t := by
  apply List.ext_getElem (by rw [hs.1, ht.1])
  intro i h1 h2
  refine word_ext _ _ (hs.2 _ (List.getElem_mem h1)) (ht.2 _ (List.getElem_mem h2)) fun j hj => ?_
  have hi : i < 4 := by rw [← hs.1]; exact h1
  have := h (64 * i + j) (by omega)
  unfold mem at this
  have e1 : (64 * i + j) / 64 = i := by omega
  have e2 : (64 * i + j) % 64 = j := by omega
  rw [e1, e2, List.getD_eq_getElem?_getD, List.getD_eq_getElem?_getD, List.getElem?_eq_getElem h1, List.getElem?_eq_getElem h2] at this
  exact this

theorem zero_isSet : isSet (List.replicate 4 (0 : Int)) := ⟨rfl, fun x hx => by rw [List.mem_replicate] at hx; rw [hx.2]; exact ⟨Int.le_refl _, by decide⟩⟩
theorem mem_zero (b : Nat) : mem (List.replicate 4 (0 : Int)) b = false := by
  unfold mem bit
  rw [List.getD_eq_getElem?_getD, List.getElem?_replicate]
  split <;> simp

theorem has_ok {R : Type} (s : List Int) (hs : isSet s) (b : Nat) (hb : b < 256) (K : Bool → Option R) : byteset_Has s (b : Int) K = K (mem s b) := by
  unfold byteset_Has byteset_Has_b
  have e1 : IntKind.u8.wrap (Int.tdiv (b : Int) 64) = ((b / 64 : Nat) : Int) := by
    rw [Int.tdiv_eq_ediv_of_nonneg (by omega), IntKind.wrap_u8]; omega
  have e2 : Int.tmod (b : Int) 64 = ((b % 64 : Nat) : Int) := by
    rw [Int.tmod_eq_emod_of_nonneg (by omega)]; omega
  rw [e1, e2, gd_true (decide_eq_true (by omega)), gd_true (decide_eq_true (by omega)), gd_true (decide_eq_true (by omega)), Int.toNat_natCast, shr_and1 _ _ (by omega) (set_getD hs _)]
  rfl

theorem getD_setI (l : List Int) (d i : Nat) (v x : Int) : (l.set d v).getD i x = if d = i ∧ i < l.length then v else l.getD i x := by
  rw [List.getD_eq_getElem?_getD, List.getD_eq_getElem?_getD, List.getElem?_set]
  by_cases h : d = i
  · subst h
    by_cases hl : d < l.length
    · simp [hl]
    · rw [if_pos rfl, if_neg hl, if_neg (fun q => hl q.2), List.getElem?_eq_none (by omega)]
  · rw [if_neg h, if_neg (fun q => h q.1)]

/-- one byte more -/
theorem put_mem {s : List Int} (hs : isSet s) (c : Nat) (hc : c < 256) :
    isSet (s.set (c / 64) (bvop .u64 .or (s.getD (c / 64) 0) (shl .u64 1 ((c % 64 : Nat) : Int)))) ∧
    ∀ b, mem (s.set (c / 64) (bvop .u64 .or (s.getD (c / 64) 0) (shl .u64 1 ((c % 64 : Nat) : Int)))) b = (mem s b || decide (c = b)) := by
  have hw := or_isW _ _ (set_getD hs (c / 64)) (shl1_isW (c % 64) (by omega))
  refine ⟨⟨by rw [List.length_set]; exact hs.1, fun x hx => ?_⟩, fun b => ?_⟩
  · rcases List.mem_or_eq_of_mem_set hx with h | h
    · exact hs.2 x h
    · rw [h]; exact hw
  · unfold mem
    rw [getD_setI]
    by_cases h : c / 64 = b / 64 ∧ b / 64 < s.length
    · rw [if_pos h, bit_or _ _ (set_getD hs _) (shl1_isW _ (by omega)), bit_shl1 _ _ (by omega), h.1]
      congr 1
      apply decide_eq_decide.2
      omega
    · rw [if_neg h]
      have : decide (c = b) = false := decide_eq_false (by rintro rfl; exact h ⟨rfl, by rw [hs.1]; omega⟩)
      rw [this, Bool.or_false]
end Go.Ab.T

/- Sets of bytes: ranges, joins, lists. -/
namespace Go.Ab.T
open Go Go.Ab
set_option linter.unusedVariables false
set_option linter.unusedSimpArgs false

theorem wrap_i (n : Nat) (h : n < 1000000) : IntKind.i64.wrap (n : Int) = (n : Int) := by rw [IntKind.wrap_i64]; omega
theorem wrap_i1 (n : Nat) (h : n < 1000000) : IntKind.i64.wrap ((n : Int) + 1) = ((n + 1 : Nat) : Int) := by rw [IntKind.wrap_i64]; omega

theorem range_l3 {R : Type} (kf : Nat) (t : Nat) (ht : t < 256) (z : List Int) (Ke : List Int → List Int → Option R) : ∀ (m k c : Nat) (s : List Int), (t < c ∨ c + m = t + 1) → (t < c → m = 0) → m < k → isSet s →
    ∃ r, isSet r ∧ (∀ b, mem r b = (mem s b || decide (c ≤ b ∧ b ≤ t))) ∧ ∀ _ : True, byteset_Range_l3 kf k (t : Int) z Ke (c : Int) s = Ke z r
  | m, 0, c, s, _, _, hk, _ => by omega
  | 0, k + 1, c, s, hc, h0, hk, hs => by
    have hlt : t < c := by omega
    refine ⟨s, hs, fun b => ?_, fun _ => ?_⟩
    · have : decide (c ≤ b ∧ b ≤ t) = false := decide_eq_false (by omega)
      rw [this, Bool.or_false]
    · have h1 : decide ((c : Int) ≤ (t : Int)) = false := decide_eq_false (by omega)
      simp only [byteset_Range_l3, byteset_Range_l3_b, wrap_i t (by omega), h1, cond_false]
  | m + 1, k + 1, c, s, hc, h0, hk, hs => by
    have hle : c ≤ t := by
      by_cases h : t < c
      · have := h0 h; omega
      · omega
    obtain ⟨p1, p2⟩ := put_mem hs c (by omega)
    obtain ⟨r, r1, r2, r3⟩ := range_l3 kf t ht z Ke m k (c + 1) _ (by omega) (by omega) (by omega) p1
    refine ⟨r, r1, fun b => ?_, fun _ => ?_⟩
    · rw [r2, p2]
      cases mem s b
      · simp only [Bool.false_or]
        by_cases h : c = b
        · subst h; simp [hle]
        · have : decide (c = b) = false := decide_eq_false h
          rw [this, Bool.false_or]
          apply decide_eq_decide.2
          omega
      · simp
    · have h1 : decide ((c : Int) ≤ (t : Int)) = true := decide_eq_true (by omega)
      have e1 : IntKind.i64.wrap (Int.tdiv (c : Int) 64) = ((c / 64 : Nat) : Int) := by
        rw [Int.tdiv_eq_ediv_of_nonneg (by omega), IntKind.wrap_i64]; omega
      have e2 : Int.tmod (c : Int) 64 = ((c % 64 : Nat) : Int) := by
        rw [Int.tmod_eq_emod_of_nonneg (by omega)]; omega
      have g1 : decide (0 ≤ ((c / 64 : Nat) : Int)) = true := decide_eq_true (by omega)
      have g2 : decide (((c / 64 : Nat) : Int) < 4) = true := decide_eq_true (by omega)
      have g3 : decide (0 ≤ ((c % 64 : Nat) : Int)) = true := decide_eq_true (by omega)
      simp only [byteset_Range_l3, byteset_Range_l3_b, wrap_i t (by omega), h1, cond_true, e1, e2, g1, g2, g3, gd, Int.toNat_natCast, wrap_i1 c (by omega)]
      exact r3 trivial

theorem range_ok (kf : Nat) (hkf : 300 ≤ kf) (f t : Nat) (hf : f < 256) (ht : t < 256) : ∃ r, isSet r ∧ (∀ b, mem r b = decide (f ≤ b ∧ b ≤ t)) ∧ ∀ {R : Type} (K : List Int → Option R), byteset_Range kf (f : Int) (t : Int) K = K r := by
  have key : ∀ (R : Type) (K : List Int → Option R), ∃ r, isSet r ∧ (∀ b, mem r b = decide (f ≤ b ∧ b ≤ t)) ∧ byteset_Range kf (f : Int) (t : Int) K = K r := by
    intro R K
    obtain ⟨r, r1, r2, r3⟩ := range_l3 kf t ht (List.replicate 4 (0 : Int)) (fun _ v8 => K v8) (t + 1 - f) kf f (List.replicate 4 (0 : Int)) (by omega) (by omega) (by omega) zero_isSet
    refine ⟨r, r1, fun b => by rw [r2, mem_zero, Bool.false_or], ?_⟩
    unfold byteset_Range byteset_Range_b
    rw [wrap_i f (by omega)]
    exact r3 trivial
  obtain ⟨r, r1, r2, _⟩ := key Unit (fun _ => none)
  refine ⟨r, r1, r2, fun {R} K => ?_⟩
  obtain ⟨r', q1, q2, q3⟩ := key R K
  have : r' = r := set_ext q1 r1 fun b hb => by rw [q2, r2]
  rw [q3, this]

/-! ### joins -/
theorem four {s : List Int} (hs : isSet s) : ∃ a b c d, s = [a, b, c, d] ∧ isW a ∧ isW b ∧ isW c ∧ isW d := by
  obtain ⟨h1, h2⟩ := hs
  match s, h1 with
  | [a, b, c, d], _ => exact ⟨a, b, c, d, rfl, h2 a (by simp), h2 b (by simp), h2 c (by simp), h2 d (by simp)⟩

theorem mem_four (a b c d : Int) (x : Nat) : mem [a, b, c, d] x = bit (if x / 64 = 0 then a else if x / 64 = 1 then b else if x / 64 = 2 then c else if x / 64 = 3 then d else 0) (x % 64) := by
  unfold mem
  congr 1
  rw [List.getD_eq_getElem?_getD]
  match x / 64 with
  | 0 => rfl
  | 1 => rfl
  | 2 => rfl
  | 3 => rfl
  | n + 4 => simp

theorem and_rfl {R : Type} (k : Nat) (a0 a1 a2 a3 b0 b1 b2 b3 : Int) (K : List Int → Option R) :
    byteset_And (k + 5) [a0, a1, a2, a3] [b0, b1, b2, b3] K = K [bvop .u64 .and a0 b0, bvop .u64 .and a1 b1, bvop .u64 .and a2 b2, bvop .u64 .and a3 b3] := rfl
theorem or_rfl {R : Type} (k : Nat) (a0 a1 a2 a3 b0 b1 b2 b3 : Int) (K : List Int → Option R) :
    byteset_Or (k + 5) [a0, a1, a2, a3] [b0, b1, b2, b3] K = K [bvop .u64 .or a0 b0, bvop .u64 .or a1 b1, bvop .u64 .or a2 b2, bvop .u64 .or a3 b3] := rfl
theorem not_rfl {R : Type} (k : Nat) (a0 a1 a2 a3 : Int) (K : List Int → Option R) :
    byteset_Not (k + 5) [a0, a1, a2, a3] K = K [bvop .u64 .xor IntKind.u64.max a0, bvop .u64 .xor IntKind.u64.max a1, bvop .u64 .xor IntKind.u64.max a2, bvop .u64 .xor IntKind.u64.max a3] := rfl

noncomputable def andS (s t : List Int) : List Int := [bvop .u64 .and (s.getD 0 0) (t.getD 0 0), bvop .u64 .and (s.getD 1 0) (t.getD 1 0), bvop .u64 .and (s.getD 2 0) (t.getD 2 0), bvop .u64 .and (s.getD 3 0) (t.getD 3 0)]
noncomputable def orS (s t : List Int) : List Int := [bvop .u64 .or (s.getD 0 0) (t.getD 0 0), bvop .u64 .or (s.getD 1 0) (t.getD 1 0), bvop .u64 .or (s.getD 2 0) (t.getD 2 0), bvop .u64 .or (s.getD 3 0) (t.getD 3 0)]
noncomputable def notS (s : List Int) : List Int := [bvop .u64 .xor IntKind.u64.max (s.getD 0 0), bvop .u64 .xor IntKind.u64.max (s.getD 1 0), bvop .u64 .xor IntKind.u64.max (s.getD 2 0), bvop .u64 .xor IntKind.u64.max (s.getD 3 0)]

theorem four_set {a b c d : Int} (ha : isW a) (hb : isW b) (hc : isW c) (hd : isW d) : isSet [a, b, c, d] :=
  ⟨rfl, fun x hx => by simp at hx; rcases hx with rfl | rfl | rfl | rfl <;> assumption⟩

theorem and_isSet {s t : List Int} (hs : isSet s) (ht : isSet t) : isSet (andS s t) := four_set (and_isW _ _ (set_getD hs _) (set_getD ht _)) (and_isW _ _ (set_getD hs _) (set_getD ht _)) (and_isW _ _ (set_getD hs _) (set_getD ht _)) (and_isW _ _ (set_getD hs _) (set_getD ht _))
theorem or_isSet {s t : List Int} (hs : isSet s) (ht : isSet t) : isSet (orS s t) := four_set (or_isW _ _ (set_getD hs _) (set_getD ht _)) (or_isW _ _ (set_getD hs _) (set_getD ht _)) (or_isW _ _ (set_getD hs _) (set_getD ht _)) (or_isW _ _ (set_getD hs _) (set_getD ht _))
theorem not_isSet {s : List Int} (hs : isSet s) : isSet (notS s) := four_set (xor_isW _ _ max_isW (set_getD hs _)) (xor_isW _ _ max_isW (set_getD hs _)) (xor_isW _ _ max_isW (set_getD hs _)) (xor_isW _ _ max_isW (set_getD hs _))

theorem lt4 {x : Nat} (hx : x < 256) : x / 64 = 0 ∨ x / 64 = 1 ∨ x / 64 = 2 ∨ x / 64 = 3 := by omega
theorem mem_and {s t : List Int} (hs : isSet s) (ht : isSet t) (x : Nat) (hx : x < 256) : mem (andS s t) x = (mem s x && mem t x) := by
  unfold mem andS
  rcases lt4 hx with h | h | h | h <;> rw [h] <;> exact bit_and _ _ (set_getD hs _) (set_getD ht _) _
theorem mem_or {s t : List Int} (hs : isSet s) (ht : isSet t) (x : Nat) (hx : x < 256) : mem (orS s t) x = (mem s x || mem t x) := by
  unfold mem orS
  rcases lt4 hx with h | h | h | h <;> rw [h] <;> exact bit_or _ _ (set_getD hs _) (set_getD ht _) _
theorem mem_not {s : List Int} (hs : isSet s) (x : Nat) (hx : x < 256) : mem (notS s) x = !mem s x := by
  have key : ∀ y, isW y → bit (bvop .u64 .xor IntKind.u64.max y) (x % 64) = !bit y (x % 64) := by
    intro y hy
    rw [bit_xor _ _ max_isW hy, bit_max _ (by omega)]
    cases bit y (x % 64) <;> rfl
  unfold mem notS
  rcases lt4 hx with h | h | h | h <;> rw [h] <;> exact key _ (set_getD hs _)

theorem and_ok {R : Type} (kf : Nat) (hkf : 5 ≤ kf) {s t : List Int} (hs : isSet s) (ht : isSet t) (K : List Int → Option R) : byteset_And kf s t K = K (andS s t) := by
  obtain ⟨a0, a1, a2, a3, rfl, _⟩ := four hs
  obtain ⟨b0, b1, b2, b3, rfl, _⟩ := four ht
  obtain ⟨k, rfl⟩ : ∃ k, kf = k + 5 := ⟨kf - 5, by omega⟩
  exact and_rfl k _ _ _ _ _ _ _ _ K
theorem or_ok {R : Type} (kf : Nat) (hkf : 5 ≤ kf) {s t : List Int} (hs : isSet s) (ht : isSet t) (K : List Int → Option R) : byteset_Or kf s t K = K (orS s t) := by
  obtain ⟨a0, a1, a2, a3, rfl, _⟩ := four hs
  obtain ⟨b0, b1, b2, b3, rfl, _⟩ := four ht
  obtain ⟨k, rfl⟩ : ∃ k, kf = k + 5 := ⟨kf - 5, by omega⟩
  exact or_rfl k _ _ _ _ _ _ _ _ K
theorem not_ok {R : Type} (kf : Nat) (hkf : 5 ≤ kf) {s : List Int} (hs : isSet s) (K : List Int → Option R) : byteset_Not kf s K = K (notS s) := by
  obtain ⟨a0, a1, a2, a3, rfl, _⟩ := four hs
  obtain ⟨k, rfl⟩ : ∃ k, kf = k + 5 := ⟨kf - 5, by omega⟩
  exact not_rfl k _ _ _ _ K

/-! ### lists -/
/-- those from c on, m of them, that are in -/
def elems (s : List Int) (c m : Nat) : List Int := ((List.range' c m).filter fun b : Nat => mem s b).map fun b : Nat => (b : Int)

theorem list_l3 {R : Type} (kf : Nat) (s : List Int) (hs : isSet s) (Ke : List Int → Option R) : ∀ (m k c : Nat) (acc : List Int), c + m = 256 → m < k → acc.length ≤ c → byteset_List_l3 kf k s Ke (c : Int) acc = Ke (acc ++ elems s c m)
  | m, 0, c, acc, _, hk, _ => by omega
  | 0, k + 1, c, acc, hc, hk, ha => by
    have h1 : decide ((c : Int) < 256) = false := decide_eq_false (by omega)
    simp only [byteset_List_l3, byteset_List_l3_b, h1, cond_false, elems, List.range'_zero, List.filter_nil, List.map_nil, List.append_nil]
  | m + 1, k + 1, c, acc, hc, hk, ha => by
    have h1 : decide ((c : Int) < 256) = true := decide_eq_true (by omega)
    have hw : IntKind.u8.wrap (c : Int) = (c : Int) := by rw [IntKind.wrap_u8]; omega
    simp only [byteset_List_l3, byteset_List_l3_b, h1, cond_true, hw]
    rw [has_ok s hs c (by omega), wrap_i1 c (by omega)]
    have ih := fun acc ha => list_l3 kf s hs Ke m k (c + 1) acc (by omega) (by omega) ha
    cases hm : mem s c with
    | false =>
      simp only [cond_false]
      rw [ih acc (by omega)]
      simp [elems, List.range'_succ, hm]
    | true =>
      simp only [cond_true]
      rw [gd_true (decide_eq_true (by show _ < 17179869184; simp; omega)), ih _ (by simp; omega)]
      simp [elems, List.range'_succ, hm]

theorem list_ok {R : Type} (kf : Nat) (hkf : 300 ≤ kf) (s : List Int) (hs : isSet s) (K : List Int → Option R) : byteset_List kf s K = K (elems s 0 256) := by
  unfold byteset_List byteset_List_b
  have := list_l3 kf s hs (fun v6 => K v6) 256 kf 0 [] (by omega) (by omega) (by simp)
  simpa using this
end Go.Ab.T

/- The lowest bit of a word; which of two sets stands ahead. -/
namespace Go.Ab.T
open Go Go.Ab
set_option linter.unusedVariables false
set_option linter.unusedSimpArgs false

theorem odd_part (n : Nat) : n ≠ 0 → ∃ k m, n = 2 ^ k * (2 * m + 1) := by
  induction n using Nat.strongRecOn with
  | _ n ih =>
    intro h
    by_cases h2 : n % 2 = 1
    · exact ⟨0, n / 2, by rw [Nat.pow_zero, Nat.one_mul]; omega⟩
    · obtain ⟨k, m, e⟩ := ih (n / 2) (by omega) (by omega)
      refine ⟨k + 1, m, ?_⟩
      rw [Nat.pow_succ, Nat.mul_comm (2 ^ k) 2, Nat.mul_assoc, ← e]
      omega

theorem tb_odd (m i : Nat) : (2 * m + 1).testBit (i + 1) = m.testBit i := by
  rw [Nat.testBit_succ]; congr 1; omega
theorem tb_even (m i : Nat) : (2 * m).testBit (i + 1) = m.testBit i := by
  rw [Nat.testBit_succ]; congr 1; omega

theorem odd_bits (k m j : Nat) : (2 ^ k * (2 * m + 1)).testBit j = (decide (j ≥ k) && (2 * m + 1).testBit (j - k)) := Nat.testBit_two_pow_mul

theorem low_and (k m : Nat) (h : 2 ^ k * (2 * m + 1) < 2 ^ 64) : (2 ^ k * (2 * m + 1)) &&& (2 ^ 64 - 2 ^ k * (2 * m + 1)) = 2 ^ k := by
  have hpos : 0 < 2 ^ k := Nat.pow_pos (by omega)
  have e1 : 2 ^ k * (2 * m + 1) - 1 = 2 ^ k * (2 * m) + (2 ^ k - 1) := by
    rw [Nat.mul_succ]; omega
  have e2 : 2 ^ 64 - 2 ^ k * (2 * m + 1) = 2 ^ 64 - ((2 ^ k * (2 * m + 1) - 1) + 1) := by
    have : 0 < 2 ^ k * (2 * m + 1) := Nat.mul_pos hpos (by omega)
    omega
  apply Nat.eq_of_testBit_eq
  intro j
  rw [Nat.testBit_and, e2, Nat.testBit_two_pow_sub_succ (by omega), e1, odd_bits, Nat.testBit_two_pow_mul_add _ (by omega), Nat.testBit_two_pow]
  by_cases hj : j < k
  · have h1 : decide (j ≥ k) = false := decide_eq_false (by omega)
    have h2 : decide (k = j) = false := decide_eq_false (by omega)
    rw [h1, h2]; simp
  · rw [if_neg hj]
    have h1 : decide (j ≥ k) = true := decide_eq_true (by omega)
    rw [h1, Bool.true_and]
    by_cases hjk : k = j
    · subst hjk
      have hk64 : k < 64 := by
        by_cases hk : k < 64
        · exact hk
        · exfalso
          have : 2 ^ 64 ≤ 2 ^ k := Nat.pow_le_pow_right (by omega) (by omega)
          have : 2 ^ k * 1 ≤ 2 ^ k * (2 * m + 1) := Nat.mul_le_mul_left _ (by omega)
          omega
      simp [hk64]
    · obtain ⟨i, hi⟩ : ∃ i, j - k = i + 1 := ⟨j - k - 1, by omega⟩
      rw [hi, tb_odd, tb_even]
      have h2 : decide (k = j) = false := decide_eq_false hjk
      rw [h2]
      cases m.testBit i <;> simp

theorem table_ok : ∀ k : Nat, k < 64 → deBruijn.getD ((2 ^ k * 285870213051353865) % 18446744073709551616 / 288230376151711744) 0 = (k : Int) := by decide +kernel
theorem table_lt : ∀ k : Nat, k < 64 → (2 ^ k * 285870213051353865) % 18446744073709551616 / 288230376151711744 < 64 := by decide +kernel

theorem neg_eq (x : Int) (hx : isW x) (h0 : x ≠ 0) : IntKind.u64.wrap (0 - x) = ((2 ^ 64 - x.toNat : Nat) : Int) := by
  have hlt := isW_lt hx
  rw [IntKind.wrap_u64]
  rw [p64] at hlt ⊢
  have := hx.1
  omega
theorem negW (x : Int) (hx : isW x) (h0 : x ≠ 0) : isW ((2 ^ 64 - x.toNat : Nat) : Int) := by
  have := hx.1
  rw [p64]; constructor <;> omega
theorem mul_eq (n : Nat) : IntKind.u64.wrap (mulZ (n : Int) 285870213051353865) = ((n * 285870213051353865 % 18446744073709551616 : Nat) : Int) := by
  unfold mulZ
  rw [wall_eq, IntKind.wrap_u64]
  omega
theorem mulW (n : Nat) : isW ((n * 285870213051353865 % 18446744073709551616 : Nat) : Int) := by constructor <;> omega
theorem shr58 (n : Nat) : shr .u64 ((n * 285870213051353865 % 18446744073709551616 : Nat) : Int) 58 = ((n * 285870213051353865 % 18446744073709551616 / 288230376151711744 : Nat) : Int) := by
  have h := shr_eq _ 58 (by omega) (mulW n)
  rw [Int.toNat_natCast] at h
  have p58 : (2 : Nat) ^ 58 = 288230376151711744 := by decide
  rw [p58] at h
  exact h
theorem low_eq (x : Int) (hx : isW x) (h0 : x ≠ 0) (k m : Nat) (e : x.toNat = 2 ^ k * (2 * m + 1)) : bvop .u64 .and x (IntKind.u64.wrap (0 - x)) = ((2 ^ k : Nat) : Int) := by
  have hlt := isW_lt hx
  rw [neg_eq x hx h0, and_eq x _ hx (negW x hx h0), Int.toNat_natCast, e, low_and k m (by rw [← e]; exact hlt)]

theorem low_lt (x : Int) (hx : isW x) (k m : Nat) (e : x.toNat = 2 ^ k * (2 * m + 1)) : k < 64 := by
  have hlt := isW_lt hx
  by_cases hk : k < 64
  · exact hk
  · exfalso
    have : 2 ^ 64 ≤ 2 ^ k := Nat.pow_le_pow_right (by omega) (by omega)
    have : 2 ^ k * 1 ≤ 2 ^ k * (2 * m + 1) := Nat.mul_le_mul_left _ (by omega)
    omega

theorem idx_eq (x : Int) (hx : isW x) (h0 : x ≠ 0) (k m : Nat) (e : x.toNat = 2 ^ k * (2 * m + 1)) : ∃ j : Nat, j < 64 ∧ deBruijn.getD j 0 = (k : Int) ∧ shr .u64 (IntKind.u64.wrap (mulZ (bvop .u64 .and x (IntKind.u64.wrap (0 - x))) 285870213051353865)) 58 = (j : Int) := by
  have hk := low_lt x hx k m e
  refine ⟨_, table_lt k hk, table_ok k hk, ?_⟩
  rw [low_eq x hx h0 k m e, mul_eq, shr58]

theorem tz_body {R : Type} (x : Int) (h0 : x ≠ 0) (j k : Nat) (hj : j < 64) (hk : k < 64) (hd : deBruijn.getD j 0 = (k : Int)) (hs : shr .u64 (IntKind.u64.wrap (mulZ (bvop .u64 .and x (IntKind.u64.wrap (0 - x))) 285870213051353865)) 58 = (j : Int)) (K : Int → Option R) : math_bits_TrailingZeros64 x K = K (k : Int) := by
  unfold math_bits_TrailingZeros64 math_bits_TrailingZeros64_b
  rw [hs, decide_eq_false h0, gd_true (decide_eq_true (by omega)), gd_true (decide_eq_true (by omega)), Int.toNat_natCast, hd, wrap_i k (by omega)]
  rfl

/-- the lowest bit that is set -/
theorem tz_ok (x : Int) (hx : isW x) (h0 : x ≠ 0) : ∃ k, k < 64 ∧ bit x k = true ∧ (∀ j, j < k → bit x j = false) ∧ ∀ {R : Type} (K : Int → Option R), math_bits_TrailingZeros64 x K = K (k : Int) := by
  have hn0 : x.toNat ≠ 0 := by have := hx.1; omega
  obtain ⟨k, m, e⟩ := odd_part x.toNat hn0
  have hk64 := low_lt x hx k m e
  obtain ⟨j, hj, hd, hs⟩ := idx_eq x hx h0 k m e
  refine ⟨k, hk64, ?_, ?_, fun K => tz_body x h0 j k hj hk64 hd hs K⟩
  · unfold bit; rw [e, odd_bits]; simp
  · intro i hi
    unfold bit; rw [e, odd_bits]
    have : decide (i ≥ k) = false := decide_eq_false (by omega)
    rw [this, Bool.false_and]
end Go.Ab.T

/- Which of two sets stands ahead. -/
namespace Go.Ab.T
open Go Go.Ab
set_option linter.unusedVariables false
set_option linter.unusedSimpArgs false

noncomputable def lessStep {R : Type} (K : Bool → Option R) (a b : Int) (rest : Option R) : Option R :=
  bif (!(decide (bvop .u64 .xor a b = 0))) then (math_bits_TrailingZeros64 (bvop .u64 .xor a b) (fun v7 => gd (decide (0 ≤ v7)) (K (decide ((bvop .u64 .and (shr .u64 a v7) 1) = 1))))) else rest

theorem less_rfl {R : Type} (k : Nat) (a0 a1 a2 a3 b0 b1 b2 b3 : Int) (K : Bool → Option R) :
    byteset_Less (k + 5) [a0, a1, a2, a3] [b0, b1, b2, b3] K = lessStep K a0 b0 (lessStep K a1 b1 (lessStep K a2 b2 (lessStep K a3 b3 (K false)))) := rfl

theorem step_ok (a b : Int) (ha : isW a) (hb : isW b) : (a = b ∧ ∀ {R : Type} (K : Bool → Option R) (rest : Option R), lessStep K a b rest = rest) ∨
    ∃ k, k < 64 ∧ bit a k ≠ bit b k ∧ (∀ j, j < k → bit a j = bit b j) ∧ ∀ {R : Type} (K : Bool → Option R) (rest : Option R), lessStep K a b rest = K (bit a k) := by
  have hx := xor_isW a b ha hb
  by_cases h : bvop .u64 .xor a b = 0
  · left
    refine ⟨word_ext a b ha hb fun j hj => ?_, fun K rest => ?_⟩
    · have := bit_xor a b ha hb j
      rw [h] at this
      have e : bit 0 j = false := by unfold bit; simp
      rw [e] at this
      revert this
      cases bit a j <;> cases bit b j <;> simp
    · unfold lessStep; rw [decide_eq_true h]; rfl
  · right
    obtain ⟨k, h1, h2, h3, h4⟩ := tz_ok _ hx h
    refine ⟨k, h1, ?_, ?_, fun K rest => ?_⟩
    · rw [bit_xor a b ha hb] at h2
      simpa using h2
    · intro j hj
      have := h3 j hj
      rw [bit_xor a b ha hb] at this
      simpa using this
    · unfold lessStep
      rw [decide_eq_false h, Bool.not_false, cond_true, h4, gd_true (decide_eq_true (by omega)), shr_and1 a k h1 ha]

/-- the first byte that is in one of the two alone is in the first one -/
def ahead (s t : List Int) : Prop := ∃ b, b < 256 ∧ mem s b = true ∧ mem t b = false ∧ ∀ c, c < b → mem s c = mem t c

theorem less_ok (kf : Nat) (hkf : 5 ≤ kf) {s t : List Int} (hs : isSet s) (ht : isSet t) : ∃ r : Bool, (r = true ↔ ahead s t) ∧ ∀ {R : Type} (K : Bool → Option R), byteset_Less kf s t K = K r := by
  obtain ⟨k, rfl⟩ : ∃ k, kf = k + 5 := ⟨kf - 5, by omega⟩
  obtain ⟨a0, a1, a2, a3, rfl, ha0, ha1, ha2, ha3⟩ := four hs
  obtain ⟨b0, b1, b2, b3, rfl, hb0, hb1, hb2, hb3⟩ := four ht
  have word : ∀ (w : Nat) (x y : Int) (j : Nat), w < 4 → j < 64 → isW x → isW y → ([a0, a1, a2, a3] : List Int).getD w 0 = x → ([b0, b1, b2, b3] : List Int).getD w 0 = y → bit x j ≠ bit y j → (∀ i, i < j → bit x i = bit y i) →
      (∀ v, v < w → ([a0, a1, a2, a3] : List Int).getD v 0 = ([b0, b1, b2, b3] : List Int).getD v 0) → (bit x j = true ↔ ahead [a0, a1, a2, a3] [b0, b1, b2, b3]) := by
    intro w x y j hw hj hx hy e1 e2 hne hlow hbefore
    have m1 : mem [a0, a1, a2, a3] (64 * w + j) = bit x j := by
      unfold mem
      rw [show (64 * w + j) / 64 = w by omega, show (64 * w + j) % 64 = j by omega, e1]
    have m2 : mem [b0, b1, b2, b3] (64 * w + j) = bit y j := by
      unfold mem
      rw [show (64 * w + j) / 64 = w by omega, show (64 * w + j) % 64 = j by omega, e2]
    have same : ∀ c, c < 64 * w + j → mem [a0, a1, a2, a3] c = mem [b0, b1, b2, b3] c := by
      intro c hc
      unfold mem
      by_cases hcw : c / 64 < w
      · rw [hbefore _ hcw]
      · have : c / 64 = w := by omega
        rw [this, e1, e2]
        exact hlow _ (by omega)
    constructor
    · intro hb
      refine ⟨64 * w + j, by omega, by rw [m1, hb], ?_, same⟩
      rw [m2]
      cases hq : bit y j with
      | false => rfl
      | true => rw [hb, hq] at hne; exact absurd rfl hne
    · rintro ⟨c, hc, h1, h2, h3⟩
      have hcc : c = 64 * w + j := by
        rcases Nat.lt_trichotomy c (64 * w + j) with h | h | h
        · have := same c h; rw [h1, h2] at this; cases this
        · exact h
        · have := h3 _ h; rw [m1, m2] at this; exact absurd this hne
      subst hcc
      rw [← m1]; exact h1
  rcases step_ok a0 b0 ha0 hb0 with ⟨q0, z0⟩ | ⟨j, hj, n1, n2, z⟩
  · rcases step_ok a1 b1 ha1 hb1 with ⟨q1, z1⟩ | ⟨j, hj, n1, n2, z⟩
    · rcases step_ok a2 b2 ha2 hb2 with ⟨q2, z2⟩ | ⟨j, hj, n1, n2, z⟩
      · rcases step_ok a3 b3 ha3 hb3 with ⟨q3, z3⟩ | ⟨j, hj, n1, n2, z⟩
        · refine ⟨false, ⟨fun h => (nomatch h), ?_⟩, fun K => by rw [less_rfl, z0, z1, z2, z3]⟩
          rintro ⟨c, hc, h1, h2, _⟩
          subst q0 q1 q2 q3
          rw [h1] at h2; cases h2
        · refine ⟨bit a3 j, word 3 a3 b3 j (by omega) hj ha3 hb3 rfl rfl n1 n2 ?_, fun K => by rw [less_rfl, z0, z1, z2, z]⟩
          intro v hv
          match v, hv with
          | 0, _ => exact q0
          | 1, _ => exact q1
          | 2, _ => exact q2
      · refine ⟨bit a2 j, word 2 a2 b2 j (by omega) hj ha2 hb2 rfl rfl n1 n2 ?_, fun K => by rw [less_rfl, z0, z1, z]⟩
        intro v hv
        match v, hv with
        | 0, _ => exact q0
        | 1, _ => exact q1
    · refine ⟨bit a1 j, word 1 a1 b1 j (by omega) hj ha1 hb1 rfl rfl n1 n2 ?_, fun K => by rw [less_rfl, z0, z]⟩
      intro v hv
      match v, hv with
      | 0, _ => exact q0
  · refine ⟨bit a0 j, word 0 a0 b0 j (by omega) hj ha0 hb0 rfl rfl n1 n2 ?_, fun K => by rw [less_rfl, z]⟩
    intro v hv; omega
end Go.Ab.T

/- How many bits are set: the sum in parallel, byte by byte. -/
namespace Go.Ab.T
open Go Go.Ab
set_option linter.unusedVariables false
set_option linter.unusedSimpArgs false

/-- a number, by its bytes -/
def ofB : List Nat → Nat
  | [] => 0
  | b :: r => b + 256 * ofB r
def isBy (l : List Nat) : Prop := ∀ b ∈ l, b < 256

theorem and_cons (b h c m : Nat) (hb : b < 256) (hc : c < 256) : (b + 256 * h) &&& (c + 256 * m) = (b &&& c) + 256 * (h &&& m) := by
  have e : (2 : Nat) ^ 8 = 256 := by decide
  have h1 := Nat.and_mod_two_pow (a := b + 256 * h) (b := c + 256 * m) (n := 8)
  have h2 := Nat.and_div_two_pow (a := b + 256 * h) (b := c + 256 * m) (n := 8)
  rw [e] at h1 h2
  have e1 : (b + 256 * h) % 256 = b := by omega
  have e2 : (c + 256 * m) % 256 = c := by omega
  have e3 : (b + 256 * h) / 256 = h := by omega
  have e4 : (c + 256 * m) / 256 = m := by omega
  rw [e1, e2] at h1
  rw [e3, e4] at h2
  have := Nat.div_add_mod ((b + 256 * h) &&& (c + 256 * m)) 256
  omega

theorem and_bytes : ∀ (l m : List Nat), isBy l → isBy m → l.length = m.length → ofB l &&& ofB m = ofB (List.zipWith (· &&& ·) l m)
  | [], [], _, _, _ => rfl
  | b :: l, c :: m, hl, hm, hh => by
    simp only [ofB, List.zipWith_cons_cons]
    rw [and_cons b _ c _ (hl b (by simp)) (hm c (by simp)), and_bytes l m (fun x hx => hl x (by simp [hx])) (fun x hx => hm x (by simp [hx])) (by simpa using hh)]

theorem bytes_of : ∀ (n x : Nat), x < 256 ^ n → ∃ l, l.length = n ∧ isBy l ∧ ofB l = x
  | 0, x, h => ⟨[], rfl, fun b hb => (nomatch hb), by rw [Nat.pow_zero] at h; show 0 = x; omega⟩
  | n + 1, x, h => by
    rw [Nat.pow_succ] at h
    obtain ⟨l, h1, h2, h3⟩ := bytes_of n (x / 256) (by omega)
    refine ⟨x % 256 :: l, by simp [h1], ?_, by simp only [ofB]; rw [h3]; omega⟩
    intro b hb
    rcases List.mem_cons.1 hb with rfl | hb
    · omega
    · exact h2 b hb

/-- shifted by j < 8 bits: what comes in from the byte above -/
def shrB (j : Nat) : List Nat → List Nat
  | [] => []
  | [b] => [b / 2 ^ j]
  | b :: c :: r => (b / 2 ^ j + c % 2 ^ j * 2 ^ (8 - j)) :: shrB j (c :: r)

theorem shr1_bytes : ∀ (l : List Nat), ofB l / 2 = ofB (shrB 1 l)
  | [] => rfl
  | [b] => by simp [ofB, shrB]
  | b :: c :: r => by
    have ih := shr1_bytes (c :: r)
    simp only [ofB, shrB] at ih ⊢
    rw [← ih]
    omega
theorem shr2_bytes : ∀ (l : List Nat), ofB l / 4 = ofB (shrB 2 l)
  | [] => rfl
  | [b] => by simp [ofB, shrB]
  | b :: c :: r => by
    have ih := shr2_bytes (c :: r)
    simp only [ofB, shrB] at ih ⊢
    rw [← ih]
    omega
theorem shr4_bytes : ∀ (l : List Nat), ofB l / 16 = ofB (shrB 4 l)
  | [] => rfl
  | [b] => by simp [ofB, shrB]
  | b :: c :: r => by
    have ih := shr4_bytes (c :: r)
    simp only [ofB, shrB] at ih ⊢
    rw [← ih]
    omega

/-! ### one byte's own sum -/
def pc (b : Nat) : Nat := (List.range 8).countP fun j => b.testBit j
def s1 (b : Nat) : Nat := (b / 2 &&& 85) + (b &&& 85)
def s2 (b : Nat) : Nat := (b / 4 &&& 51) + (b &&& 51)
def s3 (b : Nat) : Nat := (b / 16 + b) &&& 15

theorem s1_in : ∀ b : Nat, b < 256 → ∀ c : Nat, c < 2 → ((b / 2 + c * 128) &&& 85) = (b / 2 &&& 85) := by decide +kernel
theorem s2_in : ∀ b : Nat, b < 256 → ∀ c : Nat, c < 4 → ((b / 4 + c * 64) &&& 51) = (b / 4 &&& 51) := by decide +kernel
theorem pc_all : ∀ b : Nat, b < 256 → s3 (s2 (s1 b)) = pc b ∧ s1 b < 256 ∧ s2 (s1 b) < 256 ∧ (s2 (s1 b)) % 16 + s2 (s1 b) / 16 ≤ 8 ∧ s2 (s1 b) % 16 ≤ 4 ∧ s2 (s1 b) / 16 ≤ 4 ∧ pc b ≤ 8 := by decide +kernel

theorem s3_in : ∀ b : Nat, b < 128 → ∀ c : Nat, c < 5 → ((b / 16 + b + c * 16) &&& 15) = s3 b := by decide +kernel

theorem half (b h : Nat) (hb : b < 256) : (b + 256 * h) / 2 = (b / 2 + h % 2 * 128) + 256 * (h / 2) := by omega
theorem quart (b h : Nat) (hb : b < 256) : (b + 256 * h) / 4 = (b / 4 + h % 4 * 64) + 256 * (h / 4) := by omega
theorem sixt (b h : Nat) (hb : b < 256) : (b + 256 * h) / 16 = (b / 16 + h % 16 * 16) + 256 * (h / 16) := by omega

theorem step1 : ∀ l : List Nat, isBy l → (ofB l / 2 &&& ofB (l.map fun _ => 85)) + (ofB l &&& ofB (l.map fun _ => 85)) = ofB (l.map s1)
  | [], _ => rfl
  | b :: r, h => by
    have hb := h b (by simp)
    have ih := step1 r fun x hx => h x (by simp [hx])
    simp only [List.map_cons, ofB]
    rw [half b _ hb, and_cons _ _ _ _ (by omega) (by omega), and_cons _ _ _ _ hb (by omega), s1_in b hb _ (by omega), ← ih]
    unfold s1
    omega
theorem step2 : ∀ l : List Nat, isBy l → (ofB l / 4 &&& ofB (l.map fun _ => 51)) + (ofB l &&& ofB (l.map fun _ => 51)) = ofB (l.map s2)
  | [], _ => rfl
  | b :: r, h => by
    have hb := h b (by simp)
    have ih := step2 r fun x hx => h x (by simp [hx])
    simp only [List.map_cons, ofB]
    rw [quart b _ hb, and_cons _ _ _ _ (by omega) (by omega), and_cons _ _ _ _ hb (by omega), s2_in b hb _ (by omega), ← ih]
    unfold s2
    omega
theorem ofB_mod16 (l : List Nat) (h : ∀ b ∈ l, b % 16 ≤ 4) : ofB l % 16 ≤ 4 := by
  cases l with
  | nil => exact Nat.zero_le _
  | cons b r => have := h b (by simp); simp only [ofB]; omega
theorem step3 : ∀ l : List Nat, (∀ b ∈ l, b % 16 ≤ 4 ∧ b / 16 ≤ 4) → ((ofB l / 16 + ofB l) &&& ofB (l.map fun _ => 15)) = ofB (l.map s3)
  | [], _ => rfl
  | b :: r, h => by
    have hb := h b (by simp)
    have ih := step3 r fun x hx => h x (by simp [hx])
    have hm := ofB_mod16 r fun x hx => (h x (by simp [hx])).1
    simp only [List.map_cons, ofB]
    have e : (b + 256 * ofB r) / 16 + (b + 256 * ofB r) = (b / 16 + b + ofB r % 16 * 16) + 256 * (ofB r / 16 + ofB r) := by omega
    rw [e, and_cons _ _ _ _ (by omega) (by omega), s3_in b (by omega) _ (by omega), ih]

end Go.Ab.T

/- The last sums of the count of bits. -/
namespace Go.Ab.T
open Go Go.Ab
set_option linter.unusedVariables false
set_option linter.unusedSimpArgs false

theorem cut256 (p q x : Nat) (hp : p < 256) (hx : x = p + 256 * q) : x / 256 = q := by omega
theorem cut64k (a b u y : Nat) (ha : a < 256) (hb : b < 256) (hy : y = a + 256 * b + 65536 * u) : y / 65536 = u := by omega
theorem cut4g (a b c d t z : Nat) (ha : a < 256) (hb : b < 256) (hc : c < 256) (hd : d < 256) (hz : z = a + 256 * b + 65536 * c + 16777216 * d + 4294967296 * t) : z / 4294967296 = t := by omega
theorem lin_y (p0 p1 p2 p3 p4 p5 p6 p7 x y q u : Nat) (hx : x = p0 + 256 * q) (hq : q = p1 + 256 * (p2 + 256 * (p3 + 256 * (p4 + 256 * (p5 + 256 * (p6 + 256 * p7))))))
    (hu : u = (p2 + p3) + 256 * ((p3 + p4) + 256 * ((p4 + p5) + 256 * ((p5 + p6) + 256 * ((p6 + p7) + 256 * p7))))) (hy : y = x + q) : y = (p0 + p1) + 256 * (p1 + p2) + 65536 * u := by
  subst hu hy hx hq; omega
theorem lin_z (p0 p1 p2 p3 p4 p5 p6 p7 y z u t : Nat) (hy : y = (p0 + p1) + 256 * (p1 + p2) + 65536 * u)
    (hu : u = (p2 + p3) + 256 * ((p3 + p4) + 256 * ((p4 + p5) + 256 * ((p5 + p6) + 256 * ((p6 + p7) + 256 * p7)))))
    (ht : t = (p4 + p5 + p6 + p7) + 256 * ((p5 + p6 + p7) + 256 * ((p6 + p7) + 256 * p7))) (hz : z = y + u) :
    z = (p0 + p1 + p2 + p3) + 256 * (p1 + p2 + p3 + p4) + 65536 * (p2 + p3 + p4 + p5) + 16777216 * (p3 + p4 + p5 + p6) + 4294967296 * t := by
  subst ht hz hy hu; omega
theorem lin_f (a b c d e f t z : Nat) (hz : z = a + 256 * b + 65536 * c + 16777216 * d + 4294967296 * t) (ht : t = e + 256 * f) (hs : a + e < 128) : (z + t) % 128 = a + e := by omega

theorem bnd_q (p1 p2 p3 p4 p5 p6 p7 q : Nat) (h1 : p1 ≤ 8) (h2 : p2 ≤ 8) (h3 : p3 ≤ 8) (h4 : p4 ≤ 8) (h5 : p5 ≤ 8) (h6 : p6 ≤ 8) (h7 : p7 ≤ 8) (hq : q = p1 + 256 * (p2 + 256 * (p3 + 256 * (p4 + 256 * (p5 + 256 * (p6 + 256 * p7)))))) : q < 2533274790395905 := by omega
theorem bnd_u (p2 p3 p4 p5 p6 p7 u : Nat) (h2 : p2 ≤ 8) (h3 : p3 ≤ 8) (h4 : p4 ≤ 8) (h5 : p5 ≤ 8) (h6 : p6 ≤ 8) (h7 : p7 ≤ 8) (hu : u = (p2 + p3) + 256 * ((p3 + p4) + 256 * ((p4 + p5) + 256 * ((p5 + p6) + 256 * ((p6 + p7) + 256 * p7))))) : u < 20000000000000 := by omega
theorem bnd_x (p0 q x : Nat) (h0 : p0 ≤ 8) (hx : x = p0 + 256 * q) (hq : q < 2533274790395905) : x < 700000000000000000 := by omega
theorem bnd_y (x q y : Nat) (hx : x < 700000000000000000) (hq : q < 2533274790395905) (hy : y = x + q) : y < 2000000000000000000 := by omega
theorem bnd_z (y u z : Nat) (hx : y < 2000000000000000000) (hq : u < 20000000000000) (hy : z = y + u) : z < 4000000000000000000 := by omega

/-- the sum of eight small bytes, and that nothing overflows on the way -/
theorem sum8' (p0 p1 p2 p3 p4 p5 p6 p7 : Nat) (h0 : p0 ≤ 8) (h1 : p1 ≤ 8) (h2 : p2 ≤ 8) (h3 : p3 ≤ 8) (h4 : p4 ≤ 8) (h5 : p5 ≤ 8) (h6 : p6 ≤ 8) (h7 : p7 ≤ 8) (x y z q u t : Nat)
    (hq : q = p1 + 256 * (p2 + 256 * (p3 + 256 * (p4 + 256 * (p5 + 256 * (p6 + 256 * p7))))))
    (hu : u = (p2 + p3) + 256 * ((p3 + p4) + 256 * ((p4 + p5) + 256 * ((p5 + p6) + 256 * ((p6 + p7) + 256 * p7)))))
    (ht : t = (p4 + p5 + p6 + p7) + 256 * ((p5 + p6 + p7) + 256 * ((p6 + p7) + 256 * p7)))
    (hx : x = p0 + 256 * q) (hy : y = x + x / 256) (hz : z = y + y / 65536) :
    x < 700000000000000000 ∧ y < 2000000000000000000 ∧ z < 4000000000000000000 ∧ (z + z / 4294967296) % 128 = (p0 + p1 + p2 + p3) + (p4 + p5 + p6 + p7) := by
  have e1 := cut256 p0 q x (Nat.lt_of_le_of_lt h0 (by decide)) hx
  rw [e1] at hy
  have hy' := lin_y p0 p1 p2 p3 p4 p5 p6 p7 x y q u hx hq hu hy
  have b01 : p0 + p1 < 256 := by clear hq hu ht hx hy hz hy' e1; omega
  have b12 : p1 + p2 < 256 := by clear hq hu ht hx hy hz hy' e1; omega
  have e2 := cut64k _ _ u y b01 b12 hy'
  rw [e2] at hz
  have hz' := lin_z p0 p1 p2 p3 p4 p5 p6 p7 y z u t hy' hu ht hz
  have c1 : p0 + p1 + p2 + p3 < 256 := by clear hq hu ht hx hy hz hy' e1 e2 hz'; omega
  have c2 : p1 + p2 + p3 + p4 < 256 := by clear hq hu ht hx hy hz hy' e1 e2 hz'; omega
  have c3 : p2 + p3 + p4 + p5 < 256 := by clear hq hu ht hx hy hz hy' e1 e2 hz'; omega
  have c4 : p3 + p4 + p5 + p6 < 256 := by clear hq hu ht hx hy hz hy' e1 e2 hz'; omega
  have c5 : p0 + p1 + p2 + p3 + (p4 + p5 + p6 + p7) < 128 := by clear hq hu ht hx hy hz hy' e1 e2 hz'; omega
  have e3 := cut4g _ _ _ _ t z c1 c2 c3 c4 hz'
  have hf := lin_f _ _ _ _ _ _ t z hz' ht c5
  have bq := bnd_q p1 p2 p3 p4 p5 p6 p7 q h1 h2 h3 h4 h5 h6 h7 hq
  have bu := bnd_u p2 p3 p4 p5 p6 p7 u h2 h3 h4 h5 h6 h7 hu
  have bx := bnd_x p0 q x h0 hx bq
  have bY := bnd_y x q y bx bq hy
  have bz := bnd_z y u z bY bu hz
  exact ⟨bx, bY, bz, by rw [e3]; exact hf⟩

theorem pc_bits (b : Nat) (hb : b < 256) : pc b ≤ 8 := (pc_all b hb).2.2.2.2.2.2

/-- the bits of a number, byte by byte -/
theorem cnt_bytes : ∀ l : List Nat, isBy l → (List.range (8 * l.length)).countP (fun j => (ofB l).testBit j) = (l.map pc).sum
  | [], _ => rfl
  | b :: r, h => by
    have hb := h b (by simp)
    have ih := cnt_bytes r fun x hx => h x (by simp [hx])
    have e : 8 * (b :: r).length = 8 + 8 * r.length := by simp; omega
    rw [e, List.range_add, List.countP_append, List.countP_map, List.map_cons, List.sum_cons, ← ih]
    have key : ∀ j, (ofB (b :: r)).testBit j = if j < 8 then b.testBit j else (ofB r).testBit (j - 8) := by
      intro j
      have : ofB (b :: r) = 2 ^ 8 * ofB r + b := by simp only [ofB]; omega
      rw [this, Nat.testBit_two_pow_mul_add _ (by omega)]
    congr 1
    · unfold pc
      apply List.countP_congr
      intro j hj
      rw [key, if_pos (List.mem_range.1 hj)]
    · apply List.countP_congr
      intro j hj
      simp only [Function.comp]
      rw [key, if_neg (by omega)]
      have : 8 + j - 8 = j := by omega
      rw [this]
end Go.Ab.T

/- How many bits a word has; how many bytes a set has. -/
namespace Go.Ab.T
open Go Go.Ab
set_option linter.unusedVariables false
set_option linter.unusedSimpArgs false

theorem andN (a b : Nat) (ha : a < 2 ^ 64) (hb : b < 2 ^ 64) : bvop .u64 .and (a : Int) (b : Int) = ((a &&& b : Nat) : Int) := by
  rw [and_eq _ _ (isW_nat ha) (isW_nat hb), Int.toNat_natCast, Int.toNat_natCast]
theorem shrN (a j : Nat) (ha : a < 2 ^ 64) (hj : j ≤ 64) : shr .u64 (a : Int) (j : Int) = ((a / 2 ^ j : Nat) : Int) := by
  rw [shr_eq _ j hj (isW_nat ha), Int.toNat_natCast]
theorem wrapA (a b : Nat) (h : a + b < 2 ^ 64) : IntKind.u64.wrap ((a : Int) + (b : Int)) = ((a + b : Nat) : Int) := by
  have := wrapN (a + b) h
  rw [Int.natCast_add] at this
  rw [this, Int.natCast_add]

theorem ofB_lt : ∀ l : List Nat, isBy l → ofB l < 256 ^ l.length
  | [], _ => by decide
  | b :: r, h => by
    have hb := h b (by simp)
    have ih := ofB_lt r fun x hx => h x (by simp [hx])
    simp only [ofB, List.length_cons]
    rw [Nat.pow_succ]
    omega
theorem lt8 {l : List Nat} (h : isBy l) (hl : l.length = 8) : ofB l < 2 ^ 64 := by
  have := ofB_lt l h
  rw [hl] at this
  have e : 256 ^ 8 = 2 ^ 64 := by decide
  rw [← e]; exact this
theorem isBy_map (f : Nat → Nat) {l : List Nat} (h : ∀ b ∈ l, f b < 256) : isBy (l.map f) := by
  intro x hx
  rw [List.mem_map] at hx
  obtain ⟨b, hb, rfl⟩ := hx
  exact h b hb

theorem m85 (l : List Nat) (hl : l.length = 8) : ofB (l.map fun _ => 85) = 6148914691236517205 := by
  match l, hl with
  | [_, _, _, _, _, _, _, _], _ => simp only [List.map_cons, List.map_nil, ofB]
theorem m51 (l : List Nat) (hl : l.length = 8) : ofB (l.map fun _ => 51) = 3689348814741910323 := by
  match l, hl with
  | [_, _, _, _, _, _, _, _], _ => simp only [List.map_cons, List.map_nil, ofB]
theorem m15 (l : List Nat) (hl : l.length = 8) : ofB (l.map fun _ => 15) = 1085102592571150095 := by
  match l, hl with
  | [_, _, _, _, _, _, _, _], _ => simp only [List.map_cons, List.map_nil, ofB]
theorem w85 : (6148914691236517205 : Nat) < 2 ^ 64 := by decide
theorem w51 : (3689348814741910323 : Nat) < 2 ^ 64 := by decide
theorem w15 : (1085102592571150095 : Nat) < 2 ^ 64 := by decide

theorem st1 (l : List Nat) (hl : l.length = 8) (h : isBy l) :
    IntKind.u64.wrap ((bvop .u64 .and (shr .u64 (ofB l : Int) 1) 6148914691236517205) + (bvop .u64 .and (ofB l : Int) 6148914691236517205)) = (ofB (l.map s1) : Int) := by
  have hlt := lt8 h hl
  have h1 := shrN (ofB l) 1 hlt (by omega)
  have h2 := andN (ofB l / 2 ^ 1) 6148914691236517205 (Nat.lt_of_le_of_lt (Nat.div_le_self _ _) hlt) w85
  have h3 := andN (ofB l) 6148914691236517205 hlt w85
  have e := step1 l h
  rw [m85 l hl] at e
  have hr : ofB (l.map s1) < 2 ^ 64 := lt8 (isBy_map _ fun b hb => (pc_all b (h b hb)).2.1) (by simp [hl])
  have p1 : (2 : Nat) ^ 1 = 2 := rfl
  rw [p1] at h1 h2
  have h1' : shr .u64 (ofB l : Int) 1 = ((ofB l / 2 : Nat) : Int) := h1
  have h2' : bvop .u64 .and ((ofB l / 2 : Nat) : Int) 6148914691236517205 = ((ofB l / 2 &&& 6148914691236517205 : Nat) : Int) := h2
  have h3' : bvop .u64 .and (ofB l : Int) 6148914691236517205 = ((ofB l &&& 6148914691236517205 : Nat) : Int) := h3
  rw [h1', h2', h3', wrapA _ _ (by rw [e]; exact hr), e]

theorem st2 (l : List Nat) (hl : l.length = 8) (h : isBy l) (h2 : ∀ b ∈ l, s2 b < 256) :
    IntKind.u64.wrap ((bvop .u64 .and (shr .u64 (ofB l : Int) 2) 3689348814741910323) + (bvop .u64 .and (ofB l : Int) 3689348814741910323)) = (ofB (l.map s2) : Int) := by
  have hlt := lt8 h hl
  have h1 := shrN (ofB l) 2 hlt (by omega)
  have hh2 := andN (ofB l / 2 ^ 2) 3689348814741910323 (Nat.lt_of_le_of_lt (Nat.div_le_self _ _) hlt) w51
  have h3 := andN (ofB l) 3689348814741910323 hlt w51
  have e := step2 l h
  rw [m51 l hl] at e
  have hr : ofB (l.map s2) < 2 ^ 64 := lt8 (isBy_map _ h2) (by simp [hl])
  have p1 : (2 : Nat) ^ 2 = 4 := rfl
  rw [p1] at h1 hh2
  have h1' : shr .u64 (ofB l : Int) 2 = ((ofB l / 4 : Nat) : Int) := h1
  have h2' : bvop .u64 .and ((ofB l / 4 : Nat) : Int) 3689348814741910323 = ((ofB l / 4 &&& 3689348814741910323 : Nat) : Int) := hh2
  have h3' : bvop .u64 .and (ofB l : Int) 3689348814741910323 = ((ofB l &&& 3689348814741910323 : Nat) : Int) := h3
  rw [h1', h2', h3', wrapA _ _ (by rw [e]; exact hr), e]

theorem ofB_le68 : ∀ l : List Nat, (∀ b ∈ l, b ≤ 68) → ofB l ≤ 68 * ofB (l.map fun _ => 1)
  | [], _ => by decide
  | b :: r, h => by
    have hb := h b (by simp)
    have ih := ofB_le68 r fun x hx => h x (by simp [hx])
    simp only [ofB, List.map_cons]
    omega
theorem st3 (l : List Nat) (hl : l.length = 8) (h : ∀ b ∈ l, b % 16 ≤ 4 ∧ b / 16 ≤ 4) :
    bvop .u64 .and (IntKind.u64.wrap ((shr .u64 (ofB l : Int) 4) + (ofB l : Int))) 1085102592571150095 = (ofB (l.map s3) : Int) := by
  have hb : isBy l := fun b hb => by have := h b hb; omega
  have hlt := lt8 hb hl
  have h1 := shrN (ofB l) 4 hlt (by omega)
  have p1 : (2 : Nat) ^ 4 = 16 := rfl
  rw [p1] at h1
  have h1' : shr .u64 (ofB l : Int) 4 = ((ofB l / 16 : Nat) : Int) := h1
  have hle := ofB_le68 l fun b hb => by have := h b hb; omega
  have e1 : ofB (l.map fun _ => 1) = 72340172838076673 := by
    match l, hl with
    | [_, _, _, _, _, _, _, _], _ => simp only [List.map_cons, List.map_nil, ofB]
  rw [e1] at hle
  have hs : ofB l / 16 + ofB l < 2 ^ 64 := by rw [p64]; omega
  have e := step3 l h
  rw [m15 l hl] at e
  have h3 := andN (ofB l / 16 + ofB l) 1085102592571150095 hs w15
  have h3' : bvop .u64 .and ((ofB l / 16 + ofB l : Nat) : Int) 1085102592571150095 = ((ofB l / 16 + ofB l &&& 1085102592571150095 : Nat) : Int) := h3
  rw [h1', wrapA _ _ hs, h3', e]

/-- the last three sums -/
theorem st456 {R : Type} (l : List Nat) (hl : l.length = 8) (h : ∀ b ∈ l, b ≤ 8) (v4 : Int) (hv : v4 = (ofB l : Int)) (K : Int → Option R) :
    (let v5 : Int := (IntKind.u64.wrap ((IntKind.u64.wrap (v4 + (shr .u64 v4 8))) + (shr .u64 (IntKind.u64.wrap (v4 + (shr .u64 v4 8))) 16)))
    let v6 : Int := (bvop .i64 .and (IntKind.i64.wrap (IntKind.u64.wrap (v5 + (shr .u64 v5 32)))) 127)
    K v6) = K (l.sum : Int) := by
  match l, hl with
  | [p0, p1, p2, p3, p4, p5, p6, p7], _ =>
    obtain ⟨x, hx0⟩ : ∃ x, x = ofB [p0, p1, p2, p3, p4, p5, p6, p7] := ⟨_, rfl⟩
    obtain ⟨q, hq0⟩ : ∃ q, q = ofB [p1, p2, p3, p4, p5, p6, p7] := ⟨_, rfl⟩
    obtain ⟨u, hu0⟩ : ∃ u, u = ofB [p2 + p3, p3 + p4, p4 + p5, p5 + p6, p6 + p7, p7] := ⟨_, rfl⟩
    obtain ⟨t, ht0⟩ : ∃ t, t = ofB [p4 + p5 + p6 + p7, p5 + p6 + p7, p6 + p7, p7] := ⟨_, rfl⟩
    have hx : x = p0 + 256 * q := by rw [hx0, hq0]; rfl
    have hq : q = p1 + 256 * (p2 + 256 * (p3 + 256 * (p4 + 256 * (p5 + 256 * (p6 + 256 * p7))))) := by rw [hq0]; simp only [ofB, Nat.mul_zero, Nat.add_zero]
    have hu : u = (p2 + p3) + 256 * ((p3 + p4) + 256 * ((p4 + p5) + 256 * ((p5 + p6) + 256 * ((p6 + p7) + 256 * p7)))) := by rw [hu0]; simp only [ofB, Nat.mul_zero, Nat.add_zero]
    have ht : t = (p4 + p5 + p6 + p7) + 256 * ((p5 + p6 + p7) + 256 * ((p6 + p7) + 256 * p7)) := by rw [ht0]; simp only [ofB, Nat.mul_zero, Nat.add_zero]
    rw [← hx0] at hv
    obtain ⟨y, hy⟩ : ∃ y, y = x + x / 256 := ⟨_, rfl⟩
    obtain ⟨z, hz⟩ : ∃ z, z = y + y / 65536 := ⟨_, rfl⟩
    obtain ⟨b1, b2, b3, b4⟩ := sum8' p0 p1 p2 p3 p4 p5 p6 p7 (h _ (by simp)) (h _ (by simp)) (h _ (by simp)) (h _ (by simp)) (h _ (by simp)) (h _ (by simp)) (h _ (by simp)) (h _ (by simp)) x y z q u t hq hu ht hx hy hz
    clear hq hu ht hx hq0 hu0 ht0 hx0
    subst hv
    have x1 : shr .u64 (x : Int) 8 = ((x / 256 : Nat) : Int) := shrN x 8 (by rw [p64]; omega) (by omega)
    have x2 : IntKind.u64.wrap ((x : Int) + ((x / 256 : Nat) : Int)) = (y : Int) := by rw [wrapA _ _ (by rw [p64]; omega), hy]
    have y1 : shr .u64 (y : Int) 16 = ((y / 65536 : Nat) : Int) := shrN y 16 (by rw [p64]; omega) (by omega)
    have y2 : IntKind.u64.wrap ((y : Int) + ((y / 65536 : Nat) : Int)) = (z : Int) := by rw [wrapA _ _ (by rw [p64]; omega), hz]
    have z1 : shr .u64 (z : Int) 32 = ((z / 4294967296 : Nat) : Int) := shrN z 32 (by rw [p64]; omega) (by omega)
    have z2 : IntKind.u64.wrap ((z : Int) + ((z / 4294967296 : Nat) : Int)) = ((z + z / 4294967296 : Nat) : Int) := wrapA _ _ (by rw [p64]; omega)
    have z3 : IntKind.i64.wrap ((z + z / 4294967296 : Nat) : Int) = ((z + z / 4294967296 : Nat) : Int) := by rw [IntKind.wrap_i64]; omega
    have z4 : bvop .i64 .and ((z + z / 4294967296 : Nat) : Int) 127 = (((z + z / 4294967296) % 128 : Nat) : Int) := by
      have hlt : z + z / 4294967296 < 2 ^ 63 := by have e : (2 : Nat) ^ 63 = 9223372036854775808 := by decide
                                                   rw [e]; omega
      generalize z + z / 4294967296 = w at hlt
      unfold bvop
      simp only [wall_eq]
      have e1 : (BitVec.ofInt IntKind.i64.bits (w : Int) &&& BitVec.ofInt IntKind.i64.bits 127).toNat = w % 128 := by
        rw [BitVec.toNat_and]
        have a1 : (BitVec.ofInt IntKind.i64.bits (w : Int)).toNat = w := by
          simp only [BitVec.ofInt_natCast, BitVec.toNat_ofNat]
          exact Nat.mod_eq_of_lt (Nat.lt_of_lt_of_le hlt (by decide))
        have a2 : (BitVec.ofInt IntKind.i64.bits 127).toNat = 2 ^ 7 - 1 := by decide
        rw [a1, a2, Nat.and_two_pow_sub_one_eq_mod]
      rw [e1, IntKind.wrap_i64]
      omega
    simp only [x1, x2, y1, y2, z1, z2, z3, z4]
    rw [b4]
    congr 2
    simp only [List.sum_cons, List.sum_nil]
    omega

/-- how many bits a word has -/
def cnt (x : Int) : Nat := (List.range 64).countP fun j => bit x j

theorem ones_ok {R : Type} (x : Int) (hx : isW x) (K : Int → Option R) : math_bits_OnesCount64 x K = K (cnt x : Int) := by
  obtain ⟨l, hl, hb, he⟩ := bytes_of 8 x.toNat (by have := isW_lt hx; have e : 256 ^ 8 = 2 ^ 64 := by decide
                                                   rw [e]; exact this)
  have hxe : x = (ofB l : Int) := by rw [he]; have := hx.1; omega
  have hcnt : cnt x = ((((l.map s1).map s2).map s3)).sum := by
    have e2 : ((l.map s1).map s2).map s3 = l.map pc := by
      rw [List.map_map, List.map_map]
      apply List.map_congr_left
      intro b hb'
      exact (pc_all b (hb b hb')).1
    rw [e2, ← cnt_bytes l hb]
    unfold cnt bit
    rw [← he, hl]
  unfold math_bits_OnesCount64 math_bits_OnesCount64_b
  rw [hxe]
  have q1 := st1 l hl hb
  have q2 := st2 (l.map s1) (by simp [hl]) (isBy_map _ fun b hb' => (pc_all b (hb b hb')).2.1) (by
    intro b hb'
    rw [List.mem_map] at hb'
    obtain ⟨c, hc, rfl⟩ := hb'
    exact (pc_all c (hb c hc)).2.2.1)
  have q3 := st3 ((l.map s1).map s2) (by simp [hl]) (by
    intro b hb'
    rw [List.map_map, List.mem_map] at hb'
    obtain ⟨c, hc, rfl⟩ := hb'
    exact ⟨(pc_all c (hb c hc)).2.2.2.2.1, (pc_all c (hb c hc)).2.2.2.2.2.1⟩)
  have q4 := st456 (((l.map s1).map s2).map s3) (by simp [hl]) (by
    intro b hb'
    rw [List.map_map, List.map_map, List.mem_map] at hb'
    obtain ⟨c, hc, rfl⟩ := hb'
    show s3 (s2 (s1 c)) ≤ 8
    rw [(pc_all c (hb c hc)).1]
    exact pc_bits c (hb c hc)) _ rfl K
  rw [q1]
  simp only [q2]
  simp only [q3]
  rw [q4, ← hxe, hcnt]

theorem cnt_le (x : Int) : cnt x ≤ 64 := by
  unfold cnt
  have := List.countP_le_length (p := fun j => bit x j) (l := List.range 64)
  simpa using this

theorem elems_length (s : List Int) (c m : Nat) : (elems s c m).length = (List.range' c m).countP fun b => mem s b := by
  unfold elems
  rw [List.length_map, List.countP_eq_length_filter]

theorem cnt_word (s : List Int) (i : Nat) : (List.range' (64 * i) 64).countP (fun b => mem s b) = cnt (s.getD i 0) := by
  unfold cnt
  rw [List.range'_eq_map_range, List.countP_map]
  apply List.countP_congr
  intro j hj
  have hj := List.mem_range.1 hj
  unfold mem
  simp only [Function.comp]
  rw [show (64 * i + j) / 64 = i by omega, show (64 * i + j) % 64 = j by omega]

theorem elems_cnt (s : List Int) : (elems s 0 256).length = cnt (s.getD 0 0) + (cnt (s.getD 1 0) + (cnt (s.getD 2 0) + cnt (s.getD 3 0))) := by
  rw [elems_length]
  have e : List.range' 0 256 = List.range' (64 * 0) 64 ++ (List.range' (64 * 1) 64 ++ (List.range' (64 * 2) 64 ++ List.range' (64 * 3) 64)) := by decide +kernel
  rw [e, List.countP_append, List.countP_append, List.countP_append, cnt_word, cnt_word, cnt_word, cnt_word]

noncomputable def lenStep {R : Type} (x : Int) (acc : Int) (rest : Int → Option R) : Option R := math_bits_OnesCount64 x fun v => rest (IntKind.i64.wrap (acc + v))
theorem len_rfl {R : Type} (k : Nat) (a0 a1 a2 a3 : Int) (K : Int → Option R) :
    byteset_Len (k + 5) [a0, a1, a2, a3] K = lenStep a0 0 fun r0 => lenStep a1 r0 fun r1 => lenStep a2 r1 fun r2 => lenStep a3 r2 K := rfl

theorem len_ok {R : Type} (kf : Nat) (hkf : 5 ≤ kf) {s : List Int} (hs : isSet s) (K : Int → Option R) : byteset_Len kf s K = K ((elems s 0 256).length : Int) := by
  obtain ⟨a0, a1, a2, a3, rfl, h0, h1, h2, h3⟩ := four hs
  obtain ⟨k, rfl⟩ : ∃ k, kf = k + 5 := ⟨kf - 5, by omega⟩
  rw [len_rfl, elems_cnt]
  unfold lenStep
  simp only [ones_ok a0 h0, ones_ok a1 h1, ones_ok a2 h2, ones_ok a3 h3]
  have := cnt_le a0; have := cnt_le a1; have := cnt_le a2; have := cnt_le a3
  congr 1
  simp only [List.getD_cons_zero, List.getD_cons_succ, IntKind.wrap_i64]
  omega
end Go.Ab.T

/- Sets, by who is in: of a list, of a range, joins, lists. -/
namespace Go.Ab.T
open Go Go.Ab
set_option linter.unusedVariables false
set_option linter.unusedSimpArgs false

theorem ex_set (p : Nat → Bool) : ∀ n, n ≤ 256 → ∃ r, isSet r ∧ ∀ b, mem r b = (decide (b < n) && p b)
  | 0, _ => ⟨List.replicate 4 0, zero_isSet, fun b => by rw [mem_zero]; simp⟩
  | n + 1, h => by
    obtain ⟨r, h1, h2⟩ := ex_set p n (by omega)
    cases hp : p n with
    | false =>
      refine ⟨r, h1, fun b => ?_⟩
      rw [h2]
      by_cases hb : b = n
      · subst hb; simp [hp]
      · have : decide (b < n + 1) = decide (b < n) := decide_eq_decide.2 (by omega)
        rw [this]
    | true =>
      obtain ⟨q1, q2⟩ := put_mem h1 n (by omega)
      refine ⟨_, q1, fun b => ?_⟩
      rw [q2, h2]
      by_cases hb : n = b
      · subst hb; simp [hp]
      · have : decide (b < n + 1) = decide (b < n) := decide_eq_decide.2 (by omega)
        rw [this, decide_eq_false hb, Bool.or_false]

noncomputable def setOf (p : Nat → Bool) : List Int := (ex_set p 256 (Nat.le_refl _)).choose
theorem setOf_isSet (p : Nat → Bool) : isSet (setOf p) := (ex_set p 256 (Nat.le_refl _)).choose_spec.1
theorem mem_setOf (p : Nat → Bool) (b : Nat) (hb : b < 256) : mem (setOf p) b = p b := by
  have := (ex_set p 256 (Nat.le_refl _)).choose_spec.2 b
  rw [decide_eq_true hb, Bool.true_and] at this
  exact this
theorem eq_setOf {s : List Int} (hs : isSet s) {p : Nat → Bool} (h : ∀ b, b < 256 → mem s b = p b) : s = setOf p :=
  set_ext hs (setOf_isSet p) fun b hb => by rw [h b hb, mem_setOf p b hb]
theorem setOf_congr {p q : Nat → Bool} (h : ∀ b, b < 256 → p b = q b) : setOf p = setOf q :=
  eq_setOf (setOf_isSet p) fun b hb => by rw [mem_setOf p b hb, h b hb]
theorem setOf_inj {p q : Nat → Bool} (h : setOf p = setOf q) (b : Nat) (hb : b < 256) : p b = q b := by
  rw [← mem_setOf p b hb, h, mem_setOf q b hb]
theorem setOf_mem {s : List Int} (hs : isSet s) : setOf (mem s) = s := (eq_setOf hs fun _ _ => rfl).symm
theorem zero_setOf : List.replicate 4 (0 : Int) = setOf fun _ => false := eq_setOf zero_isSet fun b _ => mem_zero b

theorem range_s {R : Type} (kf : Nat) (hkf : 300 ≤ kf) (f t : Nat) (hf : f < 256) (ht : t < 256) (K : List Int → Option R) : byteset_Range kf (f : Int) (t : Int) K = K (setOf fun b => decide (f ≤ b ∧ b ≤ t)) := by
  obtain ⟨r, h1, h2, h3⟩ := range_ok kf hkf f t hf ht
  rw [h3, eq_setOf h1 fun b _ => h2 b]
theorem has_s {R : Type} (p : Nat → Bool) (b : Nat) (hb : b < 256) (K : Bool → Option R) : byteset_Has (setOf p) (b : Int) K = K (p b) := by
  rw [has_ok _ (setOf_isSet p) b hb, mem_setOf p b hb]
theorem and_s {R : Type} (kf : Nat) (hkf : 300 ≤ kf) (p q : Nat → Bool) (K : List Int → Option R) : byteset_And kf (setOf p) (setOf q) K = K (setOf fun b => p b && q b) := by
  rw [and_ok kf (by omega) (setOf_isSet p) (setOf_isSet q)]
  congr 1
  exact eq_setOf (and_isSet (setOf_isSet p) (setOf_isSet q)) fun b hb => by rw [mem_and (setOf_isSet p) (setOf_isSet q) b hb, mem_setOf p b hb, mem_setOf q b hb]
theorem or_s {R : Type} (kf : Nat) (hkf : 300 ≤ kf) (p q : Nat → Bool) (K : List Int → Option R) : byteset_Or kf (setOf p) (setOf q) K = K (setOf fun b => p b || q b) := by
  rw [or_ok kf (by omega) (setOf_isSet p) (setOf_isSet q)]
  congr 1
  exact eq_setOf (or_isSet (setOf_isSet p) (setOf_isSet q)) fun b hb => by rw [mem_or (setOf_isSet p) (setOf_isSet q) b hb, mem_setOf p b hb, mem_setOf q b hb]
theorem not_s {R : Type} (kf : Nat) (hkf : 300 ≤ kf) (p : Nat → Bool) (K : List Int → Option R) : byteset_Not kf (setOf p) K = K (setOf fun b => !p b) := by
  rw [not_ok kf (by omega) (setOf_isSet p)]
  congr 1
  exact eq_setOf (not_isSet (setOf_isSet p)) fun b hb => by rw [mem_not (setOf_isSet p) b hb, mem_setOf p b hb]

/-- those that are in, rising -/
def listOf (p : Nat → Bool) : List Int := ((List.range 256).filter p).map fun b : Nat => (b : Int)
theorem elems_setOf (p : Nat → Bool) : elems (setOf p) 0 256 = listOf p := by
  unfold elems listOf
  rw [List.range_eq_range']
  congr 1
  apply List.filter_congr
  intro b hb
  have : b < 256 := by
    rw [List.mem_range'_1] at hb; omega
  exact mem_setOf p b this
theorem list_s {R : Type} (kf : Nat) (hkf : 300 ≤ kf) (p : Nat → Bool) (K : List Int → Option R) : byteset_List kf (setOf p) K = K (listOf p) := by
  rw [list_ok kf hkf _ (setOf_isSet p), elems_setOf]
theorem len_s {R : Type} (kf : Nat) (hkf : 300 ≤ kf) (p : Nat → Bool) (K : Int → Option R) : byteset_Len kf (setOf p) K = K ((listOf p).length : Int) := by
  rw [len_ok kf (by omega) (setOf_isSet p), elems_setOf]

def aheadP (p q : Nat → Bool) : Prop := ∃ b, b < 256 ∧ p b = true ∧ q b = false ∧ ∀ c, c < b → p c = q c
theorem ahead_setOf (p q : Nat → Bool) : ahead (setOf p) (setOf q) ↔ aheadP p q := by
  unfold ahead aheadP
  constructor
  · rintro ⟨b, hb, h1, h2, h3⟩
    rw [mem_setOf p b hb] at h1
    rw [mem_setOf q b hb] at h2
    exact ⟨b, hb, h1, h2, fun c hc => by have := h3 c hc; rwa [mem_setOf p c (by omega), mem_setOf q c (by omega)] at this⟩
  · rintro ⟨b, hb, h1, h2, h3⟩
    exact ⟨b, hb, by rw [mem_setOf p b hb]; exact h1, by rw [mem_setOf q b hb]; exact h2, fun c hc => by rw [mem_setOf p c (by omega), mem_setOf q c (by omega)]; exact h3 c hc⟩
theorem less_s (kf : Nat) (hkf : 300 ≤ kf) (p q : Nat → Bool) : ∃ r : Bool, (r = true ↔ aheadP p q) ∧ ∀ {R : Type} (K : Bool → Option R), byteset_Less kf (setOf p) (setOf q) K = K r := by
  obtain ⟨r, h1, h2⟩ := less_ok kf (by omega) (setOf_isSet p) (setOf_isSet q)
  exact ⟨r, by rw [h1, ahead_setOf], h2⟩

/-! ### the set of a list -/
def isB (l : List Int) : Prop := ∀ x ∈ l, 0 ≤ x ∧ x ≤ 255
theorem idx64 (y : Nat) (hy : y < 256) : IntKind.u8.wrap (Int.tdiv (y : Int) 64) = ((y / 64 : Nat) : Int) := by
  rw [Int.tdiv_eq_ediv_of_nonneg (by omega), IntKind.wrap_u8]; omega
theorem mod64 (y : Nat) : Int.tmod (y : Int) 64 = ((y % 64 : Nat) : Int) := by
  rw [Int.tmod_eq_emod_of_nonneg (by omega)]; omega

theorem of_step {l : List Int} (hl : isB l) {c : Nat} (hc : c < l.length) {acc : List Int} (h : isSet acc ∧ ∀ b, b < 256 → mem acc b = decide ((b : Int) ∈ l.take c)) :
    ∃ y : Nat, y < 256 ∧ l.getD c 0 = (y : Int) ∧ (isSet (acc.set (y / 64) (bvop .u64 .or (acc.getD (y / 64) 0) (shl .u64 1 ((y % 64 : Nat) : Int)))) ∧
      ∀ b, b < 256 → mem (acc.set (y / 64) (bvop .u64 .or (acc.getD (y / 64) 0) (shl .u64 1 ((y % 64 : Nat) : Int)))) b = decide ((b : Int) ∈ l.take (c + 1))) := by
  obtain ⟨h0, h1⟩ := hl _ (getD_mem l c hc 0)
  obtain ⟨y, hy⟩ := Int.eq_ofNat_of_zero_le h0
  have hy' : y < 256 := by omega
  obtain ⟨p1, p2⟩ := put_mem h.1 y hy'
  refine ⟨y, hy', hy, p1, fun b hb => ?_⟩
  rw [p2, h.2 b hb, take_snoc l c hc 0, hy]
  rw [show decide ((b : Int) ∈ l.take c ++ [(y : Int)]) = (decide ((b : Int) ∈ l.take c) || decide (y = b)) by
    rw [← Bool.decide_or]
    apply decide_eq_decide.2
    rw [List.mem_append, List.mem_singleton]
    constructor
    · rintro (h | h)
      · exact Or.inl h
      · right; omega
    · rintro (h | h)
      · exact Or.inl h
      · right; omega]

theorem of_s {R : Type} (kf : Nat) (l : List Int) (hl : isB l) (hs : l.length < 1000) (hkf : 2000 ≤ kf) (K : List Int → Option R) : byteset_Of kf l K = K (setOf fun b => decide ((b : Int) ∈ l)) := by
  unfold byteset_Of byteset_Of_b
  refine loop_inv (fun k c acc => byteset_Of_l3 kf k l (l.length : Int) (List.replicate 4 (0 : Int)) (fun v7 v8 => K v8) (c : Int) acc) _ l.length 0
    (fun c acc => isSet acc ∧ ∀ b, b < 256 → mem acc b = decide ((b : Int) ∈ l.take c)) ?_ ?_ l.length kf 0 (List.replicate 4 (0 : Int)) (by omega) (by omega) ⟨zero_isSet, fun b hb => by rw [mem_zero]; simp⟩
  · rintro k acc ⟨h1, h2⟩
    have hd : decide ((l.length : Int) < (l.length : Int)) = false := decide_eq_false (by omega)
    simp only [byteset_Of_l3, byteset_Of_l3_b, hd, cond_false]
    rw [take_all] at h2
    rw [eq_setOf h1 h2]
  · intro k c acc _ hc h
    left
    obtain ⟨y, hy, he, h2⟩ := of_step hl hc h
    refine ⟨_, h2, ?_⟩
    have hd : decide ((c : Int) < (l.length : Int)) = true := decide_eq_true (by omega)
    simp only [byteset_Of_l3, byteset_Of_l3_b, hd, cond_true, Int.toNat_natCast, he, idx64 y hy, mod64]
    rw [gd_true (decide_eq_true (by omega)), gd_true rfl, gd_true (decide_eq_true (by omega)), gd_true (decide_eq_true (by omega)), gd_true (decide_eq_true (by omega)), gd_true (decide_eq_true (by omega)), gd_true (decide_eq_true (by omega)), wrap_i1 c (by omega)]

theorem rof_s {R : Type} (kf : Nat) (l : List Int) (hl : isB l) (hs : l.length < 1000) (hkf : 2000 ≤ kf) (K : List Int → Option R) : ref1_Of kf l K = K (setOf fun b => decide ((b : Int) ∈ l)) := by
  unfold ref1_Of ref1_Of_b
  refine loop_inv (fun k c acc => ref1_Of_l3 kf k l (List.replicate 4 (0 : Int)) (fun v7 v8 => K v8) (c : Int) acc) _ l.length 0
    (fun c acc => isSet acc ∧ ∀ b, b < 256 → mem acc b = decide ((b : Int) ∈ l.take c)) ?_ ?_ l.length kf 0 (List.replicate 4 (0 : Int)) (by omega) (by omega) ⟨zero_isSet, fun b hb => by rw [mem_zero]; simp⟩
  · rintro k acc ⟨h1, h2⟩
    have hd : decide ((l.length : Int) < (l.length : Int)) = false := decide_eq_false (by omega)
    simp only [ref1_Of_l3, ref1_Of_l3_b, hd, cond_false]
    rw [take_all] at h2
    rw [eq_setOf h1 h2]
  · intro k c acc _ hc h
    left
    obtain ⟨y, hy, he, h2⟩ := of_step hl hc h
    refine ⟨_, h2, ?_⟩
    have hd : decide ((c : Int) < (l.length : Int)) = true := decide_eq_true (by omega)
    have g1 : decide (0 ≤ (c : Int)) = true := decide_eq_true (by omega)
    have g2 : decide (0 ≤ ((y / 64 : Nat) : Int)) = true := decide_eq_true (by omega)
    have g3 : decide (((y / 64 : Nat) : Int) < 4) = true := decide_eq_true (by omega)
    have g4 : decide (0 ≤ ((y % 64 : Nat) : Int)) = true := decide_eq_true (by omega)
    simp only [ref1_Of_l3, ref1_Of_l3_b, hd, cond_true, Int.toNat_natCast, he, idx64 y hy, mod64, g1, g2, g3, g4, gd, wrap_i1 c (show c < 1000000 by omega)]

theorem rhas_s {R : Type} (p : Nat → Bool) (b : Nat) (hb : b < 256) (K : Bool → Option R) : ref1_Has (setOf p) (b : Int) K = K (p b) := by
  have h := shr_eq ((setOf p).getD (b / 64) 0) (b % 64) (by omega) (set_getD (setOf_isSet p) _)
  have g2 : decide (0 ≤ ((b / 64 : Nat) : Int)) = true := decide_eq_true (by omega)
  have g3 : decide (((b / 64 : Nat) : Int) < 4) = true := decide_eq_true (by omega)
  have g4 : decide (0 ≤ ((b % 64 : Nat) : Int)) = true := decide_eq_true (by omega)
  simp only [ref1_Has, ref1_Has_b, idx64 b hb, mod64, g2, g3, g4, gd, cond_true, Int.toNat_natCast, h]
  congr 1
  rw [← mem_setOf p b hb]
  unfold mem bit
  rw [Nat.testBit_eq_decide_div_mod_eq]
  apply decide_eq_decide.2
  generalize ((setOf p).getD (b / 64) 0).toNat / 2 ^ (b % 64) = w
  rw [Int.tmod_eq_emod_of_nonneg (by omega)]
  omega

/-- of a table -/
theorem listOf_isB (p : Nat → Bool) : isB (listOf p) := by
  intro x hx
  unfold listOf at hx
  rw [List.mem_map] at hx
  obtain ⟨b, hb, rfl⟩ := hx
  rw [List.mem_filter, List.mem_range] at hb
  omega
theorem listOf_length (p : Nat → Bool) : (listOf p).length ≤ 256 := by
  unfold listOf
  rw [List.length_map]
  have := List.length_filter_le p (List.range 256)
  simpa using this
theorem mem_listOf (p : Nat → Bool) (b : Nat) : (b : Int) ∈ listOf p ↔ b < 256 ∧ p b = true := by
  unfold listOf
  rw [List.mem_map]
  constructor
  · rintro ⟨c, hc, he⟩
    rw [List.mem_filter, List.mem_range] at hc
    have : c = b := by omega
    subst this; exact hc
  · rintro h
    exact ⟨b, by rw [List.mem_filter, List.mem_range]; exact h, rfl⟩
theorem setOf_listOf (p : Nat → Bool) : (setOf fun b => decide ((b : Int) ∈ listOf p)) = setOf p := by
  apply setOf_congr
  intro b hb
  rw [← Bool.coe_iff_coe, decide_eq_true_iff, mem_listOf]
  simp [hb]

def listTo (p : Nat → Bool) (c : Nat) : List Int := ((List.range c).filter p).map fun b : Nat => (b : Int)
theorem listTo_succ (p : Nat → Bool) (c : Nat) : listTo p (c + 1) = listTo p c ++ (if p c then [(c : Int)] else []) := by
  unfold listTo
  rw [List.range_succ, List.filter_append, List.map_append]
  congr 1
  simp only [List.filter_cons, List.filter_nil]
  split <;> rfl
theorem listTo_length (p : Nat → Bool) (c : Nat) : (listTo p c).length ≤ c := by
  unfold listTo
  rw [List.length_map]
  have := List.length_filter_le p (List.range c)
  simpa using this

theorem where_s {R : Type} (kf : Nat) (hkf : 2000 ≤ kf) (t : List Bool) (p : Nat → Bool) (hp : ∀ b, b < 256 → t.getD b false = p b) (K : List Int → Option R) : ref1_Where kf t K = K (setOf p) := by
  unfold ref1_Where ref1_Where_b
  refine loop_inv (fun k c acc => ref1_Where_l3 kf k t (List.replicate 4 (0 : Int)) (fun (v6 : (List Int)) (v7 : (List Int)) => ref1_Of kf v7 (fun (v8 : (List Int)) => K v8)) (c : Int) acc) _ 256 0
    (fun c acc => acc = listTo p c) ?_ ?_ 256 kf 0 [] (by omega) (by omega) rfl
  · rintro k acc rfl
    simp only [ref1_Where_l3, ref1_Where_l3_b, show decide (((256 : Nat) : Int) < 256) = false from rfl, cond_false]
    have := rof_s kf (listOf p) (listOf_isB p) (by have := listOf_length p; omega) hkf (fun v8 => K v8)
    rw [setOf_listOf] at this
    exact this
  · rintro k c acc _ hc rfl
    left
    refine ⟨_, rfl, ?_⟩
    have hd : decide ((c : Int) < 256) = true := decide_eq_true (by omega)
    have g1 : decide (0 ≤ (c : Int)) = true := decide_eq_true (by omega)
    have hw : IntKind.u8.wrap (c : Int) = (c : Int) := by rw [IntKind.wrap_u8]; omega
    simp only [ref1_Where_l3, ref1_Where_l3_b, hd, g1, gd, cond_true, Int.toNat_natCast, hp c hc, wrap_i1 c (show c < 1000000 by omega), hw]
    rw [listTo_succ]
    cases p c with
    | false => simp only [cond_false, Bool.false_eq_true, if_false, List.append_nil]
    | true =>
      have hlen := listTo_length p c
      have g2 : decide ((listTo p c).length + [(c : Int)].length < SMALL) = true := decide_eq_true (by show _ < 17179869184; simp; omega)
      simp only [cond_true, if_true, g2]

theorem rrange_s {R : Type} (kf : Nat) (hkf : 2000 ≤ kf) (f t : Nat) (hf : f < 256) (ht : t < 256) (K : List Int → Option R) : ref1_Range kf (f : Int) (t : Int) K = K (setOf fun b => decide (f ≤ b ∧ b ≤ t)) := by
  unfold ref1_Range ref1_Range_b
  rw [wrap_i f (by omega)]
  by_cases hle : f ≤ t + 1
  · refine loop_inv (fun k c acc => ref1_Range_l3 kf k (t : Int) (List.replicate 4 (0 : Int)) (fun (v7 : (List Int)) (v8 : (List Bool)) => ref1_Where kf v8 (fun (v9 : (List Int)) => K v9)) (c : Int) acc) _ (t + 1) 0
      (fun c acc => acc.length = 256 ∧ f ≤ c ∧ ∀ b, b < 256 → acc.getD b false = decide (f ≤ b ∧ b < c)) ?_ ?_ (t + 1 - f) kf f (List.replicate 256 false) (by omega) (by omega)
      ⟨List.length_replicate, by omega, fun b hb => by rw [List.getD_eq_getElem?_getD, List.getElem?_replicate, if_pos hb]; symm; apply decide_eq_false; omega⟩
    · rintro k acc ⟨h1, h0, h2⟩
      have hd : decide (((t + 1 : Nat) : Int) ≤ (t : Int)) = false := decide_eq_false (by omega)
      simp only [ref1_Range_l3, ref1_Range_l3_b, wrap_i t (show t < 1000000 by omega), hd, cond_false]
      refine where_s kf hkf acc _ (fun b hb => ?_) _
      rw [h2 b hb]
      apply decide_eq_decide.2
      omega
    · rintro k c acc _ hc ⟨h1, h0, h2⟩
      left
      refine ⟨acc.set c true, ⟨by rw [List.length_set]; exact h1, by omega, fun b hb => ?_⟩, ?_⟩
      · rw [List.getD_eq_getElem?_getD, List.getElem?_set]
        by_cases hcb : c = b
        · subst hcb
          rw [if_pos rfl, if_pos (by omega)]
          symm; apply decide_eq_true; omega
        · rw [if_neg hcb, ← List.getD_eq_getElem?_getD, h2 b hb]
          apply decide_eq_decide.2
          omega
      · have hd : decide ((c : Int) ≤ (t : Int)) = true := decide_eq_true (by omega)
        have g1 : decide (0 ≤ (c : Int)) = true := decide_eq_true (by omega)
        have g2 : decide ((c : Int) < 256) = true := decide_eq_true (by omega)
        simp only [ref1_Range_l3, ref1_Range_l3_b, wrap_i t (show t < 1000000 by omega), hd, cond_true, g1, g2, gd, Int.toNat_natCast, wrap_i1 c (show c < 1000000 by omega)]
  · obtain ⟨k, rfl⟩ : ∃ k, kf = k + 1 := ⟨kf - 1, by omega⟩
    have hd : decide ((f : Int) ≤ (t : Int)) = false := decide_eq_false (by omega)
    simp only [ref1_Range_l3, ref1_Range_l3_b, wrap_i t (show t < 1000000 by omega), hd, cond_false]
    refine where_s (k + 1) hkf _ _ (fun b hb => ?_) _
    rw [List.getD_eq_getElem?_getD, List.getElem?_replicate, if_pos hb]
    symm; apply decide_eq_false; omega

theorem rlist_s {R : Type} (kf : Nat) (hkf : 2000 ≤ kf) (p : Nat → Bool) (K : List Int → Option R) : ref1_List kf (setOf p) K = K (listOf p) := by
  unfold ref1_List ref1_List_b
  refine loop_inv (fun k c acc => ref1_List_l3 kf k (setOf p) (fun (v6 : (List Int)) => K v6) (c : Int) acc) _ 256 0
    (fun c acc => acc = listTo p c) ?_ ?_ 256 kf 0 [] (by omega) (by omega) rfl
  · rintro k acc rfl
    simp only [ref1_List_l3, ref1_List_l3_b, show decide (((256 : Nat) : Int) < 256) = false from rfl, cond_false]
    rfl
  · rintro k c acc _ hc rfl
    left
    refine ⟨_, rfl, ?_⟩
    have hd : decide ((c : Int) < 256) = true := decide_eq_true (by omega)
    have hw : IntKind.u8.wrap (c : Int) = (c : Int) := by rw [IntKind.wrap_u8]; omega
    simp only [ref1_List_l3, ref1_List_l3_b, hd, gd, cond_true, hw, rhas_s p c hc, wrap_i1 c (show c < 1000000 by omega)]
    rw [listTo_succ]
    cases p c with
    | false => simp only [cond_false, Bool.false_eq_true, if_false, List.append_nil]
    | true =>
      have hlen := listTo_length p c
      have g2 : decide ((listTo p c).length + [(c : Int)].length < SMALL) = true := decide_eq_true (by show _ < 17179869184; simp; omega)
      simp only [cond_true, if_true, g2]

theorem ror_s {R : Type} (kf : Nat) (hkf : 2000 ≤ kf) (p q : Nat → Bool) (K : List Int → Option R) : ref1_Or kf (setOf p) (setOf q) K = K (setOf fun b => p b || q b) := by
  unfold ref1_Or ref1_Or_b
  have h1 := listOf_length p
  have h2 := listOf_length q
  rw [rlist_s kf hkf, rlist_s kf hkf, gd_true (decide_eq_true (by show _ < 17179869184; omega)), rof_s kf _ (by
    intro x hx
    rcases List.mem_append.1 hx with h | h
    · exact listOf_isB p x h
    · exact listOf_isB q x h) (by rw [List.length_append]; omega) hkf]
  congr 1
  apply setOf_congr
  intro b hb
  rw [← Bool.coe_iff_coe, decide_eq_true_iff, List.mem_append, mem_listOf, mem_listOf]
  simp [hb]

theorem tab_set {acc : List Bool} {c : Nat} {p : Nat → Bool} (h1 : acc.length = 256) (h2 : ∀ b, b < 256 → acc.getD b false = (decide (b < c) && p b)) :
    (acc.set c (p c)).length = 256 ∧ ∀ b, b < 256 → (acc.set c (p c)).getD b false = (decide (b < c + 1) && p b) := by
  refine ⟨by rw [List.length_set]; exact h1, fun b hb => ?_⟩
  rw [List.getD_eq_getElem?_getD, List.getElem?_set]
  by_cases hcb : c = b
  · subst hcb
    rw [if_pos rfl, if_pos (by omega), decide_eq_true (by omega)]
    rfl
  · rw [if_neg hcb, ← List.getD_eq_getElem?_getD, h2 b hb]
    congr 1
    apply decide_eq_decide.2
    omega
theorem tab_zero (p : Nat → Bool) : (List.replicate 256 false).length = 256 ∧ ∀ b, b < 256 → (List.replicate 256 false).getD b false = (decide (b < 0) && p b) :=
  ⟨List.length_replicate, fun b hb => by rw [List.getD_eq_getElem?_getD, List.getElem?_replicate, if_pos hb]; rfl⟩

theorem rand_s {R : Type} (kf : Nat) (hkf : 2000 ≤ kf) (p q : Nat → Bool) (K : List Int → Option R) : ref1_And kf (setOf p) (setOf q) K = K (setOf fun b => p b && q b) := by
  unfold ref1_And ref1_And_b
  refine loop_inv (fun k c acc => ref1_And_l3 kf k (setOf p) (setOf q) (List.replicate 4 (0 : Int)) (fun (v10 : (List Int)) (v11 : (List Bool)) => ref1_Where kf v11 (fun (v12 : (List Int)) => K v12)) (c : Int) acc) _ 256 0
    (fun c acc => acc.length = 256 ∧ ∀ b, b < 256 → acc.getD b false = (decide (b < c) && (p b && q b))) ?_ ?_ 256 kf 0 (List.replicate 256 false) (by omega) (by omega) (tab_zero _)
  · rintro k acc ⟨h1, h2⟩
    simp only [ref1_And_l3, ref1_And_l3_b, show decide (((256 : Nat) : Int) < 256) = false from rfl, cond_false]
    exact where_s kf hkf acc _ (fun b hb => by rw [h2 b hb, decide_eq_true hb]; rfl) _
  · rintro k c acc _ hc ⟨h1, h2⟩
    left
    refine ⟨_, tab_set h1 h2, ?_⟩
    have hd : decide ((c : Int) < 256) = true := decide_eq_true (by omega)
    have g1 : decide (0 ≤ (c : Int)) = true := decide_eq_true (by omega)
    have hw : IntKind.u8.wrap (c : Int) = (c : Int) := by rw [IntKind.wrap_u8]; omega
    simp only [ref1_And_l3, ref1_And_l3_b, hd, g1, gd, cond_true, hw, rhas_s p c hc, rhas_s q c hc, wrap_i1 c (show c < 1000000 by omega), Int.toNat_natCast]
    cases p c <;> simp only [cond_true, cond_false, Bool.true_and, Bool.false_and]

theorem rnot_s {R : Type} (kf : Nat) (hkf : 2000 ≤ kf) (p : Nat → Bool) (K : List Int → Option R) : ref1_Not kf (setOf p) K = K (setOf fun b => !p b) := by
  unfold ref1_Not ref1_Not_b
  refine loop_inv (fun k c acc => ref1_Not_l3 kf k (setOf p) (List.replicate 4 (0 : Int)) (fun (v7 : (List Int)) (v8 : (List Bool)) => ref1_Where kf v8 (fun (v9 : (List Int)) => K v9)) (c : Int) acc) _ 256 0
    (fun c acc => acc.length = 256 ∧ ∀ b, b < 256 → acc.getD b false = (decide (b < c) && !p b)) ?_ ?_ 256 kf 0 (List.replicate 256 false) (by omega) (by omega) (tab_zero _)
  · rintro k acc ⟨h1, h2⟩
    simp only [ref1_Not_l3, ref1_Not_l3_b, show decide (((256 : Nat) : Int) < 256) = false from rfl, cond_false]
    exact where_s kf hkf acc _ (fun b hb => by rw [h2 b hb, decide_eq_true hb]; rfl) _
  · rintro k c acc _ hc ⟨h1, h2⟩
    left
    refine ⟨_, tab_set h1 h2, ?_⟩
    have hd : decide ((c : Int) < 256) = true := decide_eq_true (by omega)
    have g1 : decide (0 ≤ (c : Int)) = true := decide_eq_true (by omega)
    have hw : IntKind.u8.wrap (c : Int) = (c : Int) := by rw [IntKind.wrap_u8]; omega
    simp only [ref1_Not_l3, ref1_Not_l3_b, hd, g1, gd, cond_true, hw, rhas_s p c hc, wrap_i1 c (show c < 1000000 by omega), Int.toNat_natCast]

theorem rless_s (kf : Nat) (hkf : 2000 ≤ kf) (p q : Nat → Bool) : ∃ r : Bool, (r = true ↔ aheadP p q) ∧ ∀ {R : Type} (K : Bool → Option R), ref1_SetLess kf (setOf p) (setOf q) K = K r := by
  by_cases hex : ∃ b, b < 256 ∧ p b ≠ q b ∧ ∀ c, c < b → p c = q c
  · obtain ⟨b, hb, hne, hlt⟩ := hex
    refine ⟨p b, ?_, fun {R} K => ?_⟩
    · constructor
      · intro h
        exact ⟨b, hb, h, by cases hq : q b with | false => rfl | true => rw [h, hq] at hne; exact absurd rfl hne, hlt⟩
      · rintro ⟨c, hc, h1, h2, h3⟩
        rcases Nat.lt_trichotomy b c with h | h | h
        · exact absurd (h3 b h) hne
        · subst h; exact h1
        · have := hlt c h; rw [h1, h2] at this; cases this
    · unfold ref1_SetLess ref1_SetLess_b
      refine loop_inv (fun k c (_ : Unit) => ref1_SetLess_l2 kf k (setOf p) (setOf q) (fun (v9 : Bool) => K v9) (K false) (c : Int)) _ 256 0
        (fun c _ => c ≤ b) ?_ ?_ 256 kf 0 () (by omega) (by omega) (by omega)
      · intro k _ h; omega
      · intro k c _ _ hc h
        have hd : decide ((c : Int) < 256) = true := decide_eq_true (by omega)
        have hw : IntKind.u8.wrap (c : Int) = (c : Int) := by rw [IntKind.wrap_u8]; omega
        by_cases hcb : c = b
        · right
          subst hcb
          simp only [ref1_SetLess_l2, ref1_SetLess_l2_b, hd, cond_true, hw, rhas_s p c hc, rhas_s q c hc, decide_eq_false hne, Bool.not_false]
        · left
          refine ⟨(), by omega, ?_⟩
          have := hlt c (by omega)
          simp only [ref1_SetLess_l2, ref1_SetLess_l2_b, hd, cond_true, hw, rhas_s p c hc, rhas_s q c hc, decide_eq_true this, Bool.not_true, cond_false, wrap_i1 c (show c < 1000000 by omega)]
  · have heq : ∀ n, n ≤ 256 → ∀ c, c < n → p c = q c := by
      intro n
      induction n with
      | zero => intro _ c hc; omega
      | succ n ih =>
        intro hn c hc
        by_cases h : c = n
        · subst h
          apply Classical.byContradiction
          intro hne
          exact hex ⟨c, by omega, hne, ih (by omega)⟩
        · exact ih (by omega) c (by omega)
    refine ⟨false, ⟨fun h => (nomatch h), ?_⟩, fun {R} K => ?_⟩
    · rintro ⟨c, hc, h1, h2, h3⟩
      have := heq 256 (by omega) c hc
      rw [h1, h2] at this; cases this
    · unfold ref1_SetLess ref1_SetLess_b
      refine loop_inv (fun k c (_ : Unit) => ref1_SetLess_l2 kf k (setOf p) (setOf q) (fun (v9 : Bool) => K v9) (K false) (c : Int)) _ 256 0
        (fun c _ => True) ?_ ?_ 256 kf 0 () (by omega) (by omega) trivial
      · intro k _ h
        simp only [ref1_SetLess_l2, ref1_SetLess_l2_b, show decide (((256 : Nat) : Int) < 256) = false from rfl, cond_false]
      · intro k c _ _ hc h
        have hd : decide ((c : Int) < 256) = true := decide_eq_true (by omega)
        have hw : IntKind.u8.wrap (c : Int) = (c : Int) := by rw [IntKind.wrap_u8]; omega
        left
        refine ⟨(), trivial, ?_⟩
        have := heq 256 (by omega) c hc
        simp only [ref1_SetLess_l2, ref1_SetLess_l2_b, hd, cond_true, hw, rhas_s p c hc, rhas_s q c hc, decide_eq_true this, Bool.not_true, cond_false, wrap_i1 c (show c < 1000000 by omega)]
end Go.Ab.T

/- The parts of all bytes: each byte's class, in the order of their first bytes. -/
namespace Go.Ab.T
open Go Go.Ab
set_option linter.unusedVariables false
set_option linter.unusedSimpArgs false

/-- two bytes that are in the same ones -/
def eqv (l : List (List Int)) (b c : Nat) : Bool := l.all fun s => mem s b == mem s c
theorem eqv_iff {l : List (List Int)} {b c : Nat} : eqv l b c = true ↔ ∀ s ∈ l, mem s b = mem s c := by
  unfold eqv
  rw [List.all_eq_true]
  simp
theorem eqv_refl (l : List (List Int)) (b : Nat) : eqv l b b = true := eqv_iff.2 fun _ _ => rfl
theorem eqv_symm {l : List (List Int)} {b c : Nat} (h : eqv l b c = true) : eqv l c b = true := eqv_iff.2 fun s hs => (eqv_iff.1 h s hs).symm
theorem eqv_trans {l : List (List Int)} {b c d : Nat} (h : eqv l b c = true) (h2 : eqv l c d = true) : eqv l b d = true := eqv_iff.2 fun s hs => (eqv_iff.1 h s hs).trans (eqv_iff.1 h2 s hs)
theorem eqv_comm (l : List (List Int)) (b c : Nat) : eqv l b c = eqv l c b := by
  rw [← Bool.coe_iff_coe]; exact ⟨eqv_symm, eqv_symm⟩
theorem eqv_congr {l : List (List Int)} {b c : Nat} (h : eqv l b c = true) (d : Nat) : eqv l b d = eqv l c d := by
  rw [← Bool.coe_iff_coe]; exact ⟨fun q => eqv_trans (eqv_symm h) q, fun q => eqv_trans h q⟩
theorem eqv_snoc (l : List (List Int)) (s : List Int) (b c : Nat) : eqv (l ++ [s]) b c = (eqv l b c && (mem s b == mem s c)) := by
  unfold eqv
  rw [List.all_append]
  simp

noncomputable def cls (l : List (List Int)) (b : Nat) : List Int := setOf (eqv l b)
/-- no earlier byte is in the same ones -/
def fst (l : List (List Int)) (b : Nat) : Bool := (List.range b).all fun c => !eqv l c b
noncomputable def partsS (l : List (List Int)) : List (List Int) := ((List.range 256).filter (fst l)).map (cls l)

theorem fst_iff {l : List (List Int)} {b : Nat} : fst l b = true ↔ ∀ c, c < b → eqv l c b = false := by
  unfold fst
  rw [List.all_eq_true]
  simp [List.mem_range]

/-- what the parts so far are: each byte is in just one, its class -/
def good (l : List (List Int)) (ps : List (List Int)) : Prop := (∀ p ∈ ps, isSet p) ∧ ∀ b, b < 256 → ps.filter (fun p => mem p b) = [cls l b]

noncomputable def split (s p : List Int) : List (List Int) :=
  (if andS p s = List.replicate 4 (0 : Int) then [] else [andS p s]) ++ (if andS p (notS s) = List.replicate 4 (0 : Int) then [] else [andS p (notS s)])

theorem split_isSet {s p : List Int} (hs : isSet s) (hp : isSet p) : ∀ x ∈ split s p, isSet x := by
  intro x hx
  unfold split at hx
  rcases List.mem_append.1 hx with h | h
  · split at h
    · cases h
    · rw [List.mem_singleton] at h; subst h; exact and_isSet hp hs
  · split at h
    · cases h
    · rw [List.mem_singleton] at h; subst h; exact and_isSet hp (not_isSet hs)
theorem split_length (s p : List Int) : (split s p).length ≤ 2 := by
  unfold split
  rw [List.length_append]
  split <;> split <;> simp

theorem zero_mem {x : List Int} (h : x = List.replicate 4 (0 : Int)) (b : Nat) : mem x b = false := by rw [h, mem_zero]

theorem split_filter {s p : List Int} (hs : isSet s) (hp : isSet p) (b : Nat) (hb : b < 256) :
    (split s p).filter (fun x => mem x b) = if mem p b then [if mem s b then andS p s else andS p (notS s)] else [] := by
  have m1 := mem_and hp hs b hb
  have m2 := mem_and hp (not_isSet hs) b hb
  rw [mem_not hs b hb] at m2
  have f1 : (if andS p s = List.replicate 4 (0 : Int) then [] else [andS p s]).filter (fun x => mem x b) = if mem p b && mem s b then [andS p s] else [] := by
    split
    · rename_i h
      rw [zero_mem h] at m1
      rw [← m1]
      simp
    · rw [List.filter_cons, m1]
      simp
  have f2 : (if andS p (notS s) = List.replicate 4 (0 : Int) then [] else [andS p (notS s)]).filter (fun x => mem x b) = if mem p b && !mem s b then [andS p (notS s)] else [] := by
    split
    · rename_i h
      rw [zero_mem h] at m2
      rw [← m2]
      simp
    · rw [List.filter_cons, m2]
      simp
  unfold split
  rw [List.filter_append, f1, f2]
  cases mem p b <;> cases mem s b <;> simp

theorem filter_flatMap' {α β : Type} (l : List α) (f : α → List β) (p : β → Bool) : (l.flatMap f).filter p = l.flatMap fun a => (f a).filter p := by
  induction l with
  | nil => rfl
  | cons a r ih => rw [List.flatMap_cons, List.flatMap_cons, List.filter_append, ih]

theorem flatMap_if {α β : Type} (l : List α) (p : α → Bool) (g : α → β) : (l.flatMap fun a => if p a then [g a] else []) = (l.filter p).map g := by
  induction l with
  | nil => rfl
  | cons a r ih =>
    rw [List.flatMap_cons, ih, List.filter_cons]
    split <;> simp

theorem good_step {l ps : List (List Int)} {s : List Int} (hs : isSet s) (h : good l ps) : good (l ++ [s]) (ps.flatMap (split s)) := by
  obtain ⟨h1, h2⟩ := h
  refine ⟨?_, fun b hb => ?_⟩
  · intro x hx
    rw [List.mem_flatMap] at hx
    obtain ⟨p, hp, hx⟩ := hx
    exact split_isSet hs (h1 p hp) x hx
  · rw [filter_flatMap']
    have e : (ps.flatMap fun a => (split s a).filter fun x => mem x b) = ps.flatMap fun a => if mem a b then [if mem s b then andS a s else andS a (notS s)] else [] := by
      unfold List.flatMap
      congr 1
      apply List.map_congr_left
      intro a ha
      exact split_filter hs (h1 a ha) b hb
    rw [e, flatMap_if, h2 b hb, List.map_cons, List.map_nil]
    congr 1
    have hc : isSet (cls l b) := setOf_isSet _
    cases hm : mem s b with
    | true =>
      simp only [if_true]
      refine (eq_setOf (p := eqv (l ++ [s]) b) (and_isSet hc hs) fun c hcc => ?_)
      rw [mem_and hc hs c hcc, eqv_snoc, hm]
      unfold cls
      rw [mem_setOf _ c hcc]
      cases mem s c <;> rfl
    | false =>
      simp only [Bool.false_eq_true, if_false]
      refine (eq_setOf (p := eqv (l ++ [s]) b) (and_isSet hc (not_isSet hs)) fun c hcc => ?_)
      rw [mem_and hc (not_isSet hs) c hcc, mem_not hs c hcc, eqv_snoc, hm]
      unfold cls
      rw [mem_setOf _ c hcc]
      cases mem s c <;> rfl

theorem good_nil : good [] [setOf fun _ => true] := by
  refine ⟨fun p hp => by rw [List.mem_singleton] at hp; subst hp; exact setOf_isSet _, fun b hb => ?_⟩
  rw [List.filter_cons, mem_setOf _ b hb]
  simp only [if_true, List.filter_nil]
  rfl

/-! ### the loops -/
theorem l10_ok {R : Type} (kf k : Nat) (v18 : List (List Int)) (v19 v20 v21 v22 : Int) (v25 : List Int) (v27 : List (List Int)) (x y : List Int) (Ke : (List (List Int)) → Int → Int → Int → Int → (List Int) → (List (List Int)) → (List (List Int)) → Option R) (acc : List (List Int)) (ha : acc.length < 1000000000) :
    byteset_Parts_l10 kf (k + 3) v18 v19 v20 v21 v22 2 v25 v27 [x, y] Ke 0 acc = Ke v18 v19 v20 v21 v22 v25 (acc ++ ((if x = List.replicate 4 (0 : Int) then [] else [x]) ++ (if y = List.replicate 4 (0 : Int) then [] else [y]))) v27 := by
  have d0 : decide ((0 : Int) < 2) = true := rfl
  have d1 : decide ((1 : Int) < 2) = true := rfl
  have d2 : decide ((2 : Int) < 2) = false := rfl
  have w0 : IntKind.i64.wrap (0 + 1) = 1 := by decide
  have w1 : IntKind.i64.wrap (1 + 1) = 2 := by decide
  have e0 : ([x, y] : List (List Int)).getD (Int.toNat 0) (List.replicate 4 (0 : Int)) = x := rfl
  have e1 : ([x, y] : List (List Int)).getD (Int.toNat 1) (List.replicate 4 (0 : Int)) = y := rfl
  have g0 : decide ((0 : Int) < (([x, y] : List (List Int)).length : Int)) = true := rfl
  have g1 : decide ((1 : Int) < (([x, y] : List (List Int)).length : Int)) = true := rfl
  have g2 : ∀ z : List Int, decide (acc.length + [z].length < SMALL) = true := fun z => decide_eq_true (by show _ < 17179869184; simp; omega)
  have g3 : ∀ z u : List Int, decide ((acc ++ [z]).length + [u].length < SMALL) = true := fun z u => decide_eq_true (by show _ < 17179869184; simp; omega)
  have z0 : decide ((0 : Int) ≤ 0) = true := rfl
  have z1 : decide ((0 : Int) ≤ 1) = true := rfl
  have key : ∀ z : List Int, (if z = List.replicate 4 (0 : Int) then [] else [z]) = bif decide (z = List.replicate 4 (0 : Int)) then [] else [z] := by
    intro z
    by_cases h : z = List.replicate 4 (0 : Int)
    · rw [if_pos h, decide_eq_true h]; rfl
    · rw [if_neg h, decide_eq_false h]; rfl
  rw [key x, key y]
  cases hx : decide (x = List.replicate 4 (0 : Int)) <;> cases hy : decide (y = List.replicate 4 (0 : Int)) <;>
    simp only [byteset_Parts_l10, byteset_Parts_l10_b, d0, d1, d2, w0, w1, e0, e1, g0, g1, gd, cond_true, cond_false, hx, hy, Bool.not_true, Bool.not_false, z0, z1, g2, g3, List.append_nil, List.nil_append, List.append_assoc]

theorem l7_ok {R : Type} (kf k0 : Nat) (hkf : 300 ≤ kf) (Ke : (List (List Int)) → Int → Int → (List (List Int)) → Option R) (v7 : List (List Int)) (v8 v9 : Int) (s : List Int) (hs : isSet s) (ps : List (List Int)) (hp : ∀ p ∈ ps, isSet p) (hl : ps.length < 100000000) (hk : ps.length + 4 < k0) :
    byteset_Parts_l7 kf k0 Ke v7 v8 v9 (ps.length : Int) 0 s [] ps = Ke v7 v8 v9 (ps.flatMap (split s)) := by
  refine loop_inv (fun k c acc => byteset_Parts_l7 kf k Ke v7 v8 v9 (ps.length : Int) (c : Int) s acc ps) _ ps.length 3
    (fun c acc => acc = (ps.take c).flatMap (split s) ∧ acc.length ≤ 2 * c) ?_ ?_ ps.length k0 0 [] (by omega) (by omega) ⟨by simp, by simp⟩
  · rintro k acc ⟨rfl, _⟩
    have hd : decide ((ps.length : Int) < (ps.length : Int)) = false := decide_eq_false (by omega)
    simp only [byteset_Parts_l7, byteset_Parts_l7_b, hd, cond_false, List.take_length]
  · rintro k c acc hB hc ⟨rfl, hlen⟩
    left
    have hd : decide ((c : Int) < (ps.length : Int)) = true := decide_eq_true (by omega)
    have g1 : decide (0 ≤ (c : Int)) = true := decide_eq_true (by omega)
    have hpc : isSet (ps.getD c (List.replicate 4 (0 : Int))) := hp _ (getD_mem ps c hc _)
    refine ⟨(ps.take c).flatMap (split s) ++ split s (ps.getD c (List.replicate 4 (0 : Int))), ⟨?_, ?_⟩, ?_⟩
    · rw [take_snoc ps c hc (List.replicate 4 (0 : Int)), List.flatMap_append]
      simp
    · rw [List.length_append]
      have := split_length s (ps.getD c (List.replicate 4 (0 : Int)))
      omega
    · obtain ⟨k', rfl⟩ : ∃ k', k = k' + 3 := ⟨k - 3, by omega⟩
      have hw := wrap_i1 c
      simp only [byteset_Parts_l7, byteset_Parts_l7_b, hd, g1, gd, cond_true, Int.toNat_natCast]
      rw [and_ok kf (by omega) hpc hs, not_ok kf (by omega) hs, and_ok kf (by omega) hpc (not_isSet hs)]
      have h10 := l10_ok kf k' v7 v8 v9 (ps.length : Int) (c : Int) s ps (andS (ps.getD c (List.replicate 4 (0 : Int))) s) (andS (ps.getD c (List.replicate 4 (0 : Int))) (notS s))
        (fun (v29 : (List (List Int))) (v30 : Int) (v31 : Int) (v32 : Int) (v33 : Int) (v34 : (List Int)) (v35 : (List (List Int))) (v36 : (List (List Int))) =>
           byteset_Parts_l7 kf (k' + 3) Ke v29 v30 v31 v32 (IntKind.i64.wrap (v33 + 1)) v34 v35 v36) ((ps.take c).flatMap (split s)) (by omega)
      have hw' : IntKind.i64.wrap ((c : Int) + 1) = ((c + 1 : Nat) : Int) := by rw [IntKind.wrap_i64]; omega
      simp only [hw'] at h10
      exact h10

theorem l3_ok {R : Type} (kf : Nat) (hkf : 10000000 ≤ kf) (Ke : (List (List Int)) → Option R) (l : List (List Int)) (hl : ∀ s ∈ l, isSet s) (hn : l.length ≤ 20) (T : Option R) (hT : ∀ ps, good l ps → ps.length ≤ 2 ^ 20 → Ke ps = T) :
    byteset_Parts_l3 kf kf Ke l (l.length : Int) 0 [setOf fun _ => true] = T := by
  refine loop_inv (fun k c acc => byteset_Parts_l3 kf k Ke l (l.length : Int) (c : Int) acc) _ l.length 2000000
    (fun c acc => good (l.take c) acc ∧ acc.length ≤ 2 ^ c) ?_ ?_ l.length kf 0 _ (by omega) (by omega) ⟨good_nil, by simp⟩
  · rintro k acc ⟨h1, h2⟩
    have hd : decide ((l.length : Int) < (l.length : Int)) = false := decide_eq_false (by omega)
    simp only [byteset_Parts_l3, byteset_Parts_l3_b, hd, cond_false]
    rw [List.take_length] at h1
    exact hT acc h1 (Nat.le_trans h2 (Nat.pow_le_pow_right (by omega) hn))
  · rintro k c acc hB hc ⟨h1, h2⟩
    left
    have hsc : isSet (l.getD c (List.replicate 4 (0 : Int))) := hl _ (getD_mem l c hc _)
    have hlen : acc.length ≤ 2 ^ 20 := Nat.le_trans h2 (Nat.pow_le_pow_right (by omega) (by omega))
    have e20 : (2 : Nat) ^ 20 = 1048576 := by decide
    rw [e20] at hlen
    refine ⟨acc.flatMap (split (l.getD c (List.replicate 4 (0 : Int)))), ⟨?_, ?_⟩, ?_⟩
    · rw [take_snoc l c hc (List.replicate 4 (0 : Int))]
      exact good_step hsc h1
    · have : ∀ a : List (List Int), (a.flatMap (split (l.getD c (List.replicate 4 (0 : Int))))).length ≤ 2 * a.length := by
        intro a
        induction a with
        | nil => simp
        | cons x r ih =>
          rw [List.flatMap_cons, List.length_append, List.length_cons]
          have := split_length (l.getD c (List.replicate 4 (0 : Int))) x
          omega
      have := this acc
      rw [Nat.pow_succ]; omega
    · have hd : decide ((c : Int) < (l.length : Int)) = true := decide_eq_true (by omega)
      have g1 : decide (0 ≤ (c : Int)) = true := decide_eq_true (by omega)
      have hw' : IntKind.i64.wrap ((c : Int) + 1) = ((c + 1 : Nat) : Int) := by rw [IntKind.wrap_i64]; omega
      simp only [byteset_Parts_l3, byteset_Parts_l3_b, hd, g1, gd, cond_true, Int.toNat_natCast]
      rw [l7_ok kf k (by omega) _ l (l.length : Int) (c : Int) _ hsc acc h1.1 (by omega) (by omega), hw']

/-- which bytes have been seen -/
def seenP (l : List (List Int)) (c x : Nat) : Bool := (List.range c).any fun b => eqv l b x

theorem filter_take_len {α : Type} (l : List α) (c : Nat) (p : α → Bool) : ((l.take c).filter p).length ≤ (l.filter p).length := by
  have : l.filter p = (l.take c).filter p ++ (l.drop c).filter p := by rw [← List.filter_append, List.take_append_drop]
  rw [this, List.length_append]; omega

theorem l25_ok {R : Type} (kf k0 : Nat) (hkf : 300 ≤ kf) (l : List (List Int)) (b : Nat) (hb : b < 256) (ps : List (List Int)) (hg : good l ps) (hlp : ps.length < 100000000) (hk : ps.length + 2 < k0) (Ke : Int → (List (List Int)) → (List (List Int)) → (List Int) → Option R) (out : List (List Int)) (q : Nat → Bool) (ho : out.length < 1000) :
    byteset_Parts_l25 kf k0 (b : Int) (b : Int) (ps.length : Int) ps Ke 0 out (setOf q) = Ke (b : Int) ps (out ++ [cls l b]) (setOf fun x => q x || eqv l b x) := by
  refine loop_inv (fun k c (acc : List (List Int) × List Int) => byteset_Parts_l25 kf k (b : Int) (b : Int) (ps.length : Int) ps Ke (c : Int) acc.1 acc.2) _ ps.length 0
    (fun c acc => acc.1 = out ++ (ps.take c).filter (fun p => mem p b) ∧ acc.2 = setOf fun x => q x || ((ps.take c).filter (fun p => mem p b)).any fun p => mem p x) ?_ ?_ ps.length k0 0 (out, setOf q) (by omega) (by omega) ⟨by simp, setOf_congr fun x _ => by simp⟩
  · rintro k ⟨a1, a2⟩ ⟨h1, h2⟩
    simp only at h1 h2
    have hd : decide ((ps.length : Int) < (ps.length : Int)) = false := decide_eq_false (by omega)
    simp only [byteset_Parts_l25, byteset_Parts_l25_b, hd, cond_false]
    rw [List.take_length, hg.2 b hb] at h1 h2
    rw [h1, h2]
    congr 1
    apply setOf_congr
    intro x hx
    unfold cls
    simp only [List.any_cons, List.any_nil, Bool.or_false, mem_setOf _ x hx]
  · rintro k c ⟨a1, a2⟩ _ hc ⟨h1, h2⟩
    simp only at h1 h2
    left
    have hd : decide ((c : Int) < (ps.length : Int)) = true := decide_eq_true (by omega)
    have g1 : decide (0 ≤ (c : Int)) = true := decide_eq_true (by omega)
    have hw' : IntKind.i64.wrap ((c : Int) + 1) = ((c + 1 : Nat) : Int) := by rw [IntKind.wrap_i64]; omega
    have hw8 : IntKind.u8.wrap (b : Int) = (b : Int) := by rw [IntKind.wrap_u8]; omega
    have hpc : isSet (ps.getD c (List.replicate 4 (0 : Int))) := hg.1 _ (getD_mem ps c hc _)
    have hlen : a1.length ≤ 1001 := by
      rw [h1, List.length_append]
      have := filter_take_len ps c (fun p => mem p b)
      rw [hg.2 b hb, List.length_singleton] at this
      omega
    generalize hx : ps.getD c (List.replicate 4 (0 : Int)) = x at hpc
    have hts := take_snoc ps c hc (List.replicate 4 (0 : Int))
    rw [hx] at hts
    cases hm : mem x b with
    | false =>
      refine ⟨(a1, a2), ⟨?_, ?_⟩, ?_⟩
      · simp only
        rw [h1, hts, List.filter_append, List.filter_cons, hm]
        simp
      · simp only
        rw [h2, hts, List.filter_append, List.filter_cons, hm]
        simp
      · simp only [byteset_Parts_l25, byteset_Parts_l25_b, hd, g1, gd, cond_true, Int.toNat_natCast, hw8, hx]
        rw [has_ok x hpc b hb, hm]
        simp only [cond_false, hw']
    | true =>
      refine ⟨(a1 ++ [x], setOf fun y => mem a2 y || mem x y), ⟨?_, ?_⟩, ?_⟩
      · simp only
        rw [h1, hts, List.filter_append, List.filter_cons, hm]
        simp
      · simp only
        rw [hts, List.filter_append, List.filter_cons, hm]
        apply setOf_congr
        intro y hy
        rw [h2, mem_setOf _ y hy]
        simp [Bool.or_assoc]
      · simp only [byteset_Parts_l25, byteset_Parts_l25_b, hd, g1, gd, cond_true, Int.toNat_natCast, hw8, hx]
        rw [has_ok x hpc b hb, hm]
        have g2 : decide (a1.length + [x].length < SMALL) = true := decide_eq_true (by show _ < 17179869184; simp; omega)
        have hor := or_s kf hkf (mem a2) (mem x) (fun v55 => byteset_Parts_l25 kf k (b : Int) (b : Int) (ps.length : Int) ps Ke (IntKind.i64.wrap ((c : Int) + 1)) (a1 ++ [x]) v55)
        have ha2 : isSet a2 := by rw [h2]; exact setOf_isSet _
        rw [setOf_mem ha2, setOf_mem hpc] at hor
        simp only [cond_true, g2]
        rw [hor, hw']

theorem partsTo_succ (l : List (List Int)) (c : Nat) : ((List.range (c + 1)).filter (fst l)).map (cls l) = ((List.range c).filter (fst l)).map (cls l) ++ (if fst l c then [cls l c] else []) := by
  rw [List.range_succ, List.filter_append, List.map_append]
  congr 1
  simp only [List.filter_cons, List.filter_nil]
  split <;> rfl
theorem seen_fst (l : List (List Int)) (c : Nat) : fst l c = !seenP l c c := by
  unfold fst seenP
  rw [List.not_any_eq_all_not]
theorem seenP_succ (l : List (List Int)) (c x : Nat) : seenP l (c + 1) x = (seenP l c x || eqv l c x) := by
  unfold seenP
  rw [List.range_succ, List.any_append]
  simp
theorem seenP_old {l : List (List Int)} {c : Nat} (h : seenP l c c = true) (x : Nat) : (seenP l c x || eqv l c x) = seenP l c x := by
  cases he : eqv l c x with
  | false => rw [Bool.or_false]
  | true =>
    unfold seenP at h ⊢
    rw [List.any_eq_true] at h
    obtain ⟨b, hb, h1⟩ := h
    rw [Bool.or_true]
    symm
    rw [List.any_eq_true]
    exact ⟨b, hb, eqv_trans h1 he⟩

theorem l21_ok {R : Type} (kf : Nat) (hkf : 10000000 ≤ kf) (l : List (List Int)) (ps : List (List Int)) (hg : good l ps) (hlp : ps.length ≤ 2 ^ 20) (Ke : (List (List Int)) → Option R) :
    byteset_Parts_l21 kf kf Ke 0 ps [] (setOf fun _ => false) = Ke (partsS l) := by
  have e20 : (2 : Nat) ^ 20 = 1048576 := by decide
  rw [e20] at hlp
  refine loop_inv (fun k c (acc : List (List Int) × List Int) => byteset_Parts_l21 kf k Ke (c : Int) ps acc.1 acc.2) _ 256 2000000
    (fun c acc => acc.1 = ((List.range c).filter (fst l)).map (cls l) ∧ acc.2 = setOf (seenP l c)) ?_ ?_ 256 kf 0 ([], setOf fun _ => false) (by omega) (by omega) ⟨rfl, setOf_congr fun x _ => rfl⟩
  · rintro k ⟨a1, a2⟩ ⟨h1, h2⟩
    simp only at h1 h2
    simp only [byteset_Parts_l21, byteset_Parts_l21_b, show decide (((256 : Nat) : Int) < 256) = false from rfl, cond_false]
    rw [h1]; rfl
  · rintro k c ⟨a1, a2⟩ hB hc ⟨h1, h2⟩
    simp only at h1 h2
    left
    have hd : decide ((c : Int) < 256) = true := decide_eq_true (by omega)
    have hw' : IntKind.i64.wrap ((c : Int) + 1) = ((c + 1 : Nat) : Int) := by rw [IntKind.wrap_i64]; omega
    have hw8 : IntKind.u8.wrap (c : Int) = (c : Int) := by rw [IntKind.wrap_u8]; omega
    have hlen : a1.length < 1000 := by
      rw [h1, List.length_map]
      have := List.length_filter_le (fst l) (List.range c)
      rw [List.length_range] at this
      omega
    cases hs : seenP l c c with
    | true =>
      refine ⟨(a1, a2), ⟨?_, ?_⟩, ?_⟩
      · simp only
        rw [h1, partsTo_succ, seen_fst, hs]; simp
      · simp only
        rw [h2]
        apply setOf_congr
        intro x _
        rw [seenP_succ, seenP_old hs]
      · simp only [byteset_Parts_l21, byteset_Parts_l21_b, hd, cond_true, hw8]
        rw [h2, has_s _ c hc, hs]
        simp only [cond_true, hw']
    | false =>
      refine ⟨(a1 ++ [cls l c], setOf fun x => seenP l c x || eqv l c x), ⟨?_, ?_⟩, ?_⟩
      · simp only
        rw [h1, partsTo_succ, seen_fst, hs]; simp
      · simp only
        apply setOf_congr
        intro x _
        rw [seenP_succ]
      · simp only [byteset_Parts_l21, byteset_Parts_l21_b, hd, cond_true, hw8]
        rw [h2, has_s _ c hc, hs]
        simp only [cond_false]
        rw [l25_ok kf k (by omega) l c hc ps hg (by omega) (by omega) _ a1 _ hlen, hw']

theorem parts_s {R : Type} (kf : Nat) (hkf : 10000000 ≤ kf) (l : List (List Int)) (hl : ∀ s ∈ l, isSet s) (hn : l.length ≤ 20) (K : List (List Int) → Option R) : byteset_Parts kf l K = K (partsS l) := by
  unfold byteset_Parts byteset_Parts_b
  rw [zero_setOf, not_s kf (by omega)]
  have e : (setOf fun b => !(fun _ : Nat => false) b) = setOf fun _ => true := setOf_congr fun _ _ => rfl
  rw [e]
  exact l3_ok kf hkf _ l hl hn _ fun ps hg hlp => l21_ok kf hkf l ps hg hlp _
end Go.Ab.T

/- The laws of sets: SetAll, SetRanges, SetFirst. -/
namespace Go.Ab.T
open Go Go.Ab
set_option linter.unusedVariables false
set_option linter.unusedSimpArgs false

theorem all_congr' {α : Type} {p q : α → Bool} : ∀ {l : List α}, (∀ x ∈ l, p x = q x) → l.all p = l.all q
  | [], _ => rfl
  | a :: r, h => by
    rw [List.all_cons, List.all_cons, h a (by simp), all_congr' fun x hx => h x (by simp [hx])]

def abc (b : Nat) : Bool := decide (97 ≤ b ∧ b ≤ 99)
theorem abc_list : listOf abc = [97, 98, 99] := by decide +kernel
theorem fst_one (p : Nat → Bool) (b : Nat) (hb : b < 256) : fst [setOf p] b = (List.range b).all fun c => !(p c == p b) := by
  unfold fst
  apply all_congr'
  intro c hc
  have := List.mem_range.1 hc
  unfold eqv
  rw [List.all_cons, List.all_nil, Bool.and_true, mem_setOf p c (by omega), mem_setOf p b hb]
theorem abc_parts : (partsS [setOf abc]).length = 2 := by
  unfold partsS
  rw [List.length_map]
  have e : (List.range 256).filter (fst [setOf abc]) = (List.range 256).filter fun b => (List.range b).all fun c => !(abc c == abc b) := by
    apply List.filter_congr
    intro b hb
    exact fst_one abc b (List.mem_range.1 hb)
  rw [e]
  decide +kernel

theorem abc_ahead : aheadP abc fun _ => false := ⟨97, by omega, rfl, rfl, fun c hc => by unfold abc; exact decide_eq_false (by omega)⟩
theorem abc_of : (setOf fun b => decide ((b : Int) ∈ ([97, 98, 99] : List Int))) = setOf abc := by
  rw [← abc_list]
  exact setOf_listOf abc

theorem begun_ok {R : Type} (kf : Nat) (hkf : 10000000 ≤ kf) (K : Bool → Option R) : law4_begun kf K = K true := by
  unfold law4_begun law4_begun_b
  obtain ⟨r, hr1, hr2⟩ := less_s kf (by omega) abc fun _ => false
  have hr : r = true := hr1.2 abc_ahead
  rw [← zero_setOf] at hr2
  have h1 : ∀ K, byteset_Range (R := R) kf 97 99 K = K (setOf abc) := fun K => range_s (R := R) kf (by omega) 97 99 (by omega) (by omega) K
  have h2 : ∀ K, byteset_Has (R := R) (setOf abc) 98 K = K true := fun K => has_s abc 98 (by omega) K
  have h3 : ∀ K, byteset_Has (R := R) (setOf abc) 100 K = K false := fun K => has_s abc 100 (by omega) K
  rw [h1, parts_s kf hkf [setOf abc] (fun s hs => by rw [List.mem_singleton] at hs; subst hs; exact setOf_isSet _) (by simp), h2]
  simp only [cond_true]
  rw [h3]
  simp only [Bool.not_false, cond_true]
  rw [len_s kf (by omega), abc_list]
  simp only [show decide ((([97, 98, 99] : List Int).length : Int) = 3) = true from rfl, cond_true]
  rw [list_s kf (by omega), abc_list]
  simp only [show decide ((([97, 98, 99] : List Int).length : Int) = 3) = true from rfl, cond_true, abc_parts, show decide (((2 : Nat) : Int) = 2) = true from rfl]
  rw [hr2, hr]
  simp only [cond_true]
  rw [gd_true (show decide (0 < ([97, 98, 99] : List Int).length) = true from rfl), of_s kf [97, 98, 99] (by intro x hx; simp at hx; omega) (by simp) (by omega), abc_of, decide_eq_true rfl]

/-! ### lists -/
theorem listTo_cases (p : Nat → Bool) : ∀ c, (listTo p c = [] ∧ ∀ b, b < c → p b = false) ∨ ∃ b r, b < c ∧ p b = true ∧ (∀ x, x < b → p x = false) ∧ listTo p c = (b : Int) :: r
  | 0 => Or.inl ⟨rfl, fun b hb => by omega⟩
  | c + 1 => by
    rw [listTo_succ]
    rcases listTo_cases p c with ⟨h1, h2⟩ | ⟨b, r, h1, h2, h3, h4⟩
    · cases hp : p c with
      | false =>
        left
        refine ⟨by rw [h1]; rfl, fun b hb => ?_⟩
        by_cases h : b = c
        · subst h; exact hp
        · exact h2 b (by omega)
      | true => exact Or.inr ⟨c, [], by omega, hp, h2, by rw [h1]; rfl⟩
    · exact Or.inr ⟨b, r ++ (if p c then [(c : Int)] else []), by omega, h2, h3, by rw [h4]; rfl⟩
theorem listOf_cases (p : Nat → Bool) : (listOf p = [] ∧ ∀ b, b < 256 → p b = false) ∨ ∃ b r, b < 256 ∧ p b = true ∧ (∀ x, x < b → p x = false) ∧ listOf p = (b : Int) :: r := listTo_cases p 256

theorem listTo_range (f t : Nat) : ∀ c, listTo (fun b => decide (f ≤ b ∧ b ≤ t)) c = (List.range' f (min c (t + 1) - f)).map fun b : Nat => (b : Int)
  | 0 => by simp [listTo]
  | c + 1 => by
    rw [listTo_succ, listTo_range f t c]
    by_cases h : f ≤ c ∧ c ≤ t
    · rw [if_pos (decide_eq_true h), show min (c + 1) (t + 1) - f = (min c (t + 1) - f) + 1 by omega, List.range'_1_concat, List.map_append]
      congr 1
      simp only [List.map_cons, List.map_nil]
      congr 1
      omega
    · rw [if_neg (by simpa using h), List.append_nil]
      congr 2
      omega
theorem listOf_range (f t : Nat) (hf : f < 256) (ht : t < 256) : listOf (fun b => decide (f ≤ b ∧ b ≤ t)) = (List.range' f (t + 1 - f)).map fun b : Nat => (b : Int) := by
  have := listTo_range f t 256
  rw [show min 256 (t + 1) - f = t + 1 - f by omega] at this
  exact this

/-! ### SetAll -/
theorem setAll_ok {R : Type} (kf : Nat) (hkf : 10000000 ≤ kf) (a b l : List Int) (f t : Int) (ha : isSet a) (hb : isSet b) (hl : isB l) (hf : 0 ≤ f ∧ f ≤ 255) (ht : 0 ≤ t ∧ t ≤ 255) (K : Bool → Option R) : law4_SetAll kf a b l f t K = K true := by
  unfold law4_SetAll law4_SetAll_b
  rw [begun_ok kf hkf]
  simp only [Bool.not_true, cond_false]
  by_cases hlen : 300 < (l.length : Int)
  · rw [decide_eq_true hlen]; rfl
  · obtain ⟨f', rfl⟩ := Int.eq_ofNat_of_zero_le hf.1
    obtain ⟨t', rfl⟩ := Int.eq_ofNat_of_zero_le ht.1
    obtain ⟨p, rfl⟩ : ∃ p, a = setOf p := ⟨_, (setOf_mem ha).symm⟩
    obtain ⟨q, rfl⟩ : ∃ q, b = setOf q := ⟨_, (setOf_mem hb).symm⟩
    obtain ⟨r1, e1, z1⟩ := less_s kf (by omega) p q
    obtain ⟨r2, e2, z2⟩ := rless_s kf (by omega) p q
    have hr : r1 = r2 := Bool.eq_iff_iff.2 (e1.trans e2.symm)
    rw [decide_eq_false hlen]
    simp only [cond_false]
    rw [of_s kf l hl (by omega) (by omega), rof_s kf l hl (by omega) (by omega), decide_eq_true rfl]
    simp only [cond_true]
    rw [range_s kf (by omega) f' t' (by omega) (by omega), rrange_s kf (by omega) f' t' (by omega) (by omega), decide_eq_true rfl]
    simp only [cond_true]
    rw [or_s kf (by omega), ror_s kf (by omega), decide_eq_true rfl]
    simp only [cond_true]
    rw [and_s kf (by omega), rand_s kf (by omega), decide_eq_true rfl]
    simp only [cond_true]
    rw [not_s kf (by omega), rnot_s kf (by omega), decide_eq_true rfl]
    simp only [cond_true]
    rw [list_s kf (by omega), rlist_s kf (by omega), decide_eq_true rfl]
    simp only [cond_true]
    rw [len_s kf (by omega), rlist_s kf (by omega), decide_eq_true rfl]
    simp only [cond_true]
    rw [z1, z2, decide_eq_true hr]
    simp only [cond_true]
    rw [has_s p f' (by omega), rhas_s p f' (by omega), decide_eq_true rfl]

/-! ### SetRanges -/
theorem full_eq : (setOf fun b => decide (0 ≤ b ∧ b ≤ 255)) = setOf fun b => !(fun _ : Nat => false) b := setOf_congr fun b hb => decide_eq_true (by omega)
theorem tail_ok {R : Type} (kf : Nat) (hkf : 10000000 ≤ kf) (K : Bool → Option R) : (byteset_Range kf 0 255 fun v10 => byteset_Not kf (List.replicate 4 (0 : Int)) fun v11 => K (decide (v10 = v11))) = K true := by
  have h1 : ∀ K, byteset_Range (R := R) kf 0 255 K = K (setOf fun b => decide (0 ≤ b ∧ b ≤ 255)) := fun K => range_s (R := R) kf (by omega) 0 255 (by omega) (by omega) K
  rw [h1, zero_setOf, not_s kf (by omega), full_eq, decide_eq_true rfl]

theorem setRanges_ok {R : Type} (kf : Nat) (hkf : 10000000 ≤ kf) (f t x : Int) (hf : 0 ≤ f ∧ f ≤ 255) (ht : 0 ≤ t ∧ t ≤ 255) (hx : 0 ≤ x ∧ x ≤ 255) (K : Bool → Option R) : law4_SetRanges kf f t x K = K true := by
  obtain ⟨f, rfl⟩ := Int.eq_ofNat_of_zero_le hf.1
  obtain ⟨t, rfl⟩ := Int.eq_ofNat_of_zero_le ht.1
  obtain ⟨x, rfl⟩ := Int.eq_ofNat_of_zero_le hx.1
  unfold law4_SetRanges law4_SetRanges_b
  rw [begun_ok kf hkf]
  simp only [Bool.not_true, cond_false]
  rw [range_s kf (by omega) f t (by omega) (by omega)]
  have hm : (mx (IntKind.i64.wrap ((IntKind.i64.wrap ((IntKind.i64.wrap (t : Int)) - (IntKind.i64.wrap (f : Int)))) + 1)) 0) = ((t + 1 - f : Nat) : Int) := by
    rw [wrap_i f (by omega), wrap_i t (by omega)]
    unfold mx
    simp only [IntKind.wrap_i64]
    split <;> omega
  rw [hm, list_s kf (by omega), has_s _ x (by omega), listOf_range f t (by omega) (by omega)]
  have hlen : ((List.range' f (t + 1 - f)).map fun b : Nat => (b : Int)).length = t + 1 - f := by simp
  have rest : (bif decide (((t + 1 - f : Nat) : Int) = 0) then
              (byteset_Range kf 0 255 (fun (v10 : (List Int)) =>
                byteset_Not kf (List.replicate 4 (0 : Int)) (fun (v11 : (List Int)) =>
                 K (decide (v10 = v11)))))
              else (gd (decide (0 < (((List.range' f (t + 1 - f)).map fun b : Nat => (b : Int)).length : Int)))
               (bif decide ((((List.range' f (t + 1 - f)).map fun b : Nat => (b : Int)).getD 0 (0 : Int)) = (f : Int)) then
                (gd (decide (0 ≤ (IntKind.i64.wrap (((t + 1 - f : Nat) : Int) - 1))))
                 (gd (decide ((IntKind.i64.wrap (((t + 1 - f : Nat) : Int) - 1)) < (((List.range' f (t + 1 - f)).map fun b : Nat => (b : Int)).length : Int)))
                  (bif decide ((((List.range' f (t + 1 - f)).map fun b : Nat => (b : Int)).getD (Int.toNat (IntKind.i64.wrap (((t + 1 - f : Nat) : Int) - 1))) (0 : Int)) = (t : Int)) then
                   (byteset_Range kf 0 255 (fun (v12 : (List Int)) =>
                     byteset_Not kf (List.replicate 4 (0 : Int)) (fun (v13 : (List Int)) =>
                      K (decide (v12 = v13)))))
                   else (K false))))
                else (K false)))) = K true := by
    by_cases h0 : t + 1 - f = 0
    · rw [decide_eq_true (by omega)]
      exact tail_ok kf hkf K
    · have hw : IntKind.i64.wrap (((t + 1 - f : Nat) : Int) - 1) = ((t - f : Nat) : Int) := by rw [IntKind.wrap_i64]; omega
      have g : ∀ i, i < t + 1 - f → ((List.range' f (t + 1 - f)).map fun b : Nat => (b : Int)).getD i 0 = ((f + i : Nat) : Int) := by
        intro i hi
        rw [List.getD_eq_getElem?_getD, List.getElem?_map, List.getElem?_range' hi]
        simp
      rw [hw, hlen, decide_eq_false (by omega), g 0 (by omega), Int.toNat_natCast, g (t - f) (by omega)]
      simp only [cond_false]
      rw [gd_true (decide_eq_true (by omega)), decide_eq_true (by omega)]
      simp only [cond_true]
      rw [gd_true (decide_eq_true (by omega)), gd_true (decide_eq_true (by omega)), decide_eq_true (by omega)]
      exact tail_ok kf hkf K
  by_cases hfx : (f : Int) ≤ (x : Int)
  · rw [decide_eq_true hfx]
    simp only [cond_true]
    have e1 : decide (f ≤ x ∧ x ≤ t) = decide ((x : Int) ≤ (t : Int)) := decide_eq_decide.2 (by omega)
    rw [e1, decide_eq_true rfl]
    simp only [cond_true]
    rw [len_s kf (by omega), listOf_range f t (by omega) (by omega), hlen, decide_eq_true rfl]
    simp only [cond_true]
    rw [hlen] at rest
    exact rest
  · rw [decide_eq_false hfx]
    simp only [cond_false]
    have e1 : decide (f ≤ x ∧ x ≤ t) = false := decide_eq_false (by omega)
    rw [e1, decide_eq_true rfl]
    simp only [cond_true]
    rw [len_s kf (by omega), listOf_range f t (by omega) (by omega), hlen, decide_eq_true rfl]
    simp only [cond_true]
    rw [hlen] at rest
    exact rest

/-! ### SetFirst -/
theorem setFirst_ok {R : Type} (kf : Nat) (hkf : 10000000 ≤ kf) (a b : List Int) (ha : isSet a) (hb : isSet b) (K : Bool → Option R) : law4_SetFirst kf a b K = K true := by
  obtain ⟨p, rfl⟩ : ∃ p, a = setOf p := ⟨_, (setOf_mem ha).symm⟩
  obtain ⟨q, rfl⟩ : ∃ q, b = setOf q := ⟨_, (setOf_mem hb).symm⟩
  obtain ⟨r1, e1, z1⟩ := less_s kf (by omega) p q
  unfold law4_SetFirst law4_SetFirst_b
  rw [begun_ok kf hkf]
  simp only [Bool.not_true, cond_false]
  rw [not_s kf (by omega), and_s kf (by omega), not_s kf (by omega), and_s kf (by omega), list_s kf (by omega), list_s kf (by omega)]
  simp only [z1]
  have agree : ∀ c, (p c && !q c) = false → (q c && !p c) = false → p c = q c := by
    intro c
    cases p c <;> cases q c <;> simp
  rcases listOf_cases (fun b => p b && !q b) with ⟨h1, h2⟩ | ⟨i, r, h1, h2, h3, h4⟩
  · rw [h1, show decide (0 < (([] : List Int).length : Int)) = false from rfl]
    simp only [cond_false]
    have : r1 = false := by
      cases hr : r1 with
      | false => rfl
      | true =>
        obtain ⟨c, hc, q1, q2, _⟩ := e1.1 hr
        have := h2 c hc
        simp [q1, q2] at this
    rw [this, decide_eq_true rfl]
  · rw [h4, decide_eq_true (show 0 < (((i : Int) :: r).length : Int) by simp)]
    simp only [cond_true]
    rcases listOf_cases (fun b => q b && !p b) with ⟨g1, g2⟩ | ⟨j, s, g1, g2, g3, g4⟩
    · rw [g1, show decide ((([] : List Int).length : Int) = 0) = true from rfl]
      simp only [cond_true]
      have : r1 = true := e1.2 ⟨i, h1, by revert h2; cases p i <;> simp, by revert h2; cases p i <;> cases q i <;> simp, fun c hc => agree c (h3 c hc) (g2 c (by omega))⟩
      rw [this, decide_eq_true rfl]
    · rw [g4, decide_eq_false (show ¬ (((j : Int) :: s).length : Int) = 0 by simp; omega)]
      simp only [cond_false]
      rw [gd_true (decide_eq_true (show 0 < (((j : Int) :: s).length : Int) by simp))]
      rw [gd]
      simp only [cond_true, List.getD_cons_zero]
      have : r1 = decide ((i : Int) < (j : Int)) := by
        rw [Bool.eq_iff_iff, decide_eq_true_iff, e1]
        constructor
        · rintro ⟨c, hc, q1, q2, q3⟩
          rcases Nat.lt_trichotomy i j with h | h | h
          · omega
          · subst h
            revert h2 g2; cases p i <;> cases q i <;> simp
          · exfalso
            rcases Nat.lt_trichotomy c j with hh | hh | hh
            · have := h3 c (by omega); simp [q1, q2] at this
            · subst hh; simp [q1, q2] at g2
            · have := q3 j hh; revert g2; rw [this]; cases q j <;> simp
        · intro h
          exact ⟨i, h1, by revert h2; cases p i <;> simp, by revert h2; cases p i <;> cases q i <;> simp, fun c hc => agree c (h3 c hc) (g3 c (by omega))⟩
      rw [this, decide_eq_true rfl]
end Go.Ab.T

/- The reference's parts; the law SetParts. -/
namespace Go.Ab.T
open Go Go.Ab
set_option linter.unusedVariables false
set_option linter.unusedSimpArgs false

/-! ### where the first one stands for which p holds -/
def idx (p : Nat → Bool) : List Nat → Nat
  | [] => 0
  | a :: r => if p a then 0 else idx p r + 1
theorem idx_le (p : Nat → Bool) : ∀ l, idx p l ≤ l.length
  | [] => Nat.le_refl _
  | a :: r => by
    simp only [idx]
    have := idx_le p r
    split <;> simp <;> omega
theorem idx_at (p : Nat → Bool) (d : Nat) : ∀ l, idx p l < l.length → p (l.getD (idx p l) d) = true
  | [], h => by simp [idx] at h
  | a :: r, h => by
    simp only [idx] at h ⊢
    by_cases ha : p a = true
    · rw [if_pos ha]; simpa using ha
    · rw [if_neg ha] at h ⊢
      rw [List.getD_cons_succ]
      exact idx_at p d r (by simpa using h)
theorem idx_min (p : Nat → Bool) (d : Nat) : ∀ l j, j < l.length → p (l.getD j d) = true → idx p l ≤ j
  | [], j, h, _ => by simp at h
  | a :: r, 0, h, hp => by
    simp only [idx]
    rw [List.getD_cons_zero] at hp
    rw [if_pos hp]
    omega
  | a :: r, j + 1, h, hp => by
    simp only [idx]
    rw [List.getD_cons_succ] at hp
    have := idx_min p d r j (by simpa using h) hp
    split <;> omega
theorem idx_pos {p : Nat → Bool} {a : Nat} {r : List Nat} (h : p a = true) : idx p (a :: r) = 0 := by simp [idx, h]
theorem idx_neg {p : Nat → Bool} {a : Nat} {r : List Nat} (h : p a = false) : idx p (a :: r) = idx p r + 1 := by simp [idx, h]
theorem idx_append (p : Nat → Bool) (m : List Nat) : ∀ l, idx p (l ++ m) = if idx p l < l.length then idx p l else l.length + idx p m
  | [] => by simp [idx]
  | a :: r => by
    rw [List.cons_append]
    cases ha : p a with
    | true => rw [idx_pos ha, idx_pos ha, if_pos (by simp)]
    | false =>
      rw [idx_neg ha, idx_neg ha, idx_append p m r, List.length_cons]
      by_cases h : idx p r < r.length
      · rw [if_pos h, if_pos (by omega)]
      · rw [if_neg h, if_neg (by omega)]; omega
theorem idx_mem (p : Nat → Bool) (x : Nat) : ∀ l, x ∈ l → p x = true → idx p l < l.length
  | [], h, _ => by cases h
  | a :: r, h, hp => by
    simp only [idx]
    by_cases ha : p a = true
    · rw [if_pos ha]; simp
    · rw [if_neg ha, List.length_cons]
      rcases List.mem_cons.1 h with rfl | h
      · exact absurd hp ha
      · have := idx_mem p x r h hp; omega

/-! ### the first ones -/
def FT (l : List (List Int)) (c : Nat) : List Nat := (List.range c).filter (fst l)
theorem mem_FT {l : List (List Int)} {c x : Nat} : x ∈ FT l c ↔ x < c ∧ fst l x = true := by
  unfold FT; rw [List.mem_filter, List.mem_range]
theorem FT_succ (l : List (List Int)) (c : Nat) : FT l (c + 1) = FT l c ++ (if fst l c then [c] else []) := by
  unfold FT
  rw [List.range_succ, List.filter_append]
  congr 1
  simp only [List.filter_cons, List.filter_nil]
theorem FT_len (l : List (List Int)) (c : Nat) : (FT l c).length ≤ c := by
  unfold FT
  have := List.length_filter_le (fst l) (List.range c)
  rwa [List.length_range] at this
theorem FT_pre (l : List (List Int)) (c : Nat) : ∀ m, ∃ r, FT l (c + m) = FT l c ++ r
  | 0 => ⟨[], by simp⟩
  | m + 1 => by
    obtain ⟨r, hr⟩ := FT_pre l c m
    refine ⟨r ++ (if fst l (c + m) then [c + m] else []), ?_⟩
    rw [← Nat.add_assoc, FT_succ, hr, List.append_assoc]
theorem FT_lt (l : List (List Int)) (c : Nat) : (FT l c).Pairwise (· < ·) := List.Pairwise.filter _ List.pairwise_lt_range
theorem FT_mono (l : List (List Int)) (c i j : Nat) (hij : i < j) (hj : j < (FT l c).length) : (FT l c).getD i 0 < (FT l c).getD j 0 := by
  have := List.pairwise_iff_getElem.1 (FT_lt l c) i j (by omega) hj hij
  rwa [List.getD_eq_getElem?_getD, List.getD_eq_getElem?_getD, List.getElem?_eq_getElem (by omega), List.getElem?_eq_getElem hj]

/-- each byte has a first one -/
theorem first_of (l : List (List Int)) : ∀ b, ∃ f, f ≤ b ∧ fst l f = true ∧ eqv l f b = true := by
  intro b
  induction b using Nat.strongRecOn with
  | _ b ih =>
    cases hf : fst l b with
    | true => exact ⟨b, Nat.le_refl _, hf, eqv_refl l b⟩
    | false =>
      have : ¬ ∀ c, c < b → eqv l c b = false := fun h => by rw [fst_iff.2 h] at hf; cases hf
      obtain ⟨c, hc⟩ := Classical.not_forall.1 this
      obtain ⟨h1, h2⟩ := Classical.not_imp.1 hc
      have h3 : eqv l c b = true := by simpa using h2
      obtain ⟨f, q1, q2, q3⟩ := ih c h1
      exact ⟨f, by omega, q2, eqv_trans q3 h3⟩
theorem first_eq {l : List (List Int)} {f g : Nat} (hf : fst l f = true) (hg : fst l g = true) (h : eqv l f g = true) : f = g := by
  rcases Nat.lt_trichotomy f g with q | q | q
  · have := fst_iff.1 hg f q; rw [h] at this; cases this
  · exact q
  · have := fst_iff.1 hf g q; rw [eqv_symm h] at this; cases this

/-- the number of a byte's class -/
def ci (l : List (List Int)) (i : Nat) : Nat := idx (eqv l i) (FT l 256)
theorem ci_lt (l : List (List Int)) (i : Nat) (hi : i < 256) : ci l i < (FT l 256).length := by
  obtain ⟨f, h1, h2, h3⟩ := first_of l i
  exact idx_mem _ f _ (mem_FT.2 ⟨by omega, h2⟩) (eqv_symm h3)
theorem idx_old (l : List (List Int)) (c : Nat) (hc : c < 256) (h : idx (eqv l c) (FT l c) < (FT l c).length) : ci l c = idx (eqv l c) (FT l c) ∧ fst l c = false := by
  constructor
  · obtain ⟨r, hr⟩ := FT_pre l c (256 - c)
    rw [show c + (256 - c) = 256 by omega] at hr
    unfold ci
    rw [hr, idx_append, if_pos h]
  · cases hf : fst l c with
    | false => rfl
    | true =>
      have h1 := idx_at (eqv l c) 0 _ h
      have h2 := mem_FT.1 (getD_mem (FT l c) _ h 0)
      have := fst_iff.1 hf _ h2.1
      rw [eqv_symm h1] at this; cases this
theorem idx_new (l : List (List Int)) (c : Nat) (hc : c < 256) (h : idx (eqv l c) (FT l c) = (FT l c).length) : ci l c = (FT l c).length ∧ fst l c = true := by
  have hf : fst l c = true := by
    obtain ⟨f, h1, h2, h3⟩ := first_of l c
    by_cases hfc : f = c
    · subst hfc; exact h2
    · have := idx_mem (eqv l c) f (FT l c) (mem_FT.2 ⟨by omega, h2⟩) (eqv_symm h3)
      omega
  refine ⟨?_, hf⟩
  obtain ⟨r, hr⟩ := FT_pre l (c + 1) (255 - c)
  rw [show c + 1 + (255 - c) = 256 by omega, FT_succ l c, if_pos hf] at hr
  unfold ci
  rw [hr, List.append_assoc, idx_append, if_neg (by omega), List.singleton_append]
  simp only [idx, eqv_refl, if_true]
  omega

theorem ci_iff (l : List (List Int)) (x k : Nat) (hx : x < 256) (hk : k < (FT l 256).length) : ci l x = k ↔ eqv l ((FT l 256).getD k 0) x = true := by
  constructor
  · rintro rfl
    exact eqv_symm (idx_at (eqv l x) 0 _ (ci_lt l x hx))
  · intro h
    have h1 : eqv l x ((FT l 256).getD (ci l x) 0) = true := idx_at (eqv l x) 0 _ (ci_lt l x hx)
    have h2 := (mem_FT.1 (getD_mem (FT l 256) k hk 0)).2
    have h3 := (mem_FT.1 (getD_mem (FT l 256) _ (ci_lt l x hx) 0)).2
    have h4 := first_eq h2 h3 (eqv_trans h h1)
    rcases Nat.lt_trichotomy (ci l x) k with q | q | q
    · have := FT_mono l 256 _ _ q hk
      omega
    · exact q
    · have := FT_mono l 256 _ _ q (ci_lt l x hx)
      omega

/-! ### the reference's functions -/
theorem rhas_ok {R : Type} {s : List Int} (hs : isSet s) (b : Nat) (hb : b < 256) (K : Bool → Option R) : ref1_Has s (b : Int) K = K (mem s b) := by
  have := rhas_s (mem s) b hb K
  rwa [setOf_mem hs] at this

theorem alike_ok {R : Type} (kf : Nat) (l : List (List Int)) (hl : ∀ s ∈ l, isSet s) (hn : l.length < 1000) (hkf : 2000 ≤ kf) (b c : Nat) (hb : b < 256) (hc : c < 256) (K : Bool → Option R) : ref1_alike kf l (b : Int) (c : Int) K = K (eqv l b c) := by
  unfold ref1_alike ref1_alike_b
  refine loop_inv (fun k i (_ : Unit) => ref1_alike_l2 kf k l (b : Int) (c : Int) (fun (v10 : Bool) => K v10) (K true) (i : Int)) _ l.length 0
    (fun i _ => ∀ s ∈ l.take i, mem s b = mem s c) ?_ ?_ l.length kf 0 () (by omega) (by omega) (by simp)
  · intro k _ h
    have hd : decide ((l.length : Int) < (l.length : Int)) = false := decide_eq_false (by omega)
    rw [List.take_length] at h
    simp only [ref1_alike_l2, ref1_alike_l2_b, hd, cond_false]
    rw [eqv_iff.2 h]
  · intro k i _ _ hi h
    have hd : decide ((i : Int) < (l.length : Int)) = true := decide_eq_true (by omega)
    have g1 : decide (0 ≤ (i : Int)) = true := decide_eq_true (by omega)
    have hs : isSet (l.getD i (List.replicate 4 (0 : Int))) := hl _ (getD_mem l i hi _)
    have hw := wrap_i1 i (show i < 1000000 by omega)
    simp only [ref1_alike_l2, ref1_alike_l2_b, hd, g1, gd, cond_true, Int.toNat_natCast, rhas_ok hs b hb, rhas_ok hs c hc]
    by_cases he : mem (l.getD i (List.replicate 4 (0 : Int))) b = mem (l.getD i (List.replicate 4 (0 : Int))) c
    · left
      refine ⟨(), ?_, ?_⟩
      · intro s hs'
        rw [take_snoc l i hi (List.replicate 4 (0 : Int)), List.mem_append, List.mem_singleton] at hs'
        rcases hs' with h' | rfl
        · exact h s h'
        · exact he
      · rw [decide_eq_true he]
        simp only [Bool.not_true, cond_false, hw]
    · right
      rw [decide_eq_false he]
      simp only [Bool.not_false, cond_true]
      have : eqv l b c = false := by
        cases hq : eqv l b c with
        | false => rfl
        | true => exact absurd (eqv_iff.1 hq _ (getD_mem l i hi _)) he
      rw [this]

theorem cl7_ok {R : Type} (kf k0 : Nat) (l : List (List Int)) (hl : ∀ s ∈ l, isSet s) (hn : l.length < 1000) (hkf : 2000 ≤ kf) (c : Nat) (hc : c < 256) (v10 v11 : List Int) (hk : 300 ≤ k0)
    (Ke : (List (List Int)) → Int → Int → (List Int) → (List Int) → (List Int) → Option R) :
    ref1_Classes_l7 kf k0 l (c : Int) v10 v11 ((FT l c).map fun b : Nat => (b : Int)) Ke 0 = Ke l (c : Int) ((idx (eqv l c) (FT l c) : Nat) : Int) v10 v11 ((FT l c).map fun b : Nat => (b : Int)) := by
  have hlen := FT_len l c
  refine loop_inv (fun k i (_ : Unit) => ref1_Classes_l7 kf k l (c : Int) v10 v11 ((FT l c).map fun b : Nat => (b : Int)) Ke (i : Int)) _ (FT l c).length 0
    (fun i _ => i ≤ idx (eqv l c) (FT l c)) ?_ ?_ (FT l c).length k0 0 () (by omega) (by omega) (by omega)
  · intro k _ h
    have hd : decide (((FT l c).length : Int) < (((FT l c).map fun b : Nat => (b : Int)).length : Int)) = false := decide_eq_false (by simp)
    have := idx_le (eqv l c) (FT l c)
    have e : idx (eqv l c) (FT l c) = (FT l c).length := by omega
    simp only [ref1_Classes_l7, ref1_Classes_l7_b, hd, cond_false]
    rw [e]
  · intro k i _ _ hi h
    have hd : decide ((i : Int) < (((FT l c).map fun b : Nat => (b : Int)).length : Int)) = true := decide_eq_true (by simp; exact hi)
    have g1 : decide (0 ≤ (i : Int)) = true := decide_eq_true (by omega)
    have hw := wrap_i1 i (show i < 1000000 by omega)
    have hm := mem_FT.1 (getD_mem (FT l c) i hi 0)
    have hg : ((FT l c).map fun b : Nat => (b : Int)).getD i 0 = (((FT l c).getD i 0 : Nat) : Int) := by
      rw [List.getD_eq_getElem?_getD, List.getD_eq_getElem?_getD, List.getElem?_map, List.getElem?_eq_getElem hi]; rfl
    have hw8 : IntKind.u8.wrap (c : Int) = (c : Int) := by rw [IntKind.wrap_u8]; omega
    have hw8' : IntKind.u8.wrap (((FT l c).getD i 0 : Nat) : Int) = (((FT l c).getD i 0 : Nat) : Int) := by rw [IntKind.wrap_u8]; omega
    simp only [ref1_Classes_l7, ref1_Classes_l7_b, hd, g1, gd, cond_true, Int.toNat_natCast, hg, hw8, hw8']
    rw [alike_ok kf l hl hn hkf c _ hc (by omega)]
    cases he : eqv l c ((FT l c).getD i 0) with
    | false =>
      left
      refine ⟨(), ?_, ?_⟩
      · apply Classical.byContradiction
        intro hq
        have e : idx (eqv l c) (FT l c) = i := by omega
        have := idx_at (eqv l c) 0 (FT l c) (by omega)
        rw [e, he] at this; cases this
      · simp only [Bool.not_false, cond_true, hw]
    | true =>
      right
      have := idx_min (eqv l c) 0 (FT l c) i hi he
      have e : idx (eqv l c) (FT l c) = i := by omega
      simp only [Bool.not_true, cond_false, e]

theorem classes_ok {R : Type} (kf : Nat) (l : List (List Int)) (hl : ∀ s ∈ l, isSet s) (hn : l.length < 1000) (hkf : 2000 ≤ kf) (K : (List Int) → Int → Option R) (T : Option R)
    (hT : ∀ cl : List Int, cl.length = 256 → (∀ i, i < 256 → cl.getD i 0 = ((ci l i : Nat) : Int)) → K cl ((FT l 256).length : Int) = T) : ref1_Classes kf l K = T := by
  unfold ref1_Classes ref1_Classes_b
  refine loop_inv (fun k c (acc : List Int × List Int) => ref1_Classes_l4 kf k (fun (v22 : (List Int)) (v23 : (List Int)) (v24 : (List Int)) => K v23 (v24.length : Int)) l (c : Int) (List.replicate 256 (0 : Int)) acc.1 acc.2) _ 256 1000
    (fun c acc => acc.1.length = 256 ∧ (∀ i, i < c → acc.1.getD i 0 = ((ci l i : Nat) : Int)) ∧ acc.2 = (FT l c).map fun b : Nat => (b : Int)) ?_ ?_ 256 kf 0 (List.replicate 256 (0 : Int), []) (by omega) (by omega)
    ⟨List.length_replicate, fun i hi => by omega, rfl⟩
  · rintro k ⟨a1, a2⟩ ⟨h1, h2, h3⟩
    simp only at h1 h2 h3
    simp only [ref1_Classes_l4, ref1_Classes_l4_b, show decide (((256 : Nat) : Int) < 256) = false from rfl, cond_false]
    rw [h3, List.length_map]
    exact hT a1 h1 h2
  · rintro k c ⟨a1, a2⟩ hB hc ⟨h1, h2, h3⟩
    simp only at h1 h2 h3
    left
    have hlen := FT_len l c
    have hd : decide ((c : Int) < 256) = true := decide_eq_true (by omega)
    have g1 : decide (0 ≤ (c : Int)) = true := decide_eq_true (by omega)
    have hw := wrap_i1 c (show c < 1000000 by omega)
    have hle := idx_le (eqv l c) (FT l c)
    have hw8 : IntKind.u8.wrap ((idx (eqv l c) (FT l c) : Nat) : Int) = ((idx (eqv l c) (FT l c) : Nat) : Int) := by rw [IntKind.wrap_u8]; omega
    have hset : ∀ v : Int, v = ((ci l c : Nat) : Int) → (a1.set c v).length = 256 ∧ ∀ i, i < c + 1 → (a1.set c v).getD i 0 = ((ci l i : Nat) : Int) := by
      intro v hv
      refine ⟨by rw [List.length_set]; exact h1, fun i hi => ?_⟩
      rw [getD_setI]
      by_cases hci : c = i
      · subst hci; rw [if_pos ⟨rfl, by omega⟩]; exact hv
      · rw [if_neg (fun q => hci q.1)]; exact h2 i (by omega)
    by_cases hlt : idx (eqv l c) (FT l c) < (FT l c).length
    · obtain ⟨q1, q2⟩ := idx_old l c hc hlt
      obtain ⟨s1, s2⟩ := hset _ (by rw [q1] : ((idx (eqv l c) (FT l c) : Nat) : Int) = _)
      refine ⟨(a1.set c ((idx (eqv l c) (FT l c) : Nat) : Int), a2), ⟨s1, s2, ?_⟩, ?_⟩
      · simp only
        rw [h3, FT_succ, q2]; simp
      · simp only [ref1_Classes_l4, ref1_Classes_l4_b, hd, cond_true]
        rw [h3, cl7_ok kf k l hl hn hkf c hc _ _ (by omega)]
        have hne : decide (((idx (eqv l c) (FT l c) : Nat) : Int) = (((FT l c).map fun b : Nat => (b : Int)).length : Int)) = false := decide_eq_false (by rw [List.length_map]; omega)
        simp only [hne, cond_false, g1, hd, gd, cond_true, hw, hw8, Int.toNat_natCast]
    · have he : idx (eqv l c) (FT l c) = (FT l c).length := by omega
      obtain ⟨q1, q2⟩ := idx_new l c hc he
      obtain ⟨s1, s2⟩ := hset _ (by rw [q1, he] : ((idx (eqv l c) (FT l c) : Nat) : Int) = _)
      refine ⟨(a1.set c ((idx (eqv l c) (FT l c) : Nat) : Int), a2 ++ [(c : Int)]), ⟨s1, s2, ?_⟩, ?_⟩
      · simp only
        rw [h3, FT_succ, q2]; simp
      · simp only [ref1_Classes_l4, ref1_Classes_l4_b, hd, cond_true]
        rw [h3, cl7_ok kf k l hl hn hkf c hc _ _ (by omega)]
        have hne : decide (((idx (eqv l c) (FT l c) : Nat) : Int) = (((FT l c).map fun b : Nat => (b : Int)).length : Int)) = true := decide_eq_true (by rw [List.length_map]; omega)
        have g2 : decide (((FT l c).map fun b : Nat => (b : Int)).length + ([(c : Int)] : List Int).length < SMALL) = true := decide_eq_true (by show _ < 17179869184; simp; omega)
        simp only [hne, cond_true, g1, g2, hd, gd, hw, hw8, Int.toNat_natCast]

theorem partsS_eq (l : List (List Int)) : partsS l = (FT l 256).map (cls l) := rfl

theorem rparts_s {R : Type} (kf : Nat) (l : List (List Int)) (hl : ∀ s ∈ l, isSet s) (hn : l.length < 1000) (hkf : 2000 ≤ kf) (K : (List (List Int)) → Option R) : ref1_Parts kf l K = K (partsS l) := by
  unfold ref1_Parts ref1_Parts_b
  have hF := FT_len l 256
  refine classes_ok kf l hl hn hkf _ _ fun cl h1 h2 => ?_
  rw [gd_true (decide_eq_true (by omega)), gd_true (decide_eq_true (by omega)), gd_true (decide_eq_true (by show _ < ((17179869184 : Nat) : Int); omega)), Int.toNat_natCast]
  refine loop_inv (fun k c (acc : List (List Int)) => ref1_Parts_l4 kf k cl (fun (v9 : (List (List Int))) => K v9) (c : Int) acc) _ 256 0
    (fun c acc => acc.length = (FT l 256).length ∧ ∀ k, k < (FT l 256).length → acc.getD k (List.replicate 4 (0 : Int)) = setOf fun x => decide (x < c) && decide (ci l x = k)) ?_ ?_ 256 kf 0 _ (by omega) (by omega)
    ⟨List.length_replicate, fun k hk => by
      rw [List.getD_eq_getElem?_getD, List.getElem?_replicate, if_pos hk]
      show List.replicate 4 (0 : Int) = _
      rw [zero_setOf]
      exact setOf_congr fun x _ => by simp⟩
  · rintro k acc ⟨q1, q2⟩
    simp only [ref1_Parts_l4, ref1_Parts_l4_b, show decide (((256 : Nat) : Int) < 256) = false from rfl, cond_false]
    congr 1
    rw [partsS_eq]
    apply List.ext_getElem
    · rw [q1, List.length_map]
    · intro j hj1 hj2
      have hj : j < (FT l 256).length := by rw [← q1]; exact hj1
      have h3 := q2 j hj
      rw [List.getD_eq_getElem?_getD, List.getElem?_eq_getElem hj1] at h3
      rw [List.getElem_map]
      refine Eq.trans h3 ?_
      unfold cls
      apply setOf_congr
      intro x hx
      rw [decide_eq_true hx, Bool.true_and, Bool.eq_iff_iff, decide_eq_true_iff, ci_iff l x j hx hj, List.getD_eq_getElem?_getD, List.getElem?_eq_getElem hj]
      rfl
  · rintro k c acc _ hc ⟨q1, q2⟩
    left
    have hci := ci_lt l c hc
    have hd : decide ((c : Int) < 256) = true := decide_eq_true (by omega)
    have g1 : decide (0 ≤ (c : Int)) = true := decide_eq_true (by omega)
    have g2 : decide (0 ≤ ((ci l c : Nat) : Int)) = true := decide_eq_true (by omega)
    have g3 : decide (((ci l c : Nat) : Int) < (acc.length : Int)) = true := decide_eq_true (by omega)
    have hw := wrap_i1 c (show c < 1000000 by omega)
    have hw8 : IntKind.u8.wrap (c : Int) = (c : Int) := by rw [IntKind.wrap_u8]; omega
    refine ⟨acc.set (ci l c) (setOf fun x => (decide (x < c) && decide (ci l x = ci l c)) || decide ((x : Int) ∈ [(c : Int)])), ⟨by rw [List.length_set]; exact q1, fun j hj => ?_⟩, ?_⟩
    · have hgs : (acc.set (ci l c) (setOf fun x => (decide (x < c) && decide (ci l x = ci l c)) || decide ((x : Int) ∈ [(c : Int)]))).getD j (List.replicate 4 (0 : Int)) = if ci l c = j then (setOf fun x => (decide (x < c) && decide (ci l x = ci l c)) || decide ((x : Int) ∈ [(c : Int)])) else acc.getD j (List.replicate 4 (0 : Int)) := by
        rw [List.getD_eq_getElem?_getD, List.getD_eq_getElem?_getD, List.getElem?_set]
        by_cases h : ci l c = j
        · rw [if_pos h, if_pos h, if_pos (by omega)]; rfl
        · rw [if_neg h, if_neg h]
      rw [hgs]
      by_cases h : ci l c = j
      · rw [if_pos h]
        apply setOf_congr
        intro x hx
        rw [h]
        by_cases hxc : x = c
        · subst hxc; simp [h]
        · have e1 : decide ((x : Int) ∈ [(c : Int)]) = false := decide_eq_false (by rw [List.mem_singleton]; omega)
          have e2 : decide (x < c + 1) = decide (x < c) := decide_eq_decide.2 (by omega)
          rw [e1, e2, Bool.or_false]
      · rw [if_neg h, q2 j hj]
        apply setOf_congr
        intro x hx
        by_cases hxc : x = c
        · subst hxc; simp [h]
        · have e2 : decide (x < c + 1) = decide (x < c) := decide_eq_decide.2 (by omega)
          rw [e2]
    · simp only [ref1_Parts_l4, ref1_Parts_l4_b, hd, g1, gd, cond_true, Int.toNat_natCast, h2 c hc, g2, g3, hw8]
      rw [rof_s kf [(c : Int)] (by intro x hx; rw [List.mem_singleton] at hx; omega) (by simp) hkf, q2 (ci l c) hci, ror_s kf hkf, hw]

/-! ### SetParts -/
theorem setParts_ok {R : Type} (kf : Nat) (hkf : 10000000 ≤ kf) (l : List (List Int)) (hl : ∀ s ∈ l, isSet s) (K : Bool → Option R) : law4_SetParts kf l K = K true := by
  unfold law4_SetParts law4_SetParts_b
  rw [begun_ok kf hkf]
  simp only [Bool.not_true, cond_false]
  by_cases hlen : 12 < (l.length : Int)
  · rw [decide_eq_true hlen]; rfl
  · rw [decide_eq_false hlen]
    simp only [cond_false]
    rw [parts_s kf hkf l hl (by omega), rparts_s kf l hl (by omega) (by omega), decide_eq_true rfl]
    simp only [Bool.not_true, cond_false]
    have hp : (partsS l).length ≤ 256 := by rw [partsS_eq, List.length_map]; exact FT_len l 256
    generalize partsS l = x at hp
    refine loop_inv (fun k i (_ : Unit) => law4_SetParts_l9 kf k x x (fun (v8 : Bool) => K v8) (K true) (i : Int)) _ x.length 0 (fun _ _ => True) ?_ ?_ x.length kf 0 () (by omega) (by omega) trivial
    · intro k _ _
      have hd : decide ((x.length : Int) < (x.length : Int)) = false := decide_eq_false (by omega)
      simp only [law4_SetParts_l9, law4_SetParts_l9_b, hd, cond_false]
    · intro k i _ _ hi _
      left
      refine ⟨(), trivial, ?_⟩
      have hd : decide ((i : Int) < (x.length : Int)) = true := decide_eq_true (by omega)
      have g1 : decide (0 ≤ (i : Int)) = true := decide_eq_true (by omega)
      have hw := wrap_i1 i (show i < 1000000 by omega)
      simp only [law4_SetParts_l9, law4_SetParts_l9_b, hd, g1, gd, cond_true, decide_true, Bool.not_true, cond_false, hw]
end Go.Ab.T

/- The laws SetWhole, SetCoarse. -/
namespace Go.Ab.T
open Go Go.Ab
set_option linter.unusedVariables false
set_option linter.unusedSimpArgs false

theorem listOf_len (p : Nat → Bool) : (listOf p).length = (List.range 256).countP p := by
  unfold listOf
  rw [List.length_map, List.countP_eq_length_filter]
theorem countP_or {α : Type} (p q : α → Bool) : ∀ l : List α, (∀ x ∈ l, p x = true → q x = false) → l.countP (fun x => p x || q x) = l.countP p + l.countP q
  | [], _ => rfl
  | a :: r, h => by
    have ih := countP_or p q r fun x hx => h x (by simp [hx])
    rw [List.countP_cons, List.countP_cons, List.countP_cons, ih]
    cases hp : p a with
    | true => rw [h a (by simp) hp]; simp; omega
    | false => cases q a <;> simp <;> omega

theorem listOf_cls {l : List (List Int)} {f : Nat} (hf : fst l f = true) (hlt : f < 256) : ∃ r, listOf (eqv l f) = (f : Int) :: r := by
  rcases listOf_cases (eqv l f) with ⟨h1, h2⟩ | ⟨b, r, h1, h2, h3, h4⟩
  · have := h2 f hlt; rw [eqv_refl] at this; cases this
  · have hb : b ≤ f := by
      apply Classical.byContradiction
      intro hn
      have := h3 f (by omega); rw [eqv_refl] at this; cases this
    have : b = f := by
      apply Classical.byContradiction
      intro hn
      have := fst_iff.1 hf b (by omega)
      rw [eqv_symm h2] at this; cases this
    subst this
    exact ⟨r, h4⟩

theorem partsS_getD (l : List (List Int)) (i : Nat) (hi : i < (FT l 256).length) (d : List Int) : (partsS l).getD i d = cls l ((FT l 256).getD i 0) := by
  rw [partsS_eq, List.getD_eq_getElem?_getD, List.getD_eq_getElem?_getD, List.getElem?_map, List.getElem?_eq_getElem hi]
  rfl
theorem partsS_len (l : List (List Int)) : (partsS l).length = (FT l 256).length := by rw [partsS_eq, List.length_map]

theorem w15_ok {R : Type} (kf k0 : Nat) (hkf : 300 ≤ kf) (l : List (List Int)) (hl : ∀ s ∈ l, isSet s) (hn : l.length < 1000) (hk : l.length < k0) (v13 : Int) (i : Nat) (hi : i < (FT l 256).length) (v17 : List Int)
    (Kr : (List (List Int)) → Bool → Int → Int → (List (List Int)) → (List Int) → Option R) (Ke : (List (List Int)) → Int → Int → (List (List Int)) → (List Int) → Option R) :
    law4_SetWhole_l15 kf k0 l v13 (i : Int) (partsS l) v17 Kr Ke 0 = Ke l v13 (i : Int) (partsS l) v17 := by
  have hF := mem_FT.1 (getD_mem (FT l 256) i hi 0)
  refine loop_inv (fun k c (_ : Unit) => law4_SetWhole_l15 kf k l v13 (i : Int) (partsS l) v17 Kr Ke (c : Int)) _ l.length 0 (fun _ _ => True) ?_ ?_ l.length k0 0 () (by omega) (by omega) trivial
  · intro k _ _
    have hd : decide ((l.length : Int) < (l.length : Int)) = false := decide_eq_false (by omega)
    simp only [law4_SetWhole_l15, law4_SetWhole_l15_b, hd, cond_false]
  · intro k c _ _ hc _
    left
    refine ⟨(), trivial, ?_⟩
    have hd : decide ((c : Int) < (l.length : Int)) = true := decide_eq_true (by omega)
    have g1 : decide (0 ≤ (c : Int)) = true := decide_eq_true (by omega)
    have g2 : decide (0 ≤ (i : Int)) = true := decide_eq_true (by omega)
    have g3 : decide ((i : Int) < ((partsS l).length : Int)) = true := decide_eq_true (by rw [partsS_len]; omega)
    have hw := wrap_i1 c (show c < 1000000 by omega)
    have hmem := getD_mem l c hc (List.replicate 4 (0 : Int))
    have hs : isSet (l.getD c (List.replicate 4 (0 : Int))) := hl _ hmem
    simp only [law4_SetWhole_l15, law4_SetWhole_l15_b, hd, g1, g2, g3, gd, cond_true, Int.toNat_natCast, partsS_getD l i hi]
    generalize l.getD c (List.replicate 4 (0 : Int)) = s at hmem hs
    have hand := and_s kf hkf (mem s) (eqv l ((FT l 256).getD i 0)) (R := R)
    rw [setOf_mem hs] at hand
    unfold cls
    rw [hand]
    generalize (FT l 256).getD i 0 = f at hF
    cases hm : mem s f with
    | true =>
      have e : (setOf fun b => mem s b && eqv l f b) = setOf (eqv l f) := by
        apply setOf_congr
        intro b hb
        cases he : eqv l f b with
        | false => rw [Bool.and_false]
        | true => rw [← eqv_iff.1 he s hmem, hm]; rfl
      rw [e, decide_eq_true rfl]
      simp only [Bool.not_true, cond_false, hw]
    | false =>
      have e : (setOf fun b => mem s b && eqv l f b) ≠ setOf (eqv l f) := by
        intro h
        have := setOf_inj h f hF.1
        simp only [hm, eqv_refl] at this
        cases this
      have e2 : listOf (fun b => mem s b && eqv l f b) = [] := by
        rcases listOf_cases (fun b => mem s b && eqv l f b) with ⟨h1, _⟩ | ⟨b, r, h1, h2, _, _⟩
        · exact h1
        · rw [Bool.and_eq_true] at h2
          rw [← eqv_iff.1 h2.2 s hmem, hm] at h2
          cases h2.1
      rw [decide_eq_false e]
      simp only [Bool.not_false, cond_true]
      rw [len_s kf hkf, e2]
      simp only [List.length_nil, show decide (((0 : Nat) : Int) = 0) = true from rfl, Bool.not_true, cond_false, hw]

def U (l : List (List Int)) (i x : Nat) : Bool := decide (ci l x < i)

theorem setWhole_ok {R : Type} (kf : Nat) (hkf : 10000000 ≤ kf) (l : List (List Int)) (hl : ∀ s ∈ l, isSet s) (K : Bool → Option R) : law4_SetWhole kf l K = K true := by
  unfold law4_SetWhole law4_SetWhole_b
  rw [begun_ok kf hkf]
  simp only [Bool.not_true, cond_false]
  by_cases hlen : 12 < (l.length : Int)
  · rw [decide_eq_true hlen]; rfl
  · rw [decide_eq_false hlen]
    simp only [cond_false]
    rw [parts_s kf hkf l hl (by omega)]
    have hn := FT_len l 256
    have hcnt : ∀ p : Nat → Bool, (List.range 256).countP p ≤ 256 := fun p => by
      have := List.countP_le_length (p := p) (l := List.range 256)
      rwa [List.length_range] at this
    refine loop_inv (fun k c (acc : Int × List Int) => law4_SetWhole_l9 kf k (fun (v37 : Bool) (v38 : Int) (v39 : (List Int)) => K v37)
        (fun (v40 : Int) (v41 : (List Int)) => bif decide (v40 = 256) then (byteset_Len kf v41 (fun (v42 : Int) => K (decide (v42 = 256)))) else (K false)) l acc.1 (c : Int) (partsS l) acc.2) _ (FT l 256).length 2000
      (fun c acc => acc.1 = (((List.range 256).countP (U l c) : Nat) : Int) ∧ acc.2 = setOf (U l c)) ?_ ?_ (FT l 256).length kf 0 (0, List.replicate 4 (0 : Int)) (by omega) (by omega)
      ⟨by
        have e : (List.range 256).countP (U l 0) = 0 := by
          rw [List.countP_eq_zero]
          intro x _
          unfold U; simp
        rw [e]; rfl, by
        rw [zero_setOf]
        exact setOf_congr fun x _ => by unfold U; simp⟩
    · rintro k ⟨a1, a2⟩ ⟨h1, h2⟩
      simp only at h1 h2
      have hd : decide (((FT l 256).length : Int) < ((partsS l).length : Int)) = false := decide_eq_false (by rw [partsS_len]; omega)
      have hU : (List.range 256).countP (U l (FT l 256).length) = 256 := by
        have : (List.range 256).countP (U l (FT l 256).length) = (List.range 256).length := by
          rw [List.countP_eq_length]
          intro x hx
          exact decide_eq_true (ci_lt l x (List.mem_range.1 hx))
        rwa [List.length_range] at this
      simp only [law4_SetWhole_l9, law4_SetWhole_l9_b, hd, cond_false]
      rw [h1, h2, hU]
      simp only [show decide (((256 : Nat) : Int) = 256) = true from rfl, cond_true]
      rw [len_s kf (by omega), listOf_len, hU]
      rfl
    · rintro k i ⟨a1, a2⟩ hB hi ⟨h1, h2⟩
      simp only at h1 h2
      left
      have hF := mem_FT.1 (getD_mem (FT l 256) i hi 0)
      obtain ⟨r, hr⟩ := listOf_cls hF.2 hF.1
      have hd : decide ((i : Int) < ((partsS l).length : Int)) = true := decide_eq_true (by rw [partsS_len]; omega)
      have g1 : decide (0 ≤ (i : Int)) = true := decide_eq_true (by omega)
      have hw := wrap_i1 i (show i < 1000000 by omega)
      have hU : ∀ x, x < 256 → (U l i x || eqv l ((FT l 256).getD i 0) x) = U l (i + 1) x := by
        intro x hx
        unfold U
        rw [Bool.eq_iff_iff, Bool.or_eq_true, decide_eq_true_iff, decide_eq_true_iff, ← ci_iff l x i hx hi]
        omega
      have hsum : (List.range 256).countP (U l (i + 1)) = (List.range 256).countP (U l i) + (listOf (eqv l ((FT l 256).getD i 0))).length := by
        rw [listOf_len, ← countP_or]
        · apply List.countP_congr
          intro x hx
          rw [hU x (List.mem_range.1 hx)]
        · intro x hx hu
          have hx := List.mem_range.1 hx
          cases he : eqv l ((FT l 256).getD i 0) x with
          | false => rfl
          | true =>
            have := (ci_iff l x i hx hi).2 he
            unfold U at hu
            have := of_decide_eq_true hu
            omega
      refine ⟨((((List.range 256).countP (U l (i + 1)) : Nat) : Int), setOf (U l (i + 1))), ⟨rfl, rfl⟩, ?_⟩
      have hb1 := hcnt (U l (i + 1))
      have hws : IntKind.i64.wrap ((((List.range 256).countP (U l i) : Nat) : Int) + ((listOf (eqv l ((FT l 256).getD i 0))).length : Int)) = (((List.range 256).countP (U l (i + 1)) : Nat) : Int) := by
        rw [IntKind.wrap_i64]; omega
      have main : (gd (decide (0 ≤ (i : Int)))
       (gd (decide ((i : Int) < ((partsS l).length : Int)))
        (byteset_Or kf a2 ((partsS l).getD (Int.toNat (i : Int)) (List.replicate 4 (0 : Int))) (fun (v10 : (List Int)) =>
          gd (decide (0 ≤ (i : Int)))
          (gd (decide ((i : Int) < ((partsS l).length : Int)))
           (byteset_Len kf ((partsS l).getD (Int.toNat (i : Int)) (List.replicate 4 (0 : Int))) (fun (v11 : Int) =>
             law4_SetWhole_l15 kf k l (IntKind.i64.wrap (a1 + v11)) (i : Int) (partsS l) v10
             (fun (v22 : (List (List Int))) (v23 : Bool) (v24 : Int) (v25 : Int) (v26 : (List (List Int))) (v27 : (List Int)) =>
              K v23)
             (fun (v28 : (List (List Int))) (v29 : Int) (v30 : Int) (v31 : (List (List Int))) (v32 : (List Int)) =>
              law4_SetWhole_l9 kf k (fun (v37 : Bool) (v38 : Int) (v39 : (List Int)) => K v37)
        (fun (v40 : Int) (v41 : (List Int)) => bif decide (v40 = 256) then (byteset_Len kf v41 (fun (v42 : Int) => K (decide (v42 = 256)))) else (K false)) v28 v29 (IntKind.i64.wrap (v30 + 1)) v31 v32) 0)))))))
          = law4_SetWhole_l9 kf k (fun (v37 : Bool) (v38 : Int) (v39 : (List Int)) => K v37)
        (fun (v40 : Int) (v41 : (List Int)) => bif decide (v40 = 256) then (byteset_Len kf v41 (fun (v42 : Int) => K (decide (v42 = 256)))) else (K false)) l (((List.range 256).countP (U l (i + 1)) : Nat) : Int) ((i + 1 : Nat) : Int) (partsS l) (setOf (U l (i + 1))) := by
        simp only [g1, hd, gd, cond_true, Int.toNat_natCast, partsS_getD l i hi]
        unfold cls
        rw [h2, or_s kf (by omega), len_s kf (by omega), h1, hws, w15_ok kf k (by omega) l hl (by omega) (by omega) _ i hi, hw, setOf_congr hU]
      simp only [law4_SetWhole_l9, law4_SetWhole_l9_b, hd, cond_true]
      rw [gd_true g1, gd_true rfl]
      have hlen1 : byteset_Len kf ((partsS l).getD (Int.toNat (i : Int)) (List.replicate 4 (0 : Int))) = fun K : Int → Option R => K ((listOf (eqv l ((FT l 256).getD i 0))).length : Int) := by
        funext K
        rw [Int.toNat_natCast, partsS_getD l i hi]
        exact len_s kf (by omega) _ K
      rw [hlen1]
      have h0 : decide (((listOf (eqv l ((FT l 256).getD i 0))).length : Int) = 0) = false := decide_eq_false (by rw [hr]; simp; omega)
      simp only [h0, cond_false]
      rw [hlen1] at main
      simp only [hd] at main
      by_cases hi0 : i = 0
      · subst hi0
        simp only [show decide ((0 : Int) < ((0 : Nat) : Int)) = false from rfl, cond_false]
        exact main
      · have hdi : decide ((0 : Int) < (i : Int)) = true := decide_eq_true (by omega)
        have hw1 : IntKind.i64.wrap ((i : Int) - 1) = ((i - 1 : Nat) : Int) := by rw [IntKind.wrap_i64]; omega
        have hi1 : i - 1 < (FT l 256).length := by omega
        have hF1 := mem_FT.1 (getD_mem (FT l 256) (i - 1) hi1 0)
        obtain ⟨r1, hr1⟩ := listOf_cls hF1.2 hF1.1
        have hmono := FT_mono l 256 (i - 1) i (by omega) hi
        have g4 : decide (0 ≤ ((i - 1 : Nat) : Int)) = true := decide_eq_true (by omega)
        have g5 : decide (((i - 1 : Nat) : Int) < ((partsS l).length : Int)) = true := decide_eq_true (by rw [partsS_len]; omega)
        simp only [hdi, cond_true, hw1]
        rw [gd_true g4, gd_true g5, Int.toNat_natCast, partsS_getD l (i - 1) hi1]
        have hl1 : byteset_List kf (cls l ((FT l 256).getD (i - 1) 0)) = fun K : List Int → Option R => K (listOf (eqv l ((FT l 256).getD (i - 1) 0))) := by
          funext K
          exact list_s kf (by omega) _ K
        have hl2 : byteset_List kf ((partsS l).getD (Int.toNat (i : Int)) (List.replicate 4 (0 : Int))) = fun K : List Int → Option R => K (listOf (eqv l ((FT l 256).getD i 0))) := by
          funext K
          rw [Int.toNat_natCast, partsS_getD l i hi]
          exact list_s kf (by omega) _ K
        rw [hl1]
        simp only
        rw [hr1, gd_true (decide_eq_true (show (0 : Int) < (((((FT l 256).getD (i - 1) 0 : Nat) : Int) :: r1).length : Int) by simp)), gd_true g1, gd_true rfl, hl2]
        simp only
        rw [hr, gd_true (decide_eq_true (show (0 : Int) < (((((FT l 256).getD i 0 : Nat) : Int) :: r).length : Int) by simp))]
        have hle : decide ((((FT l 256).getD i 0 : Nat) : Int) ≤ (((FT l 256).getD (i - 1) 0 : Nat) : Int)) = false := decide_eq_false (by omega)
        simp only [List.getD_cons_zero, hle, cond_false]
        rw [hr] at main
        exact main

/-! ### SetCoarse -/
theorem len_le_of_inj : ∀ (xs ys : List Nat) (g : Nat → Nat), xs.Pairwise (· < ·) → (∀ x ∈ xs, g x ∈ ys) → (∀ x ∈ xs, ∀ y ∈ xs, g x = g y → x = y) → xs.length ≤ ys.length
  | [], ys, g, _, _, _ => Nat.zero_le _
  | a :: r, ys, g, hp, hm, hinj => by
    rw [List.pairwise_cons] at hp
    have ha := hm a (by simp)
    have ih := len_le_of_inj r (ys.erase (g a)) g hp.2 (fun x hx => by
      refine (List.mem_erase_of_ne ?_).2 (hm x (by simp [hx]))
      intro h
      have := hinj x (by simp [hx]) a (by simp) h
      have := hp.1 x hx
      omega) (fun x hx y hy => hinj x (by simp [hx]) y (by simp [hy]))
    rw [List.length_erase_of_mem ha] at ih
    have := List.length_pos_of_mem ha
    rw [List.length_cons]
    omega

theorem fst_more {l : List (List Int)} {s : List Int} {b : Nat} (h : fst l b = true) : fst (l ++ [s]) b = true := by
  rw [fst_iff] at h ⊢
  intro c hc
  rw [eqv_snoc, h c hc]; rfl
theorem FT_more (l : List (List Int)) (s : List Int) : (FT l 256).length ≤ (FT (l ++ [s]) 256).length := by
  unfold FT
  rw [← List.countP_eq_length_filter, ← List.countP_eq_length_filter]
  exact List.countP_mono_left fun x _ h => fst_more h
theorem FT_twice (l : List (List Int)) (s : List Int) : (FT (l ++ [s]) 256).length ≤ 2 * (FT l 256).length := by
  have half : ∀ t : Bool, ((FT (l ++ [s]) 256).filter fun b => mem s b == t).length ≤ (FT l 256).length := by
    intro t
    refine len_le_of_inj _ _ (fun b => (first_of l b).choose) (List.Pairwise.filter _ (FT_lt _ _)) ?_ ?_
    · intro x hx
      rw [List.mem_filter, mem_FT] at hx
      obtain ⟨h1, h2, h3⟩ := (first_of l x).choose_spec
      exact mem_FT.2 ⟨by omega, h2⟩
    · intro x hx y hy h
      rw [List.mem_filter, mem_FT] at hx hy
      obtain ⟨p1, p2, p3⟩ := (first_of l x).choose_spec
      obtain ⟨q1, q2, q3⟩ := (first_of l y).choose_spec
      have h : (first_of l x).choose = (first_of l y).choose := h
      rw [h] at p3
      have e := eqv_trans (eqv_symm p3) q3
      refine first_eq hx.1.2 hy.1.2 ?_
      rw [eqv_snoc, e]
      have h1 : mem s x = t := by simpa using hx.2
      have h2 : mem s y = t := by simpa using hy.2
      rw [h1, h2]; simp
  have h1 := half true
  have h2 := half false
  have e : ∀ L : List Nat, L.length = (L.filter fun b => mem s b == true).length + (L.filter fun b => mem s b == false).length := by
    intro L
    induction L with
    | nil => rfl
    | cons a r ih =>
      rw [List.filter_cons, List.filter_cons, List.length_cons, ih]
      cases mem s a <;> simp <;> omega
  have := e (FT (l ++ [s]) 256)
  omega

theorem setCoarse_ok {R : Type} (kf : Nat) (hkf : 10000000 ≤ kf) (l : List (List Int)) (s : List Int) (k : Int) (hl : ∀ s ∈ l, isSet s) (hs : isSet s) (hk : 0 ≤ k ∧ k ≤ 255) (K : Bool → Option R) : law4_SetCoarse kf l s k K = K true := by
  unfold law4_SetCoarse law4_SetCoarse_b
  rw [begun_ok kf hkf]
  simp only [Bool.not_true, cond_false]
  by_cases hlen : 10 < (l.length : Int)
  · rw [decide_eq_true hlen]; rfl
  · rw [decide_eq_false hlen]
    simp only [cond_false, List.nil_append]
    have hF := FT_len l 256
    have hm := FT_more l s
    have ht := FT_twice l s
    have g1 : decide (([] : List (List Int)).length + l.length < SMALL) = true := decide_eq_true (by show _ < 17179869184; simp; omega)
    have g2 : decide (l.length + [s].length < SMALL) = true := decide_eq_true (by show _ < 17179869184; simp; omega)
    rw [parts_s kf hkf l hl (by omega), gd_true g1, gd_true g2, parts_s kf hkf (l ++ [s]) (by
      intro x hx
      rcases List.mem_append.1 hx with h | h
      · exact hl x h
      · rw [List.mem_singleton] at h; subst h; exact hs) (by simp; omega), partsS_len, partsS_len]
    have hmul : IntKind.i64.wrap (mulZ 2 ((FT l 256).length : Int)) = ((2 * (FT l 256).length : Nat) : Int) := by
      unfold mulZ
      rw [wall_eq, IntKind.wrap_i64]; omega
    rw [hmul, decide_eq_false (show ¬ (((FT (l ++ [s]) 256).length : Int) < ((FT l 256).length : Int)) by omega), decide_eq_false (show ¬ (((2 * (FT l 256).length : Nat) : Int) < ((FT (l ++ [s]) 256).length : Int)) by omega)]
    simp only [cond_false]
    by_cases h0 : (l.length : Int) = 0
    · rw [decide_eq_true h0]
      simp only [cond_true]
      have : l = [] := List.length_eq_zero_iff.1 (by omega)
      subst this
      have e : (FT [] 256).length = 1 := by
        have : FT [] 256 = [0] := by
          unfold FT
          have e1 : (List.range 256).filter (fst []) = (List.range 256).filter fun b => decide (b = 0) := by
            apply List.filter_congr
            intro b hb
            rw [Bool.eq_iff_iff, fst_iff, decide_eq_true_iff]
            constructor
            · intro h
              apply Classical.byContradiction
              intro hn
              have := h 0 (by omega)
              unfold eqv at this; simp at this
            · rintro rfl c hc; omega
          rw [e1]
          decide +kernel
        rw [this]; rfl
      rw [e]; rfl
    · have hw : IntKind.i64.wrap k = k := by rw [IntKind.wrap_i64]; omega
      have hj1 : 0 ≤ Int.tmod k (l.length : Int) := Int.tmod_nonneg _ hk.1
      have hj2 : Int.tmod k (l.length : Int) < (l.length : Int) := by
        have := Int.tmod_lt_of_pos k (show (0 : Int) < (l.length : Int) by omega)
        exact this
      obtain ⟨j, hj⟩ := Int.eq_ofNat_of_zero_le hj1
      rw [decide_eq_false h0]
      simp only [cond_false, g1, gd, hw, hj]
      rw [hj] at hj2
      have g3 : decide ((l.length : Int) ≠ 0) = true := decide_eq_true h0
      have g4 : decide (0 ≤ (j : Int)) = true := decide_eq_true (by omega)
      have g5 : decide ((j : Int) < (l.length : Int)) = true := decide_eq_true hj2
      have hjl : j < l.length := by omega
      simp only [g3, g4, g5, cond_true, Int.toNat_natCast]
      have hmem := getD_mem l j hjl (List.replicate 4 (0 : Int))
      generalize l.getD j (List.replicate 4 (0 : Int)) = s0 at hmem
      have hs0 := hl s0 hmem
      have hnot := not_s kf (by omega) (mem s0) (R := R)
      rw [setOf_mem hs0] at hnot
      rw [hnot]
      have g6 : decide (l.length + ([setOf fun b => !mem s0 b, s0] : List (List Int)).length < SMALL) = true := decide_eq_true (by show _ < 17179869184; simp; omega)
      simp only [g6, cond_true]
      rw [parts_s kf hkf _ (by
        intro x hx
        rcases List.mem_append.1 hx with h | h
        · exact hl x h
        · simp only [List.mem_cons, List.not_mem_nil, or_false] at h
          rcases h with rfl | rfl
          · exact setOf_isSet _
          · exact hs0) (by simp; omega), partsS_len]
      have he : ∀ b c, b < 256 → c < 256 → eqv (l ++ [setOf fun b => !mem s0 b, s0]) b c = eqv l b c := by
        intro b c hb hc
        unfold eqv
        rw [List.all_append]
        simp only [List.all_cons, List.all_nil, Bool.and_true, mem_setOf _ b hb, mem_setOf _ c hc]
        cases hq : l.all fun s => mem s b == mem s c with
        | false => rfl
        | true =>
          have := List.all_eq_true.1 hq s0 hmem
          have : mem s0 b = mem s0 c := by simpa using this
          rw [this]; simp
      have hFe : FT (l ++ [setOf fun b => !mem s0 b, s0]) 256 = FT l 256 := by
        unfold FT
        apply List.filter_congr
        intro b hb
        have hb := List.mem_range.1 hb
        unfold fst
        apply all_congr'
        intro c hc
        rw [he c b (by have := List.mem_range.1 hc; omega) hb]
      rw [hFe, decide_eq_true rfl]
end Go.Ab.T
