/- ShG1: a part of the proofs of this seat's statements. -/
import Derived.Test.YtlihheeknnnbmaaDoorShoTA
import Derived.Laws.BitsLemmas
import Derived.Laws.BitsAllLaws
/- Plain lemmas of loops and lists. -/
namespace Go.Ab.T
theorem loop_inv {α R : Type} (L : Nat → Nat → α → R) (T : R) (n B : Nat) (I : Nat → α → Prop)
    (hexit : ∀ k acc, I n acc → L (k + 1) n acc = T)
    (hstep : ∀ k c acc, B ≤ k → c < n → I c acc → (∃ acc', I (c + 1) acc' ∧ L (k + 1) c acc = L k (c + 1) acc') ∨ L (k + 1) c acc = T) :
    ∀ m k c acc, c + m = n → m + B < k → I c acc → L k c acc = T
  | m, 0, c, acc, _, h, _ => by omega
  | 0, k + 1, c, acc, hc, h, hi => by
    have : c = n := by omega
    subst this
    exact hexit k acc hi
  | m + 1, k + 1, c, acc, hc, h, hi => by
    rcases hstep k c acc (by omega) (by omega) hi with ⟨acc', h1, h2⟩ | h1
    · rw [h2]
      exact loop_inv L T n B I hexit hstep m k (c + 1) acc' (by omega) (by omega) h1
    · exact h1
theorem take_snoc {α : Type} (l : List α) (c : Nat) (h : c < l.length) (d : α) : l.take (c + 1) = l.take c ++ [l.getD c d] := by
  rw [List.take_add_one, List.getD_eq_getElem?_getD, List.getElem?_eq_getElem h]
  rfl
theorem getD_mem {α : Type} (l : List α) (c : Nat) (h : c < l.length) (d : α) : l.getD c d ∈ l := by
  rw [List.getD_eq_getElem?_getD, List.getElem?_eq_getElem h]
  exact List.getElem_mem h
theorem take_all {α : Type} (l : List α) : l.take l.length = l := List.take_length
end Go.Ab.T

/- Sets of bytes: what the printed functions come to, told by who is in. -/
namespace Go.Ab.T
open Go Go.Ab
set_option linter.unusedVariables false
set_option linter.unusedSimpArgs false
theorem gd_true {R : Type} {b : Bool} (h : b = true) (x : Option R) : gd b x = x := by subst h; rfl
def isW (x : Int) : Prop := 0 ≤ x ∧ x < 18446744073709551616
def bit (x : Int) (j : Nat) : Bool := x.toNat.testBit j
theorem bits64 : IntKind.u64.bits = 64 := rfl
theorem p64 : (2 : Nat) ^ 64 = 18446744073709551616 := by decide
theorem bv_nat (x : Int) (hx : isW x) : (BitVec.ofInt IntKind.u64.bits x).toNat = x.toNat := by
  obtain ⟨n, rfl⟩ := Int.eq_ofNat_of_zero_le hx.1
  have : n < 2 ^ 64 := by have := hx.2; rw [p64]; omega
  simp only [BitVec.ofInt_natCast, BitVec.toNat_ofNat, Int.toNat_natCast]
  rw [bits64]
  exact Nat.mod_eq_of_lt this
theorem wrapN (n : Nat) (h : n < 2 ^ 64) : IntKind.u64.wrap (n : Int) = (n : Int) := by
  rw [IntKind.wrap_u64]
  rw [p64] at h
  omega
theorem isW_lt {x : Int} (hx : isW x) : x.toNat < 2 ^ 64 := by
  rw [p64]; have := hx.1; have := hx.2; omega
theorem isW_nat {n : Nat} (h : n < 2 ^ 64) : isW (n : Int) := by
  rw [p64] at h; constructor <;> omega
theorem and_eq (x y : Int) (hx : isW x) (hy : isW y) : bvop .u64 .and x y = ((x.toNat &&& y.toNat : Nat) : Int) := by
  unfold bvop
  simp only [wall_eq]
  rw [BitVec.toNat_and, bv_nat x hx, bv_nat y hy]
  exact wrapN _ (Nat.and_lt_two_pow _ (isW_lt hy))
theorem or_eq (x y : Int) (hx : isW x) (hy : isW y) : bvop .u64 .or x y = ((x.toNat ||| y.toNat : Nat) : Int) := by
  unfold bvop
  simp only [wall_eq]
  rw [BitVec.toNat_or, bv_nat x hx, bv_nat y hy]
  exact wrapN _ (Nat.or_lt_two_pow (isW_lt hx) (isW_lt hy))
theorem xor_eq (x y : Int) (hx : isW x) (hy : isW y) : bvop .u64 .xor x y = ((x.toNat ^^^ y.toNat : Nat) : Int) := by
  unfold bvop
  simp only [wall_eq]
  rw [BitVec.toNat_xor, bv_nat x hx, bv_nat y hy]
  exact wrapN _ (Nat.xor_lt_two_pow (isW_lt hx) (isW_lt hy))
theorem or_isW (x y : Int) (hx : isW x) (hy : isW y) : isW (bvop .u64 .or x y) := by
  rw [or_eq x y hx hy]; exact isW_nat (Nat.or_lt_two_pow (isW_lt hx) (isW_lt hy))
theorem xor_isW (x y : Int) (hx : isW x) (hy : isW y) : isW (bvop .u64 .xor x y) := by
  rw [xor_eq x y hx hy]; exact isW_nat (Nat.xor_lt_two_pow (isW_lt hx) (isW_lt hy))
theorem bit_or (x y : Int) (hx : isW x) (hy : isW y) (j : Nat) : bit (bvop .u64 .or x y) j = (bit x j || bit y j) := by
  unfold bit; rw [or_eq x y hx hy, Int.toNat_natCast, Nat.testBit_or]
theorem bit_xor (x y : Int) (hx : isW x) (hy : isW y) (j : Nat) : bit (bvop .u64 .xor x y) j = (bit x j != bit y j) := by
  unfold bit; rw [xor_eq x y hx hy, Int.toNat_natCast, Nat.testBit_xor]
theorem word_ext (x y : Int) (hx : isW x) (hy : isW y) (h : ∀ j, j < 64 → bit x j = bit y j) : x = y := by
  have : x.toNat = y.toNat := by
    apply Nat.eq_of_testBit_eq
    intro j
    by_cases hj : j < 64
    · exact h j hj
    · rw [Nat.testBit_lt_two_pow (Nat.lt_of_lt_of_le (isW_lt hx) (Nat.pow_le_pow_right (by omega) (by omega))), Nat.testBit_lt_two_pow (Nat.lt_of_lt_of_le (isW_lt hy) (Nat.pow_le_pow_right (by omega) (by omega)))]
  have := hx.1; have := hy.1
  omega
theorem shr_eq (x : Int) (j : Nat) (hj : j ≤ 64) (hx : isW x) : shr .u64 x (j : Int) = ((x.toNat / 2 ^ j : Nat) : Int) := by
  unfold shr
  have : min (j : Int).toNat IntKind.u64.bits = j := by rw [bits64]; omega
  rw [wall_eq, this, Int.fdiv_eq_ediv_of_nonneg _ (Int.pow_nonneg (by decide))]
  obtain ⟨n, rfl⟩ := Int.eq_ofNat_of_zero_le hx.1
  rw [Int.toNat_natCast, Int.natCast_ediv, Int.natCast_pow]
  rfl
theorem shr_isW (x : Int) (j : Nat) (hj : j ≤ 64) (hx : isW x) : isW (shr .u64 x (j : Int)) := by
  rw [shr_eq x j hj hx]
  exact isW_nat (Nat.lt_of_le_of_lt (Nat.div_le_self _ _) (isW_lt hx))
theorem shr_and1 (x : Int) (j : Nat) (hj : j < 64) (hx : isW x) : decide (bvop .u64 .and (shr .u64 x (j : Int)) 1 = 1) = bit x j := by
  rw [and_eq _ 1 (shr_isW x j (by omega) hx) ⟨by decide, by decide⟩, shr_eq x j (by omega) hx, Int.toNat_natCast]
  have e : (1 : Int).toNat = 1 := rfl
  rw [e, Nat.and_one_is_mod]
  unfold bit
  rw [Nat.testBit_eq_decide_div_mod_eq]
  apply decide_eq_decide.2
  omega
theorem shl1_eq (j : Nat) (hj : j < 64) : shl .u64 1 (j : Int) = ((2 ^ j : Nat) : Int) := by
  unfold shl
  have : min (j : Int).toNat IntKind.u64.bits = j := by rw [bits64]; omega
  rw [wall_eq, this, Int.one_mul]
  have e : (2 : Int) ^ j = ((2 ^ j : Nat) : Int) := by rw [Int.natCast_pow]; rfl
  rw [e]
  exact wrapN _ (Nat.pow_lt_pow_right (by omega) hj)
theorem shl1_isW (j : Nat) (hj : j < 64) : isW (shl .u64 1 (j : Int)) := by
  rw [shl1_eq j hj]; exact isW_nat (Nat.pow_lt_pow_right (by omega) hj)
theorem bit_shl1 (j i : Nat) (hj : j < 64) : bit (shl .u64 1 (j : Int)) i = decide (j = i) := by
  unfold bit
  rw [shl1_eq j hj, Int.toNat_natCast, Nat.testBit_two_pow]
def isSet (s : List Int) : Prop := s.length = 4 ∧ ∀ x ∈ s, isW x
def mem (s : List Int) (b : Nat) : Bool := bit (s.getD (b / 64) 0) (b % 64)
theorem set_getD {s : List Int} (hs : isSet s) (i : Nat) : isW (s.getD i 0) := by
  rw [List.getD_eq_getElem?_getD]
  by_cases h : i < s.length
  · rw [List.getElem?_eq_getElem h]; exact hs.2 _ (List.getElem_mem h)
  · rw [List.getElem?_eq_none (by omega)]; exact ⟨Int.le_refl _, by decide⟩
theorem set_ext {s t : List Int} (hs : isSet s) (ht : isSet t) (h : ∀ b, b < 256 → mem s b = mem t b) : s = t := by
  apply List.ext_getElem (by rw [hs.1, ht.1])
  intro i h1 h2
  refine word_ext _ _ (hs.2 _ (List.getElem_mem h1)) (ht.2 _ (List.getElem_mem h2)) fun j hj => ?_
  have hi : i < 4 := by rw [← hs.1]; exact h1
  have := h (64 * i + j) (by omega)
  unfold mem at this
  have e1 : (64 * i + j) / 64 = i := by omega
  have e2 : (64 * i + j) % 64 = j := by omega
  rw [e1, e2, List.getD_eq_getElem?_getD, List.getD_eq_getElem?_getD, List.getElem?_eq_getElem h1, List.getElem?_eq_getElem h2] at this
  exact this
theorem zero_isSet : isSet (List.replicate 4 (0 : Int)) := ⟨rfl, fun x hx => by rw [List.mem_replicate] at hx; rw [hx.2]; exact ⟨Int.le_refl _, by decide⟩⟩
theorem mem_zero (b : Nat) : mem (List.replicate 4 (0 : Int)) b = false := by
  unfold mem bit
  rw [List.getD_eq_getElem?_getD, List.getElem?_replicate]
  split <;> simp
theorem has_ok {R : Type} (s : List Int) (hs : isSet s) (b : Nat) (hb : b < 256) (K : Bool → Option R) : yy0 s (b : Int) K = K (mem s b) := by
  unfold yy0 yy0_b
  have e1 : IntKind.u8.wrap (Int.tdiv (b : Int) 64) = ((b / 64 : Nat) : Int) := by
    rw [Int.tdiv_eq_ediv_of_nonneg (by omega), IntKind.wrap_u8]; omega
  have e2 : Int.tmod (b : Int) 64 = ((b % 64 : Nat) : Int) := by
    rw [Int.tmod_eq_emod_of_nonneg (by omega)]; omega
  rw [e1, e2, gd_true (decide_eq_true (by omega)), gd_true (decide_eq_true (by omega)), gd_true (decide_eq_true (by omega)), Int.toNat_natCast, shr_and1 _ _ (by omega) (set_getD hs _)]
  rfl
theorem getD_setI (l : List Int) (d i : Nat) (v x : Int) : (l.set d v).getD i x = if d = i ∧ i < l.length then v else l.getD i x := by
  rw [List.getD_eq_getElem?_getD, List.getD_eq_getElem?_getD, List.getElem?_set]
  by_cases h : d = i
  · subst h
    by_cases hl : d < l.length
    · simp [hl]
    · rw [if_pos rfl, if_neg hl, if_neg (fun q => hl q.2), List.getElem?_eq_none (by omega)]
  · rw [if_neg h, if_neg (fun q => h q.1)]
theorem put_mem {s : List Int} (hs : isSet s) (c : Nat) (hc : c < 256) :
    isSet (s.set (c / 64) (bvop .u64 .or (s.getD (c / 64) 0) (shl .u64 1 ((c % 64 : Nat) : Int)))) ∧
    ∀ b, mem (s.set (c / 64) (bvop .u64 .or (s.getD (c / 64) 0) (shl .u64 1 ((c % 64 : Nat) : Int)))) b = (mem s b || decide (c = b)) := by
  have hw := or_isW _ _ (set_getD hs (c / 64)) (shl1_isW (c % 64) (by omega))
  refine ⟨⟨by rw [List.length_set]; exact hs.1, fun x hx => ?_⟩, fun b => ?_⟩
  · rcases List.mem_or_eq_of_mem_set hx with h | h
    · exact hs.2 x h
    · rw [h]; exact hw
  · unfold mem
    rw [getD_setI]
    by_cases h : c / 64 = b / 64 ∧ b / 64 < s.length
    · rw [if_pos h, bit_or _ _ (set_getD hs _) (shl1_isW _ (by omega)), bit_shl1 _ _ (by omega), h.1]
      congr 1
      apply decide_eq_decide.2
      omega
    · rw [if_neg h]
      have : decide (c = b) = false := decide_eq_false (by rintro rfl; exact h ⟨rfl, by rw [hs.1]; omega⟩)
      rw [this, Bool.or_false]
end Go.Ab.T

/- Sets of bytes: ranges, joins, lists. -/
namespace Go.Ab.T
open Go Go.Ab
set_option linter.unusedVariables false
set_option linter.unusedSimpArgs false
theorem wrap_i (n : Nat) (h : n < 1000000) : IntKind.i64.wrap (n : Int) = (n : Int) := by rw [IntKind.wrap_i64]; omega
theorem wrap_i1 (n : Nat) (h : n < 1000000) : IntKind.i64.wrap ((n : Int) + 1) = ((n + 1 : Nat) : Int) := by rw [IntKind.wrap_i64]; omega
theorem four {s : List Int} (hs : isSet s) : ∃ a b c d, s = [a, b, c, d] ∧ isW a ∧ isW b ∧ isW c ∧ isW d := by
  obtain ⟨h1, h2⟩ := hs
  match s, h1 with
  | [a, b, c, d], _ => exact ⟨a, b, c, d, rfl, h2 a (by simp), h2 b (by simp), h2 c (by simp), h2 d (by simp)⟩
def elems (s : List Int) (c m : Nat) : List Int := ((List.range' c m).filter fun b : Nat => mem s b).map fun b : Nat => (b : Int)
theorem list_l3 {R : Type} (kf : Nat) (s : List Int) (hs : isSet s) (Ke : List Int → Option R) : ∀ (m k c : Nat) (acc : List Int), c + m = 256 → m < k → acc.length ≤ c → yy2_l3 kf k s Ke (c : Int) acc = Ke (acc ++ elems s c m)
  | m, 0, c, acc, _, hk, _ => by omega
  | 0, k + 1, c, acc, hc, hk, ha => by
    have h1 : decide ((c : Int) < 256) = false := decide_eq_false (by omega)
    simp only [yy2_l3, yy2_l3_b, h1, cond_false, elems, List.range'_zero, List.filter_nil, List.map_nil, List.append_nil]
  | m + 1, k + 1, c, acc, hc, hk, ha => by
    have h1 : decide ((c : Int) < 256) = true := decide_eq_true (by omega)
    have hw : IntKind.u8.wrap (c : Int) = (c : Int) := by rw [IntKind.wrap_u8]; omega
    simp only [yy2_l3, yy2_l3_b, h1, cond_true, hw]
    rw [has_ok s hs c (by omega), wrap_i1 c (by omega)]
    have ih := fun acc ha => list_l3 kf s hs Ke m k (c + 1) acc (by omega) (by omega) ha
    cases hm : mem s c with
    | false =>
      simp only [cond_false]
      rw [ih acc (by omega)]
      simp [elems, List.range'_succ, hm]
    | true =>
      simp only [cond_true]
      rw [gd_true (decide_eq_true (by show _ < 17179869184; simp; omega)), ih _ (by simp; omega)]
      simp [elems, List.range'_succ, hm]
theorem list_ok {R : Type} (kf : Nat) (hkf : 300 ≤ kf) (s : List Int) (hs : isSet s) (K : List Int → Option R) : yy2 kf s K = K (elems s 0 256) := by
  unfold yy2 yy2_b
  have := list_l3 kf s hs (fun v6 => K v6) 256 kf 0 [] (by omega) (by omega) (by simp)
  simpa using this
end Go.Ab.T

/- The lowest bit of a word; which of two sets stands ahead. -/
namespace Go.Ab.T
open Go Go.Ab
set_option linter.unusedVariables false
set_option linter.unusedSimpArgs false
theorem odd_part (n : Nat) : n ≠ 0 → ∃ k m, n = 2 ^ k * (2 * m + 1) := by
  induction n using Nat.strongRecOn with
  | _ n ih =>
    intro h
    by_cases h2 : n % 2 = 1
    · exact ⟨0, n / 2, by rw [Nat.pow_zero, Nat.one_mul]; omega⟩
    · obtain ⟨k, m, e⟩ := ih (n / 2) (by omega) (by omega)
      refine ⟨k + 1, m, ?_⟩
      rw [Nat.pow_succ, Nat.mul_comm (2 ^ k) 2, Nat.mul_assoc, ← e]
      omega
theorem tb_odd (m i : Nat) : (2 * m + 1).testBit (i + 1) = m.testBit i := by
  rw [Nat.testBit_succ]; congr 1; omega
theorem tb_even (m i : Nat) : (2 * m).testBit (i + 1) = m.testBit i := by
  rw [Nat.testBit_succ]; congr 1; omega
theorem odd_bits (k m j : Nat) : (2 ^ k * (2 * m + 1)).testBit j = (decide (j ≥ k) && (2 * m + 1).testBit (j - k)) := Nat.testBit_two_pow_mul
theorem low_and (k m : Nat) (h : 2 ^ k * (2 * m + 1) < 2 ^ 64) : (2 ^ k * (2 * m + 1)) &&& (2 ^ 64 - 2 ^ k * (2 * m + 1)) = 2 ^ k := by
  have hpos : 0 < 2 ^ k := Nat.pow_pos (by omega)
  have e1 : 2 ^ k * (2 * m + 1) - 1 = 2 ^ k * (2 * m) + (2 ^ k - 1) := by
    rw [Nat.mul_succ]; omega
  have e2 : 2 ^ 64 - 2 ^ k * (2 * m + 1) = 2 ^ 64 - ((2 ^ k * (2 * m + 1) - 1) + 1) := by
    have : 0 < 2 ^ k * (2 * m + 1) := Nat.mul_pos hpos (by omega)
    omega
  apply Nat.eq_of_testBit_eq
  intro j
  rw [Nat.testBit_and, e2, Nat.testBit_two_pow_sub_succ (by omega), e1, odd_bits, Nat.testBit_two_pow_mul_add _ (by omega), Nat.testBit_two_pow]
  by_cases hj : j < k
  · have h1 : decide (j ≥ k) = false := decide_eq_false (by omega)
    have h2 : decide (k = j) = false := decide_eq_false (by omega)
    rw [h1, h2]; simp
  · rw [if_neg hj]
    have h1 : decide (j ≥ k) = true := decide_eq_true (by omega)
    rw [h1, Bool.true_and]
    by_cases hjk : k = j
    · subst hjk
      have hk64 : k < 64 := by
        by_cases hk : k < 64
        · exact hk
        · exfalso
          have : 2 ^ 64 ≤ 2 ^ k := Nat.pow_le_pow_right (by omega) (by omega)
          have : 2 ^ k * 1 ≤ 2 ^ k * (2 * m + 1) := Nat.mul_le_mul_left _ (by omega)
          omega
      simp [hk64]
    · obtain ⟨i, hi⟩ : ∃ i, j - k = i + 1 := ⟨j - k - 1, by omega⟩
      rw [hi, tb_odd, tb_even]
      have h2 : decide (k = j) = false := decide_eq_false hjk
      rw [h2]
      cases m.testBit i <;> simp
theorem table_ok : ∀ k : Nat, k < 64 → deBruijn.getD ((2 ^ k * 285870213051353865) % 18446744073709551616 / 288230376151711744) 0 = (k : Int) := by decide +kernel
theorem table_lt : ∀ k : Nat, k < 64 → (2 ^ k * 285870213051353865) % 18446744073709551616 / 288230376151711744 < 64 := by decide +kernel
theorem neg_eq (x : Int) (hx : isW x) (h0 : x ≠ 0) : IntKind.u64.wrap (0 - x) = ((2 ^ 64 - x.toNat : Nat) : Int) := by
  have hlt := isW_lt hx
  rw [IntKind.wrap_u64]
  rw [p64] at hlt ⊢
  have := hx.1
  omega
theorem negW (x : Int) (hx : isW x) (h0 : x ≠ 0) : isW ((2 ^ 64 - x.toNat : Nat) : Int) := by
  have := hx.1
  rw [p64]; constructor <;> omega
theorem mul_eq (n : Nat) : IntKind.u64.wrap (mulZ (n : Int) 285870213051353865) = ((n * 285870213051353865 % 18446744073709551616 : Nat) : Int) := by
  unfold mulZ
  rw [wall_eq, IntKind.wrap_u64]
  omega
theorem mulW (n : Nat) : isW ((n * 285870213051353865 % 18446744073709551616 : Nat) : Int) := by constructor <;> omega
theorem shr58 (n : Nat) : shr .u64 ((n * 285870213051353865 % 18446744073709551616 : Nat) : Int) 58 = ((n * 285870213051353865 % 18446744073709551616 / 288230376151711744 : Nat) : Int) := by
  have h := shr_eq _ 58 (by omega) (mulW n)
  rw [Int.toNat_natCast] at h
  have p58 : (2 : Nat) ^ 58 = 288230376151711744 := by decide
  rw [p58] at h
  exact h
theorem low_eq (x : Int) (hx : isW x) (h0 : x ≠ 0) (k m : Nat) (e : x.toNat = 2 ^ k * (2 * m + 1)) : bvop .u64 .and x (IntKind.u64.wrap (0 - x)) = ((2 ^ k : Nat) : Int) := by
  have hlt := isW_lt hx
  rw [neg_eq x hx h0, and_eq x _ hx (negW x hx h0), Int.toNat_natCast, e, low_and k m (by rw [← e]; exact hlt)]
theorem low_lt (x : Int) (hx : isW x) (k m : Nat) (e : x.toNat = 2 ^ k * (2 * m + 1)) : k < 64 := by
  have hlt := isW_lt hx
  by_cases hk : k < 64
  · exact hk
  · exfalso
    have : 2 ^ 64 ≤ 2 ^ k := Nat.pow_le_pow_right (by omega) (by omega)
    have : 2 ^ k * 1 ≤ 2 ^ k * (2 * m + 1) := Nat.mul_le_mul_left _ (by omega)
    omega
theorem idx_eq (x : Int) (hx : isW x) (h0 : x ≠ 0) (k m : Nat) (e : x.toNat = 2 ^ k * (2 * m + 1)) : ∃ j : Nat, j < 64 ∧ deBruijn.getD j 0 = (k : Int) ∧ shr .u64 (IntKind.u64.wrap (mulZ (bvop .u64 .and x (IntKind.u64.wrap (0 - x))) 285870213051353865)) 58 = (j : Int) := by
  have hk := low_lt x hx k m e
  refine ⟨_, table_lt k hk, table_ok k hk, ?_⟩
  rw [low_eq x hx h0 k m e, mul_eq, shr58]
theorem tz_body {R : Type} (x : Int) (h0 : x ≠ 0) (j k : Nat) (hj : j < 64) (hk : k < 64) (hd : deBruijn.getD j 0 = (k : Int)) (hs : shr .u64 (IntKind.u64.wrap (mulZ (bvop .u64 .and x (IntKind.u64.wrap (0 - x))) 285870213051353865)) 58 = (j : Int)) (K : Int → Option R) : yy7 x K = K (k : Int) := by
  unfold yy7 yy7_b
  rw [hs, decide_eq_false h0, gd_true (decide_eq_true (by omega)), gd_true (decide_eq_true (by omega)), Int.toNat_natCast, hd, wrap_i k (by omega)]
  rfl
theorem tz_ok (x : Int) (hx : isW x) (h0 : x ≠ 0) : ∃ k, k < 64 ∧ bit x k = true ∧ (∀ j, j < k → bit x j = false) ∧ ∀ {R : Type} (K : Int → Option R), yy7 x K = K (k : Int) := by
  have hn0 : x.toNat ≠ 0 := by have := hx.1; omega
  obtain ⟨k, m, e⟩ := odd_part x.toNat hn0
  have hk64 := low_lt x hx k m e
  obtain ⟨j, hj, hd, hs⟩ := idx_eq x hx h0 k m e
  refine ⟨k, hk64, ?_, ?_, fun K => tz_body x h0 j k hj hk64 hd hs K⟩
  · unfold bit; rw [e, odd_bits]; simp
  · intro i hi
    unfold bit; rw [e, odd_bits]
    have : decide (i ≥ k) = false := decide_eq_false (by omega)
    rw [this, Bool.false_and]
end Go.Ab.T

/- Which of two sets stands ahead. -/
namespace Go.Ab.T
open Go Go.Ab
set_option linter.unusedVariables false
set_option linter.unusedSimpArgs false
noncomputable def lessStep {R : Type} (K : Bool → Option R) (a b : Int) (rest : Option R) : Option R :=
  bif (!(decide (bvop .u64 .xor a b = 0))) then (yy7 (bvop .u64 .xor a b) (fun v7 => gd (decide (0 ≤ v7)) (K (decide ((bvop .u64 .and (shr .u64 a v7) 1) = 1))))) else rest
theorem less_rfl {R : Type} (k : Nat) (a0 a1 a2 a3 b0 b1 b2 b3 : Int) (K : Bool → Option R) :
    yy1 (k + 5) [a0, a1, a2, a3] [b0, b1, b2, b3] K = lessStep K a0 b0 (lessStep K a1 b1 (lessStep K a2 b2 (lessStep K a3 b3 (K false)))) := rfl
theorem step_ok (a b : Int) (ha : isW a) (hb : isW b) : (a = b ∧ ∀ {R : Type} (K : Bool → Option R) (rest : Option R), lessStep K a b rest = rest) ∨
    ∃ k, k < 64 ∧ bit a k ≠ bit b k ∧ (∀ j, j < k → bit a j = bit b j) ∧ ∀ {R : Type} (K : Bool → Option R) (rest : Option R), lessStep K a b rest = K (bit a k) := by
  have hx := xor_isW a b ha hb
  by_cases h : bvop .u64 .xor a b = 0
  · left
    refine ⟨word_ext a b ha hb fun j hj => ?_, fun K rest => ?_⟩
    · have := bit_xor a b ha hb j
      rw [h] at this
      have e : bit 0 j = false := by unfold bit; simp
      rw [e] at this
      revert this
      cases bit a j <;> cases bit b j <;> simp
    · unfold lessStep; rw [decide_eq_true h]; rfl
  · right
    obtain ⟨k, h1, h2, h3, h4⟩ := tz_ok _ hx h
    refine ⟨k, h1, ?_, ?_, fun K rest => ?_⟩
    · rw [bit_xor a b ha hb] at h2
      simpa using h2
    · intro j hj
      have := h3 j hj
      rw [bit_xor a b ha hb] at this
      simpa using this
    · unfold lessStep
      rw [decide_eq_false h, Bool.not_false, cond_true, h4, gd_true (decide_eq_true (by omega)), shr_and1 a k h1 ha]
def ahead (s t : List Int) : Prop := ∃ b, b < 256 ∧ mem s b = true ∧ mem t b = false ∧ ∀ c, c < b → mem s c = mem t c
theorem less_ok (kf : Nat) (hkf : 5 ≤ kf) {s t : List Int} (hs : isSet s) (ht : isSet t) : ∃ r : Bool, (r = true ↔ ahead s t) ∧ ∀ {R : Type} (K : Bool → Option R), yy1 kf s t K = K r := by
  obtain ⟨k, rfl⟩ : ∃ k, kf = k + 5 := ⟨kf - 5, by omega⟩
  obtain ⟨a0, a1, a2, a3, rfl, ha0, ha1, ha2, ha3⟩ := four hs
  obtain ⟨b0, b1, b2, b3, rfl, hb0, hb1, hb2, hb3⟩ := four ht
  have word : ∀ (w : Nat) (x y : Int) (j : Nat), w < 4 → j < 64 → isW x → isW y → ([a0, a1, a2, a3] : List Int).getD w 0 = x → ([b0, b1, b2, b3] : List Int).getD w 0 = y → bit x j ≠ bit y j → (∀ i, i < j → bit x i = bit y i) →
      (∀ v, v < w → ([a0, a1, a2, a3] : List Int).getD v 0 = ([b0, b1, b2, b3] : List Int).getD v 0) → (bit x j = true ↔ ahead [a0, a1, a2, a3] [b0, b1, b2, b3]) := by
    intro w x y j hw hj hx hy e1 e2 hne hlow hbefore
    have m1 : mem [a0, a1, a2, a3] (64 * w + j) = bit x j := by
      unfold mem
      rw [show (64 * w + j) / 64 = w by omega, show (64 * w + j) % 64 = j by omega, e1]
    have m2 : mem [b0, b1, b2, b3] (64 * w + j) = bit y j := by
      unfold mem
      rw [show (64 * w + j) / 64 = w by omega, show (64 * w + j) % 64 = j by omega, e2]
    have same : ∀ c, c < 64 * w + j → mem [a0, a1, a2, a3] c = mem [b0, b1, b2, b3] c := by
      intro c hc
      unfold mem
      by_cases hcw : c / 64 < w
      · rw [hbefore _ hcw]
      · have : c / 64 = w := by omega
        rw [this, e1, e2]
        exact hlow _ (by omega)
    constructor
    · intro hb
      refine ⟨64 * w + j, by omega, by rw [m1, hb], ?_, same⟩
      rw [m2]
      cases hq : bit y j with
      | false => rfl
      | true => rw [hb, hq] at hne; exact absurd rfl hne
    · rintro ⟨c, hc, h1, h2, h3⟩
      have hcc : c = 64 * w + j := by
        rcases Nat.lt_trichotomy c (64 * w + j) with h | h | h
        · have := same c h; rw [h1, h2] at this; cases this
        · exact h
        · have := h3 _ h; rw [m1, m2] at this; exact absurd this hne
      subst hcc
      rw [← m1]; exact h1
  rcases step_ok a0 b0 ha0 hb0 with ⟨q0, z0⟩ | ⟨j, hj, n1, n2, z⟩
  · rcases step_ok a1 b1 ha1 hb1 with ⟨q1, z1⟩ | ⟨j, hj, n1, n2, z⟩
    · rcases step_ok a2 b2 ha2 hb2 with ⟨q2, z2⟩ | ⟨j, hj, n1, n2, z⟩
      · rcases step_ok a3 b3 ha3 hb3 with ⟨q3, z3⟩ | ⟨j, hj, n1, n2, z⟩
        · refine ⟨false, ⟨fun h => (nomatch h), ?_⟩, fun K => by rw [less_rfl, z0, z1, z2, z3]⟩
          rintro ⟨c, hc, h1, h2, _⟩
          subst q0 q1 q2 q3
          rw [h1] at h2; cases h2
        · refine ⟨bit a3 j, word 3 a3 b3 j (by omega) hj ha3 hb3 rfl rfl n1 n2 ?_, fun K => by rw [less_rfl, z0, z1, z2, z]⟩
          intro v hv
          match v, hv with
          | 0, _ => exact q0
          | 1, _ => exact q1
          | 2, _ => exact q2
      · refine ⟨bit a2 j, word 2 a2 b2 j (by omega) hj ha2 hb2 rfl rfl n1 n2 ?_, fun K => by rw [less_rfl, z0, z1, z]⟩
        intro v hv
        match v, hv with
        | 0, _ => exact q0
        | 1, _ => exact q1
    · refine ⟨bit a1 j, word 1 a1 b1 j (by omega) hj ha1 hb1 rfl rfl n1 n2 ?_, fun K => by rw [less_rfl, z0, z]⟩
      intro v hv
      match v, hv with
      | 0, _ => exact q0
  · refine ⟨bit a0 j, word 0 a0 b0 j (by omega) hj ha0 hb0 rfl rfl n1 n2 ?_, fun K => by rw [less_rfl, z]⟩
    intro v hv; omega
end Go.Ab.T

/- How many bits are set: the sum in parallel, byte by byte. -/
namespace Go.Ab.T
open Go Go.Ab
set_option linter.unusedVariables false
set_option linter.unusedSimpArgs false
def s1 (b : Nat) : Nat := (b / 2 &&& 85) + (b &&& 85)
def s2 (b : Nat) : Nat := (b / 4 &&& 51) + (b &&& 51)
def s3 (b : Nat) : Nat := (b / 16 + b) &&& 15
end Go.Ab.T

/- The last sums of the count of bits. -/
namespace Go.Ab.T
open Go Go.Ab
set_option linter.unusedVariables false
set_option linter.unusedSimpArgs false
end Go.Ab.T

/- How many bits a word has; how many bytes a set has. -/
namespace Go.Ab.T
open Go Go.Ab
set_option linter.unusedVariables false
set_option linter.unusedSimpArgs false
end Go.Ab.T

/- Sets, by who is in: of a list, of a range, joins, lists. -/
namespace Go.Ab.T
open Go Go.Ab
set_option linter.unusedVariables false
set_option linter.unusedSimpArgs false
theorem ex_set (p : Nat → Bool) : ∀ n, n ≤ 256 → ∃ r, isSet r ∧ ∀ b, mem r b = (decide (b < n) && p b)
  | 0, _ => ⟨List.replicate 4 0, zero_isSet, fun b => by rw [mem_zero]; simp⟩
  | n + 1, h => by
    obtain ⟨r, h1, h2⟩ := ex_set p n (by omega)
    cases hp : p n with
    | false =>
      refine ⟨r, h1, fun b => ?_⟩
      rw [h2]
      by_cases hb : b = n
      · subst hb; simp [hp]
      · have : decide (b < n + 1) = decide (b < n) := decide_eq_decide.2 (by omega)
        rw [this]
    | true =>
      obtain ⟨q1, q2⟩ := put_mem h1 n (by omega)
      refine ⟨_, q1, fun b => ?_⟩
      rw [q2, h2]
      by_cases hb : n = b
      · subst hb; simp [hp]
      · have : decide (b < n + 1) = decide (b < n) := decide_eq_decide.2 (by omega)
        rw [this, decide_eq_false hb, Bool.or_false]
noncomputable def setOf (p : Nat → Bool) : List Int := (ex_set p 256 (Nat.le_refl _)).choose
theorem setOf_isSet (p : Nat → Bool) : isSet (setOf p) := (ex_set p 256 (Nat.le_refl _)).choose_spec.1
theorem mem_setOf (p : Nat → Bool) (b : Nat) (hb : b < 256) : mem (setOf p) b = p b := by
  have := (ex_set p 256 (Nat.le_refl _)).choose_spec.2 b
  rw [decide_eq_true hb, Bool.true_and] at this
  exact this
theorem eq_setOf {s : List Int} (hs : isSet s) {p : Nat → Bool} (h : ∀ b, b < 256 → mem s b = p b) : s = setOf p :=
  set_ext hs (setOf_isSet p) fun b hb => by rw [h b hb, mem_setOf p b hb]
theorem setOf_congr {p q : Nat → Bool} (h : ∀ b, b < 256 → p b = q b) : setOf p = setOf q :=
  eq_setOf (setOf_isSet p) fun b hb => by rw [mem_setOf p b hb, h b hb]
theorem setOf_inj {p q : Nat → Bool} (h : setOf p = setOf q) (b : Nat) (hb : b < 256) : p b = q b := by
  rw [← mem_setOf p b hb, h, mem_setOf q b hb]
theorem setOf_mem {s : List Int} (hs : isSet s) : setOf (mem s) = s := (eq_setOf hs fun _ _ => rfl).symm
theorem zero_setOf : List.replicate 4 (0 : Int) = setOf fun _ => false := eq_setOf zero_isSet fun b _ => mem_zero b
def listOf (p : Nat → Bool) : List Int := ((List.range 256).filter p).map fun b : Nat => (b : Int)
theorem elems_setOf (p : Nat → Bool) : elems (setOf p) 0 256 = listOf p := by
  unfold elems listOf
  rw [List.range_eq_range']
  congr 1
  apply List.filter_congr
  intro b hb
  have : b < 256 := by
    rw [List.mem_range'_1] at hb; omega
  exact mem_setOf p b this
theorem list_s {R : Type} (kf : Nat) (hkf : 300 ≤ kf) (p : Nat → Bool) (K : List Int → Option R) : yy2 kf (setOf p) K = K (listOf p) := by
  rw [list_ok kf hkf _ (setOf_isSet p), elems_setOf]
def aheadP (p q : Nat → Bool) : Prop := ∃ b, b < 256 ∧ p b = true ∧ q b = false ∧ ∀ c, c < b → p c = q c
def isB (l : List Int) : Prop := ∀ x ∈ l, 0 ≤ x ∧ x ≤ 255
theorem idx64 (y : Nat) (hy : y < 256) : IntKind.u8.wrap (Int.tdiv (y : Int) 64) = ((y / 64 : Nat) : Int) := by
  rw [Int.tdiv_eq_ediv_of_nonneg (by omega), IntKind.wrap_u8]; omega
theorem mod64 (y : Nat) : Int.tmod (y : Int) 64 = ((y % 64 : Nat) : Int) := by
  rw [Int.tmod_eq_emod_of_nonneg (by omega)]; omega
theorem of_step {l : List Int} (hl : isB l) {c : Nat} (hc : c < l.length) {acc : List Int} (h : isSet acc ∧ ∀ b, b < 256 → mem acc b = decide ((b : Int) ∈ l.take c)) :
    ∃ y : Nat, y < 256 ∧ l.getD c 0 = (y : Int) ∧ (isSet (acc.set (y / 64) (bvop .u64 .or (acc.getD (y / 64) 0) (shl .u64 1 ((y % 64 : Nat) : Int)))) ∧
      ∀ b, b < 256 → mem (acc.set (y / 64) (bvop .u64 .or (acc.getD (y / 64) 0) (shl .u64 1 ((y % 64 : Nat) : Int)))) b = decide ((b : Int) ∈ l.take (c + 1))) := by
  obtain ⟨h0, h1⟩ := hl _ (getD_mem l c hc 0)
  obtain ⟨y, hy⟩ := Int.eq_ofNat_of_zero_le h0
  have hy' : y < 256 := by omega
  obtain ⟨p1, p2⟩ := put_mem h.1 y hy'
  refine ⟨y, hy', hy, p1, fun b hb => ?_⟩
  rw [p2, h.2 b hb, take_snoc l c hc 0, hy]
  rw [show decide ((b : Int) ∈ l.take c ++ [(y : Int)]) = (decide ((b : Int) ∈ l.take c) || decide (y = b)) by
    rw [← Bool.decide_or]
    apply decide_eq_decide.2
    rw [List.mem_append, List.mem_singleton]
    constructor
    · rintro (h | h)
      · exact Or.inl h
      · right; omega
    · rintro (h | h)
      · exact Or.inl h
      · right; omega]
theorem rof_s {R : Type} (kf : Nat) (l : List Int) (hl : isB l) (hs : l.length < 1000) (hkf : 2000 ≤ kf) (K : List Int → Option R) : yy17 kf l K = K (setOf fun b => decide ((b : Int) ∈ l)) := by
  unfold yy17 yy17_b
  refine loop_inv (fun k c acc => yy17_l3 kf k l (List.replicate 4 (0 : Int)) (fun v7 v8 => K v8) (c : Int) acc) _ l.length 0
    (fun c acc => isSet acc ∧ ∀ b, b < 256 → mem acc b = decide ((b : Int) ∈ l.take c)) ?_ ?_ l.length kf 0 (List.replicate 4 (0 : Int)) (by omega) (by omega) ⟨zero_isSet, fun b hb => by rw [mem_zero]; simp⟩
  · rintro k acc ⟨h1, h2⟩
    have hd : decide ((l.length : Int) < (l.length : Int)) = false := decide_eq_false (by omega)
    simp only [yy17_l3, yy17_l3_b, hd, cond_false]
    rw [take_all] at h2
    rw [eq_setOf h1 h2]
  · intro k c acc _ hc h
    left
    obtain ⟨y, hy, he, h2⟩ := of_step hl hc h
    refine ⟨_, h2, ?_⟩
    have hd : decide ((c : Int) < (l.length : Int)) = true := decide_eq_true (by omega)
    have g1 : decide (0 ≤ (c : Int)) = true := decide_eq_true (by omega)
    have g2 : decide (0 ≤ ((y / 64 : Nat) : Int)) = true := decide_eq_true (by omega)
    have g3 : decide (((y / 64 : Nat) : Int) < 4) = true := decide_eq_true (by omega)
    have g4 : decide (0 ≤ ((y % 64 : Nat) : Int)) = true := decide_eq_true (by omega)
    simp only [yy17_l3, yy17_l3_b, hd, cond_true, Int.toNat_natCast, he, idx64 y hy, mod64, g1, g2, g3, g4, gd, wrap_i1 c (show c < 1000000 by omega)]
theorem rhas_s {R : Type} (p : Nat → Bool) (b : Nat) (hb : b < 256) (K : Bool → Option R) : yy14 (setOf p) (b : Int) K = K (p b) := by
  have h := shr_eq ((setOf p).getD (b / 64) 0) (b % 64) (by omega) (set_getD (setOf_isSet p) _)
  have g2 : decide (0 ≤ ((b / 64 : Nat) : Int)) = true := decide_eq_true (by omega)
  have g3 : decide (((b / 64 : Nat) : Int) < 4) = true := decide_eq_true (by omega)
  have g4 : decide (0 ≤ ((b % 64 : Nat) : Int)) = true := decide_eq_true (by omega)
  simp only [yy14, yy14_b, idx64 b hb, mod64, g2, g3, g4, gd, cond_true, Int.toNat_natCast, h]
  congr 1
  rw [← mem_setOf p b hb]
  unfold mem bit
  rw [Nat.testBit_eq_decide_div_mod_eq]
  apply decide_eq_decide.2
  generalize ((setOf p).getD (b / 64) 0).toNat / 2 ^ (b % 64) = w
  rw [Int.tmod_eq_emod_of_nonneg (by omega)]
  omega
theorem listOf_isB (p : Nat → Bool) : isB (listOf p) := by
  intro x hx
  unfold listOf at hx
  rw [List.mem_map] at hx
  obtain ⟨b, hb, rfl⟩ := hx
  rw [List.mem_filter, List.mem_range] at hb
  omega
theorem listOf_length (p : Nat → Bool) : (listOf p).length ≤ 256 := by
  unfold listOf
  rw [List.length_map]
  have := List.length_filter_le p (List.range 256)
  simpa using this
theorem mem_listOf (p : Nat → Bool) (b : Nat) : (b : Int) ∈ listOf p ↔ b < 256 ∧ p b = true := by
  unfold listOf
  rw [List.mem_map]
  constructor
  · rintro ⟨c, hc, he⟩
    rw [List.mem_filter, List.mem_range] at hc
    have : c = b := by omega
    subst this; exact hc
  · rintro h
    exact ⟨b, by rw [List.mem_filter, List.mem_range]; exact h, rfl⟩
theorem setOf_listOf (p : Nat → Bool) : (setOf fun b => decide ((b : Int) ∈ listOf p)) = setOf p := by
  apply setOf_congr
  intro b hb
  rw [← Bool.coe_iff_coe, decide_eq_true_iff, mem_listOf]
  simp [hb]
def listTo (p : Nat → Bool) (c : Nat) : List Int := ((List.range c).filter p).map fun b : Nat => (b : Int)
theorem listTo_succ (p : Nat → Bool) (c : Nat) : listTo p (c + 1) = listTo p c ++ (if p c then [(c : Int)] else []) := by
  unfold listTo
  rw [List.range_succ, List.filter_append, List.map_append]
  congr 1
  simp only [List.filter_cons, List.filter_nil]
  split <;> rfl
theorem listTo_length (p : Nat → Bool) (c : Nat) : (listTo p c).length ≤ c := by
  unfold listTo
  rw [List.length_map]
  have := List.length_filter_le p (List.range c)
  simpa using this
theorem where_s {R : Type} (kf : Nat) (hkf : 2000 ≤ kf) (t : List Bool) (p : Nat → Bool) (hp : ∀ b, b < 256 → t.getD b false = p b) (K : List Int → Option R) : yy21 kf t K = K (setOf p) := by
  unfold yy21 yy21_b
  refine loop_inv (fun k c acc => yy21_l3 kf k t (List.replicate 4 (0 : Int)) (fun (v6 : (List Int)) (v7 : (List Int)) => yy17 kf v7 (fun (v8 : (List Int)) => K v8)) (c : Int) acc) _ 256 0
    (fun c acc => acc = listTo p c) ?_ ?_ 256 kf 0 [] (by omega) (by omega) rfl
  · rintro k acc rfl
    simp only [yy21_l3, yy21_l3_b, show decide (((256 : Nat) : Int) < 256) = false from rfl, cond_false]
    have := rof_s kf (listOf p) (listOf_isB p) (by have := listOf_length p; omega) hkf (fun v8 => K v8)
    rw [setOf_listOf] at this
    exact this
  · rintro k c acc _ hc rfl
    left
    refine ⟨_, rfl, ?_⟩
    have hd : decide ((c : Int) < 256) = true := decide_eq_true (by omega)
    have g1 : decide (0 ≤ (c : Int)) = true := decide_eq_true (by omega)
    have hw : IntKind.u8.wrap (c : Int) = (c : Int) := by rw [IntKind.wrap_u8]; omega
    simp only [yy21_l3, yy21_l3_b, hd, g1, gd, cond_true, Int.toNat_natCast, hp c hc, wrap_i1 c (show c < 1000000 by omega), hw]
    rw [listTo_succ]
    cases p c with
    | false => simp only [cond_false, Bool.false_eq_true, if_false, List.append_nil]
    | true =>
      have hlen := listTo_length p c
      have g2 : decide ((listTo p c).length + [(c : Int)].length < SMALL) = true := decide_eq_true (by show _ < 17179869184; simp; omega)
      simp only [cond_true, if_true, g2]
theorem rrange_s {R : Type} (kf : Nat) (hkf : 2000 ≤ kf) (f t : Nat) (hf : f < 256) (ht : t < 256) (K : List Int → Option R) : yy19 kf (f : Int) (t : Int) K = K (setOf fun b => decide (f ≤ b ∧ b ≤ t)) := by
  unfold yy19 yy19_b
  rw [wrap_i f (by omega)]
  by_cases hle : f ≤ t + 1
  · refine loop_inv (fun k c acc => yy19_l3 kf k (t : Int) (List.replicate 4 (0 : Int)) (fun (v7 : (List Int)) (v8 : (List Bool)) => yy21 kf v8 (fun (v9 : (List Int)) => K v9)) (c : Int) acc) _ (t + 1) 0
      (fun c acc => acc.length = 256 ∧ f ≤ c ∧ ∀ b, b < 256 → acc.getD b false = decide (f ≤ b ∧ b < c)) ?_ ?_ (t + 1 - f) kf f (List.replicate 256 false) (by omega) (by omega)
      ⟨List.length_replicate, by omega, fun b hb => by rw [List.getD_eq_getElem?_getD, List.getElem?_replicate, if_pos hb]; symm; apply decide_eq_false; omega⟩
    · rintro k acc ⟨h1, h0, h2⟩
      have hd : decide (((t + 1 : Nat) : Int) ≤ (t : Int)) = false := decide_eq_false (by omega)
      simp only [yy19_l3, yy19_l3_b, wrap_i t (show t < 1000000 by omega), hd, cond_false]
      refine where_s kf hkf acc _ (fun b hb => ?_) _
      rw [h2 b hb]
      apply decide_eq_decide.2
      omega
    · rintro k c acc _ hc ⟨h1, h0, h2⟩
      left
      refine ⟨acc.set c true, ⟨by rw [List.length_set]; exact h1, by omega, fun b hb => ?_⟩, ?_⟩
      · rw [List.getD_eq_getElem?_getD, List.getElem?_set]
        by_cases hcb : c = b
        · subst hcb
          rw [if_pos rfl, if_pos (by omega)]
          symm; apply decide_eq_true; omega
        · rw [if_neg hcb, ← List.getD_eq_getElem?_getD, h2 b hb]
          apply decide_eq_decide.2
          omega
      · have hd : decide ((c : Int) ≤ (t : Int)) = true := decide_eq_true (by omega)
        have g1 : decide (0 ≤ (c : Int)) = true := decide_eq_true (by omega)
        have g2 : decide ((c : Int) < 256) = true := decide_eq_true (by omega)
        simp only [yy19_l3, yy19_l3_b, wrap_i t (show t < 1000000 by omega), hd, cond_true, g1, g2, gd, Int.toNat_natCast, wrap_i1 c (show c < 1000000 by omega)]
  · obtain ⟨k, rfl⟩ : ∃ k, kf = k + 1 := ⟨kf - 1, by omega⟩
    have hd : decide ((f : Int) ≤ (t : Int)) = false := decide_eq_false (by omega)
    simp only [yy19_l3, yy19_l3_b, wrap_i t (show t < 1000000 by omega), hd, cond_false]
    refine where_s (k + 1) hkf _ _ (fun b hb => ?_) _
    rw [List.getD_eq_getElem?_getD, List.getElem?_replicate, if_pos hb]
    symm; apply decide_eq_false; omega
theorem rlist_s {R : Type} (kf : Nat) (hkf : 2000 ≤ kf) (p : Nat → Bool) (K : List Int → Option R) : yy15 kf (setOf p) K = K (listOf p) := by
  unfold yy15 yy15_b
  refine loop_inv (fun k c acc => yy15_l3 kf k (setOf p) (fun (v6 : (List Int)) => K v6) (c : Int) acc) _ 256 0
    (fun c acc => acc = listTo p c) ?_ ?_ 256 kf 0 [] (by omega) (by omega) rfl
  · rintro k acc rfl
    simp only [yy15_l3, yy15_l3_b, show decide (((256 : Nat) : Int) < 256) = false from rfl, cond_false]
    rfl
  · rintro k c acc _ hc rfl
    left
    refine ⟨_, rfl, ?_⟩
    have hd : decide ((c : Int) < 256) = true := decide_eq_true (by omega)
    have hw : IntKind.u8.wrap (c : Int) = (c : Int) := by rw [IntKind.wrap_u8]; omega
    simp only [yy15_l3, yy15_l3_b, hd, gd, cond_true, hw, rhas_s p c hc, wrap_i1 c (show c < 1000000 by omega)]
    rw [listTo_succ]
    cases p c with
    | false => simp only [cond_false, Bool.false_eq_true, if_false, List.append_nil]
    | true =>
      have hlen := listTo_length p c
      have g2 : decide ((listTo p c).length + [(c : Int)].length < SMALL) = true := decide_eq_true (by show _ < 17179869184; simp; omega)
      simp only [cond_true, if_true, g2]
theorem ror_s {R : Type} (kf : Nat) (hkf : 2000 ≤ kf) (p q : Nat → Bool) (K : List Int → Option R) : yy18 kf (setOf p) (setOf q) K = K (setOf fun b => p b || q b) := by
  unfold yy18 yy18_b
  have h1 := listOf_length p
  have h2 := listOf_length q
  rw [rlist_s kf hkf, rlist_s kf hkf, gd_true (decide_eq_true (by show _ < 17179869184; omega)), rof_s kf _ (by
    intro x hx
    rcases List.mem_append.1 hx with h | h
    · exact listOf_isB p x h
    · exact listOf_isB q x h) (by rw [List.length_append]; omega) hkf]
  congr 1
  apply setOf_congr
  intro b hb
  rw [← Bool.coe_iff_coe, decide_eq_true_iff, List.mem_append, mem_listOf, mem_listOf]
  simp [hb]
theorem tab_set {acc : List Bool} {c : Nat} {p : Nat → Bool} (h1 : acc.length = 256) (h2 : ∀ b, b < 256 → acc.getD b false = (decide (b < c) && p b)) :
    (acc.set c (p c)).length = 256 ∧ ∀ b, b < 256 → (acc.set c (p c)).getD b false = (decide (b < c + 1) && p b) := by
  refine ⟨by rw [List.length_set]; exact h1, fun b hb => ?_⟩
  rw [List.getD_eq_getElem?_getD, List.getElem?_set]
  by_cases hcb : c = b
  · subst hcb
    rw [if_pos rfl, if_pos (by omega), decide_eq_true (by omega)]
    rfl
  · rw [if_neg hcb, ← List.getD_eq_getElem?_getD, h2 b hb]
    congr 1
    apply decide_eq_decide.2
    omega
theorem tab_zero (p : Nat → Bool) : (List.replicate 256 false).length = 256 ∧ ∀ b, b < 256 → (List.replicate 256 false).getD b false = (decide (b < 0) && p b) :=
  ⟨List.length_replicate, fun b hb => by rw [List.getD_eq_getElem?_getD, List.getElem?_replicate, if_pos hb]; rfl⟩
theorem rnot_s {R : Type} (kf : Nat) (hkf : 2000 ≤ kf) (p : Nat → Bool) (K : List Int → Option R) : yy16 kf (setOf p) K = K (setOf fun b => !p b) := by
  unfold yy16 yy16_b
  refine loop_inv (fun k c acc => yy16_l3 kf k (setOf p) (List.replicate 4 (0 : Int)) (fun (v7 : (List Int)) (v8 : (List Bool)) => yy21 kf v8 (fun (v9 : (List Int)) => K v9)) (c : Int) acc) _ 256 0
    (fun c acc => acc.length = 256 ∧ ∀ b, b < 256 → acc.getD b false = (decide (b < c) && !p b)) ?_ ?_ 256 kf 0 (List.replicate 256 false) (by omega) (by omega) (tab_zero _)
  · rintro k acc ⟨h1, h2⟩
    simp only [yy16_l3, yy16_l3_b, show decide (((256 : Nat) : Int) < 256) = false from rfl, cond_false]
    exact where_s kf hkf acc _ (fun b hb => by rw [h2 b hb, decide_eq_true hb]; rfl) _
  · rintro k c acc _ hc ⟨h1, h2⟩
    left
    refine ⟨_, tab_set h1 h2, ?_⟩
    have hd : decide ((c : Int) < 256) = true := decide_eq_true (by omega)
    have g1 : decide (0 ≤ (c : Int)) = true := decide_eq_true (by omega)
    have hw : IntKind.u8.wrap (c : Int) = (c : Int) := by rw [IntKind.wrap_u8]; omega
    simp only [yy16_l3, yy16_l3_b, hd, g1, gd, cond_true, hw, rhas_s p c hc, wrap_i1 c (show c < 1000000 by omega), Int.toNat_natCast]
theorem rless_s (kf : Nat) (hkf : 2000 ≤ kf) (p q : Nat → Bool) : ∃ r : Bool, (r = true ↔ aheadP p q) ∧ ∀ {R : Type} (K : Bool → Option R), yy20 kf (setOf p) (setOf q) K = K r := by
  by_cases hex : ∃ b, b < 256 ∧ p b ≠ q b ∧ ∀ c, c < b → p c = q c
  · obtain ⟨b, hb, hne, hlt⟩ := hex
    refine ⟨p b, ?_, fun {R} K => ?_⟩
    · constructor
      · intro h
        exact ⟨b, hb, h, by cases hq : q b with | false => rfl | true => rw [h, hq] at hne; exact absurd rfl hne, hlt⟩
      · rintro ⟨c, hc, h1, h2, h3⟩
        rcases Nat.lt_trichotomy b c with h | h | h
        · exact absurd (h3 b h) hne
        · subst h; exact h1
        · have := hlt c h; rw [h1, h2] at this; cases this
    · unfold yy20 yy20_b
      refine loop_inv (fun k c (_ : Unit) => yy20_l2 kf k (setOf p) (setOf q) (fun (v9 : Bool) => K v9) (K false) (c : Int)) _ 256 0
        (fun c _ => c ≤ b) ?_ ?_ 256 kf 0 () (by omega) (by omega) (by omega)
      · intro k _ h; omega
      · intro k c _ _ hc h
        have hd : decide ((c : Int) < 256) = true := decide_eq_true (by omega)
        have hw : IntKind.u8.wrap (c : Int) = (c : Int) := by rw [IntKind.wrap_u8]; omega
        by_cases hcb : c = b
        · right
          subst hcb
          simp only [yy20_l2, yy20_l2_b, hd, cond_true, hw, rhas_s p c hc, rhas_s q c hc, decide_eq_false hne, Bool.not_false]
        · left
          refine ⟨(), by omega, ?_⟩
          have := hlt c (by omega)
          simp only [yy20_l2, yy20_l2_b, hd, cond_true, hw, rhas_s p c hc, rhas_s q c hc, decide_eq_true this, Bool.not_true, cond_false, wrap_i1 c (show c < 1000000 by omega)]
  · have heq : ∀ n, n ≤ 256 → ∀ c, c < n → p c = q c := by
      intro n
      induction n with
      | zero => intro _ c hc; omega
      | succ n ih =>
        intro hn c hc
        by_cases h : c = n
        · subst h
          apply Classical.byContradiction
          intro hne
          exact hex ⟨c, by omega, hne, ih (by omega)⟩
        · exact ih (by omega) c (by omega)
    refine ⟨false, ⟨fun h => (nomatch h), ?_⟩, fun {R} K => ?_⟩
    · rintro ⟨c, hc, h1, h2, h3⟩
      have := heq 256 (by omega) c hc
      rw [h1, h2] at this; cases this
    · unfold yy20 yy20_b
      refine loop_inv (fun k c (_ : Unit) => yy20_l2 kf k (setOf p) (setOf q) (fun (v9 : Bool) => K v9) (K false) (c : Int)) _ 256 0
        (fun c _ => True) ?_ ?_ 256 kf 0 () (by omega) (by omega) trivial
      · intro k _ h
        simp only [yy20_l2, yy20_l2_b, show decide (((256 : Nat) : Int) < 256) = false from rfl, cond_false]
      · intro k c _ _ hc h
        have hd : decide ((c : Int) < 256) = true := decide_eq_true (by omega)
        have hw : IntKind.u8.wrap (c : Int) = (c : Int) := by rw [IntKind.wrap_u8]; omega
        left
        refine ⟨(), trivial, ?_⟩
        have := heq 256 (by omega) c hc
        simp only [yy20_l2, yy20_l2_b, hd, cond_true, hw, rhas_s p c hc, rhas_s q c hc, decide_eq_true this, Bool.not_true, cond_false, wrap_i1 c (show c < 1000000 by omega)]
end Go.Ab.T

/- Shown: a class by its runs. -/
namespace Go.Ab.T
open Go Go.Ab
set_option linter.unusedVariables false
set_option linter.unusedSimpArgs false
set_option maxRecDepth 20000
abbrev ZS : List Int := List.replicate 4 (0 : Int)
abbrev Sd := Rose (Int × ((List Int) × Unit))
theorem plain_set {R : Type} (kf : Nat) (s : List Int) (hz : decide (s = ZS) = false) (K : Bool → Option R) : yy53 (kf + 10) 3 s [] K = K true := by
  unfold yy53 yy53_b
  simp only [hz, Int.reduceEq, decide_true, decide_false, cond_true, cond_false, Bool.not_false]
  rfl
theorem bad_star {R : Type} (kf : Nat) (s : List Int) (K : Bool → Option R) : yy55 (kf + 20) [(Rose.node (3, s, ()) [] : Sd)] [6, 1, 2] K = K false := rfl
theorem gd1 (x d : Sd) : [x].getD (Int.toNat 0) d = x := rfl
theorem plain_star {R : Type} (kf : Nat) (s : List Int) (hz : decide (s = ZS) = false) (K : Bool → Option R) : yy53 (kf + 21) 6 ZS [(Rose.node (3, s, ()) [] : Sd)] K = K true := by
  have hzz : decide (ZS = List.replicate 4 (0 : Int)) = true := rfl
  have hc : ∀ K : Bool → Option R, yy67 (yy53 (kf + 20)) (kf + 20) [(Rose.node (3, s, ()) [] : Sd)] K = K false := by
    intro K
    unfold yy67 yy67_b yy70 yy70_b
    unfold yy70_l2 yy70_l2_b
    have hp := plain_set (R := R) (kf + 10) s hz
    rw [show decide ((0 : Int) < (([(Rose.node (3, s, ()) [] : Sd)].length : Nat) : Int)) = true from rfl, cond_true, gd_true (decide_eq_true (Int.le_refl 0)), gd_true rfl, gd1]
    unfold yy54 yy54_b
    dsimp only [Rose.lab, Rose.kids]
    rw [show kf + 20 = kf + 10 + 10 from rfl, hp, Bool.not_true, cond_false]
    unfold yy70_l2 yy70_l2_b
    rw [show decide (IntKind.i64.wrap ((0 : Int) + 1) < (([(Rose.node (3, s, ()) [] : Sd)].length : Nat) : Int)) = false from rfl, cond_false]
    rfl
  unfold yy53 yy53_b
  have hb := bad_star (R := R) kf s
  simp only [hzz, hb, hc, Int.reduceEq, decide_true, decide_false, cond_true, cond_false, Bool.not_false, Bool.not_true]
  rfl
theorem plain_empty {R : Type} (kf : Nat) (K : Bool → Option R) : yy53 (kf + 10) 2 ZS [] K = K true := rfl
theorem put_s {R : Type} (s : List Int) (b : List Int) (h : b.length + s.length ≤ 4000) (K : Bool → List Int → Option R) : yy61 s false b K = K false (b ++ s) := by
  unfold yy61 yy61_b
  rw [gd_true (decide_eq_true (by show _ < 17179869184; omega)), decide_eq_false (by rw [List.length_append]; omega), cond_false]
theorem idxB_none : ∀ (l : List Int) (c : Int), (∀ x ∈ l, x ≠ c) → idxB l c = -1
  | [], c, _ => rfl
  | x :: r, c, h => by
    unfold idxB
    rw [decide_eq_false (h x (by simp)), cond_false, idxB_none r c fun y hy => h y (by simp [hy])]
    rfl
theorem sign_s {R : Type} (c : Int) (h : 97 ≤ c ∧ c ≤ 122) (K : List Int → Option R) : yy60 c K = K [c] := by
  have hi : idxB [92, 124, 42, 43, 63, 40, 41, 91, 93, 94, 45, 46] c = -1 := idxB_none _ c fun x hx => by simp at hx; omega
  unfold yy60 yy60_b
  rw [hi, show decide ((0 : Int) ≤ -1) = false from rfl, cond_false, decide_eq_false (by omega : ¬ c < 32), cond_false, decide_eq_false (by omega : ¬ (126 : Int) < c), cond_false]
def run (f n : Nat) : List Int := (List.range' f n).map fun b : Nat => (b : Int)
theorem run_len (f n : Nat) : (run f n).length = n := by simp [run]
theorem run_getD (f n i : Nat) (h : i < n) : (run f n).getD i 0 = ((f + i : Nat) : Int) := by
  unfold run
  rw [List.getD_eq_getElem?_getD, List.getElem?_map, List.getElem?_range' h]
  simp
theorem listOf_run (f t : Nat) (h : f ≤ t) (ht : t < 256) : listOf (fun b => decide (f ≤ b ∧ b ≤ t)) = run f (t - f + 1) := by
  unfold listOf run
  congr 1
  have e : List.range 256 = List.range' 0 f ++ (List.range' f (t - f + 1) ++ List.range' (t + 1) (255 - t)) := by
    rw [List.range_eq_range']
    have h1 : List.range' f (t - f + 1) ++ List.range' (t + 1) (255 - t) = List.range' f (256 - f) := by
      have := List.range'_append_1 (s := f) (m := t - f + 1) (n := 255 - t)
      rw [show f + (t - f + 1) = t + 1 by omega, show t - f + 1 + (255 - t) = 256 - f by omega] at this
      exact this
    rw [h1]
    have := List.range'_append_1 (s := 0) (m := f) (n := 256 - f)
    rw [show 0 + f = f by omega, show f + (256 - f) = 256 by omega] at this
    exact this.symm
  rw [e, List.filter_append, List.filter_append]
  have a1 : (List.range' 0 f).filter (fun b => decide (f ≤ b ∧ b ≤ t)) = [] := by
    rw [List.filter_eq_nil_iff]; intro b hb; rw [List.mem_range'_1] at hb; simp; omega
  have a2 : (List.range' f (t - f + 1)).filter (fun b => decide (f ≤ b ∧ b ≤ t)) = List.range' f (t - f + 1) := by
    rw [List.filter_eq_self]; intro b hb; rw [List.mem_range'_1] at hb; simp; omega
  have a3 : (List.range' (t + 1) (255 - t)).filter (fun b => decide (f ≤ b ∧ b ≤ t)) = [] := by
    rw [List.filter_eq_nil_iff]; intro b hb; rw [List.mem_range'_1] at hb; simp; omega
  rw [a1, a2, a3]; simp
theorem wi1s (n : Nat) (h : n < 4000000000000000000) : IntKind.i64.wrap ((n : Int) + 1) = ((n + 1 : Nat) : Int) := by rw [IntKind.wrap_i64]; omega
theorem set_l11 {R : Type} (kf : Nat) (f n : Nat) (hf : f + n ≤ 200) (i0 : Int) (o : Bool) (b : List Int) (Ke : Int → Int → Bool → List Int → List Int → Option R) : ∀ (m k i : Nat), i + m + 1 = n → m < k →
    yy63_l11 kf k i0 o (run f n) b Ke (i : Int) = Ke i0 ((n - 1 : Nat) : Int) o (run f n) b
  | m, 0, i, _, h => by omega
  | 0, k + 1, i, hi, _ => by
    unfold yy63_l11 yy63_l11_b
    rw [wi1s i (by omega), run_len, decide_eq_false (by omega), cond_false, show i = n - 1 by omega]
  | m + 1, k + 1, i, hi, hk => by
    unfold yy63_l11 yy63_l11_b
    rw [wi1s i (by omega), run_len, decide_eq_true (by omega : ((i + 1 : Nat) : Int) < (n : Int)), cond_true, gd_true (decide_eq_true (by omega)), gd_true rfl, gd_true (decide_eq_true (by omega)), gd_true (decide_eq_true (by omega))]
    rw [show Int.toNat ((i + 1 : Nat) : Int) = i + 1 from rfl, show Int.toNat (i : Int) = i from rfl, run_getD f n (i + 1) (by omega), run_getD f n i (by omega)]
    rw [show IntKind.u8.wrap (((f + i : Nat) : Int) + 1) = ((f + (i + 1) : Nat) : Int) by rw [IntKind.wrap_u8]; omega, decide_eq_true rfl, cond_true]
    exact set_l11 kf f n hf i0 o b Ke m k (i + 1) (by omega) (by omega)
def txt (f t : Nat) : List Int := if f = t then [(f : Int)] else if t = f + 1 then [91, (f : Int), (t : Int), 93] else [91, (f : Int), 45, (t : Int), 93]
theorem set_s {R : Type} (kf : Nat) (hkf : 2000 ≤ kf) (f t : Nat) (h : f ≤ t) (hf : 97 ≤ f) (ht : t ≤ 122) (K : Bool → List Int → Option R) :
    yy63 kf (setOf fun b => decide (f ≤ b ∧ b ≤ t)) false [] K = K false (txt f t) := by
  unfold yy63 yy63_b txt
  rw [list_s kf (by omega), listOf_run f t h (by omega)]
  rw [run_len, decide_eq_false (by omega : ¬ ((t - f + 1 : Nat) : Int) = 256), cond_false]
  by_cases h1 : f = t
  · subst h1
    have hl : (run f (f - f + 1)).getD 0 0 = (f : Int) := run_getD f (f - f + 1) 0 (by omega)
    rw [decide_eq_true (by omega), cond_true, gd_true (decide_eq_true (by omega)), hl, sign_s _ (by omega), put_s _ _ (by simp), if_pos rfl]
    rfl
  · rw [decide_eq_false (by omega), cond_false, put_s _ _ (by simp), if_neg h1, List.nil_append]
    obtain ⟨kf, rfl⟩ : ∃ k', kf = k' + 2 := ⟨kf - 2, by omega⟩
    have hn := run_len f (t - f + 1)
    have g0 : (run f (t - f + 1)).getD 0 0 = (f : Int) := run_getD f (t - f + 1) 0 (by omega)
    have g1 : (run f (t - f + 1)).getD (t - f) 0 = (t : Int) := by rw [run_getD f (t - f + 1) (t - f) (by omega), show f + (t - f) = t by omega]
    unfold yy63_l9 yy63_l9_b
    rw [hn, decide_eq_true (by omega), cond_true]
    refine (set_l11 (kf + 2) f (t - f + 1) (by omega) 0 false _ _ (t - f) (kf + 1) 0 (by omega) (by omega)).trans ?_
    dsimp only
    rw [hn, show t - f + 1 - 1 = t - f by omega]
    rw [gd_true (decide_eq_true (by omega)), gd_true (decide_eq_true (by omega)), show Int.toNat 0 = 0 from rfl, g0, sign_s _ (by omega), put_s _ _ (by simp)]
    rw [show IntKind.i64.wrap ((0 : Int) + 1) = 1 by decide]
    have fin : ∀ c : List Int, c.length ≤ 10 → (gd (decide (0 ≤ ((t - f : Nat) : Int))) (gd (decide (((t - f : Nat) : Int) < ((t - f + 1 : Nat) : Int))) (yy60 ((run f (t - f + 1)).getD (Int.toNat ((t - f : Nat) : Int)) 0) (fun v31 => yy61 v31 false c (fun v32 v33 =>
        yy63_l9 (kf + 2) (kf + 1) (fun v37 v38 => yy61 [93] v37 v38 fun v39 v40 => K v39 v40) (IntKind.i64.wrap (((t - f : Nat) : Int) + 1)) v32 (run f (t - f + 1)) v33))))) = K false (c ++ [(t : Int)] ++ [93]) := by
      intro c hc
      rw [gd_true (decide_eq_true (by omega)), gd_true (decide_eq_true (by omega)), show Int.toNat ((t - f : Nat) : Int) = t - f from rfl, g1, sign_s _ (by omega), put_s _ _ (by simp; omega)]
      unfold yy63_l9 yy63_l9_b
      rw [wi1s _ (by omega), hn, decide_eq_false (by omega), cond_false]
      dsimp only
      rw [put_s _ _ (by simp; omega)]
    by_cases h2 : t = f + 1
    · rw [decide_eq_false (by omega), cond_false, decide_eq_true (by omega), cond_true, if_pos h2, fin _ (by simp)]
      rfl
    · rw [decide_eq_true (by omega), cond_true, put_s _ _ (by simp), decide_eq_true (by omega), cond_true, if_neg h2, fin _ (by simp)]
      rfl
theorem nz_set (f t : Nat) (h : f ≤ t) (ht : t < 256) : decide ((setOf fun b => decide (f ≤ b ∧ b ≤ t)) = ZS) = false := by
  apply decide_eq_false
  intro e
  have := setOf_inj (e.trans zero_setOf) f (by omega)
  simp at this
  omega
theorem star_s {R : Type} (k : Nat) (s : List Int) (K : Int → List Int → List Sd → Option R) : yy35 (k + 21) 3 s [] K = K 6 ZS [(Rose.node (3, s, ()) [] : Sd)] := by
  unfold yy35 yy35_b
  simp only [Int.reduceEq, decide_true, decide_false, cond_true, cond_false]
  unfold yy26 yy26_b yy26_l3 yy26_l3_b
  rfl
theorem con_s {R : Type} (k : Nat) (K : Bool → Option R) : yy68 (k + 20) [4, 5] 3 K = K false := rfl
theorem show_e {R : Type} (k : Nat) (K : List Int → Option R) : yy59 (k + 21) 2 ZS [] K = K [40, 41] := by
  unfold yy59 yy59_b
  rw [plain_empty (k + 11), Bool.not_true, cond_false]
  unfold yy62 yy62_b
  simp only [Int.reduceEq, decide_true, decide_false, cond_true, cond_false]
  rw [put_s _ _ (by simp)]
  rfl
theorem gd1' (x d : Sd) : [x].getD 0 d = x := rfl
theorem within_s {R : Type} (k : Nat) (s : List Int) (K : Bool → List Int → Option R) : yy64 (yy62 (k + 20)) (k + 20) 3 s [] [4, 5] false [] K = yy62 (k + 20) 3 s [] false [] K := by
  unfold yy64 yy64_b
  rw [con_s, Bool.not_false, cond_true]
theorem rx_3 {R : Type} (k : Nat) (s : List Int) (K : Bool → List Int → Option R) : yy62 (k + 1) 3 s [] false [] K = yy63 k s false [] K := by
  rw [yy62]
  unfold yy62_b
  rw [cond_false, show decide ((3 : Int) = 1) = false from rfl, show decide ((3 : Int) = 2) = false from rfl, show decide ((3 : Int) = 3) = true from rfl, cond_false, cond_false, cond_true]
theorem rx_6 {R : Type} (k : Nat) (s : List Int) (K : Bool → List Int → Option R) : yy62 (k + 1) 6 ZS [(Rose.node (3, s, ()) [] : Sd)] false [] K = yy64 (yy62 k) k 3 s [] [4, 5] false [] (fun v35 v36 => yy61 [42] v35 v36 fun v37 v38 => K v37 v38) := by
  rw [yy62]
  unfold yy62_b
  rw [cond_false, show decide ((6 : Int) = 1) = false from rfl, show decide ((6 : Int) = 2) = false from rfl, show decide ((6 : Int) = 3) = false from rfl, show decide ((6 : Int) = 4) = false from rfl, show decide ((6 : Int) = 5) = false from rfl, show decide ((6 : Int) = 6) = true from rfl, cond_false, cond_false, cond_false, cond_false, cond_false, cond_true]
  rw [gd_true (decide_eq_true (by simp)), gd1']
  dsimp only [Rose.lab, Rose.kids]
theorem show_st {R : Type} (k : Nat) (s : List Int) (hz : decide (s = ZS) = false) (c : List Int) (hc : c.length ≤ 100) (hs : ∀ K : Bool → List Int → Option R, yy63 (k + 19) s false [] K = K false c) (K : List Int → Option R) :
    yy59 (k + 21) 6 ZS [(Rose.node (3, s, ()) [] : Sd)] K = K (c ++ [42]) := by
  unfold yy59 yy59_b
  rw [plain_star k s hz, Bool.not_true, cond_false, rx_6 (k + 20), within_s, rx_3 (k + 19), hs]
  rw [put_s _ _ (by simp; omega), cond_false]
theorem begun_ok {R : Type} (kf : Nat) (hkf : 4000 ≤ kf) (K : Bool → Option R) : yy6 kf K = K true := by
  have hz := nz_set 97 99 (by omega) (by omega)
  have e1 : (setOf fun b => decide ((b : Int) ∈ ([97, 98, 99] : List Int))) = setOf fun b => decide (97 ≤ b ∧ b ≤ 99) := setOf_congr fun b hb => decide_eq_decide.2 (by simp; omega)
  obtain ⟨k, hk⟩ : ∃ k', kf = k' + 21 := ⟨kf - 21, by omega⟩
  have hs' := fun (K : Bool → List Int → Option R) => set_s (k + 19) (by omega) 97 99 (by omega) (by omega) (by omega) K
  have hst := fun K => show_st (R := R) k _ hz (txt 97 99) (by decide) hs' K
  unfold yy6 yy6_b
  rw [gd_true (by rfl), rof_s kf _ (by intro x hx; simp at hx; omega) (by simp) (by omega), e1]
  revert hz hst
  generalize (setOf fun b => decide (97 ≤ b ∧ b ≤ 99)) = s
  intro hz hst
  unfold yy23 yy23_b
  rw [hz, cond_false, hk]
  dsimp only
  rw [star_s]
  rw [hst, show decide (txt 97 99 ++ [42] = [91, 97, 45, 99, 93, 42]) = true from rfl, cond_true]
  unfold yy28 yy28_b
  dsimp only
  rw [show_e]
  rfl
end Go.Ab.T
