/- WroG1: a part of the proofs of this seat's statements. -/
import Derived.Test.YtlhinijgdffcdaaGreatDoorWroTA
import Derived.Laws.BitsLemmas
import Derived.Laws.BitsAllLaws
/- Plain lemmas of loops and lists. -/
namespace Go.Ab.T
theorem loop_inv {α R : Type} (L : Nat → Nat → α → R) (T : R) (n B : Nat) (I : Nat → α → Prop)
  (hexit : ∀ k acc, I n acc → L (k + 1) n acc = T)
  (hstep : ∀ k c acc, B ≤ k → c < n → I c acc → (∃ acc', I (c + 1) acc' ∧ L (k + 1) c acc = L k (c + 1) acc') ∨ L (k + 1) c acc = T) :
  ∀ m k c acc, c + m = n → m + B < k → I c acc → L k c acc = T
 | m, 0, c, acc, _, h, _ => by omega
 | 0, k + 1, c, acc, hc, h, hi => by
  have : c = n := by omega
  subst this
  exact hexit k acc hi
 | m + 1, k + 1, c, acc, hc, h, hi => by
  rcases hstep k c acc (by omega) (by omega) hi with ⟨acc', h1, h2⟩ | h1
  ·rw [h2]
   exact loop_inv L T n B I hexit hstep m k (c + 1) acc' (by omega) (by omega) h1
  ·exact h1
theorem take_snoc {α : Type} (l : List α) (c : Nat) (h : c < l.length) (d : α) : l.take (c + 1) = l.take c ++ [l.getD c d] := by
 rw [List.take_add_one, List.getD_eq_getElem?_getD, List.getElem?_eq_getElem h]
 rfl
theorem getD_mem {α : Type} (l : List α) (c : Nat) (h : c < l.length) (d : α) : l.getD c d ∈ l := by
 rw [List.getD_eq_getElem?_getD, List.getElem?_eq_getElem h]
 exact List.getElem_mem h
theorem take_all {α : Type} (l : List α) : l.take l.length = l := List.take_length
end Go.Ab.T

/- Sets of bytes: what the printed functions come to, told by who is in. -/
namespace Go.Ab.T
open Go Go.Ab
set_option linter.unusedVariables false
set_option linter.unusedSimpArgs false
theorem gd_true {R : Type} {b : Bool} (h : b = true) (x : Option R) : gd b x = x := by subst h; rfl
def isW (x : Int) : Prop := 0 ≤ x ∧ x < 18446744073709551616
def bit (x : Int) (j : Nat) : Bool := x.toNat.testBit j
theorem bits64 : IntKind.u64.bits = 64 := rfl
theorem p64 : (2 : Nat) ^ 64 = 18446744073709551616 := by decide
theorem bv_nat (x : Int) (hx : isW x) : (BitVec.ofInt IntKind.u64.bits x).toNat = x.toNat := by
 obtain ⟨n, rfl⟩ := Int.eq_ofNat_of_zero_le hx.1
 have : n < 2 ^ 64 := by have := hx.2; rw [p64]; omega
 simp only [BitVec.ofInt_natCast, BitVec.toNat_ofNat, Int.toNat_natCast]
 rw [bits64]
 exact Nat.mod_eq_of_lt this
theorem wrapN (n : Nat) (h : n < 2 ^ 64) : IntKind.u64.wrap (n : Int) = (n : Int) := by
 rw [IntKind.wrap_u64]
 rw [p64] at h
 omega
theorem isW_lt {x : Int} (hx : isW x) : x.toNat < 2 ^ 64 := by
 rw [p64]; have := hx.1; have := hx.2; omega
theorem isW_nat {n : Nat} (h : n < 2 ^ 64) : isW (n : Int) := by
 rw [p64] at h; constructor <;> omega
theorem or_eq (x y : Int) (hx : isW x) (hy : isW y) : bvop .u64 .or x y = ((x.toNat ||| y.toNat : Nat) : Int) := by
 unfold bvop
 simp only [wall_eq]
 rw [BitVec.toNat_or, bv_nat x hx, bv_nat y hy]
 exact wrapN _ (Nat.or_lt_two_pow (isW_lt hx) (isW_lt hy))
theorem or_isW (x y : Int) (hx : isW x) (hy : isW y) : isW (bvop .u64 .or x y) := by
 rw [or_eq x y hx hy]; exact isW_nat (Nat.or_lt_two_pow (isW_lt hx) (isW_lt hy))
theorem bit_or (x y : Int) (hx : isW x) (hy : isW y) (j : Nat) : bit (bvop .u64 .or x y) j = (bit x j || bit y j) := by
 unfold bit; rw [or_eq x y hx hy, Int.toNat_natCast, Nat.testBit_or]
theorem word_ext (x y : Int) (hx : isW x) (hy : isW y) (h : ∀ j, j < 64 → bit x j = bit y j) : x = y := by
 have : x.toNat = y.toNat := by
  apply Nat.eq_of_testBit_eq
  intro j
  by_cases hj : j < 64
  ·exact h j hj
  ·rw [Nat.testBit_lt_two_pow (Nat.lt_of_lt_of_le (isW_lt hx) (Nat.pow_le_pow_right (by omega) (by omega))), Nat.testBit_lt_two_pow (Nat.lt_of_lt_of_le (isW_lt hy) (Nat.pow_le_pow_right (by omega) (by omega)))]
 have := hx.1; have := hy.1
 omega
theorem shr_eq (x : Int) (j : Nat) (hj : j ≤ 64) (hx : isW x) : shr .u64 x (j : Int) = ((x.toNat / 2 ^ j : Nat) : Int) := by
 unfold shr
 have : min (j : Int).toNat IntKind.u64.bits = j := by rw [bits64]; omega
 rw [wall_eq, this, Int.fdiv_eq_ediv_of_nonneg _ (Int.pow_nonneg (by decide))]
 obtain ⟨n, rfl⟩ := Int.eq_ofNat_of_zero_le hx.1
 rw [Int.toNat_natCast, Int.natCast_ediv, Int.natCast_pow]
 rfl
theorem shl1_eq (j : Nat) (hj : j < 64) : shl .u64 1 (j : Int) = ((2 ^ j : Nat) : Int) := by
 unfold shl
 have : min (j : Int).toNat IntKind.u64.bits = j := by rw [bits64]; omega
 rw [wall_eq, this, Int.one_mul]
 have e : (2 : Int) ^ j = ((2 ^ j : Nat) : Int) := by rw [Int.natCast_pow]; rfl
 rw [e]
 exact wrapN _ (Nat.pow_lt_pow_right (by omega) hj)
theorem shl1_isW (j : Nat) (hj : j < 64) : isW (shl .u64 1 (j : Int)) := by
 rw [shl1_eq j hj]; exact isW_nat (Nat.pow_lt_pow_right (by omega) hj)
theorem bit_shl1 (j i : Nat) (hj : j < 64) : bit (shl .u64 1 (j : Int)) i = decide (j = i) := by
 unfold bit
 rw [shl1_eq j hj, Int.toNat_natCast, Nat.testBit_two_pow]
def isSet (s : List Int) : Prop := s.length = 4 ∧ ∀ x ∈ s, isW x
def mem (s : List Int) (b : Nat) : Bool := bit (s.getD (b / 64) 0) (b % 64)
theorem set_getD {s : List Int} (hs : isSet s) (i : Nat) : isW (s.getD i 0) := by
 rw [List.getD_eq_getElem?_getD]
 by_cases h : i < s.length
 ·rw [List.getElem?_eq_getElem h]; exact hs.2 _ (List.getElem_mem h)
 ·rw [List.getElem?_eq_none (by omega)]; exact ⟨Int.le_refl _, by decide⟩
theorem set_ext {s t : List Int} (hs : isSet s) (ht : isSet t) (h : ∀ b, b < 256 → mem s b = mem t b) : s = t := by
 apply List.ext_getElem (by rw [hs.1, ht.1])
 intro i h1 h2
 refine word_ext _ _ (hs.2 _ (List.getElem_mem h1)) (ht.2 _ (List.getElem_mem h2)) fun j hj => ?_
 have hi : i < 4 := by rw [← hs.1]; exact h1
 have := h (64 * i + j) (by omega)
 unfold mem at this
 have e1 : (64 * i + j) / 64 = i := by omega
 have e2 : (64 * i + j) % 64 = j := by omega
 rw [e1, e2, List.getD_eq_getElem?_getD, List.getD_eq_getElem?_getD, List.getElem?_eq_getElem h1, List.getElem?_eq_getElem h2] at this
 exact this
theorem zero_isSet : isSet (List.replicate 4 (0 : Int)) := ⟨rfl, fun x hx => by rw [List.mem_replicate] at hx; rw [hx.2]; exact ⟨Int.le_refl _, by decide⟩⟩
theorem mem_zero (b : Nat) : mem (List.replicate 4 (0 : Int)) b = false := by
 unfold mem bit
 rw [List.getD_eq_getElem?_getD, List.getElem?_replicate]
 split <;> simp
theorem getD_setI (l : List Int) (d i : Nat) (v x : Int) : (l.set d v).getD i x = if d = i ∧ i < l.length then v else l.getD i x := by
 rw [List.getD_eq_getElem?_getD, List.getD_eq_getElem?_getD, List.getElem?_set]
 by_cases h : d = i
 ·subst h
  by_cases hl : d < l.length
  ·simp [hl]
  ·rw [if_pos rfl, if_neg hl, if_neg (fun q => hl q.2), List.getElem?_eq_none (by omega)]
 ·rw [if_neg h, if_neg (fun q => h q.1)]
theorem put_mem {s : List Int} (hs : isSet s) (c : Nat) (hc : c < 256) :
  isSet (s.set (c / 64) (bvop .u64 .or (s.getD (c / 64) 0) (shl .u64 1 ((c % 64 : Nat) : Int)))) ∧
  ∀ b, mem (s.set (c / 64) (bvop .u64 .or (s.getD (c / 64) 0) (shl .u64 1 ((c % 64 : Nat) : Int)))) b = (mem s b || decide (c = b)) := by
 have hw := or_isW _ _ (set_getD hs (c / 64)) (shl1_isW (c % 64) (by omega))
 refine ⟨⟨by rw [List.length_set]; exact hs.1, fun x hx => ?_⟩, fun b => ?_⟩
 ·rcases List.mem_or_eq_of_mem_set hx with h | h
  ·exact hs.2 x h
  ·rw [h]; exact hw
 ·unfold mem
  rw [getD_setI]
  by_cases h : c / 64 = b / 64 ∧ b / 64 < s.length
  ·rw [if_pos h, bit_or _ _ (set_getD hs _) (shl1_isW _ (by omega)), bit_shl1 _ _ (by omega), h.1]
   congr 1
   apply decide_eq_decide.2
   omega
  ·rw [if_neg h]
   have : decide (c = b) = false := decide_eq_false (by rintro rfl; exact h ⟨rfl, by rw [hs.1]; omega⟩)
   rw [this, Bool.or_false]
end Go.Ab.T

/- Sets of bytes: ranges, joins, lists. -/
namespace Go.Ab.T
open Go Go.Ab
set_option linter.unusedVariables false
set_option linter.unusedSimpArgs false
theorem wrap_i (n : Nat) (h : n < 1000000) : IntKind.i64.wrap (n : Int) = (n : Int) := by rw [IntKind.wrap_i64]; omega
theorem wrap_i1 (n : Nat) (h : n < 1000000) : IntKind.i64.wrap ((n : Int) + 1) = ((n + 1 : Nat) : Int) := by rw [IntKind.wrap_i64]; omega
end Go.Ab.T

/- The lowest bit of a word; which of two sets stands ahead. -/
namespace Go.Ab.T
open Go Go.Ab
set_option linter.unusedVariables false
set_option linter.unusedSimpArgs false
end Go.Ab.T

/- Which of two sets stands ahead. -/
namespace Go.Ab.T
open Go Go.Ab
set_option linter.unusedVariables false
set_option linter.unusedSimpArgs false
def ahead (s t : List Int) : Prop := ∃ b, b < 256 ∧ mem s b = true ∧ mem t b = false ∧ ∀ c, c < b → mem s c = mem t c
end Go.Ab.T

/- How many bits are set: the sum in parallel, byte by byte. -/
namespace Go.Ab.T
open Go Go.Ab
set_option linter.unusedVariables false
set_option linter.unusedSimpArgs false
def s1 (b : Nat) : Nat := (b / 2 &&& 85) + (b &&& 85)
def s2 (b : Nat) : Nat := (b / 4 &&& 51) + (b &&& 51)
def s3 (b : Nat) : Nat := (b / 16 + b) &&& 15
end Go.Ab.T

/- The last sums of the count of bits. -/
namespace Go.Ab.T
open Go Go.Ab
set_option linter.unusedVariables false
set_option linter.unusedSimpArgs false
end Go.Ab.T

/- How many bits a word has; how many bytes a set has. -/
namespace Go.Ab.T
open Go Go.Ab
set_option linter.unusedVariables false
set_option linter.unusedSimpArgs false
end Go.Ab.T

/- Sets, by who is in: of a list, of a range, joins, lists. -/
namespace Go.Ab.T
open Go Go.Ab
set_option linter.unusedVariables false
set_option linter.unusedSimpArgs false
theorem ex_set (p : Nat → Bool) : ∀ n, n ≤ 256 → ∃ r, isSet r ∧ ∀ b, mem r b = (decide (b < n) && p b)
 | 0, _ => ⟨List.replicate 4 0, zero_isSet, fun b => by rw [mem_zero]; simp⟩
 | n + 1, h => by
  obtain ⟨r, h1, h2⟩ := ex_set p n (by omega)
  cases hp : p n with
  | false =>
   refine ⟨r, h1, fun b => ?_⟩
   rw [h2]
   by_cases hb : b = n
   ·subst hb; simp [hp]
   ·have : decide (b < n + 1) = decide (b < n) := decide_eq_decide.2 (by omega)
    rw [this]
  | true =>
   obtain ⟨q1, q2⟩ := put_mem h1 n (by omega)
   refine ⟨_, q1, fun b => ?_⟩
   rw [q2, h2]
   by_cases hb : n = b
   ·subst hb; simp [hp]
   ·have : decide (b < n + 1) = decide (b < n) := decide_eq_decide.2 (by omega)
    rw [this, decide_eq_false hb, Bool.or_false]
noncomputable def setOf (p : Nat → Bool) : List Int := (ex_set p 256 (Nat.le_refl _)).choose
theorem setOf_isSet (p : Nat → Bool) : isSet (setOf p) := (ex_set p 256 (Nat.le_refl _)).choose_spec.1
theorem mem_setOf (p : Nat → Bool) (b : Nat) (hb : b < 256) : mem (setOf p) b = p b := by
 have := (ex_set p 256 (Nat.le_refl _)).choose_spec.2 b
 rw [decide_eq_true hb, Bool.true_and] at this
 exact this
theorem eq_setOf {s : List Int} (hs : isSet s) {p : Nat → Bool} (h : ∀ b, b < 256 → mem s b = p b) : s = setOf p :=
 set_ext hs (setOf_isSet p) fun b hb => by rw [h b hb, mem_setOf p b hb]
theorem setOf_congr {p q : Nat → Bool} (h : ∀ b, b < 256 → p b = q b) : setOf p = setOf q :=
 eq_setOf (setOf_isSet p) fun b hb => by rw [mem_setOf p b hb, h b hb]
theorem setOf_mem {s : List Int} (hs : isSet s) : setOf (mem s) = s := (eq_setOf hs fun _ _ => rfl).symm
def listOf (p : Nat → Bool) : List Int := ((List.range 256).filter p).map fun b : Nat => (b : Int)
def aheadP (p q : Nat → Bool) : Prop := ∃ b, b < 256 ∧ p b = true ∧ q b = false ∧ ∀ c, c < b → p c = q c
def isB (l : List Int) : Prop := ∀ x ∈ l, 0 ≤ x ∧ x ≤ 255
theorem idx64 (y : Nat) (hy : y < 256) : IntKind.u8.wrap (Int.tdiv (y : Int) 64) = ((y / 64 : Nat) : Int) := by
 rw [Int.tdiv_eq_ediv_of_nonneg (by omega), IntKind.wrap_u8]; omega
theorem mod64 (y : Nat) : Int.tmod (y : Int) 64 = ((y % 64 : Nat) : Int) := by
 rw [Int.tmod_eq_emod_of_nonneg (by omega)]; omega
theorem of_step {l : List Int} (hl : isB l) {c : Nat} (hc : c < l.length) {acc : List Int} (h : isSet acc ∧ ∀ b, b < 256 → mem acc b = decide ((b : Int) ∈ l.take c)) :
  ∃ y : Nat, y < 256 ∧ l.getD c 0 = (y : Int) ∧ (isSet (acc.set (y / 64) (bvop .u64 .or (acc.getD (y / 64) 0) (shl .u64 1 ((y % 64 : Nat) : Int)))) ∧
   ∀ b, b < 256 → mem (acc.set (y / 64) (bvop .u64 .or (acc.getD (y / 64) 0) (shl .u64 1 ((y % 64 : Nat) : Int)))) b = decide ((b : Int) ∈ l.take (c + 1))) := by
 obtain ⟨h0, h1⟩ := hl _ (getD_mem l c hc 0)
 obtain ⟨y, hy⟩ := Int.eq_ofNat_of_zero_le h0
 have hy' : y < 256 := by omega
 obtain ⟨p1, p2⟩ := put_mem h.1 y hy'
 refine ⟨y, hy', hy, p1, fun b hb => ?_⟩
 rw [p2, h.2 b hb, take_snoc l c hc 0, hy]
 rw [show decide ((b : Int) ∈ l.take c ++ [(y : Int)]) = (decide ((b : Int) ∈ l.take c) || decide (y = b)) by
  rw [← Bool.decide_or]
  apply decide_eq_decide.2
  rw [List.mem_append, List.mem_singleton]
  constructor
  ·rintro (h | h)
   ·exact Or.inl h
   ·right; omega
  ·rintro (h | h)
   ·exact Or.inl h
   ·right; omega]
theorem rof_s {R : Type} (kf : Nat) (l : List Int) (hl : isB l) (hs : l.length < 1000) (hkf : 2000 ≤ kf) (K : List Int → Option R) : yy22 kf l K = K (setOf fun b => decide ((b : Int) ∈ l)) := by
 unfold yy22 yy22_b
 refine loop_inv (fun k c acc => yy22_l3 kf k l (List.replicate 4 (0 : Int)) (fun v7 v8 => K v8) (c : Int) acc) _ l.length 0
  (fun c acc => isSet acc ∧ ∀ b, b < 256 → mem acc b = decide ((b : Int) ∈ l.take c)) ?_ ?_ l.length kf 0 (List.replicate 4 (0 : Int)) (by omega) (by omega) ⟨zero_isSet, fun b hb => by rw [mem_zero]; simp⟩
 ·rintro k acc ⟨h1, h2⟩
  have hd : decide ((l.length : Int) < (l.length : Int)) = false := decide_eq_false (by omega)
  simp only [yy22_l3, yy22_l3_b, hd, cond_false]
  rw [take_all] at h2
  rw [eq_setOf h1 h2]
 ·intro k c acc _ hc h
  left
  obtain ⟨y, hy, he, h2⟩ := of_step hl hc h
  refine ⟨_, h2, ?_⟩
  have hd : decide ((c : Int) < (l.length : Int)) = true := decide_eq_true (by omega)
  have g1 : decide (0 ≤ (c : Int)) = true := decide_eq_true (by omega)
  have g2 : decide (0 ≤ ((y / 64 : Nat) : Int)) = true := decide_eq_true (by omega)
  have g3 : decide (((y / 64 : Nat) : Int) < 4) = true := decide_eq_true (by omega)
  have g4 : decide (0 ≤ ((y % 64 : Nat) : Int)) = true := decide_eq_true (by omega)
  simp only [yy22_l3, yy22_l3_b, hd, cond_true, Int.toNat_natCast, he, idx64 y hy, mod64, g1, g2, g3, g4, gd, wrap_i1 c (show c < 1000000 by omega)]
theorem rhas_s {R : Type} (p : Nat → Bool) (b : Nat) (hb : b < 256) (K : Bool → Option R) : yy19 (setOf p) (b : Int) K = K (p b) := by
 have h := shr_eq ((setOf p).getD (b / 64) 0) (b % 64) (by omega) (set_getD (setOf_isSet p) _)
 have g2 : decide (0 ≤ ((b / 64 : Nat) : Int)) = true := decide_eq_true (by omega)
 have g3 : decide (((b / 64 : Nat) : Int) < 4) = true := decide_eq_true (by omega)
 have g4 : decide (0 ≤ ((b % 64 : Nat) : Int)) = true := decide_eq_true (by omega)
 simp only [yy19, yy19_b, idx64 b hb, mod64, g2, g3, g4, gd, cond_true, Int.toNat_natCast, h]
 congr 1
 rw [← mem_setOf p b hb]
 unfold mem bit
 rw [Nat.testBit_eq_decide_div_mod_eq]
 apply decide_eq_decide.2
 generalize ((setOf p).getD (b / 64) 0).toNat / 2 ^ (b % 64) = w
 rw [Int.tmod_eq_emod_of_nonneg (by omega)]
 omega
theorem listOf_isB (p : Nat → Bool) : isB (listOf p) := by
 intro x hx
 unfold listOf at hx
 rw [List.mem_map] at hx
 obtain ⟨b, hb, rfl⟩ := hx
 rw [List.mem_filter, List.mem_range] at hb
 omega
theorem listOf_length (p : Nat → Bool) : (listOf p).length ≤ 256 := by
 unfold listOf
 rw [List.length_map]
 have := List.length_filter_le p (List.range 256)
 simpa using this
theorem mem_listOf (p : Nat → Bool) (b : Nat) : (b : Int) ∈ listOf p ↔ b < 256 ∧ p b = true := by
 unfold listOf
 rw [List.mem_map]
 constructor
 ·rintro ⟨c, hc, he⟩
  rw [List.mem_filter, List.mem_range] at hc
  have : c = b := by omega
  subst this; exact hc
 ·rintro h
  exact ⟨b, by rw [List.mem_filter, List.mem_range]; exact h, rfl⟩
theorem setOf_listOf (p : Nat → Bool) : (setOf fun b => decide ((b : Int) ∈ listOf p)) = setOf p := by
 apply setOf_congr
 intro b hb
 rw [← Bool.coe_iff_coe, decide_eq_true_iff, mem_listOf]
 simp [hb]
def listTo (p : Nat → Bool) (c : Nat) : List Int := ((List.range c).filter p).map fun b : Nat => (b : Int)
theorem listTo_succ (p : Nat → Bool) (c : Nat) : listTo p (c + 1) = listTo p c ++ (if p c then [(c : Int)] else []) := by
 unfold listTo
 rw [List.range_succ, List.filter_append, List.map_append]
 congr 1
 simp only [List.filter_cons, List.filter_nil]
 split <;> rfl
theorem listTo_length (p : Nat → Bool) (c : Nat) : (listTo p c).length ≤ c := by
 unfold listTo
 rw [List.length_map]
 have := List.length_filter_le p (List.range c)
 simpa using this
theorem where_s {R : Type} (kf : Nat) (hkf : 2000 ≤ kf) (t : List Bool) (p : Nat → Bool) (hp : ∀ b, b < 256 → t.getD b false = p b) (K : List Int → Option R) : yy26 kf t K = K (setOf p) := by
 unfold yy26 yy26_b
 refine loop_inv (fun k c acc => yy26_l3 kf k t (List.replicate 4 (0 : Int)) (fun (v6 : (List Int)) (v7 : (List Int)) => yy22 kf v7 (fun (v8 : (List Int)) => K v8)) (c : Int) acc) _ 256 0
  (fun c acc => acc = listTo p c) ?_ ?_ 256 kf 0 [] (by omega) (by omega) rfl
 ·rintro k acc rfl
  simp only [yy26_l3, yy26_l3_b, show decide (((256 : Nat) : Int) < 256) = false from rfl, cond_false]
  have := rof_s kf (listOf p) (listOf_isB p) (by have := listOf_length p; omega) hkf (fun v8 => K v8)
  rw [setOf_listOf] at this
  exact this
 ·rintro k c acc _ hc rfl
  left
  refine ⟨_, rfl, ?_⟩
  have hd : decide ((c : Int) < 256) = true := decide_eq_true (by omega)
  have g1 : decide (0 ≤ (c : Int)) = true := decide_eq_true (by omega)
  have hw : IntKind.u8.wrap (c : Int) = (c : Int) := by rw [IntKind.wrap_u8]; omega
  simp only [yy26_l3, yy26_l3_b, hd, g1, gd, cond_true, Int.toNat_natCast, hp c hc, wrap_i1 c (show c < 1000000 by omega), hw]
  rw [listTo_succ]
  cases p c with
  | false => simp only [cond_false, Bool.false_eq_true, if_false, List.append_nil]
  | true =>
   have hlen := listTo_length p c
   have g2 : decide ((listTo p c).length + [(c : Int)].length < SMALL) = true := decide_eq_true (by show _ < 17179869184; simp; omega)
   simp only [cond_true, if_true, g2]
theorem rrange_s {R : Type} (kf : Nat) (hkf : 2000 ≤ kf) (f t : Nat) (hf : f < 256) (ht : t < 256) (K : List Int → Option R) : yy24 kf (f : Int) (t : Int) K = K (setOf fun b => decide (f ≤ b ∧ b ≤ t)) := by
 unfold yy24 yy24_b
 rw [wrap_i f (by omega)]
 by_cases hle : f ≤ t + 1
 ·refine loop_inv (fun k c acc => yy24_l3 kf k (t : Int) (List.replicate 4 (0 : Int)) (fun (v7 : (List Int)) (v8 : (List Bool)) => yy26 kf v8 (fun (v9 : (List Int)) => K v9)) (c : Int) acc) _ (t + 1) 0
   (fun c acc => acc.length = 256 ∧ f ≤ c ∧ ∀ b, b < 256 → acc.getD b false = decide (f ≤ b ∧ b < c)) ?_ ?_ (t + 1 - f) kf f (List.replicate 256 false) (by omega) (by omega)
   ⟨List.length_replicate, by omega, fun b hb => by rw [List.getD_eq_getElem?_getD, List.getElem?_replicate, if_pos hb]; symm; apply decide_eq_false; omega⟩
  ·rintro k acc ⟨h1, h0, h2⟩
   have hd : decide (((t + 1 : Nat) : Int) ≤ (t : Int)) = false := decide_eq_false (by omega)
   simp only [yy24_l3, yy24_l3_b, wrap_i t (show t < 1000000 by omega), hd, cond_false]
   refine where_s kf hkf acc _ (fun b hb => ?_) _
   rw [h2 b hb]
   apply decide_eq_decide.2
   omega
  ·rintro k c acc _ hc ⟨h1, h0, h2⟩
   left
   refine ⟨acc.set c true, ⟨by rw [List.length_set]; exact h1, by omega, fun b hb => ?_⟩, ?_⟩
   ·rw [List.getD_eq_getElem?_getD, List.getElem?_set]
    by_cases hcb : c = b
    ·subst hcb
     rw [if_pos rfl, if_pos (by omega)]
     symm; apply decide_eq_true; omega
    ·rw [if_neg hcb, ← List.getD_eq_getElem?_getD, h2 b hb]
     apply decide_eq_decide.2
     omega
   ·have hd : decide ((c : Int) ≤ (t : Int)) = true := decide_eq_true (by omega)
    have g1 : decide (0 ≤ (c : Int)) = true := decide_eq_true (by omega)
    have g2 : decide ((c : Int) < 256) = true := decide_eq_true (by omega)
    simp only [yy24_l3, yy24_l3_b, wrap_i t (show t < 1000000 by omega), hd, cond_true, g1, g2, gd, Int.toNat_natCast, wrap_i1 c (show c < 1000000 by omega)]
 ·obtain ⟨k, rfl⟩ : ∃ k, kf = k + 1 := ⟨kf - 1, by omega⟩
  have hd : decide ((f : Int) ≤ (t : Int)) = false := decide_eq_false (by omega)
  simp only [yy24_l3, yy24_l3_b, wrap_i t (show t < 1000000 by omega), hd, cond_false]
  refine where_s (k + 1) hkf _ _ (fun b hb => ?_) _
  rw [List.getD_eq_getElem?_getD, List.getElem?_replicate, if_pos hb]
  symm; apply decide_eq_false; omega
theorem rlist_s {R : Type} (kf : Nat) (hkf : 2000 ≤ kf) (p : Nat → Bool) (K : List Int → Option R) : yy20 kf (setOf p) K = K (listOf p) := by
 unfold yy20 yy20_b
 refine loop_inv (fun k c acc => yy20_l3 kf k (setOf p) (fun (v6 : (List Int)) => K v6) (c : Int) acc) _ 256 0
  (fun c acc => acc = listTo p c) ?_ ?_ 256 kf 0 [] (by omega) (by omega) rfl
 ·rintro k acc rfl
  simp only [yy20_l3, yy20_l3_b, show decide (((256 : Nat) : Int) < 256) = false from rfl, cond_false]
  rfl
 ·rintro k c acc _ hc rfl
  left
  refine ⟨_, rfl, ?_⟩
  have hd : decide ((c : Int) < 256) = true := decide_eq_true (by omega)
  have hw : IntKind.u8.wrap (c : Int) = (c : Int) := by rw [IntKind.wrap_u8]; omega
  simp only [yy20_l3, yy20_l3_b, hd, gd, cond_true, hw, rhas_s p c hc, wrap_i1 c (show c < 1000000 by omega)]
  rw [listTo_succ]
  cases p c with
  | false => simp only [cond_false, Bool.false_eq_true, if_false, List.append_nil]
  | true =>
   have hlen := listTo_length p c
   have g2 : decide ((listTo p c).length + [(c : Int)].length < SMALL) = true := decide_eq_true (by show _ < 17179869184; simp; omega)
   simp only [cond_true, if_true, g2]
theorem ror_s {R : Type} (kf : Nat) (hkf : 2000 ≤ kf) (p q : Nat → Bool) (K : List Int → Option R) : yy23 kf (setOf p) (setOf q) K = K (setOf fun b => p b || q b) := by
 unfold yy23 yy23_b
 have h1 := listOf_length p
 have h2 := listOf_length q
 rw [rlist_s kf hkf, rlist_s kf hkf, gd_true (decide_eq_true (by show _ < 17179869184; omega)), rof_s kf _ (by
  intro x hx
  rcases List.mem_append.1 hx with h | h
  ·exact listOf_isB p x h
  ·exact listOf_isB q x h) (by rw [List.length_append]; omega) hkf]
 congr 1
 apply setOf_congr
 intro b hb
 rw [← Bool.coe_iff_coe, decide_eq_true_iff, List.mem_append, mem_listOf, mem_listOf]
 simp [hb]
theorem tab_set {acc : List Bool} {c : Nat} {p : Nat → Bool} (h1 : acc.length = 256) (h2 : ∀ b, b < 256 → acc.getD b false = (decide (b < c) && p b)) :
  (acc.set c (p c)).length = 256 ∧ ∀ b, b < 256 → (acc.set c (p c)).getD b false = (decide (b < c + 1) && p b) := by
 refine ⟨by rw [List.length_set]; exact h1, fun b hb => ?_⟩
 rw [List.getD_eq_getElem?_getD, List.getElem?_set]
 by_cases hcb : c = b
 ·subst hcb
  rw [if_pos rfl, if_pos (by omega), decide_eq_true (by omega)]
  rfl
 ·rw [if_neg hcb, ← List.getD_eq_getElem?_getD, h2 b hb]
  congr 1
  apply decide_eq_decide.2
  omega
theorem tab_zero (p : Nat → Bool) : (List.replicate 256 false).length = 256 ∧ ∀ b, b < 256 → (List.replicate 256 false).getD b false = (decide (b < 0) && p b) :=
 ⟨List.length_replicate, fun b hb => by rw [List.getD_eq_getElem?_getD, List.getElem?_replicate, if_pos hb]; rfl⟩
theorem rnot_s {R : Type} (kf : Nat) (hkf : 2000 ≤ kf) (p : Nat → Bool) (K : List Int → Option R) : yy21 kf (setOf p) K = K (setOf fun b => !p b) := by
 unfold yy21 yy21_b
 refine loop_inv (fun k c acc => yy21_l3 kf k (setOf p) (List.replicate 4 (0 : Int)) (fun (v7 : (List Int)) (v8 : (List Bool)) => yy26 kf v8 (fun (v9 : (List Int)) => K v9)) (c : Int) acc) _ 256 0
  (fun c acc => acc.length = 256 ∧ ∀ b, b < 256 → acc.getD b false = (decide (b < c) && !p b)) ?_ ?_ 256 kf 0 (List.replicate 256 false) (by omega) (by omega) (tab_zero _)
 ·rintro k acc ⟨h1, h2⟩
  simp only [yy21_l3, yy21_l3_b, show decide (((256 : Nat) : Int) < 256) = false from rfl, cond_false]
  exact where_s kf hkf acc _ (fun b hb => by rw [h2 b hb, decide_eq_true hb]; rfl) _
 ·rintro k c acc _ hc ⟨h1, h2⟩
  left
  refine ⟨_, tab_set h1 h2, ?_⟩
  have hd : decide ((c : Int) < 256) = true := decide_eq_true (by omega)
  have g1 : decide (0 ≤ (c : Int)) = true := decide_eq_true (by omega)
  have hw : IntKind.u8.wrap (c : Int) = (c : Int) := by rw [IntKind.wrap_u8]; omega
  simp only [yy21_l3, yy21_l3_b, hd, g1, gd, cond_true, hw, rhas_s p c hc, wrap_i1 c (show c < 1000000 by omega), Int.toNat_natCast]
theorem rless_s (kf : Nat) (hkf : 2000 ≤ kf) (p q : Nat → Bool) : ∃ r : Bool, (r = true ↔ aheadP p q) ∧ ∀ {R : Type} (K : Bool → Option R), yy25 kf (setOf p) (setOf q) K = K r := by
 by_cases hex : ∃ b, b < 256 ∧ p b ≠ q b ∧ ∀ c, c < b → p c = q c
 ·obtain ⟨b, hb, hne, hlt⟩ := hex
  refine ⟨p b, ?_, fun {R} K => ?_⟩
  ·constructor
   ·intro h
    exact ⟨b, hb, h, by cases hq : q b with | false => rfl | true => rw [h, hq] at hne; exact absurd rfl hne, hlt⟩
   ·rintro ⟨c, hc, h1, h2, h3⟩
    rcases Nat.lt_trichotomy b c with h | h | h
    ·exact absurd (h3 b h) hne
    ·subst h; exact h1
    ·have := hlt c h; rw [h1, h2] at this; cases this
  ·unfold yy25 yy25_b
   refine loop_inv (fun k c (_ : Unit) => yy25_l2 kf k (setOf p) (setOf q) (fun (v9 : Bool) => K v9) (K false) (c : Int)) _ 256 0
    (fun c _ => c ≤ b) ?_ ?_ 256 kf 0 () (by omega) (by omega) (by omega)
   ·intro k _ h; omega
   ·intro k c _ _ hc h
    have hd : decide ((c : Int) < 256) = true := decide_eq_true (by omega)
    have hw : IntKind.u8.wrap (c : Int) = (c : Int) := by rw [IntKind.wrap_u8]; omega
    by_cases hcb : c = b
    ·right
     subst hcb
     simp only [yy25_l2, yy25_l2_b, hd, cond_true, hw, rhas_s p c hc, rhas_s q c hc, decide_eq_false hne, Bool.not_false]
    ·left
     refine ⟨(), by omega, ?_⟩
     have := hlt c (by omega)
     simp only [yy25_l2, yy25_l2_b, hd, cond_true, hw, rhas_s p c hc, rhas_s q c hc, decide_eq_true this, Bool.not_true, cond_false, wrap_i1 c (show c < 1000000 by omega)]
 ·have heq : ∀ n, n ≤ 256 → ∀ c, c < n → p c = q c := by
   intro n
   induction n with
   | zero => intro _ c hc; omega
   | succ n ih =>
    intro hn c hc
    by_cases h : c = n
    ·subst h
     apply Classical.byContradiction
     intro hne
     exact hex ⟨c, by omega, hne, ih (by omega)⟩
    ·exact ih (by omega) c (by omega)
  refine ⟨false, ⟨fun h => (nomatch h), ?_⟩, fun {R} K => ?_⟩
  ·rintro ⟨c, hc, h1, h2, h3⟩
   have := heq 256 (by omega) c hc
   rw [h1, h2] at this; cases this
  ·unfold yy25 yy25_b
   refine loop_inv (fun k c (_ : Unit) => yy25_l2 kf k (setOf p) (setOf q) (fun (v9 : Bool) => K v9) (K false) (c : Int)) _ 256 0
    (fun c _ => True) ?_ ?_ 256 kf 0 () (by omega) (by omega) trivial
   ·intro k _ h
    simp only [yy25_l2, yy25_l2_b, show decide (((256 : Nat) : Int) < 256) = false from rfl, cond_false]
   ·intro k c _ _ hc h
    have hd : decide ((c : Int) < 256) = true := decide_eq_true (by omega)
    have hw : IntKind.u8.wrap (c : Int) = (c : Int) := by rw [IntKind.wrap_u8]; omega
    left
    refine ⟨(), trivial, ?_⟩
    have := heq 256 (by omega) c hc
    simp only [yy25_l2, yy25_l2_b, hd, cond_true, hw, rhas_s p c hc, rhas_s q c hc, decide_eq_true this, Bool.not_true, cond_false, wrap_i1 c (show c < 1000000 by omega)]
end Go.Ab.T

/- Shown: a class by its runs. -/
namespace Go.Ab.T
open Go Go.Ab
set_option linter.unusedVariables false
set_option linter.unusedSimpArgs false
set_option maxRecDepth 20000
abbrev ZS : List Int := List.replicate 4 (0 : Int)
abbrev Sd := Rose (Int × ((List Int) × Unit))
theorem wi1s (n : Nat) (h : n < 4000000000000000000) : IntKind.i64.wrap ((n : Int) + 1) = ((n + 1 : Nat) : Int) := by rw [IntKind.wrap_i64]; omega
end Go.Ab.T
