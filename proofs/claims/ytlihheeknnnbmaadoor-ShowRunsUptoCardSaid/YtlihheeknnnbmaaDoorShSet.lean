/- ShSet: a part of the proofs of this seat's statements. -/
import Derived.Test.YtlihheeknnnbmaaDoorShRTA
import Derived.Laws.BitsLemmas
import Derived.Laws.BitsAllLaws
/- Plain lemmas of loops and lists. -/
namespace Go.Ab.T

/-- a loop that counts up to n: what holds at its head holds on, and at its end (or at a way out) it comes to T -/
theorem loop_inv {α R : Type} (L : Nat → Nat → α → R) (T : R) (n B : Nat) (I : Nat → α → Prop)
    (hexit : ∀ k acc, I n acc → L (k + 1) n acc = T)
    (hstep : ∀ k c acc, B ≤ k → c < n → I c acc → (∃ acc', I (c + 1) acc' ∧ L (k + 1) c acc = L k (c + 1) acc') ∨ L (k + 1) c acc = T) :
    ∀ m k c acc, c + m = n → m + B < k → I c acc → L k c acc = T
  | m, 0, c, acc, _, h, _ => by omega
  | 0, k + 1, c, acc, hc, h, hi => by
    have : c = n := by omega
    subst this
    exact hexit k acc hi
  | m + 1, k + 1, c, acc, hc, h, hi => by
    rcases hstep k c acc (by omega) (by omega) hi with ⟨acc', h1, h2⟩ | h1
    · rw [h2]
      exact loop_inv L T n B I hexit hstep m k (c + 1) acc' (by omega) (by omega) h1
    · exact h1

/-- the same, by what follows -/
theorem loop_all {α R : Type} (L : Nat → Nat → α → R) (T : R) (n B : Nat) (I : Nat → α → Prop)
    (hexit : ∀ k acc, I n acc → L (k + 1) n acc = T)
    (hstep : ∀ k c acc, B ≤ k → c < n → I c acc → (∀ acc', I (c + 1) acc' → L k (c + 1) acc' = T) → L (k + 1) c acc = T) :
    ∀ m k c acc, c + m = n → m + B < k → I c acc → L k c acc = T
  | m, 0, c, acc, _, h, _ => by omega
  | 0, k + 1, c, acc, hc, h, hi => by
    have : c = n := by omega
    subst this
    exact hexit k acc hi
  | m + 1, k + 1, c, acc, hc, h, hi =>
    hstep k c acc (by omega) (by omega) hi fun acc' h' => loop_all L T n B I hexit hstep m k (c + 1) acc' (by omega) (by omega) h'

/-- a loop with a measure -/
theorem loop_meas {α R : Type} (L : Nat → α → R) (T : R) (μ : α → Nat) (B : Nat) (I : α → Prop)
    (hstep : ∀ k acc, B ≤ k → I acc → (∀ acc', I acc' → μ acc' < μ acc → L k acc' = T) → L (k + 1) acc = T) :
    ∀ k acc, μ acc + B < k → I acc → L k acc = T
  | 0, acc, h, _ => by omega
  | k + 1, acc, h, hi => hstep k acc (by omega) hi fun acc' h' hm => loop_meas L T μ B I hstep k acc' (by omega) h'

theorem take_snoc {α : Type} (l : List α) (c : Nat) (h : c < l.length) (d : α) : l.take (c + 1) = l.take c ++ [l.getD c d] := by
  rw [List.take_add_one, List.getD_eq_getElem?_getD, List.getElem?_eq_getElem h]
  rfl
theorem getD_mem {α : Type} (l : List α) (c : Nat) (h : c < l.length) (d : α) : l.getD c d ∈ l := by
  rw [List.getD_eq_getElem?_getD, List.getElem?_eq_getElem h]
  exact List.getElem_mem h
theorem take_all {α : Type} (l : List α) : l.take l.length = l := List.take_length
theorem mem_take {α : Type} {l : List α} {c : Nat} {x : α} (h : x ∈ l.take c) : x ∈ l := List.mem_of_mem_take h
end Go.Ab.T

/- Sets of bytes: what the printed functions come to, told by who is in. -/
namespace Go.Ab.T
open Go Go.Ab
set_option linter.unusedVariables false
set_option linter.unusedSimpArgs false

theorem gd_true {R : Type} {b : Bool} (h : b = true) (x : Option R) : gd b x = x := by subst h; rfl

def isW (x : Int) : Prop := 0 ≤ x ∧ x < 18446744073709551616
/-- a word, by its bits -/
def bit (x : Int) (j : Nat) : Bool := x.toNat.testBit j

theorem bits64 : IntKind.u64.bits = 64 := rfl
theorem p64 : (2 : Nat) ^ 64 = 18446744073709551616 := by decide

theorem bv_nat (x : Int) (hx : isW x) : (BitVec.ofInt IntKind.u64.bits x).toNat = x.toNat := by
  obtain ⟨n, rfl⟩ := Int.eq_ofNat_of_zero_le hx.1
  have : n < 2 ^ 64 := by have := hx.2; rw [p64]; omega
  simp only [BitVec.ofInt_natCast, BitVec.toNat_ofNat, Int.toNat_natCast]
  rw [bits64]
  exact Nat.mod_eq_of_lt this

theorem wrapN (n : Nat) (h : n < 2 ^ 64) : IntKind.u64.wrap (n : Int) = (n : Int) := by
  rw [IntKind.wrap_u64]
  rw [p64] at h
  omega

theorem isW_lt {x : Int} (hx : isW x) : x.toNat < 2 ^ 64 := by
  rw [p64]; have := hx.1; have := hx.2; omega
theorem isW_nat {n : Nat} (h : n < 2 ^ 64) : isW (n : Int) := by
  rw [p64] at h; constructor <;> omega

theorem and_eq (x y : Int) (hx : isW x) (hy : isW y) : bvop .u64 .and x y = ((x.toNat &&& y.toNat : Nat) : Int) := by
  unfold bvop
  simp only [wall_eq]
  rw [BitVec.toNat_and, bv_nat x hx, bv_nat y hy]
  exact wrapN _ (Nat.and_lt_two_pow _ (isW_lt hy))
theorem or_eq (x y : Int) (hx : isW x) (hy : isW y) : bvop .u64 .or x y = ((x.toNat ||| y.toNat : Nat) : Int) := by
  unfold bvop
  simp only [wall_eq]
  rw [BitVec.toNat_or, bv_nat x hx, bv_nat y hy]
  exact wrapN _ (Nat.or_lt_two_pow (isW_lt hx) (isW_lt hy))
theorem xor_eq (x y : Int) (hx : isW x) (hy : isW y) : bvop .u64 .xor x y = ((x.toNat ^^^ y.toNat : Nat) : Int) := by
  unfold bvop
  simp only [wall_eq]
  rw [BitVec.toNat_xor, bv_nat x hx, bv_nat y hy]
  exact wrapN _ (Nat.xor_lt_two_pow (isW_lt hx) (isW_lt hy))

theorem and_isW (x y : Int) (hx : isW x) (hy : isW y) : isW (bvop .u64 .and x y) := by
  rw [and_eq x y hx hy]; exact isW_nat (Nat.and_lt_two_pow _ (isW_lt hy))
theorem or_isW (x y : Int) (hx : isW x) (hy : isW y) : isW (bvop .u64 .or x y) := by
  rw [or_eq x y hx hy]; exact isW_nat (Nat.or_lt_two_pow (isW_lt hx) (isW_lt hy))
theorem xor_isW (x y : Int) (hx : isW x) (hy : isW y) : isW (bvop .u64 .xor x y) := by
  rw [xor_eq x y hx hy]; exact isW_nat (Nat.xor_lt_two_pow (isW_lt hx) (isW_lt hy))
theorem bit_and (x y : Int) (hx : isW x) (hy : isW y) (j : Nat) : bit (bvop .u64 .and x y) j = (bit x j && bit y j) := by
  unfold bit; rw [and_eq x y hx hy, Int.toNat_natCast, Nat.testBit_and]
theorem bit_or (x y : Int) (hx : isW x) (hy : isW y) (j : Nat) : bit (bvop .u64 .or x y) j = (bit x j || bit y j) := by
  unfold bit; rw [or_eq x y hx hy, Int.toNat_natCast, Nat.testBit_or]
theorem bit_xor (x y : Int) (hx : isW x) (hy : isW y) (j : Nat) : bit (bvop .u64 .xor x y) j = (bit x j != bit y j) := by
  unfold bit; rw [xor_eq x y hx hy, Int.toNat_natCast, Nat.testBit_xor]

theorem max_isW : isW IntKind.u64.max := ⟨by decide, by decide⟩
theorem bit_max (j : Nat) (hj : j < 64) : bit IntKind.u64.max j = true := by
  have : IntKind.u64.max.toNat = 2 ^ 64 - 1 := by decide
  unfold bit
  rw [this, Nat.testBit_two_pow_sub_one]
  simpa using hj

theorem word_ext (x y : Int) (hx : isW x) (hy : isW y) (h : ∀ j, j < 64 → bit x j = bit y j) : x = y := by
  have : x.toNat = y.toNat := by
    apply Nat.eq_of_testBit_eq
    intro j
    by_cases hj : j < 64
    · exact h j hj
    · rw [Nat.testBit_lt_two_pow (Nat.lt_of_lt_of_le (isW_lt hx) (Nat.pow_le_pow_right (by omega) (by omega))), Nat.testBit_lt_two_pow (Nat.lt_of_lt_of_le (isW_lt hy) (Nat.pow_le_pow_right (by omega) (by omega)))]
  have := hx.1; have := hy.1
  omega

theorem shr_eq (x : Int) (j : Nat) (hj : j ≤ 64) (hx : isW x) : shr .u64 x (j : Int) = ((x.toNat / 2 ^ j : Nat) : Int) := by
  unfold shr
  have : min (j : Int).toNat IntKind.u64.bits = j := by rw [bits64]; omega
  rw [wall_eq, this, Int.fdiv_eq_ediv_of_nonneg _ (Int.pow_nonneg (by decide))]
  obtain ⟨n, rfl⟩ := Int.eq_ofNat_of_zero_le hx.1
  rw [Int.toNat_natCast, Int.natCast_ediv, Int.natCast_pow]
  rfl
theorem shr_isW (x : Int) (j : Nat) (hj : j ≤ 64) (hx : isW x) : isW (shr .u64 x (j : Int)) := by
  rw [shr_eq x j hj hx]
  exact isW_nat (Nat.lt_of_le_of_lt (Nat.div_le_self _ _) (isW_lt hx))
theorem shr_and1 (x : Int) (j : Nat) (hj : j < 64) (hx : isW x) : decide (bvop .u64 .and (shr .u64 x (j : Int)) 1 = 1) = bit x j := by
  rw [and_eq _ 1 (shr_isW x j (by omega) hx) ⟨by decide, by decide⟩, shr_eq x j (by omega) hx, Int.toNat_natCast]
  have e : (1 : Int).toNat = 1 := rfl
  rw [e, Nat.and_one_is_mod]
  unfold bit
  rw [Nat.testBit_eq_decide_div_mod_eq]
  apply decide_eq_decide.2
  omega
theorem shl1_eq (j : Nat) (hj : j < 64) : shl .u64 1 (j : Int) = ((2 ^ j : Nat) : Int) := by
  unfold shl
  have : min (j : Int).toNat IntKind.u64.bits = j := by rw [bits64]; omega
  rw [wall_eq, this, Int.one_mul]
  have e : (2 : Int) ^ j = ((2 ^ j : Nat) : Int) := by rw [Int.natCast_pow]; rfl
  rw [e]
  exact wrapN _ (Nat.pow_lt_pow_right (by omega) hj)
theorem shl1_isW (j : Nat) (hj : j < 64) : isW (shl .u64 1 (j : Int)) := by
  rw [shl1_eq j hj]; exact isW_nat (Nat.pow_lt_pow_right (by omega) hj)
theorem bit_shl1 (j i : Nat) (hj : j < 64) : bit (shl .u64 1 (j : Int)) i = decide (j = i) := by
  unfold bit
  rw [shl1_eq j hj, Int.toNat_natCast, Nat.testBit_two_pow]

/-! ### sets -/
def isSet (s : List Int) : Prop := s.length = 4 ∧ ∀ x ∈ s, isW x
def mem (s : List Int) (b : Nat) : Bool := bit (s.getD (b / 64) 0) (b % 64)

theorem set_getD {s : List Int} (hs : isSet s) (i : Nat) : isW (s.getD i 0) := by
  rw [List.getD_eq_getElem?_getD]
  by_cases h : i < s.length
  · rw [List.getElem?_eq_getElem h]; exact hs.2 _ (List.getElem_mem h)
  · rw [List.getElem?_eq_none (by omega)]; exact ⟨Int.le_refl _, by decide⟩

theorem set_ext {s t : List Int} (hs : isSet s) (ht : isSet t) (h : ∀ b, b < 256 → mem s b = mem t b) : s = t := by
  apply List.ext_getElem (by rw [hs.1, ht.1])
  intro i h1 h2
  refine word_ext _ _ (hs.2 _ (List.getElem_mem h1)) (ht.2 _ (List.getElem_mem h2)) fun j hj => ?_
  have hi : i < 4 := by rw [← hs.1]; exact h1
  have := h (64 * i + j) (by omega)
  unfold mem at this
  have e1 : (64 * i + j) / 64 = i := by omega
  have e2 : (64 * i + j) % 64 = j := by omega
  rw [e1, e2, List.getD_eq_getElem?_getD, List.getD_eq_getElem?_getD, List.getElem?_eq_getElem h1, List.getElem?_eq_getElem h2] at this
  exact this

theorem zero_isSet : isSet (List.replicate 4 (0 : Int)) := ⟨rfl, fun x hx => by rw [List.mem_replicate] at hx; rw [hx.2]; exact ⟨Int.le_refl _, by decide⟩⟩
theorem mem_zero (b : Nat) : mem (List.replicate 4 (0 : Int)) b = false := by
  unfold mem bit
  rw [List.getD_eq_getElem?_getD, List.getElem?_replicate]
  split <;> simp

theorem has_ok {R : Type} (s : List Int) (hs : isSet s) (b : Nat) (hb : b < 256) (K : Bool → Option R) : byteset_Has s (b : Int) K = K (mem s b) := by
  unfold byteset_Has byteset_Has_b
  have e1 : IntKind.u8.wrap (Int.tdiv (b : Int) 64) = ((b / 64 : Nat) : Int) := by
    rw [Int.tdiv_eq_ediv_of_nonneg (by omega), IntKind.wrap_u8]; omega
  have e2 : Int.tmod (b : Int) 64 = ((b % 64 : Nat) : Int) := by
    rw [Int.tmod_eq_emod_of_nonneg (by omega)]; omega
  rw [e1, e2, gd_true (decide_eq_true (by omega)), gd_true (decide_eq_true (by omega)), gd_true (decide_eq_true (by omega)), Int.toNat_natCast, shr_and1 _ _ (by omega) (set_getD hs _)]
  rfl

theorem getD_setI (l : List Int) (d i : Nat) (v x : Int) : (l.set d v).getD i x = if d = i ∧ i < l.length then v else l.getD i x := by
  rw [List.getD_eq_getElem?_getD, List.getD_eq_getElem?_getD, List.getElem?_set]
  by_cases h : d = i
  · subst h
    by_cases hl : d < l.length
    · simp [hl]
    · rw [if_pos rfl, if_neg hl, if_neg (fun q => hl q.2), List.getElem?_eq_none (by omega)]
  · rw [if_neg h, if_neg (fun q => h q.1)]

/-- one byte more -/
theorem put_mem {s : List Int} (hs : isSet s) (c : Nat) (hc : c < 256) :
    isSet (s.set (c / 64) (bvop .u64 .or (s.getD (c / 64) 0) (shl .u64 1 ((c % 64 : Nat) : Int)))) ∧
    ∀ b, mem (s.set (c / 64) (bvop .u64 .or (s.getD (c / 64) 0) (shl .u64 1 ((c % 64 : Nat) : Int)))) b = (mem s b || decide (c = b)) := by
  have hw := or_isW _ _ (set_getD hs (c / 64)) (shl1_isW (c % 64) (by omega))
  refine ⟨⟨by rw [List.length_set]; exact hs.1, fun x hx => ?_⟩, fun b => ?_⟩
  · rcases List.mem_or_eq_of_mem_set hx with h | h
    · exact hs.2 x h
    · rw [h]; exact hw
  · unfold mem
    rw [getD_setI]
    by_cases h : c / 64 = b / 64 ∧ b / 64 < s.length
    · rw [if_pos h, bit_or _ _ (set_getD hs _) (shl1_isW _ (by omega)), bit_shl1 _ _ (by omega), h.1]
      congr 1
      apply decide_eq_decide.2
      omega
    · rw [if_neg h]
      have : decide (c = b) = false := decide_eq_false (by rintro rfl; exact h ⟨rfl, by rw [hs.1]; omega⟩)
      rw [this, Bool.or_false]
end Go.Ab.T

/- Sets of bytes: ranges, joins, lists. -/
namespace Go.Ab.T
open Go Go.Ab
set_option linter.unusedVariables false
set_option linter.unusedSimpArgs false

theorem wrap_i (n : Nat) (h : n < 1000000) : IntKind.i64.wrap (n : Int) = (n : Int) := by rw [IntKind.wrap_i64]; omega
theorem wrap_i1 (n : Nat) (h : n < 1000000) : IntKind.i64.wrap ((n : Int) + 1) = ((n + 1 : Nat) : Int) := by rw [IntKind.wrap_i64]; omega

/-! ### joins -/
theorem four {s : List Int} (hs : isSet s) : ∃ a b c d, s = [a, b, c, d] ∧ isW a ∧ isW b ∧ isW c ∧ isW d := by
  obtain ⟨h1, h2⟩ := hs
  match s, h1 with
  | [a, b, c, d], _ => exact ⟨a, b, c, d, rfl, h2 a (by simp), h2 b (by simp), h2 c (by simp), h2 d (by simp)⟩

theorem mem_four (a b c d : Int) (x : Nat) : mem [a, b, c, d] x = bit (if x / 64 = 0 then a else if x / 64 = 1 then b else if x / 64 = 2 then c else if x / 64 = 3 then d else 0) (x % 64) := by
  unfold mem
  congr 1
  rw [List.getD_eq_getElem?_getD]
  match x / 64 with
  | 0 => rfl
  | 1 => rfl
  | 2 => rfl
  | 3 => rfl
  | n + 4 => simp

noncomputable def andS (s t : List Int) : List Int := [bvop .u64 .and (s.getD 0 0) (t.getD 0 0), bvop .u64 .and (s.getD 1 0) (t.getD 1 0), bvop .u64 .and (s.getD 2 0) (t.getD 2 0), bvop .u64 .and (s.getD 3 0) (t.getD 3 0)]
noncomputable def orS (s t : List Int) : List Int := [bvop .u64 .or (s.getD 0 0) (t.getD 0 0), bvop .u64 .or (s.getD 1 0) (t.getD 1 0), bvop .u64 .or (s.getD 2 0) (t.getD 2 0), bvop .u64 .or (s.getD 3 0) (t.getD 3 0)]
noncomputable def notS (s : List Int) : List Int := [bvop .u64 .xor IntKind.u64.max (s.getD 0 0), bvop .u64 .xor IntKind.u64.max (s.getD 1 0), bvop .u64 .xor IntKind.u64.max (s.getD 2 0), bvop .u64 .xor IntKind.u64.max (s.getD 3 0)]

theorem four_set {a b c d : Int} (ha : isW a) (hb : isW b) (hc : isW c) (hd : isW d) : isSet [a, b, c, d] :=
  ⟨rfl, fun x hx => by simp at hx; rcases hx with rfl | rfl | rfl | rfl <;> assumption⟩

theorem and_isSet {s t : List Int} (hs : isSet s) (ht : isSet t) : isSet (andS s t) := four_set (and_isW _ _ (set_getD hs _) (set_getD ht _)) (and_isW _ _ (set_getD hs _) (set_getD ht _)) (and_isW _ _ (set_getD hs _) (set_getD ht _)) (and_isW _ _ (set_getD hs _) (set_getD ht _))
theorem or_isSet {s t : List Int} (hs : isSet s) (ht : isSet t) : isSet (orS s t) := four_set (or_isW _ _ (set_getD hs _) (set_getD ht _)) (or_isW _ _ (set_getD hs _) (set_getD ht _)) (or_isW _ _ (set_getD hs _) (set_getD ht _)) (or_isW _ _ (set_getD hs _) (set_getD ht _))
theorem not_isSet {s : List Int} (hs : isSet s) : isSet (notS s) := four_set (xor_isW _ _ max_isW (set_getD hs _)) (xor_isW _ _ max_isW (set_getD hs _)) (xor_isW _ _ max_isW (set_getD hs _)) (xor_isW _ _ max_isW (set_getD hs _))

theorem lt4 {x : Nat} (hx : x < 256) : x / 64 = 0 ∨ x / 64 = 1 ∨ x / 64 = 2 ∨ x / 64 = 3 := by omega
theorem mem_and {s t : List Int} (hs : isSet s) (ht : isSet t) (x : Nat) (hx : x < 256) : mem (andS s t) x = (mem s x && mem t x) := by
  unfold mem andS
  rcases lt4 hx with h | h | h | h <;> rw [h] <;> exact bit_and _ _ (set_getD hs _) (set_getD ht _) _
theorem mem_or {s t : List Int} (hs : isSet s) (ht : isSet t) (x : Nat) (hx : x < 256) : mem (orS s t) x = (mem s x || mem t x) := by
  unfold mem orS
  rcases lt4 hx with h | h | h | h <;> rw [h] <;> exact bit_or _ _ (set_getD hs _) (set_getD ht _) _
theorem mem_not {s : List Int} (hs : isSet s) (x : Nat) (hx : x < 256) : mem (notS s) x = !mem s x := by
  have key : ∀ y, isW y → bit (bvop .u64 .xor IntKind.u64.max y) (x % 64) = !bit y (x % 64) := by
    intro y hy
    rw [bit_xor _ _ max_isW hy, bit_max _ (by omega)]
    cases bit y (x % 64) <;> rfl
  unfold mem notS
  rcases lt4 hx with h | h | h | h <;> rw [h] <;> exact key _ (set_getD hs _)

/-! ### lists -/
/-- those from c on, m of them, that are in -/
def elems (s : List Int) (c m : Nat) : List Int := ((List.range' c m).filter fun b : Nat => mem s b).map fun b : Nat => (b : Int)

theorem list_l3 {R : Type} (kf : Nat) (s : List Int) (hs : isSet s) (Ke : List Int → Option R) : ∀ (m k c : Nat) (acc : List Int), c + m = 256 → m < k → acc.length ≤ c → byteset_List_l3 kf k s Ke (c : Int) acc = Ke (acc ++ elems s c m)
  | m, 0, c, acc, _, hk, _ => by omega
  | 0, k + 1, c, acc, hc, hk, ha => by
    have h1 : decide ((c : Int) < 256) = false := decide_eq_false (by omega)
    simp only [byteset_List_l3, byteset_List_l3_b, h1, cond_false, elems, List.range'_zero, List.filter_nil, List.map_nil, List.append_nil]
  | m + 1, k + 1, c, acc, hc, hk, ha => by
    have h1 : decide ((c : Int) < 256) = true := decide_eq_true (by omega)
    have hw : IntKind.u8.wrap (c : Int) = (c : Int) := by rw [IntKind.wrap_u8]; omega
    simp only [byteset_List_l3, byteset_List_l3_b, h1, cond_true, hw]
    rw [has_ok s hs c (by omega), wrap_i1 c (by omega)]
    have ih := fun acc ha => list_l3 kf s hs Ke m k (c + 1) acc (by omega) (by omega) ha
    cases hm : mem s c with
    | false =>
      simp only [cond_false]
      rw [ih acc (by omega)]
      simp [elems, List.range'_succ, hm]
    | true =>
      simp only [cond_true]
      rw [gd_true (decide_eq_true (by show _ < 17179869184; simp; omega)), ih _ (by simp; omega)]
      simp [elems, List.range'_succ, hm]

theorem list_ok {R : Type} (kf : Nat) (hkf : 300 ≤ kf) (s : List Int) (hs : isSet s) (K : List Int → Option R) : byteset_List kf s K = K (elems s 0 256) := by
  unfold byteset_List byteset_List_b
  have := list_l3 kf s hs (fun v6 => K v6) 256 kf 0 [] (by omega) (by omega) (by simp)
  simpa using this
end Go.Ab.T

/- The lowest bit of a word; which of two sets stands ahead. -/
namespace Go.Ab.T
open Go Go.Ab
set_option linter.unusedVariables false
set_option linter.unusedSimpArgs false

theorem odd_part (n : Nat) : n ≠ 0 → ∃ k m, n = 2 ^ k * (2 * m + 1) := by
  induction n using Nat.strongRecOn with
  | _ n ih =>
    intro h
    by_cases h2 : n % 2 = 1
    · exact ⟨0, n / 2, by rw [Nat.pow_zero, Nat.one_mul]; omega⟩
    · obtain ⟨k, m, e⟩ := ih (n / 2) (by omega) (by omega)
      refine ⟨k + 1, m, ?_⟩
      rw [Nat.pow_succ, Nat.mul_comm (2 ^ k) 2, Nat.mul_assoc, ← e]
      omega

theorem tb_odd (m i : Nat) : (2 * m + 1).testBit (i + 1) = m.testBit i := by
  rw [Nat.testBit_succ]; congr 1; omega
theorem tb_even (m i : Nat) : (2 * m).testBit (i + 1) = m.testBit i := by
  rw [Nat.testBit_succ]; congr 1; omega

theorem odd_bits (k m j : Nat) : (2 ^ k * (2 * m + 1)).testBit j = (decide (j ≥ k) && (2 * m + 1).testBit (j - k)) := Nat.testBit_two_pow_mul

theorem low_and (k m : Nat) (h : 2 ^ k * (2 * m + 1) < 2 ^ 64) : (2 ^ k * (2 * m + 1)) &&& (2 ^ 64 - 2 ^ k * (2 * m + 1)) = 2 ^ k := by
  have hpos : 0 < 2 ^ k := Nat.pow_pos (by omega)
  have e1 : 2 ^ k * (2 * m + 1) - 1 = 2 ^ k * (2 * m) + (2 ^ k - 1) := by
    rw [Nat.mul_succ]; omega
  have e2 : 2 ^ 64 - 2 ^ k * (2 * m + 1) = 2 ^ 64 - ((2 ^ k * (2 * m + 1) - 1) + 1) := by
    have : 0 < 2 ^ k * (2 * m + 1) := Nat.mul_pos hpos (by omega)
    omega
  apply Nat.eq_of_testBit_eq
  intro j
  rw [Nat.testBit_and, e2, Nat.testBit_two_pow_sub_succ (by omega), e1, odd_bits, Nat.testBit_two_pow_mul_add _ (by omega), Nat.testBit_two_pow]
  by_cases hj : j < k
  · have h1 : decide (j ≥ k) = false := decide_eq_false (by omega)
    have h2 : decide (k = j) = false := decide_eq_false (by omega)
    rw [h1, h2]; simp
  · rw [if_neg hj]
    have h1 : decide (j ≥ k) = true := decide_eq_true (by omega)
    rw [h1, Bool.true_and]
    by_cases hjk : k = j
    · subst hjk
      have hk64 : k < 64 := by
        by_cases hk : k < 64
        · exact hk
        · exfalso
          have : 2 ^ 64 ≤ 2 ^ k := Nat.pow_le_pow_right (by omega) (by omega)
          have : 2 ^ k * 1 ≤ 2 ^ k * (2 * m + 1) := Nat.mul_le_mul_left _ (by omega)
          omega
      simp [hk64]
    · obtain ⟨i, hi⟩ : ∃ i, j - k = i + 1 := ⟨j - k - 1, by omega⟩
      rw [hi, tb_odd, tb_even]
      have h2 : decide (k = j) = false := decide_eq_false hjk
      rw [h2]
      cases m.testBit i <;> simp

theorem table_ok : ∀ k : Nat, k < 64 → deBruijn.getD ((2 ^ k * 285870213051353865) % 18446744073709551616 / 288230376151711744) 0 = (k : Int) := by decide +kernel
theorem table_lt : ∀ k : Nat, k < 64 → (2 ^ k * 285870213051353865) % 18446744073709551616 / 288230376151711744 < 64 := by decide +kernel

theorem neg_eq (x : Int) (hx : isW x) (h0 : x ≠ 0) : IntKind.u64.wrap (0 - x) = ((2 ^ 64 - x.toNat : Nat) : Int) := by
  have hlt := isW_lt hx
  rw [IntKind.wrap_u64]
  rw [p64] at hlt ⊢
  have := hx.1
  omega
theorem negW (x : Int) (hx : isW x) (h0 : x ≠ 0) : isW ((2 ^ 64 - x.toNat : Nat) : Int) := by
  have := hx.1
  rw [p64]; constructor <;> omega
theorem mul_eq (n : Nat) : IntKind.u64.wrap (mulZ (n : Int) 285870213051353865) = ((n * 285870213051353865 % 18446744073709551616 : Nat) : Int) := by
  unfold mulZ
  rw [wall_eq, IntKind.wrap_u64]
  omega
theorem mulW (n : Nat) : isW ((n * 285870213051353865 % 18446744073709551616 : Nat) : Int) := by constructor <;> omega
theorem shr58 (n : Nat) : shr .u64 ((n * 285870213051353865 % 18446744073709551616 : Nat) : Int) 58 = ((n * 285870213051353865 % 18446744073709551616 / 288230376151711744 : Nat) : Int) := by
  have h := shr_eq _ 58 (by omega) (mulW n)
  rw [Int.toNat_natCast] at h
  have p58 : (2 : Nat) ^ 58 = 288230376151711744 := by decide
  rw [p58] at h
  exact h
theorem low_eq (x : Int) (hx : isW x) (h0 : x ≠ 0) (k m : Nat) (e : x.toNat = 2 ^ k * (2 * m + 1)) : bvop .u64 .and x (IntKind.u64.wrap (0 - x)) = ((2 ^ k : Nat) : Int) := by
  have hlt := isW_lt hx
  rw [neg_eq x hx h0, and_eq x _ hx (negW x hx h0), Int.toNat_natCast, e, low_and k m (by rw [← e]; exact hlt)]

theorem low_lt (x : Int) (hx : isW x) (k m : Nat) (e : x.toNat = 2 ^ k * (2 * m + 1)) : k < 64 := by
  have hlt := isW_lt hx
  by_cases hk : k < 64
  · exact hk
  · exfalso
    have : 2 ^ 64 ≤ 2 ^ k := Nat.pow_le_pow_right (by omega) (by omega)
    have : 2 ^ k * 1 ≤ 2 ^ k * (2 * m + 1) := Nat.mul_le_mul_left _ (by omega)
    omega

theorem idx_eq (x : Int) (hx : isW x) (h0 : x ≠ 0) (k m : Nat) (e : x.toNat = 2 ^ k * (2 * m + 1)) : ∃ j : Nat, j < 64 ∧ deBruijn.getD j 0 = (k : Int) ∧ shr .u64 (IntKind.u64.wrap (mulZ (bvop .u64 .and x (IntKind.u64.wrap (0 - x))) 285870213051353865)) 58 = (j : Int) := by
  have hk := low_lt x hx k m e
  refine ⟨_, table_lt k hk, table_ok k hk, ?_⟩
  rw [low_eq x hx h0 k m e, mul_eq, shr58]

theorem tz_body {R : Type} (x : Int) (h0 : x ≠ 0) (j k : Nat) (hj : j < 64) (hk : k < 64) (hd : deBruijn.getD j 0 = (k : Int)) (hs : shr .u64 (IntKind.u64.wrap (mulZ (bvop .u64 .and x (IntKind.u64.wrap (0 - x))) 285870213051353865)) 58 = (j : Int)) (K : Int → Option R) : math_bits_TrailingZeros64 x K = K (k : Int) := by
  unfold math_bits_TrailingZeros64 math_bits_TrailingZeros64_b
  rw [hs, decide_eq_false h0, gd_true (decide_eq_true (by omega)), gd_true (decide_eq_true (by omega)), Int.toNat_natCast, hd, wrap_i k (by omega)]
  rfl

/-- the lowest bit that is set -/
theorem tz_ok (x : Int) (hx : isW x) (h0 : x ≠ 0) : ∃ k, k < 64 ∧ bit x k = true ∧ (∀ j, j < k → bit x j = false) ∧ ∀ {R : Type} (K : Int → Option R), math_bits_TrailingZeros64 x K = K (k : Int) := by
  have hn0 : x.toNat ≠ 0 := by have := hx.1; omega
  obtain ⟨k, m, e⟩ := odd_part x.toNat hn0
  have hk64 := low_lt x hx k m e
  obtain ⟨j, hj, hd, hs⟩ := idx_eq x hx h0 k m e
  refine ⟨k, hk64, ?_, ?_, fun K => tz_body x h0 j k hj hk64 hd hs K⟩
  · unfold bit; rw [e, odd_bits]; simp
  · intro i hi
    unfold bit; rw [e, odd_bits]
    have : decide (i ≥ k) = false := decide_eq_false (by omega)
    rw [this, Bool.false_and]
end Go.Ab.T

/- Which of two sets stands ahead. -/
namespace Go.Ab.T
open Go Go.Ab
set_option linter.unusedVariables false
set_option linter.unusedSimpArgs false

noncomputable def lessStep {R : Type} (K : Bool → Option R) (a b : Int) (rest : Option R) : Option R :=
  bif (!(decide (bvop .u64 .xor a b = 0))) then (math_bits_TrailingZeros64 (bvop .u64 .xor a b) (fun v7 => gd (decide (0 ≤ v7)) (K (decide ((bvop .u64 .and (shr .u64 a v7) 1) = 1))))) else rest

theorem less_rfl {R : Type} (k : Nat) (a0 a1 a2 a3 b0 b1 b2 b3 : Int) (K : Bool → Option R) :
    byteset_Less (k + 5) [a0, a1, a2, a3] [b0, b1, b2, b3] K = lessStep K a0 b0 (lessStep K a1 b1 (lessStep K a2 b2 (lessStep K a3 b3 (K false)))) := rfl

theorem step_ok (a b : Int) (ha : isW a) (hb : isW b) : (a = b ∧ ∀ {R : Type} (K : Bool → Option R) (rest : Option R), lessStep K a b rest = rest) ∨
    ∃ k, k < 64 ∧ bit a k ≠ bit b k ∧ (∀ j, j < k → bit a j = bit b j) ∧ ∀ {R : Type} (K : Bool → Option R) (rest : Option R), lessStep K a b rest = K (bit a k) := by
  have hx := xor_isW a b ha hb
  by_cases h : bvop .u64 .xor a b = 0
  · left
    refine ⟨word_ext a b ha hb fun j hj => ?_, fun K rest => ?_⟩
    · have := bit_xor a b ha hb j
      rw [h] at this
      have e : bit 0 j = false := by unfold bit; simp
      rw [e] at this
      revert this
      cases bit a j <;> cases bit b j <;> simp
    · unfold lessStep; rw [decide_eq_true h]; rfl
  · right
    obtain ⟨k, h1, h2, h3, h4⟩ := tz_ok _ hx h
    refine ⟨k, h1, ?_, ?_, fun K rest => ?_⟩
    · rw [bit_xor a b ha hb] at h2
      simpa using h2
    · intro j hj
      have := h3 j hj
      rw [bit_xor a b ha hb] at this
      simpa using this
    · unfold lessStep
      rw [decide_eq_false h, Bool.not_false, cond_true, h4, gd_true (decide_eq_true (by omega)), shr_and1 a k h1 ha]

/-- the first byte that is in one of the two alone is in the first one -/
def ahead (s t : List Int) : Prop := ∃ b, b < 256 ∧ mem s b = true ∧ mem t b = false ∧ ∀ c, c < b → mem s c = mem t c

theorem less_ok (kf : Nat) (hkf : 5 ≤ kf) {s t : List Int} (hs : isSet s) (ht : isSet t) : ∃ r : Bool, (r = true ↔ ahead s t) ∧ ∀ {R : Type} (K : Bool → Option R), byteset_Less kf s t K = K r := by
  obtain ⟨k, rfl⟩ : ∃ k, kf = k + 5 := ⟨kf - 5, by omega⟩
  obtain ⟨a0, a1, a2, a3, rfl, ha0, ha1, ha2, ha3⟩ := four hs
  obtain ⟨b0, b1, b2, b3, rfl, hb0, hb1, hb2, hb3⟩ := four ht
  have word : ∀ (w : Nat) (x y : Int) (j : Nat), w < 4 → j < 64 → isW x → isW y → ([a0, a1, a2, a3] : List Int).getD w 0 = x → ([b0, b1, b2, b3] : List Int).getD w 0 = y → bit x j ≠ bit y j → (∀ i, i < j → bit x i = bit y i) →
      (∀ v, v < w → ([a0, a1, a2, a3] : List Int).getD v 0 = ([b0, b1, b2, b3] : List Int).getD v 0) → (bit x j = true ↔ ahead [a0, a1, a2, a3] [b0, b1, b2, b3]) := by
    intro w x y j hw hj hx hy e1 e2 hne hlow hbefore
    have m1 : mem [a0, a1, a2, a3] (64 * w + j) = bit x j := by
      unfold mem
      rw [show (64 * w + j) / 64 = w by omega, show (64 * w + j) % 64 = j by omega, e1]
    have m2 : mem [b0, b1, b2, b3] (64 * w + j) = bit y j := by
      unfold mem
      rw [show (64 * w + j) / 64 = w by omega, show (64 * w + j) % 64 = j by omega, e2]
    have same : ∀ c, c < 64 * w + j → mem [a0, a1, a2, a3] c = mem [b0, b1, b2, b3] c := by
      intro c hc
      unfold mem
      by_cases hcw : c / 64 < w
      · rw [hbefore _ hcw]
      · have : c / 64 = w := by omega
        rw [this, e1, e2]
        exact hlow _ (by omega)
    constructor
    · intro hb
      refine ⟨64 * w + j, by omega, by rw [m1, hb], ?_, same⟩
      rw [m2]
      cases hq : bit y j with
      | false => rfl
      | true => rw [hb, hq] at hne; exact absurd rfl hne
    · rintro ⟨c, hc, h1, h2, h3⟩
      have hcc : c = 64 * w + j := by
        rcases Nat.lt_trichotomy c (64 * w + j) with h | h | h
        · have := same c h; rw [h1, h2] at this; cases this
        · exact h
        · have := h3 _ h; rw [m1, m2] at this; exact absurd this hne
      subst hcc
      rw [← m1]; exact h1
  rcases step_ok a0 b0 ha0 hb0 with ⟨q0, z0⟩ | ⟨j, hj, n1, n2, z⟩
  · rcases step_ok a1 b1 ha1 hb1 with ⟨q1, z1⟩ | ⟨j, hj, n1, n2, z⟩
    · rcases step_ok a2 b2 ha2 hb2 with ⟨q2, z2⟩ | ⟨j, hj, n1, n2, z⟩
      · rcases step_ok a3 b3 ha3 hb3 with ⟨q3, z3⟩ | ⟨j, hj, n1, n2, z⟩
        · refine ⟨false, ⟨fun h => (nomatch h), ?_⟩, fun K => by rw [less_rfl, z0, z1, z2, z3]⟩
          rintro ⟨c, hc, h1, h2, _⟩
          subst q0 q1 q2 q3
          rw [h1] at h2; cases h2
        · refine ⟨bit a3 j, word 3 a3 b3 j (by omega) hj ha3 hb3 rfl rfl n1 n2 ?_, fun K => by rw [less_rfl, z0, z1, z2, z]⟩
          intro v hv
          match v, hv with
          | 0, _ => exact q0
          | 1, _ => exact q1
          | 2, _ => exact q2
      · refine ⟨bit a2 j, word 2 a2 b2 j (by omega) hj ha2 hb2 rfl rfl n1 n2 ?_, fun K => by rw [less_rfl, z0, z1, z]⟩
        intro v hv
        match v, hv with
        | 0, _ => exact q0
        | 1, _ => exact q1
    · refine ⟨bit a1 j, word 1 a1 b1 j (by omega) hj ha1 hb1 rfl rfl n1 n2 ?_, fun K => by rw [less_rfl, z0, z]⟩
      intro v hv
      match v, hv with
      | 0, _ => exact q0
  · refine ⟨bit a0 j, word 0 a0 b0 j (by omega) hj ha0 hb0 rfl rfl n1 n2 ?_, fun K => by rw [less_rfl, z]⟩
    intro v hv; omega
end Go.Ab.T

/- How many bits are set: the sum in parallel, byte by byte. -/
namespace Go.Ab.T
open Go Go.Ab
set_option linter.unusedVariables false
set_option linter.unusedSimpArgs false

/-- a number, by its bytes -/
def ofB : List Nat → Nat
  | [] => 0
  | b :: r => b + 256 * ofB r
def isBy (l : List Nat) : Prop := ∀ b ∈ l, b < 256

theorem and_cons (b h c m : Nat) (hb : b < 256) (hc : c < 256) : (b + 256 * h) &&& (c + 256 * m) = (b &&& c) + 256 * (h &&& m) := by
  have e : (2 : Nat) ^ 8 = 256 := by decide
  have h1 := Nat.and_mod_two_pow (a := b + 256 * h) (b := c + 256 * m) (n := 8)
  have h2 := Nat.and_div_two_pow (a := b + 256 * h) (b := c + 256 * m) (n := 8)
  rw [e] at h1 h2
  have e1 : (b + 256 * h) % 256 = b := by omega
  have e2 : (c + 256 * m) % 256 = c := by omega
  have e3 : (b + 256 * h) / 256 = h := by omega
  have e4 : (c + 256 * m) / 256 = m := by omega
  rw [e1, e2] at h1
  rw [e3, e4] at h2
  have := Nat.div_add_mod ((b + 256 * h) &&& (c + 256 * m)) 256
  omega

theorem and_bytes : ∀ (l m : List Nat), isBy l → isBy m → l.length = m.length → ofB l &&& ofB m = ofB (List.zipWith (· &&& ·) l m)
  | [], [], _, _, _ => rfl
  | b :: l, c :: m, hl, hm, hh => by
    simp only [ofB, List.zipWith_cons_cons]
    rw [and_cons b _ c _ (hl b (by simp)) (hm c (by simp)), and_bytes l m (fun x hx => hl x (by simp [hx])) (fun x hx => hm x (by simp [hx])) (by simpa using hh)]

theorem bytes_of : ∀ (n x : Nat), x < 256 ^ n → ∃ l, l.length = n ∧ isBy l ∧ ofB l = x
  | 0, x, h => ⟨[], rfl, fun b hb => (nomatch hb), by rw [Nat.pow_zero] at h; show 0 = x; omega⟩
  | n + 1, x, h => by
    rw [Nat.pow_succ] at h
    obtain ⟨l, h1, h2, h3⟩ := bytes_of n (x / 256) (by omega)
    refine ⟨x % 256 :: l, by simp [h1], ?_, by simp only [ofB]; rw [h3]; omega⟩
    intro b hb
    rcases List.mem_cons.1 hb with rfl | hb
    · omega
    · exact h2 b hb

/-- shifted by j < 8 bits: what comes in from the byte above -/
def shrB (j : Nat) : List Nat → List Nat
  | [] => []
  | [b] => [b / 2 ^ j]
  | b :: c :: r => (b / 2 ^ j + c % 2 ^ j * 2 ^ (8 - j)) :: shrB j (c :: r)

theorem shr1_bytes : ∀ (l : List Nat), ofB l / 2 = ofB (shrB 1 l)
  | [] => rfl
  | [b] => by simp [ofB, shrB]
  | b :: c :: r => by
    have ih := shr1_bytes (c :: r)
    simp only [ofB, shrB] at ih ⊢
    rw [← ih]
    omega
theorem shr2_bytes : ∀ (l : List Nat), ofB l / 4 = ofB (shrB 2 l)
  | [] => rfl
  | [b] => by simp [ofB, shrB]
  | b :: c :: r => by
    have ih := shr2_bytes (c :: r)
    simp only [ofB, shrB] at ih ⊢
    rw [← ih]
    omega
theorem shr4_bytes : ∀ (l : List Nat), ofB l / 16 = ofB (shrB 4 l)
  | [] => rfl
  | [b] => by simp [ofB, shrB]
  | b :: c :: r => by
    have ih := shr4_bytes (c :: r)
    simp only [ofB, shrB] at ih ⊢
    rw [← ih]
    omega

/-! ### one byte's own sum -/
def pc (b : Nat) : Nat := (List.range 8).countP fun j => b.testBit j
def s1 (b : Nat) : Nat := (b / 2 &&& 85) + (b &&& 85)
def s2 (b : Nat) : Nat := (b / 4 &&& 51) + (b &&& 51)
def s3 (b : Nat) : Nat := (b / 16 + b) &&& 15

theorem s1_in : ∀ b : Nat, b < 256 → ∀ c : Nat, c < 2 → ((b / 2 + c * 128) &&& 85) = (b / 2 &&& 85) := by decide +kernel
theorem s2_in : ∀ b : Nat, b < 256 → ∀ c : Nat, c < 4 → ((b / 4 + c * 64) &&& 51) = (b / 4 &&& 51) := by decide +kernel
theorem pc_all : ∀ b : Nat, b < 256 → s3 (s2 (s1 b)) = pc b ∧ s1 b < 256 ∧ s2 (s1 b) < 256 ∧ (s2 (s1 b)) % 16 + s2 (s1 b) / 16 ≤ 8 ∧ s2 (s1 b) % 16 ≤ 4 ∧ s2 (s1 b) / 16 ≤ 4 ∧ pc b ≤ 8 := by decide +kernel

theorem s3_in : ∀ b : Nat, b < 128 → ∀ c : Nat, c < 5 → ((b / 16 + b + c * 16) &&& 15) = s3 b := by decide +kernel

theorem half (b h : Nat) (hb : b < 256) : (b + 256 * h) / 2 = (b / 2 + h % 2 * 128) + 256 * (h / 2) := by omega
theorem quart (b h : Nat) (hb : b < 256) : (b + 256 * h) / 4 = (b / 4 + h % 4 * 64) + 256 * (h / 4) := by omega
theorem sixt (b h : Nat) (hb : b < 256) : (b + 256 * h) / 16 = (b / 16 + h % 16 * 16) + 256 * (h / 16) := by omega

theorem step1 : ∀ l : List Nat, isBy l → (ofB l / 2 &&& ofB (l.map fun _ => 85)) + (ofB l &&& ofB (l.map fun _ => 85)) = ofB (l.map s1)
  | [], _ => rfl
  | b :: r, h => by
    have hb := h b (by simp)
    have ih := step1 r fun x hx => h x (by simp [hx])
    simp only [List.map_cons, ofB]
    rw [half b _ hb, and_cons _ _ _ _ (by omega) (by omega), and_cons _ _ _ _ hb (by omega), s1_in b hb _ (by omega), ← ih]
    unfold s1
    omega
theorem step2 : ∀ l : List Nat, isBy l → (ofB l / 4 &&& ofB (l.map fun _ => 51)) + (ofB l &&& ofB (l.map fun _ => 51)) = ofB (l.map s2)
  | [], _ => rfl
  | b :: r, h => by
    have hb := h b (by simp)
    have ih := step2 r fun x hx => h x (by simp [hx])
    simp only [List.map_cons, ofB]
    rw [quart b _ hb, and_cons _ _ _ _ (by omega) (by omega), and_cons _ _ _ _ hb (by omega), s2_in b hb _ (by omega), ← ih]
    unfold s2
    omega
theorem ofB_mod16 (l : List Nat) (h : ∀ b ∈ l, b % 16 ≤ 4) : ofB l % 16 ≤ 4 := by
  cases l with
  | nil => exact Nat.zero_le _
  | cons b r => have := h b (by simp); simp only [ofB]; omega
theorem step3 : ∀ l : List Nat, (∀ b ∈ l, b % 16 ≤ 4 ∧ b / 16 ≤ 4) → ((ofB l / 16 + ofB l) &&& ofB (l.map fun _ => 15)) = ofB (l.map s3)
  | [], _ => rfl
  | b :: r, h => by
    have hb := h b (by simp)
    have ih := step3 r fun x hx => h x (by simp [hx])
    have hm := ofB_mod16 r fun x hx => (h x (by simp [hx])).1
    simp only [List.map_cons, ofB]
    have e : (b + 256 * ofB r) / 16 + (b + 256 * ofB r) = (b / 16 + b + ofB r % 16 * 16) + 256 * (ofB r / 16 + ofB r) := by omega
    rw [e, and_cons _ _ _ _ (by omega) (by omega), s3_in b (by omega) _ (by omega), ih]

end Go.Ab.T

/- The last sums of the count of bits. -/
namespace Go.Ab.T
open Go Go.Ab
set_option linter.unusedVariables false
set_option linter.unusedSimpArgs false

theorem cut256 (p q x : Nat) (hp : p < 256) (hx : x = p + 256 * q) : x / 256 = q := by omega
theorem cut64k (a b u y : Nat) (ha : a < 256) (hb : b < 256) (hy : y = a + 256 * b + 65536 * u) : y / 65536 = u := by omega
theorem cut4g (a b c d t z : Nat) (ha : a < 256) (hb : b < 256) (hc : c < 256) (hd : d < 256) (hz : z = a + 256 * b + 65536 * c + 16777216 * d + 4294967296 * t) : z / 4294967296 = t := by omega
theorem lin_y (p0 p1 p2 p3 p4 p5 p6 p7 x y q u : Nat) (hx : x = p0 + 256 * q) (hq : q = p1 + 256 * (p2 + 256 * (p3 + 256 * (p4 + 256 * (p5 + 256 * (p6 + 256 * p7))))))
    (hu : u = (p2 + p3) + 256 * ((p3 + p4) + 256 * ((p4 + p5) + 256 * ((p5 + p6) + 256 * ((p6 + p7) + 256 * p7))))) (hy : y = x + q) : y = (p0 + p1) + 256 * (p1 + p2) + 65536 * u := by
  subst hu hy hx hq; omega
theorem lin_z (p0 p1 p2 p3 p4 p5 p6 p7 y z u t : Nat) (hy : y = (p0 + p1) + 256 * (p1 + p2) + 65536 * u)
    (hu : u = (p2 + p3) + 256 * ((p3 + p4) + 256 * ((p4 + p5) + 256 * ((p5 + p6) + 256 * ((p6 + p7) + 256 * p7)))))
    (ht : t = (p4 + p5 + p6 + p7) + 256 * ((p5 + p6 + p7) + 256 * ((p6 + p7) + 256 * p7))) (hz : z = y + u) :
    z = (p0 + p1 + p2 + p3) + 256 * (p1 + p2 + p3 + p4) + 65536 * (p2 + p3 + p4 + p5) + 16777216 * (p3 + p4 + p5 + p6) + 4294967296 * t := by
  subst ht hz hy hu; omega
theorem lin_f (a b c d e f t z : Nat) (hz : z = a + 256 * b + 65536 * c + 16777216 * d + 4294967296 * t) (ht : t = e + 256 * f) (hs : a + e < 128) : (z + t) % 128 = a + e := by omega

theorem bnd_q (p1 p2 p3 p4 p5 p6 p7 q : Nat) (h1 : p1 ≤ 8) (h2 : p2 ≤ 8) (h3 : p3 ≤ 8) (h4 : p4 ≤ 8) (h5 : p5 ≤ 8) (h6 : p6 ≤ 8) (h7 : p7 ≤ 8) (hq : q = p1 + 256 * (p2 + 256 * (p3 + 256 * (p4 + 256 * (p5 + 256 * (p6 + 256 * p7)))))) : q < 2533274790395905 := by omega
theorem bnd_u (p2 p3 p4 p5 p6 p7 u : Nat) (h2 : p2 ≤ 8) (h3 : p3 ≤ 8) (h4 : p4 ≤ 8) (h5 : p5 ≤ 8) (h6 : p6 ≤ 8) (h7 : p7 ≤ 8) (hu : u = (p2 + p3) + 256 * ((p3 + p4) + 256 * ((p4 + p5) + 256 * ((p5 + p6) + 256 * ((p6 + p7) + 256 * p7))))) : u < 20000000000000 := by omega
theorem bnd_x (p0 q x : Nat) (h0 : p0 ≤ 8) (hx : x = p0 + 256 * q) (hq : q < 2533274790395905) : x < 700000000000000000 := by omega
theorem bnd_y (x q y : Nat) (hx : x < 700000000000000000) (hq : q < 2533274790395905) (hy : y = x + q) : y < 2000000000000000000 := by omega
theorem bnd_z (y u z : Nat) (hx : y < 2000000000000000000) (hq : u < 20000000000000) (hy : z = y + u) : z < 4000000000000000000 := by omega

/-- the sum of eight small bytes, and that nothing overflows on the way -/
theorem sum8' (p0 p1 p2 p3 p4 p5 p6 p7 : Nat) (h0 : p0 ≤ 8) (h1 : p1 ≤ 8) (h2 : p2 ≤ 8) (h3 : p3 ≤ 8) (h4 : p4 ≤ 8) (h5 : p5 ≤ 8) (h6 : p6 ≤ 8) (h7 : p7 ≤ 8) (x y z q u t : Nat)
    (hq : q = p1 + 256 * (p2 + 256 * (p3 + 256 * (p4 + 256 * (p5 + 256 * (p6 + 256 * p7))))))
    (hu : u = (p2 + p3) + 256 * ((p3 + p4) + 256 * ((p4 + p5) + 256 * ((p5 + p6) + 256 * ((p6 + p7) + 256 * p7)))))
    (ht : t = (p4 + p5 + p6 + p7) + 256 * ((p5 + p6 + p7) + 256 * ((p6 + p7) + 256 * p7)))
    (hx : x = p0 + 256 * q) (hy : y = x + x / 256) (hz : z = y + y / 65536) :
    x < 700000000000000000 ∧ y < 2000000000000000000 ∧ z < 4000000000000000000 ∧ (z + z / 4294967296) % 128 = (p0 + p1 + p2 + p3) + (p4 + p5 + p6 + p7) := by
  have e1 := cut256 p0 q x (Nat.lt_of_le_of_lt h0 (by decide)) hx
  rw [e1] at hy
  have hy' := lin_y p0 p1 p2 p3 p4 p5 p6 p7 x y q u hx hq hu hy
  have b01 : p0 + p1 < 256 := by clear hq hu ht hx hy hz hy' e1; omega
  have b12 : p1 + p2 < 256 := by clear hq hu ht hx hy hz hy' e1; omega
  have e2 := cut64k _ _ u y b01 b12 hy'
  rw [e2] at hz
  have hz' := lin_z p0 p1 p2 p3 p4 p5 p6 p7 y z u t hy' hu ht hz
  have c1 : p0 + p1 + p2 + p3 < 256 := by clear hq hu ht hx hy hz hy' e1 e2 hz'; omega
  have c2 : p1 + p2 + p3 + p4 < 256 := by clear hq hu ht hx hy hz hy' e1 e2 hz'; omega
  have c3 : p2 + p3 + p4 + p5 < 256 := by clear hq hu ht hx hy hz hy' e1 e2 hz'; omega
  have c4 : p3 + p4 + p5 + p6 < 256 := by clear hq hu ht hx hy hz hy' e1 e2 hz'; omega
  have c5 : p0 + p1 + p2 + p3 + (p4 + p5 + p6 + p7) < 128 := by clear hq hu ht hx hy hz hy' e1 e2 hz'; omega
  have e3 := cut4g _ _ _ _ t z c1 c2 c3 c4 hz'
  have hf := lin_f _ _ _ _ _ _ t z hz' ht c5
  have bq := bnd_q p1 p2 p3 p4 p5 p6 p7 q h1 h2 h3 h4 h5 h6 h7 hq
  have bu := bnd_u p2 p3 p4 p5 p6 p7 u h2 h3 h4 h5 h6 h7 hu
  have bx := bnd_x p0 q x h0 hx bq
  have bY := bnd_y x q y bx bq hy
  have bz := bnd_z y u z bY bu hz
  exact ⟨bx, bY, bz, by rw [e3]; exact hf⟩

theorem pc_bits (b : Nat) (hb : b < 256) : pc b ≤ 8 := (pc_all b hb).2.2.2.2.2.2

/-- the bits of a number, byte by byte -/
theorem cnt_bytes : ∀ l : List Nat, isBy l → (List.range (8 * l.length)).countP (fun j => (ofB l).testBit j) = (l.map pc).sum
  | [], _ => rfl
  | b :: r, h => by
    have hb := h b (by simp)
    have ih := cnt_bytes r fun x hx => h x (by simp [hx])
    have e : 8 * (b :: r).length = 8 + 8 * r.length := by simp; omega
    rw [e, List.range_add, List.countP_append, List.countP_map, List.map_cons, List.sum_cons, ← ih]
    have key : ∀ j, (ofB (b :: r)).testBit j = if j < 8 then b.testBit j else (ofB r).testBit (j - 8) := by
      intro j
      have : ofB (b :: r) = 2 ^ 8 * ofB r + b := by simp only [ofB]; omega
      rw [this, Nat.testBit_two_pow_mul_add _ (by omega)]
    congr 1
    · unfold pc
      apply List.countP_congr
      intro j hj
      rw [key, if_pos (List.mem_range.1 hj)]
    · apply List.countP_congr
      intro j hj
      simp only [Function.comp]
      rw [key, if_neg (by omega)]
      have : 8 + j - 8 = j := by omega
      rw [this]
end Go.Ab.T

/- How many bits a word has; how many bytes a set has. -/
namespace Go.Ab.T
open Go Go.Ab
set_option linter.unusedVariables false
set_option linter.unusedSimpArgs false

theorem andN (a b : Nat) (ha : a < 2 ^ 64) (hb : b < 2 ^ 64) : bvop .u64 .and (a : Int) (b : Int) = ((a &&& b : Nat) : Int) := by
  rw [and_eq _ _ (isW_nat ha) (isW_nat hb), Int.toNat_natCast, Int.toNat_natCast]
theorem shrN (a j : Nat) (ha : a < 2 ^ 64) (hj : j ≤ 64) : shr .u64 (a : Int) (j : Int) = ((a / 2 ^ j : Nat) : Int) := by
  rw [shr_eq _ j hj (isW_nat ha), Int.toNat_natCast]
theorem wrapA (a b : Nat) (h : a + b < 2 ^ 64) : IntKind.u64.wrap ((a : Int) + (b : Int)) = ((a + b : Nat) : Int) := by
  have := wrapN (a + b) h
  rw [Int.natCast_add] at this
  rw [this, Int.natCast_add]

theorem ofB_lt : ∀ l : List Nat, isBy l → ofB l < 256 ^ l.length
  | [], _ => by decide
  | b :: r, h => by
    have hb := h b (by simp)
    have ih := ofB_lt r fun x hx => h x (by simp [hx])
    simp only [ofB, List.length_cons]
    rw [Nat.pow_succ]
    omega
theorem lt8 {l : List Nat} (h : isBy l) (hl : l.length = 8) : ofB l < 2 ^ 64 := by
  have := ofB_lt l h
  rw [hl] at this
  have e : 256 ^ 8 = 2 ^ 64 := by decide
  rw [← e]; exact this
theorem isBy_map (f : Nat → Nat) {l : List Nat} (h : ∀ b ∈ l, f b < 256) : isBy (l.map f) := by
  intro x hx
  rw [List.mem_map] at hx
  obtain ⟨b, hb, rfl⟩ := hx
  exact h b hb

theorem m85 (l : List Nat) (hl : l.length = 8) : ofB (l.map fun _ => 85) = 6148914691236517205 := by
  match l, hl with
  | [_, _, _, _, _, _, _, _], _ => simp only [List.map_cons, List.map_nil, ofB]
theorem m51 (l : List Nat) (hl : l.length = 8) : ofB (l.map fun _ => 51) = 3689348814741910323 := by
  match l, hl with
  | [_, _, _, _, _, _, _, _], _ => simp only [List.map_cons, List.map_nil, ofB]
theorem m15 (l : List Nat) (hl : l.length = 8) : ofB (l.map fun _ => 15) = 1085102592571150095 := by
  match l, hl with
  | [_, _, _, _, _, _, _, _], _ => simp only [List.map_cons, List.map_nil, ofB]
theorem w85 : (6148914691236517205 : Nat) < 2 ^ 64 := by decide
theorem w51 : (3689348814741910323 : Nat) < 2 ^ 64 := by decide
theorem w15 : (1085102592571150095 : Nat) < 2 ^ 64 := by decide

theorem st1 (l : List Nat) (hl : l.length = 8) (h : isBy l) :
    IntKind.u64.wrap ((bvop .u64 .and (shr .u64 (ofB l : Int) 1) 6148914691236517205) + (bvop .u64 .and (ofB l : Int) 6148914691236517205)) = (ofB (l.map s1) : Int) := by
  have hlt := lt8 h hl
  have h1 := shrN (ofB l) 1 hlt (by omega)
  have h2 := andN (ofB l / 2 ^ 1) 6148914691236517205 (Nat.lt_of_le_of_lt (Nat.div_le_self _ _) hlt) w85
  have h3 := andN (ofB l) 6148914691236517205 hlt w85
  have e := step1 l h
  rw [m85 l hl] at e
  have hr : ofB (l.map s1) < 2 ^ 64 := lt8 (isBy_map _ fun b hb => (pc_all b (h b hb)).2.1) (by simp [hl])
  have p1 : (2 : Nat) ^ 1 = 2 := rfl
  rw [p1] at h1 h2
  have h1' : shr .u64 (ofB l : Int) 1 = ((ofB l / 2 : Nat) : Int) := h1
  have h2' : bvop .u64 .and ((ofB l / 2 : Nat) : Int) 6148914691236517205 = ((ofB l / 2 &&& 6148914691236517205 : Nat) : Int) := h2
  have h3' : bvop .u64 .and (ofB l : Int) 6148914691236517205 = ((ofB l &&& 6148914691236517205 : Nat) : Int) := h3
  rw [h1', h2', h3', wrapA _ _ (by rw [e]; exact hr), e]

theorem st2 (l : List Nat) (hl : l.length = 8) (h : isBy l) (h2 : ∀ b ∈ l, s2 b < 256) :
    IntKind.u64.wrap ((bvop .u64 .and (shr .u64 (ofB l : Int) 2) 3689348814741910323) + (bvop .u64 .and (ofB l : Int) 3689348814741910323)) = (ofB (l.map s2) : Int) := by
  have hlt := lt8 h hl
  have h1 := shrN (ofB l) 2 hlt (by omega)
  have hh2 := andN (ofB l / 2 ^ 2) 3689348814741910323 (Nat.lt_of_le_of_lt (Nat.div_le_self _ _) hlt) w51
  have h3 := andN (ofB l) 3689348814741910323 hlt w51
  have e := step2 l h
  rw [m51 l hl] at e
  have hr : ofB (l.map s2) < 2 ^ 64 := lt8 (isBy_map _ h2) (by simp [hl])
  have p1 : (2 : Nat) ^ 2 = 4 := rfl
  rw [p1] at h1 hh2
  have h1' : shr .u64 (ofB l : Int) 2 = ((ofB l / 4 : Nat) : Int) := h1
  have h2' : bvop .u64 .and ((ofB l / 4 : Nat) : Int) 3689348814741910323 = ((ofB l / 4 &&& 3689348814741910323 : Nat) : Int) := hh2
  have h3' : bvop .u64 .and (ofB l : Int) 3689348814741910323 = ((ofB l &&& 3689348814741910323 : Nat) : Int) := h3
  rw [h1', h2', h3', wrapA _ _ (by rw [e]; exact hr), e]

theorem ofB_le68 : ∀ l : List Nat, (∀ b ∈ l, b ≤ 68) → ofB l ≤ 68 * ofB (l.map fun _ => 1)
  | [], _ => by decide
  | b :: r, h => by
    have hb := h b (by simp)
    have ih := ofB_le68 r fun x hx => h x (by simp [hx])
    simp only [ofB, List.map_cons]
    omega
theorem st3 (l : List Nat) (hl : l.length = 8) (h : ∀ b ∈ l, b % 16 ≤ 4 ∧ b / 16 ≤ 4) :
    bvop .u64 .and (IntKind.u64.wrap ((shr .u64 (ofB l : Int) 4) + (ofB l : Int))) 1085102592571150095 = (ofB (l.map s3) : Int) := by
  have hb : isBy l := fun b hb => by have := h b hb; omega
  have hlt := lt8 hb hl
  have h1 := shrN (ofB l) 4 hlt (by omega)
  have p1 : (2 : Nat) ^ 4 = 16 := rfl
  rw [p1] at h1
  have h1' : shr .u64 (ofB l : Int) 4 = ((ofB l / 16 : Nat) : Int) := h1
  have hle := ofB_le68 l fun b hb => by have := h b hb; omega
  have e1 : ofB (l.map fun _ => 1) = 72340172838076673 := by
    match l, hl with
    | [_, _, _, _, _, _, _, _], _ => simp only [List.map_cons, List.map_nil, ofB]
  rw [e1] at hle
  have hs : ofB l / 16 + ofB l < 2 ^ 64 := by rw [p64]; omega
  have e := step3 l h
  rw [m15 l hl] at e
  have h3 := andN (ofB l / 16 + ofB l) 1085102592571150095 hs w15
  have h3' : bvop .u64 .and ((ofB l / 16 + ofB l : Nat) : Int) 1085102592571150095 = ((ofB l / 16 + ofB l &&& 1085102592571150095 : Nat) : Int) := h3
  rw [h1', wrapA _ _ hs, h3', e]

/-- the last three sums -/
theorem st456 {R : Type} (l : List Nat) (hl : l.length = 8) (h : ∀ b ∈ l, b ≤ 8) (v4 : Int) (hv : v4 = (ofB l : Int)) (K : Int → Option R) :
    (let v5 : Int := (IntKind.u64.wrap ((IntKind.u64.wrap (v4 + (shr .u64 v4 8))) + (shr .u64 (IntKind.u64.wrap (v4 + (shr .u64 v4 8))) 16)))
    let v6 : Int := (bvop .i64 .and (IntKind.i64.wrap (IntKind.u64.wrap (v5 + (shr .u64 v5 32)))) 127)
    K v6) = K (l.sum : Int) := by
  match l, hl with
  | [p0, p1, p2, p3, p4, p5, p6, p7], _ =>
    obtain ⟨x, hx0⟩ : ∃ x, x = ofB [p0, p1, p2, p3, p4, p5, p6, p7] := ⟨_, rfl⟩
    obtain ⟨q, hq0⟩ : ∃ q, q = ofB [p1, p2, p3, p4, p5, p6, p7] := ⟨_, rfl⟩
    obtain ⟨u, hu0⟩ : ∃ u, u = ofB [p2 + p3, p3 + p4, p4 + p5, p5 + p6, p6 + p7, p7] := ⟨_, rfl⟩
    obtain ⟨t, ht0⟩ : ∃ t, t = ofB [p4 + p5 + p6 + p7, p5 + p6 + p7, p6 + p7, p7] := ⟨_, rfl⟩
    have hx : x = p0 + 256 * q := by rw [hx0, hq0]; rfl
    have hq : q = p1 + 256 * (p2 + 256 * (p3 + 256 * (p4 + 256 * (p5 + 256 * (p6 + 256 * p7))))) := by rw [hq0]; simp only [ofB, Nat.mul_zero, Nat.add_zero]
    have hu : u = (p2 + p3) + 256 * ((p3 + p4) + 256 * ((p4 + p5) + 256 * ((p5 + p6) + 256 * ((p6 + p7) + 256 * p7)))) := by rw [hu0]; simp only [ofB, Nat.mul_zero, Nat.add_zero]
    have ht : t = (p4 + p5 + p6 + p7) + 256 * ((p5 + p6 + p7) + 256 * ((p6 + p7) + 256 * p7)) := by rw [ht0]; simp only [ofB, Nat.mul_zero, Nat.add_zero]
    rw [← hx0] at hv
    obtain ⟨y, hy⟩ : ∃ y, y = x + x / 256 := ⟨_, rfl⟩
    obtain ⟨z, hz⟩ : ∃ z, z = y + y / 65536 := ⟨_, rfl⟩
    obtain ⟨b1, b2, b3, b4⟩ := sum8' p0 p1 p2 p3 p4 p5 p6 p7 (h _ (by simp)) (h _ (by simp)) (h _ (by simp)) (h _ (by simp)) (h _ (by simp)) (h _ (by simp)) (h _ (by simp)) (h _ (by simp)) x y z q u t hq hu ht hx hy hz
    clear hq hu ht hx hq0 hu0 ht0 hx0
    subst hv
    have x1 : shr .u64 (x : Int) 8 = ((x / 256 : Nat) : Int) := shrN x 8 (by rw [p64]; omega) (by omega)
    have x2 : IntKind.u64.wrap ((x : Int) + ((x / 256 : Nat) : Int)) = (y : Int) := by rw [wrapA _ _ (by rw [p64]; omega), hy]
    have y1 : shr .u64 (y : Int) 16 = ((y / 65536 : Nat) : Int) := shrN y 16 (by rw [p64]; omega) (by omega)
    have y2 : IntKind.u64.wrap ((y : Int) + ((y / 65536 : Nat) : Int)) = (z : Int) := by rw [wrapA _ _ (by rw [p64]; omega), hz]
    have z1 : shr .u64 (z : Int) 32 = ((z / 4294967296 : Nat) : Int) := shrN z 32 (by rw [p64]; omega) (by omega)
    have z2 : IntKind.u64.wrap ((z : Int) + ((z / 4294967296 : Nat) : Int)) = ((z + z / 4294967296 : Nat) : Int) := wrapA _ _ (by rw [p64]; omega)
    have z3 : IntKind.i64.wrap ((z + z / 4294967296 : Nat) : Int) = ((z + z / 4294967296 : Nat) : Int) := by rw [IntKind.wrap_i64]; omega
    have z4 : bvop .i64 .and ((z + z / 4294967296 : Nat) : Int) 127 = (((z + z / 4294967296) % 128 : Nat) : Int) := by
      have hlt : z + z / 4294967296 < 2 ^ 63 := by have e : (2 : Nat) ^ 63 = 9223372036854775808 := by decide
                                                   rw [e]; omega
      generalize z + z / 4294967296 = w at hlt
      unfold bvop
      simp only [wall_eq]
      have e1 : (BitVec.ofInt IntKind.i64.bits (w : Int) &&& BitVec.ofInt IntKind.i64.bits 127).toNat = w % 128 := by
        rw [BitVec.toNat_and]
        have a1 : (BitVec.ofInt IntKind.i64.bits (w : Int)).toNat = w := by
          simp only [BitVec.ofInt_natCast, BitVec.toNat_ofNat]
          exact Nat.mod_eq_of_lt (Nat.lt_of_lt_of_le hlt (by decide))
        have a2 : (BitVec.ofInt IntKind.i64.bits 127).toNat = 2 ^ 7 - 1 := by decide
        rw [a1, a2, Nat.and_two_pow_sub_one_eq_mod]
      rw [e1, IntKind.wrap_i64]
      omega
    simp only [x1, x2, y1, y2, z1, z2, z3, z4]
    rw [b4]
    congr 2
    simp only [List.sum_cons, List.sum_nil]
    omega

/-- how many bits a word has -/
def cnt (x : Int) : Nat := (List.range 64).countP fun j => bit x j

theorem cnt_le (x : Int) : cnt x ≤ 64 := by
  unfold cnt
  have := List.countP_le_length (p := fun j => bit x j) (l := List.range 64)
  simpa using this

theorem elems_length (s : List Int) (c m : Nat) : (elems s c m).length = (List.range' c m).countP fun b => mem s b := by
  unfold elems
  rw [List.length_map, List.countP_eq_length_filter]

theorem cnt_word (s : List Int) (i : Nat) : (List.range' (64 * i) 64).countP (fun b => mem s b) = cnt (s.getD i 0) := by
  unfold cnt
  rw [List.range'_eq_map_range, List.countP_map]
  apply List.countP_congr
  intro j hj
  have hj := List.mem_range.1 hj
  unfold mem
  simp only [Function.comp]
  rw [show (64 * i + j) / 64 = i by omega, show (64 * i + j) % 64 = j by omega]

theorem elems_cnt (s : List Int) : (elems s 0 256).length = cnt (s.getD 0 0) + (cnt (s.getD 1 0) + (cnt (s.getD 2 0) + cnt (s.getD 3 0))) := by
  rw [elems_length]
  have e : List.range' 0 256 = List.range' (64 * 0) 64 ++ (List.range' (64 * 1) 64 ++ (List.range' (64 * 2) 64 ++ List.range' (64 * 3) 64)) := by decide +kernel
  rw [e, List.countP_append, List.countP_append, List.countP_append, cnt_word, cnt_word, cnt_word, cnt_word]

end Go.Ab.T

/- Sets, by who is in: of a list, of a range, joins, lists. -/
namespace Go.Ab.T
open Go Go.Ab
set_option linter.unusedVariables false
set_option linter.unusedSimpArgs false

theorem ex_set (p : Nat → Bool) : ∀ n, n ≤ 256 → ∃ r, isSet r ∧ ∀ b, mem r b = (decide (b < n) && p b)
  | 0, _ => ⟨List.replicate 4 0, zero_isSet, fun b => by rw [mem_zero]; simp⟩
  | n + 1, h => by
    obtain ⟨r, h1, h2⟩ := ex_set p n (by omega)
    cases hp : p n with
    | false =>
      refine ⟨r, h1, fun b => ?_⟩
      rw [h2]
      by_cases hb : b = n
      · subst hb; simp [hp]
      · have : decide (b < n + 1) = decide (b < n) := decide_eq_decide.2 (by omega)
        rw [this]
    | true =>
      obtain ⟨q1, q2⟩ := put_mem h1 n (by omega)
      refine ⟨_, q1, fun b => ?_⟩
      rw [q2, h2]
      by_cases hb : n = b
      · subst hb; simp [hp]
      · have : decide (b < n + 1) = decide (b < n) := decide_eq_decide.2 (by omega)
        rw [this, decide_eq_false hb, Bool.or_false]

noncomputable def setOf (p : Nat → Bool) : List Int := (ex_set p 256 (Nat.le_refl _)).choose
theorem setOf_isSet (p : Nat → Bool) : isSet (setOf p) := (ex_set p 256 (Nat.le_refl _)).choose_spec.1
theorem mem_setOf (p : Nat → Bool) (b : Nat) (hb : b < 256) : mem (setOf p) b = p b := by
  have := (ex_set p 256 (Nat.le_refl _)).choose_spec.2 b
  rw [decide_eq_true hb, Bool.true_and] at this
  exact this
theorem eq_setOf {s : List Int} (hs : isSet s) {p : Nat → Bool} (h : ∀ b, b < 256 → mem s b = p b) : s = setOf p :=
  set_ext hs (setOf_isSet p) fun b hb => by rw [h b hb, mem_setOf p b hb]
theorem setOf_congr {p q : Nat → Bool} (h : ∀ b, b < 256 → p b = q b) : setOf p = setOf q :=
  eq_setOf (setOf_isSet p) fun b hb => by rw [mem_setOf p b hb, h b hb]
theorem setOf_inj {p q : Nat → Bool} (h : setOf p = setOf q) (b : Nat) (hb : b < 256) : p b = q b := by
  rw [← mem_setOf p b hb, h, mem_setOf q b hb]
theorem setOf_mem {s : List Int} (hs : isSet s) : setOf (mem s) = s := (eq_setOf hs fun _ _ => rfl).symm
theorem zero_setOf : List.replicate 4 (0 : Int) = setOf fun _ => false := eq_setOf zero_isSet fun b _ => mem_zero b

theorem has_s {R : Type} (p : Nat → Bool) (b : Nat) (hb : b < 256) (K : Bool → Option R) : byteset_Has (setOf p) (b : Int) K = K (p b) := by
  rw [has_ok _ (setOf_isSet p) b hb, mem_setOf p b hb]
/-- those that are in, rising -/
def listOf (p : Nat → Bool) : List Int := ((List.range 256).filter p).map fun b : Nat => (b : Int)
theorem elems_setOf (p : Nat → Bool) : elems (setOf p) 0 256 = listOf p := by
  unfold elems listOf
  rw [List.range_eq_range']
  congr 1
  apply List.filter_congr
  intro b hb
  have : b < 256 := by
    rw [List.mem_range'_1] at hb; omega
  exact mem_setOf p b this
theorem list_s {R : Type} (kf : Nat) (hkf : 300 ≤ kf) (p : Nat → Bool) (K : List Int → Option R) : byteset_List kf (setOf p) K = K (listOf p) := by
  rw [list_ok kf hkf _ (setOf_isSet p), elems_setOf]
def aheadP (p q : Nat → Bool) : Prop := ∃ b, b < 256 ∧ p b = true ∧ q b = false ∧ ∀ c, c < b → p c = q c
theorem ahead_setOf (p q : Nat → Bool) : ahead (setOf p) (setOf q) ↔ aheadP p q := by
  unfold ahead aheadP
  constructor
  · rintro ⟨b, hb, h1, h2, h3⟩
    rw [mem_setOf p b hb] at h1
    rw [mem_setOf q b hb] at h2
    exact ⟨b, hb, h1, h2, fun c hc => by have := h3 c hc; rwa [mem_setOf p c (by omega), mem_setOf q c (by omega)] at this⟩
  · rintro ⟨b, hb, h1, h2, h3⟩
    exact ⟨b, hb, by rw [mem_setOf p b hb]; exact h1, by rw [mem_setOf q b hb]; exact h2, fun c hc => by rw [mem_setOf p c (by omega), mem_setOf q c (by omega)]; exact h3 c hc⟩
theorem less_s (kf : Nat) (hkf : 300 ≤ kf) (p q : Nat → Bool) : ∃ r : Bool, (r = true ↔ aheadP p q) ∧ ∀ {R : Type} (K : Bool → Option R), byteset_Less kf (setOf p) (setOf q) K = K r := by
  obtain ⟨r, h1, h2⟩ := less_ok kf (by omega) (setOf_isSet p) (setOf_isSet q)
  exact ⟨r, by rw [h1, ahead_setOf], h2⟩

/-! ### the set of a list -/
def isB (l : List Int) : Prop := ∀ x ∈ l, 0 ≤ x ∧ x ≤ 255
theorem idx64 (y : Nat) (hy : y < 256) : IntKind.u8.wrap (Int.tdiv (y : Int) 64) = ((y / 64 : Nat) : Int) := by
  rw [Int.tdiv_eq_ediv_of_nonneg (by omega), IntKind.wrap_u8]; omega
theorem mod64 (y : Nat) : Int.tmod (y : Int) 64 = ((y % 64 : Nat) : Int) := by
  rw [Int.tmod_eq_emod_of_nonneg (by omega)]; omega

theorem of_step {l : List Int} (hl : isB l) {c : Nat} (hc : c < l.length) {acc : List Int} (h : isSet acc ∧ ∀ b, b < 256 → mem acc b = decide ((b : Int) ∈ l.take c)) :
    ∃ y : Nat, y < 256 ∧ l.getD c 0 = (y : Int) ∧ (isSet (acc.set (y / 64) (bvop .u64 .or (acc.getD (y / 64) 0) (shl .u64 1 ((y % 64 : Nat) : Int)))) ∧
      ∀ b, b < 256 → mem (acc.set (y / 64) (bvop .u64 .or (acc.getD (y / 64) 0) (shl .u64 1 ((y % 64 : Nat) : Int)))) b = decide ((b : Int) ∈ l.take (c + 1))) := by
  obtain ⟨h0, h1⟩ := hl _ (getD_mem l c hc 0)
  obtain ⟨y, hy⟩ := Int.eq_ofNat_of_zero_le h0
  have hy' : y < 256 := by omega
  obtain ⟨p1, p2⟩ := put_mem h.1 y hy'
  refine ⟨y, hy', hy, p1, fun b hb => ?_⟩
  rw [p2, h.2 b hb, take_snoc l c hc 0, hy]
  rw [show decide ((b : Int) ∈ l.take c ++ [(y : Int)]) = (decide ((b : Int) ∈ l.take c) || decide (y = b)) by
    rw [← Bool.decide_or]
    apply decide_eq_decide.2
    rw [List.mem_append, List.mem_singleton]
    constructor
    · rintro (h | h)
      · exact Or.inl h
      · right; omega
    · rintro (h | h)
      · exact Or.inl h
      · right; omega]

theorem rof_s {R : Type} (kf : Nat) (l : List Int) (hl : isB l) (hs : l.length < 1000) (hkf : 2000 ≤ kf) (K : List Int → Option R) : ref1_Of kf l K = K (setOf fun b => decide ((b : Int) ∈ l)) := by
  unfold ref1_Of ref1_Of_b
  refine loop_inv (fun k c acc => ref1_Of_l3 kf k l (List.replicate 4 (0 : Int)) (fun v7 v8 => K v8) (c : Int) acc) _ l.length 0
    (fun c acc => isSet acc ∧ ∀ b, b < 256 → mem acc b = decide ((b : Int) ∈ l.take c)) ?_ ?_ l.length kf 0 (List.replicate 4 (0 : Int)) (by omega) (by omega) ⟨zero_isSet, fun b hb => by rw [mem_zero]; simp⟩
  · rintro k acc ⟨h1, h2⟩
    have hd : decide ((l.length : Int) < (l.length : Int)) = false := decide_eq_false (by omega)
    simp only [ref1_Of_l3, ref1_Of_l3_b, hd, cond_false]
    rw [take_all] at h2
    rw [eq_setOf h1 h2]
  · intro k c acc _ hc h
    left
    obtain ⟨y, hy, he, h2⟩ := of_step hl hc h
    refine ⟨_, h2, ?_⟩
    have hd : decide ((c : Int) < (l.length : Int)) = true := decide_eq_true (by omega)
    have g1 : decide (0 ≤ (c : Int)) = true := decide_eq_true (by omega)
    have g2 : decide (0 ≤ ((y / 64 : Nat) : Int)) = true := decide_eq_true (by omega)
    have g3 : decide (((y / 64 : Nat) : Int) < 4) = true := decide_eq_true (by omega)
    have g4 : decide (0 ≤ ((y % 64 : Nat) : Int)) = true := decide_eq_true (by omega)
    simp only [ref1_Of_l3, ref1_Of_l3_b, hd, cond_true, Int.toNat_natCast, he, idx64 y hy, mod64, g1, g2, g3, g4, gd, wrap_i1 c (show c < 1000000 by omega)]

theorem rhas_s {R : Type} (p : Nat → Bool) (b : Nat) (hb : b < 256) (K : Bool → Option R) : ref1_Has (setOf p) (b : Int) K = K (p b) := by
  have h := shr_eq ((setOf p).getD (b / 64) 0) (b % 64) (by omega) (set_getD (setOf_isSet p) _)
  have g2 : decide (0 ≤ ((b / 64 : Nat) : Int)) = true := decide_eq_true (by omega)
  have g3 : decide (((b / 64 : Nat) : Int) < 4) = true := decide_eq_true (by omega)
  have g4 : decide (0 ≤ ((b % 64 : Nat) : Int)) = true := decide_eq_true (by omega)
  simp only [ref1_Has, ref1_Has_b, idx64 b hb, mod64, g2, g3, g4, gd, cond_true, Int.toNat_natCast, h]
  congr 1
  rw [← mem_setOf p b hb]
  unfold mem bit
  rw [Nat.testBit_eq_decide_div_mod_eq]
  apply decide_eq_decide.2
  generalize ((setOf p).getD (b / 64) 0).toNat / 2 ^ (b % 64) = w
  rw [Int.tmod_eq_emod_of_nonneg (by omega)]
  omega

/-- of a table -/
theorem listOf_isB (p : Nat → Bool) : isB (listOf p) := by
  intro x hx
  unfold listOf at hx
  rw [List.mem_map] at hx
  obtain ⟨b, hb, rfl⟩ := hx
  rw [List.mem_filter, List.mem_range] at hb
  omega
theorem listOf_length (p : Nat → Bool) : (listOf p).length ≤ 256 := by
  unfold listOf
  rw [List.length_map]
  have := List.length_filter_le p (List.range 256)
  simpa using this
theorem mem_listOf (p : Nat → Bool) (b : Nat) : (b : Int) ∈ listOf p ↔ b < 256 ∧ p b = true := by
  unfold listOf
  rw [List.mem_map]
  constructor
  · rintro ⟨c, hc, he⟩
    rw [List.mem_filter, List.mem_range] at hc
    have : c = b := by omega
    subst this; exact hc
  · rintro h
    exact ⟨b, by rw [List.mem_filter, List.mem_range]; exact h, rfl⟩
theorem setOf_listOf (p : Nat → Bool) : (setOf fun b => decide ((b : Int) ∈ listOf p)) = setOf p := by
  apply setOf_congr
  intro b hb
  rw [← Bool.coe_iff_coe, decide_eq_true_iff, mem_listOf]
  simp [hb]

def listTo (p : Nat → Bool) (c : Nat) : List Int := ((List.range c).filter p).map fun b : Nat => (b : Int)
theorem listTo_succ (p : Nat → Bool) (c : Nat) : listTo p (c + 1) = listTo p c ++ (if p c then [(c : Int)] else []) := by
  unfold listTo
  rw [List.range_succ, List.filter_append, List.map_append]
  congr 1
  simp only [List.filter_cons, List.filter_nil]
  split <;> rfl
theorem listTo_length (p : Nat → Bool) (c : Nat) : (listTo p c).length ≤ c := by
  unfold listTo
  rw [List.length_map]
  have := List.length_filter_le p (List.range c)
  simpa using this

theorem where_s {R : Type} (kf : Nat) (hkf : 2000 ≤ kf) (t : List Bool) (p : Nat → Bool) (hp : ∀ b, b < 256 → t.getD b false = p b) (K : List Int → Option R) : ref1_Where kf t K = K (setOf p) := by
  unfold ref1_Where ref1_Where_b
  refine loop_inv (fun k c acc => ref1_Where_l3 kf k t (List.replicate 4 (0 : Int)) (fun (v6 : (List Int)) (v7 : (List Int)) => ref1_Of kf v7 (fun (v8 : (List Int)) => K v8)) (c : Int) acc) _ 256 0
    (fun c acc => acc = listTo p c) ?_ ?_ 256 kf 0 [] (by omega) (by omega) rfl
  · rintro k acc rfl
    simp only [ref1_Where_l3, ref1_Where_l3_b, show decide (((256 : Nat) : Int) < 256) = false from rfl, cond_false]
    have := rof_s kf (listOf p) (listOf_isB p) (by have := listOf_length p; omega) hkf (fun v8 => K v8)
    rw [setOf_listOf] at this
    exact this
  · rintro k c acc _ hc rfl
    left
    refine ⟨_, rfl, ?_⟩
    have hd : decide ((c : Int) < 256) = true := decide_eq_true (by omega)
    have g1 : decide (0 ≤ (c : Int)) = true := decide_eq_true (by omega)
    have hw : IntKind.u8.wrap (c : Int) = (c : Int) := by rw [IntKind.wrap_u8]; omega
    simp only [ref1_Where_l3, ref1_Where_l3_b, hd, g1, gd, cond_true, Int.toNat_natCast, hp c hc, wrap_i1 c (show c < 1000000 by omega), hw]
    rw [listTo_succ]
    cases p c with
    | false => simp only [cond_false, Bool.false_eq_true, if_false, List.append_nil]
    | true =>
      have hlen := listTo_length p c
      have g2 : decide ((listTo p c).length + [(c : Int)].length < SMALL) = true := decide_eq_true (by show _ < 17179869184; simp; omega)
      simp only [cond_true, if_true, g2]

theorem rrange_s {R : Type} (kf : Nat) (hkf : 2000 ≤ kf) (f t : Nat) (hf : f < 256) (ht : t < 256) (K : List Int → Option R) : ref1_Range kf (f : Int) (t : Int) K = K (setOf fun b => decide (f ≤ b ∧ b ≤ t)) := by
  unfold ref1_Range ref1_Range_b
  rw [wrap_i f (by omega)]
  by_cases hle : f ≤ t + 1
  · refine loop_inv (fun k c acc => ref1_Range_l3 kf k (t : Int) (List.replicate 4 (0 : Int)) (fun (v7 : (List Int)) (v8 : (List Bool)) => ref1_Where kf v8 (fun (v9 : (List Int)) => K v9)) (c : Int) acc) _ (t + 1) 0
      (fun c acc => acc.length = 256 ∧ f ≤ c ∧ ∀ b, b < 256 → acc.getD b false = decide (f ≤ b ∧ b < c)) ?_ ?_ (t + 1 - f) kf f (List.replicate 256 false) (by omega) (by omega)
      ⟨List.length_replicate, by omega, fun b hb => by rw [List.getD_eq_getElem?_getD, List.getElem?_replicate, if_pos hb]; symm; apply decide_eq_false; omega⟩
    · rintro k acc ⟨h1, h0, h2⟩
      have hd : decide (((t + 1 : Nat) : Int) ≤ (t : Int)) = false := decide_eq_false (by omega)
      simp only [ref1_Range_l3, ref1_Range_l3_b, wrap_i t (show t < 1000000 by omega), hd, cond_false]
      refine where_s kf hkf acc _ (fun b hb => ?_) _
      rw [h2 b hb]
      apply decide_eq_decide.2
      omega
    · rintro k c acc _ hc ⟨h1, h0, h2⟩
      left
      refine ⟨acc.set c true, ⟨by rw [List.length_set]; exact h1, by omega, fun b hb => ?_⟩, ?_⟩
      · rw [List.getD_eq_getElem?_getD, List.getElem?_set]
        by_cases hcb : c = b
        · subst hcb
          rw [if_pos rfl, if_pos (by omega)]
          symm; apply decide_eq_true; omega
        · rw [if_neg hcb, ← List.getD_eq_getElem?_getD, h2 b hb]
          apply decide_eq_decide.2
          omega
      · have hd : decide ((c : Int) ≤ (t : Int)) = true := decide_eq_true (by omega)
        have g1 : decide (0 ≤ (c : Int)) = true := decide_eq_true (by omega)
        have g2 : decide ((c : Int) < 256) = true := decide_eq_true (by omega)
        simp only [ref1_Range_l3, ref1_Range_l3_b, wrap_i t (show t < 1000000 by omega), hd, cond_true, g1, g2, gd, Int.toNat_natCast, wrap_i1 c (show c < 1000000 by omega)]
  · obtain ⟨k, rfl⟩ : ∃ k, kf = k + 1 := ⟨kf - 1, by omega⟩
    have hd : decide ((f : Int) ≤ (t : Int)) = false := decide_eq_false (by omega)
    simp only [ref1_Range_l3, ref1_Range_l3_b, wrap_i t (show t < 1000000 by omega), hd, cond_false]
    refine where_s (k + 1) hkf _ _ (fun b hb => ?_) _
    rw [List.getD_eq_getElem?_getD, List.getElem?_replicate, if_pos hb]
    symm; apply decide_eq_false; omega

theorem rlist_s {R : Type} (kf : Nat) (hkf : 2000 ≤ kf) (p : Nat → Bool) (K : List Int → Option R) : ref1_List kf (setOf p) K = K (listOf p) := by
  unfold ref1_List ref1_List_b
  refine loop_inv (fun k c acc => ref1_List_l3 kf k (setOf p) (fun (v6 : (List Int)) => K v6) (c : Int) acc) _ 256 0
    (fun c acc => acc = listTo p c) ?_ ?_ 256 kf 0 [] (by omega) (by omega) rfl
  · rintro k acc rfl
    simp only [ref1_List_l3, ref1_List_l3_b, show decide (((256 : Nat) : Int) < 256) = false from rfl, cond_false]
    rfl
  · rintro k c acc _ hc rfl
    left
    refine ⟨_, rfl, ?_⟩
    have hd : decide ((c : Int) < 256) = true := decide_eq_true (by omega)
    have hw : IntKind.u8.wrap (c : Int) = (c : Int) := by rw [IntKind.wrap_u8]; omega
    simp only [ref1_List_l3, ref1_List_l3_b, hd, gd, cond_true, hw, rhas_s p c hc, wrap_i1 c (show c < 1000000 by omega)]
    rw [listTo_succ]
    cases p c with
    | false => simp only [cond_false, Bool.false_eq_true, if_false, List.append_nil]
    | true =>
      have hlen := listTo_length p c
      have g2 : decide ((listTo p c).length + [(c : Int)].length < SMALL) = true := decide_eq_true (by show _ < 17179869184; simp; omega)
      simp only [cond_true, if_true, g2]

theorem ror_s {R : Type} (kf : Nat) (hkf : 2000 ≤ kf) (p q : Nat → Bool) (K : List Int → Option R) : ref1_Or kf (setOf p) (setOf q) K = K (setOf fun b => p b || q b) := by
  unfold ref1_Or ref1_Or_b
  have h1 := listOf_length p
  have h2 := listOf_length q
  rw [rlist_s kf hkf, rlist_s kf hkf, gd_true (decide_eq_true (by show _ < 17179869184; omega)), rof_s kf _ (by
    intro x hx
    rcases List.mem_append.1 hx with h | h
    · exact listOf_isB p x h
    · exact listOf_isB q x h) (by rw [List.length_append]; omega) hkf]
  congr 1
  apply setOf_congr
  intro b hb
  rw [← Bool.coe_iff_coe, decide_eq_true_iff, List.mem_append, mem_listOf, mem_listOf]
  simp [hb]

theorem tab_set {acc : List Bool} {c : Nat} {p : Nat → Bool} (h1 : acc.length = 256) (h2 : ∀ b, b < 256 → acc.getD b false = (decide (b < c) && p b)) :
    (acc.set c (p c)).length = 256 ∧ ∀ b, b < 256 → (acc.set c (p c)).getD b false = (decide (b < c + 1) && p b) := by
  refine ⟨by rw [List.length_set]; exact h1, fun b hb => ?_⟩
  rw [List.getD_eq_getElem?_getD, List.getElem?_set]
  by_cases hcb : c = b
  · subst hcb
    rw [if_pos rfl, if_pos (by omega), decide_eq_true (by omega)]
    rfl
  · rw [if_neg hcb, ← List.getD_eq_getElem?_getD, h2 b hb]
    congr 1
    apply decide_eq_decide.2
    omega
theorem tab_zero (p : Nat → Bool) : (List.replicate 256 false).length = 256 ∧ ∀ b, b < 256 → (List.replicate 256 false).getD b false = (decide (b < 0) && p b) :=
  ⟨List.length_replicate, fun b hb => by rw [List.getD_eq_getElem?_getD, List.getElem?_replicate, if_pos hb]; rfl⟩

theorem rless_s (kf : Nat) (hkf : 2000 ≤ kf) (p q : Nat → Bool) : ∃ r : Bool, (r = true ↔ aheadP p q) ∧ ∀ {R : Type} (K : Bool → Option R), ref1_SetLess kf (setOf p) (setOf q) K = K r := by
  by_cases hex : ∃ b, b < 256 ∧ p b ≠ q b ∧ ∀ c, c < b → p c = q c
  · obtain ⟨b, hb, hne, hlt⟩ := hex
    refine ⟨p b, ?_, fun {R} K => ?_⟩
    · constructor
      · intro h
        exact ⟨b, hb, h, by cases hq : q b with | false => rfl | true => rw [h, hq] at hne; exact absurd rfl hne, hlt⟩
      · rintro ⟨c, hc, h1, h2, h3⟩
        rcases Nat.lt_trichotomy b c with h | h | h
        · exact absurd (h3 b h) hne
        · subst h; exact h1
        · have := hlt c h; rw [h1, h2] at this; cases this
    · unfold ref1_SetLess ref1_SetLess_b
      refine loop_inv (fun k c (_ : Unit) => ref1_SetLess_l2 kf k (setOf p) (setOf q) (fun (v9 : Bool) => K v9) (K false) (c : Int)) _ 256 0
        (fun c _ => c ≤ b) ?_ ?_ 256 kf 0 () (by omega) (by omega) (by omega)
      · intro k _ h; omega
      · intro k c _ _ hc h
        have hd : decide ((c : Int) < 256) = true := decide_eq_true (by omega)
        have hw : IntKind.u8.wrap (c : Int) = (c : Int) := by rw [IntKind.wrap_u8]; omega
        by_cases hcb : c = b
        · right
          subst hcb
          simp only [ref1_SetLess_l2, ref1_SetLess_l2_b, hd, cond_true, hw, rhas_s p c hc, rhas_s q c hc, decide_eq_false hne, Bool.not_false]
        · left
          refine ⟨(), by omega, ?_⟩
          have := hlt c (by omega)
          simp only [ref1_SetLess_l2, ref1_SetLess_l2_b, hd, cond_true, hw, rhas_s p c hc, rhas_s q c hc, decide_eq_true this, Bool.not_true, cond_false, wrap_i1 c (show c < 1000000 by omega)]
  · have heq : ∀ n, n ≤ 256 → ∀ c, c < n → p c = q c := by
      intro n
      induction n with
      | zero => intro _ c hc; omega
      | succ n ih =>
        intro hn c hc
        by_cases h : c = n
        · subst h
          apply Classical.byContradiction
          intro hne
          exact hex ⟨c, by omega, hne, ih (by omega)⟩
        · exact ih (by omega) c (by omega)
    refine ⟨false, ⟨fun h => (nomatch h), ?_⟩, fun {R} K => ?_⟩
    · rintro ⟨c, hc, h1, h2, h3⟩
      have := heq 256 (by omega) c hc
      rw [h1, h2] at this; cases this
    · unfold ref1_SetLess ref1_SetLess_b
      refine loop_inv (fun k c (_ : Unit) => ref1_SetLess_l2 kf k (setOf p) (setOf q) (fun (v9 : Bool) => K v9) (K false) (c : Int)) _ 256 0
        (fun c _ => True) ?_ ?_ 256 kf 0 () (by omega) (by omega) trivial
      · intro k _ h
        simp only [ref1_SetLess_l2, ref1_SetLess_l2_b, show decide (((256 : Nat) : Int) < 256) = false from rfl, cond_false]
      · intro k c _ _ hc h
        have hd : decide ((c : Int) < 256) = true := decide_eq_true (by omega)
        have hw : IntKind.u8.wrap (c : Int) = (c : Int) := by rw [IntKind.wrap_u8]; omega
        left
        refine ⟨(), trivial, ?_⟩
        have := heq 256 (by omega) c hc
        simp only [ref1_SetLess_l2, ref1_SetLess_l2_b, hd, cond_true, hw, rhas_s p c hc, rhas_s q c hc, decide_eq_true this, Bool.not_true, cond_false, wrap_i1 c (show c < 1000000 by omega)]
end Go.Ab.T
