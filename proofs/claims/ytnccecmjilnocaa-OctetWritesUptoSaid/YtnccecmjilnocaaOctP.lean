/- OctP: a part of the proofs of this seat's statements. -/
import Derived.Test.YtnccecmjilnocaaOctTA
import Derived.Laws.BitsLemmas
import Derived.Laws.BitsAllLaws
/- Plain lemmas of loops and lists. -/
namespace Go.Ab.T

/-- a loop that counts up to n: what holds at its head holds on, and at its end (or at a way out) it comes to T -/
theorem loop_inv {α R : Type} (L : Nat → Nat → α → R) (T : R) (n B : Nat) (I : Nat → α → Prop)
    (hexit : ∀ k acc, I n acc → L (k + 1) n acc = T)
    (hstep : ∀ k c acc, B ≤ k → c < n → I c acc → (∃ acc', I (c + 1) acc' ∧ L (k + 1) c acc = L k (c + 1) acc') ∨ L (k + 1) c acc = T) :
    ∀ m k c acc, c + m = n → m + B < k → I c acc → L k c acc = T
  | m, 0, c, acc, _, h, _ => by omega
  | 0, k + 1, c, acc, hc, h, hi => by
    have : c = n := by omega
    subst this
    exact hexit k acc hi
  | m + 1, k + 1, c, acc, hc, h, hi => by
    rcases hstep k c acc (by omega) (by omega) hi with ⟨acc', h1, h2⟩ | h1
    · rw [h2]
      exact loop_inv L T n B I hexit hstep m k (c + 1) acc' (by omega) (by omega) h1
    · exact h1

/-- the same, by what follows -/
theorem loop_all {α R : Type} (L : Nat → Nat → α → R) (T : R) (n B : Nat) (I : Nat → α → Prop)
    (hexit : ∀ k acc, I n acc → L (k + 1) n acc = T)
    (hstep : ∀ k c acc, B ≤ k → c < n → I c acc → (∀ acc', I (c + 1) acc' → L k (c + 1) acc' = T) → L (k + 1) c acc = T) :
    ∀ m k c acc, c + m = n → m + B < k → I c acc → L k c acc = T
  | m, 0, c, acc, _, h, _ => by omega
  | 0, k + 1, c, acc, hc, h, hi => by
    have : c = n := by omega
    subst this
    exact hexit k acc hi
  | m + 1, k + 1, c, acc, hc, h, hi =>
    hstep k c acc (by omega) (by omega) hi fun acc' h' => loop_all L T n B I hexit hstep m k (c + 1) acc' (by omega) (by omega) h'

/-- a loop with a measure -/
theorem loop_meas {α R : Type} (L : Nat → α → R) (T : R) (μ : α → Nat) (B : Nat) (I : α → Prop)
    (hstep : ∀ k acc, B ≤ k → I acc → (∀ acc', I acc' → μ acc' < μ acc → L k acc' = T) → L (k + 1) acc = T) :
    ∀ k acc, μ acc + B < k → I acc → L k acc = T
  | 0, acc, h, _ => by omega
  | k + 1, acc, h, hi => hstep k acc (by omega) hi fun acc' h' hm => loop_meas L T μ B I hstep k acc' (by omega) h'

theorem take_snoc {α : Type} (l : List α) (c : Nat) (h : c < l.length) (d : α) : l.take (c + 1) = l.take c ++ [l.getD c d] := by
  rw [List.take_add_one, List.getD_eq_getElem?_getD, List.getElem?_eq_getElem h]
  rfl
theorem getD_mem {α : Type} (l : List α) (c : Nat) (h : c < l.length) (d : α) : l.getD c d ∈ l := by
  rw [List.getD_eq_getElem?_getD, List.getElem?_eq_getElem h]
  exact List.getElem_mem h
theorem take_all {α : Type} (l : List α) : l.take l.length = l := List.take_length
theorem mem_take {α : Type} {l : List α} {c : Nat} {x : α} (h : x ∈ l.take c) : x ∈ l := List.mem_of_mem_take h
end Go.Ab.T

/- Numbers and texts in bytes: what the printed functions come to. -/
namespace Go.Ab.T
open Go Go.Ab
set_option linter.unusedVariables false
set_option linter.unusedSimpArgs false

def le : Nat → Int → List Int
  | 0, _ => []
  | m + 1, v => v % 256 :: le m (v / 256)
def de : List Int → Int
  | [] => 0
  | x :: r => x + 256 * de r
def isB (l : List Int) : Prop := ∀ x ∈ l, 0 ≤ x ∧ x ≤ 255

theorem le_length : ∀ (m : Nat) (v : Int), (le m v).length = m
  | 0, _ => rfl
  | m + 1, v => by simp [le, le_length m]
theorem le_isB : ∀ (m : Nat) (v : Int), isB (le m v)
  | 0, _ => by intro x hx; cases hx
  | m + 1, v => by
    intro x hx
    rcases List.mem_cons.1 hx with rfl | hx
    · omega
    · exact le_isB m _ x hx
theorem mod_mul_int (v : Int) (h : 0 ≤ v) (c : Nat) : v % (256 * (c : Int)) = v % 256 + 256 * ((v / 256) % (c : Int)) := by
  obtain ⟨n, rfl⟩ := Int.eq_ofNat_of_zero_le h
  have h1 := congrArg (fun k : Nat => (k : Int)) (Nat.mod_mul (x := n) (a := 256) (b := c))
  simp only [Int.natCast_emod, Int.natCast_add, Int.natCast_mul, Int.natCast_ediv] at h1
  exact h1
theorem de_le : ∀ (m : Nat) (v : Int), 0 ≤ v → de (le m v) = v % ((256 ^ m : Nat) : Int)
  | 0, v, _ => by simp [le, de, Int.emod_one]
  | m + 1, v, h => by
    simp only [le, de]
    rw [de_le m (v / 256) (by omega), Nat.pow_succ, Nat.mul_comm (256 ^ m) 256, Int.natCast_mul]
    exact (mod_mul_int v h (256 ^ m)).symm

/-! ### Put -/
theorem shr8 (v : Int) : shr .u64 v 8 = v / 256 := by
  unfold shr
  rw [wall_eq]
  have : (min (8 : Int).toNat IntKind.u64.bits) = 8 := by decide
  rw [this, Int.fdiv_eq_ediv_of_nonneg _ (by decide)]
  rfl

theorem gd_true {R : Type} {b : Bool} (h : b = true) (x : Option R) : gd b x = x := by subst h; rfl

theorem put_l4 {R : Type} (kf : Nat) (n : Int) (hn : n ≤ 8) (K : List Int → Option R) : ∀ (m k : Nat) (i v : Int) (xs : List Int), i + m = n → 0 ≤ i → xs.length + m ≤ 1048576 * 16 → m < k →
    octet_Put_l4 kf k n K v i xs = K (xs ++ le m v)
  | m, 0, i, v, xs, _, _, _, hk => by omega
  | 0, k + 1, i, v, xs, hi, h0, hl, hk => by
    have : decide (i < n) = false := by simp; omega
    simp only [octet_Put_l4, octet_Put_l4_b, this, cond_false, le, List.append_nil]
  | m + 1, k + 1, i, v, xs, hi, h0, hl, hk => by
    have h1 : decide (i < n) = true := by simp; omega
    simp only [octet_Put_l4, octet_Put_l4_b, h1, cond_true]
    rw [gd_true (by simp [SMALL]; omega)]
    have hw : IntKind.i64.wrap (i + 1) = i + 1 := by rw [IntKind.wrap_i64]; omega
    rw [shr8, hw, IntKind.wrap_u8, put_l4 kf n hn K m k (i + 1) (v / 256) _ (by omega) (by omega) (by simp; omega) (by omega)]
    simp [le]

theorem put_ok {R : Type} (kf : Nat) (hkf : 9 ≤ kf) (b : List Int) (v : Int) (n : Nat) (hn : n ≤ 8) (hb : b.length ≤ 1048576 * 8) (K : List Int → Option R) : octet_Put kf b v (n : Int) K = K (b ++ le n v) := by
  have hm : mn (mx (n : Int) 0) 8 = (n : Int) := by
    unfold mn mx
    split <;> split <;> omega
  have hw : IntKind.i64.wrap ((b.length : Int) + (n : Int)) = (b.length : Int) + (n : Int) := by rw [IntKind.wrap_i64]; omega
  unfold octet_Put octet_Put_b
  have g1 : decide (0 ≤ (b.length : Int) + (n : Int)) = true := decide_eq_true (by omega)
  have g2 : decide ((b.length : Int) + (n : Int) < (SMALL : Int)) = true := decide_eq_true (by show _ < ((17179869184 : Nat) : Int); omega)
  have g3 : decide ((List.replicate 0 (0 : Int)).length + b.length < SMALL) = true := decide_eq_true (by show _ < 17179869184; simp; omega)
  rw [hm, hw, gd_true g1, gd_true g2, gd_true g3]
  rw [put_l4 kf n (by omega) _ n kf 0 v _ (by omega) (by omega) (by simp; omega) (by omega)]
  simp

/-! ### Text -/
theorem text_ok {R : Type} (kf : Nat) (hkf : 9 ≤ kf) (b s : List Int) (hb : b.length ≤ 1048576 * 4) (hs : s.length ≤ 1048576 * 4) (K : List Int → Option R) : octet_Text kf b s K = K (b ++ le 2 s.length ++ s) := by
  unfold octet_Text octet_Text_b
  have hw : IntKind.u64.wrap (s.length : Int) = (s.length : Int) := by rw [IntKind.wrap_u64]; omega
  rw [hw]
  have := put_ok kf hkf b (s.length : Int) 2 (by omega) (by omega) (fun v3 => gd (decide (v3.length + s.length < SMALL)) (K (v3 ++ s)))
  rw [show ((2 : Nat) : Int) = 2 from rfl] at this
  rw [this, gd_true]
  simp [SMALL, le_length]
  omega

/-! ### Take -/
theorem or_add (x y : Int) (m : Nat) (hm : m ≤ 64) (z : Int) (hx : x = 2 ^ m * z) (hz : 0 ≤ z) (hx2 : x < 18446744073709551616) (hy : 0 ≤ y) (hy2 : y < 2 ^ m) : bvop .u64 .or x y = x + y := by
  obtain ⟨c, rfl⟩ := Int.eq_ofNat_of_zero_le hz
  obtain ⟨d, rfl⟩ := Int.eq_ofNat_of_zero_le hy
  have hyl : d < 2 ^ m := by exact_mod_cast hy2
  have hx' : x = ((2 ^ m * c : Nat) : Int) := by rw [hx]; push_cast; rfl
  have hxl : 2 ^ m * c < 2 ^ 64 := by
    have : ((2 ^ m * c : Nat) : Int) < 18446744073709551616 := by rw [← hx']; exact hx2
    have e : (2 : Nat) ^ 64 = 18446744073709551616 := by decide
    omega
  have hdl : d < 2 ^ 64 := Nat.lt_of_lt_of_le hyl (Nat.pow_le_pow_right (by omega) hm)
  have hor : (2 ^ m * c ||| d) = 2 ^ m * c + d := (Nat.two_pow_add_eq_or_of_lt hyl c).symm
  have hsum : 2 ^ m * c + d < 2 ^ 64 := by
    rw [← hor]; exact Nat.or_lt_two_pow hxl hdl
  unfold bvop
  simp only [wall_eq]
  rw [hx']
  have e1 : (BitVec.ofInt IntKind.u64.bits ((2 ^ m * c : Nat) : Int) ||| BitVec.ofInt IntKind.u64.bits ((d : Nat) : Int)).toNat = 2 ^ m * c + d := by
    rw [BitVec.toNat_or]
    simp only [BitVec.ofInt_natCast, BitVec.toNat_ofNat]
    have eb : IntKind.u64.bits = 64 := rfl
    rw [eb, Nat.mod_eq_of_lt hxl, Nat.mod_eq_of_lt hdl, hor]
  rw [e1, IntKind.wrap_u64]
  have e : (2 : Nat) ^ 64 = 18446744073709551616 := by decide
  push_cast
  have : ((2 ^ m * c + d : Nat) : Int) < 18446744073709551616 := by omega
  push_cast at this
  have h0 : (0 : Int) ≤ ((2 ^ m * c + d : Nat) : Int) := by omega
  push_cast at h0
  exact Int.emod_eq_of_lt h0 this

theorem shl_ok (a : Int) (j : Nat) (hj : j ≤ 64) (h0 : 0 ≤ a) (h : a * 2 ^ j < 18446744073709551616) : shl .u64 a (j : Int) = a * 2 ^ j := by
  unfold shl
  have : min (j : Int).toNat IntKind.u64.bits = j := by
    have eb : IntKind.u64.bits = 64 := rfl
    rw [eb]; omega
  rw [wall_eq, this, IntKind.wrap_u64]
  refine Int.emod_eq_of_lt (Int.mul_nonneg h0 (Int.pow_nonneg (by decide))) h

theorem take2 {R : Type} (b : List Int) (hb : isB b) (hl : b.length ≤ 1048576 * 16) (K : Int → Int → Option R) : octet_Take b 0 2 K = if b.length < 2 then K 0 2 else K (de (b.take 2)) 0 := by
  have e1 : IntKind.i64.wrap (0 + 2) = 2 := by decide
  by_cases h : b.length < 2
  · rw [if_pos h]
    have h1 : decide ((b.length : Int) < 0) = false := decide_eq_false (by omega)
    have h2 : decide (IntKind.i64.wrap ((b.length : Int) - 0) < 2) = true := decide_eq_true (by rw [IntKind.wrap_i64]; omega)
    simp only [octet_Take, octet_Take_b, h1, h2, cond_false, cond_true, show decide ((0 : Int) < 0) = false from rfl, show decide ((2 : Int) < 0) = false from rfl, show decide ((8 : Int) < 2) = false from rfl]
  · rw [if_neg h]
    have h1 : decide ((b.length : Int) < 0) = false := decide_eq_false (by omega)
    have h2 : decide (IntKind.i64.wrap ((b.length : Int) - 0) < 2) = false := decide_eq_false (by rw [IntKind.wrap_i64]; omega)
    match b, h with
    | x0 :: x1 :: r, _ =>
      have b0 := hb x0 (by simp)
      have b1 := hb x1 (by simp)
      simp only [octet_Take, octet_Take_b, h1, h2, cond_false, cond_true, show decide ((0 : Int) < 0) = false from rfl, show decide ((2 : Int) < 0) = false from rfl, show decide ((8 : Int) < 2) = false from rfl, e1]
      simp only [show decide ((2 : Int) = 8) = false from rfl, show decide ((2 : Int) = 7) = false from rfl, show decide ((2 : Int) = 6) = false from rfl, show decide ((2 : Int) = 5) = false from rfl, show decide ((2 : Int) = 4) = false from rfl, show decide ((2 : Int) = 3) = false from rfl, show decide ((2 : Int) = 2) = true from rfl, cond_false, cond_true]
      have g1 : decide ((2 : Int) ≤ ((x0 :: x1 :: r).length : Int)) = true := by simp; omega
      have el : ((x0 :: x1 :: r).drop (Int.toNat 0)).take (Int.toNat 2 - Int.toNat 0) = [x0, x1] := rfl
      simp only [g1, el, gd, show decide ((0 : Int) ≤ 2) = true from rfl, show decide ((2 : Int) ≤ 2) = true from rfl, show decide ((0 : Int) ≤ 0) = true from rfl, cond_true]
      have w1 : IntKind.u64.wrap x1 = x1 := by rw [IntKind.wrap_u64]; omega
      have w0 : IntKind.u64.wrap x0 = x0 := by rw [IntKind.wrap_u64]; omega
      have q1 : ([x0, x1] : List Int).getD 1 0 = x1 := rfl
      have q0 : ([x0, x1] : List Int).getD 0 0 = x0 := rfl
      have gl1 : decide ((1 : Int) < (([x0, x1] : List Int).length : Int)) = true := rfl
      have gl0 : decide ((0 : Int) < (([x0, x1] : List Int).length : Int)) = true := rfl
      simp only [q1, q0, w1, w0, gl1, gl0, cond_true]
      have s1 : shl .u64 x1 8 = x1 * 2 ^ 8 := shl_ok x1 8 (by omega) b1.1 (by omega)
      rw [s1]
      have p8 : (2 : Int) ^ 8 = 256 := by decide
      have p16 : (2 : Int) ^ 16 = 65536 := by decide
      have o1 : bvop .u64 .or 0 (x1 * 2 ^ 8) = 0 + x1 * 2 ^ 8 := or_add 0 _ 16 (by omega) 0 (by simp) (by omega) (by omega) (by rw [p8]; omega) (by rw [p8, p16]; omega)
      rw [o1]
      have o2 : bvop .u64 .or (0 + x1 * 2 ^ 8) x0 = (0 + x1 * 2 ^ 8) + x0 := or_add _ _ 8 (by omega) x1 (by rw [p8]; omega) b1.1 (by rw [p8]; omega) b0.1 (by rw [p8]; omega)
      rw [o2]
      have : de ((x0 :: x1 :: r).take 2) = (0 + x1 * 2 ^ 8) + x0 := by
        rw [p8]
        show x0 + 256 * (x1 + 256 * 0) = _
        omega
      rw [this]
      simp only [decide_true, cond_true]

/-- a text is read -/
theorem takeText_ok {R : Type} (b : List Int) (hb : isB b) (hl : b.length ≤ 1048576 * 16) (most : Int) (K : Int → Int → List Int → Option R) :
    octet_TakeText b most K = if b.length < 2 then K 0 2 [] else if most < de (b.take 2) then K 0 4 [] else if (b.length : Int) < 2 + de (b.take 2) then K 0 2 [] else K (2 + de (b.take 2)) 0 ((b.drop 2).take (de (b.take 2)).toNat) := by
  unfold octet_TakeText octet_TakeText_b
  rw [take2 b hb hl]
  split
  · simp
  · rename_i h
    obtain ⟨x0, x1, r, rfl⟩ : ∃ x0 x1 r, b = x0 :: x1 :: r := by
      match b, h with
      | x0 :: x1 :: r, _ => exact ⟨x0, x1, r, rfl⟩
      | [x], h => exact absurd (by simp) h
      | [], h => exact absurd (by simp) h
    have b0 := hb x0 (by simp)
    have b1 := hb x1 (by simp)
    obtain ⟨n, hn⟩ : ∃ n, n = de ((x0 :: x1 :: r).take 2) := ⟨_, rfl⟩
    have hn2 : n = x0 + 256 * x1 := by rw [hn]; show x0 + 256 * (x1 + 256 * 0) = _; omega
    rw [← hn]
    have w : IntKind.i64.wrap n = n := by rw [IntKind.wrap_i64]; omega
    have w2 : IntKind.i64.wrap (2 + n) = 2 + n := by rw [IntKind.wrap_i64]; omega
    simp only [w, w2, decide_true, Bool.not_true, cond_false]
    by_cases h1 : most < n
    · simp only [h1, decide_true, cond_true, if_true]
    · simp only [h1, decide_false, cond_false, if_false]
      by_cases h2 : ((x0 :: x1 :: r).length : Int) < 2 + n
      · simp only [h2, decide_true, cond_true, if_true]
      · simp only [h2, decide_false, cond_false, if_false]
        have g1 : decide (0 ≤ 2 + n) = true := decide_eq_true (by omega)
        have g2 : decide (2 + n ≤ ((x0 :: x1 :: r).length : Int)) = true := decide_eq_true (by omega)
        have g3 : decide (2 + n ≤ 2 + n) = true := decide_eq_true (by omega)
        have g4 : decide (2 ≤ 2 + n) = true := decide_eq_true (by omega)
        have e : (2 + n).toNat - 2 = n.toNat := by omega
        have g5 : decide (([] : List Int).length + (((x0 :: x1 :: r).drop 2).take ((2 + n).toNat - 2)).length < SMALL) = true := by
          refine decide_eq_true ?_
          rw [List.length_take, List.length_drop]
          show 0 + _ < 17179869184
          omega
        simp only [g1, g2, g3, g4, g5, gd, cond_true]
        rw [e]
        simp
end Go.Ab.T

/- A twin and what is kept of it: the printed functions. -/
namespace Go.Ab.T
open Go Go.Ab
set_option linter.unusedVariables false
set_option linter.unusedSimpArgs false
set_option maxRecDepth 20000

theorem w3 (n : Nat) (h : n < 4000000000000000000) : IntKind.i64.wrap ((n : Int) + 3) = ((n + 3 : Nat) : Int) := by rw [IntKind.wrap_i64]; omega
theorem w1 (n : Nat) (h : n < 4000000000000000000) : IntKind.i64.wrap ((n : Int) + 1) = ((n + 1 : Nat) : Int) := by rw [IntKind.wrap_i64]; omega
def spare : List Int := [229, 229, 229]
theorem gd_t0 {R : Type} {b : Bool} (h : b = true) (x : Option R) : gd b x = x := by subst h; rfl
theorem twin_l4 {R : Type} (kf : Nat) (b : List Int) (hb : b.length ≤ 1000000) (Ke : List Int → Int → List Int → Option R) : ∀ (m k i : Nat) (v : List Int), i + m = 3 → m < k → v.length = b.length + 3 →
    law0_Twin_l4 kf k b ((b.length + 3 : Nat) : Int) Ke ((b.length + i : Nat) : Int) v = Ke b ((b.length + 3 : Nat) : Int) (v.take (b.length + i) ++ List.replicate m 229)
  | m, 0, i, v, _, h, _ => by omega
  | 0, k + 1, i, v, hi, _, hv => by
    have : i = 3 := by omega
    subst this
    rw [law0_Twin_l4]
    unfold law0_Twin_l4_b
    rw [decide_eq_false (by omega), cond_false, List.take_of_length_le (by omega)]
    simp
  | m + 1, k + 1, i, v, hi, hk, hv => by
    rw [law0_Twin_l4]
    unfold law0_Twin_l4_b
    rw [decide_eq_true (by omega : ((b.length + i : Nat) : Int) < ((b.length + 3 : Nat) : Int)), cond_true, gd_t0 (decide_eq_true (by omega)), gd_t0 rfl, w1 _ (by omega)]
    rw [show b.length + i + 1 = b.length + (i + 1) by omega]
    rw [twin_l4 kf b hb Ke m k (i + 1) _ (by omega) (by omega) (by rw [List.length_set]; exact hv)]
    congr 1
    rw [show Int.toNat ((b.length + i : Nat) : Int) = b.length + i from rfl, show b.length + (i + 1) = (b.length + i) + 1 by omega]
    rw [List.take_succ_eq_append_getElem (by rw [List.length_set]; omega), List.take_set_of_le (Nat.le_refl _), List.getElem_set_self, List.append_assoc]
    rfl
theorem twin_ok {R : Type} (kf : Nat) (hkf : 10 ≤ kf) (b : List Int) (hb : b.length ≤ 1000000) (K : Int → List Int → Option R) : law0_Twin kf b K = K (b.length : Int) (b ++ spare) := by
  have hr : ∀ n : Nat, Int.toNat ((n : Nat) : Int) = n := fun n => rfl
  unfold law0_Twin law0_Twin_b
  rw [w3 _ (by omega), gd_t0 (decide_eq_true (by omega)), gd_t0 (decide_eq_true rfl), gd_t0 (decide_eq_true (by have : SMALL = 17179869184 := rfl; omega))]
  rw [hr, List.length_replicate]
  try dsimp only
  rw [gd_t0 (decide_eq_true rfl)]
  have h := twin_l4 kf b hb (fun v7 v8 v9 => gd (decide (0 ≤ (v7.length : Int))) (gd (decide ((v7.length : Int) ≤ (v9.length : Int))) (K (v7.length : Int) v9))) 3 kf 0 (b.take (b.length + 3) ++ (List.replicate (b.length + 3) (0 : Int)).drop b.length) (by omega) (by omega) (by simp)
  refine h.trans ?_
  have e : (b.take (b.length + 3) ++ (List.replicate (b.length + 3) (0 : Int)).drop b.length).take (b.length + 0) = b := by
    rw [List.take_of_length_le (by omega : b.length ≤ b.length + 3), Nat.add_zero, List.take_left]
  rw [e]
  rw [gd_t0 (decide_eq_true (by omega)), gd_t0 (decide_eq_true (by rw [List.length_append]; omega))]
  rfl
theorem kept_l5 {R : Type} (kf : Nat) (b : List Int) (hb : b.length ≤ 1000000) (Kr : Bool → List Int → Option R) (Ke : List Int → Option R) : ∀ (m k i : Nat), i + m = 3 → m < k →
    law0_Kept_l5 kf k b ((b.length + 3 : Nat) : Int) (b ++ spare) Kr Ke ((b.length + i : Nat) : Int) = Ke (b ++ spare)
  | m, 0, i, _, h => by omega
  | 0, k + 1, i, hi, _ => by
    rw [law0_Kept_l5]
    unfold law0_Kept_l5_b
    rw [w3 _ (by omega), decide_eq_false (by omega), cond_false]
  | m + 1, k + 1, i, hi, hk => by
    rw [law0_Kept_l5]
    unfold law0_Kept_l5_b
    have hg : (b ++ spare).getD (b.length + i) 0 = 229 := by
      rw [List.getD_eq_getElem?_getD, List.getElem?_append_right (by omega), Nat.add_sub_cancel_left]
      match i, (by omega : i < 3) with
      | 0, _ => rfl
      | 1, _ => rfl
      | 2, _ => rfl
    rw [w3 _ (by omega), decide_eq_true (by omega : ((b.length + i : Nat) : Int) < ((b.length + 3 : Nat) : Int)), cond_true, gd_t0 (decide_eq_true (by omega)), gd_t0 rfl]
    rw [show Int.toNat ((b.length + i : Nat) : Int) = b.length + i from rfl, hg]
    rw [show (!decide ((229 : Int) = 229)) = false from rfl, cond_false, w1 _ (by omega), show b.length + i + 1 = b.length + (i + 1) by omega]
    exact kept_l5 kf b hb Kr Ke m k (i + 1) (by omega) (by omega)
theorem kept_ok {R : Type} (kf : Nat) (hkf : 10 ≤ kf) (b : List Int) (hb : b.length ≤ 1000000) (K : Bool → List Int → Option R) : law0_Kept kf (b.length : Int) b (b ++ spare) K = K true (b ++ spare) := by
  have hl : (b ++ spare).length = b.length + 3 := by rw [List.length_append]; rfl
  unfold law0_Kept law0_Kept_b
  try dsimp only
  rw [hl, gd_t0 (decide_eq_true (by omega)), gd_t0 (decide_eq_true (Int.le_refl _)), show Int.toNat (b.length : Int) = b.length from rfl, List.take_left, decide_eq_true rfl, w3 _ (by omega), decide_eq_false (Int.lt_irrefl _)]
  simp only [Bool.not_true, cond_false]
  exact kept_l5 kf b hb K (fun v => K true v) 3 kf 0 (by omega) (by omega)
end Go.Ab.T

/- The reference's numbers and texts. -/
namespace Go.Ab.T
open Go Go.Ab
set_option linter.unusedVariables false
set_option linter.unusedSimpArgs false
set_option maxRecDepth 20000

theorem wu8m (v : Int) (h : 0 ≤ v) : IntKind.u8.wrap (Int.tmod v 256) = v % 256 := by
  rw [Int.tmod_eq_emod_of_nonneg h]
  have h1 := Int.emod_nonneg v (by decide : (256 : Int) ≠ 0)
  have h2 := Int.emod_lt_of_pos v (by decide : (0 : Int) < 256)
  rw [IntKind.wrap_u8]; omega
theorem wu64d (v : Int) (h : 0 ≤ v) (h2 : v < 18446744073709551616) : IntKind.u64.wrap (Int.tdiv v 256) = v / 256 := by
  rw [Int.tdiv_eq_ediv_of_nonneg h, IntKind.wrap_u64]; omega
/-- how many bytes -/
def clip (n : Int) : Nat := (mn (mx n 0) 8).toNat
theorem clip_le (n : Int) : clip n ≤ 8 ∧ mn (mx n 0) 8 = (clip n : Int) := by
  unfold clip mn mx
  split <;> split <;> omega
theorem rput_l3 {R : Type} (n : Int) (kf : Nat) (Ke : List Int → Option R) : ∀ (m k i : Nat) (v : Int) (b : List Int), i + m = clip n → m < k → 0 ≤ v → v < 18446744073709551616 → b.length + m ≤ 16777216 →
    ref1_Put_l3 kf k n Ke v (i : Int) b = Ke (b ++ le m v)
  | m, 0, i, v, b, _, h, _, _, _ => by omega
  | 0, k + 1, i, v, b, hi, _, _, _, _ => by
    have h8 := clip_le n
    rw [ref1_Put_l3]
    unfold ref1_Put_l3_b
    rw [h8.2, decide_eq_false (by omega), cond_false]
    show _ = Ke (b ++ [])
    rw [List.append_nil]
  | m + 1, k + 1, i, v, b, hi, hk, h0, h1, hb => by
    have h8 := clip_le n
    rw [ref1_Put_l3]
    unfold ref1_Put_l3_b
    rw [h8.2, decide_eq_true (by omega), cond_true, gd_t0 (decide_eq_true (by have : SMALL = 17179869184 := rfl; simp; omega)), wu8m v h0, wu64d v h0 h1, w1 i (by omega)]
    rw [rput_l3 n kf Ke m k (i + 1) (v / 256) (b ++ [v % 256]) (by omega) (by omega) (by omega) (by omega) (by simp; omega), List.append_assoc]
    rfl
theorem rput_ok {R : Type} (kf : Nat) (hkf : 10 ≤ kf) (b : List Int) (v n : Int) (h0 : 0 ≤ v) (h1 : v < 18446744073709551616) (hb : b.length ≤ 16000000) (K : List Int → Option R) : ref1_Put kf b v n K = K (b ++ le (clip n) v) := by
  have h8 := clip_le n
  unfold ref1_Put ref1_Put_b
  rw [gd_t0 (decide_eq_true (by have : SMALL = 17179869184 := rfl; simp; omega)), List.nil_append]
  exact rput_l3 n kf K (clip n) kf 0 v b (by omega) (by omega) h0 h1 (by omega)
theorem rtxt_ok {R : Type} (kf : Nat) (hkf : 10 ≤ kf) (b s : List Int) (hb : b.length ≤ 4000000) (hs : s.length ≤ 4000000) (K : List Int → Option R) : ref1_Text kf b s K = K (b ++ le 2 s.length ++ s) := by
  unfold ref1_Text ref1_Text_b
  have hw : IntKind.u64.wrap (s.length : Int) = (s.length : Int) := by rw [IntKind.wrap_u64]; omega
  rw [hw, rput_ok kf hkf b s.length 2 (by omega) (by omega) (by omega), show clip 2 = 2 from rfl, gd_t0 (decide_eq_true (by have : SMALL = 17179869184 := rfl; rw [List.length_append, le_length]; omega))]
end Go.Ab.T

/- octet.Put at any count. -/
namespace Go.Ab.T
open Go Go.Ab
set_option linter.unusedVariables false
theorem put_any {R : Type} (kf : Nat) (hkf : 10 ≤ kf) (b : List Int) (v n : Int) (hb : b.length ≤ 1048576 * 8) (K : List Int → Option R) : octet_Put kf b v n K = K (b ++ le (clip n) v) := by
  have h8 := clip_le n
  have e : octet_Put kf b v n K = octet_Put kf b v ((clip n : Nat) : Int) K := by
    unfold octet_Put octet_Put_b
    rw [h8.2, show mn (mx ((clip n : Nat) : Int) 0) 8 = ((clip n : Nat) : Int) by unfold mn mx; split <;> split <;> omega]
  rw [e]
  exact put_ok kf (by omega) b v (clip n) h8.1 hb K
end Go.Ab.T

/- The law OctetWrites. -/
namespace Go.Ab.T
open Go Go.Ab
set_option linter.unusedVariables false
set_option linter.unusedSimpArgs false
set_option maxRecDepth 20000

theorem begun_ok {R : Type} (kf : Nat) (hkf : 9 ≤ kf) (K : Bool → Option R) : law1_begun kf K = K true := by
  unfold law1_begun law1_begun_b
  have e0 : octet_Take ([9, 1, 2] : List Int) 1 2 = fun (K : Int → Int → Option R) => K (bvop .u64 .or (bvop .u64 .or 0 (shl .u64 2 8)) 1) 0 := by
    funext K; rfl
  have s1 : shl .u64 2 8 = 2 * 2 ^ 8 := shl_ok 2 8 (by omega) (by omega) (by decide)
  have o1 : bvop .u64 .or 0 512 = 0 + 512 := or_add 0 512 16 (by omega) 0 (by decide) (by omega) (by omega) (by omega) (by decide)
  have o2 : bvop .u64 .or 512 1 = 512 + 1 := or_add 512 1 8 (by omega) 2 (by decide) (by omega) (by omega) (by omega) (by decide)
  have p : (2 : Int) * 2 ^ 8 = 512 := by decide
  have e1 : bvop .u64 .or (bvop .u64 .or 0 (shl .u64 2 8)) 1 = 513 := by
    rw [s1, p, o1]; exact o2
  rw [e0]
  simp only [e1]
  have hT : isB ([1, 0, 7, 8] : List Int) := by intro x hx; simp at hx; omega
  rw [takeText_ok _ hT (by decide)]
  have := put_ok kf hkf ([] : List Int) 258 2 (by omega) (by simp) (R := R)
  rw [show ((2 : Nat) : Int) = 2 from rfl] at this
  rw [if_neg (by decide), if_neg (by decide), if_neg (by decide), this]
  rfl

/-- the law -/
theorem writes1_ok {R : Type} (kf : Nat) (hkf : 20 ≤ kf) (b s : List Int) (v n : Int) (hv : 0 ≤ v ∧ v < 18446744073709551616) (K : Bool → Option R) : law1_OctetWrites kf b s v n K = K true := by
  unfold law1_OctetWrites law1_OctetWrites_b
  rw [begun_ok kf (by omega), Bool.not_true, cond_false]
  dsimp only
  by_cases h1 : 4096 < (b.length : Int)
  · rw [decide_eq_true h1]; rfl
  by_cases h2 : 4096 < (s.length : Int)
  · rw [decide_eq_false h1, decide_eq_true h2]; rfl
  have et : ∀ l : List Int, (l ++ spare).take (Int.toNat (l.length : Int)) = l := fun l => by
    rw [show Int.toNat (l.length : Int) = l.length from rfl, List.take_left]
  rw [decide_eq_false h1, decide_eq_false h2, cond_false, cond_false, twin_ok kf (by omega) b (by omega)]
  try dsimp only
  rw [twin_ok kf (by omega) s (by omega)]
  try dsimp only
  rw [et, et, put_any kf (by omega) b v n (by omega), text_ok kf (by omega) b s (by omega) (by omega)]
  try dsimp only
  rw [rput_ok kf (by omega) b v n hv.1 hv.2 (by omega), decide_eq_true rfl, cond_true, rtxt_ok kf (by omega) b s (by omega) (by omega), decide_eq_true rfl, cond_true]
  rw [kept_ok kf (by omega) b (by omega), cond_true, kept_ok kf (by omega) s (by omega), cond_true, kept_ok kf (by omega) b (by omega), cond_true, kept_ok kf (by omega) s (by omega)]
end Go.Ab.T
