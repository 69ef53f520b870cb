/- ImG2: a part of the proofs of this seat's statements. -/
import Derived.Test.YtdoaclnnkeonkaaDoorImaTA
import Derived.Laws.BitsLemmas
import Derived.Laws.BitsAllLaws
import Derived.Test.YtdoaclnnkeonkaaDoorImG1
/- Numbers and texts in bytes: what the printed functions come to. -/
namespace Go.Ab.T
open Go Go.Ab
set_option linter.unusedVariables false
set_option linter.unusedSimpArgs false
def de : List Int → Int
 | [] => 0
 | x :: r => x + 256 * de r
def isB (l : List Int) : Prop := ∀ x ∈ l, 0 ≤ x ∧ x ≤ 255
theorem or_add (x y : Int) (m : Nat) (hm : m ≤ 64) (z : Int) (hx : x = 2 ^ m * z) (hz : 0 ≤ z) (hx2 : x < 18446744073709551616) (hy : 0 ≤ y) (hy2 : y < 2 ^ m) : bvop .u64 .or x y = x + y := by
 obtain ⟨c, rfl⟩ := Int.eq_ofNat_of_zero_le hz
 obtain ⟨d, rfl⟩ := Int.eq_ofNat_of_zero_le hy
 have hyl : d < 2 ^ m := by exact_mod_cast hy2
 have hx' : x = ((2 ^ m * c : Nat) : Int) := by rw [hx]; push_cast; rfl
 have hxl : 2 ^ m * c < 2 ^ 64 := by
  have : ((2 ^ m * c : Nat) : Int) < 18446744073709551616 := by rw [← hx']; exact hx2
  have e : (2 : Nat) ^ 64 = 18446744073709551616 := by decide
  omega
 have hdl : d < 2 ^ 64 := Nat.lt_of_lt_of_le hyl (Nat.pow_le_pow_right (by omega) hm)
 have hor : (2 ^ m * c ||| d) = 2 ^ m * c + d := (Nat.two_pow_add_eq_or_of_lt hyl c).symm
 have hsum : 2 ^ m * c + d < 2 ^ 64 := by
  rw [← hor]; exact Nat.or_lt_two_pow hxl hdl
 unfold bvop
 simp only [wall_eq]
 rw [hx']
 have e1 : (BitVec.ofInt IntKind.u64.bits ((2 ^ m * c : Nat) : Int) ||| BitVec.ofInt IntKind.u64.bits ((d : Nat) : Int)).toNat = 2 ^ m * c + d := by
  rw [BitVec.toNat_or]
  simp only [BitVec.ofInt_natCast, BitVec.toNat_ofNat]
  have eb : IntKind.u64.bits = 64 := rfl
  rw [eb, Nat.mod_eq_of_lt hxl, Nat.mod_eq_of_lt hdl, hor]
 rw [e1, IntKind.wrap_u64]
 have e : (2 : Nat) ^ 64 = 18446744073709551616 := by decide
 push_cast
 have : ((2 ^ m * c + d : Nat) : Int) < 18446744073709551616 := by omega
 push_cast at this
 have h0 : (0 : Int) ≤ ((2 ^ m * c + d : Nat) : Int) := by omega
 push_cast at h0
 exact Int.emod_eq_of_lt h0 this
end Go.Ab.T

/- Numbers are read, whatever their size. -/
namespace Go.Ab.T
open Go Go.Ab
set_option linter.unusedVariables false
set_option linter.unusedSimpArgs false
theorem or0 (a z x : Int) (ha : a = 256 * z) (hz : 0 ≤ z ∧ z < 72057594037927936) (hx : 0 ≤ x ∧ x ≤ 255) : bvop .u64 .or a x = 1 * (x + 256 * z) := by
 have pm : (2 : Int) ^ 8 = 256 := by decide
 rw [or_add a x 8 (by omega) z (by rw [pm]; exact ha) hz.1 (by omega) (by omega) (by rw [pm]; omega)]
 omega
theorem take_1 {R : Type} (b : List Int) (p : Nat) (hb : isB b) (hl : b.length ≤ 1048576 * 16) (h : p + 1 ≤ b.length) (K : Int → Int → Option R) : yy23 b p 1 K = K (de ((b.drop p).take 1)) 0 := by
 have hw : IntKind.i64.wrap ((p : Int) + 1) = (p : Int) + 1 := by rw [IntKind.wrap_i64]; omega
 have a1 : decide ((p : Int) < 0) = false := decide_eq_false (by omega)
 have a2 : decide ((b.length : Int) < (p : Int)) = false := decide_eq_false (by omega)
 have a3 : decide (IntKind.i64.wrap ((b.length : Int) - (p : Int)) < 1) = false := decide_eq_false (by rw [IntKind.wrap_i64]; omega)
 have g1 : decide (0 ≤ (p : Int) + 1) = true := decide_eq_true (by omega)
 have g2 : decide ((p : Int) + 1 ≤ (b.length : Int)) = true := decide_eq_true (by omega)
 have g3 : decide ((p : Int) + 1 ≤ (p : Int) + 1) = true := decide_eq_true (by omega)
 have g4 : decide (0 ≤ (p : Int)) = true := decide_eq_true (by omega)
 have g5 : decide ((p : Int) ≤ (p : Int) + 1) = true := decide_eq_true (by omega)
 have t1 : Int.toNat ((p : Int) + 1) - p = 1 := by omega
 have t2 : Int.toNat (p : Int) = p := by omega
 obtain ⟨l, hll⟩ : ∃ l, l = (b.drop p).take 1 := ⟨_, rfl⟩
 have hlen : l.length = 1 := by rw [hll, List.length_take, List.length_drop]; omega
 have hB : isB l := by intro x hx; rw [hll] at hx; exact hb x (List.mem_of_mem_drop (List.mem_of_mem_take hx))
 unfold yy23 yy23_b
 simp only [a1, a2, a3, hw, g1, g2, g3, g4, g5, gd, t1, t2, ← hll, cond_true, cond_false, show decide ((1 : Int) < 0) = false from rfl, show decide ((8 : Int) < 1) = false from rfl]
 match l, hlen, hB with
 | [x0], _, hB =>
  have b0 := hB x0 (by simp)
  have w0 : IntKind.u64.wrap x0 = x0 := by rw [IntKind.wrap_u64]; omega
  simp only [show decide ((1 : Int) = 8) = false from rfl, show decide ((1 : Int) = 7) = false from rfl, show decide ((1 : Int) = 6) = false from rfl, show decide ((1 : Int) = 5) = false from rfl, show decide ((1 : Int) = 4) = false from rfl, show decide ((1 : Int) = 3) = false from rfl, show decide ((1 : Int) = 2) = false from rfl, show decide ((1 : Int) = 1) = true from rfl, show decide ((0 : Int) < (([x0] : List Int).length : Int)) = true from rfl, show ([x0] : List Int).getD 0 0 = x0 from rfl, w0, cond_true, cond_false, decide_true]
  rw [or0 0 (0) x0 (by omega) (by omega) b0]
  congr 1
  simp only [de]
  omega
end Go.Ab.T

/- Images: a byte that is read. -/
namespace Go.Ab.T
open Go Go.Ab
set_option linter.unusedVariables false
set_option linter.unusedSimpArgs false
abbrev BADI (k : Int) : Err := Err.wrap 110 [] (Err.leaf 67 [k]) []
def rb (f t : Int) : List Int → Int × Err × List Int
 | [] => (0, BADI 2, [])
 | x :: r => bif decide (x < f) || decide (t < x) then (0, BADI 3, r) else (x, .nil, r)
theorem byte_ok {R : Type} (f t : Int) (b : List Int) (hb : isB b) (hl : b.length ≤ 1048576) (K : Int → Err → List Int → Option R) :
  yy4 f t b K = K (rb f t b).1 (rb f t b).2.1 (rb f t b).2.2 := by
 unfold yy4 yy4_b yy3 yy3_b
 cases b with
 | nil => unfold yy23 yy23_b; rfl
 | cons x r =>
  have hx := hb x (by simp)
  have := take_1 (x :: r) 0 hb (by omega) (by simp) (fun v4 v5 => bif (!(decide (v5 = 0))) then K 0 (BADI 2) (x :: r) else gd (decide (1 ≤ ((x :: r).length : Int))) (bif decide (IntKind.i64.wrap v4 < f) then K 0 (BADI 3) ((x :: r).drop 1) else bif decide (t < IntKind.i64.wrap v4) then K 0 (BADI 3) ((x :: r).drop 1) else K (IntKind.i64.wrap v4) Err.nil ((x :: r).drop 1)))
  have hd : de (((x :: r).drop 0).take 1) = x := by show de [x] = x; simp only [de]; omega
  rw [hd, show IntKind.i64.wrap x = x by rw [IntKind.wrap_i64]; omega] at this
  dsimp only
  have e0 : ((0 : Nat) : Int) = 0 := rfl
  rw [e0] at this
  have fin : (bif (!(decide ((0 : Int) = 0))) then K 0 (BADI 2) (x :: r) else gd (decide (1 ≤ ((x :: r).length : Int))) (bif decide (x < f) then K 0 (BADI 3) ((x :: r).drop 1) else bif decide (t < x) then K 0 (BADI 3) ((x :: r).drop 1) else K x Err.nil ((x :: r).drop 1))) = K (rb f t (x :: r)).1 (rb f t (x :: r)).2.1 (rb f t (x :: r)).2.2 := by
   rw [show (!(decide ((0 : Int) = 0))) = false from rfl, cond_false, gd_true (decide_eq_true (by simp; omega))]
   rw [show rb f t (x :: r) = (bif decide (x < f) || decide (t < x) then (0, BADI 3, r) else (x, .nil, r)) from rfl]
   cases decide (x < f) <;> cases decide (t < x) <;> rfl
  rw [← fin, ← this]
  congr 1
end Go.Ab.T

/- Images: what is written. -/
namespace Go.Ab.T
open Go Go.Ab
set_option linter.unusedVariables false
set_option linter.unusedSimpArgs false
def b8 (x : Int) : Int := IntKind.u8.wrap x
def cellI (C : List Int) (b : Nat) : List Int := bif decide (b = 255) || !decide (C.getD (b + 1) 0 = C.getD b 0) then [b8 b, C.getD b 0] else []
def runsI (C : List Int) (i n : Nat) : List Int := (List.range' i n).flatMap (cellI C)
theorem cellI_len (C : List Int) (b : Nat) : (cellI C b).length ≤ 2 := by unfold cellI; cases decide (b = 255) || !decide (C.getD (b + 1) 0 = C.getD b 0) <;> simp
theorem wi1i (n : Nat) (h : n < 4000000000000000000) : IntKind.i64.wrap ((n : Int) + 1) = ((n + 1 : Nat) : Int) := by rw [IntKind.wrap_i64]; omega
theorem put_l7 {R : Type} (kf : Nat) (C : List Int) (N : List (List Int)) (E : List Bool) (Ke : List Int → List (List Int) → List Bool → List Int → Option R) : ∀ (m k i : Nat) (acc : List Int), i + m = 256 → m < k → acc.length ≤ 2 * i →
  yy0_l7 kf k C N E Ke (i : Int) acc = Ke C N E (acc ++ runsI C i m)
 | m, 0, i, acc, _, h, _ => by omega
 | 0, k + 1, i, acc, hi, _, _ => by
  have : decide ((i : Int) < 256) = false := decide_eq_false (by omega)
  unfold yy0_l7 yy0_l7_b
  rw [this, cond_false]; simp [runsI]
 | m + 1, k + 1, i, acc, hi, hk, ha => by
  have g1 : decide ((i : Int) < 256) = true := decide_eq_true (by omega)
  have g2 : decide (0 ≤ (i : Int)) = true := decide_eq_true (by omega)
  have ih := fun acc h => put_l7 kf C N E Ke m k (i + 1) acc (by omega) (by omega) h
  have hr : runsI C i (m + 1) = cellI C i ++ runsI C (i + 1) m := by unfold runsI; rw [List.range'_succ, List.flatMap_cons]
  have hc := cellI_len C i
  have g3 : decide (acc.length + ([IntKind.u8.wrap (i : Int), C.getD (Int.toNat (i : Int)) 0] : List Int).length < SMALL) = true := decide_eq_true (by show _ < 17179869184; simp; omega)
  unfold yy0_l7 yy0_l7_b
  dsimp only
  rw [g1, g2, g3, cond_true, gd_true rfl, gd_true rfl, gd_true rfl, gd_true rfl, gd_true rfl, wi1i i (by omega), hr, ← List.append_assoc]
  rw [show Int.toNat (i : Int) = i from rfl, show Int.toNat ((i + 1 : Nat) : Int) = i + 1 from rfl]
  have e1 : (IntKind.u8.wrap (i : Int)) = b8 i := rfl
  rw [e1, ih (acc ++ [b8 i, C.getD i 0]) (by simp; omega), ih acc (by omega)]
  by_cases h : i = 255
  ·rw [decide_eq_true (by omega : (i : Int) = 255), cond_true, cond_true]
   unfold cellI
   rw [decide_eq_true h]; rfl
  ·rw [decide_eq_false (by omega : ¬ (i : Int) = 255), cond_false, gd_true (decide_eq_true (by omega)), gd_true (decide_eq_true (by omega))]
   unfold cellI
   rw [decide_eq_false h, Bool.false_or]
   cases decide (C.getD (i + 1) 0 = C.getD i 0) with
   | true => rw [Bool.not_true, cond_false, cond_false, List.append_nil]
   | false => rfl
theorem put_l22 {R : Type} (kf : Nat) (N : List (List Int)) (v26 v27 : Int) (row C : List Int) (N' : List (List Int)) (E : List Bool) (hr : row.length ≤ 1000000) (Ke : List (List Int) → Int → Int → List Int → List (List Int) → List Bool → List Int → Option R) : ∀ (m k i : Nat) (acc : List Int), i + m = row.length → m < k → acc.length ≤ 1000000000 + i →
  yy0_l22 kf k N v26 v27 row (row.length : Int) C N' E Ke (i : Int) acc = Ke N v26 v27 C N' E (acc ++ (row.drop i).map b8)
 | m, 0, i, acc, _, h, _ => by omega
 | 0, k + 1, i, acc, hi, _, _ => by
  have : decide ((i : Int) < (row.length : Int)) = false := decide_eq_false (by omega)
  unfold yy0_l22 yy0_l22_b
  rw [this, cond_false, List.drop_eq_nil_of_le (by omega)]; simp
 | m + 1, k + 1, i, acc, hi, hk, ha => by
  have g1 : decide ((i : Int) < (row.length : Int)) = true := decide_eq_true (by omega)
  have g2 : decide (0 ≤ (i : Int)) = true := decide_eq_true (by omega)
  have hli : i < row.length := by omega
  unfold yy0_l22 yy0_l22_b
  rw [g1, g2, cond_true, gd_true rfl, gd_true rfl, gd_true (decide_eq_true (by show _ < 17179869184; simp; omega)), wi1i i (by omega), show Int.toNat (i : Int) = i from rfl]
  rw [put_l22 kf N v26 v27 row C N' E hr Ke m k (i + 1) _ (by omega) (by omega) (by simp; omega), List.drop_eq_getElem_cons hli, List.map_cons]
  rw [show row.getD i 0 = row[i] by rw [List.getD_eq_getElem?_getD, List.getElem?_eq_getElem hli]; rfl]
  simp [b8]
end Go.Ab.T

/- Images: what is written, whole. -/
namespace Go.Ab.T
open Go Go.Ab
set_option linter.unusedVariables false
set_option linter.unusedSimpArgs false
def rowI (N : List (List Int)) (E : List Bool) (s : Nat) : List Int := (bif E.getD s false then 1 else 0) :: (N.getD s []).map b8
def rowsI (N : List (List Int)) (E : List Bool) (i n : Nat) : List Int := (List.range' i n).flatMap (rowI N E)
theorem put_l15 {R : Type} (kf : Nat) (C : List Int) (N : List (List Int)) (E : List Bool) (hE : E.length = N.length) (hl : N.length ≤ 100) (hr : ∀ s, (N.getD s []).length ≤ 256) (Ke : List Int → Option R) : ∀ (m k i : Nat) (acc : List Int), i + m = N.length → m + 300 < k → acc.length ≤ 1000 + i * 257 →
  yy0_l15 kf k Ke N (N.length : Int) (i : Int) C N E acc = Ke (acc ++ rowsI N E i m)
 | m, 0, i, acc, _, h, _ => by omega
 | 0, k + 1, i, acc, hi, _, _ => by
  have : decide ((i : Int) < (N.length : Int)) = false := decide_eq_false (by omega)
  unfold yy0_l15 yy0_l15_b
  rw [this, cond_false]; simp [rowsI]
 | m + 1, k + 1, i, acc, hi, hk, ha => by
  have g1 : decide ((i : Int) < (N.length : Int)) = true := decide_eq_true (by omega)
  have g2 : decide (0 ≤ (i : Int)) = true := decide_eq_true (by omega)
  have g3 : decide ((i : Int) < (E.length : Int)) = true := decide_eq_true (by omega)
  have hs := hr i
  unfold yy0_l15 yy0_l15_b
  dsimp only
  rw [g1, g2, g3, cond_true, gd_true rfl, gd_true rfl, gd_true rfl, gd_true rfl, show Int.toNat (i : Int) = i from rfl]
  have step : ∀ x : Int, (gd (decide (acc.length + ([x] : List Int).length < SMALL)) (yy0_l22 kf k N (N.length : Int) (i : Int) (N.getD i []) ((N.getD i []).length : Int) C N E
     (fun (v35 : (List (List Int))) (v36 : Int) (v37 : Int) (v38 : (List Int)) (v39 : (List (List Int))) (v40 : (List Bool)) (v41 : (List Int)) =>
     yy0_l15 kf k Ke v35 v36 (IntKind.i64.wrap (v37 + 1)) v38 v39 v40 v41) 0 (acc ++ ([x] : List Int)))) = Ke (acc ++ (x :: (N.getD i []).map b8) ++ rowsI N E (i + 1) m) := by
   intro x
   rw [gd_true (decide_eq_true (by show _ < 17179869184; simp; omega))]
   refine (put_l22 kf N (N.length : Int) (i : Int) (N.getD i []) C N E (by omega) _ (N.getD i []).length k 0 _ (by omega) (by omega) (by simp; omega)).trans ?_
   rw [wi1i i (by omega), put_l15 kf C N E hE hl hr Ke m k (i + 1) _ (by omega) (by omega) (by simp only [List.length_append, List.length_cons, List.length_map, List.length_drop, List.length_nil]; omega), List.drop_zero]
   simp only [List.append_assoc, List.cons_append, List.nil_append]
  have hrow : rowsI N E i (m + 1) = rowI N E i ++ rowsI N E (i + 1) m := by unfold rowsI; rw [List.range'_succ, List.flatMap_cons]
  rw [hrow, ← List.append_assoc]
  unfold rowI
  cases E.getD i false with
  | true => rw [cond_true, cond_true]; exact step 1
  | false => rw [cond_false, cond_false]; exact step 0
def imgI (C : List Int) (N : List (List Int)) (E : List Bool) (m : Nat) : List Int :=
 [b8 N.length, b8 (m - 1 : Int), b8 ((runsI C 0 256).length / 2 - 1 : Int)] ++ runsI C 0 256 ++ rowsI N E 0 N.length
theorem runsI_len (C : List Int) : ∀ (n i : Nat), (runsI C i n).length ≤ 2 * n
 | 0, i => by simp [runsI]
 | n + 1, i => by
  have hr : runsI C i (n + 1) = cellI C i ++ runsI C (i + 1) n := by unfold runsI; rw [List.range'_succ, List.flatMap_cons]
  rw [hr, List.length_append]
  have := cellI_len C i
  have := runsI_len C n (i + 1)
  omega
theorem put_img {R : Type} {C : List Int} {N : List (List Int)} {E : List Bool} {k m : Nat} (h : Mch C N E k m) (kf : Nat) (hkf : 20000 ≤ kf) (hk : N.length ≤ 20) (hE : E.length = N.length) (hr : ∀ s, (N.getD s []).length ≤ 256) (hm : m ≤ 256)
  (hc : ∀ K : Int → Option R, yy17 kf C N E K = K (m : Int)) (hIs : ∀ K : Bool → Option R, yy11 kf C N E K = K true) (K : Int → List Int → Option R) : yy0 kf C N E K = K 0 (imgI C N E m) := by
 unfold yy0 yy0_b
 rw [hIs, Bool.not_true, cond_false, decide_eq_false (by omega : ¬ (20 : Int) < (N.length : Int)), cond_false]
 refine (put_l7 kf C N E _ 256 kf 0 [] (by omega) (by omega) (by simp)).trans ?_
 rw [hc, List.nil_append]
 have hl := runsI_len C 256 0
 rw [gd_true (decide_eq_true (by show _ < 17179869184; simp; omega))]
 refine (put_l15 kf C N E hE (by omega) hr _ N.length kf 0 _ (by omega) (by omega) (by simp; omega)).trans ?_
 unfold imgI b8
 rw [show IntKind.i64.wrap ((m : Int) - 1) = (m : Int) - 1 by rw [IntKind.wrap_i64]; omega]
 rw [show IntKind.i64.wrap (Int.tdiv ((runsI C 0 256).length : Int) 2) = (((runsI C 0 256).length / 2 : Nat) : Int) by rw [show Int.tdiv ((runsI C 0 256).length : Int) 2 = (((runsI C 0 256).length / 2 : Nat) : Int) from rfl, IntKind.wrap_i64]; omega]
 rw [show IntKind.i64.wrap ((((runsI C 0 256).length / 2 : Nat) : Int) - 1) = (((runsI C 0 256).length / 2 : Nat) : Int) - 1 by rw [IntKind.wrap_i64]; omega]
 simp only [List.append_assoc]
 rfl
theorem rows_len {C : List Int} {N : List (List Int)} {E : List Bool} {k m : Nat} (h : Mch C N E k m) (s : Nat) : (N.getD s []).length ≤ 256 := by
 have h2 := h.m2
 by_cases hs : s < k
 ·rw [(h.row s hs).1]; exact h2
 ·have := h.nl
  rw [List.getD_eq_getElem?_getD, List.getElem?_eq_none (by omega)]; simp
theorem classesC_ok {R : Type} {C : List Int} {N : List (List Int)} {E : List Bool} {k m : Nat} (h : Mch C N E k m) (kf : Nat) (hkf : 20000 ≤ kf) (K : Int → Option R) : yy17 kf C N E K = K (m : Int) := by
 unfold yy17 yy17_b
 rw [may_ok h kf (by omega), Bool.not_true, cond_false, classes_ok h kf (by omega)]
theorem put_canon {R : Type} {C : List Int} {N : List (List Int)} {E : List Bool} {n m : Nat} (hc : Canon C N E n m) (hn : n ≤ 20) (kf : Nat) (hkf : 20000 ≤ kf) (K : Int → List Int → Option R) : yy0 kf C N E K = K 0 (imgI C N E m) := by
 have h := hc.mch
 have h1 := h.nl
 have h2 := h.el
 exact put_img h kf hkf (by omega) (by omega) (rows_len h) h.m2 (classesC_ok h kf hkf) (fun K => is_canon hc kf hkf K) K
theorem is_not {R : Type} {C : List Int} {N : List (List Int)} {E : List Bool} {k m : Nat} (h : Mch C N E k m) (hn : ¬ ∃ n' m', Canon C N E n' m') (kf : Nat) (hkf : 20000 ≤ kf) (K : Bool → Option R) : yy11 kf C N E K = K false := by
 refine is_ok h kf hkf K _ fun C' N' E' n' m' _ hg hc' _ _ _ => ?_
 have : decide (C' = C ∧ E' = E ∧ N' = N) = false := decide_eq_false fun ⟨h1, h2, h3⟩ => hn ⟨n', m', by subst h1 h2 h3; exact hc' hg⟩
 rw [this]
end Go.Ab.T

/- Images: rows that are read. -/
namespace Go.Ab.T
open Go Go.Ab
set_option linter.unusedVariables false
set_option linter.unusedSimpArgs false
theorem wi1j (n : Nat) (h : n < 4000000000000000000) : IntKind.i64.wrap ((n : Int) + 1) = ((n + 1 : Nat) : Int) := by rw [IntKind.wrap_i64]; omega
def IbI (b : List Int) : Prop := isB b ∧ b.length ≤ 1048576
theorem rb_inv {f t : Int} {b : List Int} (h : IbI b) : IbI (rb f t b).2.2 := by
 cases b with
 | nil => exact h
 | cons x r =>
  have h2 : IbI r := ⟨fun y hy => h.1 y (by simp [hy]), by have := h.2; simp at this; omega⟩
  rw [show rb f t (x :: r) = (bif decide (x < f) || decide (t < x) then (0, BADI 3, r) else (x, .nil, r)) from rfl]
  cases decide (x < f) || decide (t < x) <;> exact h2
def rrow (n : Int) : Nat → List Int → List Int → Err × List Int × List Int
 | 0, b, acc => (.nil, b, acc)
 | m + 1, b, acc => bif !(Err.isNil (rb 0 (n - 1) b).2.1) then ((rb 0 (n - 1) b).2.1, (rb 0 (n - 1) b).2.2, acc) else rrow n m (rb 0 (n - 1) b).2.2 (acc ++ [(rb 0 (n - 1) b).1])
theorem rl17_ok {R : Type} (kf : Nat) (n v23 v24 v25 v26 : Int) (hn : 1 ≤ n ∧ n ≤ 20) (c : Nat) (hc : c ≤ 256) (v30 : List Int) (v32 : List (List Int)) (v33 : List Bool)
  (Kr : Err → Int → Int → Int → Int → Int → List Int → List Int → List Int → List (List Int) → List Bool → Option R) (Ke : Int → Int → Int → Int → Int → List Int → List Int → List Int → List (List Int) → List Bool → Option R) :
  ∀ (m k i : Nat) (b acc : List Int), i + m = c → m < k → IbI b → acc.length ≤ i →
  yy5_l17 kf k n v23 v24 v25 v26 (c : Int) v30 v32 v33 Kr Ke (i : Int) b acc = (let x := rrow n m b acc; bif !(Err.isNil x.1) then Kr x.1 n v23 v24 v25 v26 x.2.1 v30 x.2.2 v32 v33 else Ke n v23 v24 v25 v26 x.2.1 v30 x.2.2 v32 v33)
 | m, 0, i, b, acc, _, h, _, _ => by omega
 | 0, k + 1, i, b, acc, hi, _, _, _ => by
  have : decide ((i : Int) < (c : Int)) = false := decide_eq_false (by omega)
  unfold yy5_l17 yy5_l17_b
  rw [this, cond_false]; rfl
 | m + 1, k + 1, i, b, acc, hi, hk, hb, ha => by
  have g1 : decide ((i : Int) < (c : Int)) = true := decide_eq_true (by omega)
  unfold yy5_l17 yy5_l17_b rrow
  rw [g1, cond_true, show IntKind.i64.wrap (n - 1) = n - 1 by rw [IntKind.wrap_i64]; omega, byte_ok 0 (n - 1) b hb.1 hb.2]
  have hb' := rb_inv (f := 0) (t := n - 1) hb
  cases he : Err.isNil (rb 0 (n - 1) b).2.1 with
  | false => simp only [Bool.not_false, cond_true, he]
  | true =>
   simp only [Bool.not_true, cond_false]
   rw [gd_true (decide_eq_true (by show _ < 17179869184; simp; omega)), wi1j i (by omega)]
   exact rl17_ok kf n v23 v24 v25 v26 hn c hc v30 v32 v33 Kr Ke m k (i + 1) _ _ (by omega) (by omega) hb' (by simp; omega)
end Go.Ab.T

/- Images: all rows that are read. -/
namespace Go.Ab.T
open Go Go.Ab
set_option linter.unusedVariables false
set_option linter.unusedSimpArgs false
theorem rrow_inv (n : Int) : ∀ (m : Nat) (b acc : List Int), IbI b → IbI (rrow n m b acc).2.1
 | 0, b, acc, h => h
 | m + 1, b, acc, h => by
  unfold rrow
  cases Err.isNil (rb 0 (n - 1) b).2.1 with
  | false => exact rb_inv h
  | true => exact rrow_inv n m _ _ (rb_inv h)
def rrows (n : Int) (c : Nat) : Nat → List Int → List (List Int) → List Bool → Err × List Int × List (List Int) × List Bool
 | 0, b, N, E => (.nil, b, N, E)
 | m + 1, b, N, E =>
  let x := rb 0 1 b
  bif !(Err.isNil x.2.1) then (x.2.1, x.2.2, N, E) else
   let y := rrow n (c + 1) x.2.2 []
   bif !(Err.isNil y.1) then (y.1, y.2.1, N, E) else rrows n c m y.2.1 (N ++ [y.2.2]) (E ++ [decide (x.1 = 1)])
theorem rl11_ok {R : Type} (kf : Nat) (n : Nat) (hn : 1 ≤ n ∧ n ≤ 20) (c : Nat) (hc : c ≤ 255) (C : List Int)
  (Kr : Err → List Int → List Int → List (List Int) → List Bool → Option R) (Ke : List Int → List Int → List (List Int) → List Bool → Option R) :
  ∀ (m k i : Nat) (b : List Int) (N : List (List Int)) (E : List Bool), i + m = n → m + 300 < k → IbI b → N.length ≤ i → E.length ≤ i →
  yy5_l11 kf k Kr Ke (n : Int) (c : Int) (n : Int) (i : Int) b C N E = (let x := rrows n c m b N E; bif !(Err.isNil x.1) then Kr x.1 x.2.1 C x.2.2.1 x.2.2.2 else Ke x.2.1 C x.2.2.1 x.2.2.2)
 | m, 0, i, b, N, E, _, h, _, _, _ => by omega
 | 0, k + 1, i, b, N, E, hi, _, _, _, _ => by
  have : decide ((i : Int) < (n : Int)) = false := decide_eq_false (by omega)
  unfold yy5_l11 yy5_l11_b
  rw [this, cond_false]; rfl
 | m + 1, k + 1, i, b, N, E, hi, hk, hb, hN, hE => by
  have g1 : decide ((i : Int) < (n : Int)) = true := decide_eq_true (by omega)
  unfold yy5_l11 yy5_l11_b rrows
  rw [g1, cond_true, byte_ok 0 1 b hb.1 hb.2]
  have hb' := rb_inv (f := 0) (t := 1) hb
  dsimp only
  cases he : Err.isNil (rb 0 1 b).2.1 with
  | false => simp only [Bool.not_false, cond_true, he]
  | true =>
   simp only [Bool.not_true, cond_false]
   rw [wi1j c (by omega)]
   refine (rl17_ok kf (n : Int) (c : Int) (rb 0 1 b).1 (n : Int) (i : Int) (by omega) (c + 1) (by omega) C N E _ _ (c + 1) k 0 (rb 0 1 b).2.2 [] (by omega) (by omega) hb' (by simp)).trans ?_
   dsimp only
   cases hy : Err.isNil (rrow (n : Int) (c + 1) (rb 0 1 b).2.2 []).1 with
   | false => simp only [Bool.not_false, cond_true, hy]
   | true =>
    simp only [Bool.not_true, cond_false]
    rw [gd_true (decide_eq_true (by show _ < 17179869184; simp; omega)), gd_true (decide_eq_true (by show _ < 17179869184; simp; omega)), wi1j i (by omega)]
    exact rl11_ok kf n hn c hc C Kr Ke m k (i + 1) _ _ _ (by omega) (by omega) (rrow_inv _ _ _ _ hb') (by simp; omega) (by simp; omega)
end Go.Ab.T

/- Images: the classes that are read: one run is laid. -/
namespace Go.Ab.T
open Go Go.Ab
set_option linter.unusedVariables false
set_option linter.unusedSimpArgs false
def fill (x : Int) : Nat → Nat → List Int → List Int
 | 0, a, C => C
 | m + 1, a, C => fill x m (a + 1) (C.set a x)
theorem fill_len (x : Int) : ∀ (m a : Nat) (C : List Int), (fill x m a C).length = C.length
 | 0, a, C => rfl
 | m + 1, a, C => by unfold fill; rw [fill_len x m, List.length_set]
theorem rl21_ok {R : Type} (kf : Nat) (v6 v7 : Int) (e : Nat) (he : e ≤ 255) (x v10 v11 : Int) (b : List Int) (Ke : Int → Int → Int → Int → Int → Int → List Int → List Int → Option R) :
  ∀ (m k a : Nat) (C : List Int), a + m = e + 1 → m < k →
  yy6_l21 kf k v6 v7 (e : Int) x v10 v11 b Ke (a : Int) C = Ke v6 v7 ((e + 1 : Nat) : Int) x v10 v11 b (fill (IntKind.u8.wrap x) m a C)
 | m, 0, a, C, _, h => by omega
 | 0, k + 1, a, C, hi, _ => by
  have : decide ((a : Int) ≤ (e : Int)) = false := decide_eq_false (by omega)
  unfold yy6_l21 yy6_l21_b
  rw [this, cond_false, show a = e + 1 by omega]; rfl
 | m + 1, k + 1, a, C, hi, hk => by
  have g1 : decide ((a : Int) ≤ (e : Int)) = true := decide_eq_true (by omega)
  unfold yy6_l21 yy6_l21_b fill
  rw [g1, cond_true, gd_true (decide_eq_true (by omega)), gd_true (decide_eq_true (by omega)), wi1j a (by omega), show Int.toNat (a : Int) = a from rfl]
  exact rl21_ok kf v6 v7 e he x v10 v11 b Ke m k (a + 1) _ (by omega) (by omega)
end Go.Ab.T

/- Images: the classes that are read, all runs; what is read, whole. -/
namespace Go.Ab.T
open Go Go.Ab
set_option linter.unusedVariables false
set_option linter.unusedSimpArgs false
theorem rb_cases (f t : Int) (b : List Int) : (∃ x r, b = x :: r ∧ f ≤ x ∧ x ≤ t ∧ rb f t b = (x, .nil, r)) ∨ (b = [] ∧ rb f t b = (0, BADI 2, [])) ∨ (∃ x r, b = x :: r ∧ (x < f ∨ t < x) ∧ rb f t b = (0, BADI 3, r)) := by
 cases b with
 | nil => exact Or.inr (Or.inl ⟨rfl, rfl⟩)
 | cons x r =>
  have hr : rb f t (x :: r) = (bif decide (x < f) || decide (t < x) then (0, BADI 3, r) else (x, .nil, r)) := rfl
  by_cases h1 : x < f
  ·exact Or.inr (Or.inr ⟨x, r, rfl, Or.inl h1, by rw [hr, decide_eq_true h1]; rfl⟩)
  by_cases h2 : t < x
  ·exact Or.inr (Or.inr ⟨x, r, rfl, Or.inr h2, by rw [hr, decide_eq_true h2, Bool.or_true]; rfl⟩)
  ·exact Or.inl ⟨x, r, rfl, by omega, by omega, by rw [hr, decide_eq_false h1, decide_eq_false h2]; rfl⟩
def rruns (c : Int) : Nat → Nat → Int → List Int → List Int → Err × List Int × List Int
 | 0, _, _, b, C => (.nil, b, C)
 | m + 1, a, was, b, C =>
  let x := rb (bif decide (m = 0) then 255 else (a : Int)) 255 b
  bif !(Err.isNil x.2.1) then (x.2.1, x.2.2, C) else
  bif decide (255 < (a : Int)) then (BADI 3, x.2.2, C) else
  let y := rb 0 (c - 1) x.2.2
  bif !(Err.isNil y.2.1) then (y.2.1, y.2.2, C) else
  bif decide (y.1 = was) then (BADI 3, y.2.2, C) else
  rruns c m (x.1.toNat + 1) y.1 y.2.2 (fill y.1 (x.1.toNat + 1 - a) a C)
theorem rl6_ok {R : Type} (kf : Nat) (hkf : 300 < kf) (n : Nat) (hn : n ≤ 255) (c : Int) (hc : 1 ≤ c ∧ c ≤ 256) (Kr : Err → List Int → List Int → Option R) (Ke : List Int → List Int → Option R) :
  ∀ (m k i a : Nat) (was : Int) (b C : List Int), i + m = n + 1 → m + 300 < k → IbI b → a ≤ 256 →
  yy6_l6 kf k Kr Ke c (n : Int) (a : Int) was ((n + 1 : Nat) : Int) (i : Int) b C = (let x := rruns c m a was b C; bif !(Err.isNil x.1) then Kr x.1 x.2.1 x.2.2 else Ke x.2.1 x.2.2)
 | m, 0, i, a, was, b, C, _, h, _, _ => by omega
 | 0, k + 1, i, a, was, b, C, hi, _, _, _ => by
  have : decide ((i : Int) < ((n + 1 : Nat) : Int)) = false := decide_eq_false (by omega)
  unfold yy6_l6 yy6_l6_b
  rw [this, cond_false]; rfl
 | m + 1, k + 1, i, a, was, b, C, hi, hk, hb, ha => by
  have g1 : decide ((i : Int) < ((n + 1 : Nat) : Int)) = true := decide_eq_true (by omega)
  have g2 : decide ((i : Int) = (n : Int)) = decide (m = 0) := by
   by_cases h : m = 0
   ·rw [decide_eq_true h, decide_eq_true (by omega)]
   ·rw [decide_eq_false h, decide_eq_false (by omega)]
  unfold yy6_l6 yy6_l6_b
  rw [g1, cond_true, g2, show IntKind.i64.wrap (c - 1) = c - 1 by rw [IntKind.wrap_i64]; omega]
  have main : ∀ f : Int, (bif decide (m = 0) then (255 : Int) else (a : Int)) = f → yy4 f 255 b (fun (v15 : Int) (v16 : Err) (v17 : (List Int)) =>
    bif (!(Err.isNil v16)) then
    (Kr v16 v17 C)
    else (bif decide (255 < (a : Int)) then
    (yy3 3 (fun (v18 : Err) =>
     Kr v18 v17 C))
    else (yy4 0 (c - 1) v17 (fun (v19 : Int) (v20 : Err) (v21 : (List Int)) =>
     bif (!(Err.isNil v20)) then
     (Kr v20 v21 C)
     else (bif decide (v19 = was) then
      (yy3 3 (fun (v22 : Err) =>
       Kr v22 v21 C))
      else (yy6_l21 kf k c (n : Int) v15 v19 ((n + 1 : Nat) : Int) (i : Int) v21
      (fun (v32 : Int) (v33 : Int) (v34 : Int) (v35 : Int) (v36 : Int) (v37 : Int) (v38 : (List Int)) (v39 : (List Int)) =>
       yy6_l6 kf k Kr Ke v32 v33 v34 v35 v36 (IntKind.i64.wrap (v37 + 1)) v38 v39) (a : Int) C)))))) = (let x := rruns c (m + 1) a was b C; bif !(Err.isNil x.1) then Kr x.1 x.2.1 x.2.2 else Ke x.2.1 x.2.2) := by
   intro f hf
   rw [byte_ok f 255 b hb.1 hb.2]
   dsimp only
   rw [show rruns c (m + 1) a was b C = (let x := rb (bif decide (m = 0) then 255 else (a : Int)) 255 b
    bif !(Err.isNil x.2.1) then (x.2.1, x.2.2, C) else
    bif decide (255 < (a : Int)) then (BADI 3, x.2.2, C) else
    let y := rb 0 (c - 1) x.2.2
    bif !(Err.isNil y.2.1) then (y.2.1, y.2.2, C) else
    bif decide (y.1 = was) then (BADI 3, y.2.2, C) else
    rruns c m (x.1.toNat + 1) y.1 y.2.2 (fill y.1 (x.1.toNat + 1 - a) a C)) from rfl, hf]
   have hb' := rb_inv (f := f) (t := 255) hb
   rcases rb_cases f 255 b with ⟨x, r, rfl, hx1, hx2, e⟩ | ⟨rfl, e⟩ | ⟨x, r, rfl, hx, e⟩
   rotate_left
   ·rw [e]; rfl
   ·rw [e]; rfl
   rw [e] at hb' ⊢
   dsimp only at hb' ⊢
   rw [show (!(Err.isNil Err.nil)) = false from rfl, cond_false, cond_false]
   by_cases h5 : (255 : Int) < (a : Int)
   ·rw [decide_eq_true h5, cond_true, cond_true]; rfl
   rw [decide_eq_false h5, cond_false, cond_false, byte_ok 0 (c - 1) r hb'.1 hb'.2]
   have hax : (a : Int) ≤ x := by
    cases hm : decide (m = 0) with
    | true => rw [hm, cond_true] at hf; omega
    | false => rw [hm, cond_false] at hf; omega
   have hb2 := rb_inv (f := 0) (t := c - 1) hb'
   rcases rb_cases 0 (c - 1) r with ⟨y, r2, rfl, hy1, hy2, e2⟩ | ⟨rfl, e2⟩ | ⟨y, r2, rfl, hy, e2⟩
   rotate_left
   ·rw [e2]; rfl
   ·rw [e2]; rfl
   rw [e2] at hb2 ⊢
   dsimp only at hb2 ⊢
   rw [show (!(Err.isNil Err.nil)) = false from rfl, cond_false, cond_false]
   by_cases hw : y = was
   ·rw [decide_eq_true hw, cond_true, cond_true]; rfl
   rw [decide_eq_false hw, cond_false, cond_false]
   obtain ⟨e0, rfl⟩ := Int.eq_ofNat_of_zero_le (show 0 ≤ x by omega)
   rw [rl21_ok kf c (n : Int) e0 (by omega) y ((n + 1 : Nat) : Int) (i : Int) r2 _ (e0 + 1 - a) k a C (by omega) (by omega)]
   rw [wi1j i (by omega), show IntKind.u8.wrap y = y by rw [IntKind.wrap_u8]; omega]
   exact rl6_ok kf hkf n hn c hc Kr Ke m k (i + 1) (e0 + 1) y r2 _ (by omega) (by omega) hb2 (by omega)
  dsimp only
  cases hm : decide (m = 0) with
  | true => rw [cond_true]; exact main 255 (by rw [hm, cond_true])
  | false => rw [cond_false]; exact main a (by rw [hm, cond_false])
end Go.Ab.T

/- Images: what Take answers. -/
namespace Go.Ab.T
open Go Go.Ab
set_option linter.unusedVariables false
set_option linter.unusedSimpArgs false
abbrev rep0 : List Int := List.replicate 256 (0 : Int)
def EI (e : Err) : Prop := e = .nil ∨ e = BADI 2 ∨ e = BADI 3
theorem nb2 : (!(Err.isNil (BADI 2))) = true := rfl
theorem nb3 : (!(Err.isNil (BADI 3))) = true := rfl
theorem nn0 : (!(Err.isNil Err.nil)) = false := rfl
theorem rb_e (f t : Int) (b : List Int) : EI (rb f t b).2.1 := by
 rcases rb_cases f t b with ⟨x, r, rfl, _, _, e⟩ | ⟨rfl, e⟩ | ⟨x, r, rfl, _, e⟩ <;> rw [e]
 ·exact Or.inl rfl
 ·exact Or.inr (Or.inl rfl)
 ·exact Or.inr (Or.inr rfl)
theorem rrow_e (n : Int) : ∀ (m : Nat) (b acc : List Int), EI (rrow n m b acc).1
 | 0, b, acc => Or.inl rfl
 | m + 1, b, acc => by
  unfold rrow
  cases h : Err.isNil (rb 0 (n - 1) b).2.1 with
  | false => exact rb_e 0 (n - 1) b
  | true => exact rrow_e n m _ _
theorem rrows_e (n : Int) (c : Nat) : ∀ (m : Nat) (b : List Int) (N : List (List Int)) (E : List Bool), EI (rrows n c m b N E).1
 | 0, b, N, E => Or.inl rfl
 | m + 1, b, N, E => by
  unfold rrows
  dsimp only
  cases h : Err.isNil (rb 0 1 b).2.1 with
  | false => exact rb_e 0 1 b
  | true =>
   cases h2 : Err.isNil (rrow n (c + 1) (rb 0 1 b).2.2 []).1 with
   | false => simp only [Bool.not_true, cond_false, h2, Bool.not_false, cond_true]; exact rrow_e n _ _ _
   | true => simp only [Bool.not_true, cond_false, h2]; exact rrows_e n c m _ _ _
theorem rruns_e (c : Int) : ∀ (m a : Nat) (was : Int) (b C : List Int), EI (rruns c m a was b C).1
 | 0, a, was, b, C => Or.inl rfl
 | m + 1, a, was, b, C => by
  unfold rruns
  dsimp only
  have h1 := rb_e (bif decide (m = 0) then 255 else (a : Int)) 255 b
  generalize rb (bif decide (m = 0) then 255 else (a : Int)) 255 b = x at *
  have h2 := rb_e 0 (c - 1) x.2.2
  generalize rb 0 (c - 1) x.2.2 = y at *
  cases Err.isNil x.2.1
  ·exact h1
  cases decide (255 < (a : Int))
  rotate_left
  ·exact Or.inr (Or.inr rfl)
  cases Err.isNil y.2.1
  ·exact h2
  cases decide (y.1 = was)
  rotate_left
  ·exact Or.inr (Or.inr rfl)
  exact rruns_e c m _ _ _ _
theorem rruns_inv (c : Int) : ∀ (m a : Nat) (was : Int) (b C : List Int), IbI b → IbI (rruns c m a was b C).2.1
 | 0, a, was, b, C, h => h
 | m + 1, a, was, b, C, h => by
  unfold rruns
  dsimp only
  have h1 := rb_inv (f := bif decide (m = 0) then 255 else (a : Int)) (t := 255) h
  generalize rb (bif decide (m = 0) then 255 else (a : Int)) 255 b = x at *
  have h2 := rb_inv (f := 0) (t := c - 1) h1
  generalize rb 0 (c - 1) x.2.2 = y at *
  cases Err.isNil x.2.1
  ·exact h1
  cases decide (255 < (a : Int))
  rotate_left
  ·exact h1
  cases Err.isNil y.2.1
  ·exact h2
  cases decide (y.1 = was)
  rotate_left
  ·exact h2
  exact rruns_inv c m _ _ _ _ h2
structure Im where
 C : List Int
 e : Err
 b : List Int
 N : List (List Int)
 E : List Bool
def runsr (c : Int) (b : List Int) : List Int × Err × List Int :=
 let x := rb 0 255 b
 bif !(Err.isNil x.2.1) then (rep0, x.2.1, x.2.2) else
  let y := rruns c (x.1.toNat + 1) 0 (-1) x.2.2 rep0
  (y.2.2, y.1, y.2.1)
def preI (b : List Int) : Im :=
 let x := rb 1 20 b
 bif !(Err.isNil x.2.1) then ⟨rep0, x.2.1, x.2.2, [], []⟩ else
 let y := rb 0 255 x.2.2
 bif !(Err.isNil y.2.1) then ⟨rep0, y.2.1, y.2.2, [], []⟩ else
 let z := runsr (y.1 + 1) y.2.2
 bif !(Err.isNil z.2.1) then ⟨z.1, z.2.1, z.2.2, [], []⟩ else
 let w := rrows x.1 y.1.toNat x.1.toNat z.2.2 [] []
 ⟨z.1, w.1, w.2.1, w.2.2.1, w.2.2.2⟩
theorem runs_ok {R : Type} (kf : Nat) (hkf : 1000 ≤ kf) (c : Int) (hc : 1 ≤ c ∧ c ≤ 256) (b : List Int) (hb : IbI b) (K : List Int → Err → List Int → Option R) : yy6 kf c b K = K (runsr c b).1 (runsr c b).2.1 (runsr c b).2.2 := by
 unfold yy6 yy6_b runsr
 rw [byte_ok 0 255 b hb.1 hb.2]
 have hb1 := rb_inv (f := 0) (t := 255) hb
 rcases rb_cases 0 255 b with ⟨x, r, rfl, hx1, hx2, e⟩ | ⟨rfl, e⟩ | ⟨x, r, rfl, _, e⟩
 rotate_left
 ·rw [e]; dsimp only; rw [nb2, cond_true, cond_true]
 ·rw [e]; dsimp only; rw [nb3, cond_true, cond_true]
 rw [e] at hb1 ⊢
 dsimp only at hb1 ⊢
 obtain ⟨n, rfl⟩ := Int.eq_ofNat_of_zero_le hx1
 rw [show (!(Err.isNil Err.nil)) = false from rfl, cond_false, cond_false, wi1j n (by omega)]
 refine (rl6_ok kf (by omega) n (by omega) c hc _ _ (n + 1) kf 0 0 (-1) r rep0 (by omega) (by omega) hb1 (by omega)).trans ?_
 rw [show ((n : Int).toNat + 1) = n + 1 from rfl]
 have he := rruns_e c (n + 1) 0 (-1) r rep0
 generalize rruns c (n + 1) 0 (-1) r rep0 = y at *
 obtain ⟨y1, y2, y3⟩ := y
 rcases he with h | h | h <;> (dsimp only at h; subst h; rfl)
theorem runsr_inv (c : Int) {b : List Int} (h : IbI b) : IbI (runsr c b).2.2 := by
 unfold runsr
 dsimp only
 cases Err.isNil (rb 0 255 b).2.1
 ·exact rb_inv h
 ·exact rruns_inv c _ _ _ _ _ (rb_inv h)
theorem runsr_e (c : Int) (b : List Int) : EI (runsr c b).2.1 := by
 unfold runsr
 dsimp only
 have := rb_e 0 255 b
 cases Err.isNil (rb 0 255 b).2.1
 ·exact this
 ·exact rruns_e c _ _ _ _ _
theorem preI_e (b : List Int) : EI (preI b).e := by
 unfold preI
 dsimp only
 have h1 := rb_e 1 20 b
 generalize rb 1 20 b = x at *
 have h2 := rb_e 0 255 x.2.2
 generalize rb 0 255 x.2.2 = y at *
 have h3 := runsr_e (y.1 + 1) y.2.2
 generalize runsr (y.1 + 1) y.2.2 = z at *
 have h4 := rrows_e x.1 y.1.toNat x.1.toNat z.2.2 [] []
 cases Err.isNil x.2.1
 ·exact h1
 cases Err.isNil y.2.1
 ·exact h2
 cases Err.isNil z.2.1
 ·exact h3
 exact h4
theorem reads_ok {R : Type} (kf : Nat) (hkf : 1000 ≤ kf) (b : List Int) (hb : IbI b) (K : List Int → Err → List Int → List (List Int) → List Bool → Option R) :
  yy5 kf b K = (let p := preI b; bif !(Err.isNil p.e) then K p.C p.e p.b p.N p.E else bif decide (0 < (p.b.length : Int)) then K p.C (BADI 3) p.b p.N p.E else yy11 kf p.C p.N p.E (fun v => bif !v then K p.C (BADI 3) p.b p.N p.E else K p.C .nil p.b p.N p.E)) := by
 unfold yy5 yy5_b preI
 rw [byte_ok 1 20 b hb.1 hb.2]
 have hb1 := rb_inv (f := 1) (t := 20) hb
 rcases rb_cases 1 20 b with ⟨x, r, rfl, hx1, hx2, e⟩ | ⟨rfl, e⟩ | ⟨x, r, rfl, _, e⟩
 rotate_left
 ·rw [e]; dsimp only; rw [nb2, cond_true, cond_true]; dsimp only; rw [nb2, cond_true]
 ·rw [e]; dsimp only; rw [nb3, cond_true, cond_true]; dsimp only; rw [nb3, cond_true]
 rw [e] at hb1 ⊢
 dsimp only at hb1 ⊢
 rw [show (!(Err.isNil Err.nil)) = false from rfl, cond_false, cond_false, byte_ok 0 255 r hb1.1 hb1.2]
 have hb2 := rb_inv (f := 0) (t := 255) hb1
 rcases rb_cases 0 255 r with ⟨y, r2, rfl, hy1, hy2, e2⟩ | ⟨rfl, e2⟩ | ⟨y, r2, rfl, _, e2⟩
 rotate_left
 ·rw [e2]; dsimp only; rw [nb2, cond_true, cond_true]; dsimp only; rw [nb2, cond_true]
 ·rw [e2]; dsimp only; rw [nb3, cond_true, cond_true]; dsimp only; rw [nb3, cond_true]
 rw [e2] at hb2 ⊢
 dsimp only at hb2 ⊢
 obtain ⟨n, rfl⟩ := Int.eq_ofNat_of_zero_le (show 0 ≤ x by omega)
 obtain ⟨c, rfl⟩ := Int.eq_ofNat_of_zero_le hy1
 rw [show (!(Err.isNil Err.nil)) = false from rfl, cond_false, cond_false, show IntKind.i64.wrap ((c : Int) + 1) = (c : Int) + 1 by rw [IntKind.wrap_i64]; omega, runs_ok kf hkf _ (by omega) r2 hb2]
 have hb3 := runsr_inv ((c : Int) + 1) hb2
 have he3 := runsr_e ((c : Int) + 1) r2
 generalize runsr ((c : Int) + 1) r2 = z at *
 obtain ⟨z1, z2, z3⟩ := z
 dsimp only at he3 hb3 ⊢
 rcases he3 with h | h | h
 rotate_left
 ·subst h; rw [nb2, cond_true, cond_true]; dsimp only; rw [nb2, cond_true]
 ·subst h; rw [nb3, cond_true, cond_true]; dsimp only; rw [nb3, cond_true]
 subst h
 rw [show (!(Err.isNil Err.nil)) = false from rfl, cond_false, cond_false]
 refine (rl11_ok kf n (by omega) c (by omega) z1 _ _ n kf 0 z3 [] [] (by omega) (by omega) hb3 (by simp) (by simp)).trans ?_
 rw [Int.toNat_natCast, Int.toNat_natCast]
 have he4 := rrows_e (n : Int) c n z3 [] []
 generalize rrows (n : Int) c n z3 [] [] = w at *
 obtain ⟨w1, w2, w3, w4⟩ := w
 dsimp only at he4 ⊢
 rcases he4 with h | h | h
 rotate_left
 ·subst h; rw [nb2, cond_true, cond_true]
 ·subst h; rw [nb3, cond_true, cond_true]
 subst h
 rw [nn0, cond_false, cond_false]
 cases decide (0 < (w2.length : Int)) with
 | true => rfl
 | false =>
  rfl
def codeI (e : Err) : Int := bif Err.isNil e then 0 else Err.num 0 ((Err.find 67 e).getD .nil)
theorem take_ok {R : Type} (kf : Nat) (hkf : 1000 ≤ kf) (b : List Int) (hb : IbI b) (K : List Int → Int → List (List Int) → List Bool → Option R) :
  yy2 kf b K = (let p := preI b; bif !(Err.isNil p.e) then K rep0 (codeI p.e) [] [] else bif decide (0 < (p.b.length : Int)) then K rep0 3 [] [] else yy11 kf p.C p.N p.E (fun v => bif !v then K rep0 3 [] [] else K p.C 0 p.N p.E)) := by
 unfold yy2 yy2_b
 rw [reads_ok kf hkf b hb]
 have he := preI_e b
 generalize preI b = p at *
 obtain ⟨p1, p2, p3, p4, p5⟩ := p
 dsimp only at he ⊢
 have r2 : ∀ (A B : Option R) (f : Err → Option R), gd (Err.fit [(67, 1)] [(110, 0, 0)] (BADI 2)) (optK (Err.find 67 (BADI 2)) f B) = f (Err.leaf 67 [2]) := fun A B f => rfl
 have r3 : ∀ (A B : Option R) (f : Err → Option R), gd (Err.fit [(67, 1)] [(110, 0, 0)] (BADI 3)) (optK (Err.find 67 (BADI 3)) f B) = f (Err.leaf 67 [3]) := fun A B f => rfl
 have r0 : ∀ (A B : Option R) (f : Err → Option R), gd (Err.fit [(67, 1)] [(110, 0, 0)] Err.nil) (optK (Err.find 67 Err.nil) f B) = B := fun A B f => rfl
 rcases he with h | h | h
 rotate_left
 ·subst h; rw [nb2, cond_true, cond_true, r2 none]; rfl
 ·subst h; rw [nb3, cond_true, cond_true, r3 none]; rfl
 subst h
 rw [nn0, cond_false, cond_false, r3 none, r0 none]
 cases decide (0 < (p3.length : Int)) with
 | true => rfl
 | false => rfl
end Go.Ab.T

/- Images: what is read is what is written; what is written is read; what is cut off is short. -/
namespace Go.Ab.T
open Go Go.Ab
set_option linter.unusedVariables false
set_option linter.unusedSimpArgs false
theorem isNil_iff {e : Err} : Err.isNil e = true ↔ e = .nil := by cases e <;> simp [Err.isNil]
theorem rrow_nil (n : Int) : ∀ (m : Nat) (b acc r l : List Int), rrow n m b acc = (.nil, r, l) → ∃ x, x.length = m ∧ (∀ y ∈ x, 0 ≤ y ∧ y ≤ n - 1) ∧ b = x ++ r ∧ l = acc ++ x
 | 0, b, acc, r, l, h => by
  simp only [rrow, Prod.mk.injEq, true_and] at h
  exact ⟨[], rfl, by simp, h.1, by rw [← h.2, List.append_nil]⟩
 | m + 1, b, acc, r, l, h => by
  unfold rrow at h
  rcases rb_cases 0 (n - 1) b with ⟨x, r1, rfl, hx1, hx2, e⟩ | ⟨rfl, e⟩ | ⟨x, r1, rfl, _, e⟩
  rotate_left
  ·rw [e] at h; simp only [nb2, cond_true, Prod.mk.injEq] at h; cases h.1
  ·rw [e] at h; simp only [nb3, cond_true, Prod.mk.injEq] at h; cases h.1
  rw [e] at h
  simp only [nn0, cond_false] at h
  obtain ⟨z, z1, z2, z3, z4⟩ := rrow_nil n m _ _ _ _ h
  refine ⟨x :: z, by simp [z1], fun y hy => ?_, by rw [z3]; rfl, by rw [z4]; simp⟩
  rcases List.mem_cons.1 hy with rfl | hy
  ·exact ⟨hx1, hx2⟩
  ·exact z2 y hy
theorem rrow_of (n : Int) : ∀ (x acc r : List Int), (∀ y ∈ x, 0 ≤ y ∧ y ≤ n - 1) → rrow n x.length (x ++ r) acc = (.nil, r, acc ++ x)
 | [], acc, r, _ => by simp [rrow]
 | y :: x, acc, r, h => by
  have hy := h y (by simp)
  show rrow n (x.length + 1) (y :: (x ++ r)) acc = _
  unfold rrow
  rcases rb_cases 0 (n - 1) (y :: (x ++ r)) with ⟨x1, r1, he, hx1, hx2, e⟩ | ⟨he, e⟩ | ⟨x1, r1, he, hn, e⟩
  ·rw [e]
   simp only [nn0, cond_false]
   simp only [List.cons.injEq] at he
   rw [← he.1, ← he.2, rrow_of n x _ r fun z hz => h z (by simp [hz])]
   simp
  ·cases he
  ·simp only [List.cons.injEq] at he; omega
def rowsB : List (List Int) → List Bool → List Int
 | r :: N, e :: E => (bif e then 1 else 0) :: (r ++ rowsB N E)
 | _, _ => []
theorem rrows_nil (n : Int) (c : Nat) : ∀ (m : Nat) (b : List Int) (N : List (List Int)) (E : List Bool) (r : List Int) (N' : List (List Int)) (E' : List Bool), rrows n c m b N E = (.nil, r, N', E') →
  ∃ X Y, X.length = m ∧ Y.length = m ∧ (∀ x ∈ X, x.length = c + 1 ∧ ∀ y ∈ x, 0 ≤ y ∧ y ≤ n - 1) ∧ b = rowsB X Y ++ r ∧ N' = N ++ X ∧ E' = E ++ Y
 | 0, b, N, E, r, N', E', h => by
  simp only [rrows, Prod.mk.injEq, true_and] at h
  exact ⟨[], [], rfl, rfl, by simp, h.1, by rw [← h.2.1, List.append_nil], by rw [← h.2.2, List.append_nil]⟩
 | m + 1, b, N, E, r, N', E', h => by
  unfold rrows at h
  dsimp only at h
  rcases rb_cases 0 1 b with ⟨x, r1, rfl, hx1, hx2, e⟩ | ⟨rfl, e⟩ | ⟨x, r1, rfl, _, e⟩
  rotate_left
  ·rw [e] at h; simp only [nb2, cond_true, Prod.mk.injEq] at h; cases h.1
  ·rw [e] at h; simp only [nb3, cond_true, Prod.mk.injEq] at h; cases h.1
  rw [e] at h
  simp only [nn0, cond_false] at h
  have he := rrow_e n (c + 1) r1 []
  rcases hw : rrow n (c + 1) r1 [] with ⟨w1, w2, w3⟩
  rw [hw] at h he
  rcases he with h' | h' | h'
  rotate_left
  ·dsimp only at h'; subst h'; simp only [nb2, cond_true, Prod.mk.injEq] at h; cases h.1
  ·dsimp only at h'; subst h'; simp only [nb3, cond_true, Prod.mk.injEq] at h; cases h.1
  dsimp only at h'; subst h'
  simp only [nn0, cond_false] at h
  obtain ⟨z, z1, z2, z3, z4⟩ := rrow_nil n _ _ _ _ _ hw
  rw [List.nil_append] at z4
  subst z4
  obtain ⟨X, Y, y1, y2, y3, y4, y5, y6⟩ := rrows_nil n c m _ _ _ _ _ _ h
  refine ⟨w3 :: X, decide (x = 1) :: Y, by simp [y1], by simp [y2], fun x' hx' => ?_, ?_, by rw [y5]; simp, by rw [y6]; simp⟩
  ·rcases List.mem_cons.1 hx' with rfl | hx'
   ·exact ⟨z1, z2⟩
   ·exact y3 x' hx'
  ·rw [z3, y4]
   show _ = ((bif decide (x = 1) then (1 : Int) else 0) :: (w3 ++ rowsB X Y)) ++ r
   have : (bif decide (x = 1) then (1 : Int) else 0) = x := by
    by_cases h1 : x = 1
    ·rw [decide_eq_true h1, cond_true, h1]
    ·rw [decide_eq_false h1, cond_false]; omega
   rw [this]; simp
theorem rrows_of (n : Int) (c : Nat) : ∀ (X : List (List Int)) (Y : List Bool) (N : List (List Int)) (E : List Bool) (r : List Int), X.length = Y.length → (∀ x ∈ X, x.length = c + 1 ∧ ∀ y ∈ x, 0 ≤ y ∧ y ≤ n - 1) →
  rrows n c X.length (rowsB X Y ++ r) N E = (.nil, r, N ++ X, E ++ Y)
 | [], [], N, E, r, _, _ => by simp [rrows, rowsB]
 | [], _ :: _, N, E, r, h, _ => by simp at h
 | _ :: _, [], N, E, r, h, _ => by simp at h
 | x :: X, e :: Y, N, E, r, h, hx => by
  have h1 := hx x (by simp)
  show rrows n c (X.length + 1) ((bif e then 1 else 0) :: (x ++ rowsB X Y) ++ r) N E = _
  rw [List.cons_append, List.append_assoc]
  unfold rrows
  dsimp only
  have hv : (0 : Int) ≤ (bif e then 1 else 0) ∧ (bif e then 1 else 0) ≤ (1 : Int) := by cases e <;> simp
  have hd : decide ((bif e then (1 : Int) else 0) = 1) = e := by cases e <;> rfl
  generalize hve : (bif e then (1 : Int) else 0) = v at *
  rcases rb_cases 0 1 (v :: (x ++ (rowsB X Y ++ r))) with ⟨x1, r1, he, hx1, hx2, e'⟩ | ⟨he, e'⟩ | ⟨x1, r1, he, hn, e'⟩
  ·rw [e']
   simp only [nn0, cond_false]
   simp only [List.cons.injEq] at he
   rw [← he.1, ← he.2, ← h1.1, rrow_of n x [] _ h1.2]
   simp only [nn0, cond_false, List.nil_append]
   rw [rrows_of n c X Y _ _ r (by simpa using h) fun z hz => hx z (by simp [hz]), hd]
   simp
  ·cases he
  ·simp only [List.cons.injEq] at he; omega
theorem rowsI_B (N : List (List Int)) (E : List Bool) (hl : E.length = N.length) (hb : ∀ x ∈ N, ∀ y ∈ x, 0 ≤ y ∧ y ≤ 255) : ∀ (m i : Nat), i + m = N.length → rowsI N E i m = rowsB (N.drop i) (E.drop i)
 | 0, i, h => by rw [List.drop_eq_nil_of_le (by omega)]; rfl
 | m + 1, i, h => by
  have hrow : rowsI N E i (m + 1) = rowI N E i ++ rowsI N E (i + 1) m := by unfold rowsI; rw [List.range'_succ, List.flatMap_cons]
  have hi : i < N.length := by omega
  rw [hrow, rowsI_B N E hl hb m (i + 1) (by omega), List.drop_eq_getElem_cons hi, List.drop_eq_getElem_cons (show i < E.length by omega)]
  show rowI N E i ++ _ = (bif E[i] then (1 : Int) else 0) :: (N[i] ++ _)
  unfold rowI
  have e1 : E.getD i false = E[i] := by rw [List.getD_eq_getElem?_getD, List.getElem?_eq_getElem (by omega)]; rfl
  have e2 : N.getD i [] = N[i] := by rw [List.getD_eq_getElem?_getD, List.getElem?_eq_getElem hi]; rfl
  have e3 : N[i].map b8 = N[i] := by
   have := hb N[i] (List.getElem_mem hi)
   rw [List.map_congr_left (g := id) fun y hy => by have := this y hy; show b8 y = y; unfold b8; rw [IntKind.wrap_u8]; omega, List.map_id]
  rw [e1, e2, e3]
  simp
theorem fill_getD (x : Int) : ∀ (m a : Nat) (C : List Int) (j : Nat), (fill x m a C).getD j 0 = if a ≤ j ∧ j < a + m ∧ j < C.length then x else C.getD j 0
 | 0, a, C, j => by unfold fill; rw [if_neg (by omega)]
 | m + 1, a, C, j => by
  unfold fill
  rw [fill_getD x m (a + 1) (C.set a x) j, List.length_set]
  by_cases h : a = j
  ·subst h
   rw [if_neg (by omega), List.getD_eq_getElem?_getD, List.getElem?_set, if_pos rfl]
   by_cases h2 : a < C.length
   ·rw [if_pos h2, if_pos (by omega)]; rfl
   ·rw [if_neg h2, if_neg (by omega), List.getD_eq_getElem?_getD, List.getElem?_eq_none (by omega)]
  ·rw [List.getD_eq_getElem?_getD (l := C.set a x), List.getElem?_set, if_neg h, ← List.getD_eq_getElem?_getD]
   by_cases h2 : a + 1 ≤ j ∧ j < a + 1 + m ∧ j < C.length
   ·rw [if_pos h2, if_pos (by omega)]
   ·rw [if_neg h2, if_neg (by omega)]
theorem runsI_succ (C : List Int) (i m : Nat) : runsI C i (m + 1) = cellI C i ++ runsI C (i + 1) m := by unfold runsI; rw [List.range'_succ, List.flatMap_cons]
theorem runsI_add (C : List Int) : ∀ (m i n : Nat), runsI C i (m + n) = runsI C i m ++ runsI C (i + m) n
 | 0, i, n => by rw [Nat.zero_add]; rfl
 | m + 1, i, n => by rw [show m + 1 + n = (m + n) + 1 by omega, runsI_succ, runsI_succ, runsI_add C m (i + 1) n, List.append_assoc, show i + 1 + m = i + (m + 1) by omega]
theorem seg (C : List Int) (y : Int) (e : Nat) (he : e ≤ 255) (hend : e = 255 ∨ C.getD (e + 1) 0 ≠ y) : ∀ (d a : Nat), a + d = e → (∀ j, a ≤ j → j ≤ e → C.getD j 0 = y) → runsI C a (d + 1) = [(e : Int), y]
 | 0, a, h, hc => by
  rw [runsI_succ]
  have ha : a = e := by omega
  subst ha
  have : (decide (a = 255) || !decide (C.getD (a + 1) 0 = C.getD a 0)) = true := by
   rcases hend with h | h
   ·rw [decide_eq_true h]; rfl
   ·rw [hc a (by omega) (by omega), decide_eq_false h, Bool.not_false, Bool.or_true]
  unfold cellI
  rw [this, cond_true, hc a (by omega) (by omega), show b8 (a : Int) = (a : Int) by unfold b8; rw [IntKind.wrap_u8]; omega]
  rfl
 | d + 1, a, h, hc => by
  rw [runsI_succ, seg C y e he hend d (a + 1) (by omega) fun j h1 h2 => hc j (by omega) h2]
  have : (decide (a = 255) || !decide (C.getD (a + 1) 0 = C.getD a 0)) = false := by
   rw [hc a (by omega) (by omega), hc (a + 1) (by omega) (by omega), decide_eq_true rfl, decide_eq_false (by omega)]; rfl
  unfold cellI
  rw [this]; rfl
theorem run_end (C : List Int) : ∀ (d a : Nat), a + d = 255 → ∃ e, a ≤ e ∧ e ≤ 255 ∧ (∀ j, a ≤ j → j ≤ e → C.getD j 0 = C.getD a 0) ∧ (e = 255 ∨ C.getD (e + 1) 0 ≠ C.getD a 0)
 | 0, a, h => ⟨a, by omega, by omega, fun j h1 h2 => by rw [show j = a by omega], Or.inl (by omega)⟩
 | d + 1, a, h => by
  by_cases hc : C.getD (a + 1) 0 = C.getD a 0
  ·obtain ⟨e, e1, e2, e3, e4⟩ := run_end C d (a + 1) (by omega)
   refine ⟨e, by omega, e2, fun j h1 h2 => ?_, by rw [← hc]; exact e4⟩
   by_cases hj : j = a
   ·rw [hj]
   ·rw [e3 j (by omega) h2, hc]
  ·exact ⟨a, by omega, by omega, fun j h1 h2 => by rw [show j = a by omega], Or.inr hc⟩
theorem ext256 {A B : List Int} (ha : A.length = 256) (hb : B.length = 256) (h : ∀ j, j < 256 → A.getD j 0 = B.getD j 0) : A = B := ext_getD 0 (by omega) fun i hi => h i (by omega)
theorem rruns_nil (c : Int) : ∀ (m a : Nat) (was : Int) (b C r C' : List Int), rruns c (m + 1) a was b C = (.nil, r, C') → C.length = 256 → a ≤ 255 →
  C'.length = 256 ∧ (∀ j, j < a → C'.getD j 0 = C.getD j 0) ∧ C'.getD a 0 ≠ was ∧ (∀ j, a ≤ j → j < 256 → 0 ≤ C'.getD j 0 ∧ C'.getD j 0 ≤ c - 1) ∧ b = runsI C' a (256 - a) ++ r ∧ (runsI C' a (256 - a)).length = 2 * (m + 1)
 | m, a, was, b, C, r, C', h, hl, ha => by
  unfold rruns at h
  dsimp only at h
  rcases rb_cases (bif decide (m = 0) then 255 else (a : Int)) 255 b with ⟨x, r1, rfl, hx1, hx2, e⟩ | ⟨rfl, e⟩ | ⟨x, r1, rfl, _, e⟩
  rotate_left
  ·rw [e] at h; simp only [nb2, cond_true, Prod.mk.injEq] at h; cases h.1
  ·rw [e] at h; simp only [nb3, cond_true, Prod.mk.injEq] at h; cases h.1
  rw [e] at h
  simp only [nn0, cond_false] at h
  rw [decide_eq_false (by omega : ¬ (255 : Int) < (a : Int)), cond_false] at h
  rcases rb_cases 0 (c - 1) r1 with ⟨y, r2, rfl, hy1, hy2, e2⟩ | ⟨rfl, e2⟩ | ⟨y, r2, rfl, _, e2⟩
  rotate_left
  ·rw [e2] at h; simp only [nb2, cond_true, Prod.mk.injEq] at h; cases h.1
  ·rw [e2] at h; simp only [nb3, cond_true, Prod.mk.injEq] at h; cases h.1
  rw [e2] at h
  simp only [nn0, cond_false] at h
  by_cases hw : y = was
  ·rw [decide_eq_true hw, cond_true] at h; simp only [Prod.mk.injEq] at h; cases h.1
  rw [decide_eq_false hw, cond_false] at h
  have hax : (a : Int) ≤ x := by
   by_cases hm : m = 0
   ·rw [decide_eq_true hm, cond_true] at hx1; omega
   ·rw [decide_eq_false hm, cond_false] at hx1; exact hx1
  obtain ⟨e0, rfl⟩ := Int.eq_ofNat_of_zero_le (show 0 ≤ x by omega)
  rw [Int.toNat_natCast] at h
  have hf := fill_getD y (e0 + 1 - a) a C
  have hfl := fill_len y (e0 + 1 - a) a C
  generalize fill y (e0 + 1 - a) a C = F at *
  cases m with
  | zero =>
   simp only [rruns, Prod.mk.injEq, true_and] at h
   obtain ⟨rfl, rfl⟩ := h
   rw [decide_eq_true rfl, cond_true] at hx1
   have he0 : e0 = 255 := by omega
   subst he0
   have hc : ∀ j, a ≤ j → j ≤ 255 → F.getD j 0 = y := fun j h1 h2 => by rw [hf, if_pos (by omega)]
   have hs := seg F y 255 (by omega) (Or.inl rfl) (255 - a) a (by omega) hc
   rw [show 256 - a = 255 - a + 1 by omega, hs]
   refine ⟨by omega, fun j hj => by rw [hf, if_neg (by omega)], by rw [hc a (by omega) (by omega)]; exact hw, fun j h1 h2 => by rw [hc j h1 (by omega)]; omega, rfl, rfl⟩
  | succ m =>
   have he0 : e0 ≠ 255 := by
    intro h0
    subst h0
    unfold rruns at h
    dsimp only at h
    rcases rb_cases (bif decide (m = 0) then 255 else ((255 + 1 : Nat) : Int)) 255 r2 with ⟨x, r1, rfl, hx1, hx2, e⟩ | ⟨rfl, e⟩ | ⟨x, r1, rfl, _, e⟩
    ·rw [e] at h; simp only [nn0, cond_false] at h
     rw [decide_eq_true (by omega), cond_true] at h; simp only [Prod.mk.injEq] at h; cases h.1
    ·rw [e] at h; simp only [nb2, cond_true, Prod.mk.injEq] at h; cases h.1
    ·rw [e] at h; simp only [nb3, cond_true, Prod.mk.injEq] at h; cases h.1
   obtain ⟨q1, q2, q3, q4, q5, q6⟩ := rruns_nil c m (e0 + 1) y r2 F r C' h (by omega) (by omega)
   have hc : ∀ j, a ≤ j → j ≤ e0 → C'.getD j 0 = y := fun j h1 h2 => by rw [q2 j (by omega), hf, if_pos (by omega)]
   have hs := seg C' y e0 (by omega) (Or.inr q3) (e0 - a) a (by omega) hc
   have hadd := runsI_add C' (e0 - a + 1) a (256 - (e0 + 1))
   rw [hs, show e0 - a + 1 + (256 - (e0 + 1)) = 256 - a by omega, show a + (e0 - a + 1) = e0 + 1 by omega] at hadd
   rw [hadd]
   refine ⟨q1, fun j hj => by rw [q2 j (by omega), hf, if_neg (by omega)], by rw [hc a (by omega) (by omega)]; exact hw, fun j h1 h2 => ?_, by rw [q5]; simp, by rw [List.length_append, q6]; simp; omega⟩
   by_cases hj : j ≤ e0
   ·rw [hc j h1 hj]; omega
   ·exact q4 j (by omega) h2
theorem rruns_of (c : Int) (C' r : List Int) (hl' : C'.length = 256) (hv : ∀ j, j < 256 → 0 ≤ C'.getD j 0 ∧ C'.getD j 0 ≤ c - 1) : ∀ (d a : Nat) (was : Int) (C : List Int), 255 - a ≤ d → a ≤ 255 → C.length = 256 → (∀ j, j < a → C.getD j 0 = C'.getD j 0) → C'.getD a 0 ≠ was →
  ∃ m, (runsI C' a (256 - a)).length = 2 * (m + 1) ∧ rruns c (m + 1) a was (runsI C' a (256 - a) ++ r) C = (.nil, r, C')
 | d, a, was, C, hd, ha, hl, hC, hw => by
  obtain ⟨e, e1, e2, e3, e4⟩ := run_end C' (255 - a) a (by omega)
  have hs := seg C' (C'.getD a 0) e e2 e4 (e - a) a (by omega) e3
  have hva := hv a (by omega)
  generalize hy : C'.getD a 0 = y at *
  have hf := fill_getD y (e + 1 - a) a C
  have hfl := fill_len y (e + 1 - a) a C
  have step : ∀ (m : Nat) (R0 : List Int), (m = 0 → e = 255) → rruns c (m + 1) a was ([(e : Int), y] ++ R0) C = rruns c m (e + 1) y R0 (fill y (e + 1 - a) a C) := by
   intro m R0 hm
   have hle : (bif decide (m = 0) then 255 else (a : Int)) ≤ (e : Int) := by
    by_cases hm0 : m = 0
    ·rw [decide_eq_true hm0, cond_true]; have := hm hm0; omega
    ·rw [decide_eq_false hm0, cond_false]; omega
   rw [show rruns c (m + 1) a was ([(e : Int), y] ++ R0) C = (let x := rb (bif decide (m = 0) then 255 else (a : Int)) 255 ([(e : Int), y] ++ R0)
    bif !(Err.isNil x.2.1) then (x.2.1, x.2.2, C) else
    bif decide (255 < (a : Int)) then (BADI 3, x.2.2, C) else
    let y := rb 0 (c - 1) x.2.2
    bif !(Err.isNil y.2.1) then (y.2.1, y.2.2, C) else
    bif decide (y.1 = was) then (BADI 3, y.2.2, C) else
    rruns c m (x.1.toNat + 1) y.1 y.2.2 (fill y.1 (x.1.toNat + 1 - a) a C)) from rfl]
   generalize (bif decide (m = 0) then 255 else (a : Int)) = f at *
   rcases rb_cases f 255 ([(e : Int), y] ++ R0) with ⟨x1, r1, he, hx1, hx2, e'⟩ | ⟨he, e'⟩ | ⟨x1, r1, he, hn, e'⟩
   rotate_left
   ·cases he
   ·simp only [List.cons_append, List.cons.injEq] at he; omega
   simp only [List.cons_append, List.cons.injEq, List.nil_append] at he
   obtain ⟨rfl, rfl⟩ := he
   rw [e']
   simp only [nn0, cond_false]
   rw [decide_eq_false (by omega : ¬ (255 : Int) < (a : Int)), cond_false]
   rcases rb_cases 0 (c - 1) (y :: R0) with ⟨x1, r1, he, hx1, hx2, e''⟩ | ⟨he, e''⟩ | ⟨x1, r1, he, hn, e''⟩
   rotate_left
   ·cases he
   ·simp only [List.cons.injEq] at he; omega
   simp only [List.cons.injEq] at he
   obtain ⟨rfl, rfl⟩ := he
   rw [e'']
   simp only [nn0, cond_false]
   rw [decide_eq_false hw, cond_false, Int.toNat_natCast]
  by_cases h255 : e = 255
  ·refine ⟨0, ?_, ?_⟩
   ·rw [show 256 - a = e - a + 1 by omega, hs]; rfl
   ·rw [show 256 - a = e - a + 1 by omega, hs, step 0 r fun _ => h255]
    show (Err.nil, r, fill y (e + 1 - a) a C) = _
    congr 2
    refine ext256 (by omega) hl' fun j hj => ?_
    rw [hf]
    by_cases hj' : a ≤ j
    ·rw [if_pos (by omega), e3 j hj' (by omega)]
    ·rw [if_neg (by omega), hC j (by omega)]
  ·have h4 : C'.getD (e + 1) 0 ≠ y := by rcases e4 with h | h; exact absurd h h255; exact h
   have hadd := runsI_add C' (e - a + 1) a (256 - (e + 1))
   rw [hs, show e - a + 1 + (256 - (e + 1)) = 256 - a by omega, show a + (e - a + 1) = e + 1 by omega] at hadd
   cases d with
   | zero => omega
   | succ d =>
    obtain ⟨m, m1, m2⟩ := rruns_of c C' r hl' hv d (e + 1) y (fill y (e + 1 - a) a C) (by omega) (by omega) (by omega) (fun j hj => by
     rw [hf]
     by_cases hj' : a ≤ j
     ·rw [if_pos (by omega), e3 j hj' (by omega)]
     ·rw [if_neg (by omega), hC j (by omega)]) h4
    refine ⟨m + 1, by rw [hadd, List.length_append, m1]; simp; omega, ?_⟩
    rw [hadd, List.append_assoc, step (m + 1) _ fun h => absurd h (by omega)]
    exact m2
end Go.Ab.T

/- Images: the whole of it: read and written. -/
namespace Go.Ab.T
open Go Go.Ab
set_option linter.unusedVariables false
set_option linter.unusedSimpArgs false
structure Pre (C : List Int) (N : List (List Int)) (E : List Bool) (n c : Nat) : Prop where
 cl : C.length = 256
 cv : ∀ j, j < 256 → 0 ≤ C.getD j 0 ∧ C.getD j 0 ≤ (c : Int)
 c2 : c ≤ 255
 n1 : 1 ≤ n
 n2 : n ≤ 20
 nl : N.length = n
 el : E.length = n
 row : ∀ x ∈ N, x.length = c + 1 ∧ ∀ y ∈ x, 0 ≤ y ∧ y ≤ (n : Int) - 1
def imgG (c : Nat) (C : List Int) (N : List (List Int)) (E : List Bool) : List Int :=
 (N.length : Int) :: (c : Int) :: (((runsI C 0 256).length / 2 : Nat) - 1 : Int) :: (runsI C 0 256 ++ rowsB N E)
theorem preI_nil (b : List Int) (h : (preI b).e = .nil) : ∃ n c, Pre (preI b).C (preI b).N (preI b).E n c ∧ b = imgG c (preI b).C (preI b).N (preI b).E ++ (preI b).b := by
 unfold preI at h ⊢
 dsimp only at h ⊢
 rcases rb_cases 1 20 b with ⟨x, r1, rfl, hx1, hx2, e⟩ | ⟨rfl, e⟩ | ⟨x, r1, rfl, _, e⟩
 rotate_left
 ·rw [e] at h; simp only [nb2, cond_true] at h; cases h
 ·rw [e] at h; simp only [nb3, cond_true] at h; cases h
 rw [e] at h ⊢
 simp only [nn0, cond_false] at h ⊢
 rcases rb_cases 0 255 r1 with ⟨y, r2, rfl, hy1, hy2, e2⟩ | ⟨rfl, e2⟩ | ⟨y, r2, rfl, _, e2⟩
 rotate_left
 ·rw [e2] at h; simp only [nb2, cond_true] at h; cases h
 ·rw [e2] at h; simp only [nb3, cond_true] at h; cases h
 rw [e2] at h ⊢
 simp only [nn0, cond_false] at h ⊢
 obtain ⟨n, rfl⟩ := Int.eq_ofNat_of_zero_le (show 0 ≤ x by omega)
 obtain ⟨c, rfl⟩ := Int.eq_ofNat_of_zero_le hy1
 have he := runsr_e ((c : Int) + 1) r2
 rcases hz : runsr ((c : Int) + 1) r2 with ⟨z1, z2, z3⟩
 rw [hz] at h he
 dsimp only at he h ⊢
 rcases he with h' | h' | h'
 rotate_left
 ·subst h'; rw [nb2, cond_true] at h; cases h
 ·subst h'; rw [nb3, cond_true] at h; cases h
 subst h'
 rw [nn0, cond_false] at h ⊢
 rw [Int.toNat_natCast, Int.toNat_natCast] at h ⊢
 rcases hw : rrows (n : Int) c n z3 [] [] with ⟨w1, w2, w3, w4⟩
 rw [hw] at h
 dsimp only at h ⊢
 subst h
 obtain ⟨X, Y, x1, x2, x3, x4, x5, x6⟩ := rrows_nil _ _ _ _ _ _ _ _ _ hw
 rw [List.nil_append] at x5 x6
 subst x5 x6
 unfold runsr at hz
 dsimp only at hz
 rcases rb_cases 0 255 r2 with ⟨m, r3, rfl, hm1, hm2, e3⟩ | ⟨rfl, e3⟩ | ⟨m, r3, rfl, _, e3⟩
 rotate_left
 ·rw [e3] at hz; simp only [nb2, cond_true, Prod.mk.injEq] at hz; cases hz.2.1
 ·rw [e3] at hz; simp only [nb3, cond_true, Prod.mk.injEq] at hz; cases hz.2.1
 rw [e3] at hz
 simp only [nn0, cond_false] at hz
 obtain ⟨m, rfl⟩ := Int.eq_ofNat_of_zero_le hm1
 rw [Int.toNat_natCast] at hz
 rcases hy : rruns ((c : Int) + 1) (m + 1) 0 (-1) r3 rep0 with ⟨y1, y2, y3⟩
 rw [hy] at hz
 simp only [Prod.mk.injEq] at hz
 obtain ⟨rfl, rfl, rfl⟩ := hz
 obtain ⟨q1, _, _, q4, q5, q6⟩ := rruns_nil _ _ _ _ _ _ _ _ hy List.length_replicate (by omega)
 refine ⟨n, c, ⟨q1, fun j hj => by have := q4 j (by omega) hj; omega, by omega, by omega, by omega, x1, x2, x3⟩, ?_⟩
 unfold imgG
 rw [x1, q6, show (2 * (m + 1) / 2 : Nat) = m + 1 by omega, q5, x4, show (((m + 1 : Nat) : Int) - 1) = (m : Int) by omega]
 simp
theorem preI_of {C : List Int} {N : List (List Int)} {E : List Bool} {n c : Nat} (h : Pre C N E n c) (r : List Int) : preI (imgG c C N E ++ r) = ⟨C, .nil, r, N, E⟩ := by
 obtain ⟨m, m1, m2⟩ := rruns_of ((c : Int) + 1) C (rowsB N E ++ r) h.cl (fun j hj => by have := h.cv j hj; omega) 255 0 (-1) rep0 (by omega) (by omega) List.length_replicate (fun j hj => absurd hj (by omega)) (by have := h.cv 0 (by omega); omega)
 have hle := runsI_len C 256 0
 have hm : m ≤ 255 := by rw [show 256 = 256 - 0 from rfl] at hle; omega
 have h3 := h.c2; have h4 := h.n1; have h5 := h.n2; have h6 := h.nl
 unfold imgG preI
 rw [show 256 - 0 = 256 from rfl] at m1 m2
 rw [m1, show (2 * (m + 1) / 2 : Nat) = m + 1 by omega, show (((m + 1 : Nat) : Int) - 1) = (m : Int) by omega, h6]
 have rbk : ∀ (f t x : Int) (r : List Int), f ≤ x → x ≤ t → rb f t (x :: r) = (x, .nil, r) := by
  intro f t x r h1 h2
  rw [show rb f t (x :: r) = (bif decide (x < f) || decide (t < x) then (0, BADI 3, r) else (x, .nil, r)) from rfl, decide_eq_false (by omega), decide_eq_false (by omega)]; rfl
 have e1 : rb 1 20 ((n : Int) :: (c : Int) :: (m : Int) :: (runsI C 0 256 ++ rowsB N E) ++ r) = ((n : Int), .nil, (c : Int) :: (m : Int) :: (runsI C 0 256 ++ (rowsB N E ++ r))) := by
  rw [List.cons_append, List.cons_append, List.cons_append, List.append_assoc]; exact rbk _ _ _ _ (by omega) (by omega)
 rw [e1]
 simp only [nn0, cond_false]
 rw [rbk 0 255 (c : Int) _ (by omega) (by omega)]
 simp only [nn0, cond_false]
 have e2 : runsr ((c : Int) + 1) ((m : Int) :: (runsI C 0 256 ++ (rowsB N E ++ r))) = (C, .nil, rowsB N E ++ r) := by
  unfold runsr
  rw [rbk 0 255 (m : Int) _ (by omega) (by omega)]
  simp only [nn0, cond_false, Int.toNat_natCast]
  rw [m2]
 rw [e2]
 simp only [nn0, cond_false, Int.toNat_natCast]
 have := rrows_of (n : Int) c N E [] [] r (by have := h.el; omega) h.row
 rw [h6] at this
 rw [this]
 rfl
theorem rowsB_len : ∀ (N : List (List Int)) (E : List Bool) (c : Nat), N.length = E.length → (∀ x ∈ N, x.length = c) → (rowsB N E).length = N.length * (c + 1)
 | [], [], c, _, _ => by simp [rowsB]
 | [], _ :: _, c, h, _ => by simp at h
 | _ :: _, [], c, h, _ => by simp at h
 | x :: N, e :: E, c, h, hx => by
  show (_ :: (x ++ rowsB N E)).length = _
  rw [List.length_cons, List.length_append, rowsB_len N E c (by simpa using h) fun y hy => hx y (by simp [hy]), hx x (by simp), List.length_cons, Nat.add_mul, Nat.one_mul]
  omega
theorem rowsB_isB : ∀ (N : List (List Int)) (E : List Bool), (∀ x ∈ N, ∀ y ∈ x, 0 ≤ y ∧ y ≤ 255) → isB (rowsB N E)
 | [], _, _ => by unfold rowsB; intro y hy; simp at hy
 | x :: N, [], _ => by unfold rowsB; intro y hy; simp at hy
 | x :: N, e :: E, h => by
  intro y hy
  rw [show rowsB (x :: N) (e :: E) = (bif e then 1 else 0) :: (x ++ rowsB N E) from rfl] at hy
  rcases List.mem_cons.1 hy with rfl | hy
  ·cases e <;> simp
  rcases List.mem_append.1 hy with hy | hy
  ·have := h x (by simp) y hy; omega
  ·exact rowsB_isB N E (fun z hz => h z (by simp [hz])) y hy
theorem runsI_isB (C : List Int) (hv : ∀ j, j < 256 → 0 ≤ C.getD j 0 ∧ C.getD j 0 ≤ 255) : ∀ (m i : Nat), i + m ≤ 256 → isB (runsI C i m)
 | 0, i, _ => by unfold runsI; intro y hy; simp at hy
 | m + 1, i, h => by
  rw [runsI_succ]
  intro y hy
  rcases List.mem_append.1 hy with hy | hy
  ·unfold cellI at hy
   cases hc : decide (i = 255) || !decide (C.getD (i + 1) 0 = C.getD i 0) with
   | false => rw [hc] at hy; simp at hy
   | true =>
    rw [hc, cond_true] at hy
    have := hv i (by omega)
    rcases List.mem_cons.1 hy with rfl | hy
    ·unfold b8; rw [IntKind.wrap_u8]; omega
    ·rw [List.mem_singleton.1 hy]; omega
  ·exact runsI_isB C hv m (i + 1) (by omega) y hy
theorem imgG_ib {C : List Int} {N : List (List Int)} {E : List Bool} {n c : Nat} (h : Pre C N E n c) : isB (imgG c C N E) ∧ (imgG c C N E).length ≤ 6000 ∧ 1 ≤ (imgG c C N E).length := by
 have h3 := h.c2; have h4 := h.n1; have h5 := h.n2; have h6 := h.nl; have h7 := h.el
 have hle := runsI_len C 256 0
 have hln := rowsB_len N E (c + 1) (by omega) fun x hx => (h.row x hx).1
 have hmul : N.length * (c + 1 + 1) ≤ 20 * 257 := Nat.mul_le_mul (by omega) (by omega)
 refine ⟨fun y hy => ?_, ?_, ?_⟩
 ·unfold imgG at hy
  obtain ⟨m, m1, _⟩ := rruns_of ((c : Int) + 1) C [] h.cl (fun j hj => by have := h.cv j hj; omega) 255 0 (-1) rep0 (by omega) (by omega) List.length_replicate (fun j hj => absurd hj (by omega)) (by have := h.cv 0 (by omega); omega)
  rw [show 256 - 0 = 256 from rfl] at m1
  rcases List.mem_cons.1 hy with rfl | hy
  ·omega
  rcases List.mem_cons.1 hy with rfl | hy
  ·omega
  rcases List.mem_cons.1 hy with rfl | hy
  ·omega
  rcases List.mem_append.1 hy with hy | hy
  ·exact runsI_isB C (fun j hj => by have := h.cv j hj; omega) 256 0 (by omega) y hy
  ·exact rowsB_isB N E (fun x hx z hz => by have := (h.row x hx).2 z hz; omega) y hy
 ·unfold imgG
  simp only [List.length_cons, List.length_append]; omega
 ·unfold imgG; simp
theorem imgI_G {C : List Int} {N : List (List Int)} {E : List Bool} {n c : Nat} (h : Pre C N E n c) : imgI C N E (c + 1) = imgG c C N E := by
 have h3 := h.c2; have h4 := h.n1; have h5 := h.n2; have h6 := h.nl; have h7 := h.el
 have hle := runsI_len C 256 0
 obtain ⟨m, m1, _⟩ := rruns_of ((c : Int) + 1) C [] h.cl (fun j hj => by have := h.cv j hj; omega) 255 0 (-1) rep0 (by omega) (by omega) List.length_replicate (fun j hj => absurd hj (by omega)) (by have := h.cv 0 (by omega); omega)
 rw [show 256 - 0 = 256 from rfl] at m1
 unfold imgI imgG
 rw [rowsI_B N E (by omega) (fun x hx z hz => by have := (h.row x hx).2 z hz; omega) N.length 0 (by omega), List.drop_zero, List.drop_zero]
 have e1 : b8 (N.length : Int) = (N.length : Int) := by unfold b8; rw [IntKind.wrap_u8]; omega
 have e2 : b8 (((c + 1 : Nat) : Int) - 1) = (c : Int) := by unfold b8; rw [IntKind.wrap_u8]; omega
 have e3 : b8 ((((runsI C 0 256).length / 2 : Nat) : Int) - 1) = (((runsI C 0 256).length / 2 : Nat) : Int) - 1 := by unfold b8; rw [IntKind.wrap_u8]; omega
 rw [e1, e2]
 have e3' : b8 (((runsI C 0 256).length / 2 : Int) - 1) = (((runsI C 0 256).length / 2 : Nat) : Int) - 1 := by rw [← e3]; congr 1
 rw [e3']
 simp
end Go.Ab.T

/- Machines of any kind: which may be. -/
namespace Go.Ab.T
open Go Go.Ab
set_option linter.unusedVariables false
set_option linter.unusedSimpArgs false
def isC (C : List Int) : Prop := C.length = 256 ∧ ∀ j, j < 256 → 0 ≤ C.getD j 0 ∧ C.getD j 0 ≤ 255
theorem mxTo_spec {C : List Int} (h : isC C) : ∀ c, c < 256 → 0 ≤ mxTo C c ∧ mxTo C c ≤ 255 ∧ (∀ b, b ≤ c → C.getD b 0 ≤ mxTo C c) ∧ ∃ b, b ≤ c ∧ C.getD b 0 = mxTo C c
 | 0, hc => by
  have := h.2 0 hc
  exact ⟨this.1, this.2, fun b hb => by rw [show b = 0 by omega]; exact Int.le_refl _, 0, by omega, rfl⟩
 | c + 1, hc => by
  obtain ⟨h1, h2, h3, b, h4, h5⟩ := mxTo_spec h c (by omega)
  have := h.2 (c + 1) hc
  simp only [mxTo, mx]
  by_cases hm : mxTo C c < C.getD (c + 1) 0 ∨ mxTo C c = C.getD (c + 1) 0
  ·refine ⟨by split <;> omega, by split <;> omega, fun b' hb' => ?_, c + 1, by omega, by split <;> omega⟩
   by_cases hb : b' = c + 1
   ·subst hb; split <;> omega
   ·have := h3 b' (by omega); split <;> omega
  ·refine ⟨by split <;> omega, by split <;> omega, fun b' hb' => ?_, b, by omega, by split <;> omega⟩
   by_cases hb : b' = c + 1
   ·subst hb; split <;> omega
   ·have := h3 b' (by omega); split <;> omega
section
variable {R : Type} {C : List Int} {N : List (List Int)} {E : List Bool} {k m : Nat}
theorem max_gen (h : isC C) (kf : Nat) (hkf : 3000 ≤ kf) (K : Int → Option R) : yy40 kf C K = K (mxTo C 255) := by
 unfold yy40 yy40_b
 have hl := h.1
 rw [decide_eq_false (show ¬ ((C.length : Int) < 1) by omega)]
 simp only [cond_false]
 rw [gdd (by omega)]
 refine loop_inv (fun kk c acc => yy40_l5 kf kk C (fun v5 => K v5) acc (c : Int)) _ 256 0 (fun c acc => 1 ≤ c ∧ acc = mxTo C (c - 1)) ?_ ?_ 255 kf 1 (C.getD 0 0) (by omega) (by omega) ⟨by omega, rfl⟩
 ·rintro kk acc ⟨_, rfl⟩
  have hd : decide (((256 : Nat) : Int) < (C.length : Int)) = false := decide_eq_false (by omega)
  simp only [yy40_l5, yy40_l5_b, hd, cond_false]
 ·rintro kk c acc _ hc ⟨h1, rfl⟩
  left
  have hd : decide ((c : Int) < (C.length : Int)) = true := decide_eq_true (by omega)
  have g1 : decide (0 ≤ (c : Int)) = true := decide_eq_true (by omega)
  refine ⟨mx (mxTo C (c - 1)) (C.getD c 0), ⟨by omega, ?_⟩, ?_⟩
  ·obtain ⟨d, rfl⟩ : ∃ d, c = d + 1 := ⟨c - 1, by omega⟩
   rfl
  ·simp only [yy40_l5, yy40_l5_b, hd, g1, gd, cond_true, Int.toNat_natCast, wi_1 c (show c < 4000000000000000000 by omega)]
theorem classes_gen (h : isC C) (kf : Nat) (hkf : 3000 ≤ kf) (K : Int → Option R) : yy22 kf C N E K = K (mxTo C 255 + 1) := by
 unfold yy22 yy22_b
 rw [max_gen h kf hkf]
 obtain ⟨h1, h2, _⟩ := mxTo_spec h 255 (by omega)
 have e : IntKind.i64.wrap (IntKind.i64.wrap (mxTo C 255) + 1) = mxTo C 255 + 1 := by
  simp only [IntKind.wrap_i64]; omega
 rw [e]
def inR (k : Nat) (l : List Int) : Bool := l.all fun x => decide (0 ≤ x) && decide (x < (k : Int))
theorem inR_iff {k : Nat} {l : List Int} : inR k l = true ↔ ∀ a, a < l.length → ∃ t : Nat, t < k ∧ l.getD a 0 = (t : Int) := by
 unfold inR
 rw [List.all_eq_true]
 constructor
 ·intro h a ha
  have := h _ (getD_mem l a ha 0)
  simp only [Bool.and_eq_true, decide_eq_true_eq] at this
  obtain ⟨t, ht⟩ := Int.eq_ofNat_of_zero_le this.1
  exact ⟨t, by omega, ht⟩
 ·intro h x hx
  obtain ⟨a, ha, rfl⟩ := List.getElem_of_mem hx
  obtain ⟨t, h1, h2⟩ := h a ha
  rw [List.getD_eq_getElem?_getD, List.getElem?_eq_getElem ha] at h2
  simp only [Option.getD_some] at h2
  rw [h2]; simp; omega
theorem contains_gen (kf : Nat) (hkf : 3000 ≤ kf) (l : List Int) (hl : l.length ≤ 2000) (K : Bool → Int → Option R) :
  yy34 kf l (k : Int) K = K (!inR k l) (k : Int) := by
 by_cases hin : inR k l = true
 ·rw [hin]
  have hr := inR_iff.1 hin
  unfold yy34 yy34_b yy39 yy39_b
  refine loop_inv (fun kk c (_ : Unit) => yy39_l2 kf kk l (l.length : Int) (fun (v9 : Int) (v10 : Int) => K (decide (0 ≤ v9)) v10) (fun (v11 : Int) => K (decide (0 ≤ (-1 : Int))) v11) (c : Int) (k : Int)) _ l.length 0 (fun _ _ => True) ?_ ?_ l.length kf 0 () (by omega) (by omega) trivial
  ·intro kk _ _
   have hd : decide ((l.length : Int) < (l.length : Int)) = false := decide_eq_false (by omega)
   simp only [yy39_l2, yy39_l2_b, hd, cond_false]
   rfl
  ·intro kk c _ _ hc _
   left
   refine ⟨(), trivial, ?_⟩
   obtain ⟨t, h1, h2⟩ := hr c hc
   have hd : decide ((c : Int) < (l.length : Int)) = true := decide_eq_true (by omega)
   have g1 : decide (0 ≤ (c : Int)) = true := decide_eq_true (by omega)
   have g2 : decide ((t : Int) < 0) = false := decide_eq_false (by omega)
   have g3 : decide ((k : Int) ≤ (t : Int)) = false := decide_eq_false (by omega)
   simp only [yy39_l2, yy39_l2_b, yy19, yy19_b, hd, g1, gd, cond_true, cond_false, Int.toNat_natCast, h2, g2, g3, wi_1 c (show c < 4000000000000000000 by omega)]
 ·have hf : inR k l = false := by revert hin; cases inR k l <;> simp
  rw [hf]
  unfold yy34 yy34_b yy39 yy39_b
  refine loop_inv (fun kk c (_ : Unit) => yy39_l2 kf kk l (l.length : Int) (fun (v9 : Int) (v10 : Int) => K (decide (0 ≤ v9)) v10) (fun (v11 : Int) => K (decide (0 ≤ (-1 : Int))) v11) (c : Int) (k : Int)) _ l.length 0 (fun c _ => ∀ a, a < c → ∃ t : Nat, t < k ∧ l.getD a 0 = (t : Int)) ?_ ?_ l.length kf 0 () (by omega) (by omega) (fun a ha => absurd ha (by omega))
  ·intro kk _ hall
   exact absurd (inR_iff.2 hall) hin
  ·intro kk c _ _ hc hall
   have hd : decide ((c : Int) < (l.length : Int)) = true := decide_eq_true (by omega)
   have g1 : decide (0 ≤ (c : Int)) = true := decide_eq_true (by omega)
   by_cases h1 : l.getD c 0 < 0
   ·right
    simp only [yy39_l2, yy39_l2_b, yy19, yy19_b, hd, g1, gd, cond_true, cond_false, Int.toNat_natCast, decide_eq_true h1, Bool.not_false]
   by_cases h2 : (k : Int) ≤ l.getD c 0
   ·right
    simp only [yy39_l2, yy39_l2_b, yy19, yy19_b, hd, g1, gd, cond_true, cond_false, Int.toNat_natCast, decide_eq_false h1, decide_eq_true h2, Bool.not_false]
   ·left
    obtain ⟨t, ht⟩ := Int.eq_ofNat_of_zero_le (show 0 ≤ l.getD c 0 by omega)
    refine ⟨(), fun a ha => ?_, ?_⟩
    ·by_cases hac : a = c
     ·subst hac; exact ⟨t, by omega, ht⟩
     ·exact hall a (by omega)
    ·simp only [yy39_l2, yy39_l2_b, yy19, yy19_b, hd, g1, gd, cond_true, cond_false, Int.toNat_natCast, decide_eq_false h1, decide_eq_false h2, wi_1 c (show c < 4000000000000000000 by omega)]
theorem may_any (hC : isC C) (hr : ∀ s, s < N.length → (N.getD s []).length ≤ 2000) (kf : Nat) (hkf : 3000 ≤ kf) : (∃ k m, Mch C N E k m) ∨ ((¬ ∃ k m, Mch C N E k m) ∧ ∀ K : Bool → Option R, yy18 kf C N E K = K false) := by
 unfold yy18 yy18_b
 by_cases h1 : (N.length : Int) < 1
 ·right; refine ⟨fun ⟨k, m, h⟩ => by have := h.nl; have := h.k1; omega, ?_⟩; intro K; rw [decide_eq_true h1]; rfl
 by_cases h2 : (2000 : Int) < (N.length : Int)
 ·right; refine ⟨fun ⟨k, m, h⟩ => by have := h.nl; have := h.k2; omega, ?_⟩; intro K; rw [decide_eq_false h1, decide_eq_true h2]; rfl
 by_cases h3 : (E.length : Int) = (N.length : Int)
 rotate_left
 ·right; refine ⟨fun ⟨k, m, h⟩ => by have := h.nl; have := h.el; omega, ?_⟩; intro K; rw [decide_eq_false h1, decide_eq_false h2, decide_eq_false h3]; rfl
 obtain ⟨m1, m2, m3, b, m4, m5⟩ := mxTo_spec hC 255 (by omega)
 obtain ⟨m, hm⟩ := Int.eq_ofNat_of_zero_le m1
 by_cases hall : ∀ s, s < N.length → (N.getD s []).length = m + 1 ∧ inR N.length (N.getD s []) = true
 ·left
  refine ⟨N.length, m + 1, hC.1, fun b hb => ?_, ⟨b, by omega, by rw [m5, hm]; rfl⟩, rfl, by omega, by omega, by omega, by omega, by omega, fun s hs => ?_⟩
  ·obtain ⟨a, ha⟩ := Int.eq_ofNat_of_zero_le (hC.2 b hb).1
   have := m3 b (by omega)
   exact ⟨a, by omega, ha⟩
  ·obtain ⟨a1, a2⟩ := hall s hs
   exact ⟨a1, fun a ha => inR_iff.1 a2 a (by omega)⟩
 ·right
  refine ⟨fun ⟨k', m', h⟩ => hall fun s hs => ?_, ?_⟩
  ·have e1 := h.mx_eq
   have e2 := h.m1
   have e3 := h.nl
   obtain ⟨r1, r2⟩ := h.row s (by omega)
   exact ⟨by omega, inR_iff.2 fun a ha => by rw [e3]; exact r2 a (by omega)⟩
  intro K
  rw [decide_eq_false h1, decide_eq_false h2, decide_eq_true h3]
  simp only [cond_false, Bool.not_true]
  rw [classes_gen hC kf hkf, hm]
  refine loop_inv (fun kk c (_ : Unit) => yy18_l6 kf kk ((m : Int) + 1) N (N.length : Int) (fun (v16 : Bool) => K v16) (K true) (c : Int) (N.length : Int)) _ N.length 0 (fun c _ => ∀ s, s < c → (N.getD s []).length = m + 1 ∧ inR N.length (N.getD s []) = true) ?_ ?_ N.length kf 0 () (by omega) (by omega) (fun s hs => absurd hs (by omega))
  ·intro kk _ h; exact absurd h hall
  ·intro kk c _ _ hc h
   have hd : decide ((c : Int) < (N.length : Int)) = true := decide_eq_true (by omega)
   have g1 : decide (0 ≤ (c : Int)) = true := decide_eq_true (by omega)
   have hc2 := contains_gen (R := R) (k := N.length) kf hkf (N.getD c []) (hr c hc)
   by_cases hlen : (N.getD c []).length = m + 1
   rotate_left
   ·right
    have hl : decide (((N.getD c []).length : Int) = (m : Int) + 1) = false := decide_eq_false (by omega)
    simp only [yy18_l6, yy18_l6_b, hd, g1, gd, cond_true, Int.toNat_natCast, hl, Bool.not_false]
   have hl : decide (((N.getD c []).length : Int) = (m : Int) + 1) = true := decide_eq_true (by omega)
   cases hin : inR N.length (N.getD c []) with
   | false =>
    right
    rw [hin] at hc2
    simp only [yy18_l6, yy18_l6_b, hd, g1, gd, cond_true, Int.toNat_natCast, hl, Bool.not_true, cond_false, hc2, Bool.not_false]
   | true =>
    left
    rw [hin] at hc2
    refine ⟨(), fun s hs => ?_, ?_⟩
    ·by_cases hsc : s = c
     ·subst hsc; exact ⟨hlen, hin⟩
     ·exact h s (by omega)
    ·simp only [yy18_l6, yy18_l6_b, hd, g1, gd, cond_true, Int.toNat_natCast, hl, Bool.not_true, cond_false, hc2, wi_1 c (show c < 4000000000000000000 by omega)]
end
end Go.Ab.T

/- Images: Take, whole; what is begun. -/
namespace Go.Ab.T
open Go Go.Ab
set_option linter.unusedVariables false
set_option linter.unusedSimpArgs false
theorem Canon.pre {C : List Int} {N : List (List Int)} {E : List Bool} {n m : Nat} (h : Canon C N E n m) (hn : n ≤ 20) : Pre C N E n (m - 1) ∧ m - 1 + 1 = m := by
 have hM := h.mch
 have h1 := hM.m1; have h2 := hM.m2; have h3 := hM.nl
 refine ⟨⟨hM.cl, fun j hj => ?_, by omega, hM.k1, hn, hM.nl, hM.el, fun x hx => ?_⟩, by omega⟩
 ·obtain ⟨a, a1, a2⟩ := hM.clr j hj; omega
 ·obtain ⟨s, hs, rfl⟩ := List.getElem_of_mem hx
  have e : N.getD s [] = N[s] := by rw [List.getD_eq_getElem?_getD, List.getElem?_eq_getElem hs]; rfl
  obtain ⟨r1, r2⟩ := hM.row s (by omega)
  rw [e] at r1 r2
  refine ⟨by omega, fun y hy => ?_⟩
  obtain ⟨a, ha, rfl⟩ := List.getElem_of_mem hy
  obtain ⟨t, t1, t2⟩ := r2 a (by omega)
  rw [List.getD_eq_getElem?_getD, List.getElem?_eq_getElem ha] at t2
  simp only [Option.getD_some] at t2
  omega
theorem Pre.isC {C : List Int} {N : List (List Int)} {E : List Bool} {n c : Nat} (h : Pre C N E n c) : isC C := ⟨h.cl, fun j hj => by have := h.cv j hj; have := h.c2; omega⟩
theorem Pre.rows {C : List Int} {N : List (List Int)} {E : List Bool} {n c : Nat} (h : Pre C N E n c) : ∀ s, s < N.length → (N.getD s []).length ≤ 2000 := fun s hs => by
 have := (h.row _ (getD_mem N s hs [])).1
 have := h.c2
 omega
theorem take_img {R : Type} {C : List Int} {N : List (List Int)} {E : List Bool} {n m : Nat} (h : Canon C N E n m) (hn : n ≤ 20) (kf : Nat) (hkf : 20000 ≤ kf) (K : List Int → Int → List (List Int) → List Bool → Option R) : yy2 kf (imgI C N E m) K = K C 0 N E := by
 obtain ⟨hp, hm⟩ := h.pre hn
 have e := imgI_G hp
 rw [hm] at e
 obtain ⟨i1, i2, _⟩ := imgG_ib hp
 rw [e, take_ok kf (by omega) _ ⟨i1, by omega⟩]
 have := preI_of hp []
 rw [List.append_nil] at this
 rw [this]
 dsimp only
 rw [nn0, cond_false, decide_eq_false (by simp), cond_false, is_canon h kf hkf, Bool.not_true, cond_false]
theorem rep0_getD (j : Nat) : rep0.getD j 0 = 0 := getD_rep 256 j 0
theorem one_mch (e : Bool) : Mch rep0 [[0]] [e] 1 1 where
 cl := List.length_replicate
 clr := fun b hb => ⟨0, by omega, rep0_getD _⟩
 top := ⟨0, by omega, rep0_getD _⟩
 nl := rfl
 el := rfl
 k1 := by omega
 k2 := by omega
 m1 := by omega
 m2 := by omega
 row := by
  intro s hs
  have : s = 0 := by omega
  subst this
  exact ⟨rfl, fun a ha => ⟨0, by omega, by
  have : a = 0 := by omega
  subst this; rfl⟩⟩
theorem rep0_gap : gapless rep0 := fun a b hb h => ⟨0, by omega, by rw [rep0_getD] at h ⊢; omega⟩
theorem rep0_rep {b : Nat} (h : isRep rep0 b) : b = 0 := by
 by_cases hb : b = 0
 ·exact hb
 ·exact absurd (by rw [rep0_getD, rep0_getD]) (h 0 (by omega))
theorem one_canon (e : Bool) : Canon rep0 [[0]] [e] 1 1 where
 mch := one_mch e
 gap := rep0_gap
 ord := ⟨fun _ => [], fun j hj => ⟨fun b hb => (nomatch hb), by show 0 = j; omega, fun v _ _ => by rw [code_nil]; omega⟩, fun i j h1 h2 => by omega⟩
 dist := fun i j hi hj _ => by omega
 cls := fun b b' _ _ _ => by rw [rep0_getD, rep0_getD]
 num := fun b hb h => by rw [rep0_rep h, rep0_getD]; rfl
theorem rep0_runs : runsI rep0 0 256 = [255, 0] := seg rep0 0 255 (by omega) (Or.inl rfl) 255 0 (by omega) fun j _ _ => rep0_getD j
theorem one_img (e : Bool) : imgI rep0 [[0]] [e] 1 = [1, 0, 0, 255, 0, bif e then 1 else 0, 0] := by
 unfold imgI
 rw [rep0_runs]
 rfl
theorem size_ok {R : Type} (kf : Nat) (C : List Int) (N : List (List Int)) (E : List Bool) (K : Int → Option R) : yy1 kf C N E K = yy0 kf C N E fun _ v => K (v.length : Int) := rfl
theorem begun15_ok {R : Type} (kf : Nat) (hkf : 20000 ≤ kf) (K : Bool → Option R) : yy10 kf K = K true := by
 unfold yy10 yy10_b
 have hc := one_canon false
 have hi := one_img false
 rw [put_canon hc (by omega) kf hkf, take_img hc (by omega) kf hkf]
 rw [hi, size_ok, put_canon hc (by omega) kf hkf, hi]
 rfl
end Go.Ab.T
