/- Shown: a class by its runs. -/
import Derived.Test.YtlihheeknnnbmaaDoorShSet
namespace Go.Ab.T
open Go Go.Ab
set_option linter.unusedVariables false
set_option linter.unusedSimpArgs false
set_option maxRecDepth 20000

abbrev ZS : List Int := List.replicate 4 (0 : Int)
abbrev Sd := Rose (Int × ((List Int) × Unit))
theorem plain_set {R : Type} (kf : Nat) (s : List Int) (hz : decide (s = ZS) = false) (K : Bool → Option R) : rx_Plain (kf + 10) 3 s [] K = K true := by
  unfold rx_Plain rx_Plain_b
  simp only [hz, Int.reduceEq, decide_true, decide_false, cond_true, cond_false, Bool.not_false]
  rfl
theorem bad_star {R : Type} (kf : Nat) (s : List Int) (K : Bool → Option R) : rx_bad (kf + 20) [(Rose.node (3, s, ()) [] : Sd)] [6, 1, 2] K = K false := rfl
theorem gd1 (x d : Sd) : [x].getD (Int.toNat 0) d = x := rfl
theorem plain_star {R : Type} (kf : Nat) (s : List Int) (hz : decide (s = ZS) = false) (K : Bool → Option R) : rx_Plain (kf + 21) 6 ZS [(Rose.node (3, s, ()) [] : Sd)] K = K true := by
  have hzz : decide (ZS = List.replicate 4 (0 : Int)) = true := rfl
  have hc : ∀ K : Bool → Option R, slices_ContainsFunc_api_Rx_api_Rx_s1 (rx_Plain (kf + 20)) (kf + 20) [(Rose.node (3, s, ()) [] : Sd)] K = K false := by
    intro K
    unfold slices_ContainsFunc_api_Rx_api_Rx_s1 slices_ContainsFunc_api_Rx_api_Rx_s1_b slices_IndexFunc_api_Rx_api_Rx_s1 slices_IndexFunc_api_Rx_api_Rx_s1_b
    unfold slices_IndexFunc_api_Rx_api_Rx_s1_l2 slices_IndexFunc_api_Rx_api_Rx_s1_l2_b
    have hp := plain_set (R := R) (kf + 10) s hz
    rw [show decide ((0 : Int) < (([(Rose.node (3, s, ()) [] : Sd)].length : Nat) : Int)) = true from rfl, cond_true, gd_true (decide_eq_true (Int.le_refl 0)), gd_true rfl, gd1]
    unfold rx_Plain_1 rx_Plain_1_b
    dsimp only [Rose.lab, Rose.kids]
    rw [show kf + 20 = kf + 10 + 10 from rfl, hp, Bool.not_true, cond_false]
    unfold slices_IndexFunc_api_Rx_api_Rx_s1_l2 slices_IndexFunc_api_Rx_api_Rx_s1_l2_b
    rw [show decide (IntKind.i64.wrap ((0 : Int) + 1) < (([(Rose.node (3, s, ()) [] : Sd)].length : Nat) : Int)) = false from rfl, cond_false]
    rfl
  unfold rx_Plain rx_Plain_b
  have hb := bad_star (R := R) kf s
  simp only [hzz, hb, hc, Int.reduceEq, decide_true, decide_false, cond_true, cond_false, Bool.not_false, Bool.not_true]
  rfl
theorem plain_empty {R : Type} (kf : Nat) (K : Bool → Option R) : rx_Plain (kf + 10) 2 ZS [] K = K true := rfl

theorem put_s {R : Type} (s : List Int) (b : List Int) (h : b.length + s.length ≤ 4000) (K : Bool → List Int → Option R) : show_writer_put s false b K = K false (b ++ s) := by
  unfold show_writer_put show_writer_put_b
  rw [gd_true (decide_eq_true (by show _ < 17179869184; omega)), decide_eq_false (by rw [List.length_append]; omega), cond_false]

theorem idxB_none : ∀ (l : List Int) (c : Int), (∀ x ∈ l, x ≠ c) → idxB l c = -1
  | [], c, _ => rfl
  | x :: r, c, h => by
    unfold idxB
    rw [decide_eq_false (h x (by simp)), cond_false, idxB_none r c fun y hy => h y (by simp [hy])]
    rfl
theorem sign_s {R : Type} (c : Int) (h : 97 ≤ c ∧ c ≤ 122) (K : List Int → Option R) : show_sign c K = K [c] := by
  have hi : idxB [92, 124, 42, 43, 63, 40, 41, 91, 93, 94, 45, 46] c = -1 := idxB_none _ c fun x hx => by simp at hx; omega
  unfold show_sign show_sign_b
  rw [hi, show decide ((0 : Int) ≤ -1) = false from rfl, cond_false, decide_eq_false (by omega : ¬ c < 32), cond_false, decide_eq_false (by omega : ¬ (126 : Int) < c), cond_false]

def run (f n : Nat) : List Int := (List.range' f n).map fun b : Nat => (b : Int)
theorem run_len (f n : Nat) : (run f n).length = n := by simp [run]
theorem run_getD (f n i : Nat) (h : i < n) : (run f n).getD i 0 = ((f + i : Nat) : Int) := by
  unfold run
  rw [List.getD_eq_getElem?_getD, List.getElem?_map, List.getElem?_range' h]
  simp
theorem listOf_run (f t : Nat) (h : f ≤ t) (ht : t < 256) : listOf (fun b => decide (f ≤ b ∧ b ≤ t)) = run f (t - f + 1) := by
  unfold listOf run
  congr 1
  have e : List.range 256 = List.range' 0 f ++ (List.range' f (t - f + 1) ++ List.range' (t + 1) (255 - t)) := by
    rw [List.range_eq_range']
    have h1 : List.range' f (t - f + 1) ++ List.range' (t + 1) (255 - t) = List.range' f (256 - f) := by
      have := List.range'_append_1 (s := f) (m := t - f + 1) (n := 255 - t)
      rw [show f + (t - f + 1) = t + 1 by omega, show t - f + 1 + (255 - t) = 256 - f by omega] at this
      exact this
    rw [h1]
    have := List.range'_append_1 (s := 0) (m := f) (n := 256 - f)
    rw [show 0 + f = f by omega, show f + (256 - f) = 256 by omega] at this
    exact this.symm
  rw [e, List.filter_append, List.filter_append]
  have a1 : (List.range' 0 f).filter (fun b => decide (f ≤ b ∧ b ≤ t)) = [] := by
    rw [List.filter_eq_nil_iff]; intro b hb; rw [List.mem_range'_1] at hb; simp; omega
  have a2 : (List.range' f (t - f + 1)).filter (fun b => decide (f ≤ b ∧ b ≤ t)) = List.range' f (t - f + 1) := by
    rw [List.filter_eq_self]; intro b hb; rw [List.mem_range'_1] at hb; simp; omega
  have a3 : (List.range' (t + 1) (255 - t)).filter (fun b => decide (f ≤ b ∧ b ≤ t)) = [] := by
    rw [List.filter_eq_nil_iff]; intro b hb; rw [List.mem_range'_1] at hb; simp; omega
  rw [a1, a2, a3]; simp

theorem wi1s (n : Nat) (h : n < 4000000000000000000) : IntKind.i64.wrap ((n : Int) + 1) = ((n + 1 : Nat) : Int) := by rw [IntKind.wrap_i64]; omega
theorem set_l11 {R : Type} (kf : Nat) (f n : Nat) (hf : f + n ≤ 200) (i0 : Int) (o : Bool) (b : List Int) (Ke : Int → Int → Bool → List Int → List Int → Option R) : ∀ (m k i : Nat), i + m + 1 = n → m < k →
    show_writer_set_l11 kf k i0 o (run f n) b Ke (i : Int) = Ke i0 ((n - 1 : Nat) : Int) o (run f n) b
  | m, 0, i, _, h => by omega
  | 0, k + 1, i, hi, _ => by
    unfold show_writer_set_l11 show_writer_set_l11_b
    rw [wi1s i (by omega), run_len, decide_eq_false (by omega), cond_false, show i = n - 1 by omega]
  | m + 1, k + 1, i, hi, hk => by
    unfold show_writer_set_l11 show_writer_set_l11_b
    rw [wi1s i (by omega), run_len, decide_eq_true (by omega : ((i + 1 : Nat) : Int) < (n : Int)), cond_true, gd_true (decide_eq_true (by omega)), gd_true rfl, gd_true (decide_eq_true (by omega)), gd_true (decide_eq_true (by omega))]
    rw [show Int.toNat ((i + 1 : Nat) : Int) = i + 1 from rfl, show Int.toNat (i : Int) = i from rfl, run_getD f n (i + 1) (by omega), run_getD f n i (by omega)]
    rw [show IntKind.u8.wrap (((f + i : Nat) : Int) + 1) = ((f + (i + 1) : Nat) : Int) by rw [IntKind.wrap_u8]; omega, decide_eq_true rfl, cond_true]
    exact set_l11 kf f n hf i0 o b Ke m k (i + 1) (by omega) (by omega)

def txt (f t : Nat) : List Int := if f = t then [(f : Int)] else if t = f + 1 then [91, (f : Int), (t : Int), 93] else [91, (f : Int), 45, (t : Int), 93]
theorem set_s {R : Type} (kf : Nat) (hkf : 2000 ≤ kf) (f t : Nat) (h : f ≤ t) (hf : 97 ≤ f) (ht : t ≤ 122) (K : Bool → List Int → Option R) :
    show_writer_set kf (setOf fun b => decide (f ≤ b ∧ b ≤ t)) false [] K = K false (txt f t) := by
  unfold show_writer_set show_writer_set_b txt
  rw [list_s kf (by omega), listOf_run f t h (by omega)]
  rw [run_len, decide_eq_false (by omega : ¬ ((t - f + 1 : Nat) : Int) = 256), cond_false]
  by_cases h1 : f = t
  · subst h1
    have hl : (run f (f - f + 1)).getD 0 0 = (f : Int) := run_getD f (f - f + 1) 0 (by omega)
    rw [decide_eq_true (by omega), cond_true, gd_true (decide_eq_true (by omega)), hl, sign_s _ (by omega), put_s _ _ (by simp), if_pos rfl]
    rfl
  · rw [decide_eq_false (by omega), cond_false, put_s _ _ (by simp), if_neg h1, List.nil_append]
    obtain ⟨kf, rfl⟩ : ∃ k', kf = k' + 2 := ⟨kf - 2, by omega⟩
    have hn := run_len f (t - f + 1)
    have g0 : (run f (t - f + 1)).getD 0 0 = (f : Int) := run_getD f (t - f + 1) 0 (by omega)
    have g1 : (run f (t - f + 1)).getD (t - f) 0 = (t : Int) := by rw [run_getD f (t - f + 1) (t - f) (by omega), show f + (t - f) = t by omega]
    unfold show_writer_set_l9 show_writer_set_l9_b
    rw [hn, decide_eq_true (by omega), cond_true]
    refine (set_l11 (kf + 2) f (t - f + 1) (by omega) 0 false _ _ (t - f) (kf + 1) 0 (by omega) (by omega)).trans ?_
    dsimp only
    rw [hn, show t - f + 1 - 1 = t - f by omega]
    rw [gd_true (decide_eq_true (by omega)), gd_true (decide_eq_true (by omega)), show Int.toNat 0 = 0 from rfl, g0, sign_s _ (by omega), put_s _ _ (by simp)]
    rw [show IntKind.i64.wrap ((0 : Int) + 1) = 1 by decide]
    have fin : ∀ c : List Int, c.length ≤ 10 → (gd (decide (0 ≤ ((t - f : Nat) : Int))) (gd (decide (((t - f : Nat) : Int) < ((t - f + 1 : Nat) : Int))) (show_sign ((run f (t - f + 1)).getD (Int.toNat ((t - f : Nat) : Int)) 0) (fun v31 => show_writer_put v31 false c (fun v32 v33 =>
        show_writer_set_l9 (kf + 2) (kf + 1) (fun v37 v38 => show_writer_put [93] v37 v38 fun v39 v40 => K v39 v40) (IntKind.i64.wrap (((t - f : Nat) : Int) + 1)) v32 (run f (t - f + 1)) v33))))) = K false (c ++ [(t : Int)] ++ [93]) := by
      intro c hc
      rw [gd_true (decide_eq_true (by omega)), gd_true (decide_eq_true (by omega)), show Int.toNat ((t - f : Nat) : Int) = t - f from rfl, g1, sign_s _ (by omega), put_s _ _ (by simp; omega)]
      unfold show_writer_set_l9 show_writer_set_l9_b
      rw [wi1s _ (by omega), hn, decide_eq_false (by omega), cond_false]
      dsimp only
      rw [put_s _ _ (by simp; omega)]
    by_cases h2 : t = f + 1
    · rw [decide_eq_false (by omega), cond_false, decide_eq_true (by omega), cond_true, if_pos h2, fin _ (by simp)]
      rfl
    · rw [decide_eq_true (by omega), cond_true, put_s _ _ (by simp), decide_eq_true (by omega), cond_true, if_neg h2, fin _ (by simp)]
      rfl

theorem show_set {R : Type} (kf : Nat) (hkf : 3000 ≤ kf) (f t : Nat) (h : f ≤ t) (hf : 97 ≤ f) (ht : t ≤ 122) (hz : decide ((setOf fun b => decide (f ≤ b ∧ b ≤ t)) = ZS) = false) (K : List Int → Option R) :
    show_Show kf 3 (setOf fun b => decide (f ≤ b ∧ b ≤ t)) [] K = K (txt f t) := by
  obtain ⟨kf, rfl⟩ : ∃ k', kf = k' + 10 := ⟨kf - 10, by omega⟩
  unfold show_Show show_Show_b
  rw [plain_set kf _ hz, Bool.not_true, cond_false]
  unfold show_writer_rx show_writer_rx_b
  simp only [Int.reduceEq, decide_true, decide_false, cond_true, cond_false]
  rw [set_s (kf + 9) (by omega) f t h hf ht]
  rfl
theorem nz_set (f t : Nat) (h : f ≤ t) (ht : t < 256) : decide ((setOf fun b => decide (f ≤ b ∧ b ≤ t)) = ZS) = false := by
  apply decide_eq_false
  intro e
  have := setOf_inj (e.trans zero_setOf) f (by omega)
  simp at this
  omega
theorem star_s {R : Type} (k : Nat) (s : List Int) (K : Int → List Int → List Sd → Option R) : ref5_Star (k + 21) 3 s [] K = K 6 ZS [(Rose.node (3, s, ()) [] : Sd)] := by
  unfold ref5_Star ref5_Star_b
  simp only [Int.reduceEq, decide_true, decide_false, cond_true, cond_false]
  unfold ref5_Copy ref5_Copy_b ref5_Copy_l3 ref5_Copy_l3_b
  rfl
theorem con_s {R : Type} (k : Nat) (K : Bool → Option R) : slices_Contains_int_int (k + 20) [4, 5] 3 K = K false := rfl
theorem show_e {R : Type} (k : Nat) (K : List Int → Option R) : show_Show (k + 21) 2 ZS [] K = K [40, 41] := by
  unfold show_Show show_Show_b
  rw [plain_empty (k + 11), Bool.not_true, cond_false]
  unfold show_writer_rx show_writer_rx_b
  simp only [Int.reduceEq, decide_true, decide_false, cond_true, cond_false]
  rw [put_s _ _ (by simp)]
  rfl
theorem gd1' (x d : Sd) : [x].getD 0 d = x := rfl
theorem within_s {R : Type} (k : Nat) (s : List Int) (K : Bool → List Int → Option R) : show_writer_within (show_writer_rx (k + 20)) (k + 20) 3 s [] [4, 5] false [] K = show_writer_rx (k + 20) 3 s [] false [] K := by
  unfold show_writer_within show_writer_within_b
  rw [con_s, Bool.not_false, cond_true]
theorem rx_3 {R : Type} (k : Nat) (s : List Int) (K : Bool → List Int → Option R) : show_writer_rx (k + 1) 3 s [] false [] K = show_writer_set k s false [] K := by
  rw [show_writer_rx]
  unfold show_writer_rx_b
  rw [cond_false, show decide ((3 : Int) = 1) = false from rfl, show decide ((3 : Int) = 2) = false from rfl, show decide ((3 : Int) = 3) = true from rfl, cond_false, cond_false, cond_true]
theorem rx_6 {R : Type} (k : Nat) (s : List Int) (K : Bool → List Int → Option R) : show_writer_rx (k + 1) 6 ZS [(Rose.node (3, s, ()) [] : Sd)] false [] K = show_writer_within (show_writer_rx k) k 3 s [] [4, 5] false [] (fun v35 v36 => show_writer_put [42] v35 v36 fun v37 v38 => K v37 v38) := by
  rw [show_writer_rx]
  unfold show_writer_rx_b
  rw [cond_false, show decide ((6 : Int) = 1) = false from rfl, show decide ((6 : Int) = 2) = false from rfl, show decide ((6 : Int) = 3) = false from rfl, show decide ((6 : Int) = 4) = false from rfl, show decide ((6 : Int) = 5) = false from rfl, show decide ((6 : Int) = 6) = true from rfl, cond_false, cond_false, cond_false, cond_false, cond_false, cond_true]
  rw [gd_true (decide_eq_true (by simp)), gd1']
  dsimp only [Rose.lab, Rose.kids]
theorem show_st {R : Type} (k : Nat) (s : List Int) (hz : decide (s = ZS) = false) (c : List Int) (hc : c.length ≤ 100) (hs : ∀ K : Bool → List Int → Option R, show_writer_set (k + 19) s false [] K = K false c) (K : List Int → Option R) :
    show_Show (k + 21) 6 ZS [(Rose.node (3, s, ()) [] : Sd)] K = K (c ++ [42]) := by
  unfold show_Show show_Show_b
  rw [plain_star k s hz, Bool.not_true, cond_false, rx_6 (k + 20), within_s, rx_3 (k + 19), hs]
  rw [put_s _ _ (by simp; omega), cond_false]
theorem begun_ok {R : Type} (kf : Nat) (hkf : 4000 ≤ kf) (K : Bool → Option R) : law7_begun kf K = K true := by
  have hz := nz_set 97 99 (by omega) (by omega)
  have e1 : (setOf fun b => decide ((b : Int) ∈ ([97, 98, 99] : List Int))) = setOf fun b => decide (97 ≤ b ∧ b ≤ 99) := setOf_congr fun b hb => decide_eq_decide.2 (by simp; omega)
  obtain ⟨k, hk⟩ : ∃ k', kf = k' + 21 := ⟨kf - 21, by omega⟩
  have hs' := fun (K : Bool → List Int → Option R) => set_s (k + 19) (by omega) 97 99 (by omega) (by omega) (by omega) K
  have hst := fun K => show_st (R := R) k _ hz (txt 97 99) (by decide) hs' K
  unfold law7_begun law7_begun_b
  rw [gd_true (by rfl), rof_s kf _ (by intro x hx; simp at hx; omega) (by simp) (by omega), e1]
  revert hz hst
  generalize (setOf fun b => decide (97 ≤ b ∧ b ≤ 99)) = s
  intro hz hst
  unfold ref5_Bytes ref5_Bytes_b
  rw [hz, cond_false, hk]
  dsimp only
  rw [star_s]
  rw [hst, show decide (txt 97 99 ++ [42] = [91, 97, 45, 99, 93, 42]) = true from rfl, cond_true]
  unfold ref5_Empty ref5_Empty_b
  dsimp only
  rw [show_e]
  rfl
theorem runs_ok {R : Type} (kf : Nat) (hkf : 4000 ≤ kf) (a b : Int) (ha : 0 ≤ a ∧ a ≤ 255) (hb : 0 ≤ b ∧ b ≤ 255) (K : Bool → Option R) : law7_ShowRuns kf a b K = K true := by
  unfold law7_ShowRuns law7_ShowRuns_b
  rw [begun_ok kf hkf, Bool.not_true, cond_false]
  dsimp only
  by_cases c1 : a < 97
  · rw [decide_eq_true c1]; rfl
  by_cases c2 : 122 < a
  · rw [decide_eq_false c1, decide_eq_true c2]; rfl
  by_cases c3 : b < 97
  · rw [decide_eq_false c1, decide_eq_false c2, decide_eq_true c3]; rfl
  by_cases c4 : 122 < b
  · rw [decide_eq_false c1, decide_eq_false c2, decide_eq_false c3, decide_eq_true c4]; rfl
  by_cases c5 : b < a
  · rw [decide_eq_false c1, decide_eq_false c2, decide_eq_false c3, decide_eq_false c4, decide_eq_true c5]; rfl
  rw [decide_eq_false c1, decide_eq_false c2, decide_eq_false c3, decide_eq_false c4, decide_eq_false c5]
  simp only [cond_false]
  obtain ⟨f, rfl⟩ : ∃ f : Nat, a = (f : Int) := ⟨a.toNat, by omega⟩
  obtain ⟨t, rfl⟩ : ∃ t : Nat, b = (t : Int) := ⟨b.toNat, by omega⟩
  have hz := nz_set f t (by omega) (by omega)
  rw [rrange_s kf (by omega) f t (by omega) (by omega)]
  unfold ref5_Bytes ref5_Bytes_b
  rw [hz, cond_false]
  dsimp only
  rw [show_set kf (by omega) f t (by omega) (by omega) (by omega) hz]
  rw [show IntKind.u8.wrap ((t : Int) - (f : Int)) = (t : Int) - (f : Int) by rw [IntKind.wrap_u8]; omega]
  unfold txt
  by_cases e1 : f = t
  · rw [if_pos e1, decide_eq_true (by omega), cond_true, decide_eq_true rfl]
  · rw [if_neg e1, decide_eq_false (by omega), cond_false]
    by_cases e2 : t = f + 1
    · rw [if_pos e2, decide_eq_true (by omega), cond_true, decide_eq_true rfl]
    · rw [if_neg e2, decide_eq_false (by omega), cond_false, decide_eq_true rfl]
end Go.Ab.T
