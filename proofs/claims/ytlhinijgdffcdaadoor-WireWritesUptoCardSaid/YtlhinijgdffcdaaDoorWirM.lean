/- WirM: a part of the proofs of this seat's statements. -/
import Derived.Test.YtlhinijgdffcdaaDoorWirTA
import Derived.Test.YtlhinijgdffcdaaDoorWirL
import Derived.Laws.BitsLemmas
import Derived.Laws.BitsAllLaws
import Derived.Test.YtlhinijgdffcdaaDoorTop2
/- A twin and what is kept of it: the printed functions. -/
namespace Go.Ab.T
open Go Go.Ab
set_option linter.unusedVariables false
set_option linter.unusedSimpArgs false
set_option maxRecDepth 20000

theorem w3 (n : Nat) (h : n < 4000000000000000000) : IntKind.i64.wrap ((n : Int) + 3) = ((n + 3 : Nat) : Int) := by rw [IntKind.wrap_i64]; omega
theorem w1 (n : Nat) (h : n < 4000000000000000000) : IntKind.i64.wrap ((n : Int) + 1) = ((n + 1 : Nat) : Int) := by rw [IntKind.wrap_i64]; omega
def spare : List Int := [229, 229, 229]
theorem gd_t0 {R : Type} {b : Bool} (h : b = true) (x : Option R) : gd b x = x := by subst h; rfl
theorem twin_l4 {R : Type} (kf : Nat) (b : List Int) (hb : b.length ≤ 1000000) (Ke : List Int → Int → List Int → Option R) : ∀ (m k i : Nat) (v : List Int), i + m = 3 → m < k → v.length = b.length + 3 →
    law0_Twin_l4 kf k b ((b.length + 3 : Nat) : Int) Ke ((b.length + i : Nat) : Int) v = Ke b ((b.length + 3 : Nat) : Int) (v.take (b.length + i) ++ List.replicate m 229)
  | m, 0, i, v, _, h, _ => by omega
  | 0, k + 1, i, v, hi, _, hv => by
    have : i = 3 := by omega
    subst this
    rw [law0_Twin_l4]
    unfold law0_Twin_l4_b
    rw [decide_eq_false (by omega), cond_false, List.take_of_length_le (by omega)]
    simp
  | m + 1, k + 1, i, v, hi, hk, hv => by
    rw [law0_Twin_l4]
    unfold law0_Twin_l4_b
    rw [decide_eq_true (by omega : ((b.length + i : Nat) : Int) < ((b.length + 3 : Nat) : Int)), cond_true, gd_t0 (decide_eq_true (by omega)), gd_t0 rfl, w1 _ (by omega)]
    rw [show b.length + i + 1 = b.length + (i + 1) by omega]
    rw [twin_l4 kf b hb Ke m k (i + 1) _ (by omega) (by omega) (by rw [List.length_set]; exact hv)]
    congr 1
    rw [show Int.toNat ((b.length + i : Nat) : Int) = b.length + i from rfl, show b.length + (i + 1) = (b.length + i) + 1 by omega]
    rw [List.take_succ_eq_append_getElem (by rw [List.length_set]; omega), List.take_set_of_le (Nat.le_refl _), List.getElem_set_self, List.append_assoc]
    rfl
theorem twin_ok {R : Type} (kf : Nat) (hkf : 10 ≤ kf) (b : List Int) (hb : b.length ≤ 1000000) (K : Int → List Int → Option R) : law0_Twin kf b K = K (b.length : Int) (b ++ spare) := by
  have hr : ∀ n : Nat, Int.toNat ((n : Nat) : Int) = n := fun n => rfl
  unfold law0_Twin law0_Twin_b
  rw [w3 _ (by omega), gd_t0 (decide_eq_true (by omega)), gd_t0 (decide_eq_true rfl), gd_t0 (decide_eq_true (by have : SMALL = 17179869184 := rfl; omega))]
  rw [hr, List.length_replicate]
  try dsimp only
  rw [gd_t0 (decide_eq_true rfl)]
  have h := twin_l4 kf b hb (fun v7 v8 v9 => gd (decide (0 ≤ (v7.length : Int))) (gd (decide ((v7.length : Int) ≤ (v9.length : Int))) (K (v7.length : Int) v9))) 3 kf 0 (b.take (b.length + 3) ++ (List.replicate (b.length + 3) (0 : Int)).drop b.length) (by omega) (by omega) (by simp)
  refine h.trans ?_
  have e : (b.take (b.length + 3) ++ (List.replicate (b.length + 3) (0 : Int)).drop b.length).take (b.length + 0) = b := by
    rw [List.take_of_length_le (by omega : b.length ≤ b.length + 3), Nat.add_zero, List.take_left]
  rw [e]
  rw [gd_t0 (decide_eq_true (by omega)), gd_t0 (decide_eq_true (by rw [List.length_append]; omega))]
  rfl
theorem kept_l5 {R : Type} (kf : Nat) (b : List Int) (hb : b.length ≤ 1000000) (Kr : Bool → List Int → Option R) (Ke : List Int → Option R) : ∀ (m k i : Nat), i + m = 3 → m < k →
    law0_Kept_l5 kf k b ((b.length + 3 : Nat) : Int) (b ++ spare) Kr Ke ((b.length + i : Nat) : Int) = Ke (b ++ spare)
  | m, 0, i, _, h => by omega
  | 0, k + 1, i, hi, _ => by
    rw [law0_Kept_l5]
    unfold law0_Kept_l5_b
    rw [w3 _ (by omega), decide_eq_false (by omega), cond_false]
  | m + 1, k + 1, i, hi, hk => by
    rw [law0_Kept_l5]
    unfold law0_Kept_l5_b
    have hg : (b ++ spare).getD (b.length + i) 0 = 229 := by
      rw [List.getD_eq_getElem?_getD, List.getElem?_append_right (by omega), Nat.add_sub_cancel_left]
      match i, (by omega : i < 3) with
      | 0, _ => rfl
      | 1, _ => rfl
      | 2, _ => rfl
    rw [w3 _ (by omega), decide_eq_true (by omega : ((b.length + i : Nat) : Int) < ((b.length + 3 : Nat) : Int)), cond_true, gd_t0 (decide_eq_true (by omega)), gd_t0 rfl]
    rw [show Int.toNat ((b.length + i : Nat) : Int) = b.length + i from rfl, hg]
    rw [show (!decide ((229 : Int) = 229)) = false from rfl, cond_false, w1 _ (by omega), show b.length + i + 1 = b.length + (i + 1) by omega]
    exact kept_l5 kf b hb Kr Ke m k (i + 1) (by omega) (by omega)
theorem kept_ok {R : Type} (kf : Nat) (hkf : 10 ≤ kf) (b : List Int) (hb : b.length ≤ 1000000) (K : Bool → List Int → Option R) : law0_Kept kf (b.length : Int) b (b ++ spare) K = K true (b ++ spare) := by
  have hl : (b ++ spare).length = b.length + 3 := by rw [List.length_append]; rfl
  unfold law0_Kept law0_Kept_b
  try dsimp only
  rw [hl, gd_t0 (decide_eq_true (by omega)), gd_t0 (decide_eq_true (Int.le_refl _)), show Int.toNat (b.length : Int) = b.length from rfl, List.take_left, decide_eq_true rfl, w3 _ (by omega), decide_eq_false (Int.lt_irrefl _)]
  simp only [Bool.not_true, cond_false]
  exact kept_l5 kf b hb K (fun v => K true v) 3 kf 0 (by omega) (by omega)
end Go.Ab.T

/- The reference's numbers and texts. -/
namespace Go.Ab.T
open Go Go.Ab
set_option linter.unusedVariables false
set_option linter.unusedSimpArgs false
set_option maxRecDepth 20000

theorem wu8m (v : Int) (h : 0 ≤ v) : IntKind.u8.wrap (Int.tmod v 256) = v % 256 := by
  rw [Int.tmod_eq_emod_of_nonneg h]
  have h1 := Int.emod_nonneg v (by decide : (256 : Int) ≠ 0)
  have h2 := Int.emod_lt_of_pos v (by decide : (0 : Int) < 256)
  rw [IntKind.wrap_u8]; omega
theorem wu64d (v : Int) (h : 0 ≤ v) (h2 : v < 18446744073709551616) : IntKind.u64.wrap (Int.tdiv v 256) = v / 256 := by
  rw [Int.tdiv_eq_ediv_of_nonneg h, IntKind.wrap_u64]; omega
/-- how many bytes -/
def clip (n : Int) : Nat := (mn (mx n 0) 8).toNat
theorem clip_le (n : Int) : clip n ≤ 8 ∧ mn (mx n 0) 8 = (clip n : Int) := by
  unfold clip mn mx
  split <;> split <;> omega
theorem rput_l3 {R : Type} (n : Int) (kf : Nat) (Ke : List Int → Option R) : ∀ (m k i : Nat) (v : Int) (b : List Int), i + m = clip n → m < k → 0 ≤ v → v < 18446744073709551616 → b.length + m ≤ 16777216 →
    ref1_Put_l3 kf k n Ke v (i : Int) b = Ke (b ++ le m v)
  | m, 0, i, v, b, _, h, _, _, _ => by omega
  | 0, k + 1, i, v, b, hi, _, _, _, _ => by
    have h8 := clip_le n
    rw [ref1_Put_l3]
    unfold ref1_Put_l3_b
    rw [h8.2, decide_eq_false (by omega), cond_false]
    show _ = Ke (b ++ [])
    rw [List.append_nil]
  | m + 1, k + 1, i, v, b, hi, hk, h0, h1, hb => by
    have h8 := clip_le n
    rw [ref1_Put_l3]
    unfold ref1_Put_l3_b
    rw [h8.2, decide_eq_true (by omega), cond_true, gd_t0 (decide_eq_true (by have : SMALL = 17179869184 := rfl; simp; omega)), wu8m v h0, wu64d v h0 h1, w1 i (by omega)]
    rw [rput_l3 n kf Ke m k (i + 1) (v / 256) (b ++ [v % 256]) (by omega) (by omega) (by omega) (by omega) (by simp; omega), List.append_assoc]
    rfl
theorem rput_ok {R : Type} (kf : Nat) (hkf : 10 ≤ kf) (b : List Int) (v n : Int) (h0 : 0 ≤ v) (h1 : v < 18446744073709551616) (hb : b.length ≤ 16000000) (K : List Int → Option R) : ref1_Put kf b v n K = K (b ++ le (clip n) v) := by
  have h8 := clip_le n
  unfold ref1_Put ref1_Put_b
  rw [gd_t0 (decide_eq_true (by have : SMALL = 17179869184 := rfl; simp; omega)), List.nil_append]
  exact rput_l3 n kf K (clip n) kf 0 v b (by omega) (by omega) h0 h1 (by omega)
theorem rtxt_ok {R : Type} (kf : Nat) (hkf : 10 ≤ kf) (b s : List Int) (hb : b.length ≤ 4000000) (hs : s.length ≤ 4000000) (K : List Int → Option R) : ref1_Text kf b s K = K (b ++ le 2 s.length ++ s) := by
  unfold ref1_Text ref1_Text_b
  have hw : IntKind.u64.wrap (s.length : Int) = (s.length : Int) := by rw [IntKind.wrap_u64]; omega
  rw [hw, rput_ok kf hkf b s.length 2 (by omega) (by omega) (by omega), show clip 2 = 2 from rfl, gd_t0 (decide_eq_true (by have : SMALL = 17179869184 := rfl; rw [List.length_append, le_length]; omega))]
end Go.Ab.T

/- The reference's writer of commands: which may be. -/
namespace Go.Ab.T
open Go Go.Ab
set_option linter.unusedVariables false
set_option linter.unusedSimpArgs false
set_option maxRecDepth 20000

theorem dn {α : Type} [DecidableEq α] (l : List α) : decide (l = []) = decide ((l.length : Int) = 0) := by cases l <;> simp <;> omega
theorem hP (s : List Int) (c : Int) {R : Type} (hs : s.length ≤ 10) (K : Bool → Option R) : cH s c K = K (hasP s c) := by unfold cH; rw [decide_eq_true hs]; rfl
theorem fld {R : Type} (k : Int) (K : List Int → Option R) : ref29_fields k K = K (bif decide (k < 1) || decide (8 < k) then [] else ([[110, 116], [110, 116], [110], [97, 110, 111], [110, 119], [110], [110, 109], [112]] : List (List Int)).getD (k - 1).toNat []) := by
  unfold ref29_fields ref29_fields_b
  by_cases h1 : k < 1
  · simp only [decide_eq_true h1, cond_true, Bool.true_or]
  · simp only [decide_eq_false h1, cond_false, Bool.false_or]
    by_cases h2 : 8 < k
    · simp only [decide_eq_true h2, cond_true]
    · have hw : IntKind.i64.wrap (k - 1) = k - 1 := by rw [IntKind.wrap_i64]; omega
      simp only [decide_eq_false h2, cond_false, hw]
      rw [gd_true (decide_eq_true (by omega)), gd_true (decide_eq_true (by show k - 1 < 8; omega))]
theorem hs_nt (c : Int) : hasP [110, 116] c = (decide (110 = c) || (decide (116 = c) || false)) := rfl
theorem hs_n (c : Int) : hasP [110] c = (decide (110 = c) || false) := rfl
theorem hs_ano (c : Int) : hasP [97, 110, 111] c = (decide (97 = c) || (decide (110 = c) || (decide (111 = c) || false))) := rfl
theorem hs_nw (c : Int) : hasP [110, 119] c = (decide (110 = c) || (decide (119 = c) || false)) := rfl
theorem hs_nm (c : Int) : hasP [110, 109] c = (decide (110 = c) || (decide (109 = c) || false)) := rfl
theorem hs_p (c : Int) : hasP [112] c = (decide (112 = c) || false) := rfl
theorem sel_nt {R : Type} (X : Option R) : selF [110, 116] X = X := rfl
theorem sel_n {R : Type} (X : Option R) : selF [110] X = X := rfl
theorem sel_ano {R : Type} (X : Option R) : selF [97, 110, 111] X = X := rfl
theorem sel_nw {R : Type} (X : Option R) : selF [110, 119] X = X := rfl
theorem sel_nm {R : Type} (X : Option R) : selF [110, 109] X = X := rfl
theorem sel_p {R : Type} (X : Option R) : selF [112] X = X := rfl

theorem may_l0 {R : Type} (self : Int → List Int → List Int → List Int → Int → List Int → Int → List (Rose Lb) → Bool → (Bool → Option R) → Option R) (kf k : Nat) (Kr : Bool → Option R) (Ke : Option R) :
    ref29_MayCmd_l9 self kf (k + 1) [] Kr Ke 0 = Ke := rfl

/-- a kind that bears no parts -/
theorem may_in {R : Type} (kf : Nat) (hkf : 5 ≤ kf) (k : Int) (nm ot tx : List Int) (ak : Int) (wo : List Int) (mo : Int) (ps : List (Rose Lb)) (p : Bool) (hp : k = 8 → p = true) (K : Bool → Option R) :
    ref29_MayCmd (kf + 1) k nm ot tx ak wo mo ps p K = K (okP k nm ot tx ak wo mo ps) := by
  obtain ⟨kf, rfl⟩ : ∃ kf', kf = kf' + 1 := ⟨kf - 1, by omega⟩
  unfold ref29_MayCmd ref29_MayCmd_b mc0
  rw [fld]
  by_cases a1 : k < 1 ∨ 8 < k
  · have h1 : (decide (k < 1) || decide (8 < k)) = true := by simpa using a1
    have h2 : (decide (1 ≤ k) && decide (k ≤ 7)) = false := by rw [Bool.and_eq_false_iff, decide_eq_false_iff_not, decide_eq_false_iff_not]; omega
    rw [h1, cond_true]
    unfold okP
    rw [h2, Bool.false_and]
    rfl
  · have h1 : (decide (k < 1) || decide (8 < k)) = false := by rw [Bool.or_eq_false_iff, decide_eq_false_iff_not, decide_eq_false_iff_not]; omega
    rw [h1, cond_false]
    have hb : ∀ (c x : Bool), (bif c then K false else K x) = K (!c && x) := fun c x => by cases c <;> rfl
    have hk : k = 8 ∨ k = 1 ∨ k = 2 ∨ k = 3 ∨ k = 4 ∨ k = 5 ∨ k = 6 ∨ k = 7 := by omega
    rcases hk with hk | hk
    · have := hp hk
      subst hk; subst this
      rfl
    · have hpp : ∀ X : Option R, (bif p then X else X) = X := fun X => by cases p <;> rfl
      by_cases hps : ps = []
      · subst hps
        rcases hk with rfl | rfl | rfl | rfl | rfl | rfl | rfl
        all_goals
          simp only [Int.reduceSub, Int.reduceToNat, List.getD_cons_zero, List.getD_cons_succ, sel_nt, sel_n, sel_ano, sel_nw, sel_nm]
          unfold mc1 mc2 mc3
          simp (disch := decide) only [may_l0, hP, hs_nt, hs_n, hs_ano, hs_nw, hs_nm, Int.reduceEq, decide_true, decide_false, Bool.or_true, Bool.true_or, Bool.or_false, Bool.false_or, Bool.not_true, Bool.not_false, cond_true, cond_false, reduceCtorEq, List.length_nil, Int.natCast_zero, Int.reduceLT, hpp, hb, dn, List.cons_ne_nil, Bool.false_and, Bool.and_true, Bool.true_and]
          congr 1
          rw [Bool.eq_iff_iff]
          unfold okP restB okF tOk nOk
          simp only [dn, Int.reduceEq, Int.reduceLE, decide_true, decide_false, cond_true, cond_false, Bool.or_true, Bool.true_or, Bool.false_or, Bool.or_false, Bool.true_and, Bool.and_true, Bool.and_eq_true, Bool.not_eq_true', decide_eq_true_eq, decide_eq_false_iff_not, Bool.not_not, List.length_nil, Int.natCast_zero]
          omega
      · have hpl : 0 < ps.length := by cases ps with | nil => exact absurd rfl hps | cons _ _ => simp
        have hne : decide (0 < (ps.length : Int)) = true := decide_eq_true (by omega)
        have hn0 : decide ((ps.length : Int) = 0) = false := decide_eq_false (by omega)
        rcases hk with rfl | rfl | rfl | rfl | rfl | rfl | rfl
        all_goals
          simp only [Int.reduceSub, Int.reduceToNat, List.getD_cons_zero, List.getD_cons_succ, sel_nt, sel_n, sel_ano, sel_nw, sel_nm]
          unfold mc1
          simp (disch := decide) only [hP, hs_nt, hs_n, hs_ano, hs_nw, hs_nm, Int.reduceEq, decide_true, decide_false, Bool.or_true, Bool.true_or, Bool.or_false, Bool.false_or, Bool.not_true, Bool.not_false, cond_true, cond_false, reduceCtorEq, List.cons_ne_nil, hpp, hne, Bool.cond_self]
          unfold okP restB
          simp only [hn0, Int.reduceEq, decide_false, Bool.or_false, Bool.and_false, Bool.false_and]
end Go.Ab.T

/- The wire: light commands. -/
namespace Go.Ab.T
open Go Go.Ab
set_option linter.unusedVariables false
set_option linter.unusedSimpArgs false
/-! ### light -/
theorem bulkR_pos {α : Type} (f : α → Nat) (q : Rose α) : bulkRs f q.kids + 1 ≤ bulkR f q := by
  cases q with
  | node x ks => show bulkRs f ks + 1 ≤ f x + (bulkRs f ks + 1); omega
theorem bulkRs_mem {α : Type} (f : α → Nat) : ∀ {l : List (Rose α)} {q : Rose α}, q ∈ l → bulkR f q ≤ bulkRs f l
  | x :: r, q, h => by
    rcases List.mem_cons.1 h with rfl | h
    · show _ ≤ bulkR f q + bulkRs f r; omega
    · have := bulkRs_mem f h; show _ ≤ bulkR f x + bulkRs f r; omega
theorem light_l4 {R : Type} (self : Int → List Int → List Int → List Int → Int → List Int → Int → List (Rose Lb) → (Bool → Option R) → Option R) (kf : Nat) (ps : List (Rose Lb)) (hl : ps.length ≤ 1000)
    (hs : ∀ q ∈ ps, ∃ β : Bool, ∀ K, self q.lab.1 q.lab.2.1 q.lab.2.2.1 q.lab.2.2.2.1 q.lab.2.2.2.2.1 q.lab.2.2.2.2.2.1 q.lab.2.2.2.2.2.2.1 q.kids K = K β) : ∀ (m k i : Nat), i + m = ps.length → m < k →
    ∃ β : Bool, ∀ (Kr : Bool → Option R) (Ke : Option R), law29_Light_l4 self kf k ps Kr Ke (i : Int) = bif β then Ke else Kr false
  | m, 0, i, _, h => by omega
  | 0, k + 1, i, hi, _ => by
    have : decide ((i : Int) < (ps.length : Int)) = false := decide_eq_false (by omega)
    refine ⟨true, fun Kr Ke => ?_⟩
    unfold law29_Light_l4 law29_Light_l4_b
    rw [this, cond_false, cond_true]
  | m + 1, k + 1, i, hi, hk => by
    have g1 : decide ((i : Int) < (ps.length : Int)) = true := decide_eq_true (by omega)
    have g2 : decide (0 ≤ (i : Int)) = true := decide_eq_true (by omega)
    have hli : i < ps.length := by omega
    obtain ⟨β, hβ⟩ := hs ps[i] (List.getElem_mem hli)
    obtain ⟨γ, hγ⟩ := light_l4 self kf ps hl hs m k (i + 1) (by omega) (by omega)
    refine ⟨β && γ, fun Kr Ke => ?_⟩
    unfold law29_Light_l4 law29_Light_l4_b
    rw [g1, g2, cond_true, gd_true rfl, gd_true rfl, wi1 i (by omega), show Int.toNat (i : Int) = i from rfl, getD_at ps i hli]
    refine (hβ _).trans ?_
    rw [hγ]
    cases β <;> rfl
theorem light_ok {R : Type} (f : Lb → Nat) : ∀ (N kf : Nat) (k : Int) (nm ot tx : List Int) (ak : Int) (wo : List Int) (mo : Int) (ps : List (Rose Lb)), bulkRs f ps ≤ N → N + 30 ≤ kf → ∃ β : Bool, ∀ K : Bool → Option R, law29_Light kf k nm ot tx ak wo mo ps K = K β
  | N, 0, k, nm, ot, tx, ak, wo, mo, ps, _, h => by omega
  | N, kf + 1, k, nm, ot, tx, ak, wo, mo, ps, hb, hk => by
    by_cases h25 : 25 < ps.length
    · have hd : decide (25 < (ps.length : Int)) = true := decide_eq_true (by omega)
      refine ⟨false, fun K => ?_⟩
      unfold law29_Light law29_Light_b
      simp only [hd, cond_true]
      cases decide (2000 < (nm.length : Int)) <;> cases decide (2000 < (ot.length : Int)) <;> cases decide (2000 < (tx.length : Int)) <;> cases decide (2000 < (wo.length : Int)) <;> rfl
    · have hd : decide (25 < (ps.length : Int)) = false := decide_eq_false (by omega)
      have hs : ∀ q ∈ ps, ∃ β : Bool, ∀ K : Bool → Option R, law29_Light kf q.lab.1 q.lab.2.1 q.lab.2.2.1 q.lab.2.2.2.1 q.lab.2.2.2.2.1 q.lab.2.2.2.2.2.1 q.lab.2.2.2.2.2.2.1 q.kids K = K β := by
        intro q hq
        have h1 := bulkR_pos f q
        have h2 := bulkRs_mem f hq
        exact light_ok f (N - 1) kf _ _ _ _ _ _ _ _ (by omega) (by omega)
      obtain ⟨γ, hγ⟩ := light_l4 (law29_Light kf) kf ps (by omega) hs ps.length kf 0 (by omega) (by omega)
      refine ⟨(!decide (2000 < (nm.length : Int)) && (!decide (2000 < (ot.length : Int)) && (!decide (2000 < (tx.length : Int)) && !decide (2000 < (wo.length : Int))))) && γ, fun K => ?_⟩
      unfold law29_Light law29_Light_b
      simp only [hd]
      have hγ' := hγ (fun v20 => K v20) (K true)
      rw [show ((0 : Nat) : Int) = 0 from rfl] at hγ'
      rw [hγ']
      cases decide (2000 < (nm.length : Int)) <;> cases decide (2000 < (ot.length : Int)) <;> cases decide (2000 < (tx.length : Int)) <;> cases decide (2000 < (wo.length : Int)) <;> cases γ <;> rfl
end Go.Ab.T

/- The reference's writer of commands: which may be, and their bytes. -/
namespace Go.Ab.T
open Go Go.Ab
set_option linter.unusedVariables false
set_option linter.unusedSimpArgs false
set_option maxRecDepth 20000

theorem may_l9 {R : Type} (kf : Nat) (hkf : 6 ≤ kf) (ps : List (Rose Lb)) (hps : ps.length ≤ 1000) (K : Bool → Option R) : ∀ (m k i : Nat), i + m = ps.length → m < k →
    ref29_MayCmd_l9 (ref29_MayCmd kf) kf k ps (fun v => K v) (K true) (i : Int) = K ((ps.drop i).all okR)
  | m, 0, i, _, h => by omega
  | 0, k + 1, i, hi, _ => by
    have : decide ((i : Int) < (ps.length : Int)) = false := decide_eq_false (by omega)
    unfold ref29_MayCmd_l9 ref29_MayCmd_l9_b
    rw [this, cond_false, List.drop_eq_nil_of_le (by omega)]; rfl
  | m + 1, k + 1, i, hi, hk => by
    have g1 : decide ((i : Int) < (ps.length : Int)) = true := decide_eq_true (by omega)
    have g2 : decide (0 ≤ (i : Int)) = true := decide_eq_true (by omega)
    obtain ⟨kf', rfl⟩ : ∃ kf', kf = kf' + 1 := ⟨kf - 1, by omega⟩
    have hl : i < ps.length := by omega
    unfold ref29_MayCmd_l9 ref29_MayCmd_l9_b
    rw [g1, g2, cond_true, gd_true rfl, gd_true rfl, wi1 i (by omega), show Int.toNat (i : Int) = i from rfl, getD_at ps i hl]
    refine (may_in kf' (by omega) _ _ _ _ _ _ _ _ true (fun _ => rfl) _).trans ?_
    rw [may_l9 (kf' + 1) hkf ps hps K m k (i + 1) (by omega) (by omega), List.drop_eq_getElem_cons hl, List.all_cons]
    show (bif !okR ps[i] then K false else _) = K (okR ps[i] && _)
    cases okR ps[i] <;> rfl

theorem mayCmd_ok {R : Type} (kf : Nat) (hkf : 40 ≤ kf) (k : Int) (nm ot tx : List Int) (ak : Int) (wo : List Int) (mo : Int) (ps : List (Rose Lb)) (K : Bool → Option R) :
    ref29_MayCmd kf k nm ot tx ak wo mo ps false K = K (okC k nm ot tx ak wo mo ps) := by
  obtain ⟨kf, rfl⟩ : ∃ kf', kf = kf' + 1 := ⟨kf - 1, by omega⟩
  unfold okC
  by_cases h8 : k = 8
  · subst h8
    rw [show decide ((8 : Int) = 8) = true from rfl, cond_true]
    unfold ref29_MayCmd ref29_MayCmd_b mc0
    rw [fld]
    have h1 : (decide ((8 : Int) < 1) || decide ((8 : Int) < 8)) = false := by decide
    rw [h1, cond_false]
    have hb : ∀ (c x : Bool), (bif c then K false else K x) = K (!c && x) := fun c x => by cases c <;> rfl
    simp only [Int.reduceSub, Int.reduceToNat, List.getD_cons_zero, List.getD_cons_succ, sel_p]
    unfold mc1 mc2 mc3
    by_cases hps : ps.length ≤ 20
    · have hl := may_l9 (R := R) kf (by omega) ps (by omega) K ps.length kf 0 (by omega) (by omega)
      rw [show ((0 : Nat) : Int) = 0 from rfl, List.drop_zero] at hl
      have hp20 : decide (20 < (ps.length : Int)) = false := decide_eq_false (by omega)
      simp (disch := decide) only [hl, hP, hs_p, hp20, Int.reduceEq, decide_true, decide_false, Bool.or_true, Bool.true_or, Bool.or_false, Bool.false_or, Bool.not_true, Bool.not_false, cond_true, cond_false, reduceCtorEq, List.length_nil, Int.natCast_zero, Int.reduceLT, hb, dn, List.cons_ne_nil, Bool.false_and, Bool.and_true, Bool.true_and]
      congr 1
      rw [Bool.eq_iff_iff]
      unfold restB nOk
      simp only [dn, Int.reduceEq, Int.reduceLE, decide_true, decide_false, cond_true, cond_false, Bool.or_true, Bool.true_or, Bool.false_or, Bool.or_false, Bool.true_and, Bool.and_true, Bool.and_eq_true, Bool.not_eq_true', decide_eq_true_eq, decide_eq_false_iff_not, Bool.not_not, List.length_nil, Int.natCast_zero]
      generalize (ps.all okR = true) = Z
      constructor
      · rintro h
        refine ⟨?_, ?_, ?_⟩
        · omega
        · omega
        · simp only [h]
      · rintro ⟨h1, h2, h3⟩
        simp only [h3, and_true]
        omega
    · have hp20 : decide (20 < (ps.length : Int)) = true := decide_eq_true (by omega)
      have hn : nOk (ps.length : Int) 20 = false := by unfold nOk; rw [decide_eq_false (by omega : ¬ (ps.length : Int) ≤ 20), Bool.and_false]
      rw [hn, Bool.false_and, Bool.and_false]
      simp only [hp20, decide_false, List.cons_ne_nil, cond_true, cond_false, Bool.cond_self]
  · rw [decide_eq_false h8, cond_false]
    exact may_in kf (by omega) k nm ot tx ak wo mo ps false (fun h => absurd h h8) K

/-! ### the bytes -/
def fieldW (nm ot tx : List Int) (ak : Int) (wo : List Int) (mo : Int) (c : Int) : List Int :=
  bif decide (c = 110) then wt nm else bif decide (c = 111) then wt ot else bif decide (c = 116) then wt tx else bif decide (c = 97) then wn 1 ak else bif decide (c = 119) then wt wo else bif decide (c = 109) then wn 2 mo else []
theorem fieldW_len (nm ot tx : List Int) (ak : Int) (wo : List Int) (mo : Int) (c : Int) : (fieldW nm ot tx ak wo mo c).length ≤ 1002 := by
  have h1 := wt_len nm
  have h2 := wt_len ot
  have h3 := wt_len tx
  have h4 := wt_len wo
  unfold fieldW
  cases decide (c = 110) <;> cases decide (c = 111) <;> cases decide (c = 116) <;> cases decide (c = 97) <;> cases decide (c = 119) <;> cases decide (c = 109) <;> simp only [cond_true, cond_false, wn_len, List.length_nil] <;> omega
theorem wrap64 (v : Int) : 0 ≤ IntKind.u64.wrap v ∧ IntKind.u64.wrap v < 18446744073709551616 := by rw [IntKind.wrap_u64]; omega
theorem rp {R : Type} (kf : Nat) (hkf : 10 ≤ kf) (b : List Int) (v : Int) (n : Int) (hn : n = 1 ∨ n = 2) (hb : b.length ≤ 16000000) (K : List Int → Option R) : ref29_put kf b (IntKind.u64.wrap v) n K = K (b ++ wn n.toNat v) := by
  unfold ref29_put ref29_put_b wn
  have h := wrap64 v
  rw [rput_ok kf hkf b _ n h.1 h.2 hb]
  rcases hn with rfl | rfl <;> rfl
theorem rp1 {R : Type} (kf : Nat) (hkf : 10 ≤ kf) (b : List Int) (v : Int) (hb : b.length ≤ 16000000) (K : List Int → Option R) : ref29_put kf b (IntKind.u64.wrap v) 1 K = K (b ++ wn 1 v) := rp kf hkf b v 1 (.inl rfl) hb K
theorem rp2 {R : Type} (kf : Nat) (hkf : 10 ≤ kf) (b : List Int) (v : Int) (hb : b.length ≤ 16000000) (K : List Int → Option R) : ref29_put kf b (IntKind.u64.wrap v) 2 K = K (b ++ wn 2 v) := rp kf hkf b v 2 (.inr rfl) hb K
theorem rt1 {R : Type} (kf : Nat) (hkf : 10 ≤ kf) (b s : List Int) (hb : b.length ≤ 4000000) (hs : s.length ≤ 1000) (K : List Int → Option R) : ref1_Text kf b s K = K (b ++ wt s) := by
  rw [rtxt_ok kf hkf b s hb (by omega)]
  unfold wt tOk
  rw [decide_eq_true hs, cond_true, List.append_assoc]
theorem rt29 {R : Type} (kf : Nat) (hkf : 10 ≤ kf) (b s : List Int) (hb : b.length ≤ 4000000) (hs : s.length ≤ 1000) (K : List Int → Option R) : ref29_text kf b s K = K (b ++ wt s) := by
  unfold ref29_text ref29_text_b
  exact rt1 kf hkf b s hb hs _

theorem cmd_l4 {R : Type} (self : List Int → Int → List Int → List Int → List Int → Int → List Int → Int → List (Rose Lb) → (List Int → Option R) → Option R) (kf : Nat) (hkf : 10 ≤ kf) (Ke : List Int → Option R) (s : List Int) (hs : s.length ≤ 10) (h112 : ∀ c ∈ s, c ≠ 112)
    (k : Int) (nm ot tx : List Int) (ak : Int) (wo : List Int) (mo : Int) (ps : List (Rose Lb)) (h1 : nm.length ≤ 1000) (h2 : ot.length ≤ 1000) (h3 : tx.length ≤ 1000) (h4 : wo.length ≤ 1000) : ∀ (m q i : Nat) (b : List Int), i + m = s.length → m < q → b.length ≤ 2000000 + i * 1002 →
    ref29_Cmd_l4 self kf q Ke b s (i : Int) k nm ot tx ak wo mo ps = Ke (b ++ (s.drop i).flatMap (fieldW nm ot tx ak wo mo))
  | m, 0, i, b, _, h, _ => by omega
  | 0, q + 1, i, b, hi, _, _ => by
    have : decide ((i : Int) < (s.length : Int)) = false := decide_eq_false (by omega)
    unfold ref29_Cmd_l4 ref29_Cmd_l4_b
    rw [this, cond_false, List.drop_eq_nil_of_le (by omega)]; simp
  | m + 1, q + 1, i, b, hi, hq, hb => by
    have g1 : decide ((i : Int) < (s.length : Int)) = true := decide_eq_true (by omega)
    have g2 : decide (0 ≤ (i : Int)) = true := decide_eq_true (by omega)
    have hl : i < s.length := by omega
    have hc := h112 _ (List.getElem_mem hl)
    have step : ∀ x : List Int, x.length ≤ 1002 → x = fieldW nm ot tx ak wo mo s[i] → ref29_Cmd_l4 self kf q Ke (b ++ x) s ((i + 1 : Nat) : Int) k nm ot tx ak wo mo ps = Ke (b ++ (s.drop i).flatMap (fieldW nm ot tx ak wo mo)) := by
      intro x hx he
      rw [cmd_l4 self kf hkf Ke s hs h112 k nm ot tx ak wo mo ps h1 h2 h3 h4 m q (i + 1) (b ++ x) (by omega) (by omega) (by rw [List.length_append]; omega), List.drop_eq_getElem_cons hl, List.flatMap_cons, List.append_assoc, he]
    have hW := fieldW_len nm ot tx ak wo mo s[i]
    unfold ref29_Cmd_l4 ref29_Cmd_l4_b
    rw [g1, g2, cond_true, gd_true rfl, gd_true rfl, wi1 i (by omega), show Int.toNat (i : Int) = i from rfl, getD_at s i hl]
    generalize s[i] = c at *
    unfold fieldW at step hW
    by_cases e1 : c = 110
    · rw [decide_eq_true e1, cond_true, rt29 kf hkf b nm (by omega) h1]
      rw [decide_eq_true e1] at step hW
      exact step _ hW rfl
    rw [decide_eq_false e1, cond_false]
    rw [decide_eq_false e1] at step hW
    by_cases e2 : c = 111
    · rw [decide_eq_true e2, cond_true, rt29 kf hkf b ot (by omega) h2]
      rw [decide_eq_true e2] at step hW
      exact step _ hW rfl
    rw [decide_eq_false e2, cond_false]
    rw [decide_eq_false e2] at step hW
    by_cases e3 : c = 116
    · rw [decide_eq_true e3, cond_true, rt29 kf hkf b tx (by omega) h3]
      rw [decide_eq_true e3] at step hW
      exact step _ hW rfl
    rw [decide_eq_false e3, cond_false]
    rw [decide_eq_false e3] at step hW
    by_cases e4 : c = 97
    · rw [decide_eq_true e4, cond_true, rp1 kf hkf b ak (by omega)]
      rw [decide_eq_true e4] at step hW
      exact step _ hW rfl
    rw [decide_eq_false e4, cond_false]
    rw [decide_eq_false e4] at step hW
    by_cases e5 : c = 119
    · rw [decide_eq_true e5, cond_true, rt1 kf hkf b wo (by omega) h4]
      rw [decide_eq_true e5] at step hW
      exact step _ hW rfl
    rw [decide_eq_false e5, cond_false]
    rw [decide_eq_false e5] at step hW
    by_cases e6 : c = 109
    · rw [decide_eq_true e6, cond_true, rp2 kf hkf b mo (by omega)]
      rw [decide_eq_true e6] at step hW
      exact step _ hW rfl
    rw [decide_eq_false e6, cond_false]
    rw [decide_eq_false e6] at step hW
    rw [decide_eq_false hc, cond_false]
    have := step [] (by simp) rfl
    rwa [List.append_nil] at this

theorem tOk_le {s : List Int} (h : tOk s = true) : s.length ≤ 1000 := of_decide_eq_true h

/-- a command without parts -/
theorem cmd_in {R : Type} (kf : Nat) (hkf : 20 ≤ kf) (k : Int) (nm ot tx : List Int) (ak : Int) (wo : List Int) (mo : Int) (ps : List (Rose Lb)) (hok : okP k nm ot tx ak wo mo ps = true) (b : List Int) (hb : b.length ≤ 1900000) (K : List Int → Option R) :
    ref29_Cmd (kf + 1) b k nm ot tx ak wo mo ps K = K (b ++ wP k nm ot tx ak wo mo ps) := by
  unfold ref29_Cmd ref29_Cmd_b
  rw [rp1 kf (by omega) b k (by omega), fld]
  unfold wP
  have hok' := hok
  unfold okP at hok
  simp only [Bool.and_eq_true] at hok
  obtain ⟨⟨q1, q2⟩, q3, q4⟩ := hok
  have hr := q3
  unfold restB at hr
  simp only [Bool.and_eq_true] at hr
  obtain ⟨r1, r2, r3, r4, r5, r6, r7⟩ := hr
  have q1' := of_decide_eq_true q1
  have q2' := of_decide_eq_true q2
  have h1 : (decide (k < 1) || decide (8 < k)) = false := by rw [Bool.or_eq_false_iff, decide_eq_false_iff_not, decide_eq_false_iff_not]; omega
  rw [h1, cond_false, q1, q2, q3, Bool.true_and, Bool.true_and, cond_true]
  have hk : k = 1 ∨ k = 2 ∨ k = 3 ∨ k = 4 ∨ k = 5 ∨ k = 6 ∨ k = 7 := by omega
  have lens : nm.length ≤ 1000 ∧ ot.length ≤ 1000 ∧ tx.length ≤ 1000 ∧ wo.length ≤ 1000 := by
    unfold okF tOk at q4
    simp only [dn, Bool.or_eq_true, decide_eq_true_eq] at r1 r2 r3 r4 r5
    rcases hk with rfl | rfl | rfl | rfl | rfl | rfl | rfl <;>
      simp only [Int.reduceEq, Int.reduceLE, decide_true, decide_false, cond_true, cond_false, Bool.or_true, Bool.true_or, Bool.false_or, Bool.or_false, Bool.and_eq_true, decide_eq_true_eq, false_or, or_false, true_or, or_true, and_true, true_and] at q4 r1 r2 r3 r4 r5 <;> omega
  obtain ⟨l1, l2, l3, l4⟩ := lens
  have main : ∀ s : List Int, s.length ≤ 10 → (∀ c ∈ s, c ≠ 112) → s.flatMap (fieldW nm ot tx ak wo mo) = wF k nm ot tx ak wo mo → ref29_Cmd_l4 (ref29_Cmd kf) kf kf (fun (v54 : (List Int)) => K v54) (b ++ wn 1 k) s 0 k nm ot tx ak wo mo ps = K (b ++ (wn 1 k ++ wF k nm ot tx ak wo mo)) := by
    intro s hs hc he
    have := cmd_l4 (ref29_Cmd kf) kf (by omega) (fun v => K v) s hs hc k nm ot tx ak wo mo ps l1 l2 l3 l4 s.length kf 0 (b ++ wn 1 k) (by omega) (by omega) (by rw [List.length_append, wn_len]; omega)
    rw [show ((0 : Nat) : Int) = 0 from rfl, List.drop_zero, he, List.append_assoc] at this
    exact this
  rcases hk with rfl | rfl | rfl | rfl | rfl | rfl | rfl
  all_goals
    refine main _ (by decide) (by decide) ?_
    simp only [Int.reduceSub, Int.reduceToNat, List.getD_cons_zero, List.getD_cons_succ, List.flatMap_cons, List.flatMap_nil, List.append_nil]
    rfl

theorem cmd_l22 {R : Type} (kf : Nat) (hkf : 22 ≤ kf) (ps : List (Rose Lb)) (hps : ps.length ≤ 20) (hok : ps.all okR = true) (s : List Int) (j k : Int) (nm ot tx : List Int) (ak : Int) (wo : List Int) (mo : Int)
    (Ke : List Int → List Int → Int → Int → List Int → List Int → List Int → Int → List Int → Int → List (Rose Lb) → Option R) : ∀ (m q i : Nat) (b : List Int), i + m = ps.length → m < q → b.length ≤ 1000000 + i * 2020 →
    ref29_Cmd_l22 (ref29_Cmd kf) kf q s j k nm ot tx ak wo mo ps Ke b (i : Int) = Ke (b ++ (ps.drop i).flatMap wR) s j k nm ot tx ak wo mo ps
  | m, 0, i, b, _, h, _ => by omega
  | 0, q + 1, i, b, hi, _, _ => by
    have : decide ((i : Int) < (ps.length : Int)) = false := decide_eq_false (by omega)
    unfold ref29_Cmd_l22 ref29_Cmd_l22_b
    rw [this, cond_false, List.drop_eq_nil_of_le (by omega)]; simp
  | m + 1, q + 1, i, b, hi, hq, hb => by
    have g1 : decide ((i : Int) < (ps.length : Int)) = true := decide_eq_true (by omega)
    have g2 : decide (0 ≤ (i : Int)) = true := decide_eq_true (by omega)
    obtain ⟨kf', rfl⟩ : ∃ kf', kf = kf' + 1 := ⟨kf - 1, by omega⟩
    have hl : i < ps.length := by omega
    have hw := wR_len ps[i]
    unfold ref29_Cmd_l22 ref29_Cmd_l22_b
    rw [g1, g2, cond_true, gd_true rfl, gd_true rfl, wi1 i (by omega), show Int.toNat (i : Int) = i from rfl, getD_at ps i hl]
    refine (cmd_in kf' (by omega) _ _ _ _ _ _ _ _ (List.all_eq_true.1 hok _ (List.getElem_mem hl)) b (by omega) _).trans ?_
    rw [cmd_l22 (kf' + 1) hkf ps hps hok s j k nm ot tx ak wo mo Ke m q (i + 1) _ (by omega) (by omega) (by rw [List.length_append]; show b.length + (wR ps[i]).length ≤ _; omega), List.drop_eq_getElem_cons hl, List.flatMap_cons, List.append_assoc]

theorem cmd_ok {R : Type} (kf : Nat) (hkf : 40 ≤ kf) (k : Int) (nm ot tx : List Int) (ak : Int) (wo : List Int) (mo : Int) (ps : List (Rose Lb)) (hok : okC k nm ot tx ak wo mo ps = true) (b : List Int) (hb : b.length ≤ 900000) (K : List Int → Option R) :
    ref29_Cmd kf b k nm ot tx ak wo mo ps K = K (b ++ wC k nm ot tx ak wo mo ps) := by
  obtain ⟨kf, rfl⟩ : ∃ kf', kf = kf' + 1 := ⟨kf - 1, by omega⟩
  unfold okC at hok
  unfold wC
  by_cases h8 : k = 8
  · subst h8
    rw [show decide ((8 : Int) = 8) = true from rfl, cond_true] at hok ⊢
    simp only [Bool.and_eq_true] at hok
    obtain ⟨_, hn, hall⟩ := hok
    have hn' : ps.length ≤ 20 := by
      unfold nOk at hn
      simp only [Bool.and_eq_true, decide_eq_true_eq] at hn
      omega
    unfold ref29_Cmd ref29_Cmd_b
    rw [rp1 kf (by omega) b 8 (by omega), fld]
    rw [show (bif decide ((8 : Int) < 1) || decide ((8 : Int) < 8) then ([] : List Int) else ([[110, 116], [110, 116], [110], [97, 110, 111], [110, 119], [110], [110, 109], [112]] : List (List Int)).getD ((8 : Int) - 1).toNat []) = [112] from rfl]
    obtain ⟨q, rfl⟩ : ∃ q, kf = q + 2 := ⟨kf - 2, by omega⟩
    have hl := fun Ke => cmd_l22 (R := R) (q + 2) (by omega) ps hn' hall [112] 0 8 nm ot tx ak wo mo Ke ps.length (q + 1) 0 (b ++ wn 1 8 ++ wn 1 (ps.length : Int)) (by omega) (by omega) (by simp only [List.length_append, wn_len]; omega)
    rw [show ((0 : Nat) : Int) = 0 from rfl, List.drop_zero] at hl
    rw [ref29_Cmd_l4]
    unfold ref29_Cmd_l4_b
    simp only [List.length_cons, List.length_nil, List.getD_cons_zero, Int.reduceToNat, Int.reduceEq, Int.reduceLT, decide_true, decide_false, cond_true, cond_false, gd_true, Nat.zero_add, Int.natCast_one, Int.le_refl]
    rw [rp1 (q + 2) (by omega) _ _ (by rw [List.length_append, wn_len]; omega), hl]
    rw [show IntKind.i64.wrap (0 + 1) = 1 from rfl, ref29_Cmd_l4]
    unfold ref29_Cmd_l4_b
    simp only [List.length_cons, List.length_nil, Nat.zero_add, Int.natCast_one, Int.lt_irrefl, decide_false, cond_false, List.append_assoc]
  · rw [decide_eq_false h8, cond_false] at hok ⊢
    exact cmd_in kf (by omega) k nm ot tx ak wo mo ps hok b (by omega) K

theorem rputCmd_ok {R : Type} (kf : Nat) (hkf : 41 ≤ kf) (b : List Int) (hb : b.length ≤ 900000) (k : Int) (nm ot tx : List Int) (ak : Int) (wo : List Int) (mo : Int) (ps : List (Rose Lb)) (K : List Int → Int → Option R) :
    ref29_PutCmd kf b k nm ot tx ak wo mo ps K = bif okC k nm ot tx ak wo mo ps then K (b ++ wC k nm ot tx ak wo mo ps) 0 else K [] 1 := by
  unfold ref29_PutCmd ref29_PutCmd_b
  rw [mayCmd_ok kf (by omega)]
  cases ho : okC k nm ot tx ak wo mo ps with
  | false => rfl
  | true =>
    rw [Bool.not_true, cond_false, cond_true, cmd_ok kf (by omega) k nm ot tx ak wo mo ps ho b hb]
end Go.Ab.T

/- The law WireWrites. -/
namespace Go.Ab.T
open Go Go.Ab
set_option linter.unusedVariables false
set_option linter.unusedSimpArgs false
set_option maxRecDepth 20000

theorem mr_l4 {R : Type} (kf : Nat) (ns : List (List Int)) (hn : ns.length ≤ 1000) (K : Bool → Option R) : ∀ (m k i : Nat), i + m = ns.length → m < k →
    ref29_MayReply_l4 kf k ns (fun v => K v) (K true) (i : Int) = K ((ns.drop i).all tOk)
  | m, 0, i, _, h => by omega
  | 0, k + 1, i, hi, _ => by
    have : decide ((i : Int) < (ns.length : Int)) = false := decide_eq_false (by omega)
    unfold ref29_MayReply_l4 ref29_MayReply_l4_b
    rw [this, cond_false, List.drop_eq_nil_of_le (by omega)]; rfl
  | m + 1, k + 1, i, hi, hk => by
    have g1 : decide ((i : Int) < (ns.length : Int)) = true := decide_eq_true (by omega)
    have g2 : decide (0 ≤ (i : Int)) = true := decide_eq_true (by omega)
    have hl : i < ns.length := by omega
    unfold ref29_MayReply_l4 ref29_MayReply_l4_b
    rw [g1, g2, cond_true, gd_true rfl, gd_true rfl, wi1 i (by omega), show Int.toNat (i : Int) = i from rfl, getD_at ns i hl, mr_l4 kf ns hn K m k (i + 1) (by omega) (by omega), List.drop_eq_getElem_cons hl, List.all_cons]
    by_cases h : ns[i].length ≤ 1000
    · rw [decide_eq_false (by omega : ¬ 1000 < (ns[i].length : Int)), cond_false, show tOk ns[i] = true from decide_eq_true h, Bool.true_and]
    · rw [decide_eq_true (by omega : 1000 < (ns[i].length : Int)), cond_true, show tOk ns[i] = false from decide_eq_false h, Bool.false_and]

theorem mayReply_ok {R : Type} (kf : Nat) (hkf : 300 ≤ kf) (en at_ pt : Int) (yes : Bool) (wo tx : List Int) (ns : List (List Int)) (K : Bool → Option R) :
    ref29_MayReply kf en at_ pt yes wo tx ns K = K (okY en at_ pt wo tx ns) := by
  have hb : ∀ (c x : Bool), (bif c then K false else K x) = K (!c && x) := fun c x => by cases c <;> rfl
  unfold ref29_MayReply ref29_MayReply_b okY
  by_cases hn : ns.length ≤ 255
  · have hl := mr_l4 (R := R) kf ns (by omega) K ns.length kf 0 (by omega) (by omega)
    rw [show ((0 : Nat) : Int) = 0 from rfl, List.drop_zero] at hl
    have h255 : decide (255 < (ns.length : Int)) = false := decide_eq_false (by omega)
    simp only [hl, h255, hb, Bool.not_true, Bool.not_false, Bool.true_and, Bool.false_and, Bool.and_true]
    congr 1
    rw [Bool.eq_iff_iff]
    unfold nOk tOk
    simp only [Bool.and_eq_true, Bool.not_eq_true', decide_eq_true_eq, decide_eq_false_iff_not]
    generalize (ns.all (fun s => decide (s.length ≤ 1000)) = true) = Z
    constructor
    · rintro h
      refine ⟨?_, ?_, ?_, ?_, ?_, ?_, ?_⟩
      · omega
      · omega
      · omega
      · omega
      · omega
      · omega
      · simp only [h]
    · rintro ⟨h1, h2, h3, h4, h5, h6, h7⟩
      simp only [h7, and_true]
      omega
  · have h255 : decide (255 < (ns.length : Int)) = true := decide_eq_true (by omega)
    have hf : nOk (ns.length : Int) 255 = false := by unfold nOk; rw [decide_eq_false (by omega : ¬ (ns.length : Int) ≤ 255), Bool.and_false]
    rw [hf]
    simp only [h255, cond_true, Bool.cond_self, Bool.false_and, Bool.and_false]

theorem pr_l9 {R : Type} (kf : Nat) (hkf : 10 ≤ kf) (ns : List (List Int)) (hn : ns.length ≤ 255) (hok : ns.all tOk = true) (Ke : List Int → Option R) : ∀ (m k i : Nat) (b : List Int), i + m = ns.length → m < k → b.length ≤ 1048576 + i * 1002 →
    ref29_PutReply_l9 kf k ns Ke (i : Int) b = Ke (b ++ flatT (ns.drop i))
  | m, 0, i, b, _, h, _ => by omega
  | 0, k + 1, i, b, hi, _, _ => by
    have : decide ((i : Int) < (ns.length : Int)) = false := decide_eq_false (by omega)
    unfold ref29_PutReply_l9 ref29_PutReply_l9_b
    rw [this, cond_false, List.drop_eq_nil_of_le (by omega)]; simp [flatT]
  | m + 1, k + 1, i, b, hi, hk, hb => by
    have g1 : decide ((i : Int) < (ns.length : Int)) = true := decide_eq_true (by omega)
    have g2 : decide (0 ≤ (i : Int)) = true := decide_eq_true (by omega)
    have hl : i < ns.length := by omega
    have hw := wt_len ns[i]
    unfold ref29_PutReply_l9 ref29_PutReply_l9_b
    rw [g1, g2, cond_true, gd_true rfl, gd_true rfl, wi1 i (by omega), show Int.toNat (i : Int) = i from rfl, getD_at ns i hl]
    rw [rt29 kf hkf _ _ (by omega) (tOk_le (List.all_eq_true.1 hok _ (List.getElem_mem hl))), pr_l9 kf hkf ns hn hok Ke m k (i + 1) _ (by omega) (by omega) (by rw [List.length_append]; omega), List.drop_eq_getElem_cons hl, List.append_assoc]
    rfl

theorem rputReply_ok {R : Type} (kf : Nat) (hkf : 300 ≤ kf) (b : List Int) (hb : b.length ≤ 900000) (en at_ pt : Int) (yes : Bool) (wo tx : List Int) (ns : List (List Int)) (K : Int → List Int → Option R) :
    ref29_PutReply kf b en at_ pt yes wo tx ns K = bif okY en at_ pt wo tx ns then K 0 (b ++ wY en at_ pt yes wo tx ns) else K 1 [] := by
  unfold ref29_PutReply ref29_PutReply_b
  rw [mayReply_ok kf hkf]
  cases ho : okY en at_ pt wo tx ns with
  | false => rfl
  | true =>
    unfold okY at ho
    simp only [Bool.and_eq_true] at ho
    obtain ⟨_, _, _, h1, h2, h3, h4⟩ := ho
    have hn : ns.length ≤ 255 := by
      unfold nOk at h3
      simp only [Bool.and_eq_true, decide_eq_true_eq] at h3
      omega
    have hw1 := wt_len wo
    have hw2 := wt_len tx
    have hy : ∀ J : Int → Option R, (bif yes then J 1 else J 0) = J (IntKind.u64.wrap (bif yes then 1 else 0)) := fun J => by cases yes <;> rfl
    rw [Bool.not_true, cond_false, cond_true, rp1 kf (by omega) _ _ (by omega), rp2 kf (by omega) _ _ (by simp [wn_len]; omega), rp1 kf (by omega) _ _ (by simp [wn_len]; omega)]
    dsimp only
    rw [hy fun v13 => ref29_put kf _ v13 1 _]
    rw [rp1 kf (by omega) _ _ (by simp [wn_len]; omega), rt1 kf (by omega) _ _ (by simp [wn_len]; omega) (tOk_le h1), rt29 kf (by omega) _ _ (by simp [wn_len]; omega) (tOk_le h2), rp1 kf (by omega) _ _ (by simp [wn_len]; omega)]
    refine (pr_l9 kf (by omega) ns hn h4 _ ns.length kf 0 _ (by omega) (by omega) (by simp [wn_len]; omega)).trans ?_
    unfold wY
    simp only [List.drop_zero, List.append_assoc]

/-- the law -/
theorem writes_ok {R : Type} (f : Lb → Nat) (kf : Nat) (hkf : 1100000 ≤ kf) (b : List Int) (k : Int) (nm ot tx : List Int) (ak : Int) (wo : List Int) (mo : Int) (ps : List (Rose Lb)) (hb : bulkRs f ps ≤ 1048576)
    (en at_ pt : Int) (yes : Bool) (wo' tx' : List Int) (ns : List (List Int)) (K : Bool → Option R) :
    law29_WireWrites kf b k nm ot tx ak wo mo ps en at_ pt yes wo' tx' ns K = K true := by
  unfold law29_WireWrites law29_WireWrites_b
  rw [begun_ok kf (by omega), Bool.not_true, cond_false]
  dsimp only
  by_cases h1 : 300 < (b.length : Int)
  · rw [decide_eq_true h1]; rfl
  rw [decide_eq_false h1, cond_false]
  obtain ⟨β, hβ⟩ := light_ok (R := R) f 1048576 kf k nm ot tx ak wo mo ps hb (by omega)
  rw [hβ]
  have et : (b ++ spare).take (Int.toNat (b.length : Int)) = b := by
    rw [show Int.toNat (b.length : Int) = b.length from rfl, List.take_left]
  have hpc := fun K => putCmd_ok (R := R) kf (by omega) b (by omega) k nm ot tx ak wo mo ps K
  have hrc := fun K => rputCmd_ok (R := R) kf (by omega) b (by omega) k nm ot tx ak wo mo ps K
  have hpr := fun K => putReply_ok (R := R) kf (by omega) b (by omega) en at_ pt yes wo' tx' ns K
  have hrr := fun K => rputReply_ok (R := R) kf (by omega) b (by omega) en at_ pt yes wo' tx' ns K
  have hg : decide (([] : List Int).length + b.length < SMALL) = true := decide_eq_true (by have : SMALL = 17179869184 := rfl; simp; omega)
  have hkp := fun K => kept_ok (R := R) kf (by omega) b (by omega) K
  have main : (law0_Twin kf b fun v19 v20 =>
      wire_PutCmd kf (v20.take (Int.toNat v19)) k nm ot tx ak wo mo ps fun v21 v22 =>
        gd (decide (([] : List Int).length + b.length < SMALL)) (ref29_PutCmd kf (([] : List Int) ++ b) k nm ot tx ak wo mo ps fun v23 v24 =>
          wire_PutReply kf (v20.take (Int.toNat v19)) en at_ pt yes wo' tx' ns fun v25 v26 =>
            gd (decide (([] : List Int).length + b.length < SMALL)) (ref29_PutReply kf (([] : List Int) ++ b) en at_ pt yes wo' tx' ns fun v27 v28 =>
              bif decide (v21 = v24) then
                bif decide (v22 = v23) then
                  bif decide (v25 = v27) then
                    bif decide (v26 = v28) then
                      law0_Kept kf v19 b v20 fun v34 v35 => bif v34 then law0_Kept kf v19 b v35 fun v31 v32 => K v31 else K false
                    else (bif false then law0_Kept kf v19 b v20 fun v31 v32 => K v31 else K false)
                  else (bif false then law0_Kept kf v19 b v20 fun v31 v32 => K v31 else K false)
                else (bif false then law0_Kept kf v19 b v20 fun v31 v32 => K v31 else K false)
              else (bif false then law0_Kept kf v19 b v20 fun v31 v32 => K v31 else K false)))) = K true := by
    rw [twin_ok kf (by omega) b (by omega)]
    try dsimp only
    simp only [et, List.nil_append, hpc, hrc, hpr, hrr, hg, gd_true]
    cases okC k nm ot tx ak wo mo ps <;> cases okY en at_ pt wo' tx' ns <;>
      simp only [cond_true, cond_false, decide_true, hkp]
  rw [main]
  cases β <;> simp only [Bool.not_true, Bool.not_false, cond_true, cond_false, Bool.cond_self]
end Go.Ab.T
