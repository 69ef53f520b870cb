/- MspQX: a part of the proofs of this seat's statements. -/
import Derived.Test.YtepemhpippkmiaaMspP
import Derived.Test.YtepemhpippkmiaaMspTC
import Derived.Test.YtepemhpippkmiaaTop2
import Derived.Test.YtepemhpippkmiaaRawB
/- MachineSpoilt: the plain law. -/
namespace Go.Ab.T
open Go Go.Ab
set_option linter.unusedVariables false
set_option linter.unusedSimpArgs false

def oob (k x : Int) : Bool := decide (x < 0) || decide (k ≤ x)

section
variable {R : Type}
theorem contains_any (kf : Nat) (hkf : 3000 ≤ kf) (l : List Int) (hl : l.length ≤ 256) (k : Int) (K : Bool → Int → Option R) :
    slices_ContainsFunc_int_int kf l k K = K (l.any (oob k)) k := by
  unfold slices_ContainsFunc_int_int slices_ContainsFunc_int_int_b slices_IndexFunc_int_int slices_IndexFunc_int_int_b
  refine loop_inv (fun kk c (_ : Unit) => slices_IndexFunc_int_int_l2 kf kk l (l.length : Int) (fun (v9 : Int) (v10 : Int) => K (decide (0 ≤ v9)) v10) (fun (v11 : Int) => K (decide (0 ≤ (-1 : Int))) v11) (c : Int) k) _ l.length 0 (fun c _ => (l.take c).any (oob k) = false) ?_ ?_ l.length kf 0 () (by omega) (by omega) rfl
  · intro kk _ h
    rw [List.take_length] at h
    have hd : decide ((l.length : Int) < (l.length : Int)) = false := decide_eq_false (by omega)
    simp only [slices_IndexFunc_int_int_l2, slices_IndexFunc_int_int_l2_b, hd, cond_false, h]
    rfl
  · intro kk c _ _ hc h
    have hd : decide ((c : Int) < (l.length : Int)) = true := decide_eq_true (by omega)
    have g1 : decide (0 ≤ (c : Int)) = true := decide_eq_true (by omega)
    cases hb : oob k (l.getD c 0) with
    | false =>
      left
      refine ⟨(), ?_, ?_⟩
      · rw [take_snoc l c hc 0, List.any_append, h, Bool.false_or, List.any_cons, hb]; rfl
      · unfold oob at hb
        simp only [Bool.or_eq_false_iff] at hb
        simp only [slices_IndexFunc_int_int_l2, slices_IndexFunc_int_int_l2_b, machine_May_1, machine_May_1_b, hd, g1, gd, cond_true, cond_false, Int.toNat_natCast, hb.1, hb.2, wi_1 c (show c < 4000000000000000000 by omega)]
    | true =>
      right
      have ha : l.any (oob k) = true := List.any_eq_true.2 ⟨_, getD_mem l c hc 0, hb⟩
      unfold oob at hb
      simp only [Bool.or_eq_true] at hb
      rw [ha]
      by_cases h0 : l.getD c 0 < 0
      · simp only [slices_IndexFunc_int_int_l2, slices_IndexFunc_int_int_l2_b, machine_May_1, machine_May_1_b, hd, g1, gd, cond_true, cond_false, Int.toNat_natCast, decide_eq_true h0]
      · have h1 : k ≤ l.getD c 0 := by
          rcases hb with hb | hb
          · exact absurd (of_decide_eq_true hb) h0
          · exact of_decide_eq_true hb
        simp only [slices_IndexFunc_int_int_l2, slices_IndexFunc_int_int_l2_b, machine_May_1, machine_May_1_b, hd, g1, gd, cond_true, cond_false, Int.toNat_natCast, decide_eq_false h0, decide_eq_true h1]

theorem max_any (kf : Nat) (hkf : 3000 ≤ kf) (C : List Int) (hl : C.length = 256) (K : Int → Option R) : slices_Max_uint8_uint8 kf C K = K (mxTo C 255) := by
  unfold slices_Max_uint8_uint8 slices_Max_uint8_uint8_b
  rw [decide_eq_false (show ¬ ((C.length : Int) < 1) by omega)]
  simp only [cond_false]
  rw [gdd (by omega)]
  refine loop_inv (fun kk c acc => slices_Max_uint8_uint8_l5 kf kk C (fun v5 => K v5) acc (c : Int)) _ 256 0 (fun c acc => 1 ≤ c ∧ acc = mxTo C (c - 1)) ?_ ?_ 255 kf 1 (C.getD 0 0) (by omega) (by omega) ⟨by omega, rfl⟩
  · rintro kk acc ⟨_, rfl⟩
    have hd : decide (((256 : Nat) : Int) < (C.length : Int)) = false := decide_eq_false (by omega)
    simp only [slices_Max_uint8_uint8_l5, slices_Max_uint8_uint8_l5_b, hd, cond_false]
  · rintro kk c acc _ hc ⟨h1, rfl⟩
    left
    have hd : decide ((c : Int) < (C.length : Int)) = true := decide_eq_true (by omega)
    have g1 : decide (0 ≤ (c : Int)) = true := decide_eq_true (by omega)
    refine ⟨mx (mxTo C (c - 1)) (C.getD c 0), ⟨by omega, ?_⟩, ?_⟩
    · obtain ⟨d, rfl⟩ : ∃ d, c = d + 1 := ⟨c - 1, by omega⟩
      rfl
    · simp only [slices_Max_uint8_uint8_l5, slices_Max_uint8_uint8_l5_b, hd, g1, gd, cond_true, Int.toNat_natCast, wi_1 c (show c < 4000000000000000000 by omega)]

theorem mxTo_le (C : List Int) : ∀ c, (∀ b, b ≤ c → C.getD b 0 ≤ 255) → mxTo C c ≤ 255 ∧ ∀ b, b ≤ c → C.getD b 0 ≤ mxTo C c
  | 0, h => ⟨h 0 (Nat.le_refl _), fun b hb => by have : b = 0 := by omega
                                                 subst this; exact Int.le_refl _⟩
  | c + 1, h => by
    obtain ⟨i1, i2⟩ := mxTo_le C c fun b hb => h b (by omega)
    have h1 := h (c + 1) (Nat.le_refl _)
    have e : mxTo C (c + 1) = mx (mxTo C c) (C.getD (c + 1) 0) := rfl
    rw [e]
    unfold mx
    split
    · rename_i hg
      refine ⟨h1, fun b hb => ?_⟩
      by_cases hbc : b = c + 1
      · subst hbc; exact Int.le_refl _
      · have := i2 b (by omega); omega
    · rename_i hg
      refine ⟨i1, fun b hb => ?_⟩
      by_cases hbc : b = c + 1
      · subst hbc; omega
      · exact i2 b (by omega)

theorem may_not (kf : Nat) (hkf : 3000 ≤ kf) (C : List Int) (hC : C.length = 256) (N : List (List Int)) (E : List Bool) (k : Nat) (m : Int) (hN : N.length = k) (hk1 : 1 ≤ k) (hk2 : k ≤ 2000) (hE : E.length = k)
    (hm : IntKind.i64.wrap (IntKind.i64.wrap (mxTo C 255) + 1) = m) (hr : ∀ i, i < k → (N.getD i []).length ≤ 256) (i0 : Nat) (h0 : i0 < k) (hb : ((N.getD i0 []).length : Int) ≠ m ∨ (N.getD i0 []).any (oob k) = true) (K : Bool → Option R) :
    machine_May kf C N E K = K false := by
  unfold machine_May machine_May_b
  rw [decide_eq_false (show ¬ ((N.length : Int) < 1) by omega), decide_eq_false (show ¬ (2000 < (N.length : Int)) by omega), decide_eq_true (show (E.length : Int) = (N.length : Int) by omega)]
  simp only [cond_false, Bool.not_true]
  unfold machine_classes machine_classes_b
  rw [max_any kf hkf C hC, hm, hN]
  refine loop_inv (fun kk c (_ : Unit) => machine_May_l6 kf kk m N (k : Int) (fun (v16 : Bool) => K v16) (K true) (c : Int) (k : Int)) _ k 0 (fun c _ => c ≤ i0) ?_ ?_ k kf 0 () (by omega) (by omega) (by omega)
  · intro kk _ h; omega
  · intro kk c _ _ hc hci
    have hd : decide ((c : Int) < (k : Int)) = true := decide_eq_true (by omega)
    have hd2 : decide ((c : Int) < (N.length : Int)) = true := decide_eq_true (by omega)
    have g1 : decide (0 ≤ (c : Int)) = true := decide_eq_true (by omega)
    have hc2 := contains_any (R := R) kf hkf (N.getD c []) (hr c hc) k
    by_cases hl : ((N.getD c []).length : Int) = m
    · cases ha : (N.getD c []).any (oob k) with
      | true =>
        right
        simp only [machine_May_l6, machine_May_l6_b, hd, hd2, g1, gd, cond_true, Int.toNat_natCast, decide_eq_true hl, Bool.not_true, cond_false, hc2, ha]
      | false =>
        left
        have hne : c ≠ i0 := by
          rintro rfl
          rcases hb with hb | hb
          · exact hb hl
          · rw [ha] at hb; cases hb
        refine ⟨(), by omega, ?_⟩
        simp only [machine_May_l6, machine_May_l6_b, hd, hd2, g1, gd, cond_true, Int.toNat_natCast, decide_eq_true hl, Bool.not_true, cond_false, hc2, ha, wi_1 c (show c < 4000000000000000000 by omega)]
    · right
      simp only [machine_May_l6, machine_May_l6_b, hd, hd2, g1, gd, cond_true, Int.toNat_natCast, decide_eq_false hl, Bool.not_false]

theorem may_ends (kf : Nat) (C : List Int) (N : List (List Int)) (E : List Bool) (hN1 : 1 ≤ N.length) (hN2 : N.length ≤ 2000) (hE : E.length ≠ N.length) (K : Bool → Option R) : machine_May kf C N E K = K false := by
  unfold machine_May machine_May_b
  rw [decide_eq_false (show ¬ ((N.length : Int) < 1) by omega), decide_eq_false (show ¬ (2000 < (N.length : Int)) by omega), decide_eq_false (show ¬ (E.length : Int) = (N.length : Int) by omega)]
  rfl
end

/-- what may not be does nothing -/
theorem spF_ok (kf : Nat) (hkf : 3000 ≤ kf) (w C : List Int) (N : List (List Int)) (E : List Bool) (hM : ∀ K : Bool → Option Unit, machine_May kf C N E K = K false) :
    spF (machine_May kf) (machine_Run kf) (machine_To kf) (machine_Reach kf) (machine_Live kf) (machine_Classes kf) (machine_Flip kf) (ref11_Same kf) w k1 C N E = some () := by
  have hTo : ∀ K : Int → Option Unit, machine_To kf C N E 0 w K = K (-1) := fun K => by
    unfold machine_To machine_To_b; rw [hM]; rfl
  have hS : ∀ K : Bool → Option Unit, ref11_Same kf (List.replicate 256 0) [] [] (List.replicate 256 0) [] [] K = K true := fun K => by
    obtain ⟨n, rfl⟩ : ∃ n, kf = n + 1 := ⟨kf - 1, by omega⟩
    unfold ref11_Same ref11_Same_b
    rw [decide_eq_true rfl]
    rfl
  have hRun : ∀ K : Bool → Option Unit, machine_Run kf C N E w K = K false := fun K => by
    unfold machine_Run machine_Run_b; rw [hTo]; rfl
  have hReach : ∀ K : List Bool → Option Unit, machine_Reach kf C N E K = K [] := fun K => by
    unfold machine_Reach machine_Reach_b; rw [hM]; rfl
  have hLive : ∀ K : List Bool → Option Unit, machine_Live kf C N E K = K [] := fun K => by
    unfold machine_Live machine_Live_b live0; rw [hM]; rfl
  have hCls : ∀ K : Int → Option Unit, machine_Classes kf C N E K = K 0 := fun K => by
    unfold machine_Classes machine_Classes_b; rw [hM]; rfl
  have hFlip : ∀ K : List Int → List (List Int) → List Bool → Option Unit, machine_Flip kf C N E K = K (List.replicate 256 0) [] [] := fun K => by
    unfold machine_Flip machine_Flip_b; rw [hM]; rfl
  unfold spF
  rw [hM, Bool.not_false, cond_true, hRun, Bool.not_false, cond_true, hTo, show decide ((-1 : Int) = -1) = true from rfl, cond_true, hReach, hLive, hCls,
    show decide (IntKind.i64.wrap (IntKind.i64.wrap ((([] : List Bool).length : Int) + (([] : List Bool).length : Int)) + 0) = 0) = true from rfl, cond_true, hFlip, hS]
  rfl

theorem wrap_m (m : Nat) (h1 : 1 ≤ m) (h2 : m ≤ 256) : IntKind.i64.wrap (IntKind.i64.wrap ((m - 1 : Nat) : Int) + 1) = (m : Int) := by
  simp only [IntKind.wrap_i64]; omega
theorem wrap_p (k : Nat) (h1 : 1 ≤ k) (h2 : k ≤ 2000) : IntKind.i64.wrap ((k : Int) - 1) = ((k - 1 : Nat) : Int) := by
  rw [IntKind.wrap_i64]; omega

theorem spoilt11_ok (kf : Nat) (hkf : 700000 ≤ kf) (n c : Int) (hn : 0 ≤ n ∧ n ≤ 255) (hc : 0 ≤ c ∧ c ≤ 255) (l : List Int) (hl : ∀ x ∈ l, 0 ≤ x ∧ x ≤ 255) (how : Int) (hh : 0 ≤ how ∧ how ≤ 255) (w : List Int) :
    spA (law11_begun kf) (play_Dfa kf) n c l how w k1 (spJ kf) = some () := by
  unfold spA
  rw [begun11_ok kf hkf, Bool.not_true, cond_false]
  by_cases h1 : 60 < (l.length : Int)
  · rw [decide_eq_true h1]; rfl
  by_cases h2 : 20 < (w.length : Int)
  · rw [decide_eq_false h1, decide_eq_true h2]; rfl
  rw [decide_eq_false h1, decide_eq_false h2, cond_false]
  dsimp only
  rw [cond_false]
  refine dfa_ok kf (by omega) n c hn hc l hl (by omega) _ _ fun C N E k m h hk hm4 => ?_
  have hE := h.el; have hN := h.nl; have hk1 := h.k1; have hm1 := h.m1; have hC := h.cl
  have hw : IntKind.i64.wrap ((N.length : Int) - 1) = ((k - 1 : Nat) : Int) := by rw [hN]; exact wrap_p k hk1 h.k2
  rw [hw]
  have hmx : IntKind.i64.wrap (IntKind.i64.wrap (mxTo C 255) + 1) = (m : Int) := by
    rw [h.mx_eq]; exact wrap_m m hm1 h.m2
  have hlen : ∀ i, i < k → (N.getD i []).length = m := fun i hi => (h.row i hi).1
  have hany : ∀ (r : List Int) (v : Int), 0 < r.length → r.getD 0 0 = v → (v < 0 ∨ (k : Int) ≤ v) → r.any (oob k) = true := by
    intro r v h0 h1 h2
    refine List.any_eq_true.2 ⟨v, ?_, ?_⟩
    · rw [← h1]; exact getD_mem r 0 h0 0
    · unfold oob
      rcases h2 with h2 | h2
      · rw [decide_eq_true h2]; rfl
      · rw [decide_eq_true h2, Bool.or_true]
  unfold spJ
  rw [if_pos]
  refine ⟨by rw [hN], by omega, by omega, fun i hi => by rw [hlen i (by omega)]; omega, fun h12 r' hS => ?_, fun h12 => ?_⟩
  · obtain ⟨s1, s2, s3⟩ := hS
    refine spF_ok kf (by omega) w C r' E fun K => ?_
    have hi0 : (if Int.tmod how 5 = 1 then N.length - 1 else 0) < k := by split <;> omega
    refine may_not kf (by omega) C hC r' E k m (by omega) hk1 (by omega) hE hmx (fun i hi => by rw [s2, hlen i hi]; omega) _ hi0 (.inr ?_) K
    refine hany _ _ (by rw [s2, hlen _ hi0]; omega) s3 ?_
    split
    · right; omega
    · left; omega
  · have hmod : Int.tmod how 5 = how % 5 := Int.tmod_eq_emod_of_nonneg hh.1
    rw [hmod] at h12
    unfold spX
    rw [hmod]
    by_cases c0 : how % 5 = 0
    · rw [decide_eq_true c0, cond_true, gdd (by omega), gdd (by omega)]
      refine spF_ok kf (by omega) w C N _ fun K => may_ends kf C N _ (by omega) (by omega) ?_ K
      rw [List.length_take, Int.toNat_natCast]; omega
    rw [decide_eq_false c0, cond_false, decide_eq_false (show ¬ how % 5 = 1 from fun q => h12 (.inl q)), cond_false, decide_eq_false (show ¬ how % 5 = 2 from fun q => h12 (.inr q)), cond_false]
    by_cases c3 : how % 5 = 3
    · have hr := hlen (k - 1) (by omega)
      rw [decide_eq_true c3, cond_true, gdd (by omega), gdd (by omega), gdd (by omega), gdd (by omega), Int.toNat_natCast, hr]
      have hw2 : IntKind.i64.wrap ((m : Int) - 1) = ((m - 1 : Nat) : Int) := wrap_p m hm1 (by omega)
      dsimp only
      rw [hw2, gdd (by omega), gdd (by omega), gdd (by omega), gdd (by omega), Int.toNat_natCast]
      refine spF_ok kf (by omega) w C _ E fun K => ?_
      have hset : ∀ i, (N.set (k - 1) ((N.getD (k - 1) []).take (m - 1))).getD i [] = if k - 1 = i ∧ i < N.length then (N.getD (k - 1) []).take (m - 1) else N.getD i [] := fun i => getD_set' N (k - 1) i _ []
      refine may_not kf (by omega) C hC _ E k m (by rw [List.length_set]; omega) hk1 (by omega) hE hmx (fun i hi => ?_) (k - 1) (by omega) (.inl ?_) K
      · rw [hset]; split
        · rw [List.length_take]; omega
        · rw [hlen i hi]; omega
      · rw [hset, if_pos ⟨rfl, by omega⟩, List.length_take, hr]; omega
    · rw [decide_eq_false c3, cond_false]
      refine spF_ok kf (by omega) w _ N E fun K => ?_
      have hget : ∀ i, (C.set 122 255).getD i 0 = if 122 = i ∧ i < C.length then 255 else C.getD i 0 := fun i => getD_set' C 122 i 255 0
      have hle : ∀ b, b ≤ 255 → (C.set 122 255).getD b 0 ≤ 255 := fun b hb => by
        rw [hget]; split
        · omega
        · obtain ⟨a, a1, a2⟩ := h.clr b (by omega)
          have := h.m2
          omega
      obtain ⟨x1, x2⟩ := mxTo_le (C.set 122 255) 255 hle
      have x3 := x2 122 (by omega)
      rw [hget, if_pos ⟨rfl, by omega⟩] at x3
      have x4 : mxTo (C.set 122 255) 255 = 255 := by omega
      refine may_not kf (by omega) _ (by rw [List.length_set]; exact hC) N E k 256 hN hk1 (by omega) hE (by rw [x4]; rfl) (fun i hi => by rw [hlen i hi]; omega) 0 (by omega) (.inl ?_) K
      rw [hlen 0 (by omega)]; omega
end Go.Ab.T

/- From what a function does, where numbers lie in no old block, to what its row says. -/
namespace Go.Ab
open Go Go.ChangeShapes
set_option linter.unusedVariables false
set_option linter.unusedSimpArgs false

/-- a law, of typed arguments -/
def LawOkX (P : Program) (gl : Nat → Option S) (f : FuncId) (tys : List Ty) (N : Nat) : Prop :=
  ∀ az : List Arg, az.map (·.1) = tys → (∀ a ∈ az, okT a.1 a.2) → (az.map fun a => bulkT a.1 a.2).sum ≤ N → FnOkN P gl f 0 (az.map liftA) [] (.bool true) []
def plainArg : Ty → Bool
  | .int _ => true
  | .slice (.int .u8) => true
  | _ => false
theorem relVL_shut {E E' : Env} {tb : Tbl} {w : World} (hok : ∀ b, E'.ok tb (.int .u8) b) : ∀ (az : List Arg) {vs : List Value}, (∀ a ∈ az, plainArg a.1 = true) → RelVL E tb w (az.map liftA) vs → RelVL E' tb w (az.map liftA) vs
  | [], vs, _, h => h
  | ⟨t, x⟩ :: az, vs, ht, h => by
    obtain ⟨v, q, rfl, h1, h2⟩ := h
    have ht0 := ht ⟨t, x⟩ (by simp)
    refine ⟨v, q, rfl, ?_, relVL_shut hok az (fun a ha => ht a (by simp [ha])) h2⟩
    match t, x, ht0, h1 with
    | .int k, x, _, h1 => exact h1
    | .slice (.int .u8), x, _, h1 =>
      have h1 : Rt w (E.ok tb) (.slice (.int .u8)) [v] x := h1
      show Rt w (E'.ok tb) (.slice (.int .u8)) [v] x
      obtain ⟨a, c, q1, q2, q3, q4⟩ := h1
      refine ⟨a, c, q1, q2, q3, ?_⟩
      rcases q4 with q4 | ⟨b, o, r1, r2, r3, r4⟩
      · exact .inl q4
      · exact .inr ⟨b, o, r1, hok b, r3, r4⟩

section
variable {H : Type} {enc : TypeId × Value → H} {P : Program} {w : World} {base : Nat} {spare : Nat → Bool} {held : Bool} {T : TypeId → Prop}
theorem contract_ofX {f : FuncId} {fn : Func} {s : ChangeSpec} {apart fresh handsOn again : Bool} {gl : Nat → Option S} {tys : List Ty} {N : Nat} {tb : TypeId}
    (K : Kids P (· < P.types.size)) (hz : ∀ t e, t < P.types.size → P.underlying t = some (.slice e) → 0 < P.cellsOf e) (hpar : ∀ t ∈ fn.params.toList, t < P.types.size) (htys : tysOf P fn.params.toList = some tys)
    (hres : fn.resultTypes = #[tb]) (hbool : P.underlying tb = some .bool) (hvars : s.vars = []) (hfn : ∀ ds : List (DataW H), ds.length = tys.length → s.fn H ds = { results := [.lit (.bool true)], args := ds }) (hN : N ≤ MAXL) (hlaw : LawOkX P gl f tys N) (hflat : tys.all plainArg = true)
    {W : World} {base : Nat} {args : Array Value} {ds gs : List (DataW H)} {before : List MemPlace}
    (hglob : ∀ g, gl g = none)
    (hval : ∀ (j : Nat) t v, fn.params[j]? = some t → args[j]? = some v → Value.okWide P W .any base t v)
    (hW : DataW.Whole enc P fn.params.toList s.vars apart W args.toList ds gs before) (hbulk : bulkDs (ds ++ gs) ≤ N) :
    Calls P f args W fun e W' => ∃ v, e = .returned v ∧ s.post enc P fn apart fresh handsOn again W args v W' := by
  have hW0 := hW
  obtain ⟨p, q, hA, hV, hpq, hfrz, hnd⟩ := hW
  rw [hvars] at hV
  obtain ⟨rfl, rfl⟩ : gs = [] ∧ q = [] := by
    cases gs with
    | nil => exact ⟨rfl, hV⟩
    | cons g r => exact hV.elim
  rw [List.append_nil] at hbulk hpq
  subst hpq
  obtain ⟨E, hE⟩ : ∃ E : Env, E = ⟨fun _ => none, fun _ _ => False, gl⟩ := ⟨_, rfl⟩
  have hEok : ∀ t b, E.ok (tbOf []) t b := by
    intro t b
    rw [hE]
    exact ⟨id, fun k p e h => by cases h⟩
  obtain ⟨az, r1, r2, r3, r4⟩ := args_rel (E := E) (tb := tbOf []) (r := .any) (base := base) hEok K hz _ tys _ ds _ htys hpar (fun j t v ht hv => hval j t v (by simpa using ht) (by simpa using hv)) hA (by omega)
  have hfn2 := hlaw az r1 r3 (by omega)
  have hnokeys : ∀ (l : List Arg), keysOfL (l.map liftA) = [] := by
    intro l
    induction l with
    | nil => rfl
    | cons a r ih => simp only [List.map_cons, keysOfL, ih, List.append_nil]; exact lift_keys _ _
  obtain ⟨EX, hEX⟩ : ∃ EX : Env, EX = ⟨fun _ => none, fun t b => t = .int .i64 ∧ b < W.heap.size, gl⟩ := ⟨_, rfl⟩
  have r2' : RelVL EX (tbOf []) W (az.map liftA) args.toList := by
    refine relVL_shut (fun b => ?_) az (fun a ha => ?_) r2
    · rw [hEX]
      exact ⟨(fun h => by have h1 : (Ty.int .u8) = .int .i64 := h.1; cases h1), (fun k p e h => by cases h)⟩
    · have : a.1 ∈ tys := by rw [← r1]; exact List.mem_map.2 ⟨a, ha, rfl⟩
      exact List.all_eq_true.1 hflat _ this
  have hin : FnIn EX W (az.map liftA) [] args.toList := by
    refine ⟨r2', ?_, ?_, ?_, ?_, ?_, ?_, by simp⟩
    · intro k e h; simp at h
    · intro k j p q e f _ _ h; simp at h
    · intro k hk; rw [hnokeys] at hk; cases hk
    · intro k e h; simp at h
    · intro g x hg
      rw [hEX] at hg
      have hg : gl g = some x := hg
      rw [hglob g] at hg; cases hg
    · intro t b hb; rw [hEX] at hb; exact hb.2
  have hcall := hfn2 EX W args.toList (by rw [hEX]) (fun b hb => by rw [hEX]; exact ⟨rfl, hb⟩) hin
  rw [show args.toList.toArray = args by simp] at hcall
  refine Calls.mono hcall ?_
  rintro e W' ⟨rv, E', rfl, hout⟩
  have hrv : rv = .bool true := relV_bool.1 hout.val
  subst hrv
  have hown : ∀ b, ¬ ownsB EX [] b false := by
    rintro b ⟨k, p, e, h1, h2, _⟩
    simp at h2
  have hsame : ∀ p : MemPlace, p.block < W.heap.size → W.sameAt W' p := by
    intro p hp
    have hb := hout.hist.block p.block hp (hown _)
    cases p with
    | cell b off => exact cell_same hb off
    | map b => exact hb
  have hspec := hfn (ds ++ []) (by
    rw [List.append_nil, ← r1, List.length_map]
    have e1 := (relVL_get r2).1
    rw [List.length_map] at e1
    have : ∀ (ts : List TypeId) (vs : List Value) (ds : List (DataW H)) (ps : List MemPlace), DataW.TrodAll enc P W 0 (fun _ => true) true ts vs ds ps → ds.length = vs.length := by
      intro ts
      induction ts with
      | nil => intro vs ds ps h; obtain ⟨rfl, rfl, rfl⟩ := trodAll_nil h; rfl
      | cons t ts ih =>
        intro vs ds ps h
        obtain ⟨v, vs1, d, ds1, a, b, rfl, rfl, rfl, _, h2⟩ := trodAll_cons h
        simp [ih _ _ _ h2]
    rw [this _ _ _ _ hA, e1])
  refine ⟨_, rfl, post_same (pa := before) (pv := []) hW0 ?_ ?_ ?_ (by simp) (hout.hist.keptBut hown _) ?_ ?_⟩
  · intro b sp hd
    rw [hspec, hres]
    exact trodAll_cons_mk (p := []) (RowKit.shut_bool hbool true) trodAll_mk0
  · intro sp hsp
    rw [hspec]
    simp only [List.append_nil]
    exact trodAll_carry hsame (hA.respare K hz hpar hsp)
  · intro sp hsp
    rw [hspec, hvars]
    rfl
  · intro a ha
    unfold World.frozen?
    rw [hout.hist.block a.block ha (hown _)]
  · exact RowKit.ok_one hres rfl (RowKit.okWide_bool_mk hbool true)
end
end Go.Ab
