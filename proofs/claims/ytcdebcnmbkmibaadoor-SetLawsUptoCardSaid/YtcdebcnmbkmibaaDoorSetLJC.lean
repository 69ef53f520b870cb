/- SetLaws, piece by piece: what its function tells, the call does. -/
import Derived.Test.YtcdebcnmbkmibaaDoorSetLTC
import Derived.Test.YtcdebcnmbkmibaaDoorSetLJB
import Derived.Test.YtcdebcnmbkmibaaDoorSetLJP
namespace Go.Ab.T
open Go Go.Ab Go.Proofs
set_option maxRecDepth 100000
set_option linter.unusedVariables false
noncomputable section
theorem hfn5 : Tryd.prog.funcs[5]? = some Tryd.f5 := by kernel_rfl
theorem ht5 : textOk C_law4_SetLaws.bef Tryd.prog 5 = true := t_law4_SetLaws
theorem loops5 (n : Nat) (hn : loopsOf (restC n (bodyOf Tryd.prog 5)) = []) : ∀ b ∈ loopsOf (restC n (bodyOf Tryd.prog 5)), loopBody C_law4_SetLaws.P 5 (firstRegion b) = b := fun b hb => by rw [hn] at hb; cases hb
theorem ok_law4_SetLawsJ {R : Type} (kf : Nat) : Ok_law4_SetLaws (R := R) (law4_SetLawsJ kf) := by
  have hcf : CfOk (R := R) Tryd.prog glob raw (cf_law4_SetLaws (law4_begun kf) byteset_Has (byteset_Or kf) (byteset_And kf) (byteset_Not kf) (byteset_Len kf) (byteset_Less kf) (byteset_List kf) (byteset_Of kf)) := (cf_cons (shok_10 (ok_law4_begun kf)) (cf_cons (shok_26 (ok_byteset_Has)) (cf_cons (shok_15 (ok_byteset_Or kf)) (cf_cons (shok_17 (ok_byteset_And kf)) (cf_cons (shok_19 (ok_byteset_Not kf)) (cf_cons (shok_23 (ok_byteset_Len kf)) (cf_cons (shok_24 (ok_byteset_Less kf)) (cf_cons (shok_21 (ok_byteset_List kf)) (cf_cons (shok_11 (ok_byteset_Of kf)) cf_nil)))))))))
  have hlf : LfOk (R := R) C_law4_SetLaws 5 (lf_law4_SetLaws (law4_begun kf) byteset_Has (byteset_Or kf) (byteset_And kf) (byteset_Not kf) (byteset_Len kf) (byteset_Less kf) (byteset_List kf) (byteset_Of kf)) := lf_none
  intro v1 v2 v3 v4 K r h
  have hm := text_mixed ht5
  refine run_good_of (C := C_law4_SetLaws) ht5 hfn5 ?_
  refine good_spine hm hcf hlf 4 (bodyOf Tryd.prog 5) _ (show codeOk C_law4_SetLaws.bef (restC 0 (bodyOf Tryd.prog 5)) = true by kernel_rfl) (loops5 0 (by kernel_rfl)) ((e0 (law4_begun kf) byteset_Has (byteset_Or kf) (byteset_And kf) (byteset_Not kf) (byteset_Len kf) (byteset_Less kf) (byteset_List kf) (byteset_Of kf) v1 v2 v3 v4 K).trans h) fun st0 h0 => ?_
  refine good_cut h0 fun vs es h1 => ?_
  unfold jf1 at h1
  split at h1
  rotate_left
  · exact no_some h1
  refine good_spine hm hcf hlf 1 (restC 4 (bodyOf Tryd.prog 5)) _ (by kernel_rfl) (loops5 4 (by kernel_rfl)) ((e1 (law4_begun kf) byteset_Has (byteset_Or kf) (byteset_And kf) (byteset_Not kf) (byteset_Len kf) (byteset_Less kf) (byteset_List kf) (byteset_Of kf) _ _ _ _ K).trans h1) fun st1 h1' => ?_
  refine good_cut h1' fun vs es h2 => ?_
  unfold jf2 at h2
  split at h2
  rotate_left
  · exact no_some h2
  refine good_spine hm hcf hlf 1 (restC 5 (bodyOf Tryd.prog 5)) _ (by kernel_rfl) (loops5 5 (by kernel_rfl)) ((e2 (law4_begun kf) byteset_Has (byteset_Or kf) (byteset_And kf) (byteset_Not kf) (byteset_Len kf) (byteset_Less kf) (byteset_List kf) (byteset_Of kf) _ _ _ _ _ K).trans h2) fun st2 h2' => ?_
  refine good_cut h2' fun vs es h3 => ?_
  unfold jf3 at h3
  split at h3
  rotate_left
  · exact no_some h3
  exact good_code hm hcf hlf (by kernel_rfl) (loops5 6 (by kernel_rfl)) ((e3 (law4_begun kf) byteset_Has (byteset_Or kf) (byteset_And kf) (byteset_Not kf) (byteset_Len kf) (byteset_Less kf) (byteset_List kf) (byteset_Of kf) _ _ _ _ _ _ K).trans h3)
end
end Go.Ab.T
