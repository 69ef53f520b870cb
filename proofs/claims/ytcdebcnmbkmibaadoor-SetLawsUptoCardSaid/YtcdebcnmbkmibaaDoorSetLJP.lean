/- SetLaws, piece by piece: its function. -/
import Derived.Test.YtcdebcnmbkmibaaDoorSetLJA
namespace Go.Ab.T
open Go Go.Ab
set_option linter.unusedVariables false
noncomputable def law4_SetLawsJ {R : Type} (kf : Nat) (v1 v2 v3 : List Int) (v4 : Int) (K : Bool → Option R) : Option R := sl0 (law4_begun kf) byteset_Has (byteset_Or kf) (byteset_And kf) (byteset_Not kf) v1 v2 v4 (fun v8 => sl1 (byteset_Or kf) (byteset_And kf) (byteset_Not kf) (byteset_Len kf) v1 v2 (fun v9 => sl2 (byteset_Less kf) v1 v2 v3 (fun v10 => sl3 (byteset_List kf) (byteset_Of kf) v1 v2 v3 v8 v9 v10 K))) K
end Go.Ab.T
