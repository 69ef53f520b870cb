/- SetLaws, piece by piece: the equations. -/
import Derived.Test.YtcdebcnmbkmibaaDoorSetLTB
import Derived.Test.YtcdebcnmbkmibaaDoorSetLJA
import Derived.Test.YtcdebcnmbkmibaaDoorJoin
namespace Go.Ab.T
open Go Go.Ab Go.Proofs
set_option maxRecDepth 100000
set_option linter.unusedVariables false
noncomputable section
section
variable {R : Type} (cB : (Bool → Option R) → Option R) (cHas : (List Int) → Int → (Bool → Option R) → Option R) (cOr : (List Int) → (List Int) → ((List Int) → Option R) → Option R) (cAnd : (List Int) → (List Int) → ((List Int) → Option R) → Option R) (cNot : (List Int) → ((List Int) → Option R) → Option R) (cLen : (List Int) → (Int → Option R) → Option R) (cLess : (List Int) → (List Int) → (Bool → Option R) → Option R) (cList : (List Int) → ((List Int) → Option R) → Option R) (cOf : (List Int) → ((List Int) → Option R) → Option R)
def jf3 (K : S → List Ent → Option R) (vs : List S) (es : List Ent) : Option R :=
  match vs, es with
  | [.ptr 0 [], .ptr 1 [], .ptr 2 [], .bool v8, .bool v9, .bool v10], [.box (.arr 4 (.int .u64) v1) false, .box (.arr 4 (.int .u64) v2) false, .box (.arr 4 (.int .u64) v3) false] => sl3 cList cOf v1 v2 v3 v8 v9 v10 (fun (r0 : Bool) => K (.bool r0) [])
  | _, _ => none
def jf2 (K : S → List Ent → Option R) (vs : List S) (es : List Ent) : Option R :=
  match vs, es with
  | [.ptr 0 [], .ptr 1 [], .ptr 2 [], .bool v8, .bool v9], [.box (.arr 4 (.int .u64) v1) false, .box (.arr 4 (.int .u64) v2) false, .box (.arr 4 (.int .u64) v3) false] => sl2 cLess v1 v2 v3 (fun v10 => sl3 cList cOf v1 v2 v3 v8 v9 v10 (fun (r0 : Bool) => K (.bool r0) []))
  | _, _ => none
def jf1 (K : S → List Ent → Option R) (vs : List S) (es : List Ent) : Option R :=
  match vs, es with
  | [.ptr 0 [], .ptr 1 [], .ptr 2 [], .bool v8], [.box (.arr 4 (.int .u64) v1) false, .box (.arr 4 (.int .u64) v2) false, .box (.arr 4 (.int .u64) v3) false] => sl1 cOr cAnd cNot cLen v1 v2 (fun v9 => sl2 cLess v1 v2 v3 (fun v10 => sl3 cList cOf v1 v2 v3 v8 v9 v10 (fun (r0 : Bool) => K (.bool r0) [])))
  | _, _ => none
end

theorem e3 {R : Type} (cB : (Bool → Option R) → Option R) (cHas : (List Int) → Int → (Bool → Option R) → Option R) (cOr : (List Int) → (List Int) → ((List Int) → Option R) → Option R) (cAnd : (List Int) → (List Int) → ((List Int) → Option R) → Option R) (cNot : (List Int) → ((List Int) → Option R) → Option R) (cLen : (List Int) → (Int → Option R) → Option R) (cLess : (List Int) → (List Int) → (Bool → Option R) → Option R) (cList : (List Int) → ((List Int) → Option R) → Option R) (cOf : (List Int) → ((List Int) → Option R) → Option R) (v1 v2 v3 : List Int) (v8 v9 v10 : Bool) (K : S → List Ent → Option R) :
    acodeK C_law4_SetLaws raw (cf_law4_SetLaws cB cHas cOr cAnd cNot cLen cLess cList cOf) (lf_law4_SetLaws cB cHas cOr cAnd cNot cLen cLess cList cOf) (restC 6 (bodyOf Tryd.prog 5)) (placeSt 132 0 [4, 5, 6, 11, 12, 13] [.ptr 0 [], .ptr 1 [], .ptr 2 [], .bool v8, .bool v9, .bool v10] [.box (.arr 4 (.int .u64) v1) false, .box (.arr 4 (.int .u64) v2) false, .box (.arr 4 (.int .u64) v3) false]) (runFin C_law4_SetLaws Tryd.f5.results.toList K) = sl3 cList cOf v1 v2 v3 v8 v9 v10 (fun (r0 : Bool) => K (.bool r0) []) := by kernel_rfl
theorem e2 {R : Type} (cB : (Bool → Option R) → Option R) (cHas : (List Int) → Int → (Bool → Option R) → Option R) (cOr : (List Int) → (List Int) → ((List Int) → Option R) → Option R) (cAnd : (List Int) → (List Int) → ((List Int) → Option R) → Option R) (cNot : (List Int) → ((List Int) → Option R) → Option R) (cLen : (List Int) → (Int → Option R) → Option R) (cLess : (List Int) → (List Int) → (Bool → Option R) → Option R) (cList : (List Int) → ((List Int) → Option R) → Option R) (cOf : (List Int) → ((List Int) → Option R) → Option R) (v1 v2 v3 : List Int) (v8 v9 : Bool) (K : S → List Ent → Option R) :
    spineK C_law4_SetLaws raw (cf_law4_SetLaws cB cHas cOr cAnd cNot cLen cLess cList cOf) (lf_law4_SetLaws cB cHas cOr cAnd cNot cLen cLess cList cOf) 1 (restC 5 (bodyOf Tryd.prog 5)) (placeSt 132 0 [4, 5, 6, 11, 12] [.ptr 0 [], .ptr 1 [], .ptr 2 [], .bool v8, .bool v9] [.box (.arr 4 (.int .u64) v1) false, .box (.arr 4 (.int .u64) v2) false, .box (.arr 4 (.int .u64) v3) false]) (cutJ 132 0 [4, 5, 6, 11, 12, 13] (jf3 cList cOf K)) (runFin C_law4_SetLaws Tryd.f5.results.toList K) = sl2 cLess v1 v2 v3 (fun v10 => sl3 cList cOf v1 v2 v3 v8 v9 v10 (fun (r0 : Bool) => K (.bool r0) [])) := by kernel_rfl
theorem e1 {R : Type} (cB : (Bool → Option R) → Option R) (cHas : (List Int) → Int → (Bool → Option R) → Option R) (cOr : (List Int) → (List Int) → ((List Int) → Option R) → Option R) (cAnd : (List Int) → (List Int) → ((List Int) → Option R) → Option R) (cNot : (List Int) → ((List Int) → Option R) → Option R) (cLen : (List Int) → (Int → Option R) → Option R) (cLess : (List Int) → (List Int) → (Bool → Option R) → Option R) (cList : (List Int) → ((List Int) → Option R) → Option R) (cOf : (List Int) → ((List Int) → Option R) → Option R) (v1 v2 v3 : List Int) (v8 : Bool) (K : S → List Ent → Option R) :
    spineK C_law4_SetLaws raw (cf_law4_SetLaws cB cHas cOr cAnd cNot cLen cLess cList cOf) (lf_law4_SetLaws cB cHas cOr cAnd cNot cLen cLess cList cOf) 1 (restC 4 (bodyOf Tryd.prog 5)) (placeSt 132 0 [4, 5, 6, 11] [.ptr 0 [], .ptr 1 [], .ptr 2 [], .bool v8] [.box (.arr 4 (.int .u64) v1) false, .box (.arr 4 (.int .u64) v2) false, .box (.arr 4 (.int .u64) v3) false]) (cutJ 132 0 [4, 5, 6, 11, 12] (jf2 cLess cList cOf K)) (runFin C_law4_SetLaws Tryd.f5.results.toList K) = sl1 cOr cAnd cNot cLen v1 v2 (fun v9 => sl2 cLess v1 v2 v3 (fun v10 => sl3 cList cOf v1 v2 v3 v8 v9 v10 (fun (r0 : Bool) => K (.bool r0) []))) := by kernel_rfl
theorem e0 {R : Type} (cB : (Bool → Option R) → Option R) (cHas : (List Int) → Int → (Bool → Option R) → Option R) (cOr : (List Int) → (List Int) → ((List Int) → Option R) → Option R) (cAnd : (List Int) → (List Int) → ((List Int) → Option R) → Option R) (cNot : (List Int) → ((List Int) → Option R) → Option R) (cLen : (List Int) → (Int → Option R) → Option R) (cLess : (List Int) → (List Int) → (Bool → Option R) → Option R) (cList : (List Int) → ((List Int) → Option R) → Option R) (cOf : (List Int) → ((List Int) → Option R) → Option R) (v1 v2 v3 : List Int) (v4 : Int) (K : S → List Ent → Option R) :
    spineK C_law4_SetLaws raw (cf_law4_SetLaws cB cHas cOr cAnd cNot cLen cLess cList cOf) (lf_law4_SetLaws cB cHas cOr cAnd cNot cLen cLess cList cOf) 4 (bodyOf Tryd.prog 5) ⟨[.arr 4 (.int .u64) v1, .arr 4 (.int .u64) v2, .arr 4 (.int .u64) v3, .int .u8 v4] ++ List.replicate (Tryd.f5.ntmps - 4) .junk, tbOf [], 1, npF raw 5 []⟩ (cutJ 132 0 [4, 5, 6, 11] (jf1 cOr cAnd cNot cLen cLess cList cOf K)) (runFin C_law4_SetLaws Tryd.f5.results.toList K) = sl0 cB cHas cOr cAnd cNot v1 v2 v4 (fun v8 => sl1 cOr cAnd cNot cLen v1 v2 (fun v9 => sl2 cLess v1 v2 v3 (fun v10 => sl3 cList cOf v1 v2 v3 v8 v9 v10 (fun (r0 : Bool) => K (.bool r0) [])))) (fun (r0 : Bool) => K (.bool r0) []) := by kernel_rfl
end
end Go.Ab.T
