/- SetLTB: a part of the proofs of this seat's statements. -/
import Derived.Test.YtcdebcnmbkmibaaDoorSetLTA

namespace Go.Ab.T

open Go Go.Ab Go.Proofs

set_option maxRecDepth 100000

set_option linter.unusedVariables false

noncomputable section

noncomputable def C_byteset_Range : Ctx := { P := Tryd.prog, mv := [], glob := glob, live := fun n => look n [(3, [1, 4, 5, 6])], out := fun n => look n [(3, [4, 5])], frz := fun n => look n [(3, [])], bef := fun n => look n [(5, [0, 1, 3, 7, 0, 16, 48, 127, 255, 511])] }

def cf_byteset_Range {R : Type} (l_3 : Int → (List Int) → ((List Int) → (List Int) → Option R) → Int → (List Int) → Option R) : CallF R := fun f av es K => none

def sl_byteset_Range_l3 {R : Type} (l_3 : Int → (List Int) → ((List Int) → (List Int) → Option R) → Int → (List Int) → Option R) (vs : List S) (es : List Ent) (K : Out → List S → List Ent → Option R) : Option R :=
  match vs, es with
  | [.int .u8 v3, .ptr 0 [], .ptr 1 [], .int .i64 v4], [.box (.arr 4 (.int .u64) v5) false, .box (.arr 4 (.int .u64) v6) false] => l_3 v3 v5 (fun (r0 : (List Int)) (r1 : (List Int)) => K (.exit 0) [.ptr 0 [], .ptr 1 []] [.box (.arr 4 (.int .u64) r0) false, .box (.arr 4 (.int .u64) r1) false]) v4 v6
  | _, _ => none

def lf_byteset_Range {R : Type} (l_3 : Int → (List Int) → ((List Int) → (List Int) → Option R) → Int → (List Int) → Option R) : LoopF R := fun m np id _ vs es K => iteH (decide (m = 25) && decide (np = 0)) (iteH (decide (id = 3)) (sl_byteset_Range_l3 l_3 vs es K) (none)) none

theorem eq_byteset_Range_l3 {R : Type} (l_3 : Int → (List Int) → ((List Int) → (List Int) → Option R) → Int → (List Int) → Option R) (v3 : Int) (v4 : Int) (v5 : (List Int)) (v6 : (List Int)) (K : Out → List S → List Ent → Option R) :
    acodeK C_byteset_Range raw (cf_byteset_Range l_3) (lf_byteset_Range l_3) (loopBody Tryd.prog 13 3) (placeSt 25 0 [1, 4, 5, 6] [.int .u8 v3, .ptr 0 [], .ptr 1 [], .int .i64 v4] [.box (.arr 4 (.int .u64) v5) false, .box (.arr 4 (.int .u64) v6) false]) (loopKont C_byteset_Range (lf_byteset_Range l_3) 25 0 3 (loopBody Tryd.prog 13 3) K) =
      byteset_Range_l3_b l_3 v3 v5 (fun (r0 : (List Int)) (r1 : (List Int)) => K (.exit 0) [.ptr 0 [], .ptr 1 []] [.box (.arr 4 (.int .u64) r0) false, .box (.arr 4 (.int .u64) r1) false]) v4 v6 := by kernel_rfl

theorem eq_byteset_Range {R : Type} (l_3 : Int → (List Int) → ((List Int) → (List Int) → Option R) → Int → (List Int) → Option R) (v1 : Int) (v2 : Int) (K : S → List Ent → Option R) :
    runK C_byteset_Range raw (cf_byteset_Range l_3) (lf_byteset_Range l_3) 13 [.int .u8 v1, .int .u8 v2] [] K =
      byteset_Range_b l_3 v1 v2 (fun (r0 : (List Int)) => K (.arr 4 (.int .u64) r0) []) := by kernel_rfl

noncomputable def C_byteset_Not_1 : Ctx := { P := Tryd.prog, mv := [], glob := glob, live := fun n => look n [], out := fun n => look n [], frz := fun n => look n [], bef := fun n => look n [] }

def cf_byteset_Not_1 {R : Type} : CallF R := fun f av es K => none

def lf_byteset_Not_1 {R : Type} : LoopF R := fun m np id _ vs es K => none

theorem eq_byteset_Not_1 {R : Type} (v1 : Int) (v2 : Int) (K : S → List Ent → Option R) :
    runK C_byteset_Not_1 raw (cf_byteset_Not_1) (lf_byteset_Not_1) 34 [.int .u64 v1, .int .u64 v2] [] K =
      byteset_Not_1_b v1 v2 (fun (r0 : Int) => K (.int .u64 r0) []) := by kernel_rfl

noncomputable def C_byteset_with : Ctx := { P := Tryd.prog, mv := [], glob := glob, live := fun n => look n [(3, [2, 3, 4, 6, 7, 9])], out := fun n => look n [(3, [6, 7])], frz := fun n => look n [(3, [])], bef := fun n => look n [(5, [0, 0, 0, 4, 12, 0, 32, 96, 254, 511, 1023])] }

def cf_byteset_with {R : Type} (c_byteset_Not_1 : Int → Int → (Int → Option R) → Option R) (l_3 : (List Int) → (List Int) → (List Int) → ((List Int) → (List Int) → Option R) → Int → (List Int) → Option R) : CallF R := fun f av es K => iteH (decide (f = 34)) (sh34 c_byteset_Not_1 av es K) (none)

def sl_byteset_with_l3 {R : Type} (l_3 : (List Int) → (List Int) → (List Int) → ((List Int) → (List Int) → Option R) → Int → (List Int) → Option R) (vs : List S) (es : List Ent) (K : Out → List S → List Ent → Option R) : Option R :=
  match vs, es with
  | [.fn 34 [], .ptr 0 [], .ptr 1 [], .ptr 2 [], .ptr 3 [], .int .i64 v3], [.box (.arr 4 (.int .u64) v4) false, .box (.arr 4 (.int .u64) v5) false, .box (.arr 4 (.int .u64) v6) false, .box (.arr 4 (.int .u64) v7) false] => l_3 v4 v5 v6 (fun (r0 : (List Int)) (r1 : (List Int)) => K (.exit 0) [.ptr 0 [], .ptr 1 []] [.box (.arr 4 (.int .u64) r0) false, .box (.arr 4 (.int .u64) r1) false]) v3 v7
  | _, _ => none

def lf_byteset_with {R : Type} (c_byteset_Not_1 : Int → Int → (Int → Option R) → Option R) (l_3 : (List Int) → (List Int) → (List Int) → ((List Int) → (List Int) → Option R) → Int → (List Int) → Option R) : LoopF R := fun m np id _ vs es K => iteH (decide (m = 24) && decide (np = 0)) (iteH (decide (id = 3)) (sl_byteset_with_l3 l_3 vs es K) (none)) none

theorem eq_byteset_with_l3 {R : Type} (c_byteset_Not_1 : Int → Int → (Int → Option R) → Option R) (l_3 : (List Int) → (List Int) → (List Int) → ((List Int) → (List Int) → Option R) → Int → (List Int) → Option R) (v3 : Int) (v4 : (List Int)) (v5 : (List Int)) (v6 : (List Int)) (v7 : (List Int)) (K : Out → List S → List Ent → Option R) :
    acodeK C_byteset_with raw (cf_byteset_with c_byteset_Not_1 l_3) (lf_byteset_with c_byteset_Not_1 l_3) (loopBody Tryd.prog 31 3) (placeSt 24 0 [2, 3, 4, 6, 7, 9] [.fn 34 [], .ptr 0 [], .ptr 1 [], .ptr 2 [], .ptr 3 [], .int .i64 v3] [.box (.arr 4 (.int .u64) v4) false, .box (.arr 4 (.int .u64) v5) false, .box (.arr 4 (.int .u64) v6) false, .box (.arr 4 (.int .u64) v7) false]) (loopKont C_byteset_with (lf_byteset_with c_byteset_Not_1 l_3) 24 0 3 (loopBody Tryd.prog 31 3) K) =
      byteset_with_l3_b c_byteset_Not_1 l_3 v4 v5 v6 (fun (r0 : (List Int)) (r1 : (List Int)) => K (.exit 0) [.ptr 0 [], .ptr 1 []] [.box (.arr 4 (.int .u64) r0) false, .box (.arr 4 (.int .u64) r1) false]) v3 v7 := by kernel_rfl

theorem eq_byteset_with {R : Type} (c_byteset_Not_1 : Int → Int → (Int → Option R) → Option R) (l_3 : (List Int) → (List Int) → (List Int) → ((List Int) → (List Int) → Option R) → Int → (List Int) → Option R) (v1 : (List Int)) (v2 : (List Int)) (K : S → List Ent → Option R) :
    runK C_byteset_with raw (cf_byteset_with c_byteset_Not_1 l_3) (lf_byteset_with c_byteset_Not_1 l_3) 31 [.arr 4 (.int .u64) v1, .arr 4 (.int .u64) v2, .fn 34 []] [] K =
      byteset_with_b c_byteset_Not_1 l_3 v1 v2 (fun (r0 : (List Int)) => K (.arr 4 (.int .u64) r0) []) := by kernel_rfl

noncomputable def C_byteset_Not : Ctx := { P := Tryd.prog, mv := [], glob := glob, live := fun n => look n [], out := fun n => look n [], frz := fun n => look n [], bef := fun n => look n [] }

def cf_byteset_Not {R : Type} (c_byteset_with : (List Int) → (List Int) → ((List Int) → Option R) → Option R) : CallF R := fun f av es K => iteH (decide (f = 31)) (sh31 c_byteset_with (fun _ _ _ => none) (fun _ _ _ => none) av es K) (none)

def lf_byteset_Not {R : Type} (c_byteset_with : (List Int) → (List Int) → ((List Int) → Option R) → Option R) : LoopF R := fun m np id _ vs es K => none

theorem eq_byteset_Not {R : Type} (c_byteset_with : (List Int) → (List Int) → ((List Int) → Option R) → Option R) (v1 : (List Int)) (K : S → List Ent → Option R) :
    runK C_byteset_Not raw (cf_byteset_Not c_byteset_with) (lf_byteset_Not c_byteset_with) 19 [.arr 4 (.int .u64) v1] [] K =
      byteset_Not_b c_byteset_with v1 (fun (r0 : (List Int)) => K (.arr 4 (.int .u64) r0) []) := by kernel_rfl

noncomputable def C_byteset_And_1 : Ctx := { P := Tryd.prog, mv := [], glob := glob, live := fun n => look n [], out := fun n => look n [], frz := fun n => look n [], bef := fun n => look n [] }

def cf_byteset_And_1 {R : Type} : CallF R := fun f av es K => none

def lf_byteset_And_1 {R : Type} : LoopF R := fun m np id _ vs es K => none

theorem eq_byteset_And_1 {R : Type} (v1 : Int) (v2 : Int) (K : S → List Ent → Option R) :
    runK C_byteset_And_1 raw (cf_byteset_And_1) (lf_byteset_And_1) 33 [.int .u64 v1, .int .u64 v2] [] K =
      byteset_And_1_b v1 v2 (fun (r0 : Int) => K (.int .u64 r0) []) := by kernel_rfl

noncomputable def C_byteset_with_s1 : Ctx := { P := Tryd.prog, mv := [], glob := glob, live := fun n => look n [(3, [2, 3, 4, 6, 7, 9])], out := fun n => look n [(3, [6, 7])], frz := fun n => look n [(3, [])], bef := fun n => look n [(5, [0, 0, 0, 4, 12, 0, 32, 96, 254, 511, 1023])] }

def cf_byteset_with_s1 {R : Type} (c_byteset_And_1 : Int → Int → (Int → Option R) → Option R) (l_3 : (List Int) → (List Int) → (List Int) → ((List Int) → (List Int) → Option R) → Int → (List Int) → Option R) : CallF R := fun f av es K => iteH (decide (f = 33)) (sh33 c_byteset_And_1 av es K) (none)

def sl_byteset_with_s1_l3 {R : Type} (l_3 : (List Int) → (List Int) → (List Int) → ((List Int) → (List Int) → Option R) → Int → (List Int) → Option R) (vs : List S) (es : List Ent) (K : Out → List S → List Ent → Option R) : Option R :=
  match vs, es with
  | [.fn 33 [], .ptr 0 [], .ptr 1 [], .ptr 2 [], .ptr 3 [], .int .i64 v3], [.box (.arr 4 (.int .u64) v4) false, .box (.arr 4 (.int .u64) v5) false, .box (.arr 4 (.int .u64) v6) false, .box (.arr 4 (.int .u64) v7) false] => l_3 v4 v5 v6 (fun (r0 : (List Int)) (r1 : (List Int)) => K (.exit 0) [.ptr 0 [], .ptr 1 []] [.box (.arr 4 (.int .u64) r0) false, .box (.arr 4 (.int .u64) r1) false]) v3 v7
  | _, _ => none

def lf_byteset_with_s1 {R : Type} (c_byteset_And_1 : Int → Int → (Int → Option R) → Option R) (l_3 : (List Int) → (List Int) → (List Int) → ((List Int) → (List Int) → Option R) → Int → (List Int) → Option R) : LoopF R := fun m np id _ vs es K => iteH (decide (m = 24) && decide (np = 0)) (iteH (decide (id = 3)) (sl_byteset_with_s1_l3 l_3 vs es K) (none)) none

theorem eq_byteset_with_s1_l3 {R : Type} (c_byteset_And_1 : Int → Int → (Int → Option R) → Option R) (l_3 : (List Int) → (List Int) → (List Int) → ((List Int) → (List Int) → Option R) → Int → (List Int) → Option R) (v3 : Int) (v4 : (List Int)) (v5 : (List Int)) (v6 : (List Int)) (v7 : (List Int)) (K : Out → List S → List Ent → Option R) :
    acodeK C_byteset_with_s1 raw (cf_byteset_with_s1 c_byteset_And_1 l_3) (lf_byteset_with_s1 c_byteset_And_1 l_3) (loopBody Tryd.prog 31 3) (placeSt 24 0 [2, 3, 4, 6, 7, 9] [.fn 33 [], .ptr 0 [], .ptr 1 [], .ptr 2 [], .ptr 3 [], .int .i64 v3] [.box (.arr 4 (.int .u64) v4) false, .box (.arr 4 (.int .u64) v5) false, .box (.arr 4 (.int .u64) v6) false, .box (.arr 4 (.int .u64) v7) false]) (loopKont C_byteset_with_s1 (lf_byteset_with_s1 c_byteset_And_1 l_3) 24 0 3 (loopBody Tryd.prog 31 3) K) =
      byteset_with_s1_l3_b c_byteset_And_1 l_3 v4 v5 v6 (fun (r0 : (List Int)) (r1 : (List Int)) => K (.exit 0) [.ptr 0 [], .ptr 1 []] [.box (.arr 4 (.int .u64) r0) false, .box (.arr 4 (.int .u64) r1) false]) v3 v7 := by kernel_rfl

theorem eq_byteset_with_s1 {R : Type} (c_byteset_And_1 : Int → Int → (Int → Option R) → Option R) (l_3 : (List Int) → (List Int) → (List Int) → ((List Int) → (List Int) → Option R) → Int → (List Int) → Option R) (v1 : (List Int)) (v2 : (List Int)) (K : S → List Ent → Option R) :
    runK C_byteset_with_s1 raw (cf_byteset_with_s1 c_byteset_And_1 l_3) (lf_byteset_with_s1 c_byteset_And_1 l_3) 31 [.arr 4 (.int .u64) v1, .arr 4 (.int .u64) v2, .fn 33 []] [] K =
      byteset_with_s1_b c_byteset_And_1 l_3 v1 v2 (fun (r0 : (List Int)) => K (.arr 4 (.int .u64) r0) []) := by kernel_rfl

noncomputable def C_byteset_And : Ctx := { P := Tryd.prog, mv := [], glob := glob, live := fun n => look n [], out := fun n => look n [], frz := fun n => look n [], bef := fun n => look n [] }

def cf_byteset_And {R : Type} (c_byteset_with_s1 : (List Int) → (List Int) → ((List Int) → Option R) → Option R) : CallF R := fun f av es K => iteH (decide (f = 31)) (sh31 (fun _ _ _ => none) c_byteset_with_s1 (fun _ _ _ => none) av es K) (none)

def lf_byteset_And {R : Type} (c_byteset_with_s1 : (List Int) → (List Int) → ((List Int) → Option R) → Option R) : LoopF R := fun m np id _ vs es K => none

theorem eq_byteset_And {R : Type} (c_byteset_with_s1 : (List Int) → (List Int) → ((List Int) → Option R) → Option R) (v1 : (List Int)) (v2 : (List Int)) (K : S → List Ent → Option R) :
    runK C_byteset_And raw (cf_byteset_And c_byteset_with_s1) (lf_byteset_And c_byteset_with_s1) 17 [.arr 4 (.int .u64) v1, .arr 4 (.int .u64) v2] [] K =
      byteset_And_b c_byteset_with_s1 v1 v2 (fun (r0 : (List Int)) => K (.arr 4 (.int .u64) r0) []) := by kernel_rfl

noncomputable def C_byteset_Has : Ctx := { P := Tryd.prog, mv := [], glob := glob, live := fun n => look n [], out := fun n => look n [], frz := fun n => look n [], bef := fun n => look n [] }

def cf_byteset_Has {R : Type} : CallF R := fun f av es K => none

def lf_byteset_Has {R : Type} : LoopF R := fun m np id _ vs es K => none

theorem eq_byteset_Has {R : Type} (v1 : (List Int)) (v2 : Int) (K : S → List Ent → Option R) :
    runK C_byteset_Has raw (cf_byteset_Has) (lf_byteset_Has) 26 [.arr 4 (.int .u64) v1, .int .u8 v2] [] K =
      byteset_Has_b v1 v2 (fun (r0 : Bool) => K (.bool r0) []) := by kernel_rfl

noncomputable def C_byteset_Or_1 : Ctx := { P := Tryd.prog, mv := [], glob := glob, live := fun n => look n [], out := fun n => look n [], frz := fun n => look n [], bef := fun n => look n [] }

def cf_byteset_Or_1 {R : Type} : CallF R := fun f av es K => none

def lf_byteset_Or_1 {R : Type} : LoopF R := fun m np id _ vs es K => none

theorem eq_byteset_Or_1 {R : Type} (v1 : Int) (v2 : Int) (K : S → List Ent → Option R) :
    runK C_byteset_Or_1 raw (cf_byteset_Or_1) (lf_byteset_Or_1) 32 [.int .u64 v1, .int .u64 v2] [] K =
      byteset_Or_1_b v1 v2 (fun (r0 : Int) => K (.int .u64 r0) []) := by kernel_rfl

noncomputable def C_byteset_with_s2 : Ctx := { P := Tryd.prog, mv := [], glob := glob, live := fun n => look n [(3, [2, 3, 4, 6, 7, 9])], out := fun n => look n [(3, [6, 7])], frz := fun n => look n [(3, [])], bef := fun n => look n [(5, [0, 0, 0, 4, 12, 0, 32, 96, 254, 511, 1023])] }

def cf_byteset_with_s2 {R : Type} (c_byteset_Or_1 : Int → Int → (Int → Option R) → Option R) (l_3 : (List Int) → (List Int) → (List Int) → ((List Int) → (List Int) → Option R) → Int → (List Int) → Option R) : CallF R := fun f av es K => iteH (decide (f = 32)) (sh32 c_byteset_Or_1 av es K) (none)

def sl_byteset_with_s2_l3 {R : Type} (l_3 : (List Int) → (List Int) → (List Int) → ((List Int) → (List Int) → Option R) → Int → (List Int) → Option R) (vs : List S) (es : List Ent) (K : Out → List S → List Ent → Option R) : Option R :=
  match vs, es with
  | [.fn 32 [], .ptr 0 [], .ptr 1 [], .ptr 2 [], .ptr 3 [], .int .i64 v3], [.box (.arr 4 (.int .u64) v4) false, .box (.arr 4 (.int .u64) v5) false, .box (.arr 4 (.int .u64) v6) false, .box (.arr 4 (.int .u64) v7) false] => l_3 v4 v5 v6 (fun (r0 : (List Int)) (r1 : (List Int)) => K (.exit 0) [.ptr 0 [], .ptr 1 []] [.box (.arr 4 (.int .u64) r0) false, .box (.arr 4 (.int .u64) r1) false]) v3 v7
  | _, _ => none

def lf_byteset_with_s2 {R : Type} (c_byteset_Or_1 : Int → Int → (Int → Option R) → Option R) (l_3 : (List Int) → (List Int) → (List Int) → ((List Int) → (List Int) → Option R) → Int → (List Int) → Option R) : LoopF R := fun m np id _ vs es K => iteH (decide (m = 24) && decide (np = 0)) (iteH (decide (id = 3)) (sl_byteset_with_s2_l3 l_3 vs es K) (none)) none

theorem eq_byteset_with_s2_l3 {R : Type} (c_byteset_Or_1 : Int → Int → (Int → Option R) → Option R) (l_3 : (List Int) → (List Int) → (List Int) → ((List Int) → (List Int) → Option R) → Int → (List Int) → Option R) (v3 : Int) (v4 : (List Int)) (v5 : (List Int)) (v6 : (List Int)) (v7 : (List Int)) (K : Out → List S → List Ent → Option R) :
    acodeK C_byteset_with_s2 raw (cf_byteset_with_s2 c_byteset_Or_1 l_3) (lf_byteset_with_s2 c_byteset_Or_1 l_3) (loopBody Tryd.prog 31 3) (placeSt 24 0 [2, 3, 4, 6, 7, 9] [.fn 32 [], .ptr 0 [], .ptr 1 [], .ptr 2 [], .ptr 3 [], .int .i64 v3] [.box (.arr 4 (.int .u64) v4) false, .box (.arr 4 (.int .u64) v5) false, .box (.arr 4 (.int .u64) v6) false, .box (.arr 4 (.int .u64) v7) false]) (loopKont C_byteset_with_s2 (lf_byteset_with_s2 c_byteset_Or_1 l_3) 24 0 3 (loopBody Tryd.prog 31 3) K) =
      byteset_with_s2_l3_b c_byteset_Or_1 l_3 v4 v5 v6 (fun (r0 : (List Int)) (r1 : (List Int)) => K (.exit 0) [.ptr 0 [], .ptr 1 []] [.box (.arr 4 (.int .u64) r0) false, .box (.arr 4 (.int .u64) r1) false]) v3 v7 := by kernel_rfl

theorem eq_byteset_with_s2 {R : Type} (c_byteset_Or_1 : Int → Int → (Int → Option R) → Option R) (l_3 : (List Int) → (List Int) → (List Int) → ((List Int) → (List Int) → Option R) → Int → (List Int) → Option R) (v1 : (List Int)) (v2 : (List Int)) (K : S → List Ent → Option R) :
    runK C_byteset_with_s2 raw (cf_byteset_with_s2 c_byteset_Or_1 l_3) (lf_byteset_with_s2 c_byteset_Or_1 l_3) 31 [.arr 4 (.int .u64) v1, .arr 4 (.int .u64) v2, .fn 32 []] [] K =
      byteset_with_s2_b c_byteset_Or_1 l_3 v1 v2 (fun (r0 : (List Int)) => K (.arr 4 (.int .u64) r0) []) := by kernel_rfl

noncomputable def C_byteset_Or : Ctx := { P := Tryd.prog, mv := [], glob := glob, live := fun n => look n [], out := fun n => look n [], frz := fun n => look n [], bef := fun n => look n [] }

def cf_byteset_Or {R : Type} (c_byteset_with_s2 : (List Int) → (List Int) → ((List Int) → Option R) → Option R) : CallF R := fun f av es K => iteH (decide (f = 31)) (sh31 (fun _ _ _ => none) (fun _ _ _ => none) c_byteset_with_s2 av es K) (none)

def lf_byteset_Or {R : Type} (c_byteset_with_s2 : (List Int) → (List Int) → ((List Int) → Option R) → Option R) : LoopF R := fun m np id _ vs es K => none

theorem eq_byteset_Or {R : Type} (c_byteset_with_s2 : (List Int) → (List Int) → ((List Int) → Option R) → Option R) (v1 : (List Int)) (v2 : (List Int)) (K : S → List Ent → Option R) :
    runK C_byteset_Or raw (cf_byteset_Or c_byteset_with_s2) (lf_byteset_Or c_byteset_with_s2) 15 [.arr 4 (.int .u64) v1, .arr 4 (.int .u64) v2] [] K =
      byteset_Or_b c_byteset_with_s2 v1 v2 (fun (r0 : (List Int)) => K (.arr 4 (.int .u64) r0) []) := by kernel_rfl

noncomputable def C_byteset_Parts : Ctx := { P := Tryd.prog, mv := [], glob := glob, live := fun n => look n [(3, [3, 19, 20, 21]), (7, [5, 6, 19, 20, 21, 25, 26, 27]), (10, [5, 6, 19, 20, 21, 25, 26, 27, 38, 39, 40]), (21, [3, 11, 12, 55]), (25, [3, 11, 12, 13, 55, 62, 63, 64])], out := fun n => look n [(3, [3]), (7, [6, 19, 20, 21]), (10, [5, 6, 19, 20, 21, 25, 26, 27]), (21, [11]), (25, [3, 11, 12, 55])], frz := fun n => look n [(3, []), (7, []), (10, []), (21, []), (25, [])], bef := fun n => look n [(9, [0, 0, 3, 0, 0, 23, 63, 127, 255, 0]), (28, [0, 0, 2, 7, 0, 0, 63, 127, 255])] }

def cf_byteset_Parts {R : Type} (c_byteset_Not : (List Int) → ((List Int) → Option R) → Option R) (c_byteset_And : (List Int) → (List Int) → ((List Int) → Option R) → Option R) (c_byteset_Has : (List Int) → Int → (Bool → Option R) → Option R) (c_byteset_Or : (List Int) → (List Int) → ((List Int) → Option R) → Option R) (l_3 : ((List (List Int)) → Option R) → (List (List Int)) → Int → Int → (List (List Int)) → Option R) (l_7 : ((List (List Int)) → Int → Int → (List (List Int)) → Option R) → (List (List Int)) → Int → Int → Int → Int → (List Int) → (List (List Int)) → (List (List Int)) → Option R) (l_10 : (List (List Int)) → Int → Int → Int → Int → Int → (List Int) → (List (List Int)) → (List (List Int)) → ((List (List Int)) → Int → Int → Int → Int → (List Int) → (List (List Int)) → (List (List Int)) → Option R) → Int → (List (List Int)) → Option R) (l_21 : ((List (List Int)) → Option R) → Int → (List (List Int)) → (List (List Int)) → (List Int) → Option R) (l_25 : Int → Int → Int → (List (List Int)) → (Int → (List (List Int)) → (List (List Int)) → (List Int) → Option R) → Int → (List (List Int)) → (List Int) → Option R) : CallF R := fun f av es K => iteH (decide (f = 19)) (sh19 c_byteset_Not av es K) (iteH (decide (f = 17)) (sh17 c_byteset_And av es K) (iteH (decide (f = 26)) (sh26 c_byteset_Has av es K) (iteH (decide (f = 15)) (sh15 c_byteset_Or av es K) (none))))

def sl_byteset_Parts_l3 {R : Type} (l_3 : ((List (List Int)) → Option R) → (List (List Int)) → Int → Int → (List (List Int)) → Option R) (vs : List S) (es : List Ent) (K : Out → List S → List Ent → Option R) : Option R :=
  match vs, es with
  | [.own (.arr 4 (.int .u64)) 0, .sl (.arr 4 (.int .u64)) v3, .int .i64 v4, .int .i64 v5], [.buf (.arr 4 (.int .u64)) v6 false] => l_3 (fun (r0 : (List (List Int))) => K (.exit 0) [.own (.arr 4 (.int .u64)) 0] [.buf (.arr 4 (.int .u64)) r0 false]) v3 v4 v5 v6
  | _, _ => none

def sl_byteset_Parts_l7 {R : Type} (l_7 : ((List (List Int)) → Int → Int → (List (List Int)) → Option R) → (List (List Int)) → Int → Int → Int → Int → (List Int) → (List (List Int)) → (List (List Int)) → Option R) (vs : List S) (es : List Ent) (K : Out → List S → List Ent → Option R) : Option R :=
  match vs, es with
  | [.ptr 0 [], .own (.arr 4 (.int .u64)) 1, .sl (.arr 4 (.int .u64)) v7, .int .i64 v8, .int .i64 v9, .own (.arr 4 (.int .u64)) 2, .int .i64 v10, .int .i64 v11], [.box (.arr 4 (.int .u64) v12) false, .buf (.arr 4 (.int .u64)) v13 false, .buf (.arr 4 (.int .u64)) v14 false] => l_7 (fun (r0 : (List (List Int))) (r1 : Int) (r2 : Int) (r3 : (List (List Int))) => K (.exit 2) [.own (.arr 4 (.int .u64)) 0, .sl (.arr 4 (.int .u64)) r0, .int .i64 r1, .int .i64 r2] [.buf (.arr 4 (.int .u64)) r3 false]) v7 v8 v9 v10 v11 v12 v13 v14
  | _, _ => none

def sl_byteset_Parts_l10 {R : Type} (l_10 : (List (List Int)) → Int → Int → Int → Int → Int → (List Int) → (List (List Int)) → (List (List Int)) → ((List (List Int)) → Int → Int → Int → Int → (List Int) → (List (List Int)) → (List (List Int)) → Option R) → Int → (List (List Int)) → Option R) (vs : List S) (es : List Ent) (K : Out → List S → List Ent → Option R) : Option R :=
  match vs, es with
  | [.ptr 0 [], .own (.arr 4 (.int .u64)) 1, .sl (.arr 4 (.int .u64)) v18, .int .i64 v19, .int .i64 v20, .own (.arr 4 (.int .u64)) 2, .int .i64 v21, .int .i64 v22, .own (.arr 4 (.int .u64)) 3, .int .i64 v23, .int .i64 v24], [.box (.arr 4 (.int .u64) v25) false, .buf (.arr 4 (.int .u64)) v26 false, .buf (.arr 4 (.int .u64)) v27 false, .buf (.arr 4 (.int .u64)) v28 false] => l_10 v18 v19 v20 v21 v22 v23 v25 v27 v28 (fun (r0 : (List (List Int))) (r1 : Int) (r2 : Int) (r3 : Int) (r4 : Int) (r5 : (List Int)) (r6 : (List (List Int))) (r7 : (List (List Int))) => K (.exit 4) [.ptr 0 [], .own (.arr 4 (.int .u64)) 1, .sl (.arr 4 (.int .u64)) r0, .int .i64 r1, .int .i64 r2, .own (.arr 4 (.int .u64)) 2, .int .i64 r3, .int .i64 r4] [.box (.arr 4 (.int .u64) r5) false, .buf (.arr 4 (.int .u64)) r6 false, .buf (.arr 4 (.int .u64)) r7 false]) v24 v26
  | _, _ => none

def sl_byteset_Parts_l21 {R : Type} (l_21 : ((List (List Int)) → Option R) → Int → (List (List Int)) → (List (List Int)) → (List Int) → Option R) (vs : List S) (es : List Ent) (K : Out → List S → List Ent → Option R) : Option R :=
  match vs, es with
  | [.own (.arr 4 (.int .u64)) 0, .own (.arr 4 (.int .u64)) 1, .ptr 2 [], .int .i64 v42], [.buf (.arr 4 (.int .u64)) v43 false, .buf (.arr 4 (.int .u64)) v44 false, .box (.arr 4 (.int .u64) v45) false] => l_21 (fun (r0 : (List (List Int))) => K (.exit 6) [.own (.arr 4 (.int .u64)) 0] [.buf (.arr 4 (.int .u64)) r0 false]) v42 v43 v44 v45
  | _, _ => none

def sl_byteset_Parts_l25 {R : Type} (l_25 : Int → Int → Int → (List (List Int)) → (Int → (List (List Int)) → (List (List Int)) → (List Int) → Option R) → Int → (List (List Int)) → (List Int) → Option R) (vs : List S) (es : List Ent) (K : Out → List S → List Ent → Option R) : Option R :=
  match vs, es with
  | [.own (.arr 4 (.int .u64)) 0, .own (.arr 4 (.int .u64)) 1, .ptr 2 [], .int .i64 v47, .int .i64 v48, .own (.arr 4 (.int .u64)) 0, .int .i64 v49, .int .i64 v50], [.buf (.arr 4 (.int .u64)) v51 false, .buf (.arr 4 (.int .u64)) v52 false, .box (.arr 4 (.int .u64) v53) false] => l_25 v47 v48 v49 v51 (fun (r0 : Int) (r1 : (List (List Int))) (r2 : (List (List Int))) (r3 : (List Int)) => K (.exit 8) [.own (.arr 4 (.int .u64)) 0, .own (.arr 4 (.int .u64)) 1, .ptr 2 [], .int .i64 r0] [.buf (.arr 4 (.int .u64)) r1 false, .buf (.arr 4 (.int .u64)) r2 false, .box (.arr 4 (.int .u64) r3) false]) v50 v52 v53
  | _, _ => none

def lf_byteset_Parts {R : Type} (c_byteset_Not : (List Int) → ((List Int) → Option R) → Option R) (c_byteset_And : (List Int) → (List Int) → ((List Int) → Option R) → Option R) (c_byteset_Has : (List Int) → Int → (Bool → Option R) → Option R) (c_byteset_Or : (List Int) → (List Int) → ((List Int) → Option R) → Option R) (l_3 : ((List (List Int)) → Option R) → (List (List Int)) → Int → Int → (List (List Int)) → Option R) (l_7 : ((List (List Int)) → Int → Int → (List (List Int)) → Option R) → (List (List Int)) → Int → Int → Int → Int → (List Int) → (List (List Int)) → (List (List Int)) → Option R) (l_10 : (List (List Int)) → Int → Int → Int → Int → Int → (List Int) → (List (List Int)) → (List (List Int)) → ((List (List Int)) → Int → Int → Int → Int → (List Int) → (List (List Int)) → (List (List Int)) → Option R) → Int → (List (List Int)) → Option R) (l_21 : ((List (List Int)) → Option R) → Int → (List (List Int)) → (List (List Int)) → (List Int) → Option R) (l_25 : Int → Int → Int → (List (List Int)) → (Int → (List (List Int)) → (List (List Int)) → (List Int) → Option R) → Int → (List (List Int)) → (List Int) → Option R) : LoopF R := fun m np id _ vs es K => iteH (decide (m = 82) && decide (np = 0)) (iteH (decide (id = 3)) (sl_byteset_Parts_l3 l_3 vs es K) (iteH (decide (id = 7)) (sl_byteset_Parts_l7 l_7 vs es K) (iteH (decide (id = 10)) (sl_byteset_Parts_l10 l_10 vs es K) (iteH (decide (id = 21)) (sl_byteset_Parts_l21 l_21 vs es K) (iteH (decide (id = 25)) (sl_byteset_Parts_l25 l_25 vs es K) (none)))))) none

theorem eq_byteset_Parts_l3 {R : Type} (c_byteset_Not : (List Int) → ((List Int) → Option R) → Option R) (c_byteset_And : (List Int) → (List Int) → ((List Int) → Option R) → Option R) (c_byteset_Has : (List Int) → Int → (Bool → Option R) → Option R) (c_byteset_Or : (List Int) → (List Int) → ((List Int) → Option R) → Option R) (l_3 : ((List (List Int)) → Option R) → (List (List Int)) → Int → Int → (List (List Int)) → Option R) (l_7 : ((List (List Int)) → Int → Int → (List (List Int)) → Option R) → (List (List Int)) → Int → Int → Int → Int → (List Int) → (List (List Int)) → (List (List Int)) → Option R) (l_10 : (List (List Int)) → Int → Int → Int → Int → Int → (List Int) → (List (List Int)) → (List (List Int)) → ((List (List Int)) → Int → Int → Int → Int → (List Int) → (List (List Int)) → (List (List Int)) → Option R) → Int → (List (List Int)) → Option R) (l_21 : ((List (List Int)) → Option R) → Int → (List (List Int)) → (List (List Int)) → (List Int) → Option R) (l_25 : Int → Int → Int → (List (List Int)) → (Int → (List (List Int)) → (List (List Int)) → (List Int) → Option R) → Int → (List (List Int)) → (List Int) → Option R) (v3 : (List (List Int))) (v4 : Int) (v5 : Int) (v6 : (List (List Int))) (K : Out → List S → List Ent → Option R) :
    acodeK C_byteset_Parts raw (cf_byteset_Parts c_byteset_Not c_byteset_And c_byteset_Has c_byteset_Or l_3 l_7 l_10 l_21 l_25) (lf_byteset_Parts c_byteset_Not c_byteset_And c_byteset_Has c_byteset_Or l_3 l_7 l_10 l_21 l_25) (loopBody Tryd.prog 28 3) (placeSt 82 0 [3, 19, 20, 21] [.own (.arr 4 (.int .u64)) 0, .sl (.arr 4 (.int .u64)) v3, .int .i64 v4, .int .i64 v5] [.buf (.arr 4 (.int .u64)) v6 false]) (loopKont C_byteset_Parts (lf_byteset_Parts c_byteset_Not c_byteset_And c_byteset_Has c_byteset_Or l_3 l_7 l_10 l_21 l_25) 82 0 3 (loopBody Tryd.prog 28 3) K) =
      byteset_Parts_l3_b c_byteset_Not c_byteset_And c_byteset_Has c_byteset_Or l_3 l_7 l_10 l_21 l_25 (fun (r0 : (List (List Int))) => K (.exit 0) [.own (.arr 4 (.int .u64)) 0] [.buf (.arr 4 (.int .u64)) r0 false]) v3 v4 v5 v6 := by kernel_rfl

theorem eq_byteset_Parts_l7 {R : Type} (c_byteset_Not : (List Int) → ((List Int) → Option R) → Option R) (c_byteset_And : (List Int) → (List Int) → ((List Int) → Option R) → Option R) (c_byteset_Has : (List Int) → Int → (Bool → Option R) → Option R) (c_byteset_Or : (List Int) → (List Int) → ((List Int) → Option R) → Option R) (l_3 : ((List (List Int)) → Option R) → (List (List Int)) → Int → Int → (List (List Int)) → Option R) (l_7 : ((List (List Int)) → Int → Int → (List (List Int)) → Option R) → (List (List Int)) → Int → Int → Int → Int → (List Int) → (List (List Int)) → (List (List Int)) → Option R) (l_10 : (List (List Int)) → Int → Int → Int → Int → Int → (List Int) → (List (List Int)) → (List (List Int)) → ((List (List Int)) → Int → Int → Int → Int → (List Int) → (List (List Int)) → (List (List Int)) → Option R) → Int → (List (List Int)) → Option R) (l_21 : ((List (List Int)) → Option R) → Int → (List (List Int)) → (List (List Int)) → (List Int) → Option R) (l_25 : Int → Int → Int → (List (List Int)) → (Int → (List (List Int)) → (List (List Int)) → (List Int) → Option R) → Int → (List (List Int)) → (List Int) → Option R) (v7 : (List (List Int))) (v8 : Int) (v9 : Int) (v10 : Int) (v11 : Int) (v12 : (List Int)) (v13 : (List (List Int))) (v14 : (List (List Int))) (K : Out → List S → List Ent → Option R) :
    acodeK C_byteset_Parts raw (cf_byteset_Parts c_byteset_Not c_byteset_And c_byteset_Has c_byteset_Or l_3 l_7 l_10 l_21 l_25) (lf_byteset_Parts c_byteset_Not c_byteset_And c_byteset_Has c_byteset_Or l_3 l_7 l_10 l_21 l_25) (loopBody Tryd.prog 28 7) (placeSt 82 0 [5, 6, 19, 20, 21, 25, 26, 27] [.ptr 0 [], .own (.arr 4 (.int .u64)) 1, .sl (.arr 4 (.int .u64)) v7, .int .i64 v8, .int .i64 v9, .own (.arr 4 (.int .u64)) 2, .int .i64 v10, .int .i64 v11] [.box (.arr 4 (.int .u64) v12) false, .buf (.arr 4 (.int .u64)) v13 false, .buf (.arr 4 (.int .u64)) v14 false]) (loopKont C_byteset_Parts (lf_byteset_Parts c_byteset_Not c_byteset_And c_byteset_Has c_byteset_Or l_3 l_7 l_10 l_21 l_25) 82 0 7 (loopBody Tryd.prog 28 7) K) =
      byteset_Parts_l7_b c_byteset_Not c_byteset_And c_byteset_Has c_byteset_Or l_3 l_7 l_10 l_21 l_25 (fun (r0 : (List (List Int))) (r1 : Int) (r2 : Int) (r3 : (List (List Int))) => K (.exit 2) [.own (.arr 4 (.int .u64)) 0, .sl (.arr 4 (.int .u64)) r0, .int .i64 r1, .int .i64 r2] [.buf (.arr 4 (.int .u64)) r3 false]) v7 v8 v9 v10 v11 v12 v13 v14 := by kernel_rfl

theorem eq_byteset_Parts_l10 {R : Type} (c_byteset_Not : (List Int) → ((List Int) → Option R) → Option R) (c_byteset_And : (List Int) → (List Int) → ((List Int) → Option R) → Option R) (c_byteset_Has : (List Int) → Int → (Bool → Option R) → Option R) (c_byteset_Or : (List Int) → (List Int) → ((List Int) → Option R) → Option R) (l_3 : ((List (List Int)) → Option R) → (List (List Int)) → Int → Int → (List (List Int)) → Option R) (l_7 : ((List (List Int)) → Int → Int → (List (List Int)) → Option R) → (List (List Int)) → Int → Int → Int → Int → (List Int) → (List (List Int)) → (List (List Int)) → Option R) (l_10 : (List (List Int)) → Int → Int → Int → Int → Int → (List Int) → (List (List Int)) → (List (List Int)) → ((List (List Int)) → Int → Int → Int → Int → (List Int) → (List (List Int)) → (List (List Int)) → Option R) → Int → (List (List Int)) → Option R) (l_21 : ((List (List Int)) → Option R) → Int → (List (List Int)) → (List (List Int)) → (List Int) → Option R) (l_25 : Int → Int → Int → (List (List Int)) → (Int → (List (List Int)) → (List (List Int)) → (List Int) → Option R) → Int → (List (List Int)) → (List Int) → Option R) (v18 : (List (List Int))) (v19 : Int) (v20 : Int) (v21 : Int) (v22 : Int) (v23 : Int) (v24 : Int) (v25 : (List Int)) (v26 : (List (List Int))) (v27 : (List (List Int))) (v28 : (List (List Int))) (K : Out → List S → List Ent → Option R) :
    acodeK C_byteset_Parts raw (cf_byteset_Parts c_byteset_Not c_byteset_And c_byteset_Has c_byteset_Or l_3 l_7 l_10 l_21 l_25) (lf_byteset_Parts c_byteset_Not c_byteset_And c_byteset_Has c_byteset_Or l_3 l_7 l_10 l_21 l_25) (loopBody Tryd.prog 28 10) (placeSt 82 0 [5, 6, 19, 20, 21, 25, 26, 27, 38, 39, 40] [.ptr 0 [], .own (.arr 4 (.int .u64)) 1, .sl (.arr 4 (.int .u64)) v18, .int .i64 v19, .int .i64 v20, .own (.arr 4 (.int .u64)) 2, .int .i64 v21, .int .i64 v22, .own (.arr 4 (.int .u64)) 3, .int .i64 v23, .int .i64 v24] [.box (.arr 4 (.int .u64) v25) false, .buf (.arr 4 (.int .u64)) v26 false, .buf (.arr 4 (.int .u64)) v27 false, .buf (.arr 4 (.int .u64)) v28 false]) (loopKont C_byteset_Parts (lf_byteset_Parts c_byteset_Not c_byteset_And c_byteset_Has c_byteset_Or l_3 l_7 l_10 l_21 l_25) 82 0 10 (loopBody Tryd.prog 28 10) K) =
      byteset_Parts_l10_b c_byteset_Not c_byteset_And c_byteset_Has c_byteset_Or l_3 l_7 l_10 l_21 l_25 v18 v19 v20 v21 v22 v23 v25 v27 v28 (fun (r0 : (List (List Int))) (r1 : Int) (r2 : Int) (r3 : Int) (r4 : Int) (r5 : (List Int)) (r6 : (List (List Int))) (r7 : (List (List Int))) => K (.exit 4) [.ptr 0 [], .own (.arr 4 (.int .u64)) 1, .sl (.arr 4 (.int .u64)) r0, .int .i64 r1, .int .i64 r2, .own (.arr 4 (.int .u64)) 2, .int .i64 r3, .int .i64 r4] [.box (.arr 4 (.int .u64) r5) false, .buf (.arr 4 (.int .u64)) r6 false, .buf (.arr 4 (.int .u64)) r7 false]) v24 v26 := by kernel_rfl

theorem eq_byteset_Parts_l21 {R : Type} (c_byteset_Not : (List Int) → ((List Int) → Option R) → Option R) (c_byteset_And : (List Int) → (List Int) → ((List Int) → Option R) → Option R) (c_byteset_Has : (List Int) → Int → (Bool → Option R) → Option R) (c_byteset_Or : (List Int) → (List Int) → ((List Int) → Option R) → Option R) (l_3 : ((List (List Int)) → Option R) → (List (List Int)) → Int → Int → (List (List Int)) → Option R) (l_7 : ((List (List Int)) → Int → Int → (List (List Int)) → Option R) → (List (List Int)) → Int → Int → Int → Int → (List Int) → (List (List Int)) → (List (List Int)) → Option R) (l_10 : (List (List Int)) → Int → Int → Int → Int → Int → (List Int) → (List (List Int)) → (List (List Int)) → ((List (List Int)) → Int → Int → Int → Int → (List Int) → (List (List Int)) → (List (List Int)) → Option R) → Int → (List (List Int)) → Option R) (l_21 : ((List (List Int)) → Option R) → Int → (List (List Int)) → (List (List Int)) → (List Int) → Option R) (l_25 : Int → Int → Int → (List (List Int)) → (Int → (List (List Int)) → (List (List Int)) → (List Int) → Option R) → Int → (List (List Int)) → (List Int) → Option R) (v42 : Int) (v43 : (List (List Int))) (v44 : (List (List Int))) (v45 : (List Int)) (K : Out → List S → List Ent → Option R) :
    acodeK C_byteset_Parts raw (cf_byteset_Parts c_byteset_Not c_byteset_And c_byteset_Has c_byteset_Or l_3 l_7 l_10 l_21 l_25) (lf_byteset_Parts c_byteset_Not c_byteset_And c_byteset_Has c_byteset_Or l_3 l_7 l_10 l_21 l_25) (loopBody Tryd.prog 28 21) (placeSt 82 0 [3, 11, 12, 55] [.own (.arr 4 (.int .u64)) 0, .own (.arr 4 (.int .u64)) 1, .ptr 2 [], .int .i64 v42] [.buf (.arr 4 (.int .u64)) v43 false, .buf (.arr 4 (.int .u64)) v44 false, .box (.arr 4 (.int .u64) v45) false]) (loopKont C_byteset_Parts (lf_byteset_Parts c_byteset_Not c_byteset_And c_byteset_Has c_byteset_Or l_3 l_7 l_10 l_21 l_25) 82 0 21 (loopBody Tryd.prog 28 21) K) =
      byteset_Parts_l21_b c_byteset_Not c_byteset_And c_byteset_Has c_byteset_Or l_3 l_7 l_10 l_21 l_25 (fun (r0 : (List (List Int))) => K (.exit 6) [.own (.arr 4 (.int .u64)) 0] [.buf (.arr 4 (.int .u64)) r0 false]) v42 v43 v44 v45 := by kernel_rfl

theorem eq_byteset_Parts_l25 {R : Type} (c_byteset_Not : (List Int) → ((List Int) → Option R) → Option R) (c_byteset_And : (List Int) → (List Int) → ((List Int) → Option R) → Option R) (c_byteset_Has : (List Int) → Int → (Bool → Option R) → Option R) (c_byteset_Or : (List Int) → (List Int) → ((List Int) → Option R) → Option R) (l_3 : ((List (List Int)) → Option R) → (List (List Int)) → Int → Int → (List (List Int)) → Option R) (l_7 : ((List (List Int)) → Int → Int → (List (List Int)) → Option R) → (List (List Int)) → Int → Int → Int → Int → (List Int) → (List (List Int)) → (List (List Int)) → Option R) (l_10 : (List (List Int)) → Int → Int → Int → Int → Int → (List Int) → (List (List Int)) → (List (List Int)) → ((List (List Int)) → Int → Int → Int → Int → (List Int) → (List (List Int)) → (List (List Int)) → Option R) → Int → (List (List Int)) → Option R) (l_21 : ((List (List Int)) → Option R) → Int → (List (List Int)) → (List (List Int)) → (List Int) → Option R) (l_25 : Int → Int → Int → (List (List Int)) → (Int → (List (List Int)) → (List (List Int)) → (List Int) → Option R) → Int → (List (List Int)) → (List Int) → Option R) (v47 : Int) (v48 : Int) (v49 : Int) (v50 : Int) (v51 : (List (List Int))) (v52 : (List (List Int))) (v53 : (List Int)) (K : Out → List S → List Ent → Option R) :
    acodeK C_byteset_Parts raw (cf_byteset_Parts c_byteset_Not c_byteset_And c_byteset_Has c_byteset_Or l_3 l_7 l_10 l_21 l_25) (lf_byteset_Parts c_byteset_Not c_byteset_And c_byteset_Has c_byteset_Or l_3 l_7 l_10 l_21 l_25) (loopBody Tryd.prog 28 25) (placeSt 82 0 [3, 11, 12, 13, 55, 62, 63, 64] [.own (.arr 4 (.int .u64)) 0, .own (.arr 4 (.int .u64)) 1, .ptr 2 [], .int .i64 v47, .int .i64 v48, .own (.arr 4 (.int .u64)) 0, .int .i64 v49, .int .i64 v50] [.buf (.arr 4 (.int .u64)) v51 false, .buf (.arr 4 (.int .u64)) v52 false, .box (.arr 4 (.int .u64) v53) false]) (loopKont C_byteset_Parts (lf_byteset_Parts c_byteset_Not c_byteset_And c_byteset_Has c_byteset_Or l_3 l_7 l_10 l_21 l_25) 82 0 25 (loopBody Tryd.prog 28 25) K) =
      byteset_Parts_l25_b c_byteset_Not c_byteset_And c_byteset_Has c_byteset_Or l_3 l_7 l_10 l_21 l_25 v47 v48 v49 v51 (fun (r0 : Int) (r1 : (List (List Int))) (r2 : (List (List Int))) (r3 : (List Int)) => K (.exit 8) [.own (.arr 4 (.int .u64)) 0, .own (.arr 4 (.int .u64)) 1, .ptr 2 [], .int .i64 r0] [.buf (.arr 4 (.int .u64)) r1 false, .buf (.arr 4 (.int .u64)) r2 false, .box (.arr 4 (.int .u64) r3) false]) v50 v52 v53 := by kernel_rfl

theorem eq_byteset_Parts {R : Type} (c_byteset_Not : (List Int) → ((List Int) → Option R) → Option R) (c_byteset_And : (List Int) → (List Int) → ((List Int) → Option R) → Option R) (c_byteset_Has : (List Int) → Int → (Bool → Option R) → Option R) (c_byteset_Or : (List Int) → (List Int) → ((List Int) → Option R) → Option R) (l_3 : ((List (List Int)) → Option R) → (List (List Int)) → Int → Int → (List (List Int)) → Option R) (l_7 : ((List (List Int)) → Int → Int → (List (List Int)) → Option R) → (List (List Int)) → Int → Int → Int → Int → (List Int) → (List (List Int)) → (List (List Int)) → Option R) (l_10 : (List (List Int)) → Int → Int → Int → Int → Int → (List Int) → (List (List Int)) → (List (List Int)) → ((List (List Int)) → Int → Int → Int → Int → (List Int) → (List (List Int)) → (List (List Int)) → Option R) → Int → (List (List Int)) → Option R) (l_21 : ((List (List Int)) → Option R) → Int → (List (List Int)) → (List (List Int)) → (List Int) → Option R) (l_25 : Int → Int → Int → (List (List Int)) → (Int → (List (List Int)) → (List (List Int)) → (List Int) → Option R) → Int → (List (List Int)) → (List Int) → Option R) (v1 : (List (List Int))) (K : S → List Ent → Option R) :
    runK C_byteset_Parts raw (cf_byteset_Parts c_byteset_Not c_byteset_And c_byteset_Has c_byteset_Or l_3 l_7 l_10 l_21 l_25) (lf_byteset_Parts c_byteset_Not c_byteset_And c_byteset_Has c_byteset_Or l_3 l_7 l_10 l_21 l_25) 28 [.sl (.arr 4 (.int .u64)) v1] [] K =
      byteset_Parts_b c_byteset_Not c_byteset_And c_byteset_Has c_byteset_Or l_3 l_7 l_10 l_21 l_25 v1 (fun (r0 : (List (List Int))) => K (.own (.arr 4 (.int .u64)) 0) [.buf (.arr 4 (.int .u64)) r0 false]) := by kernel_rfl

noncomputable def C_math_bits_OnesCount64 : Ctx := { P := Tryd.prog, mv := [], glob := glob, live := fun n => look n [], out := fun n => look n [], frz := fun n => look n [], bef := fun n => look n [] }

def cf_math_bits_OnesCount64 {R : Type} : CallF R := fun f av es K => none

def lf_math_bits_OnesCount64 {R : Type} : LoopF R := fun m np id _ vs es K => none

theorem eq_math_bits_OnesCount64 {R : Type} (v1 : Int) (K : S → List Ent → Option R) :
    runK C_math_bits_OnesCount64 raw (cf_math_bits_OnesCount64) (lf_math_bits_OnesCount64) 35 [.int .u64 v1] [] K =
      math_bits_OnesCount64_b v1 (fun (r0 : Int) => K (.int .i64 r0) []) := by kernel_rfl

noncomputable def C_byteset_Len : Ctx := { P := Tryd.prog, mv := [], glob := glob, live := fun n => look n [(3, [3, 6, 7])], out := fun n => look n [(3, [3])], frz := fun n => look n [(3, [])], bef := fun n => look n [] }

def cf_byteset_Len {R : Type} (c_math_bits_OnesCount64 : Int → (Int → Option R) → Option R) (l_3 : (List Int) → (Int → Option R) → Int → Int → Option R) : CallF R := fun f av es K => iteH (decide (f = 35)) (sh35 c_math_bits_OnesCount64 av es K) (none)

def sl_byteset_Len_l3 {R : Type} (l_3 : (List Int) → (Int → Option R) → Int → Int → Option R) (vs : List S) (es : List Ent) (K : Out → List S → List Ent → Option R) : Option R :=
  match vs, es with
  | [.int .i64 v2, .arr 4 (.int .u64) v3, .int .i64 v4], [] => l_3 v3 (fun (r0 : Int) => K (.exit 0) [.int .i64 r0] []) v2 v4
  | _, _ => none

def lf_byteset_Len {R : Type} (c_math_bits_OnesCount64 : Int → (Int → Option R) → Option R) (l_3 : (List Int) → (Int → Option R) → Int → Int → Option R) : LoopF R := fun m np id _ vs es K => iteH (decide (m = 16) && decide (np = 0)) (iteH (decide (id = 3)) (sl_byteset_Len_l3 l_3 vs es K) (none)) none

theorem eq_byteset_Len_l3 {R : Type} (c_math_bits_OnesCount64 : Int → (Int → Option R) → Option R) (l_3 : (List Int) → (Int → Option R) → Int → Int → Option R) (v2 : Int) (v3 : (List Int)) (v4 : Int) (K : Out → List S → List Ent → Option R) :
    acodeK C_byteset_Len raw (cf_byteset_Len c_math_bits_OnesCount64 l_3) (lf_byteset_Len c_math_bits_OnesCount64 l_3) (loopBody Tryd.prog 23 3) (placeSt 16 0 [3, 6, 7] [.int .i64 v2, .arr 4 (.int .u64) v3, .int .i64 v4] []) (loopKont C_byteset_Len (lf_byteset_Len c_math_bits_OnesCount64 l_3) 16 0 3 (loopBody Tryd.prog 23 3) K) =
      byteset_Len_l3_b c_math_bits_OnesCount64 l_3 v3 (fun (r0 : Int) => K (.exit 0) [.int .i64 r0] []) v2 v4 := by kernel_rfl

theorem eq_byteset_Len {R : Type} (c_math_bits_OnesCount64 : Int → (Int → Option R) → Option R) (l_3 : (List Int) → (Int → Option R) → Int → Int → Option R) (v1 : (List Int)) (K : S → List Ent → Option R) :
    runK C_byteset_Len raw (cf_byteset_Len c_math_bits_OnesCount64 l_3) (lf_byteset_Len c_math_bits_OnesCount64 l_3) 23 [.arr 4 (.int .u64) v1] [] K =
      byteset_Len_b c_math_bits_OnesCount64 l_3 v1 (fun (r0 : Int) => K (.int .i64 r0) []) := by kernel_rfl

noncomputable def C_byteset_List : Ctx := { P := Tryd.prog, mv := [], glob := glob, live := fun n => look n [(3, [1, 3, 5])], out := fun n => look n [(3, [3])], frz := fun n => look n [(3, [])], bef := fun n => look n [] }

def cf_byteset_List {R : Type} (c_byteset_Has : (List Int) → Int → (Bool → Option R) → Option R) (l_3 : (List Int) → ((List Int) → Option R) → Int → (List Int) → Option R) : CallF R := fun f av es K => iteH (decide (f = 26)) (sh26 c_byteset_Has av es K) (none)

def sl_byteset_List_l3 {R : Type} (l_3 : (List Int) → ((List Int) → Option R) → Int → (List Int) → Option R) (vs : List S) (es : List Ent) (K : Out → List S → List Ent → Option R) : Option R :=
  match vs, es with
  | [.ptr 0 [], .own (.int .u8) 1, .int .i64 v2], [.box (.arr 4 (.int .u64) v3) false, .buf (.int .u8) v4 false] => l_3 v3 (fun (r0 : (List Int)) => K (.exit 0) [.own (.int .u8) 0] [.buf (.int .u8) r0 false]) v2 v4
  | _, _ => none

def lf_byteset_List {R : Type} (c_byteset_Has : (List Int) → Int → (Bool → Option R) → Option R) (l_3 : (List Int) → ((List Int) → Option R) → Int → (List Int) → Option R) : LoopF R := fun m np id _ vs es K => iteH (decide (m = 19) && decide (np = 0)) (iteH (decide (id = 3)) (sl_byteset_List_l3 l_3 vs es K) (none)) none

theorem eq_byteset_List_l3 {R : Type} (c_byteset_Has : (List Int) → Int → (Bool → Option R) → Option R) (l_3 : (List Int) → ((List Int) → Option R) → Int → (List Int) → Option R) (v2 : Int) (v3 : (List Int)) (v4 : (List Int)) (K : Out → List S → List Ent → Option R) :
    acodeK C_byteset_List raw (cf_byteset_List c_byteset_Has l_3) (lf_byteset_List c_byteset_Has l_3) (loopBody Tryd.prog 21 3) (placeSt 19 0 [1, 3, 5] [.ptr 0 [], .own (.int .u8) 1, .int .i64 v2] [.box (.arr 4 (.int .u64) v3) false, .buf (.int .u8) v4 false]) (loopKont C_byteset_List (lf_byteset_List c_byteset_Has l_3) 19 0 3 (loopBody Tryd.prog 21 3) K) =
      byteset_List_l3_b c_byteset_Has l_3 v3 (fun (r0 : (List Int)) => K (.exit 0) [.own (.int .u8) 0] [.buf (.int .u8) r0 false]) v2 v4 := by kernel_rfl

theorem eq_byteset_List {R : Type} (c_byteset_Has : (List Int) → Int → (Bool → Option R) → Option R) (l_3 : (List Int) → ((List Int) → Option R) → Int → (List Int) → Option R) (v1 : (List Int)) (K : S → List Ent → Option R) :
    runK C_byteset_List raw (cf_byteset_List c_byteset_Has l_3) (lf_byteset_List c_byteset_Has l_3) 21 [.arr 4 (.int .u64) v1] [] K =
      byteset_List_b c_byteset_Has l_3 v1 (fun (r0 : (List Int)) => K (.own (.int .u8) 0) [.buf (.int .u8) r0 false]) := by kernel_rfl

noncomputable def C_math_bits_TrailingZeros64 : Ctx := { P := Tryd.prog, mv := [], glob := glob, live := fun n => look n [], out := fun n => look n [], frz := fun n => look n [], bef := fun n => look n [] }

def cf_math_bits_TrailingZeros64 {R : Type} : CallF R := fun f av es K => none

def lf_math_bits_TrailingZeros64 {R : Type} : LoopF R := fun m np id _ vs es K => none

theorem eq_math_bits_TrailingZeros64 {R : Type} (v1 : Int) (K : S → List Ent → Option R) :
    runK C_math_bits_TrailingZeros64 raw (cf_math_bits_TrailingZeros64) (lf_math_bits_TrailingZeros64) 36 [.int .u64 v1] [] K =
      math_bits_TrailingZeros64_b v1 (fun (r0 : Int) => K (.int .i64 r0) []) := by kernel_rfl

noncomputable def C_byteset_Less : Ctx := { P := Tryd.prog, mv := [], glob := glob, live := fun n => look n [(2, [2, 3, 7])], out := fun n => look n [(2, [4])], frz := fun n => look n [(2, [])], bef := fun n => look n [(4, [0, 1, 3, 0, 8, 24, 63, 127]), (6, [0, 1, 3, 0, 8, 31, 63, 127, 255])] }

def cf_byteset_Less {R : Type} (c_math_bits_TrailingZeros64 : Int → (Int → Option R) → Option R) (l_2 : (List Int) → (List Int) → (Bool → Option R) → (Option R) → Int → Option R) : CallF R := fun f av es K => iteH (decide (f = 36)) (sh36 c_math_bits_TrailingZeros64 av es K) (none)

def sl_byteset_Less_l2 {R : Type} (l_2 : (List Int) → (List Int) → (Bool → Option R) → (Option R) → Int → Option R) (vs : List S) (es : List Ent) (K : Out → List S → List Ent → Option R) : Option R :=
  match vs, es with
  | [.ptr 0 [], .ptr 1 [], .int .i64 v3], [.box (.arr 4 (.int .u64) v4) false, .box (.arr 4 (.int .u64) v5) false] => l_2 v4 v5 (fun (r0 : Bool) => K .ret [.bool r0] []) (K (.exit 0) [.junk] []) v3
  | _, _ => none

def lf_byteset_Less {R : Type} (c_math_bits_TrailingZeros64 : Int → (Int → Option R) → Option R) (l_2 : (List Int) → (List Int) → (Bool → Option R) → (Option R) → Int → Option R) : LoopF R := fun m np id _ vs es K => iteH (decide (m = 28) && decide (np = 0)) (iteH (decide (id = 2)) (sl_byteset_Less_l2 l_2 vs es K) (none)) none

theorem eq_byteset_Less_l2 {R : Type} (c_math_bits_TrailingZeros64 : Int → (Int → Option R) → Option R) (l_2 : (List Int) → (List Int) → (Bool → Option R) → (Option R) → Int → Option R) (v3 : Int) (v4 : (List Int)) (v5 : (List Int)) (K : Out → List S → List Ent → Option R) :
    acodeK C_byteset_Less raw (cf_byteset_Less c_math_bits_TrailingZeros64 l_2) (lf_byteset_Less c_math_bits_TrailingZeros64 l_2) (loopBody Tryd.prog 24 2) (placeSt 28 0 [2, 3, 7] [.ptr 0 [], .ptr 1 [], .int .i64 v3] [.box (.arr 4 (.int .u64) v4) false, .box (.arr 4 (.int .u64) v5) false]) (loopKont C_byteset_Less (lf_byteset_Less c_math_bits_TrailingZeros64 l_2) 28 0 2 (loopBody Tryd.prog 24 2) K) =
      byteset_Less_l2_b c_math_bits_TrailingZeros64 l_2 v4 v5 (fun (r0 : Bool) => K .ret [.bool r0] []) (K (.exit 0) [.junk] []) v3 := by kernel_rfl

theorem eq_byteset_Less {R : Type} (c_math_bits_TrailingZeros64 : Int → (Int → Option R) → Option R) (l_2 : (List Int) → (List Int) → (Bool → Option R) → (Option R) → Int → Option R) (v1 : (List Int)) (v2 : (List Int)) (K : S → List Ent → Option R) :
    runK C_byteset_Less raw (cf_byteset_Less c_math_bits_TrailingZeros64 l_2) (lf_byteset_Less c_math_bits_TrailingZeros64 l_2) 24 [.arr 4 (.int .u64) v1, .arr 4 (.int .u64) v2] [] K =
      byteset_Less_b c_math_bits_TrailingZeros64 l_2 v1 v2 (fun (r0 : Bool) => K (.bool r0) []) := by kernel_rfl

noncomputable def C_byteset_Of : Ctx := { P := Tryd.prog, mv := [], glob := glob, live := fun n => look n [(3, [2, 3, 6, 7, 8])], out := fun n => look n [(3, [2, 3])], frz := fun n => look n [(3, [])], bef := fun n => look n [] }

def cf_byteset_Of {R : Type} (l_3 : (List Int) → Int → (List Int) → ((List Int) → (List Int) → Option R) → Int → (List Int) → Option R) : CallF R := fun f av es K => none

def sl_byteset_Of_l3 {R : Type} (l_3 : (List Int) → Int → (List Int) → ((List Int) → (List Int) → Option R) → Int → (List Int) → Option R) (vs : List S) (es : List Ent) (K : Out → List S → List Ent → Option R) : Option R :=
  match vs, es with
  | [.ptr 0 [], .ptr 1 [], .sl (.int .u8) v2, .int .i64 v3, .int .i64 v4], [.box (.arr 4 (.int .u64) v5) false, .box (.arr 4 (.int .u64) v6) false] => l_3 v2 v3 v5 (fun (r0 : (List Int)) (r1 : (List Int)) => K (.exit 0) [.ptr 0 [], .ptr 1 []] [.box (.arr 4 (.int .u64) r0) false, .box (.arr 4 (.int .u64) r1) false]) v4 v6
  | _, _ => none

def lf_byteset_Of {R : Type} (l_3 : (List Int) → Int → (List Int) → ((List Int) → (List Int) → Option R) → Int → (List Int) → Option R) : LoopF R := fun m np id _ vs es K => iteH (decide (m = 23) && decide (np = 0)) (iteH (decide (id = 3)) (sl_byteset_Of_l3 l_3 vs es K) (none)) none

theorem eq_byteset_Of_l3 {R : Type} (l_3 : (List Int) → Int → (List Int) → ((List Int) → (List Int) → Option R) → Int → (List Int) → Option R) (v2 : (List Int)) (v3 : Int) (v4 : Int) (v5 : (List Int)) (v6 : (List Int)) (K : Out → List S → List Ent → Option R) :
    acodeK C_byteset_Of raw (cf_byteset_Of l_3) (lf_byteset_Of l_3) (loopBody Tryd.prog 11 3) (placeSt 23 0 [2, 3, 6, 7, 8] [.ptr 0 [], .ptr 1 [], .sl (.int .u8) v2, .int .i64 v3, .int .i64 v4] [.box (.arr 4 (.int .u64) v5) false, .box (.arr 4 (.int .u64) v6) false]) (loopKont C_byteset_Of (lf_byteset_Of l_3) 23 0 3 (loopBody Tryd.prog 11 3) K) =
      byteset_Of_l3_b l_3 v2 v3 v5 (fun (r0 : (List Int)) (r1 : (List Int)) => K (.exit 0) [.ptr 0 [], .ptr 1 []] [.box (.arr 4 (.int .u64) r0) false, .box (.arr 4 (.int .u64) r1) false]) v4 v6 := by kernel_rfl

theorem eq_byteset_Of {R : Type} (l_3 : (List Int) → Int → (List Int) → ((List Int) → (List Int) → Option R) → Int → (List Int) → Option R) (v1 : (List Int)) (K : S → List Ent → Option R) :
    runK C_byteset_Of raw (cf_byteset_Of l_3) (lf_byteset_Of l_3) 11 [.sl (.int .u8) v1] [] K =
      byteset_Of_b l_3 v1 (fun (r0 : (List Int)) => K (.arr 4 (.int .u64) r0) []) := by kernel_rfl

noncomputable def C_law4_begun : Ctx := { P := Tryd.prog, mv := [], glob := glob, live := fun n => look n [], out := fun n => look n [], frz := fun n => look n [], bef := fun n => look n [(3, [0, 1, 3, 7, 15, 31, 63, 127, 255, 511, 1023, 2047, 4095, 8191, 16383, 32767, 65535, 131071, 262143, 524287, 1048575, 2097151, 4194303, 8388607, 16777215, 16777215, 67108863, 134217727, 268435455, 536870911, 1073741823, 2147483647, 536870911, 8589934591, 17179869183, 34359738367])] }

def cf_law4_begun {R : Type} (c_byteset_Range : Int → Int → ((List Int) → Option R) → Option R) (c_byteset_Parts : (List (List Int)) → ((List (List Int)) → Option R) → Option R) (c_byteset_Has : (List Int) → Int → (Bool → Option R) → Option R) (c_byteset_Len : (List Int) → (Int → Option R) → Option R) (c_byteset_List : (List Int) → ((List Int) → Option R) → Option R) (c_byteset_Less : (List Int) → (List Int) → (Bool → Option R) → Option R) (c_byteset_Of : (List Int) → ((List Int) → Option R) → Option R) : CallF R := fun f av es K => iteH (decide (f = 13)) (sh13 c_byteset_Range av es K) (iteH (decide (f = 28)) (sh28 c_byteset_Parts av es K) (iteH (decide (f = 26)) (sh26 c_byteset_Has av es K) (iteH (decide (f = 23)) (sh23 c_byteset_Len av es K) (iteH (decide (f = 21)) (sh21 c_byteset_List av es K) (iteH (decide (f = 24)) (sh24 c_byteset_Less av es K) (iteH (decide (f = 11)) (sh11 c_byteset_Of av es K) (none)))))))

def lf_law4_begun {R : Type} (c_byteset_Range : Int → Int → ((List Int) → Option R) → Option R) (c_byteset_Parts : (List (List Int)) → ((List (List Int)) → Option R) → Option R) (c_byteset_Has : (List Int) → Int → (Bool → Option R) → Option R) (c_byteset_Len : (List Int) → (Int → Option R) → Option R) (c_byteset_List : (List Int) → ((List Int) → Option R) → Option R) (c_byteset_Less : (List Int) → (List Int) → (Bool → Option R) → Option R) (c_byteset_Of : (List Int) → ((List Int) → Option R) → Option R) : LoopF R := fun m np id _ vs es K => none

theorem eq_law4_begun {R : Type} (c_byteset_Range : Int → Int → ((List Int) → Option R) → Option R) (c_byteset_Parts : (List (List Int)) → ((List (List Int)) → Option R) → Option R) (c_byteset_Has : (List Int) → Int → (Bool → Option R) → Option R) (c_byteset_Len : (List Int) → (Int → Option R) → Option R) (c_byteset_List : (List Int) → ((List Int) → Option R) → Option R) (c_byteset_Less : (List Int) → (List Int) → (Bool → Option R) → Option R) (c_byteset_Of : (List Int) → ((List Int) → Option R) → Option R) (K : S → List Ent → Option R) :
    runK C_law4_begun raw (cf_law4_begun c_byteset_Range c_byteset_Parts c_byteset_Has c_byteset_Len c_byteset_List c_byteset_Less c_byteset_Of) (lf_law4_begun c_byteset_Range c_byteset_Parts c_byteset_Has c_byteset_Len c_byteset_List c_byteset_Less c_byteset_Of) 10 [] [] K =
      law4_begun_b c_byteset_Range c_byteset_Parts c_byteset_Has c_byteset_Len c_byteset_List c_byteset_Less c_byteset_Of (fun (r0 : Bool) => K (.bool r0) []) := by kernel_rfl

noncomputable def C_law4_SetLaws : Ctx := { P := Tryd.prog, mv := [], glob := glob, live := fun n => look n [], out := fun n => look n [], frz := fun n => look n [], bef := fun n => look n [(3, [0, 0, 3, 0, 0, 31, 63, 127]), (5, [0, 1, 3, 0, 15, 31, 63, 63, 255, 511, 63, 2047, 63, 8191, 16383, 32767, 65535, 131071, 262143, 262143, 1048575, 2097151, 262143, 262143, 16777215, 33554431, 67108863, 262143, 201326591, 262143, 1006632959, 2080374783, 4294967295, 8589934591, 17179869183]), (6, [0, 0, 3, 0, 0, 24, 56, 120, 248, 248, 1016, 2040, 4088, 8191, 16383, 32767, 32767, 131071, 262143, 524287, 524287, 2097151, 4194303, 8388607, 16777215, 16777215, 67108863, 134217727, 268435455, 536870911, 1073741823, 2147483647]), (7, [0, 1, 3, 7, 15, 31, 63, 127, 255, 511, 1023, 255, 4095, 8191, 16383])] }

def cf_law4_SetLaws {R : Type} (c_law4_begun : (Bool → Option R) → Option R) (c_byteset_Has : (List Int) → Int → (Bool → Option R) → Option R) (c_byteset_Or : (List Int) → (List Int) → ((List Int) → Option R) → Option R) (c_byteset_And : (List Int) → (List Int) → ((List Int) → Option R) → Option R) (c_byteset_Not : (List Int) → ((List Int) → Option R) → Option R) (c_byteset_Len : (List Int) → (Int → Option R) → Option R) (c_byteset_Less : (List Int) → (List Int) → (Bool → Option R) → Option R) (c_byteset_List : (List Int) → ((List Int) → Option R) → Option R) (c_byteset_Of : (List Int) → ((List Int) → Option R) → Option R) : CallF R := fun f av es K => iteH (decide (f = 10)) (sh10 c_law4_begun av es K) (iteH (decide (f = 26)) (sh26 c_byteset_Has av es K) (iteH (decide (f = 15)) (sh15 c_byteset_Or av es K) (iteH (decide (f = 17)) (sh17 c_byteset_And av es K) (iteH (decide (f = 19)) (sh19 c_byteset_Not av es K) (iteH (decide (f = 23)) (sh23 c_byteset_Len av es K) (iteH (decide (f = 24)) (sh24 c_byteset_Less av es K) (iteH (decide (f = 21)) (sh21 c_byteset_List av es K) (iteH (decide (f = 11)) (sh11 c_byteset_Of av es K) (none)))))))))

def lf_law4_SetLaws {R : Type} (c_law4_begun : (Bool → Option R) → Option R) (c_byteset_Has : (List Int) → Int → (Bool → Option R) → Option R) (c_byteset_Or : (List Int) → (List Int) → ((List Int) → Option R) → Option R) (c_byteset_And : (List Int) → (List Int) → ((List Int) → Option R) → Option R) (c_byteset_Not : (List Int) → ((List Int) → Option R) → Option R) (c_byteset_Len : (List Int) → (Int → Option R) → Option R) (c_byteset_Less : (List Int) → (List Int) → (Bool → Option R) → Option R) (c_byteset_List : (List Int) → ((List Int) → Option R) → Option R) (c_byteset_Of : (List Int) → ((List Int) → Option R) → Option R) : LoopF R := fun m np id _ vs es K => none


end
end Go.Ab.T
