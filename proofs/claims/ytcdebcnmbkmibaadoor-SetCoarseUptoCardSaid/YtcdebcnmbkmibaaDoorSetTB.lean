/- SetTB: a part of the proofs of this seat's statements. -/
import Derived.Test.YtcdebcnmbkmibaaDoorSetTA

namespace Go.Ab.T

open Go Go.Ab Go.Proofs

set_option maxRecDepth 100000

set_option linter.unusedVariables false

noncomputable section

noncomputable def C_byteset_Range : Ctx := { P := Tryd.prog, mv := [], glob := glob, live := fun n => look n [(3, [1, 4, 5, 6])], out := fun n => look n [(3, [4, 5])], frz := fun n => look n [(3, [])], bef := fun n => look n [(5, [0, 1, 3, 7, 0, 16, 48, 127, 255, 511])] }

def cf_byteset_Range {R : Type} (l_3 : Int → (List Int) → ((List Int) → (List Int) → Option R) → Int → (List Int) → Option R) : CallF R := fun f av es K => none

def sl_byteset_Range_l3 {R : Type} (l_3 : Int → (List Int) → ((List Int) → (List Int) → Option R) → Int → (List Int) → Option R) (vs : List S) (es : List Ent) (K : Out → List S → List Ent → Option R) : Option R :=
  match vs, es with
  | [.int .u8 v3, .ptr 0 [], .ptr 1 [], .int .i64 v4], [.box (.arr 4 (.int .u64) v5) false, .box (.arr 4 (.int .u64) v6) false] => l_3 v3 v5 (fun (r0 : (List Int)) (r1 : (List Int)) => K (.exit 0) [.ptr 0 [], .ptr 1 []] [.box (.arr 4 (.int .u64) r0) false, .box (.arr 4 (.int .u64) r1) false]) v4 v6
  | _, _ => none

def lf_byteset_Range {R : Type} (l_3 : Int → (List Int) → ((List Int) → (List Int) → Option R) → Int → (List Int) → Option R) : LoopF R := fun m np id _ vs es K => iteH (decide (m = 25) && decide (np = 0)) (iteH (decide (id = 3)) (sl_byteset_Range_l3 l_3 vs es K) (none)) none

theorem eq_byteset_Range_l3 {R : Type} (l_3 : Int → (List Int) → ((List Int) → (List Int) → Option R) → Int → (List Int) → Option R) (v3 : Int) (v4 : Int) (v5 : (List Int)) (v6 : (List Int)) (K : Out → List S → List Ent → Option R) :
    acodeK C_byteset_Range raw (cf_byteset_Range l_3) (lf_byteset_Range l_3) (loopBody Tryd.prog 13 3) (placeSt 25 0 [1, 4, 5, 6] [.int .u8 v3, .ptr 0 [], .ptr 1 [], .int .i64 v4] [.box (.arr 4 (.int .u64) v5) false, .box (.arr 4 (.int .u64) v6) false]) (loopKont C_byteset_Range (lf_byteset_Range l_3) 25 0 3 (loopBody Tryd.prog 13 3) K) =
      byteset_Range_l3_b l_3 v3 v5 (fun (r0 : (List Int)) (r1 : (List Int)) => K (.exit 0) [.ptr 0 [], .ptr 1 []] [.box (.arr 4 (.int .u64) r0) false, .box (.arr 4 (.int .u64) r1) false]) v4 v6 := by kernel_rfl

theorem eq_byteset_Range {R : Type} (l_3 : Int → (List Int) → ((List Int) → (List Int) → Option R) → Int → (List Int) → Option R) (v1 : Int) (v2 : Int) (K : S → List Ent → Option R) :
    runK C_byteset_Range raw (cf_byteset_Range l_3) (lf_byteset_Range l_3) 13 [.int .u8 v1, .int .u8 v2] [] K =
      byteset_Range_b l_3 v1 v2 (fun (r0 : (List Int)) => K (.arr 4 (.int .u64) r0) []) := by kernel_rfl

noncomputable def C_byteset_Not_1 : Ctx := { P := Tryd.prog, mv := [], glob := glob, live := fun n => look n [], out := fun n => look n [], frz := fun n => look n [], bef := fun n => look n [] }

def cf_byteset_Not_1 {R : Type} : CallF R := fun f av es K => none

def lf_byteset_Not_1 {R : Type} : LoopF R := fun m np id _ vs es K => none

theorem eq_byteset_Not_1 {R : Type} (v1 : Int) (v2 : Int) (K : S → List Ent → Option R) :
    runK C_byteset_Not_1 raw (cf_byteset_Not_1) (lf_byteset_Not_1) 34 [.int .u64 v1, .int .u64 v2] [] K =
      byteset_Not_1_b v1 v2 (fun (r0 : Int) => K (.int .u64 r0) []) := by kernel_rfl

noncomputable def C_byteset_with : Ctx := { P := Tryd.prog, mv := [], glob := glob, live := fun n => look n [(3, [2, 3, 4, 6, 7, 9])], out := fun n => look n [(3, [6, 7])], frz := fun n => look n [(3, [])], bef := fun n => look n [(5, [0, 0, 0, 4, 12, 0, 32, 96, 254, 511, 1023])] }

def cf_byteset_with {R : Type} (c_byteset_Not_1 : Int → Int → (Int → Option R) → Option R) (l_3 : (List Int) → (List Int) → (List Int) → ((List Int) → (List Int) → Option R) → Int → (List Int) → Option R) : CallF R := fun f av es K => iteH (decide (f = 34)) (sh34 c_byteset_Not_1 av es K) (none)

def sl_byteset_with_l3 {R : Type} (l_3 : (List Int) → (List Int) → (List Int) → ((List Int) → (List Int) → Option R) → Int → (List Int) → Option R) (vs : List S) (es : List Ent) (K : Out → List S → List Ent → Option R) : Option R :=
  match vs, es with
  | [.fn 34 [], .ptr 0 [], .ptr 1 [], .ptr 2 [], .ptr 3 [], .int .i64 v3], [.box (.arr 4 (.int .u64) v4) false, .box (.arr 4 (.int .u64) v5) false, .box (.arr 4 (.int .u64) v6) false, .box (.arr 4 (.int .u64) v7) false] => l_3 v4 v5 v6 (fun (r0 : (List Int)) (r1 : (List Int)) => K (.exit 0) [.ptr 0 [], .ptr 1 []] [.box (.arr 4 (.int .u64) r0) false, .box (.arr 4 (.int .u64) r1) false]) v3 v7
  | _, _ => none

def lf_byteset_with {R : Type} (c_byteset_Not_1 : Int → Int → (Int → Option R) → Option R) (l_3 : (List Int) → (List Int) → (List Int) → ((List Int) → (List Int) → Option R) → Int → (List Int) → Option R) : LoopF R := fun m np id _ vs es K => iteH (decide (m = 24) && decide (np = 0)) (iteH (decide (id = 3)) (sl_byteset_with_l3 l_3 vs es K) (none)) none

theorem eq_byteset_with_l3 {R : Type} (c_byteset_Not_1 : Int → Int → (Int → Option R) → Option R) (l_3 : (List Int) → (List Int) → (List Int) → ((List Int) → (List Int) → Option R) → Int → (List Int) → Option R) (v3 : Int) (v4 : (List Int)) (v5 : (List Int)) (v6 : (List Int)) (v7 : (List Int)) (K : Out → List S → List Ent → Option R) :
    acodeK C_byteset_with raw (cf_byteset_with c_byteset_Not_1 l_3) (lf_byteset_with c_byteset_Not_1 l_3) (loopBody Tryd.prog 31 3) (placeSt 24 0 [2, 3, 4, 6, 7, 9] [.fn 34 [], .ptr 0 [], .ptr 1 [], .ptr 2 [], .ptr 3 [], .int .i64 v3] [.box (.arr 4 (.int .u64) v4) false, .box (.arr 4 (.int .u64) v5) false, .box (.arr 4 (.int .u64) v6) false, .box (.arr 4 (.int .u64) v7) false]) (loopKont C_byteset_with (lf_byteset_with c_byteset_Not_1 l_3) 24 0 3 (loopBody Tryd.prog 31 3) K) =
      byteset_with_l3_b c_byteset_Not_1 l_3 v4 v5 v6 (fun (r0 : (List Int)) (r1 : (List Int)) => K (.exit 0) [.ptr 0 [], .ptr 1 []] [.box (.arr 4 (.int .u64) r0) false, .box (.arr 4 (.int .u64) r1) false]) v3 v7 := by kernel_rfl

theorem eq_byteset_with {R : Type} (c_byteset_Not_1 : Int → Int → (Int → Option R) → Option R) (l_3 : (List Int) → (List Int) → (List Int) → ((List Int) → (List Int) → Option R) → Int → (List Int) → Option R) (v1 : (List Int)) (v2 : (List Int)) (K : S → List Ent → Option R) :
    runK C_byteset_with raw (cf_byteset_with c_byteset_Not_1 l_3) (lf_byteset_with c_byteset_Not_1 l_3) 31 [.arr 4 (.int .u64) v1, .arr 4 (.int .u64) v2, .fn 34 []] [] K =
      byteset_with_b c_byteset_Not_1 l_3 v1 v2 (fun (r0 : (List Int)) => K (.arr 4 (.int .u64) r0) []) := by kernel_rfl

noncomputable def C_byteset_Not : Ctx := { P := Tryd.prog, mv := [], glob := glob, live := fun n => look n [], out := fun n => look n [], frz := fun n => look n [], bef := fun n => look n [] }

def cf_byteset_Not {R : Type} (c_byteset_with : (List Int) → (List Int) → ((List Int) → Option R) → Option R) : CallF R := fun f av es K => iteH (decide (f = 31)) (sh31 c_byteset_with (fun _ _ _ => none) (fun _ _ _ => none) av es K) (none)

def lf_byteset_Not {R : Type} (c_byteset_with : (List Int) → (List Int) → ((List Int) → Option R) → Option R) : LoopF R := fun m np id _ vs es K => none

theorem eq_byteset_Not {R : Type} (c_byteset_with : (List Int) → (List Int) → ((List Int) → Option R) → Option R) (v1 : (List Int)) (K : S → List Ent → Option R) :
    runK C_byteset_Not raw (cf_byteset_Not c_byteset_with) (lf_byteset_Not c_byteset_with) 19 [.arr 4 (.int .u64) v1] [] K =
      byteset_Not_b c_byteset_with v1 (fun (r0 : (List Int)) => K (.arr 4 (.int .u64) r0) []) := by kernel_rfl

noncomputable def C_byteset_And_1 : Ctx := { P := Tryd.prog, mv := [], glob := glob, live := fun n => look n [], out := fun n => look n [], frz := fun n => look n [], bef := fun n => look n [] }

def cf_byteset_And_1 {R : Type} : CallF R := fun f av es K => none

def lf_byteset_And_1 {R : Type} : LoopF R := fun m np id _ vs es K => none

theorem eq_byteset_And_1 {R : Type} (v1 : Int) (v2 : Int) (K : S → List Ent → Option R) :
    runK C_byteset_And_1 raw (cf_byteset_And_1) (lf_byteset_And_1) 33 [.int .u64 v1, .int .u64 v2] [] K =
      byteset_And_1_b v1 v2 (fun (r0 : Int) => K (.int .u64 r0) []) := by kernel_rfl

noncomputable def C_byteset_with_s1 : Ctx := { P := Tryd.prog, mv := [], glob := glob, live := fun n => look n [(3, [2, 3, 4, 6, 7, 9])], out := fun n => look n [(3, [6, 7])], frz := fun n => look n [(3, [])], bef := fun n => look n [(5, [0, 0, 0, 4, 12, 0, 32, 96, 254, 511, 1023])] }

def cf_byteset_with_s1 {R : Type} (c_byteset_And_1 : Int → Int → (Int → Option R) → Option R) (l_3 : (List Int) → (List Int) → (List Int) → ((List Int) → (List Int) → Option R) → Int → (List Int) → Option R) : CallF R := fun f av es K => iteH (decide (f = 33)) (sh33 c_byteset_And_1 av es K) (none)

def sl_byteset_with_s1_l3 {R : Type} (l_3 : (List Int) → (List Int) → (List Int) → ((List Int) → (List Int) → Option R) → Int → (List Int) → Option R) (vs : List S) (es : List Ent) (K : Out → List S → List Ent → Option R) : Option R :=
  match vs, es with
  | [.fn 33 [], .ptr 0 [], .ptr 1 [], .ptr 2 [], .ptr 3 [], .int .i64 v3], [.box (.arr 4 (.int .u64) v4) false, .box (.arr 4 (.int .u64) v5) false, .box (.arr 4 (.int .u64) v6) false, .box (.arr 4 (.int .u64) v7) false] => l_3 v4 v5 v6 (fun (r0 : (List Int)) (r1 : (List Int)) => K (.exit 0) [.ptr 0 [], .ptr 1 []] [.box (.arr 4 (.int .u64) r0) false, .box (.arr 4 (.int .u64) r1) false]) v3 v7
  | _, _ => none

def lf_byteset_with_s1 {R : Type} (c_byteset_And_1 : Int → Int → (Int → Option R) → Option R) (l_3 : (List Int) → (List Int) → (List Int) → ((List Int) → (List Int) → Option R) → Int → (List Int) → Option R) : LoopF R := fun m np id _ vs es K => iteH (decide (m = 24) && decide (np = 0)) (iteH (decide (id = 3)) (sl_byteset_with_s1_l3 l_3 vs es K) (none)) none

theorem eq_byteset_with_s1_l3 {R : Type} (c_byteset_And_1 : Int → Int → (Int → Option R) → Option R) (l_3 : (List Int) → (List Int) → (List Int) → ((List Int) → (List Int) → Option R) → Int → (List Int) → Option R) (v3 : Int) (v4 : (List Int)) (v5 : (List Int)) (v6 : (List Int)) (v7 : (List Int)) (K : Out → List S → List Ent → Option R) :
    acodeK C_byteset_with_s1 raw (cf_byteset_with_s1 c_byteset_And_1 l_3) (lf_byteset_with_s1 c_byteset_And_1 l_3) (loopBody Tryd.prog 31 3) (placeSt 24 0 [2, 3, 4, 6, 7, 9] [.fn 33 [], .ptr 0 [], .ptr 1 [], .ptr 2 [], .ptr 3 [], .int .i64 v3] [.box (.arr 4 (.int .u64) v4) false, .box (.arr 4 (.int .u64) v5) false, .box (.arr 4 (.int .u64) v6) false, .box (.arr 4 (.int .u64) v7) false]) (loopKont C_byteset_with_s1 (lf_byteset_with_s1 c_byteset_And_1 l_3) 24 0 3 (loopBody Tryd.prog 31 3) K) =
      byteset_with_s1_l3_b c_byteset_And_1 l_3 v4 v5 v6 (fun (r0 : (List Int)) (r1 : (List Int)) => K (.exit 0) [.ptr 0 [], .ptr 1 []] [.box (.arr 4 (.int .u64) r0) false, .box (.arr 4 (.int .u64) r1) false]) v3 v7 := by kernel_rfl

theorem eq_byteset_with_s1 {R : Type} (c_byteset_And_1 : Int → Int → (Int → Option R) → Option R) (l_3 : (List Int) → (List Int) → (List Int) → ((List Int) → (List Int) → Option R) → Int → (List Int) → Option R) (v1 : (List Int)) (v2 : (List Int)) (K : S → List Ent → Option R) :
    runK C_byteset_with_s1 raw (cf_byteset_with_s1 c_byteset_And_1 l_3) (lf_byteset_with_s1 c_byteset_And_1 l_3) 31 [.arr 4 (.int .u64) v1, .arr 4 (.int .u64) v2, .fn 33 []] [] K =
      byteset_with_s1_b c_byteset_And_1 l_3 v1 v2 (fun (r0 : (List Int)) => K (.arr 4 (.int .u64) r0) []) := by kernel_rfl

noncomputable def C_byteset_And : Ctx := { P := Tryd.prog, mv := [], glob := glob, live := fun n => look n [], out := fun n => look n [], frz := fun n => look n [], bef := fun n => look n [] }

def cf_byteset_And {R : Type} (c_byteset_with_s1 : (List Int) → (List Int) → ((List Int) → Option R) → Option R) : CallF R := fun f av es K => iteH (decide (f = 31)) (sh31 (fun _ _ _ => none) c_byteset_with_s1 (fun _ _ _ => none) av es K) (none)

def lf_byteset_And {R : Type} (c_byteset_with_s1 : (List Int) → (List Int) → ((List Int) → Option R) → Option R) : LoopF R := fun m np id _ vs es K => none

theorem eq_byteset_And {R : Type} (c_byteset_with_s1 : (List Int) → (List Int) → ((List Int) → Option R) → Option R) (v1 : (List Int)) (v2 : (List Int)) (K : S → List Ent → Option R) :
    runK C_byteset_And raw (cf_byteset_And c_byteset_with_s1) (lf_byteset_And c_byteset_with_s1) 17 [.arr 4 (.int .u64) v1, .arr 4 (.int .u64) v2] [] K =
      byteset_And_b c_byteset_with_s1 v1 v2 (fun (r0 : (List Int)) => K (.arr 4 (.int .u64) r0) []) := by kernel_rfl

noncomputable def C_byteset_Has : Ctx := { P := Tryd.prog, mv := [], glob := glob, live := fun n => look n [], out := fun n => look n [], frz := fun n => look n [], bef := fun n => look n [] }

def cf_byteset_Has {R : Type} : CallF R := fun f av es K => none

def lf_byteset_Has {R : Type} : LoopF R := fun m np id _ vs es K => none

theorem eq_byteset_Has {R : Type} (v1 : (List Int)) (v2 : Int) (K : S → List Ent → Option R) :
    runK C_byteset_Has raw (cf_byteset_Has) (lf_byteset_Has) 26 [.arr 4 (.int .u64) v1, .int .u8 v2] [] K =
      byteset_Has_b v1 v2 (fun (r0 : Bool) => K (.bool r0) []) := by kernel_rfl

noncomputable def C_byteset_Or_1 : Ctx := { P := Tryd.prog, mv := [], glob := glob, live := fun n => look n [], out := fun n => look n [], frz := fun n => look n [], bef := fun n => look n [] }

def cf_byteset_Or_1 {R : Type} : CallF R := fun f av es K => none

def lf_byteset_Or_1 {R : Type} : LoopF R := fun m np id _ vs es K => none

theorem eq_byteset_Or_1 {R : Type} (v1 : Int) (v2 : Int) (K : S → List Ent → Option R) :
    runK C_byteset_Or_1 raw (cf_byteset_Or_1) (lf_byteset_Or_1) 32 [.int .u64 v1, .int .u64 v2] [] K =
      byteset_Or_1_b v1 v2 (fun (r0 : Int) => K (.int .u64 r0) []) := by kernel_rfl

noncomputable def C_byteset_with_s2 : Ctx := { P := Tryd.prog, mv := [], glob := glob, live := fun n => look n [(3, [2, 3, 4, 6, 7, 9])], out := fun n => look n [(3, [6, 7])], frz := fun n => look n [(3, [])], bef := fun n => look n [(5, [0, 0, 0, 4, 12, 0, 32, 96, 254, 511, 1023])] }

def cf_byteset_with_s2 {R : Type} (c_byteset_Or_1 : Int → Int → (Int → Option R) → Option R) (l_3 : (List Int) → (List Int) → (List Int) → ((List Int) → (List Int) → Option R) → Int → (List Int) → Option R) : CallF R := fun f av es K => iteH (decide (f = 32)) (sh32 c_byteset_Or_1 av es K) (none)

def sl_byteset_with_s2_l3 {R : Type} (l_3 : (List Int) → (List Int) → (List Int) → ((List Int) → (List Int) → Option R) → Int → (List Int) → Option R) (vs : List S) (es : List Ent) (K : Out → List S → List Ent → Option R) : Option R :=
  match vs, es with
  | [.fn 32 [], .ptr 0 [], .ptr 1 [], .ptr 2 [], .ptr 3 [], .int .i64 v3], [.box (.arr 4 (.int .u64) v4) false, .box (.arr 4 (.int .u64) v5) false, .box (.arr 4 (.int .u64) v6) false, .box (.arr 4 (.int .u64) v7) false] => l_3 v4 v5 v6 (fun (r0 : (List Int)) (r1 : (List Int)) => K (.exit 0) [.ptr 0 [], .ptr 1 []] [.box (.arr 4 (.int .u64) r0) false, .box (.arr 4 (.int .u64) r1) false]) v3 v7
  | _, _ => none

def lf_byteset_with_s2 {R : Type} (c_byteset_Or_1 : Int → Int → (Int → Option R) → Option R) (l_3 : (List Int) → (List Int) → (List Int) → ((List Int) → (List Int) → Option R) → Int → (List Int) → Option R) : LoopF R := fun m np id _ vs es K => iteH (decide (m = 24) && decide (np = 0)) (iteH (decide (id = 3)) (sl_byteset_with_s2_l3 l_3 vs es K) (none)) none

theorem eq_byteset_with_s2_l3 {R : Type} (c_byteset_Or_1 : Int → Int → (Int → Option R) → Option R) (l_3 : (List Int) → (List Int) → (List Int) → ((List Int) → (List Int) → Option R) → Int → (List Int) → Option R) (v3 : Int) (v4 : (List Int)) (v5 : (List Int)) (v6 : (List Int)) (v7 : (List Int)) (K : Out → List S → List Ent → Option R) :
    acodeK C_byteset_with_s2 raw (cf_byteset_with_s2 c_byteset_Or_1 l_3) (lf_byteset_with_s2 c_byteset_Or_1 l_3) (loopBody Tryd.prog 31 3) (placeSt 24 0 [2, 3, 4, 6, 7, 9] [.fn 32 [], .ptr 0 [], .ptr 1 [], .ptr 2 [], .ptr 3 [], .int .i64 v3] [.box (.arr 4 (.int .u64) v4) false, .box (.arr 4 (.int .u64) v5) false, .box (.arr 4 (.int .u64) v6) false, .box (.arr 4 (.int .u64) v7) false]) (loopKont C_byteset_with_s2 (lf_byteset_with_s2 c_byteset_Or_1 l_3) 24 0 3 (loopBody Tryd.prog 31 3) K) =
      byteset_with_s2_l3_b c_byteset_Or_1 l_3 v4 v5 v6 (fun (r0 : (List Int)) (r1 : (List Int)) => K (.exit 0) [.ptr 0 [], .ptr 1 []] [.box (.arr 4 (.int .u64) r0) false, .box (.arr 4 (.int .u64) r1) false]) v3 v7 := by kernel_rfl

theorem eq_byteset_with_s2 {R : Type} (c_byteset_Or_1 : Int → Int → (Int → Option R) → Option R) (l_3 : (List Int) → (List Int) → (List Int) → ((List Int) → (List Int) → Option R) → Int → (List Int) → Option R) (v1 : (List Int)) (v2 : (List Int)) (K : S → List Ent → Option R) :
    runK C_byteset_with_s2 raw (cf_byteset_with_s2 c_byteset_Or_1 l_3) (lf_byteset_with_s2 c_byteset_Or_1 l_3) 31 [.arr 4 (.int .u64) v1, .arr 4 (.int .u64) v2, .fn 32 []] [] K =
      byteset_with_s2_b c_byteset_Or_1 l_3 v1 v2 (fun (r0 : (List Int)) => K (.arr 4 (.int .u64) r0) []) := by kernel_rfl

noncomputable def C_byteset_Or : Ctx := { P := Tryd.prog, mv := [], glob := glob, live := fun n => look n [], out := fun n => look n [], frz := fun n => look n [], bef := fun n => look n [] }

def cf_byteset_Or {R : Type} (c_byteset_with_s2 : (List Int) → (List Int) → ((List Int) → Option R) → Option R) : CallF R := fun f av es K => iteH (decide (f = 31)) (sh31 (fun _ _ _ => none) (fun _ _ _ => none) c_byteset_with_s2 av es K) (none)

def lf_byteset_Or {R : Type} (c_byteset_with_s2 : (List Int) → (List Int) → ((List Int) → Option R) → Option R) : LoopF R := fun m np id _ vs es K => none

theorem eq_byteset_Or {R : Type} (c_byteset_with_s2 : (List Int) → (List Int) → ((List Int) → Option R) → Option R) (v1 : (List Int)) (v2 : (List Int)) (K : S → List Ent → Option R) :
    runK C_byteset_Or raw (cf_byteset_Or c_byteset_with_s2) (lf_byteset_Or c_byteset_with_s2) 15 [.arr 4 (.int .u64) v1, .arr 4 (.int .u64) v2] [] K =
      byteset_Or_b c_byteset_with_s2 v1 v2 (fun (r0 : (List Int)) => K (.arr 4 (.int .u64) r0) []) := by kernel_rfl

noncomputable def C_byteset_Parts : Ctx := { P := Tryd.prog, mv := [], glob := glob, live := fun n => look n [(3, [3, 19, 20, 21]), (7, [5, 6, 19, 20, 21, 25, 26, 27]), (10, [5, 6, 19, 20, 21, 25, 26, 27, 38, 39, 40]), (21, [3, 11, 12, 55]), (25, [3, 11, 12, 13, 55, 62, 63, 64])], out := fun n => look n [(3, [3]), (7, [6, 19, 20, 21]), (10, [5, 6, 19, 20, 21, 25, 26, 27]), (21, [11]), (25, [3, 11, 12, 55])], frz := fun n => look n [(3, []), (7, []), (10, []), (21, []), (25, [])], bef := fun n => look n [(9, [0, 0, 3, 0, 0, 23, 63, 127, 255, 0]), (28, [0, 0, 2, 7, 0, 0, 63, 127, 255])] }

def cf_byteset_Parts {R : Type} (c_byteset_Not : (List Int) → ((List Int) → Option R) → Option R) (c_byteset_And : (List Int) → (List Int) → ((List Int) → Option R) → Option R) (c_byteset_Has : (List Int) → Int → (Bool → Option R) → Option R) (c_byteset_Or : (List Int) → (List Int) → ((List Int) → Option R) → Option R) (l_3 : ((List (List Int)) → Option R) → (List (List Int)) → Int → Int → (List (List Int)) → Option R) (l_7 : ((List (List Int)) → Int → Int → (List (List Int)) → Option R) → (List (List Int)) → Int → Int → Int → Int → (List Int) → (List (List Int)) → (List (List Int)) → Option R) (l_10 : (List (List Int)) → Int → Int → Int → Int → Int → (List Int) → (List (List Int)) → (List (List Int)) → ((List (List Int)) → Int → Int → Int → Int → (List Int) → (List (List Int)) → (List (List Int)) → Option R) → Int → (List (List Int)) → Option R) (l_21 : ((List (List Int)) → Option R) → Int → (List (List Int)) → (List (List Int)) → (List Int) → Option R) (l_25 : Int → Int → Int → (List (List Int)) → (Int → (List (List Int)) → (List (List Int)) → (List Int) → Option R) → Int → (List (List Int)) → (List Int) → Option R) : CallF R := fun f av es K => iteH (decide (f = 19)) (sh19 c_byteset_Not av es K) (iteH (decide (f = 17)) (sh17 c_byteset_And av es K) (iteH (decide (f = 26)) (sh26 c_byteset_Has av es K) (iteH (decide (f = 15)) (sh15 c_byteset_Or av es K) (none))))

def sl_byteset_Parts_l3 {R : Type} (l_3 : ((List (List Int)) → Option R) → (List (List Int)) → Int → Int → (List (List Int)) → Option R) (vs : List S) (es : List Ent) (K : Out → List S → List Ent → Option R) : Option R :=
  match vs, es with
  | [.own (.arr 4 (.int .u64)) 0, .sl (.arr 4 (.int .u64)) v3, .int .i64 v4, .int .i64 v5], [.buf (.arr 4 (.int .u64)) v6 false] => l_3 (fun (r0 : (List (List Int))) => K (.exit 0) [.own (.arr 4 (.int .u64)) 0] [.buf (.arr 4 (.int .u64)) r0 false]) v3 v4 v5 v6
  | _, _ => none

def sl_byteset_Parts_l7 {R : Type} (l_7 : ((List (List Int)) → Int → Int → (List (List Int)) → Option R) → (List (List Int)) → Int → Int → Int → Int → (List Int) → (List (List Int)) → (List (List Int)) → Option R) (vs : List S) (es : List Ent) (K : Out → List S → List Ent → Option R) : Option R :=
  match vs, es with
  | [.ptr 0 [], .own (.arr 4 (.int .u64)) 1, .sl (.arr 4 (.int .u64)) v7, .int .i64 v8, .int .i64 v9, .own (.arr 4 (.int .u64)) 2, .int .i64 v10, .int .i64 v11], [.box (.arr 4 (.int .u64) v12) false, .buf (.arr 4 (.int .u64)) v13 false, .buf (.arr 4 (.int .u64)) v14 false] => l_7 (fun (r0 : (List (List Int))) (r1 : Int) (r2 : Int) (r3 : (List (List Int))) => K (.exit 2) [.own (.arr 4 (.int .u64)) 0, .sl (.arr 4 (.int .u64)) r0, .int .i64 r1, .int .i64 r2] [.buf (.arr 4 (.int .u64)) r3 false]) v7 v8 v9 v10 v11 v12 v13 v14
  | _, _ => none

def sl_byteset_Parts_l10 {R : Type} (l_10 : (List (List Int)) → Int → Int → Int → Int → Int → (List Int) → (List (List Int)) → (List (List Int)) → ((List (List Int)) → Int → Int → Int → Int → (List Int) → (List (List Int)) → (List (List Int)) → Option R) → Int → (List (List Int)) → Option R) (vs : List S) (es : List Ent) (K : Out → List S → List Ent → Option R) : Option R :=
  match vs, es with
  | [.ptr 0 [], .own (.arr 4 (.int .u64)) 1, .sl (.arr 4 (.int .u64)) v18, .int .i64 v19, .int .i64 v20, .own (.arr 4 (.int .u64)) 2, .int .i64 v21, .int .i64 v22, .own (.arr 4 (.int .u64)) 3, .int .i64 v23, .int .i64 v24], [.box (.arr 4 (.int .u64) v25) false, .buf (.arr 4 (.int .u64)) v26 false, .buf (.arr 4 (.int .u64)) v27 false, .buf (.arr 4 (.int .u64)) v28 false] => l_10 v18 v19 v20 v21 v22 v23 v25 v27 v28 (fun (r0 : (List (List Int))) (r1 : Int) (r2 : Int) (r3 : Int) (r4 : Int) (r5 : (List Int)) (r6 : (List (List Int))) (r7 : (List (List Int))) => K (.exit 4) [.ptr 0 [], .own (.arr 4 (.int .u64)) 1, .sl (.arr 4 (.int .u64)) r0, .int .i64 r1, .int .i64 r2, .own (.arr 4 (.int .u64)) 2, .int .i64 r3, .int .i64 r4] [.box (.arr 4 (.int .u64) r5) false, .buf (.arr 4 (.int .u64)) r6 false, .buf (.arr 4 (.int .u64)) r7 false]) v24 v26
  | _, _ => none

def sl_byteset_Parts_l21 {R : Type} (l_21 : ((List (List Int)) → Option R) → Int → (List (List Int)) → (List (List Int)) → (List Int) → Option R) (vs : List S) (es : List Ent) (K : Out → List S → List Ent → Option R) : Option R :=
  match vs, es with
  | [.own (.arr 4 (.int .u64)) 0, .own (.arr 4 (.int .u64)) 1, .ptr 2 [], .int .i64 v42], [.buf (.arr 4 (.int .u64)) v43 false, .buf (.arr 4 (.int .u64)) v44 false, .box (.arr 4 (.int .u64) v45) false] => l_21 (fun (r0 : (List (List Int))) => K (.exit 6) [.own (.arr 4 (.int .u64)) 0] [.buf (.arr 4 (.int .u64)) r0 false]) v42 v43 v44 v45
  | _, _ => none

def sl_byteset_Parts_l25 {R : Type} (l_25 : Int → Int → Int → (List (List Int)) → (Int → (List (List Int)) → (List (List Int)) → (List Int) → Option R) → Int → (List (List Int)) → (List Int) → Option R) (vs : List S) (es : List Ent) (K : Out → List S → List Ent → Option R) : Option R :=
  match vs, es with
  | [.own (.arr 4 (.int .u64)) 0, .own (.arr 4 (.int .u64)) 1, .ptr 2 [], .int .i64 v47, .int .i64 v48, .own (.arr 4 (.int .u64)) 0, .int .i64 v49, .int .i64 v50], [.buf (.arr 4 (.int .u64)) v51 false, .buf (.arr 4 (.int .u64)) v52 false, .box (.arr 4 (.int .u64) v53) false] => l_25 v47 v48 v49 v51 (fun (r0 : Int) (r1 : (List (List Int))) (r2 : (List (List Int))) (r3 : (List Int)) => K (.exit 8) [.own (.arr 4 (.int .u64)) 0, .own (.arr 4 (.int .u64)) 1, .ptr 2 [], .int .i64 r0] [.buf (.arr 4 (.int .u64)) r1 false, .buf (.arr 4 (.int .u64)) r2 false, .box (.arr 4 (.int .u64) r3) false]) v50 v52 v53
  | _, _ => none

def lf_byteset_Parts {R : Type} (c_byteset_Not : (List Int) → ((List Int) → Option R) → Option R) (c_byteset_And : (List Int) → (List Int) → ((List Int) → Option R) → Option R) (c_byteset_Has : (List Int) → Int → (Bool → Option R) → Option R) (c_byteset_Or : (List Int) → (List Int) → ((List Int) → Option R) → Option R) (l_3 : ((List (List Int)) → Option R) → (List (List Int)) → Int → Int → (List (List Int)) → Option R) (l_7 : ((List (List Int)) → Int → Int → (List (List Int)) → Option R) → (List (List Int)) → Int → Int → Int → Int → (List Int) → (List (List Int)) → (List (List Int)) → Option R) (l_10 : (List (List Int)) → Int → Int → Int → Int → Int → (List Int) → (List (List Int)) → (List (List Int)) → ((List (List Int)) → Int → Int → Int → Int → (List Int) → (List (List Int)) → (List (List Int)) → Option R) → Int → (List (List Int)) → Option R) (l_21 : ((List (List Int)) → Option R) → Int → (List (List Int)) → (List (List Int)) → (List Int) → Option R) (l_25 : Int → Int → Int → (List (List Int)) → (Int → (List (List Int)) → (List (List Int)) → (List Int) → Option R) → Int → (List (List Int)) → (List Int) → Option R) : LoopF R := fun m np id _ vs es K => iteH (decide (m = 82) && decide (np = 0)) (iteH (decide (id = 3)) (sl_byteset_Parts_l3 l_3 vs es K) (iteH (decide (id = 7)) (sl_byteset_Parts_l7 l_7 vs es K) (iteH (decide (id = 10)) (sl_byteset_Parts_l10 l_10 vs es K) (iteH (decide (id = 21)) (sl_byteset_Parts_l21 l_21 vs es K) (iteH (decide (id = 25)) (sl_byteset_Parts_l25 l_25 vs es K) (none)))))) none

theorem eq_byteset_Parts_l3 {R : Type} (c_byteset_Not : (List Int) → ((List Int) → Option R) → Option R) (c_byteset_And : (List Int) → (List Int) → ((List Int) → Option R) → Option R) (c_byteset_Has : (List Int) → Int → (Bool → Option R) → Option R) (c_byteset_Or : (List Int) → (List Int) → ((List Int) → Option R) → Option R) (l_3 : ((List (List Int)) → Option R) → (List (List Int)) → Int → Int → (List (List Int)) → Option R) (l_7 : ((List (List Int)) → Int → Int → (List (List Int)) → Option R) → (List (List Int)) → Int → Int → Int → Int → (List Int) → (List (List Int)) → (List (List Int)) → Option R) (l_10 : (List (List Int)) → Int → Int → Int → Int → Int → (List Int) → (List (List Int)) → (List (List Int)) → ((List (List Int)) → Int → Int → Int → Int → (List Int) → (List (List Int)) → (List (List Int)) → Option R) → Int → (List (List Int)) → Option R) (l_21 : ((List (List Int)) → Option R) → Int → (List (List Int)) → (List (List Int)) → (List Int) → Option R) (l_25 : Int → Int → Int → (List (List Int)) → (Int → (List (List Int)) → (List (List Int)) → (List Int) → Option R) → Int → (List (List Int)) → (List Int) → Option R) (v3 : (List (List Int))) (v4 : Int) (v5 : Int) (v6 : (List (List Int))) (K : Out → List S → List Ent → Option R) :
    acodeK C_byteset_Parts raw (cf_byteset_Parts c_byteset_Not c_byteset_And c_byteset_Has c_byteset_Or l_3 l_7 l_10 l_21 l_25) (lf_byteset_Parts c_byteset_Not c_byteset_And c_byteset_Has c_byteset_Or l_3 l_7 l_10 l_21 l_25) (loopBody Tryd.prog 28 3) (placeSt 82 0 [3, 19, 20, 21] [.own (.arr 4 (.int .u64)) 0, .sl (.arr 4 (.int .u64)) v3, .int .i64 v4, .int .i64 v5] [.buf (.arr 4 (.int .u64)) v6 false]) (loopKont C_byteset_Parts (lf_byteset_Parts c_byteset_Not c_byteset_And c_byteset_Has c_byteset_Or l_3 l_7 l_10 l_21 l_25) 82 0 3 (loopBody Tryd.prog 28 3) K) =
      byteset_Parts_l3_b c_byteset_Not c_byteset_And c_byteset_Has c_byteset_Or l_3 l_7 l_10 l_21 l_25 (fun (r0 : (List (List Int))) => K (.exit 0) [.own (.arr 4 (.int .u64)) 0] [.buf (.arr 4 (.int .u64)) r0 false]) v3 v4 v5 v6 := by kernel_rfl

theorem eq_byteset_Parts_l7 {R : Type} (c_byteset_Not : (List Int) → ((List Int) → Option R) → Option R) (c_byteset_And : (List Int) → (List Int) → ((List Int) → Option R) → Option R) (c_byteset_Has : (List Int) → Int → (Bool → Option R) → Option R) (c_byteset_Or : (List Int) → (List Int) → ((List Int) → Option R) → Option R) (l_3 : ((List (List Int)) → Option R) → (List (List Int)) → Int → Int → (List (List Int)) → Option R) (l_7 : ((List (List Int)) → Int → Int → (List (List Int)) → Option R) → (List (List Int)) → Int → Int → Int → Int → (List Int) → (List (List Int)) → (List (List Int)) → Option R) (l_10 : (List (List Int)) → Int → Int → Int → Int → Int → (List Int) → (List (List Int)) → (List (List Int)) → ((List (List Int)) → Int → Int → Int → Int → (List Int) → (List (List Int)) → (List (List Int)) → Option R) → Int → (List (List Int)) → Option R) (l_21 : ((List (List Int)) → Option R) → Int → (List (List Int)) → (List (List Int)) → (List Int) → Option R) (l_25 : Int → Int → Int → (List (List Int)) → (Int → (List (List Int)) → (List (List Int)) → (List Int) → Option R) → Int → (List (List Int)) → (List Int) → Option R) (v7 : (List (List Int))) (v8 : Int) (v9 : Int) (v10 : Int) (v11 : Int) (v12 : (List Int)) (v13 : (List (List Int))) (v14 : (List (List Int))) (K : Out → List S → List Ent → Option R) :
    acodeK C_byteset_Parts raw (cf_byteset_Parts c_byteset_Not c_byteset_And c_byteset_Has c_byteset_Or l_3 l_7 l_10 l_21 l_25) (lf_byteset_Parts c_byteset_Not c_byteset_And c_byteset_Has c_byteset_Or l_3 l_7 l_10 l_21 l_25) (loopBody Tryd.prog 28 7) (placeSt 82 0 [5, 6, 19, 20, 21, 25, 26, 27] [.ptr 0 [], .own (.arr 4 (.int .u64)) 1, .sl (.arr 4 (.int .u64)) v7, .int .i64 v8, .int .i64 v9, .own (.arr 4 (.int .u64)) 2, .int .i64 v10, .int .i64 v11] [.box (.arr 4 (.int .u64) v12) false, .buf (.arr 4 (.int .u64)) v13 false, .buf (.arr 4 (.int .u64)) v14 false]) (loopKont C_byteset_Parts (lf_byteset_Parts c_byteset_Not c_byteset_And c_byteset_Has c_byteset_Or l_3 l_7 l_10 l_21 l_25) 82 0 7 (loopBody Tryd.prog 28 7) K) =
      byteset_Parts_l7_b c_byteset_Not c_byteset_And c_byteset_Has c_byteset_Or l_3 l_7 l_10 l_21 l_25 (fun (r0 : (List (List Int))) (r1 : Int) (r2 : Int) (r3 : (List (List Int))) => K (.exit 2) [.own (.arr 4 (.int .u64)) 0, .sl (.arr 4 (.int .u64)) r0, .int .i64 r1, .int .i64 r2] [.buf (.arr 4 (.int .u64)) r3 false]) v7 v8 v9 v10 v11 v12 v13 v14 := by kernel_rfl

theorem eq_byteset_Parts_l10 {R : Type} (c_byteset_Not : (List Int) → ((List Int) → Option R) → Option R) (c_byteset_And : (List Int) → (List Int) → ((List Int) → Option R) → Option R) (c_byteset_Has : (List Int) → Int → (Bool → Option R) → Option R) (c_byteset_Or : (List Int) → (List Int) → ((List Int) → Option R) → Option R) (l_3 : ((List (List Int)) → Option R) → (List (List Int)) → Int → Int → (List (List Int)) → Option R) (l_7 : ((List (List Int)) → Int → Int → (List (List Int)) → Option R) → (List (List Int)) → Int → Int → Int → Int → (List Int) → (List (List Int)) → (List (List Int)) → Option R) (l_10 : (List (List Int)) → Int → Int → Int → Int → Int → (List Int) → (List (List Int)) → (List (List Int)) → ((List (List Int)) → Int → Int → Int → Int → (List Int) → (List (List Int)) → (List (List Int)) → Option R) → Int → (List (List Int)) → Option R) (l_21 : ((List (List Int)) → Option R) → Int → (List (List Int)) → (List (List Int)) → (List Int) → Option R) (l_25 : Int → Int → Int → (List (List Int)) → (Int → (List (List Int)) → (List (List Int)) → (List Int) → Option R) → Int → (List (List Int)) → (List Int) → Option R) (v18 : (List (List Int))) (v19 : Int) (v20 : Int) (v21 : Int) (v22 : Int) (v23 : Int) (v24 : Int) (v25 : (List Int)) (v26 : (List (List Int))) (v27 : (List (List Int))) (v28 : (List (List Int))) (K : Out → List S → List Ent → Option R) :
    acodeK C_byteset_Parts raw (cf_byteset_Parts c_byteset_Not c_byteset_And c_byteset_Has c_byteset_Or l_3 l_7 l_10 l_21 l_25) (lf_byteset_Parts c_byteset_Not c_byteset_And c_byteset_Has c_byteset_Or l_3 l_7 l_10 l_21 l_25) (loopBody Tryd.prog 28 10) (placeSt 82 0 [5, 6, 19, 20, 21, 25, 26, 27, 38, 39, 40] [.ptr 0 [], .own (.arr 4 (.int .u64)) 1, .sl (.arr 4 (.int .u64)) v18, .int .i64 v19, .int .i64 v20, .own (.arr 4 (.int .u64)) 2, .int .i64 v21, .int .i64 v22, .own (.arr 4 (.int .u64)) 3, .int .i64 v23, .int .i64 v24] [.box (.arr 4 (.int .u64) v25) false, .buf (.arr 4 (.int .u64)) v26 false, .buf (.arr 4 (.int .u64)) v27 false, .buf (.arr 4 (.int .u64)) v28 false]) (loopKont C_byteset_Parts (lf_byteset_Parts c_byteset_Not c_byteset_And c_byteset_Has c_byteset_Or l_3 l_7 l_10 l_21 l_25) 82 0 10 (loopBody Tryd.prog 28 10) K) =
      byteset_Parts_l10_b c_byteset_Not c_byteset_And c_byteset_Has c_byteset_Or l_3 l_7 l_10 l_21 l_25 v18 v19 v20 v21 v22 v23 v25 v27 v28 (fun (r0 : (List (List Int))) (r1 : Int) (r2 : Int) (r3 : Int) (r4 : Int) (r5 : (List Int)) (r6 : (List (List Int))) (r7 : (List (List Int))) => K (.exit 4) [.ptr 0 [], .own (.arr 4 (.int .u64)) 1, .sl (.arr 4 (.int .u64)) r0, .int .i64 r1, .int .i64 r2, .own (.arr 4 (.int .u64)) 2, .int .i64 r3, .int .i64 r4] [.box (.arr 4 (.int .u64) r5) false, .buf (.arr 4 (.int .u64)) r6 false, .buf (.arr 4 (.int .u64)) r7 false]) v24 v26 := by kernel_rfl

theorem eq_byteset_Parts_l21 {R : Type} (c_byteset_Not : (List Int) → ((List Int) → Option R) → Option R) (c_byteset_And : (List Int) → (List Int) → ((List Int) → Option R) → Option R) (c_byteset_Has : (List Int) → Int → (Bool → Option R) → Option R) (c_byteset_Or : (List Int) → (List Int) → ((List Int) → Option R) → Option R) (l_3 : ((List (List Int)) → Option R) → (List (List Int)) → Int → Int → (List (List Int)) → Option R) (l_7 : ((List (List Int)) → Int → Int → (List (List Int)) → Option R) → (List (List Int)) → Int → Int → Int → Int → (List Int) → (List (List Int)) → (List (List Int)) → Option R) (l_10 : (List (List Int)) → Int → Int → Int → Int → Int → (List Int) → (List (List Int)) → (List (List Int)) → ((List (List Int)) → Int → Int → Int → Int → (List Int) → (List (List Int)) → (List (List Int)) → Option R) → Int → (List (List Int)) → Option R) (l_21 : ((List (List Int)) → Option R) → Int → (List (List Int)) → (List (List Int)) → (List Int) → Option R) (l_25 : Int → Int → Int → (List (List Int)) → (Int → (List (List Int)) → (List (List Int)) → (List Int) → Option R) → Int → (List (List Int)) → (List Int) → Option R) (v42 : Int) (v43 : (List (List Int))) (v44 : (List (List Int))) (v45 : (List Int)) (K : Out → List S → List Ent → Option R) :
    acodeK C_byteset_Parts raw (cf_byteset_Parts c_byteset_Not c_byteset_And c_byteset_Has c_byteset_Or l_3 l_7 l_10 l_21 l_25) (lf_byteset_Parts c_byteset_Not c_byteset_And c_byteset_Has c_byteset_Or l_3 l_7 l_10 l_21 l_25) (loopBody Tryd.prog 28 21) (placeSt 82 0 [3, 11, 12, 55] [.own (.arr 4 (.int .u64)) 0, .own (.arr 4 (.int .u64)) 1, .ptr 2 [], .int .i64 v42] [.buf (.arr 4 (.int .u64)) v43 false, .buf (.arr 4 (.int .u64)) v44 false, .box (.arr 4 (.int .u64) v45) false]) (loopKont C_byteset_Parts (lf_byteset_Parts c_byteset_Not c_byteset_And c_byteset_Has c_byteset_Or l_3 l_7 l_10 l_21 l_25) 82 0 21 (loopBody Tryd.prog 28 21) K) =
      byteset_Parts_l21_b c_byteset_Not c_byteset_And c_byteset_Has c_byteset_Or l_3 l_7 l_10 l_21 l_25 (fun (r0 : (List (List Int))) => K (.exit 6) [.own (.arr 4 (.int .u64)) 0] [.buf (.arr 4 (.int .u64)) r0 false]) v42 v43 v44 v45 := by kernel_rfl

theorem eq_byteset_Parts_l25 {R : Type} (c_byteset_Not : (List Int) → ((List Int) → Option R) → Option R) (c_byteset_And : (List Int) → (List Int) → ((List Int) → Option R) → Option R) (c_byteset_Has : (List Int) → Int → (Bool → Option R) → Option R) (c_byteset_Or : (List Int) → (List Int) → ((List Int) → Option R) → Option R) (l_3 : ((List (List Int)) → Option R) → (List (List Int)) → Int → Int → (List (List Int)) → Option R) (l_7 : ((List (List Int)) → Int → Int → (List (List Int)) → Option R) → (List (List Int)) → Int → Int → Int → Int → (List Int) → (List (List Int)) → (List (List Int)) → Option R) (l_10 : (List (List Int)) → Int → Int → Int → Int → Int → (List Int) → (List (List Int)) → (List (List Int)) → ((List (List Int)) → Int → Int → Int → Int → (List Int) → (List (List Int)) → (List (List Int)) → Option R) → Int → (List (List Int)) → Option R) (l_21 : ((List (List Int)) → Option R) → Int → (List (List Int)) → (List (List Int)) → (List Int) → Option R) (l_25 : Int → Int → Int → (List (List Int)) → (Int → (List (List Int)) → (List (List Int)) → (List Int) → Option R) → Int → (List (List Int)) → (List Int) → Option R) (v47 : Int) (v48 : Int) (v49 : Int) (v50 : Int) (v51 : (List (List Int))) (v52 : (List (List Int))) (v53 : (List Int)) (K : Out → List S → List Ent → Option R) :
    acodeK C_byteset_Parts raw (cf_byteset_Parts c_byteset_Not c_byteset_And c_byteset_Has c_byteset_Or l_3 l_7 l_10 l_21 l_25) (lf_byteset_Parts c_byteset_Not c_byteset_And c_byteset_Has c_byteset_Or l_3 l_7 l_10 l_21 l_25) (loopBody Tryd.prog 28 25) (placeSt 82 0 [3, 11, 12, 13, 55, 62, 63, 64] [.own (.arr 4 (.int .u64)) 0, .own (.arr 4 (.int .u64)) 1, .ptr 2 [], .int .i64 v47, .int .i64 v48, .own (.arr 4 (.int .u64)) 0, .int .i64 v49, .int .i64 v50] [.buf (.arr 4 (.int .u64)) v51 false, .buf (.arr 4 (.int .u64)) v52 false, .box (.arr 4 (.int .u64) v53) false]) (loopKont C_byteset_Parts (lf_byteset_Parts c_byteset_Not c_byteset_And c_byteset_Has c_byteset_Or l_3 l_7 l_10 l_21 l_25) 82 0 25 (loopBody Tryd.prog 28 25) K) =
      byteset_Parts_l25_b c_byteset_Not c_byteset_And c_byteset_Has c_byteset_Or l_3 l_7 l_10 l_21 l_25 v47 v48 v49 v51 (fun (r0 : Int) (r1 : (List (List Int))) (r2 : (List (List Int))) (r3 : (List Int)) => K (.exit 8) [.own (.arr 4 (.int .u64)) 0, .own (.arr 4 (.int .u64)) 1, .ptr 2 [], .int .i64 r0] [.buf (.arr 4 (.int .u64)) r1 false, .buf (.arr 4 (.int .u64)) r2 false, .box (.arr 4 (.int .u64) r3) false]) v50 v52 v53 := by kernel_rfl

theorem eq_byteset_Parts {R : Type} (c_byteset_Not : (List Int) → ((List Int) → Option R) → Option R) (c_byteset_And : (List Int) → (List Int) → ((List Int) → Option R) → Option R) (c_byteset_Has : (List Int) → Int → (Bool → Option R) → Option R) (c_byteset_Or : (List Int) → (List Int) → ((List Int) → Option R) → Option R) (l_3 : ((List (List Int)) → Option R) → (List (List Int)) → Int → Int → (List (List Int)) → Option R) (l_7 : ((List (List Int)) → Int → Int → (List (List Int)) → Option R) → (List (List Int)) → Int → Int → Int → Int → (List Int) → (List (List Int)) → (List (List Int)) → Option R) (l_10 : (List (List Int)) → Int → Int → Int → Int → Int → (List Int) → (List (List Int)) → (List (List Int)) → ((List (List Int)) → Int → Int → Int → Int → (List Int) → (List (List Int)) → (List (List Int)) → Option R) → Int → (List (List Int)) → Option R) (l_21 : ((List (List Int)) → Option R) → Int → (List (List Int)) → (List (List Int)) → (List Int) → Option R) (l_25 : Int → Int → Int → (List (List Int)) → (Int → (List (List Int)) → (List (List Int)) → (List Int) → Option R) → Int → (List (List Int)) → (List Int) → Option R) (v1 : (List (List Int))) (K : S → List Ent → Option R) :
    runK C_byteset_Parts raw (cf_byteset_Parts c_byteset_Not c_byteset_And c_byteset_Has c_byteset_Or l_3 l_7 l_10 l_21 l_25) (lf_byteset_Parts c_byteset_Not c_byteset_And c_byteset_Has c_byteset_Or l_3 l_7 l_10 l_21 l_25) 28 [.sl (.arr 4 (.int .u64)) v1] [] K =
      byteset_Parts_b c_byteset_Not c_byteset_And c_byteset_Has c_byteset_Or l_3 l_7 l_10 l_21 l_25 v1 (fun (r0 : (List (List Int))) => K (.own (.arr 4 (.int .u64)) 0) [.buf (.arr 4 (.int .u64)) r0 false]) := by kernel_rfl

noncomputable def C_math_bits_OnesCount64 : Ctx := { P := Tryd.prog, mv := [], glob := glob, live := fun n => look n [], out := fun n => look n [], frz := fun n => look n [], bef := fun n => look n [] }

def cf_math_bits_OnesCount64 {R : Type} : CallF R := fun f av es K => none

def lf_math_bits_OnesCount64 {R : Type} : LoopF R := fun m np id _ vs es K => none

theorem eq_math_bits_OnesCount64 {R : Type} (v1 : Int) (K : S → List Ent → Option R) :
    runK C_math_bits_OnesCount64 raw (cf_math_bits_OnesCount64) (lf_math_bits_OnesCount64) 35 [.int .u64 v1] [] K =
      math_bits_OnesCount64_b v1 (fun (r0 : Int) => K (.int .i64 r0) []) := by kernel_rfl

noncomputable def C_byteset_Len : Ctx := { P := Tryd.prog, mv := [], glob := glob, live := fun n => look n [(3, [3, 6, 7])], out := fun n => look n [(3, [3])], frz := fun n => look n [(3, [])], bef := fun n => look n [] }

def cf_byteset_Len {R : Type} (c_math_bits_OnesCount64 : Int → (Int → Option R) → Option R) (l_3 : (List Int) → (Int → Option R) → Int → Int → Option R) : CallF R := fun f av es K => iteH (decide (f = 35)) (sh35 c_math_bits_OnesCount64 av es K) (none)

def sl_byteset_Len_l3 {R : Type} (l_3 : (List Int) → (Int → Option R) → Int → Int → Option R) (vs : List S) (es : List Ent) (K : Out → List S → List Ent → Option R) : Option R :=
  match vs, es with
  | [.int .i64 v2, .arr 4 (.int .u64) v3, .int .i64 v4], [] => l_3 v3 (fun (r0 : Int) => K (.exit 0) [.int .i64 r0] []) v2 v4
  | _, _ => none

def lf_byteset_Len {R : Type} (c_math_bits_OnesCount64 : Int → (Int → Option R) → Option R) (l_3 : (List Int) → (Int → Option R) → Int → Int → Option R) : LoopF R := fun m np id _ vs es K => iteH (decide (m = 16) && decide (np = 0)) (iteH (decide (id = 3)) (sl_byteset_Len_l3 l_3 vs es K) (none)) none

theorem eq_byteset_Len_l3 {R : Type} (c_math_bits_OnesCount64 : Int → (Int → Option R) → Option R) (l_3 : (List Int) → (Int → Option R) → Int → Int → Option R) (v2 : Int) (v3 : (List Int)) (v4 : Int) (K : Out → List S → List Ent → Option R) :
    acodeK C_byteset_Len raw (cf_byteset_Len c_math_bits_OnesCount64 l_3) (lf_byteset_Len c_math_bits_OnesCount64 l_3) (loopBody Tryd.prog 23 3) (placeSt 16 0 [3, 6, 7] [.int .i64 v2, .arr 4 (.int .u64) v3, .int .i64 v4] []) (loopKont C_byteset_Len (lf_byteset_Len c_math_bits_OnesCount64 l_3) 16 0 3 (loopBody Tryd.prog 23 3) K) =
      byteset_Len_l3_b c_math_bits_OnesCount64 l_3 v3 (fun (r0 : Int) => K (.exit 0) [.int .i64 r0] []) v2 v4 := by kernel_rfl

theorem eq_byteset_Len {R : Type} (c_math_bits_OnesCount64 : Int → (Int → Option R) → Option R) (l_3 : (List Int) → (Int → Option R) → Int → Int → Option R) (v1 : (List Int)) (K : S → List Ent → Option R) :
    runK C_byteset_Len raw (cf_byteset_Len c_math_bits_OnesCount64 l_3) (lf_byteset_Len c_math_bits_OnesCount64 l_3) 23 [.arr 4 (.int .u64) v1] [] K =
      byteset_Len_b c_math_bits_OnesCount64 l_3 v1 (fun (r0 : Int) => K (.int .i64 r0) []) := by kernel_rfl

noncomputable def C_byteset_List : Ctx := { P := Tryd.prog, mv := [], glob := glob, live := fun n => look n [(3, [1, 3, 5])], out := fun n => look n [(3, [3])], frz := fun n => look n [(3, [])], bef := fun n => look n [] }

def cf_byteset_List {R : Type} (c_byteset_Has : (List Int) → Int → (Bool → Option R) → Option R) (l_3 : (List Int) → ((List Int) → Option R) → Int → (List Int) → Option R) : CallF R := fun f av es K => iteH (decide (f = 26)) (sh26 c_byteset_Has av es K) (none)

def sl_byteset_List_l3 {R : Type} (l_3 : (List Int) → ((List Int) → Option R) → Int → (List Int) → Option R) (vs : List S) (es : List Ent) (K : Out → List S → List Ent → Option R) : Option R :=
  match vs, es with
  | [.ptr 0 [], .own (.int .u8) 1, .int .i64 v2], [.box (.arr 4 (.int .u64) v3) false, .buf (.int .u8) v4 false] => l_3 v3 (fun (r0 : (List Int)) => K (.exit 0) [.own (.int .u8) 0] [.buf (.int .u8) r0 false]) v2 v4
  | _, _ => none

def lf_byteset_List {R : Type} (c_byteset_Has : (List Int) → Int → (Bool → Option R) → Option R) (l_3 : (List Int) → ((List Int) → Option R) → Int → (List Int) → Option R) : LoopF R := fun m np id _ vs es K => iteH (decide (m = 19) && decide (np = 0)) (iteH (decide (id = 3)) (sl_byteset_List_l3 l_3 vs es K) (none)) none

theorem eq_byteset_List_l3 {R : Type} (c_byteset_Has : (List Int) → Int → (Bool → Option R) → Option R) (l_3 : (List Int) → ((List Int) → Option R) → Int → (List Int) → Option R) (v2 : Int) (v3 : (List Int)) (v4 : (List Int)) (K : Out → List S → List Ent → Option R) :
    acodeK C_byteset_List raw (cf_byteset_List c_byteset_Has l_3) (lf_byteset_List c_byteset_Has l_3) (loopBody Tryd.prog 21 3) (placeSt 19 0 [1, 3, 5] [.ptr 0 [], .own (.int .u8) 1, .int .i64 v2] [.box (.arr 4 (.int .u64) v3) false, .buf (.int .u8) v4 false]) (loopKont C_byteset_List (lf_byteset_List c_byteset_Has l_3) 19 0 3 (loopBody Tryd.prog 21 3) K) =
      byteset_List_l3_b c_byteset_Has l_3 v3 (fun (r0 : (List Int)) => K (.exit 0) [.own (.int .u8) 0] [.buf (.int .u8) r0 false]) v2 v4 := by kernel_rfl

theorem eq_byteset_List {R : Type} (c_byteset_Has : (List Int) → Int → (Bool → Option R) → Option R) (l_3 : (List Int) → ((List Int) → Option R) → Int → (List Int) → Option R) (v1 : (List Int)) (K : S → List Ent → Option R) :
    runK C_byteset_List raw (cf_byteset_List c_byteset_Has l_3) (lf_byteset_List c_byteset_Has l_3) 21 [.arr 4 (.int .u64) v1] [] K =
      byteset_List_b c_byteset_Has l_3 v1 (fun (r0 : (List Int)) => K (.own (.int .u8) 0) [.buf (.int .u8) r0 false]) := by kernel_rfl

noncomputable def C_math_bits_TrailingZeros64 : Ctx := { P := Tryd.prog, mv := [], glob := glob, live := fun n => look n [], out := fun n => look n [], frz := fun n => look n [], bef := fun n => look n [] }

def cf_math_bits_TrailingZeros64 {R : Type} : CallF R := fun f av es K => none

def lf_math_bits_TrailingZeros64 {R : Type} : LoopF R := fun m np id _ vs es K => none

theorem eq_math_bits_TrailingZeros64 {R : Type} (v1 : Int) (K : S → List Ent → Option R) :
    runK C_math_bits_TrailingZeros64 raw (cf_math_bits_TrailingZeros64) (lf_math_bits_TrailingZeros64) 36 [.int .u64 v1] [] K =
      math_bits_TrailingZeros64_b v1 (fun (r0 : Int) => K (.int .i64 r0) []) := by kernel_rfl

noncomputable def C_byteset_Less : Ctx := { P := Tryd.prog, mv := [], glob := glob, live := fun n => look n [(2, [2, 3, 7])], out := fun n => look n [(2, [4])], frz := fun n => look n [(2, [])], bef := fun n => look n [(4, [0, 1, 3, 0, 8, 24, 63, 127]), (6, [0, 1, 3, 0, 8, 31, 63, 127, 255])] }

def cf_byteset_Less {R : Type} (c_math_bits_TrailingZeros64 : Int → (Int → Option R) → Option R) (l_2 : (List Int) → (List Int) → (Bool → Option R) → (Option R) → Int → Option R) : CallF R := fun f av es K => iteH (decide (f = 36)) (sh36 c_math_bits_TrailingZeros64 av es K) (none)

def sl_byteset_Less_l2 {R : Type} (l_2 : (List Int) → (List Int) → (Bool → Option R) → (Option R) → Int → Option R) (vs : List S) (es : List Ent) (K : Out → List S → List Ent → Option R) : Option R :=
  match vs, es with
  | [.ptr 0 [], .ptr 1 [], .int .i64 v3], [.box (.arr 4 (.int .u64) v4) false, .box (.arr 4 (.int .u64) v5) false] => l_2 v4 v5 (fun (r0 : Bool) => K .ret [.bool r0] []) (K (.exit 0) [.junk] []) v3
  | _, _ => none

def lf_byteset_Less {R : Type} (c_math_bits_TrailingZeros64 : Int → (Int → Option R) → Option R) (l_2 : (List Int) → (List Int) → (Bool → Option R) → (Option R) → Int → Option R) : LoopF R := fun m np id _ vs es K => iteH (decide (m = 28) && decide (np = 0)) (iteH (decide (id = 2)) (sl_byteset_Less_l2 l_2 vs es K) (none)) none

theorem eq_byteset_Less_l2 {R : Type} (c_math_bits_TrailingZeros64 : Int → (Int → Option R) → Option R) (l_2 : (List Int) → (List Int) → (Bool → Option R) → (Option R) → Int → Option R) (v3 : Int) (v4 : (List Int)) (v5 : (List Int)) (K : Out → List S → List Ent → Option R) :
    acodeK C_byteset_Less raw (cf_byteset_Less c_math_bits_TrailingZeros64 l_2) (lf_byteset_Less c_math_bits_TrailingZeros64 l_2) (loopBody Tryd.prog 24 2) (placeSt 28 0 [2, 3, 7] [.ptr 0 [], .ptr 1 [], .int .i64 v3] [.box (.arr 4 (.int .u64) v4) false, .box (.arr 4 (.int .u64) v5) false]) (loopKont C_byteset_Less (lf_byteset_Less c_math_bits_TrailingZeros64 l_2) 28 0 2 (loopBody Tryd.prog 24 2) K) =
      byteset_Less_l2_b c_math_bits_TrailingZeros64 l_2 v4 v5 (fun (r0 : Bool) => K .ret [.bool r0] []) (K (.exit 0) [.junk] []) v3 := by kernel_rfl

theorem eq_byteset_Less {R : Type} (c_math_bits_TrailingZeros64 : Int → (Int → Option R) → Option R) (l_2 : (List Int) → (List Int) → (Bool → Option R) → (Option R) → Int → Option R) (v1 : (List Int)) (v2 : (List Int)) (K : S → List Ent → Option R) :
    runK C_byteset_Less raw (cf_byteset_Less c_math_bits_TrailingZeros64 l_2) (lf_byteset_Less c_math_bits_TrailingZeros64 l_2) 24 [.arr 4 (.int .u64) v1, .arr 4 (.int .u64) v2] [] K =
      byteset_Less_b c_math_bits_TrailingZeros64 l_2 v1 v2 (fun (r0 : Bool) => K (.bool r0) []) := by kernel_rfl

noncomputable def C_byteset_Of : Ctx := { P := Tryd.prog, mv := [], glob := glob, live := fun n => look n [(3, [2, 3, 6, 7, 8])], out := fun n => look n [(3, [2, 3])], frz := fun n => look n [(3, [])], bef := fun n => look n [] }

def cf_byteset_Of {R : Type} (l_3 : (List Int) → Int → (List Int) → ((List Int) → (List Int) → Option R) → Int → (List Int) → Option R) : CallF R := fun f av es K => none

def sl_byteset_Of_l3 {R : Type} (l_3 : (List Int) → Int → (List Int) → ((List Int) → (List Int) → Option R) → Int → (List Int) → Option R) (vs : List S) (es : List Ent) (K : Out → List S → List Ent → Option R) : Option R :=
  match vs, es with
  | [.ptr 0 [], .ptr 1 [], .sl (.int .u8) v2, .int .i64 v3, .int .i64 v4], [.box (.arr 4 (.int .u64) v5) false, .box (.arr 4 (.int .u64) v6) false] => l_3 v2 v3 v5 (fun (r0 : (List Int)) (r1 : (List Int)) => K (.exit 0) [.ptr 0 [], .ptr 1 []] [.box (.arr 4 (.int .u64) r0) false, .box (.arr 4 (.int .u64) r1) false]) v4 v6
  | _, _ => none

def lf_byteset_Of {R : Type} (l_3 : (List Int) → Int → (List Int) → ((List Int) → (List Int) → Option R) → Int → (List Int) → Option R) : LoopF R := fun m np id _ vs es K => iteH (decide (m = 23) && decide (np = 0)) (iteH (decide (id = 3)) (sl_byteset_Of_l3 l_3 vs es K) (none)) none

theorem eq_byteset_Of_l3 {R : Type} (l_3 : (List Int) → Int → (List Int) → ((List Int) → (List Int) → Option R) → Int → (List Int) → Option R) (v2 : (List Int)) (v3 : Int) (v4 : Int) (v5 : (List Int)) (v6 : (List Int)) (K : Out → List S → List Ent → Option R) :
    acodeK C_byteset_Of raw (cf_byteset_Of l_3) (lf_byteset_Of l_3) (loopBody Tryd.prog 11 3) (placeSt 23 0 [2, 3, 6, 7, 8] [.ptr 0 [], .ptr 1 [], .sl (.int .u8) v2, .int .i64 v3, .int .i64 v4] [.box (.arr 4 (.int .u64) v5) false, .box (.arr 4 (.int .u64) v6) false]) (loopKont C_byteset_Of (lf_byteset_Of l_3) 23 0 3 (loopBody Tryd.prog 11 3) K) =
      byteset_Of_l3_b l_3 v2 v3 v5 (fun (r0 : (List Int)) (r1 : (List Int)) => K (.exit 0) [.ptr 0 [], .ptr 1 []] [.box (.arr 4 (.int .u64) r0) false, .box (.arr 4 (.int .u64) r1) false]) v4 v6 := by kernel_rfl

theorem eq_byteset_Of {R : Type} (l_3 : (List Int) → Int → (List Int) → ((List Int) → (List Int) → Option R) → Int → (List Int) → Option R) (v1 : (List Int)) (K : S → List Ent → Option R) :
    runK C_byteset_Of raw (cf_byteset_Of l_3) (lf_byteset_Of l_3) 11 [.sl (.int .u8) v1] [] K =
      byteset_Of_b l_3 v1 (fun (r0 : (List Int)) => K (.arr 4 (.int .u64) r0) []) := by kernel_rfl

noncomputable def C_law4_begun : Ctx := { P := Tryd.prog, mv := [], glob := glob, live := fun n => look n [], out := fun n => look n [], frz := fun n => look n [], bef := fun n => look n [(3, [0, 1, 3, 7, 15, 31, 63, 127, 255, 511, 1023, 2047, 4095, 8191, 16383, 32767, 65535, 131071, 262143, 524287, 1048575, 2097151, 4194303, 8388607, 16777215, 16777215, 67108863, 134217727, 268435455, 536870911, 1073741823, 2147483647, 536870911, 8589934591, 17179869183, 34359738367])] }

def cf_law4_begun {R : Type} (c_byteset_Range : Int → Int → ((List Int) → Option R) → Option R) (c_byteset_Parts : (List (List Int)) → ((List (List Int)) → Option R) → Option R) (c_byteset_Has : (List Int) → Int → (Bool → Option R) → Option R) (c_byteset_Len : (List Int) → (Int → Option R) → Option R) (c_byteset_List : (List Int) → ((List Int) → Option R) → Option R) (c_byteset_Less : (List Int) → (List Int) → (Bool → Option R) → Option R) (c_byteset_Of : (List Int) → ((List Int) → Option R) → Option R) : CallF R := fun f av es K => iteH (decide (f = 13)) (sh13 c_byteset_Range av es K) (iteH (decide (f = 28)) (sh28 c_byteset_Parts av es K) (iteH (decide (f = 26)) (sh26 c_byteset_Has av es K) (iteH (decide (f = 23)) (sh23 c_byteset_Len av es K) (iteH (decide (f = 21)) (sh21 c_byteset_List av es K) (iteH (decide (f = 24)) (sh24 c_byteset_Less av es K) (iteH (decide (f = 11)) (sh11 c_byteset_Of av es K) (none)))))))

def lf_law4_begun {R : Type} (c_byteset_Range : Int → Int → ((List Int) → Option R) → Option R) (c_byteset_Parts : (List (List Int)) → ((List (List Int)) → Option R) → Option R) (c_byteset_Has : (List Int) → Int → (Bool → Option R) → Option R) (c_byteset_Len : (List Int) → (Int → Option R) → Option R) (c_byteset_List : (List Int) → ((List Int) → Option R) → Option R) (c_byteset_Less : (List Int) → (List Int) → (Bool → Option R) → Option R) (c_byteset_Of : (List Int) → ((List Int) → Option R) → Option R) : LoopF R := fun m np id _ vs es K => none

theorem eq_law4_begun {R : Type} (c_byteset_Range : Int → Int → ((List Int) → Option R) → Option R) (c_byteset_Parts : (List (List Int)) → ((List (List Int)) → Option R) → Option R) (c_byteset_Has : (List Int) → Int → (Bool → Option R) → Option R) (c_byteset_Len : (List Int) → (Int → Option R) → Option R) (c_byteset_List : (List Int) → ((List Int) → Option R) → Option R) (c_byteset_Less : (List Int) → (List Int) → (Bool → Option R) → Option R) (c_byteset_Of : (List Int) → ((List Int) → Option R) → Option R) (K : S → List Ent → Option R) :
    runK C_law4_begun raw (cf_law4_begun c_byteset_Range c_byteset_Parts c_byteset_Has c_byteset_Len c_byteset_List c_byteset_Less c_byteset_Of) (lf_law4_begun c_byteset_Range c_byteset_Parts c_byteset_Has c_byteset_Len c_byteset_List c_byteset_Less c_byteset_Of) 10 [] [] K =
      law4_begun_b c_byteset_Range c_byteset_Parts c_byteset_Has c_byteset_Len c_byteset_List c_byteset_Less c_byteset_Of (fun (r0 : Bool) => K (.bool r0) []) := by kernel_rfl

noncomputable def C_ref1_Of : Ctx := { P := Tryd.prog, mv := [], glob := glob, live := fun n => look n [(3, [0, 2, 3, 4])], out := fun n => look n [(3, [2, 3])], frz := fun n => look n [(3, [])], bef := fun n => look n [(5, [0, 0, 3, 7, 15, 31, 63, 0, 0, 384, 896, 1920, 3968, 8191, 16383, 32767])] }

def cf_ref1_Of {R : Type} (l_3 : (List Int) → (List Int) → ((List Int) → (List Int) → Option R) → Int → (List Int) → Option R) : CallF R := fun f av es K => none

def sl_ref1_Of_l3 {R : Type} (l_3 : (List Int) → (List Int) → ((List Int) → (List Int) → Option R) → Int → (List Int) → Option R) (vs : List S) (es : List Ent) (K : Out → List S → List Ent → Option R) : Option R :=
  match vs, es with
  | [.sl (.int .u8) v2, .ptr 0 [], .ptr 1 [], .int .i64 v3], [.box (.arr 4 (.int .u64) v4) false, .box (.arr 4 (.int .u64) v5) false] => l_3 v2 v4 (fun (r0 : (List Int)) (r1 : (List Int)) => K (.exit 0) [.ptr 0 [], .ptr 1 []] [.box (.arr 4 (.int .u64) r0) false, .box (.arr 4 (.int .u64) r1) false]) v3 v5
  | _, _ => none

def lf_ref1_Of {R : Type} (l_3 : (List Int) → (List Int) → ((List Int) → (List Int) → Option R) → Int → (List Int) → Option R) : LoopF R := fun m np id _ vs es K => iteH (decide (m = 27) && decide (np = 0)) (iteH (decide (id = 3)) (sl_ref1_Of_l3 l_3 vs es K) (none)) none

theorem eq_ref1_Of_l3 {R : Type} (l_3 : (List Int) → (List Int) → ((List Int) → (List Int) → Option R) → Int → (List Int) → Option R) (v2 : (List Int)) (v3 : Int) (v4 : (List Int)) (v5 : (List Int)) (K : Out → List S → List Ent → Option R) :
    acodeK C_ref1_Of raw (cf_ref1_Of l_3) (lf_ref1_Of l_3) (loopBody Tryd.prog 12 3) (placeSt 27 0 [0, 2, 3, 4] [.sl (.int .u8) v2, .ptr 0 [], .ptr 1 [], .int .i64 v3] [.box (.arr 4 (.int .u64) v4) false, .box (.arr 4 (.int .u64) v5) false]) (loopKont C_ref1_Of (lf_ref1_Of l_3) 27 0 3 (loopBody Tryd.prog 12 3) K) =
      ref1_Of_l3_b l_3 v2 v4 (fun (r0 : (List Int)) (r1 : (List Int)) => K (.exit 0) [.ptr 0 [], .ptr 1 []] [.box (.arr 4 (.int .u64) r0) false, .box (.arr 4 (.int .u64) r1) false]) v3 v5 := by kernel_rfl

theorem eq_ref1_Of {R : Type} (l_3 : (List Int) → (List Int) → ((List Int) → (List Int) → Option R) → Int → (List Int) → Option R) (v1 : (List Int)) (K : S → List Ent → Option R) :
    runK C_ref1_Of raw (cf_ref1_Of l_3) (lf_ref1_Of l_3) 12 [.sl (.int .u8) v1] [] K =
      ref1_Of_b l_3 v1 (fun (r0 : (List Int)) => K (.arr 4 (.int .u64) r0) []) := by kernel_rfl

noncomputable def C_ref1_Where : Ctx := { P := Tryd.prog, mv := [], glob := glob, live := fun n => look n [(3, [1, 2, 3, 4])], out := fun n => look n [(3, [2, 3])], frz := fun n => look n [(3, [])], bef := fun n => look n [] }

def cf_ref1_Where {R : Type} (c_ref1_Of : (List Int) → ((List Int) → Option R) → Option R) (l_3 : (List Bool) → (List Int) → ((List Int) → (List Int) → Option R) → Int → (List Int) → Option R) : CallF R := fun f av es K => iteH (decide (f = 12)) (sh12 c_ref1_Of av es K) (none)

def sl_ref1_Where_l3 {R : Type} (l_3 : (List Bool) → (List Int) → ((List Int) → (List Int) → Option R) → Int → (List Int) → Option R) (vs : List S) (es : List Ent) (K : Out → List S → List Ent → Option R) : Option R :=
  match vs, es with
  | [.ptr 0 [], .ptr 1 [], .own (.int .u8) 2, .int .i64 v2], [.box (.arr 256 .bool v3) false, .box (.arr 4 (.int .u64) v4) false, .buf (.int .u8) v5 false] => l_3 v3 v4 (fun (r0 : (List Int)) (r1 : (List Int)) => K (.exit 0) [.ptr 0 [], .own (.int .u8) 1] [.box (.arr 4 (.int .u64) r0) false, .buf (.int .u8) r1 false]) v2 v5
  | _, _ => none

def lf_ref1_Where {R : Type} (c_ref1_Of : (List Int) → ((List Int) → Option R) → Option R) (l_3 : (List Bool) → (List Int) → ((List Int) → (List Int) → Option R) → Int → (List Int) → Option R) : LoopF R := fun m np id _ vs es K => iteH (decide (m = 19) && decide (np = 0)) (iteH (decide (id = 3)) (sl_ref1_Where_l3 l_3 vs es K) (none)) none

theorem eq_ref1_Where_l3 {R : Type} (c_ref1_Of : (List Int) → ((List Int) → Option R) → Option R) (l_3 : (List Bool) → (List Int) → ((List Int) → (List Int) → Option R) → Int → (List Int) → Option R) (v2 : Int) (v3 : (List Bool)) (v4 : (List Int)) (v5 : (List Int)) (K : Out → List S → List Ent → Option R) :
    acodeK C_ref1_Where raw (cf_ref1_Where c_ref1_Of l_3) (lf_ref1_Where c_ref1_Of l_3) (loopBody Tryd.prog 30 3) (placeSt 19 0 [1, 2, 3, 4] [.ptr 0 [], .ptr 1 [], .own (.int .u8) 2, .int .i64 v2] [.box (.arr 256 .bool v3) false, .box (.arr 4 (.int .u64) v4) false, .buf (.int .u8) v5 false]) (loopKont C_ref1_Where (lf_ref1_Where c_ref1_Of l_3) 19 0 3 (loopBody Tryd.prog 30 3) K) =
      ref1_Where_l3_b c_ref1_Of l_3 v3 v4 (fun (r0 : (List Int)) (r1 : (List Int)) => K (.exit 0) [.ptr 0 [], .own (.int .u8) 1] [.box (.arr 4 (.int .u64) r0) false, .buf (.int .u8) r1 false]) v2 v5 := by kernel_rfl

theorem eq_ref1_Where {R : Type} (c_ref1_Of : (List Int) → ((List Int) → Option R) → Option R) (l_3 : (List Bool) → (List Int) → ((List Int) → (List Int) → Option R) → Int → (List Int) → Option R) (v1 : (List Bool)) (K : S → List Ent → Option R) :
    runK C_ref1_Where raw (cf_ref1_Where c_ref1_Of l_3) (lf_ref1_Where c_ref1_Of l_3) 30 [.arr 256 .bool v1] [] K =
      ref1_Where_b c_ref1_Of l_3 v1 (fun (r0 : (List Int)) => K (.arr 4 (.int .u64) r0) []) := by kernel_rfl

noncomputable def C_ref1_Range : Ctx := { P := Tryd.prog, mv := [], glob := glob, live := fun n => look n [(3, [1, 4, 5, 6])], out := fun n => look n [(3, [4, 5])], frz := fun n => look n [(3, [])], bef := fun n => look n [] }

def cf_ref1_Range {R : Type} (c_ref1_Where : (List Bool) → ((List Int) → Option R) → Option R) (l_3 : Int → (List Int) → ((List Int) → (List Bool) → Option R) → Int → (List Bool) → Option R) : CallF R := fun f av es K => iteH (decide (f = 30)) (sh30 c_ref1_Where av es K) (none)

def sl_ref1_Range_l3 {R : Type} (l_3 : Int → (List Int) → ((List Int) → (List Bool) → Option R) → Int → (List Bool) → Option R) (vs : List S) (es : List Ent) (K : Out → List S → List Ent → Option R) : Option R :=
  match vs, es with
  | [.int .u8 v3, .ptr 0 [], .ptr 1 [], .int .i64 v4], [.box (.arr 4 (.int .u64) v5) false, .box (.arr 256 .bool v6) false] => l_3 v3 v5 (fun (r0 : (List Int)) (r1 : (List Bool)) => K (.exit 0) [.ptr 0 [], .ptr 1 []] [.box (.arr 4 (.int .u64) r0) false, .box (.arr 256 .bool r1) false]) v4 v6
  | _, _ => none

def lf_ref1_Range {R : Type} (c_ref1_Where : (List Bool) → ((List Int) → Option R) → Option R) (l_3 : Int → (List Int) → ((List Int) → (List Bool) → Option R) → Int → (List Bool) → Option R) : LoopF R := fun m np id _ vs es K => iteH (decide (m = 19) && decide (np = 0)) (iteH (decide (id = 3)) (sl_ref1_Range_l3 l_3 vs es K) (none)) none

theorem eq_ref1_Range_l3 {R : Type} (c_ref1_Where : (List Bool) → ((List Int) → Option R) → Option R) (l_3 : Int → (List Int) → ((List Int) → (List Bool) → Option R) → Int → (List Bool) → Option R) (v3 : Int) (v4 : Int) (v5 : (List Int)) (v6 : (List Bool)) (K : Out → List S → List Ent → Option R) :
    acodeK C_ref1_Range raw (cf_ref1_Range c_ref1_Where l_3) (lf_ref1_Range c_ref1_Where l_3) (loopBody Tryd.prog 14 3) (placeSt 19 0 [1, 4, 5, 6] [.int .u8 v3, .ptr 0 [], .ptr 1 [], .int .i64 v4] [.box (.arr 4 (.int .u64) v5) false, .box (.arr 256 .bool v6) false]) (loopKont C_ref1_Range (lf_ref1_Range c_ref1_Where l_3) 19 0 3 (loopBody Tryd.prog 14 3) K) =
      ref1_Range_l3_b c_ref1_Where l_3 v3 v5 (fun (r0 : (List Int)) (r1 : (List Bool)) => K (.exit 0) [.ptr 0 [], .ptr 1 []] [.box (.arr 4 (.int .u64) r0) false, .box (.arr 256 .bool r1) false]) v4 v6 := by kernel_rfl

theorem eq_ref1_Range {R : Type} (c_ref1_Where : (List Bool) → ((List Int) → Option R) → Option R) (l_3 : Int → (List Int) → ((List Int) → (List Bool) → Option R) → Int → (List Bool) → Option R) (v1 : Int) (v2 : Int) (K : S → List Ent → Option R) :
    runK C_ref1_Range raw (cf_ref1_Range c_ref1_Where l_3) (lf_ref1_Range c_ref1_Where l_3) 14 [.int .u8 v1, .int .u8 v2] [] K =
      ref1_Range_b c_ref1_Where l_3 v1 v2 (fun (r0 : (List Int)) => K (.arr 4 (.int .u64) r0) []) := by kernel_rfl

noncomputable def C_ref1_Has : Ctx := { P := Tryd.prog, mv := [], glob := glob, live := fun n => look n [], out := fun n => look n [], frz := fun n => look n [], bef := fun n => look n [] }

def cf_ref1_Has {R : Type} : CallF R := fun f av es K => none

def lf_ref1_Has {R : Type} : LoopF R := fun m np id _ vs es K => none

theorem eq_ref1_Has {R : Type} (v1 : (List Int)) (v2 : Int) (K : S → List Ent → Option R) :
    runK C_ref1_Has raw (cf_ref1_Has) (lf_ref1_Has) 27 [.arr 4 (.int .u64) v1, .int .u8 v2] [] K =
      ref1_Has_b v1 v2 (fun (r0 : Bool) => K (.bool r0) []) := by kernel_rfl

noncomputable def C_ref1_List : Ctx := { P := Tryd.prog, mv := [], glob := glob, live := fun n => look n [(3, [1, 3, 4])], out := fun n => look n [(3, [3])], frz := fun n => look n [(3, [])], bef := fun n => look n [] }

def cf_ref1_List {R : Type} (c_ref1_Has : (List Int) → Int → (Bool → Option R) → Option R) (l_3 : (List Int) → ((List Int) → Option R) → Int → (List Int) → Option R) : CallF R := fun f av es K => iteH (decide (f = 27)) (sh27 c_ref1_Has av es K) (none)

def sl_ref1_List_l3 {R : Type} (l_3 : (List Int) → ((List Int) → Option R) → Int → (List Int) → Option R) (vs : List S) (es : List Ent) (K : Out → List S → List Ent → Option R) : Option R :=
  match vs, es with
  | [.ptr 0 [], .own (.int .u8) 1, .int .i64 v2], [.box (.arr 4 (.int .u64) v3) false, .buf (.int .u8) v4 false] => l_3 v3 (fun (r0 : (List Int)) => K (.exit 0) [.own (.int .u8) 0] [.buf (.int .u8) r0 false]) v2 v4
  | _, _ => none

def lf_ref1_List {R : Type} (c_ref1_Has : (List Int) → Int → (Bool → Option R) → Option R) (l_3 : (List Int) → ((List Int) → Option R) → Int → (List Int) → Option R) : LoopF R := fun m np id _ vs es K => iteH (decide (m = 19) && decide (np = 0)) (iteH (decide (id = 3)) (sl_ref1_List_l3 l_3 vs es K) (none)) none

theorem eq_ref1_List_l3 {R : Type} (c_ref1_Has : (List Int) → Int → (Bool → Option R) → Option R) (l_3 : (List Int) → ((List Int) → Option R) → Int → (List Int) → Option R) (v2 : Int) (v3 : (List Int)) (v4 : (List Int)) (K : Out → List S → List Ent → Option R) :
    acodeK C_ref1_List raw (cf_ref1_List c_ref1_Has l_3) (lf_ref1_List c_ref1_Has l_3) (loopBody Tryd.prog 22 3) (placeSt 19 0 [1, 3, 4] [.ptr 0 [], .own (.int .u8) 1, .int .i64 v2] [.box (.arr 4 (.int .u64) v3) false, .buf (.int .u8) v4 false]) (loopKont C_ref1_List (lf_ref1_List c_ref1_Has l_3) 19 0 3 (loopBody Tryd.prog 22 3) K) =
      ref1_List_l3_b c_ref1_Has l_3 v3 (fun (r0 : (List Int)) => K (.exit 0) [.own (.int .u8) 0] [.buf (.int .u8) r0 false]) v2 v4 := by kernel_rfl

theorem eq_ref1_List {R : Type} (c_ref1_Has : (List Int) → Int → (Bool → Option R) → Option R) (l_3 : (List Int) → ((List Int) → Option R) → Int → (List Int) → Option R) (v1 : (List Int)) (K : S → List Ent → Option R) :
    runK C_ref1_List raw (cf_ref1_List c_ref1_Has l_3) (lf_ref1_List c_ref1_Has l_3) 22 [.arr 4 (.int .u64) v1] [] K =
      ref1_List_b c_ref1_Has l_3 v1 (fun (r0 : (List Int)) => K (.own (.int .u8) 0) [.buf (.int .u8) r0 false]) := by kernel_rfl

noncomputable def C_ref1_Or : Ctx := { P := Tryd.prog, mv := [], glob := glob, live := fun n => look n [], out := fun n => look n [], frz := fun n => look n [], bef := fun n => look n [(1, [0, 1, 0, 7, 15, 31, 63])] }

def cf_ref1_Or {R : Type} (c_ref1_List : (List Int) → ((List Int) → Option R) → Option R) (c_ref1_Of : (List Int) → ((List Int) → Option R) → Option R) : CallF R := fun f av es K => iteH (decide (f = 22)) (sh22 c_ref1_List av es K) (iteH (decide (f = 12)) (sh12 c_ref1_Of av es K) (none))

def lf_ref1_Or {R : Type} (c_ref1_List : (List Int) → ((List Int) → Option R) → Option R) (c_ref1_Of : (List Int) → ((List Int) → Option R) → Option R) : LoopF R := fun m np id _ vs es K => none

theorem eq_ref1_Or {R : Type} (c_ref1_List : (List Int) → ((List Int) → Option R) → Option R) (c_ref1_Of : (List Int) → ((List Int) → Option R) → Option R) (v1 : (List Int)) (v2 : (List Int)) (K : S → List Ent → Option R) :
    runK C_ref1_Or raw (cf_ref1_Or c_ref1_List c_ref1_Of) (lf_ref1_Or c_ref1_List c_ref1_Of) 16 [.arr 4 (.int .u64) v1, .arr 4 (.int .u64) v2] [] K =
      ref1_Or_b c_ref1_List c_ref1_Of v1 v2 (fun (r0 : (List Int)) => K (.arr 4 (.int .u64) r0) []) := by kernel_rfl

noncomputable def C_ref1_And : Ctx := { P := Tryd.prog, mv := [], glob := glob, live := fun n => look n [(3, [2, 3, 4, 5, 6])], out := fun n => look n [(3, [4, 5])], frz := fun n => look n [(3, [])], bef := fun n => look n [] }

def cf_ref1_And {R : Type} (c_ref1_Has : (List Int) → Int → (Bool → Option R) → Option R) (c_ref1_Where : (List Bool) → ((List Int) → Option R) → Option R) (l_3 : (List Int) → (List Int) → (List Int) → ((List Int) → (List Bool) → Option R) → Int → (List Bool) → Option R) : CallF R := fun f av es K => iteH (decide (f = 27)) (sh27 c_ref1_Has av es K) (iteH (decide (f = 30)) (sh30 c_ref1_Where av es K) (none))

def sl_ref1_And_l3 {R : Type} (l_3 : (List Int) → (List Int) → (List Int) → ((List Int) → (List Bool) → Option R) → Int → (List Bool) → Option R) (vs : List S) (es : List Ent) (K : Out → List S → List Ent → Option R) : Option R :=
  match vs, es with
  | [.ptr 0 [], .ptr 1 [], .ptr 2 [], .ptr 3 [], .int .i64 v3], [.box (.arr 4 (.int .u64) v4) false, .box (.arr 4 (.int .u64) v5) false, .box (.arr 4 (.int .u64) v6) false, .box (.arr 256 .bool v7) false] => l_3 v4 v5 v6 (fun (r0 : (List Int)) (r1 : (List Bool)) => K (.exit 0) [.ptr 0 [], .ptr 1 []] [.box (.arr 4 (.int .u64) r0) false, .box (.arr 256 .bool r1) false]) v3 v7
  | _, _ => none

def lf_ref1_And {R : Type} (c_ref1_Has : (List Int) → Int → (Bool → Option R) → Option R) (c_ref1_Where : (List Bool) → ((List Int) → Option R) → Option R) (l_3 : (List Int) → (List Int) → (List Int) → ((List Int) → (List Bool) → Option R) → Int → (List Bool) → Option R) : LoopF R := fun m np id _ vs es K => iteH (decide (m = 25) && decide (np = 0)) (iteH (decide (id = 3)) (sl_ref1_And_l3 l_3 vs es K) (none)) none

theorem eq_ref1_And_l3 {R : Type} (c_ref1_Has : (List Int) → Int → (Bool → Option R) → Option R) (c_ref1_Where : (List Bool) → ((List Int) → Option R) → Option R) (l_3 : (List Int) → (List Int) → (List Int) → ((List Int) → (List Bool) → Option R) → Int → (List Bool) → Option R) (v3 : Int) (v4 : (List Int)) (v5 : (List Int)) (v6 : (List Int)) (v7 : (List Bool)) (K : Out → List S → List Ent → Option R) :
    acodeK C_ref1_And raw (cf_ref1_And c_ref1_Has c_ref1_Where l_3) (lf_ref1_And c_ref1_Has c_ref1_Where l_3) (loopBody Tryd.prog 18 3) (placeSt 25 0 [2, 3, 4, 5, 6] [.ptr 0 [], .ptr 1 [], .ptr 2 [], .ptr 3 [], .int .i64 v3] [.box (.arr 4 (.int .u64) v4) false, .box (.arr 4 (.int .u64) v5) false, .box (.arr 4 (.int .u64) v6) false, .box (.arr 256 .bool v7) false]) (loopKont C_ref1_And (lf_ref1_And c_ref1_Has c_ref1_Where l_3) 25 0 3 (loopBody Tryd.prog 18 3) K) =
      ref1_And_l3_b c_ref1_Has c_ref1_Where l_3 v4 v5 v6 (fun (r0 : (List Int)) (r1 : (List Bool)) => K (.exit 0) [.ptr 0 [], .ptr 1 []] [.box (.arr 4 (.int .u64) r0) false, .box (.arr 256 .bool r1) false]) v3 v7 := by kernel_rfl

theorem eq_ref1_And {R : Type} (c_ref1_Has : (List Int) → Int → (Bool → Option R) → Option R) (c_ref1_Where : (List Bool) → ((List Int) → Option R) → Option R) (l_3 : (List Int) → (List Int) → (List Int) → ((List Int) → (List Bool) → Option R) → Int → (List Bool) → Option R) (v1 : (List Int)) (v2 : (List Int)) (K : S → List Ent → Option R) :
    runK C_ref1_And raw (cf_ref1_And c_ref1_Has c_ref1_Where l_3) (lf_ref1_And c_ref1_Has c_ref1_Where l_3) 18 [.arr 4 (.int .u64) v1, .arr 4 (.int .u64) v2] [] K =
      ref1_And_b c_ref1_Has c_ref1_Where l_3 v1 v2 (fun (r0 : (List Int)) => K (.arr 4 (.int .u64) r0) []) := by kernel_rfl

noncomputable def C_ref1_Not : Ctx := { P := Tryd.prog, mv := [], glob := glob, live := fun n => look n [(3, [1, 2, 3, 4])], out := fun n => look n [(3, [2, 3])], frz := fun n => look n [(3, [])], bef := fun n => look n [] }

def cf_ref1_Not {R : Type} (c_ref1_Has : (List Int) → Int → (Bool → Option R) → Option R) (c_ref1_Where : (List Bool) → ((List Int) → Option R) → Option R) (l_3 : (List Int) → (List Int) → ((List Int) → (List Bool) → Option R) → Int → (List Bool) → Option R) : CallF R := fun f av es K => iteH (decide (f = 27)) (sh27 c_ref1_Has av es K) (iteH (decide (f = 30)) (sh30 c_ref1_Where av es K) (none))

def sl_ref1_Not_l3 {R : Type} (l_3 : (List Int) → (List Int) → ((List Int) → (List Bool) → Option R) → Int → (List Bool) → Option R) (vs : List S) (es : List Ent) (K : Out → List S → List Ent → Option R) : Option R :=
  match vs, es with
  | [.ptr 0 [], .ptr 1 [], .ptr 2 [], .int .i64 v2], [.box (.arr 4 (.int .u64) v3) false, .box (.arr 4 (.int .u64) v4) false, .box (.arr 256 .bool v5) false] => l_3 v3 v4 (fun (r0 : (List Int)) (r1 : (List Bool)) => K (.exit 0) [.ptr 0 [], .ptr 1 []] [.box (.arr 4 (.int .u64) r0) false, .box (.arr 256 .bool r1) false]) v2 v5
  | _, _ => none

def lf_ref1_Not {R : Type} (c_ref1_Has : (List Int) → Int → (Bool → Option R) → Option R) (c_ref1_Where : (List Bool) → ((List Int) → Option R) → Option R) (l_3 : (List Int) → (List Int) → ((List Int) → (List Bool) → Option R) → Int → (List Bool) → Option R) : LoopF R := fun m np id _ vs es K => iteH (decide (m = 18) && decide (np = 0)) (iteH (decide (id = 3)) (sl_ref1_Not_l3 l_3 vs es K) (none)) none

theorem eq_ref1_Not_l3 {R : Type} (c_ref1_Has : (List Int) → Int → (Bool → Option R) → Option R) (c_ref1_Where : (List Bool) → ((List Int) → Option R) → Option R) (l_3 : (List Int) → (List Int) → ((List Int) → (List Bool) → Option R) → Int → (List Bool) → Option R) (v2 : Int) (v3 : (List Int)) (v4 : (List Int)) (v5 : (List Bool)) (K : Out → List S → List Ent → Option R) :
    acodeK C_ref1_Not raw (cf_ref1_Not c_ref1_Has c_ref1_Where l_3) (lf_ref1_Not c_ref1_Has c_ref1_Where l_3) (loopBody Tryd.prog 20 3) (placeSt 18 0 [1, 2, 3, 4] [.ptr 0 [], .ptr 1 [], .ptr 2 [], .int .i64 v2] [.box (.arr 4 (.int .u64) v3) false, .box (.arr 4 (.int .u64) v4) false, .box (.arr 256 .bool v5) false]) (loopKont C_ref1_Not (lf_ref1_Not c_ref1_Has c_ref1_Where l_3) 18 0 3 (loopBody Tryd.prog 20 3) K) =
      ref1_Not_l3_b c_ref1_Has c_ref1_Where l_3 v3 v4 (fun (r0 : (List Int)) (r1 : (List Bool)) => K (.exit 0) [.ptr 0 [], .ptr 1 []] [.box (.arr 4 (.int .u64) r0) false, .box (.arr 256 .bool r1) false]) v2 v5 := by kernel_rfl

theorem eq_ref1_Not {R : Type} (c_ref1_Has : (List Int) → Int → (Bool → Option R) → Option R) (c_ref1_Where : (List Bool) → ((List Int) → Option R) → Option R) (l_3 : (List Int) → (List Int) → ((List Int) → (List Bool) → Option R) → Int → (List Bool) → Option R) (v1 : (List Int)) (K : S → List Ent → Option R) :
    runK C_ref1_Not raw (cf_ref1_Not c_ref1_Has c_ref1_Where l_3) (lf_ref1_Not c_ref1_Has c_ref1_Where l_3) 20 [.arr 4 (.int .u64) v1] [] K =
      ref1_Not_b c_ref1_Has c_ref1_Where l_3 v1 (fun (r0 : (List Int)) => K (.arr 4 (.int .u64) r0) []) := by kernel_rfl

noncomputable def C_ref1_SetLess : Ctx := { P := Tryd.prog, mv := [], glob := glob, live := fun n => look n [(2, [2, 3, 5])], out := fun n => look n [(2, [4])], frz := fun n => look n [(2, [])], bef := fun n => look n [(4, [0, 0, 2, 7, 0, 0, 32, 127, 255])] }

def cf_ref1_SetLess {R : Type} (c_ref1_Has : (List Int) → Int → (Bool → Option R) → Option R) (l_2 : (List Int) → (List Int) → (Bool → Option R) → (Option R) → Int → Option R) : CallF R := fun f av es K => iteH (decide (f = 27)) (sh27 c_ref1_Has av es K) (none)

def sl_ref1_SetLess_l2 {R : Type} (l_2 : (List Int) → (List Int) → (Bool → Option R) → (Option R) → Int → Option R) (vs : List S) (es : List Ent) (K : Out → List S → List Ent → Option R) : Option R :=
  match vs, es with
  | [.ptr 0 [], .ptr 1 [], .int .i64 v3], [.box (.arr 4 (.int .u64) v4) false, .box (.arr 4 (.int .u64) v5) false] => l_2 v4 v5 (fun (r0 : Bool) => K .ret [.bool r0] []) (K (.exit 0) [.junk] []) v3
  | _, _ => none

def lf_ref1_SetLess {R : Type} (c_ref1_Has : (List Int) → Int → (Bool → Option R) → Option R) (l_2 : (List Int) → (List Int) → (Bool → Option R) → (Option R) → Int → Option R) : LoopF R := fun m np id _ vs es K => iteH (decide (m = 23) && decide (np = 0)) (iteH (decide (id = 2)) (sl_ref1_SetLess_l2 l_2 vs es K) (none)) none

theorem eq_ref1_SetLess_l2 {R : Type} (c_ref1_Has : (List Int) → Int → (Bool → Option R) → Option R) (l_2 : (List Int) → (List Int) → (Bool → Option R) → (Option R) → Int → Option R) (v3 : Int) (v4 : (List Int)) (v5 : (List Int)) (K : Out → List S → List Ent → Option R) :
    acodeK C_ref1_SetLess raw (cf_ref1_SetLess c_ref1_Has l_2) (lf_ref1_SetLess c_ref1_Has l_2) (loopBody Tryd.prog 25 2) (placeSt 23 0 [2, 3, 5] [.ptr 0 [], .ptr 1 [], .int .i64 v3] [.box (.arr 4 (.int .u64) v4) false, .box (.arr 4 (.int .u64) v5) false]) (loopKont C_ref1_SetLess (lf_ref1_SetLess c_ref1_Has l_2) 23 0 2 (loopBody Tryd.prog 25 2) K) =
      ref1_SetLess_l2_b c_ref1_Has l_2 v4 v5 (fun (r0 : Bool) => K .ret [.bool r0] []) (K (.exit 0) [.junk] []) v3 := by kernel_rfl

theorem eq_ref1_SetLess {R : Type} (c_ref1_Has : (List Int) → Int → (Bool → Option R) → Option R) (l_2 : (List Int) → (List Int) → (Bool → Option R) → (Option R) → Int → Option R) (v1 : (List Int)) (v2 : (List Int)) (K : S → List Ent → Option R) :
    runK C_ref1_SetLess raw (cf_ref1_SetLess c_ref1_Has l_2) (lf_ref1_SetLess c_ref1_Has l_2) 25 [.arr 4 (.int .u64) v1, .arr 4 (.int .u64) v2] [] K =
      ref1_SetLess_b c_ref1_Has l_2 v1 v2 (fun (r0 : Bool) => K (.bool r0) []) := by kernel_rfl

noncomputable def C_law4_SetAll : Ctx := { P := Tryd.prog, mv := [], glob := glob, live := fun n => look n [], out := fun n => look n [], frz := fun n => look n [], bef := fun n => look n [(5, [0, 1, 0, 7, 15, 31, 63, 63, 255, 63, 63, 2047, 4095, 8191, 16383, 32767, 32767, 131071, 32767, 32767, 1048575, 2097151, 4194303, 8388607, 16777215, 16777215, 67108863, 16777215, 16777215, 536870911, 1073741823, 2147483647, 4294967295, 8589934591, 17179869183, 8589934591, 68719476735, 137438953471, 274877906943, 549755813887, 1099511627775, 2199023255551, 4398046511103, 1099511627775, 13194139533311, 30786325577727, 70368744177663, 140737488355327, 281474976710655, 562949953421311, 1125899906842623, 562949953421311, 4503599627370495, 9007199254740991, 18014398509481983, 36028797018963967, 72057594037927935, 144115188075855871, 144115188075855871, 576460752303423487, 144115188075855871, 144115188075855871, 4611686018427387903, 9223372036854775807, 18446744073709551615, 36893488147419103231, 73786976294838206463, 73786976294838206463, 295147905179352825855, 73786976294838206463, 73786976294838206463, 2361183241434822606847, 4722366482869645213695, 9444732965739290427391, 18889465931478580854783])] }

def cf_law4_SetAll {R : Type} (c_law4_begun : (Bool → Option R) → Option R) (c_byteset_Of : (List Int) → ((List Int) → Option R) → Option R) (c_ref1_Of : (List Int) → ((List Int) → Option R) → Option R) (c_byteset_Range : Int → Int → ((List Int) → Option R) → Option R) (c_ref1_Range : Int → Int → ((List Int) → Option R) → Option R) (c_byteset_Or : (List Int) → (List Int) → ((List Int) → Option R) → Option R) (c_ref1_Or : (List Int) → (List Int) → ((List Int) → Option R) → Option R) (c_byteset_And : (List Int) → (List Int) → ((List Int) → Option R) → Option R) (c_ref1_And : (List Int) → (List Int) → ((List Int) → Option R) → Option R) (c_byteset_Not : (List Int) → ((List Int) → Option R) → Option R) (c_ref1_Not : (List Int) → ((List Int) → Option R) → Option R) (c_byteset_List : (List Int) → ((List Int) → Option R) → Option R) (c_ref1_List : (List Int) → ((List Int) → Option R) → Option R) (c_byteset_Len : (List Int) → (Int → Option R) → Option R) (c_byteset_Less : (List Int) → (List Int) → (Bool → Option R) → Option R) (c_ref1_SetLess : (List Int) → (List Int) → (Bool → Option R) → Option R) (c_byteset_Has : (List Int) → Int → (Bool → Option R) → Option R) (c_ref1_Has : (List Int) → Int → (Bool → Option R) → Option R) : CallF R := fun f av es K => iteH (decide (f = 10)) (sh10 c_law4_begun av es K) (iteH (decide (f = 11)) (sh11 c_byteset_Of av es K) (iteH (decide (f = 12)) (sh12 c_ref1_Of av es K) (iteH (decide (f = 13)) (sh13 c_byteset_Range av es K) (iteH (decide (f = 14)) (sh14 c_ref1_Range av es K) (iteH (decide (f = 15)) (sh15 c_byteset_Or av es K) (iteH (decide (f = 16)) (sh16 c_ref1_Or av es K) (iteH (decide (f = 17)) (sh17 c_byteset_And av es K) (iteH (decide (f = 18)) (sh18 c_ref1_And av es K) (iteH (decide (f = 19)) (sh19 c_byteset_Not av es K) (iteH (decide (f = 20)) (sh20 c_ref1_Not av es K) (iteH (decide (f = 21)) (sh21 c_byteset_List av es K) (iteH (decide (f = 22)) (sh22 c_ref1_List av es K) (iteH (decide (f = 23)) (sh23 c_byteset_Len av es K) (iteH (decide (f = 24)) (sh24 c_byteset_Less av es K) (iteH (decide (f = 25)) (sh25 c_ref1_SetLess av es K) (iteH (decide (f = 26)) (sh26 c_byteset_Has av es K) (iteH (decide (f = 27)) (sh27 c_ref1_Has av es K) (none))))))))))))))))))

def lf_law4_SetAll {R : Type} (c_law4_begun : (Bool → Option R) → Option R) (c_byteset_Of : (List Int) → ((List Int) → Option R) → Option R) (c_ref1_Of : (List Int) → ((List Int) → Option R) → Option R) (c_byteset_Range : Int → Int → ((List Int) → Option R) → Option R) (c_ref1_Range : Int → Int → ((List Int) → Option R) → Option R) (c_byteset_Or : (List Int) → (List Int) → ((List Int) → Option R) → Option R) (c_ref1_Or : (List Int) → (List Int) → ((List Int) → Option R) → Option R) (c_byteset_And : (List Int) → (List Int) → ((List Int) → Option R) → Option R) (c_ref1_And : (List Int) → (List Int) → ((List Int) → Option R) → Option R) (c_byteset_Not : (List Int) → ((List Int) → Option R) → Option R) (c_ref1_Not : (List Int) → ((List Int) → Option R) → Option R) (c_byteset_List : (List Int) → ((List Int) → Option R) → Option R) (c_ref1_List : (List Int) → ((List Int) → Option R) → Option R) (c_byteset_Len : (List Int) → (Int → Option R) → Option R) (c_byteset_Less : (List Int) → (List Int) → (Bool → Option R) → Option R) (c_ref1_SetLess : (List Int) → (List Int) → (Bool → Option R) → Option R) (c_byteset_Has : (List Int) → Int → (Bool → Option R) → Option R) (c_ref1_Has : (List Int) → Int → (Bool → Option R) → Option R) : LoopF R := fun m np id _ vs es K => none

theorem eq_law4_SetAll {R : Type} (c_law4_begun : (Bool → Option R) → Option R) (c_byteset_Of : (List Int) → ((List Int) → Option R) → Option R) (c_ref1_Of : (List Int) → ((List Int) → Option R) → Option R) (c_byteset_Range : Int → Int → ((List Int) → Option R) → Option R) (c_ref1_Range : Int → Int → ((List Int) → Option R) → Option R) (c_byteset_Or : (List Int) → (List Int) → ((List Int) → Option R) → Option R) (c_ref1_Or : (List Int) → (List Int) → ((List Int) → Option R) → Option R) (c_byteset_And : (List Int) → (List Int) → ((List Int) → Option R) → Option R) (c_ref1_And : (List Int) → (List Int) → ((List Int) → Option R) → Option R) (c_byteset_Not : (List Int) → ((List Int) → Option R) → Option R) (c_ref1_Not : (List Int) → ((List Int) → Option R) → Option R) (c_byteset_List : (List Int) → ((List Int) → Option R) → Option R) (c_ref1_List : (List Int) → ((List Int) → Option R) → Option R) (c_byteset_Len : (List Int) → (Int → Option R) → Option R) (c_byteset_Less : (List Int) → (List Int) → (Bool → Option R) → Option R) (c_ref1_SetLess : (List Int) → (List Int) → (Bool → Option R) → Option R) (c_byteset_Has : (List Int) → Int → (Bool → Option R) → Option R) (c_ref1_Has : (List Int) → Int → (Bool → Option R) → Option R) (v1 : (List Int)) (v2 : (List Int)) (v3 : (List Int)) (v4 : Int) (v5 : Int) (K : S → List Ent → Option R) :
    runK C_law4_SetAll raw (cf_law4_SetAll c_law4_begun c_byteset_Of c_ref1_Of c_byteset_Range c_ref1_Range c_byteset_Or c_ref1_Or c_byteset_And c_ref1_And c_byteset_Not c_ref1_Not c_byteset_List c_ref1_List c_byteset_Len c_byteset_Less c_ref1_SetLess c_byteset_Has c_ref1_Has) (lf_law4_SetAll c_law4_begun c_byteset_Of c_ref1_Of c_byteset_Range c_ref1_Range c_byteset_Or c_ref1_Or c_byteset_And c_ref1_And c_byteset_Not c_ref1_Not c_byteset_List c_ref1_List c_byteset_Len c_byteset_Less c_ref1_SetLess c_byteset_Has c_ref1_Has) 3 [.arr 4 (.int .u64) v1, .arr 4 (.int .u64) v2, .sl (.int .u8) v3, .int .u8 v4, .int .u8 v5] [] K =
      law4_SetAll_b c_law4_begun c_byteset_Of c_ref1_Of c_byteset_Range c_ref1_Range c_byteset_Or c_ref1_Or c_byteset_And c_ref1_And c_byteset_Not c_ref1_Not c_byteset_List c_ref1_List c_byteset_Len c_byteset_Less c_ref1_SetLess c_byteset_Has c_ref1_Has v1 v2 v3 v4 v5 (fun (r0 : Bool) => K (.bool r0) []) := by kernel_rfl

noncomputable def C_ref1_alike : Ctx := { P := Tryd.prog, mv := [], glob := glob, live := fun n => look n [(2, [0, 1, 2, 7])], out := fun n => look n [(2, [6])], frz := fun n => look n [(2, [])], bef := fun n => look n [(4, [0, 0, 3, 7, 0, 31, 0, 0, 192, 448, 0, 2047, 4095])] }

def cf_ref1_alike {R : Type} (c_ref1_Has : (List Int) → Int → (Bool → Option R) → Option R) (l_2 : (List (List Int)) → Int → Int → (Bool → Option R) → (Option R) → Int → Option R) : CallF R := fun f av es K => iteH (decide (f = 27)) (sh27 c_ref1_Has av es K) (none)

def sl_ref1_alike_l2 {R : Type} (l_2 : (List (List Int)) → Int → Int → (Bool → Option R) → (Option R) → Int → Option R) (vs : List S) (es : List Ent) (K : Out → List S → List Ent → Option R) : Option R :=
  match vs, es with
  | [.sl (.arr 4 (.int .u64)) v4, .int .u8 v5, .int .u8 v6, .int .i64 v7], [] => l_2 v4 v5 v6 (fun (r0 : Bool) => K .ret [.bool r0] []) (K (.exit 0) [.junk] []) v7
  | _, _ => none

def lf_ref1_alike {R : Type} (c_ref1_Has : (List Int) → Int → (Bool → Option R) → Option R) (l_2 : (List (List Int)) → Int → Int → (Bool → Option R) → (Option R) → Int → Option R) : LoopF R := fun m np id _ vs es K => iteH (decide (m = 27) && decide (np = 0)) (iteH (decide (id = 2)) (sl_ref1_alike_l2 l_2 vs es K) (none)) none

theorem eq_ref1_alike_l2 {R : Type} (c_ref1_Has : (List Int) → Int → (Bool → Option R) → Option R) (l_2 : (List (List Int)) → Int → Int → (Bool → Option R) → (Option R) → Int → Option R) (v4 : (List (List Int))) (v5 : Int) (v6 : Int) (v7 : Int) (K : Out → List S → List Ent → Option R) :
    acodeK C_ref1_alike raw (cf_ref1_alike c_ref1_Has l_2) (lf_ref1_alike c_ref1_Has l_2) (loopBody Tryd.prog 38 2) (placeSt 27 0 [0, 1, 2, 7] [.sl (.arr 4 (.int .u64)) v4, .int .u8 v5, .int .u8 v6, .int .i64 v7] []) (loopKont C_ref1_alike (lf_ref1_alike c_ref1_Has l_2) 27 0 2 (loopBody Tryd.prog 38 2) K) =
      ref1_alike_l2_b c_ref1_Has l_2 v4 v5 v6 (fun (r0 : Bool) => K .ret [.bool r0] []) (K (.exit 0) [.junk] []) v7 := by kernel_rfl

theorem eq_ref1_alike {R : Type} (c_ref1_Has : (List Int) → Int → (Bool → Option R) → Option R) (l_2 : (List (List Int)) → Int → Int → (Bool → Option R) → (Option R) → Int → Option R) (v1 : (List (List Int))) (v2 : Int) (v3 : Int) (K : S → List Ent → Option R) :
    runK C_ref1_alike raw (cf_ref1_alike c_ref1_Has l_2) (lf_ref1_alike c_ref1_Has l_2) 38 [.sl (.arr 4 (.int .u64)) v1, .int .u8 v2, .int .u8 v3] [] K =
      ref1_alike_b c_ref1_Has l_2 v1 v2 v3 (fun (r0 : Bool) => K (.bool r0) []) := by kernel_rfl

noncomputable def C_ref1_Classes : Ctx := { P := Tryd.prog, mv := [], glob := glob, live := fun n => look n [(4, [0, 2, 4, 5, 6]), (7, [0, 2, 4, 5, 6, 7])], out := fun n => look n [(4, [2, 4, 5]), (7, [0, 2, 4, 5, 6, 7])], frz := fun n => look n [(4, []), (7, [])], bef := fun n => look n [] }

def cf_ref1_Classes {R : Type} (c_ref1_alike : (List (List Int)) → Int → Int → (Bool → Option R) → Option R) (l_4 : ((List Int) → (List Int) → (List Int) → Option R) → (List (List Int)) → Int → (List Int) → (List Int) → (List Int) → Option R) (l_7 : (List (List Int)) → Int → (List Int) → (List Int) → (List Int) → ((List (List Int)) → Int → Int → (List Int) → (List Int) → (List Int) → Option R) → Int → Option R) : CallF R := fun f av es K => iteH (decide (f = 38)) (sh38 c_ref1_alike av es K) (none)

def sl_ref1_Classes_l4 {R : Type} (l_4 : ((List Int) → (List Int) → (List Int) → Option R) → (List (List Int)) → Int → (List Int) → (List Int) → (List Int) → Option R) (vs : List S) (es : List Ent) (K : Out → List S → List Ent → Option R) : Option R :=
  match vs, es with
  | [.sl (.arr 4 (.int .u64)) v2, .ptr 0 [], .ptr 1 [], .own (.int .i64) 2, .int .i64 v3], [.box (.arr 256 (.int .u8) v4) false, .box (.arr 256 (.int .u8) v5) false, .buf (.int .i64) v6 false] => l_4 (fun (r0 : (List Int)) (r1 : (List Int)) (r2 : (List Int)) => K (.exit 0) [.ptr 0 [], .ptr 1 [], .own (.int .i64) 2] [.box (.arr 256 (.int .u8) r0) false, .box (.arr 256 (.int .u8) r1) false, .buf (.int .i64) r2 false]) v2 v3 v4 v5 v6
  | _, _ => none

def sl_ref1_Classes_l7 {R : Type} (l_7 : (List (List Int)) → Int → (List Int) → (List Int) → (List Int) → ((List (List Int)) → Int → Int → (List Int) → (List Int) → (List Int) → Option R) → Int → Option R) (vs : List S) (es : List Ent) (K : Out → List S → List Ent → Option R) : Option R :=
  match vs, es with
  | [.sl (.arr 4 (.int .u64)) v7, .ptr 0 [], .ptr 1 [], .own (.int .i64) 2, .int .i64 v8, .int .i64 v9], [.box (.arr 256 (.int .u8) v10) false, .box (.arr 256 (.int .u8) v11) false, .buf (.int .i64) v12 false] => l_7 v7 v8 v10 v11 v12 (fun (r0 : (List (List Int))) (r1 : Int) (r2 : Int) (r3 : (List Int)) (r4 : (List Int)) (r5 : (List Int)) => K (.exit 2) [.sl (.arr 4 (.int .u64)) r0, .ptr 0 [], .ptr 1 [], .own (.int .i64) 2, .int .i64 r1, .int .i64 r2] [.box (.arr 256 (.int .u8) r3) false, .box (.arr 256 (.int .u8) r4) false, .buf (.int .i64) r5 false]) v9
  | _, _ => none

def lf_ref1_Classes {R : Type} (c_ref1_alike : (List (List Int)) → Int → Int → (Bool → Option R) → Option R) (l_4 : ((List Int) → (List Int) → (List Int) → Option R) → (List (List Int)) → Int → (List Int) → (List Int) → (List Int) → Option R) (l_7 : (List (List Int)) → Int → (List Int) → (List Int) → (List Int) → ((List (List Int)) → Int → Int → (List Int) → (List Int) → (List Int) → Option R) → Int → Option R) : LoopF R := fun m np id _ vs es K => iteH (decide (m = 45) && decide (np = 0)) (iteH (decide (id = 4)) (sl_ref1_Classes_l4 l_4 vs es K) (iteH (decide (id = 7)) (sl_ref1_Classes_l7 l_7 vs es K) (none))) none

theorem eq_ref1_Classes_l4 {R : Type} (c_ref1_alike : (List (List Int)) → Int → Int → (Bool → Option R) → Option R) (l_4 : ((List Int) → (List Int) → (List Int) → Option R) → (List (List Int)) → Int → (List Int) → (List Int) → (List Int) → Option R) (l_7 : (List (List Int)) → Int → (List Int) → (List Int) → (List Int) → ((List (List Int)) → Int → Int → (List Int) → (List Int) → (List Int) → Option R) → Int → Option R) (v2 : (List (List Int))) (v3 : Int) (v4 : (List Int)) (v5 : (List Int)) (v6 : (List Int)) (K : Out → List S → List Ent → Option R) :
    acodeK C_ref1_Classes raw (cf_ref1_Classes c_ref1_alike l_4 l_7) (lf_ref1_Classes c_ref1_alike l_4 l_7) (loopBody Tryd.prog 37 4) (placeSt 45 0 [0, 2, 4, 5, 6] [.sl (.arr 4 (.int .u64)) v2, .ptr 0 [], .ptr 1 [], .own (.int .i64) 2, .int .i64 v3] [.box (.arr 256 (.int .u8) v4) false, .box (.arr 256 (.int .u8) v5) false, .buf (.int .i64) v6 false]) (loopKont C_ref1_Classes (lf_ref1_Classes c_ref1_alike l_4 l_7) 45 0 4 (loopBody Tryd.prog 37 4) K) =
      ref1_Classes_l4_b c_ref1_alike l_4 l_7 (fun (r0 : (List Int)) (r1 : (List Int)) (r2 : (List Int)) => K (.exit 0) [.ptr 0 [], .ptr 1 [], .own (.int .i64) 2] [.box (.arr 256 (.int .u8) r0) false, .box (.arr 256 (.int .u8) r1) false, .buf (.int .i64) r2 false]) v2 v3 v4 v5 v6 := by kernel_rfl

theorem eq_ref1_Classes_l7 {R : Type} (c_ref1_alike : (List (List Int)) → Int → Int → (Bool → Option R) → Option R) (l_4 : ((List Int) → (List Int) → (List Int) → Option R) → (List (List Int)) → Int → (List Int) → (List Int) → (List Int) → Option R) (l_7 : (List (List Int)) → Int → (List Int) → (List Int) → (List Int) → ((List (List Int)) → Int → Int → (List Int) → (List Int) → (List Int) → Option R) → Int → Option R) (v7 : (List (List Int))) (v8 : Int) (v9 : Int) (v10 : (List Int)) (v11 : (List Int)) (v12 : (List Int)) (K : Out → List S → List Ent → Option R) :
    acodeK C_ref1_Classes raw (cf_ref1_Classes c_ref1_alike l_4 l_7) (lf_ref1_Classes c_ref1_alike l_4 l_7) (loopBody Tryd.prog 37 7) (placeSt 45 0 [0, 2, 4, 5, 6, 7] [.sl (.arr 4 (.int .u64)) v7, .ptr 0 [], .ptr 1 [], .own (.int .i64) 2, .int .i64 v8, .int .i64 v9] [.box (.arr 256 (.int .u8) v10) false, .box (.arr 256 (.int .u8) v11) false, .buf (.int .i64) v12 false]) (loopKont C_ref1_Classes (lf_ref1_Classes c_ref1_alike l_4 l_7) 45 0 7 (loopBody Tryd.prog 37 7) K) =
      ref1_Classes_l7_b c_ref1_alike l_4 l_7 v7 v8 v10 v11 v12 (fun (r0 : (List (List Int))) (r1 : Int) (r2 : Int) (r3 : (List Int)) (r4 : (List Int)) (r5 : (List Int)) => K (.exit 2) [.sl (.arr 4 (.int .u64)) r0, .ptr 0 [], .ptr 1 [], .own (.int .i64) 2, .int .i64 r1, .int .i64 r2] [.box (.arr 256 (.int .u8) r3) false, .box (.arr 256 (.int .u8) r4) false, .buf (.int .i64) r5 false]) v9 := by kernel_rfl

theorem eq_ref1_Classes {R : Type} (c_ref1_alike : (List (List Int)) → Int → Int → (Bool → Option R) → Option R) (l_4 : ((List Int) → (List Int) → (List Int) → Option R) → (List (List Int)) → Int → (List Int) → (List Int) → (List Int) → Option R) (l_7 : (List (List Int)) → Int → (List Int) → (List Int) → (List Int) → ((List (List Int)) → Int → Int → (List Int) → (List Int) → (List Int) → Option R) → Int → Option R) (v1 : (List (List Int))) (K : S → List Ent → Option R) :
    runK C_ref1_Classes raw (cf_ref1_Classes c_ref1_alike l_4 l_7) (lf_ref1_Classes c_ref1_alike l_4 l_7) 37 [.sl (.arr 4 (.int .u64)) v1] [] K =
      ref1_Classes_b c_ref1_alike l_4 l_7 v1 (fun (r0 : (List Int)) (r1 : Int) => K (.tup [.arr 256 (.int .u8) r0, .int .i64 r1]) []) := by kernel_rfl

noncomputable def C_ref1_Parts : Ctx := { P := Tryd.prog, mv := [], glob := glob, live := fun n => look n [(4, [3, 5, 6])], out := fun n => look n [(4, [5])], frz := fun n => look n [(4, [])], bef := fun n => look n [(6, [0, 0, 2, 6, 0, 0, 32, 96, 240, 496, 0, 1024, 3072, 7168, 16368, 32767, 65535])] }

def cf_ref1_Parts {R : Type} (c_ref1_Classes : (List (List Int)) → ((List Int) → Int → Option R) → Option R) (c_ref1_Of : (List Int) → ((List Int) → Option R) → Option R) (c_ref1_Or : (List Int) → (List Int) → ((List Int) → Option R) → Option R) (l_4 : (List Int) → ((List (List Int)) → Option R) → Int → (List (List Int)) → Option R) : CallF R := fun f av es K => iteH (decide (f = 37)) (sh37 c_ref1_Classes av es K) (iteH (decide (f = 12)) (sh12 c_ref1_Of av es K) (iteH (decide (f = 16)) (sh16 c_ref1_Or av es K) (none)))

def sl_ref1_Parts_l4 {R : Type} (l_4 : (List Int) → ((List (List Int)) → Option R) → Int → (List (List Int)) → Option R) (vs : List S) (es : List Ent) (K : Out → List S → List Ent → Option R) : Option R :=
  match vs, es with
  | [.ptr 0 [], .own (.arr 4 (.int .u64)) 1, .int .i64 v4], [.box (.arr 256 (.int .u8) v5) false, .buf (.arr 4 (.int .u64)) v6 false] => l_4 v5 (fun (r0 : (List (List Int))) => K (.exit 0) [.own (.arr 4 (.int .u64)) 0] [.buf (.arr 4 (.int .u64)) r0 false]) v4 v6
  | _, _ => none

def lf_ref1_Parts {R : Type} (c_ref1_Classes : (List (List Int)) → ((List Int) → Int → Option R) → Option R) (c_ref1_Of : (List Int) → ((List Int) → Option R) → Option R) (c_ref1_Or : (List Int) → (List Int) → ((List Int) → Option R) → Option R) (l_4 : (List Int) → ((List (List Int)) → Option R) → Int → (List (List Int)) → Option R) : LoopF R := fun m np id _ vs es K => iteH (decide (m = 35) && decide (np = 0)) (iteH (decide (id = 4)) (sl_ref1_Parts_l4 l_4 vs es K) (none)) none

theorem eq_ref1_Parts_l4 {R : Type} (c_ref1_Classes : (List (List Int)) → ((List Int) → Int → Option R) → Option R) (c_ref1_Of : (List Int) → ((List Int) → Option R) → Option R) (c_ref1_Or : (List Int) → (List Int) → ((List Int) → Option R) → Option R) (l_4 : (List Int) → ((List (List Int)) → Option R) → Int → (List (List Int)) → Option R) (v4 : Int) (v5 : (List Int)) (v6 : (List (List Int))) (K : Out → List S → List Ent → Option R) :
    acodeK C_ref1_Parts raw (cf_ref1_Parts c_ref1_Classes c_ref1_Of c_ref1_Or l_4) (lf_ref1_Parts c_ref1_Classes c_ref1_Of c_ref1_Or l_4) (loopBody Tryd.prog 29 4) (placeSt 35 0 [3, 5, 6] [.ptr 0 [], .own (.arr 4 (.int .u64)) 1, .int .i64 v4] [.box (.arr 256 (.int .u8) v5) false, .buf (.arr 4 (.int .u64)) v6 false]) (loopKont C_ref1_Parts (lf_ref1_Parts c_ref1_Classes c_ref1_Of c_ref1_Or l_4) 35 0 4 (loopBody Tryd.prog 29 4) K) =
      ref1_Parts_l4_b c_ref1_Classes c_ref1_Of c_ref1_Or l_4 v5 (fun (r0 : (List (List Int))) => K (.exit 0) [.own (.arr 4 (.int .u64)) 0] [.buf (.arr 4 (.int .u64)) r0 false]) v4 v6 := by kernel_rfl

theorem eq_ref1_Parts {R : Type} (c_ref1_Classes : (List (List Int)) → ((List Int) → Int → Option R) → Option R) (c_ref1_Of : (List Int) → ((List Int) → Option R) → Option R) (c_ref1_Or : (List Int) → (List Int) → ((List Int) → Option R) → Option R) (l_4 : (List Int) → ((List (List Int)) → Option R) → Int → (List (List Int)) → Option R) (v1 : (List (List Int))) (K : S → List Ent → Option R) :
    runK C_ref1_Parts raw (cf_ref1_Parts c_ref1_Classes c_ref1_Of c_ref1_Or l_4) (lf_ref1_Parts c_ref1_Classes c_ref1_Of c_ref1_Or l_4) 29 [.sl (.arr 4 (.int .u64)) v1] [] K =
      ref1_Parts_b c_ref1_Classes c_ref1_Of c_ref1_Or l_4 v1 (fun (r0 : (List (List Int))) => K (.own (.arr 4 (.int .u64)) 0) [.buf (.arr 4 (.int .u64)) r0 false]) := by kernel_rfl

noncomputable def C_law4_SetParts : Ctx := { P := Tryd.prog, mv := [], glob := glob, live := fun n => look n [(9, [3, 4, 5])], out := fun n => look n [(9, [2])], frz := fun n => look n [(9, [])], bef := fun n => look n [(11, [0, 0, 3, 7, 0, 0, 48, 112, 255])] }

def cf_law4_SetParts {R : Type} (c_law4_begun : (Bool → Option R) → Option R) (c_byteset_Parts : (List (List Int)) → ((List (List Int)) → Option R) → Option R) (c_ref1_Parts : (List (List Int)) → ((List (List Int)) → Option R) → Option R) (l_9 : (List (List Int)) → (List (List Int)) → (Bool → Option R) → (Option R) → Int → Option R) : CallF R := fun f av es K => iteH (decide (f = 10)) (sh10 c_law4_begun av es K) (iteH (decide (f = 28)) (sh28 c_byteset_Parts av es K) (iteH (decide (f = 29)) (sh29 c_ref1_Parts av es K) (none)))

def sl_law4_SetParts_l9 {R : Type} (l_9 : (List (List Int)) → (List (List Int)) → (Bool → Option R) → (Option R) → Int → Option R) (vs : List S) (es : List Ent) (K : Out → List S → List Ent → Option R) : Option R :=
  match vs, es with
  | [.own (.arr 4 (.int .u64)) 0, .own (.arr 4 (.int .u64)) 1, .int .i64 v5], [.buf (.arr 4 (.int .u64)) v6 false, .buf (.arr 4 (.int .u64)) v7 false] => l_9 v6 v7 (fun (r0 : Bool) => K .ret [.bool r0] []) (K (.exit 0) [.junk] []) v5
  | _, _ => none

def lf_law4_SetParts {R : Type} (c_law4_begun : (Bool → Option R) → Option R) (c_byteset_Parts : (List (List Int)) → ((List (List Int)) → Option R) → Option R) (c_ref1_Parts : (List (List Int)) → ((List (List Int)) → Option R) → Option R) (l_9 : (List (List Int)) → (List (List Int)) → (Bool → Option R) → (Option R) → Int → Option R) : LoopF R := fun m np id _ vs es K => iteH (decide (m = 35) && decide (np = 0)) (iteH (decide (id = 9)) (sl_law4_SetParts_l9 l_9 vs es K) (none)) none

theorem eq_law4_SetParts_l9 {R : Type} (c_law4_begun : (Bool → Option R) → Option R) (c_byteset_Parts : (List (List Int)) → ((List (List Int)) → Option R) → Option R) (c_ref1_Parts : (List (List Int)) → ((List (List Int)) → Option R) → Option R) (l_9 : (List (List Int)) → (List (List Int)) → (Bool → Option R) → (Option R) → Int → Option R) (v5 : Int) (v6 : (List (List Int))) (v7 : (List (List Int))) (K : Out → List S → List Ent → Option R) :
    acodeK C_law4_SetParts raw (cf_law4_SetParts c_law4_begun c_byteset_Parts c_ref1_Parts l_9) (lf_law4_SetParts c_law4_begun c_byteset_Parts c_ref1_Parts l_9) (loopBody Tryd.prog 4 9) (placeSt 35 0 [3, 4, 5] [.own (.arr 4 (.int .u64)) 0, .own (.arr 4 (.int .u64)) 1, .int .i64 v5] [.buf (.arr 4 (.int .u64)) v6 false, .buf (.arr 4 (.int .u64)) v7 false]) (loopKont C_law4_SetParts (lf_law4_SetParts c_law4_begun c_byteset_Parts c_ref1_Parts l_9) 35 0 9 (loopBody Tryd.prog 4 9) K) =
      law4_SetParts_l9_b c_law4_begun c_byteset_Parts c_ref1_Parts l_9 v6 v7 (fun (r0 : Bool) => K .ret [.bool r0] []) (K (.exit 0) [.junk] []) v5 := by kernel_rfl

theorem eq_law4_SetParts {R : Type} (c_law4_begun : (Bool → Option R) → Option R) (c_byteset_Parts : (List (List Int)) → ((List (List Int)) → Option R) → Option R) (c_ref1_Parts : (List (List Int)) → ((List (List Int)) → Option R) → Option R) (l_9 : (List (List Int)) → (List (List Int)) → (Bool → Option R) → (Option R) → Int → Option R) (v1 : (List (List Int))) (K : S → List Ent → Option R) :
    runK C_law4_SetParts raw (cf_law4_SetParts c_law4_begun c_byteset_Parts c_ref1_Parts l_9) (lf_law4_SetParts c_law4_begun c_byteset_Parts c_ref1_Parts l_9) 4 [.sl (.arr 4 (.int .u64)) v1] [] K =
      law4_SetParts_b c_law4_begun c_byteset_Parts c_ref1_Parts l_9 v1 (fun (r0 : Bool) => K (.bool r0) []) := by kernel_rfl

noncomputable def C_law4_SetWhole : Ctx := { P := Tryd.prog, mv := [], glob := glob, live := fun n => look n [(9, [0, 3, 4, 5, 6]), (15, [0, 3, 4, 5, 6, 7])], out := fun n => look n [(9, [2, 4, 5]), (15, [0, 2, 3, 4, 5, 6])], frz := fun n => look n [(9, []), (15, [])], bef := fun n => look n [(11, [0, 0, 3, 7, 15, 31, 63, 127, 255, 511, 1023, 1023, 3071, 8191, 16383, 32767, 65535, 131071, 1023, 1023, 787455, 1836031, 3997695, 8191999, 16580607, 33554431, 67108863, 134217727]), (13, [0, 0, 0, 6, 14, 31, 0, 0, 0, 384, 896, 1983, 4095, 4031, 16383]), (17, [0, 0, 3, 7, 0, 0, 48, 112, 255, 0, 1023]), (18, [0, 0, 0, 6, 14, 31, 63, 127, 255, 511, 1023])] }

def cf_law4_SetWhole {R : Type} (c_law4_begun : (Bool → Option R) → Option R) (c_byteset_Parts : (List (List Int)) → ((List (List Int)) → Option R) → Option R) (c_byteset_Len : (List Int) → (Int → Option R) → Option R) (c_byteset_List : (List Int) → ((List Int) → Option R) → Option R) (c_byteset_Or : (List Int) → (List Int) → ((List Int) → Option R) → Option R) (c_byteset_And : (List Int) → (List Int) → ((List Int) → Option R) → Option R) (l_9 : (Bool → Int → (List Int) → Option R) → (Int → (List Int) → Option R) → (List (List Int)) → Int → Int → (List (List Int)) → (List Int) → Option R) (l_15 : (List (List Int)) → Int → Int → (List (List Int)) → (List Int) → ((List (List Int)) → Bool → Int → Int → (List (List Int)) → (List Int) → Option R) → ((List (List Int)) → Int → Int → (List (List Int)) → (List Int) → Option R) → Int → Option R) : CallF R := fun f av es K => iteH (decide (f = 10)) (sh10 c_law4_begun av es K) (iteH (decide (f = 28)) (sh28 c_byteset_Parts av es K) (iteH (decide (f = 23)) (sh23 c_byteset_Len av es K) (iteH (decide (f = 21)) (sh21 c_byteset_List av es K) (iteH (decide (f = 15)) (sh15 c_byteset_Or av es K) (iteH (decide (f = 17)) (sh17 c_byteset_And av es K) (none))))))

def sl_law4_SetWhole_l9 {R : Type} (l_9 : (Bool → Int → (List Int) → Option R) → (Int → (List Int) → Option R) → (List (List Int)) → Int → Int → (List (List Int)) → (List Int) → Option R) (vs : List S) (es : List Ent) (K : Out → List S → List Ent → Option R) : Option R :=
  match vs, es with
  | [.sl (.arr 4 (.int .u64)) v4, .own (.arr 4 (.int .u64)) 0, .ptr 1 [], .int .i64 v5, .int .i64 v6], [.buf (.arr 4 (.int .u64)) v7 false, .box (.arr 4 (.int .u64) v8) false] => l_9 (fun (r0 : Bool) (r1 : Int) (r2 : (List Int)) => K .ret [.bool r0, .ptr 0 [], .int .i64 r1] [.box (.arr 4 (.int .u64) r2) false]) (fun (r0 : Int) (r1 : (List Int)) => K (.exit 0) [.junk, .ptr 0 [], .int .i64 r0] [.box (.arr 4 (.int .u64) r1) false]) v4 v5 v6 v7 v8
  | _, _ => none

def sl_law4_SetWhole_l15 {R : Type} (l_15 : (List (List Int)) → Int → Int → (List (List Int)) → (List Int) → ((List (List Int)) → Bool → Int → Int → (List (List Int)) → (List Int) → Option R) → ((List (List Int)) → Int → Int → (List (List Int)) → (List Int) → Option R) → Int → Option R) (vs : List S) (es : List Ent) (K : Out → List S → List Ent → Option R) : Option R :=
  match vs, es with
  | [.sl (.arr 4 (.int .u64)) v12, .own (.arr 4 (.int .u64)) 0, .ptr 1 [], .int .i64 v13, .int .i64 v14, .int .i64 v15], [.buf (.arr 4 (.int .u64)) v16 false, .box (.arr 4 (.int .u64) v17) false] => l_15 v12 v13 v14 v16 v17 (fun (r0 : (List (List Int))) (r1 : Bool) (r2 : Int) (r3 : Int) (r4 : (List (List Int))) (r5 : (List Int)) => K .ret [.sl (.arr 4 (.int .u64)) r0, .bool r1, .own (.arr 4 (.int .u64)) 0, .ptr 1 [], .int .i64 r2, .int .i64 r3] [.buf (.arr 4 (.int .u64)) r4 false, .box (.arr 4 (.int .u64) r5) false]) (fun (r0 : (List (List Int))) (r1 : Int) (r2 : Int) (r3 : (List (List Int))) (r4 : (List Int)) => K (.exit 2) [.sl (.arr 4 (.int .u64)) r0, .junk, .own (.arr 4 (.int .u64)) 0, .ptr 1 [], .int .i64 r1, .int .i64 r2] [.buf (.arr 4 (.int .u64)) r3 false, .box (.arr 4 (.int .u64) r4) false]) v15
  | _, _ => none

def lf_law4_SetWhole {R : Type} (c_law4_begun : (Bool → Option R) → Option R) (c_byteset_Parts : (List (List Int)) → ((List (List Int)) → Option R) → Option R) (c_byteset_Len : (List Int) → (Int → Option R) → Option R) (c_byteset_List : (List Int) → ((List Int) → Option R) → Option R) (c_byteset_Or : (List Int) → (List Int) → ((List Int) → Option R) → Option R) (c_byteset_And : (List Int) → (List Int) → ((List Int) → Option R) → Option R) (l_9 : (Bool → Int → (List Int) → Option R) → (Int → (List Int) → Option R) → (List (List Int)) → Int → Int → (List (List Int)) → (List Int) → Option R) (l_15 : (List (List Int)) → Int → Int → (List (List Int)) → (List Int) → ((List (List Int)) → Bool → Int → Int → (List (List Int)) → (List Int) → Option R) → ((List (List Int)) → Int → Int → (List (List Int)) → (List Int) → Option R) → Int → Option R) : LoopF R := fun m np id _ vs es K => iteH (decide (m = 96) && decide (np = 0)) (iteH (decide (id = 9)) (sl_law4_SetWhole_l9 l_9 vs es K) (iteH (decide (id = 15)) (sl_law4_SetWhole_l15 l_15 vs es K) (none))) none

theorem eq_law4_SetWhole_l9 {R : Type} (c_law4_begun : (Bool → Option R) → Option R) (c_byteset_Parts : (List (List Int)) → ((List (List Int)) → Option R) → Option R) (c_byteset_Len : (List Int) → (Int → Option R) → Option R) (c_byteset_List : (List Int) → ((List Int) → Option R) → Option R) (c_byteset_Or : (List Int) → (List Int) → ((List Int) → Option R) → Option R) (c_byteset_And : (List Int) → (List Int) → ((List Int) → Option R) → Option R) (l_9 : (Bool → Int → (List Int) → Option R) → (Int → (List Int) → Option R) → (List (List Int)) → Int → Int → (List (List Int)) → (List Int) → Option R) (l_15 : (List (List Int)) → Int → Int → (List (List Int)) → (List Int) → ((List (List Int)) → Bool → Int → Int → (List (List Int)) → (List Int) → Option R) → ((List (List Int)) → Int → Int → (List (List Int)) → (List Int) → Option R) → Int → Option R) (v4 : (List (List Int))) (v5 : Int) (v6 : Int) (v7 : (List (List Int))) (v8 : (List Int)) (K : Out → List S → List Ent → Option R) :
    acodeK C_law4_SetWhole raw (cf_law4_SetWhole c_law4_begun c_byteset_Parts c_byteset_Len c_byteset_List c_byteset_Or c_byteset_And l_9 l_15) (lf_law4_SetWhole c_law4_begun c_byteset_Parts c_byteset_Len c_byteset_List c_byteset_Or c_byteset_And l_9 l_15) (loopBody Tryd.prog 6 9) (placeSt 96 0 [0, 3, 4, 5, 6] [.sl (.arr 4 (.int .u64)) v4, .own (.arr 4 (.int .u64)) 0, .ptr 1 [], .int .i64 v5, .int .i64 v6] [.buf (.arr 4 (.int .u64)) v7 false, .box (.arr 4 (.int .u64) v8) false]) (loopKont C_law4_SetWhole (lf_law4_SetWhole c_law4_begun c_byteset_Parts c_byteset_Len c_byteset_List c_byteset_Or c_byteset_And l_9 l_15) 96 0 9 (loopBody Tryd.prog 6 9) K) =
      law4_SetWhole_l9_b c_law4_begun c_byteset_Parts c_byteset_Len c_byteset_List c_byteset_Or c_byteset_And l_9 l_15 (fun (r0 : Bool) (r1 : Int) (r2 : (List Int)) => K .ret [.bool r0, .ptr 0 [], .int .i64 r1] [.box (.arr 4 (.int .u64) r2) false]) (fun (r0 : Int) (r1 : (List Int)) => K (.exit 0) [.junk, .ptr 0 [], .int .i64 r0] [.box (.arr 4 (.int .u64) r1) false]) v4 v5 v6 v7 v8 := by kernel_rfl

theorem eq_law4_SetWhole_l15 {R : Type} (c_law4_begun : (Bool → Option R) → Option R) (c_byteset_Parts : (List (List Int)) → ((List (List Int)) → Option R) → Option R) (c_byteset_Len : (List Int) → (Int → Option R) → Option R) (c_byteset_List : (List Int) → ((List Int) → Option R) → Option R) (c_byteset_Or : (List Int) → (List Int) → ((List Int) → Option R) → Option R) (c_byteset_And : (List Int) → (List Int) → ((List Int) → Option R) → Option R) (l_9 : (Bool → Int → (List Int) → Option R) → (Int → (List Int) → Option R) → (List (List Int)) → Int → Int → (List (List Int)) → (List Int) → Option R) (l_15 : (List (List Int)) → Int → Int → (List (List Int)) → (List Int) → ((List (List Int)) → Bool → Int → Int → (List (List Int)) → (List Int) → Option R) → ((List (List Int)) → Int → Int → (List (List Int)) → (List Int) → Option R) → Int → Option R) (v12 : (List (List Int))) (v13 : Int) (v14 : Int) (v15 : Int) (v16 : (List (List Int))) (v17 : (List Int)) (K : Out → List S → List Ent → Option R) :
    acodeK C_law4_SetWhole raw (cf_law4_SetWhole c_law4_begun c_byteset_Parts c_byteset_Len c_byteset_List c_byteset_Or c_byteset_And l_9 l_15) (lf_law4_SetWhole c_law4_begun c_byteset_Parts c_byteset_Len c_byteset_List c_byteset_Or c_byteset_And l_9 l_15) (loopBody Tryd.prog 6 15) (placeSt 96 0 [0, 3, 4, 5, 6, 7] [.sl (.arr 4 (.int .u64)) v12, .own (.arr 4 (.int .u64)) 0, .ptr 1 [], .int .i64 v13, .int .i64 v14, .int .i64 v15] [.buf (.arr 4 (.int .u64)) v16 false, .box (.arr 4 (.int .u64) v17) false]) (loopKont C_law4_SetWhole (lf_law4_SetWhole c_law4_begun c_byteset_Parts c_byteset_Len c_byteset_List c_byteset_Or c_byteset_And l_9 l_15) 96 0 15 (loopBody Tryd.prog 6 15) K) =
      law4_SetWhole_l15_b c_law4_begun c_byteset_Parts c_byteset_Len c_byteset_List c_byteset_Or c_byteset_And l_9 l_15 v12 v13 v14 v16 v17 (fun (r0 : (List (List Int))) (r1 : Bool) (r2 : Int) (r3 : Int) (r4 : (List (List Int))) (r5 : (List Int)) => K .ret [.sl (.arr 4 (.int .u64)) r0, .bool r1, .own (.arr 4 (.int .u64)) 0, .ptr 1 [], .int .i64 r2, .int .i64 r3] [.buf (.arr 4 (.int .u64)) r4 false, .box (.arr 4 (.int .u64) r5) false]) (fun (r0 : (List (List Int))) (r1 : Int) (r2 : Int) (r3 : (List (List Int))) (r4 : (List Int)) => K (.exit 2) [.sl (.arr 4 (.int .u64)) r0, .junk, .own (.arr 4 (.int .u64)) 0, .ptr 1 [], .int .i64 r1, .int .i64 r2] [.buf (.arr 4 (.int .u64)) r3 false, .box (.arr 4 (.int .u64) r4) false]) v15 := by kernel_rfl

theorem eq_law4_SetWhole {R : Type} (c_law4_begun : (Bool → Option R) → Option R) (c_byteset_Parts : (List (List Int)) → ((List (List Int)) → Option R) → Option R) (c_byteset_Len : (List Int) → (Int → Option R) → Option R) (c_byteset_List : (List Int) → ((List Int) → Option R) → Option R) (c_byteset_Or : (List Int) → (List Int) → ((List Int) → Option R) → Option R) (c_byteset_And : (List Int) → (List Int) → ((List Int) → Option R) → Option R) (l_9 : (Bool → Int → (List Int) → Option R) → (Int → (List Int) → Option R) → (List (List Int)) → Int → Int → (List (List Int)) → (List Int) → Option R) (l_15 : (List (List Int)) → Int → Int → (List (List Int)) → (List Int) → ((List (List Int)) → Bool → Int → Int → (List (List Int)) → (List Int) → Option R) → ((List (List Int)) → Int → Int → (List (List Int)) → (List Int) → Option R) → Int → Option R) (v1 : (List (List Int))) (K : S → List Ent → Option R) :
    runK C_law4_SetWhole raw (cf_law4_SetWhole c_law4_begun c_byteset_Parts c_byteset_Len c_byteset_List c_byteset_Or c_byteset_And l_9 l_15) (lf_law4_SetWhole c_law4_begun c_byteset_Parts c_byteset_Len c_byteset_List c_byteset_Or c_byteset_And l_9 l_15) 6 [.sl (.arr 4 (.int .u64)) v1] [] K =
      law4_SetWhole_b c_law4_begun c_byteset_Parts c_byteset_Len c_byteset_List c_byteset_Or c_byteset_And l_9 l_15 v1 (fun (r0 : Bool) => K (.bool r0) []) := by kernel_rfl

noncomputable def C_law4_SetRanges : Ctx := { P := Tryd.prog, mv := [], glob := glob, live := fun n => look n [], out := fun n => look n [], frz := fun n => look n [], bef := fun n => look n [] }

def cf_law4_SetRanges {R : Type} (c_law4_begun : (Bool → Option R) → Option R) (c_byteset_Range : Int → Int → ((List Int) → Option R) → Option R) (c_byteset_List : (List Int) → ((List Int) → Option R) → Option R) (c_byteset_Has : (List Int) → Int → (Bool → Option R) → Option R) (c_byteset_Len : (List Int) → (Int → Option R) → Option R) (c_byteset_Not : (List Int) → ((List Int) → Option R) → Option R) : CallF R := fun f av es K => iteH (decide (f = 10)) (sh10 c_law4_begun av es K) (iteH (decide (f = 13)) (sh13 c_byteset_Range av es K) (iteH (decide (f = 21)) (sh21 c_byteset_List av es K) (iteH (decide (f = 26)) (sh26 c_byteset_Has av es K) (iteH (decide (f = 23)) (sh23 c_byteset_Len av es K) (iteH (decide (f = 19)) (sh19 c_byteset_Not av es K) (none))))))

def lf_law4_SetRanges {R : Type} (c_law4_begun : (Bool → Option R) → Option R) (c_byteset_Range : Int → Int → ((List Int) → Option R) → Option R) (c_byteset_List : (List Int) → ((List Int) → Option R) → Option R) (c_byteset_Has : (List Int) → Int → (Bool → Option R) → Option R) (c_byteset_Len : (List Int) → (Int → Option R) → Option R) (c_byteset_Not : (List Int) → ((List Int) → Option R) → Option R) : LoopF R := fun m np id _ vs es K => none

theorem eq_law4_SetRanges {R : Type} (c_law4_begun : (Bool → Option R) → Option R) (c_byteset_Range : Int → Int → ((List Int) → Option R) → Option R) (c_byteset_List : (List Int) → ((List Int) → Option R) → Option R) (c_byteset_Has : (List Int) → Int → (Bool → Option R) → Option R) (c_byteset_Len : (List Int) → (Int → Option R) → Option R) (c_byteset_Not : (List Int) → ((List Int) → Option R) → Option R) (v1 : Int) (v2 : Int) (v3 : Int) (K : S → List Ent → Option R) :
    runK C_law4_SetRanges raw (cf_law4_SetRanges c_law4_begun c_byteset_Range c_byteset_List c_byteset_Has c_byteset_Len c_byteset_Not) (lf_law4_SetRanges c_law4_begun c_byteset_Range c_byteset_List c_byteset_Has c_byteset_Len c_byteset_Not) 7 [.int .u8 v1, .int .u8 v2, .int .u8 v3] [] K =
      law4_SetRanges_b c_law4_begun c_byteset_Range c_byteset_List c_byteset_Has c_byteset_Len c_byteset_Not v1 v2 v3 (fun (r0 : Bool) => K (.bool r0) []) := by kernel_rfl

noncomputable def C_law4_SetFirst : Ctx := { P := Tryd.prog, mv := [], glob := glob, live := fun n => look n [], out := fun n => look n [], frz := fun n => look n [], bef := fun n => look n [(3, [0, 0, 2, 7, 0, 31]), (4, [0, 0, 2, 7, 0, 31]), (5, [0, 1, 0, 7, 15, 31]), (6, [0, 1, 3, 7, 15, 31, 63, 127, 255, 511, 1023, 255, 2303, 6399, 16383, 32767, 65535, 131071])] }

def cf_law4_SetFirst {R : Type} (c_law4_begun : (Bool → Option R) → Option R) (c_byteset_Not : (List Int) → ((List Int) → Option R) → Option R) (c_byteset_And : (List Int) → (List Int) → ((List Int) → Option R) → Option R) (c_byteset_List : (List Int) → ((List Int) → Option R) → Option R) (c_byteset_Less : (List Int) → (List Int) → (Bool → Option R) → Option R) : CallF R := fun f av es K => iteH (decide (f = 10)) (sh10 c_law4_begun av es K) (iteH (decide (f = 19)) (sh19 c_byteset_Not av es K) (iteH (decide (f = 17)) (sh17 c_byteset_And av es K) (iteH (decide (f = 21)) (sh21 c_byteset_List av es K) (iteH (decide (f = 24)) (sh24 c_byteset_Less av es K) (none)))))

def lf_law4_SetFirst {R : Type} (c_law4_begun : (Bool → Option R) → Option R) (c_byteset_Not : (List Int) → ((List Int) → Option R) → Option R) (c_byteset_And : (List Int) → (List Int) → ((List Int) → Option R) → Option R) (c_byteset_List : (List Int) → ((List Int) → Option R) → Option R) (c_byteset_Less : (List Int) → (List Int) → (Bool → Option R) → Option R) : LoopF R := fun m np id _ vs es K => none

theorem eq_law4_SetFirst {R : Type} (c_law4_begun : (Bool → Option R) → Option R) (c_byteset_Not : (List Int) → ((List Int) → Option R) → Option R) (c_byteset_And : (List Int) → (List Int) → ((List Int) → Option R) → Option R) (c_byteset_List : (List Int) → ((List Int) → Option R) → Option R) (c_byteset_Less : (List Int) → (List Int) → (Bool → Option R) → Option R) (v1 : (List Int)) (v2 : (List Int)) (K : S → List Ent → Option R) :
    runK C_law4_SetFirst raw (cf_law4_SetFirst c_law4_begun c_byteset_Not c_byteset_And c_byteset_List c_byteset_Less) (lf_law4_SetFirst c_law4_begun c_byteset_Not c_byteset_And c_byteset_List c_byteset_Less) 8 [.arr 4 (.int .u64) v1, .arr 4 (.int .u64) v2] [] K =
      law4_SetFirst_b c_law4_begun c_byteset_Not c_byteset_And c_byteset_List c_byteset_Less v1 v2 (fun (r0 : Bool) => K (.bool r0) []) := by kernel_rfl

noncomputable def C_law4_SetCoarse : Ctx := { P := Tryd.prog, mv := [], glob := glob, live := fun n => look n [], out := fun n => look n [], frz := fun n => look n [], bef := fun n => look n [(6, [0, 0, 3, 0, 8, 31, 63, 127]), (11, [0, 0, 3, 0, 0, 16, 0, 64, 240, 504, 1016, 2047, 0, 0, 8192, 0, 32768, 122880, 258048, 520192, 1048575, 2097151, 4194303, 8388607])] }

def cf_law4_SetCoarse {R : Type} (c_law4_begun : (Bool → Option R) → Option R) (c_byteset_Parts : (List (List Int)) → ((List (List Int)) → Option R) → Option R) (c_byteset_Not : (List Int) → ((List Int) → Option R) → Option R) : CallF R := fun f av es K => iteH (decide (f = 10)) (sh10 c_law4_begun av es K) (iteH (decide (f = 28)) (sh28 c_byteset_Parts av es K) (iteH (decide (f = 19)) (sh19 c_byteset_Not av es K) (none)))

def lf_law4_SetCoarse {R : Type} (c_law4_begun : (Bool → Option R) → Option R) (c_byteset_Parts : (List (List Int)) → ((List (List Int)) → Option R) → Option R) (c_byteset_Not : (List Int) → ((List Int) → Option R) → Option R) : LoopF R := fun m np id _ vs es K => none

theorem eq_law4_SetCoarse {R : Type} (c_law4_begun : (Bool → Option R) → Option R) (c_byteset_Parts : (List (List Int)) → ((List (List Int)) → Option R) → Option R) (c_byteset_Not : (List Int) → ((List Int) → Option R) → Option R) (v1 : (List (List Int))) (v2 : (List Int)) (v3 : Int) (K : S → List Ent → Option R) :
    runK C_law4_SetCoarse raw (cf_law4_SetCoarse c_law4_begun c_byteset_Parts c_byteset_Not) (lf_law4_SetCoarse c_law4_begun c_byteset_Parts c_byteset_Not) 9 [.sl (.arr 4 (.int .u64)) v1, .arr 4 (.int .u64) v2, .int .u8 v3] [] K =
      law4_SetCoarse_b c_law4_begun c_byteset_Parts c_byteset_Not v1 v2 v3 (fun (r0 : Bool) => K (.bool r0) []) := by kernel_rfl

end
end Go.Ab.T
