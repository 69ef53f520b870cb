/- ShRTB: a part of the proofs of this seat's statements. -/
import Derived.Test.YtlihheeknnnbmaaDoorShRTA

namespace Go.Ab.T

open Go Go.Ab Go.Proofs

set_option maxRecDepth 100000

set_option linter.unusedVariables false

noncomputable section

noncomputable def C_ref1_Of : Ctx := { P := Tryd.prog, mv := [], pu := [], glob := glob, live := fun n => look n [(3, [0, 2, 3, 4])], out := fun n => look n [(3, [2, 3])], frz := fun n => look n [(3, [])], bef := fun n => look n [(5, [0, 0, 3, 7, 15, 31, 63, 0, 0, 384, 896, 1920, 3968, 8191, 16383, 32767])] }

def cf_ref1_Of {R : Type} (l_3 : (List Int) → (List Int) → ((List Int) → (List Int) → Option R) → Int → (List Int) → Option R) : CallF R := fun f av es K => none

def sl_ref1_Of_l3 {R : Type} (l_3 : (List Int) → (List Int) → ((List Int) → (List Int) → Option R) → Int → (List Int) → Option R) (vs : List S) (es : List Ent) (K : Out → List S → List Ent → Option R) : Option R :=
  match vs, es with
  | [.sl (.int .u8) v2, .ptr 0 [], .ptr 1 [], .int .i64 v3], [.box (.arr 4 (.int .u64) v4) false, .box (.arr 4 (.int .u64) v5) false] => l_3 v2 v4 (fun (r0 : (List Int)) (r1 : (List Int)) => K (.exit 0) [.ptr 0 [], .ptr 1 []] [.box (.arr 4 (.int .u64) r0) false, .box (.arr 4 (.int .u64) r1) false]) v3 v5
  | _, _ => none

def lf_ref1_Of {R : Type} (l_3 : (List Int) → (List Int) → ((List Int) → (List Int) → Option R) → Int → (List Int) → Option R) : LoopF R := fun m np id _ vs es K => iteH (decide (m = 27) && decide (np = 0)) (iteH (decide (id = 3)) (sl_ref1_Of_l3 l_3 vs es K) (none)) none

theorem eq_ref1_Of_l3 {R : Type} (l_3 : (List Int) → (List Int) → ((List Int) → (List Int) → Option R) → Int → (List Int) → Option R) (v2 : (List Int)) (v3 : Int) (v4 : (List Int)) (v5 : (List Int)) (K : Out → List S → List Ent → Option R) :
    acodeK C_ref1_Of raw (cf_ref1_Of l_3) (lf_ref1_Of l_3) (loopBody Tryd.prog 20 3) (placeSt 27 0 [0, 2, 3, 4] [.sl (.int .u8) v2, .ptr 0 [], .ptr 1 [], .int .i64 v3] [.box (.arr 4 (.int .u64) v4) false, .box (.arr 4 (.int .u64) v5) false]) (loopKont C_ref1_Of (lf_ref1_Of l_3) 27 0 3 (loopBody Tryd.prog 20 3) K) =
      ref1_Of_l3_b l_3 v2 v4 (fun (r0 : (List Int)) (r1 : (List Int)) => K (.exit 0) [.ptr 0 [], .ptr 1 []] [.box (.arr 4 (.int .u64) r0) false, .box (.arr 4 (.int .u64) r1) false]) v3 v5 := by kernel_rfl

theorem eq_ref1_Of {R : Type} (l_3 : (List Int) → (List Int) → ((List Int) → (List Int) → Option R) → Int → (List Int) → Option R) (v1 : (List Int)) (K : S → List Ent → Option R) :
    runK C_ref1_Of raw (cf_ref1_Of l_3) (lf_ref1_Of l_3) 20 [.sl (.int .u8) v1] [] K =
      ref1_Of_b l_3 v1 (fun (r0 : (List Int)) => K (.arr 4 (.int .u64) r0) []) := by kernel_rfl

noncomputable def C_ref5_None : Ctx := { P := Tryd.prog, mv := [], pu := [], glob := glob, live := fun n => look n [], out := fun n => look n [], frz := fun n => look n [], bef := fun n => look n [] }

def cf_ref5_None {R : Type} : CallF R := fun f av es K => none

def lf_ref5_None {R : Type} : LoopF R := fun m np id _ vs es K => none

theorem eq_ref5_None {R : Type} (K : S → List Ent → Option R) :
    runK C_ref5_None raw (cf_ref5_None) (lf_ref5_None) 33 [] [] K =
      ref5_None_b (fun (r0 : Int) (r1 : (List Int)) (r2 : (List (Rose (Int × ((List Int) × Unit))))) => K (.st [.int .i64 r0, .arr 4 (.int .u64) r1, .own (.rose (.pair (.int .i64) (.pair (.arr 4 (.int .u64)) .unit))) 0]) [.buf (.rose (.pair (.int .i64) (.pair (.arr 4 (.int .u64)) .unit))) r2 false]) := by kernel_rfl

noncomputable def C_ref5_Bytes : Ctx := { P := Tryd.prog, mv := [], pu := [], glob := glob, live := fun n => look n [], out := fun n => look n [], frz := fun n => look n [], bef := fun n => look n [] }

def cf_ref5_Bytes {R : Type} (c_ref5_None : (Int → (List Int) → (List (Rose (Int × ((List Int) × Unit)))) → Option R) → Option R) : CallF R := fun f av es K => iteH (decide (f = 33)) (sh33 c_ref5_None av es K) (none)

def lf_ref5_Bytes {R : Type} (c_ref5_None : (Int → (List Int) → (List (Rose (Int × ((List Int) × Unit)))) → Option R) → Option R) : LoopF R := fun m np id _ vs es K => none

theorem eq_ref5_Bytes {R : Type} (c_ref5_None : (Int → (List Int) → (List (Rose (Int × ((List Int) × Unit)))) → Option R) → Option R) (v1 : (List Int)) (K : S → List Ent → Option R) :
    runK C_ref5_Bytes raw (cf_ref5_Bytes c_ref5_None) (lf_ref5_Bytes c_ref5_None) 18 [.arr 4 (.int .u64) v1] [] K =
      ref5_Bytes_b c_ref5_None v1 (fun (r0 : Int) (r1 : (List Int)) (r2 : (List (Rose (Int × ((List Int) × Unit))))) => K (.st [.int .i64 r0, .arr 4 (.int .u64) r1, .own (.rose (.pair (.int .i64) (.pair (.arr 4 (.int .u64)) .unit))) 0]) [.buf (.rose (.pair (.int .i64) (.pair (.arr 4 (.int .u64)) .unit))) r2 false]) := by kernel_rfl

noncomputable def C_ref5_Copy : Ctx := { P := Tryd.prog, mv := [], pu := [], glob := glob, live := fun n => look n [(3, [1, 2, 3, 4])], out := fun n => look n [(3, [1, 2, 3])], frz := fun n => look n [(3, [])], bef := fun n => look n [] }

def cf_ref5_Copy {R : Type} (c_ref5_Copy : Int → (List Int) → (List (Rose (Int × ((List Int) × Unit)))) → (Int → (List Int) → (List (Rose (Int × ((List Int) × Unit)))) → Option R) → Option R) (l_3 : Int → (List Int) → (List (Rose (Int × ((List Int) × Unit)))) → Int → (List Int) → (List (Rose (Int × ((List Int) × Unit)))) → (Int → (List Int) → (List (Rose (Int × ((List Int) × Unit)))) → Int → (List Int) → (List (Rose (Int × ((List Int) × Unit)))) → (List (Rose (Int × ((List Int) × Unit)))) → Option R) → Int → (List (Rose (Int × ((List Int) × Unit)))) → Option R) : CallF R := fun f av es K => iteH (decide (f = 11)) (sh11 c_ref5_Copy av es K) (none)

def sl_ref5_Copy_l3 {R : Type} (l_3 : Int → (List Int) → (List (Rose (Int × ((List Int) × Unit)))) → Int → (List Int) → (List (Rose (Int × ((List Int) × Unit)))) → (Int → (List Int) → (List (Rose (Int × ((List Int) × Unit)))) → Int → (List Int) → (List (Rose (Int × ((List Int) × Unit)))) → (List (Rose (Int × ((List Int) × Unit)))) → Option R) → Int → (List (Rose (Int × ((List Int) × Unit)))) → Option R) (vs : List S) (es : List Ent) (K : Out → List S → List Ent → Option R) : Option R :=
  match vs, es with
  | [.ptr 0 [], .ptr 1 [], .own (.rose (.pair (.int .i64) (.pair (.arr 4 (.int .u64)) .unit))) 2, .int .i64 v4], [.box (.st [.int .i64 v5, .arr 4 (.int .u64) v6, .sl (.rose (.pair (.int .i64) (.pair (.arr 4 (.int .u64)) .unit))) v7]) false, .box (.st [.int .i64 v8, .arr 4 (.int .u64) v9, .own (.rose (.pair (.int .i64) (.pair (.arr 4 (.int .u64)) .unit))) 3]) false, .buf (.rose (.pair (.int .i64) (.pair (.arr 4 (.int .u64)) .unit))) v10 false, .buf (.rose (.pair (.int .i64) (.pair (.arr 4 (.int .u64)) .unit))) v11 false] => l_3 v5 v6 v7 v8 v9 v11 (fun (r0 : Int) (r1 : (List Int)) (r2 : (List (Rose (Int × ((List Int) × Unit))))) (r3 : Int) (r4 : (List Int)) (r5 : (List (Rose (Int × ((List Int) × Unit))))) (r6 : (List (Rose (Int × ((List Int) × Unit))))) => K (.exit 0) [.ptr 0 [], .ptr 1 [], .own (.rose (.pair (.int .i64) (.pair (.arr 4 (.int .u64)) .unit))) 2] [.box (.st [.int .i64 r0, .arr 4 (.int .u64) r1, .sl (.rose (.pair (.int .i64) (.pair (.arr 4 (.int .u64)) .unit))) r2]) false, .box (.st [.int .i64 r3, .arr 4 (.int .u64) r4, .own (.rose (.pair (.int .i64) (.pair (.arr 4 (.int .u64)) .unit))) 3]) false, .buf (.rose (.pair (.int .i64) (.pair (.arr 4 (.int .u64)) .unit))) r5 false, .buf (.rose (.pair (.int .i64) (.pair (.arr 4 (.int .u64)) .unit))) r6 false]) v4 v10
  | _, _ => none

def lf_ref5_Copy {R : Type} (c_ref5_Copy : Int → (List Int) → (List (Rose (Int × ((List Int) × Unit)))) → (Int → (List Int) → (List (Rose (Int × ((List Int) × Unit)))) → Option R) → Option R) (l_3 : Int → (List Int) → (List (Rose (Int × ((List Int) × Unit)))) → Int → (List Int) → (List (Rose (Int × ((List Int) × Unit)))) → (Int → (List Int) → (List (Rose (Int × ((List Int) × Unit)))) → Int → (List Int) → (List (Rose (Int × ((List Int) × Unit)))) → (List (Rose (Int × ((List Int) × Unit)))) → Option R) → Int → (List (Rose (Int × ((List Int) × Unit)))) → Option R) : LoopF R := fun m np id _ vs es K => iteH (decide (m = 24) && decide (np = 0)) (iteH (decide (id = 3)) (sl_ref5_Copy_l3 l_3 vs es K) (none)) none

theorem eq_ref5_Copy_l3 {R : Type} (c_ref5_Copy : Int → (List Int) → (List (Rose (Int × ((List Int) × Unit)))) → (Int → (List Int) → (List (Rose (Int × ((List Int) × Unit)))) → Option R) → Option R) (l_3 : Int → (List Int) → (List (Rose (Int × ((List Int) × Unit)))) → Int → (List Int) → (List (Rose (Int × ((List Int) × Unit)))) → (Int → (List Int) → (List (Rose (Int × ((List Int) × Unit)))) → Int → (List Int) → (List (Rose (Int × ((List Int) × Unit)))) → (List (Rose (Int × ((List Int) × Unit)))) → Option R) → Int → (List (Rose (Int × ((List Int) × Unit)))) → Option R) (v4 : Int) (v5 : Int) (v6 : (List Int)) (v7 : (List (Rose (Int × ((List Int) × Unit))))) (v8 : Int) (v9 : (List Int)) (v10 : (List (Rose (Int × ((List Int) × Unit))))) (v11 : (List (Rose (Int × ((List Int) × Unit))))) (K : Out → List S → List Ent → Option R) :
    acodeK C_ref5_Copy raw (cf_ref5_Copy c_ref5_Copy l_3) (lf_ref5_Copy c_ref5_Copy l_3) (loopBody Tryd.prog 11 3) (placeSt 24 0 [1, 2, 3, 4] [.ptr 0 [], .ptr 1 [], .own (.rose (.pair (.int .i64) (.pair (.arr 4 (.int .u64)) .unit))) 2, .int .i64 v4] [.box (.st [.int .i64 v5, .arr 4 (.int .u64) v6, .sl (.rose (.pair (.int .i64) (.pair (.arr 4 (.int .u64)) .unit))) v7]) false, .box (.st [.int .i64 v8, .arr 4 (.int .u64) v9, .own (.rose (.pair (.int .i64) (.pair (.arr 4 (.int .u64)) .unit))) 3]) false, .buf (.rose (.pair (.int .i64) (.pair (.arr 4 (.int .u64)) .unit))) v10 false, .buf (.rose (.pair (.int .i64) (.pair (.arr 4 (.int .u64)) .unit))) v11 false]) (loopKont C_ref5_Copy (lf_ref5_Copy c_ref5_Copy l_3) 24 0 3 (loopBody Tryd.prog 11 3) K) =
      ref5_Copy_l3_b c_ref5_Copy l_3 v5 v6 v7 v8 v9 v11 (fun (r0 : Int) (r1 : (List Int)) (r2 : (List (Rose (Int × ((List Int) × Unit))))) (r3 : Int) (r4 : (List Int)) (r5 : (List (Rose (Int × ((List Int) × Unit))))) (r6 : (List (Rose (Int × ((List Int) × Unit))))) => K (.exit 0) [.ptr 0 [], .ptr 1 [], .own (.rose (.pair (.int .i64) (.pair (.arr 4 (.int .u64)) .unit))) 2] [.box (.st [.int .i64 r0, .arr 4 (.int .u64) r1, .sl (.rose (.pair (.int .i64) (.pair (.arr 4 (.int .u64)) .unit))) r2]) false, .box (.st [.int .i64 r3, .arr 4 (.int .u64) r4, .own (.rose (.pair (.int .i64) (.pair (.arr 4 (.int .u64)) .unit))) 3]) false, .buf (.rose (.pair (.int .i64) (.pair (.arr 4 (.int .u64)) .unit))) r5 false, .buf (.rose (.pair (.int .i64) (.pair (.arr 4 (.int .u64)) .unit))) r6 false]) v4 v10 := by kernel_rfl

theorem eq_ref5_Copy {R : Type} (c_ref5_Copy : Int → (List Int) → (List (Rose (Int × ((List Int) × Unit)))) → (Int → (List Int) → (List (Rose (Int × ((List Int) × Unit)))) → Option R) → Option R) (l_3 : Int → (List Int) → (List (Rose (Int × ((List Int) × Unit)))) → Int → (List Int) → (List (Rose (Int × ((List Int) × Unit)))) → (Int → (List Int) → (List (Rose (Int × ((List Int) × Unit)))) → Int → (List Int) → (List (Rose (Int × ((List Int) × Unit)))) → (List (Rose (Int × ((List Int) × Unit)))) → Option R) → Int → (List (Rose (Int × ((List Int) × Unit)))) → Option R) (v1 : Int) (v2 : (List Int)) (v3 : (List (Rose (Int × ((List Int) × Unit))))) (K : S → List Ent → Option R) :
    runK C_ref5_Copy raw (cf_ref5_Copy c_ref5_Copy l_3) (lf_ref5_Copy c_ref5_Copy l_3) 11 [.st [.int .i64 v1, .arr 4 (.int .u64) v2, .sl (.rose (.pair (.int .i64) (.pair (.arr 4 (.int .u64)) .unit))) v3]] [] K =
      ref5_Copy_b c_ref5_Copy l_3 v1 v2 v3 (fun (r0 : Int) (r1 : (List Int)) (r2 : (List (Rose (Int × ((List Int) × Unit))))) => K (.st [.int .i64 r0, .arr 4 (.int .u64) r1, .own (.rose (.pair (.int .i64) (.pair (.arr 4 (.int .u64)) .unit))) 0]) [.buf (.rose (.pair (.int .i64) (.pair (.arr 4 (.int .u64)) .unit))) r2 false]) := by kernel_rfl

noncomputable def C_ref5_Empty : Ctx := { P := Tryd.prog, mv := [], pu := [], glob := glob, live := fun n => look n [], out := fun n => look n [], frz := fun n => look n [], bef := fun n => look n [] }

def cf_ref5_Empty {R : Type} : CallF R := fun f av es K => none

def lf_ref5_Empty {R : Type} : LoopF R := fun m np id _ vs es K => none

theorem eq_ref5_Empty {R : Type} (K : S → List Ent → Option R) :
    runK C_ref5_Empty raw (cf_ref5_Empty) (lf_ref5_Empty) 22 [] [] K =
      ref5_Empty_b (fun (r0 : Int) (r1 : (List Int)) (r2 : (List (Rose (Int × ((List Int) × Unit))))) => K (.st [.int .i64 r0, .arr 4 (.int .u64) r1, .own (.rose (.pair (.int .i64) (.pair (.arr 4 (.int .u64)) .unit))) 0]) [.buf (.rose (.pair (.int .i64) (.pair (.arr 4 (.int .u64)) .unit))) r2 false]) := by kernel_rfl

noncomputable def C_ref5_flat : Ctx := { P := Tryd.prog, mv := [], pu := [], glob := glob, live := fun n => look n [(3, [0, 1, 5, 6])], out := fun n => look n [(3, [5])], frz := fun n => look n [(3, [])], bef := fun n => look n [] }

def cf_ref5_flat {R : Type} (l_3 : Int → (List (Rose (Int × ((List Int) × Unit)))) → ((List (Rose (Int × ((List Int) × Unit)))) → Option R) → Int → (List (Rose (Int × ((List Int) × Unit)))) → Option R) : CallF R := fun f av es K => none

def sl_ref5_flat_l3 {R : Type} (l_3 : Int → (List (Rose (Int × ((List Int) × Unit)))) → ((List (Rose (Int × ((List Int) × Unit)))) → Option R) → Int → (List (Rose (Int × ((List Int) × Unit)))) → Option R) (vs : List S) (es : List Ent) (K : Out → List S → List Ent → Option R) : Option R :=
  match vs, es with
  | [.int .i64 v3, .sl (.rose (.pair (.int .i64) (.pair (.arr 4 (.int .u64)) .unit))) v4, .own (.rose (.pair (.int .i64) (.pair (.arr 4 (.int .u64)) .unit))) 0, .int .i64 v5], [.buf (.rose (.pair (.int .i64) (.pair (.arr 4 (.int .u64)) .unit))) v6 false] => l_3 v3 v4 (fun (r0 : (List (Rose (Int × ((List Int) × Unit))))) => K (.exit 0) [.own (.rose (.pair (.int .i64) (.pair (.arr 4 (.int .u64)) .unit))) 0] [.buf (.rose (.pair (.int .i64) (.pair (.arr 4 (.int .u64)) .unit))) r0 false]) v5 v6
  | _, _ => none

def lf_ref5_flat {R : Type} (l_3 : Int → (List (Rose (Int × ((List Int) × Unit)))) → ((List (Rose (Int × ((List Int) × Unit)))) → Option R) → Int → (List (Rose (Int × ((List Int) × Unit)))) → Option R) : LoopF R := fun m np id _ vs es K => iteH (decide (m = 35) && decide (np = 0)) (iteH (decide (id = 3)) (sl_ref5_flat_l3 l_3 vs es K) (none)) none

theorem eq_ref5_flat_l3 {R : Type} (l_3 : Int → (List (Rose (Int × ((List Int) × Unit)))) → ((List (Rose (Int × ((List Int) × Unit)))) → Option R) → Int → (List (Rose (Int × ((List Int) × Unit)))) → Option R) (v3 : Int) (v4 : (List (Rose (Int × ((List Int) × Unit))))) (v5 : Int) (v6 : (List (Rose (Int × ((List Int) × Unit))))) (K : Out → List S → List Ent → Option R) :
    acodeK C_ref5_flat raw (cf_ref5_flat l_3) (lf_ref5_flat l_3) (loopBody Tryd.prog 51 3) (placeSt 35 0 [0, 1, 5, 6] [.int .i64 v3, .sl (.rose (.pair (.int .i64) (.pair (.arr 4 (.int .u64)) .unit))) v4, .own (.rose (.pair (.int .i64) (.pair (.arr 4 (.int .u64)) .unit))) 0, .int .i64 v5] [.buf (.rose (.pair (.int .i64) (.pair (.arr 4 (.int .u64)) .unit))) v6 false]) (loopKont C_ref5_flat (lf_ref5_flat l_3) 35 0 3 (loopBody Tryd.prog 51 3) K) =
      ref5_flat_l3_b l_3 v3 v4 (fun (r0 : (List (Rose (Int × ((List Int) × Unit))))) => K (.exit 0) [.own (.rose (.pair (.int .i64) (.pair (.arr 4 (.int .u64)) .unit))) 0] [.buf (.rose (.pair (.int .i64) (.pair (.arr 4 (.int .u64)) .unit))) r0 false]) v5 v6 := by kernel_rfl

theorem eq_ref5_flat {R : Type} (l_3 : Int → (List (Rose (Int × ((List Int) × Unit)))) → ((List (Rose (Int × ((List Int) × Unit)))) → Option R) → Int → (List (Rose (Int × ((List Int) × Unit)))) → Option R) (v1 : Int) (v2 : (List (Rose (Int × ((List Int) × Unit))))) (K : S → List Ent → Option R) :
    runK C_ref5_flat raw (cf_ref5_flat l_3) (lf_ref5_flat l_3) 51 [.int .i64 v1, .sl (.rose (.pair (.int .i64) (.pair (.arr 4 (.int .u64)) .unit))) v2] [] K =
      ref5_flat_b l_3 v1 v2 (fun (r0 : (List (Rose (Int × ((List Int) × Unit))))) => K (.own (.rose (.pair (.int .i64) (.pair (.arr 4 (.int .u64)) .unit))) 0) [.buf (.rose (.pair (.int .i64) (.pair (.arr 4 (.int .u64)) .unit))) r0 false]) := by kernel_rfl

noncomputable def C_ref1_Has : Ctx := { P := Tryd.prog, mv := [], pu := [], glob := glob, live := fun n => look n [], out := fun n => look n [], frz := fun n => look n [], bef := fun n => look n [] }

def cf_ref1_Has {R : Type} : CallF R := fun f av es K => none

def lf_ref1_Has {R : Type} : LoopF R := fun m np id _ vs es K => none

theorem eq_ref1_Has {R : Type} (v1 : (List Int)) (v2 : Int) (K : S → List Ent → Option R) :
    runK C_ref1_Has raw (cf_ref1_Has) (lf_ref1_Has) 75 [.arr 4 (.int .u64) v1, .int .u8 v2] [] K =
      ref1_Has_b v1 v2 (fun (r0 : Bool) => K (.bool r0) []) := by kernel_rfl

noncomputable def C_ref1_List : Ctx := { P := Tryd.prog, mv := [], pu := [], glob := glob, live := fun n => look n [(3, [1, 3, 4])], out := fun n => look n [(3, [3])], frz := fun n => look n [(3, [])], bef := fun n => look n [] }

def cf_ref1_List {R : Type} (c_ref1_Has : (List Int) → Int → (Bool → Option R) → Option R) (l_3 : (List Int) → ((List Int) → Option R) → Int → (List Int) → Option R) : CallF R := fun f av es K => iteH (decide (f = 75)) (sh75 c_ref1_Has av es K) (none)

def sl_ref1_List_l3 {R : Type} (l_3 : (List Int) → ((List Int) → Option R) → Int → (List Int) → Option R) (vs : List S) (es : List Ent) (K : Out → List S → List Ent → Option R) : Option R :=
  match vs, es with
  | [.ptr 0 [], .own (.int .u8) 1, .int .i64 v2], [.box (.arr 4 (.int .u64) v3) false, .buf (.int .u8) v4 false] => l_3 v3 (fun (r0 : (List Int)) => K (.exit 0) [.own (.int .u8) 0] [.buf (.int .u8) r0 false]) v2 v4
  | _, _ => none

def lf_ref1_List {R : Type} (c_ref1_Has : (List Int) → Int → (Bool → Option R) → Option R) (l_3 : (List Int) → ((List Int) → Option R) → Int → (List Int) → Option R) : LoopF R := fun m np id _ vs es K => iteH (decide (m = 19) && decide (np = 0)) (iteH (decide (id = 3)) (sl_ref1_List_l3 l_3 vs es K) (none)) none

theorem eq_ref1_List_l3 {R : Type} (c_ref1_Has : (List Int) → Int → (Bool → Option R) → Option R) (l_3 : (List Int) → ((List Int) → Option R) → Int → (List Int) → Option R) (v2 : Int) (v3 : (List Int)) (v4 : (List Int)) (K : Out → List S → List Ent → Option R) :
    acodeK C_ref1_List raw (cf_ref1_List c_ref1_Has l_3) (lf_ref1_List c_ref1_Has l_3) (loopBody Tryd.prog 61 3) (placeSt 19 0 [1, 3, 4] [.ptr 0 [], .own (.int .u8) 1, .int .i64 v2] [.box (.arr 4 (.int .u64) v3) false, .buf (.int .u8) v4 false]) (loopKont C_ref1_List (lf_ref1_List c_ref1_Has l_3) 19 0 3 (loopBody Tryd.prog 61 3) K) =
      ref1_List_l3_b c_ref1_Has l_3 v3 (fun (r0 : (List Int)) => K (.exit 0) [.own (.int .u8) 0] [.buf (.int .u8) r0 false]) v2 v4 := by kernel_rfl

theorem eq_ref1_List {R : Type} (c_ref1_Has : (List Int) → Int → (Bool → Option R) → Option R) (l_3 : (List Int) → ((List Int) → Option R) → Int → (List Int) → Option R) (v1 : (List Int)) (K : S → List Ent → Option R) :
    runK C_ref1_List raw (cf_ref1_List c_ref1_Has l_3) (lf_ref1_List c_ref1_Has l_3) 61 [.arr 4 (.int .u64) v1] [] K =
      ref1_List_b c_ref1_Has l_3 v1 (fun (r0 : (List Int)) => K (.own (.int .u8) 0) [.buf (.int .u8) r0 false]) := by kernel_rfl

noncomputable def C_ref1_Or : Ctx := { P := Tryd.prog, mv := [], pu := [], glob := glob, live := fun n => look n [], out := fun n => look n [], frz := fun n => look n [], bef := fun n => look n [(1, [0, 1, 0, 7, 15, 31, 63])] }

def cf_ref1_Or {R : Type} (c_ref1_List : (List Int) → ((List Int) → Option R) → Option R) (c_ref1_Of : (List Int) → ((List Int) → Option R) → Option R) : CallF R := fun f av es K => iteH (decide (f = 61)) (sh61 c_ref1_List av es K) (iteH (decide (f = 20)) (sh20 c_ref1_Of av es K) (none))

def lf_ref1_Or {R : Type} (c_ref1_List : (List Int) → ((List Int) → Option R) → Option R) (c_ref1_Of : (List Int) → ((List Int) → Option R) → Option R) : LoopF R := fun m np id _ vs es K => none

theorem eq_ref1_Or {R : Type} (c_ref1_List : (List Int) → ((List Int) → Option R) → Option R) (c_ref1_Of : (List Int) → ((List Int) → Option R) → Option R) (v1 : (List Int)) (v2 : (List Int)) (K : S → List Ent → Option R) :
    runK C_ref1_Or raw (cf_ref1_Or c_ref1_List c_ref1_Of) (lf_ref1_Or c_ref1_List c_ref1_Of) 52 [.arr 4 (.int .u64) v1, .arr 4 (.int .u64) v2] [] K =
      ref1_Or_b c_ref1_List c_ref1_Of v1 v2 (fun (r0 : (List Int)) => K (.arr 4 (.int .u64) r0) []) := by kernel_rfl

noncomputable def C_ref1_SetLess : Ctx := { P := Tryd.prog, mv := [], pu := [], glob := glob, live := fun n => look n [(2, [2, 3, 5])], out := fun n => look n [(2, [4])], frz := fun n => look n [(2, [])], bef := fun n => look n [(4, [0, 0, 2, 7, 0, 0, 32, 127, 255])] }

def cf_ref1_SetLess {R : Type} (c_ref1_Has : (List Int) → Int → (Bool → Option R) → Option R) (l_2 : (List Int) → (List Int) → (Bool → Option R) → (Option R) → Int → Option R) : CallF R := fun f av es K => iteH (decide (f = 75)) (sh75 c_ref1_Has av es K) (none)

def sl_ref1_SetLess_l2 {R : Type} (l_2 : (List Int) → (List Int) → (Bool → Option R) → (Option R) → Int → Option R) (vs : List S) (es : List Ent) (K : Out → List S → List Ent → Option R) : Option R :=
  match vs, es with
  | [.ptr 0 [], .ptr 1 [], .int .i64 v3], [.box (.arr 4 (.int .u64) v4) false, .box (.arr 4 (.int .u64) v5) false] => l_2 v4 v5 (fun (r0 : Bool) => K .ret [.bool r0] []) (K (.exit 0) [.junk] []) v3
  | _, _ => none

def lf_ref1_SetLess {R : Type} (c_ref1_Has : (List Int) → Int → (Bool → Option R) → Option R) (l_2 : (List Int) → (List Int) → (Bool → Option R) → (Option R) → Int → Option R) : LoopF R := fun m np id _ vs es K => iteH (decide (m = 23) && decide (np = 0)) (iteH (decide (id = 2)) (sl_ref1_SetLess_l2 l_2 vs es K) (none)) none

theorem eq_ref1_SetLess_l2 {R : Type} (c_ref1_Has : (List Int) → Int → (Bool → Option R) → Option R) (l_2 : (List Int) → (List Int) → (Bool → Option R) → (Option R) → Int → Option R) (v3 : Int) (v4 : (List Int)) (v5 : (List Int)) (K : Out → List S → List Ent → Option R) :
    acodeK C_ref1_SetLess raw (cf_ref1_SetLess c_ref1_Has l_2) (lf_ref1_SetLess c_ref1_Has l_2) (loopBody Tryd.prog 79 2) (placeSt 23 0 [2, 3, 5] [.ptr 0 [], .ptr 1 [], .int .i64 v3] [.box (.arr 4 (.int .u64) v4) false, .box (.arr 4 (.int .u64) v5) false]) (loopKont C_ref1_SetLess (lf_ref1_SetLess c_ref1_Has l_2) 23 0 2 (loopBody Tryd.prog 79 2) K) =
      ref1_SetLess_l2_b c_ref1_Has l_2 v4 v5 (fun (r0 : Bool) => K .ret [.bool r0] []) (K (.exit 0) [.junk] []) v3 := by kernel_rfl

theorem eq_ref1_SetLess {R : Type} (c_ref1_Has : (List Int) → Int → (Bool → Option R) → Option R) (l_2 : (List Int) → (List Int) → (Bool → Option R) → (Option R) → Int → Option R) (v1 : (List Int)) (v2 : (List Int)) (K : S → List Ent → Option R) :
    runK C_ref1_SetLess raw (cf_ref1_SetLess c_ref1_Has l_2) (lf_ref1_SetLess c_ref1_Has l_2) 79 [.arr 4 (.int .u64) v1, .arr 4 (.int .u64) v2] [] K =
      ref1_SetLess_b c_ref1_Has l_2 v1 v2 (fun (r0 : Bool) => K (.bool r0) []) := by kernel_rfl

noncomputable def C_ref5_Compare : Ctx := { P := Tryd.prog, mv := [], pu := [], glob := glob, live := fun n => look n [(10, [2, 3, 5])], out := fun n => look n [(10, [2, 3, 4])], frz := fun n => look n [(10, [])], bef := fun n => look n [(12, [0, 1, 0, 7, 15, 0, 32, 0, 224, 480, 1023, 2047])] }

def cf_ref5_Compare {R : Type} (c_ref1_SetLess : (List Int) → (List Int) → (Bool → Option R) → Option R) (c_ref5_Compare : Int → (List Int) → (List (Rose (Int × ((List Int) × Unit)))) → Int → (List Int) → (List (Rose (Int × ((List Int) × Unit)))) → (Int → Option R) → Option R) (l_10 : Int → (List Int) → (List (Rose (Int × ((List Int) × Unit)))) → Int → (List Int) → (List (Rose (Int × ((List Int) × Unit)))) → (Int → Int → (List Int) → (List (Rose (Int × ((List Int) × Unit)))) → Int → (List Int) → (List (Rose (Int × ((List Int) × Unit)))) → Option R) → (Int → (List Int) → (List (Rose (Int × ((List Int) × Unit)))) → Int → (List Int) → (List (Rose (Int × ((List Int) × Unit)))) → Option R) → Int → Option R) : CallF R := fun f av es K => iteH (decide (f = 79)) (sh79 c_ref1_SetLess av es K) (iteH (decide (f = 67)) (sh67 c_ref5_Compare av es K) (none))

def sl_ref5_Compare_l10 {R : Type} (l_10 : Int → (List Int) → (List (Rose (Int × ((List Int) × Unit)))) → Int → (List Int) → (List (Rose (Int × ((List Int) × Unit)))) → (Int → Int → (List Int) → (List (Rose (Int × ((List Int) × Unit)))) → Int → (List Int) → (List (Rose (Int × ((List Int) × Unit)))) → Option R) → (Int → (List Int) → (List (Rose (Int × ((List Int) × Unit)))) → Int → (List Int) → (List (Rose (Int × ((List Int) × Unit)))) → Option R) → Int → Option R) (vs : List S) (es : List Ent) (K : Out → List S → List Ent → Option R) : Option R :=
  match vs, es with
  | [.ptr 0 [], .ptr 1 [], .int .i64 v9], [.box (.st [.int .i64 v10, .arr 4 (.int .u64) v11, .sl (.rose (.pair (.int .i64) (.pair (.arr 4 (.int .u64)) .unit))) v12]) false, .box (.st [.int .i64 v13, .arr 4 (.int .u64) v14, .sl (.rose (.pair (.int .i64) (.pair (.arr 4 (.int .u64)) .unit))) v15]) false] => l_10 v10 v11 v12 v13 v14 v15 (fun (r0 : Int) (r1 : Int) (r2 : (List Int)) (r3 : (List (Rose (Int × ((List Int) × Unit))))) (r4 : Int) (r5 : (List Int)) (r6 : (List (Rose (Int × ((List Int) × Unit))))) => K .ret [.ptr 0 [], .ptr 1 [], .int .i64 r0] [.box (.st [.int .i64 r1, .arr 4 (.int .u64) r2, .sl (.rose (.pair (.int .i64) (.pair (.arr 4 (.int .u64)) .unit))) r3]) false, .box (.st [.int .i64 r4, .arr 4 (.int .u64) r5, .sl (.rose (.pair (.int .i64) (.pair (.arr 4 (.int .u64)) .unit))) r6]) false]) (fun (r0 : Int) (r1 : (List Int)) (r2 : (List (Rose (Int × ((List Int) × Unit))))) (r3 : Int) (r4 : (List Int)) (r5 : (List (Rose (Int × ((List Int) × Unit))))) => K (.exit 0) [.ptr 0 [], .ptr 1 [], .junk] [.box (.st [.int .i64 r0, .arr 4 (.int .u64) r1, .sl (.rose (.pair (.int .i64) (.pair (.arr 4 (.int .u64)) .unit))) r2]) false, .box (.st [.int .i64 r3, .arr 4 (.int .u64) r4, .sl (.rose (.pair (.int .i64) (.pair (.arr 4 (.int .u64)) .unit))) r5]) false]) v9
  | _, _ => none

def lf_ref5_Compare {R : Type} (c_ref1_SetLess : (List Int) → (List Int) → (Bool → Option R) → Option R) (c_ref5_Compare : Int → (List Int) → (List (Rose (Int × ((List Int) × Unit)))) → Int → (List Int) → (List (Rose (Int × ((List Int) × Unit)))) → (Int → Option R) → Option R) (l_10 : Int → (List Int) → (List (Rose (Int × ((List Int) × Unit)))) → Int → (List Int) → (List (Rose (Int × ((List Int) × Unit)))) → (Int → Int → (List Int) → (List (Rose (Int × ((List Int) × Unit)))) → Int → (List Int) → (List (Rose (Int × ((List Int) × Unit)))) → Option R) → (Int → (List Int) → (List (Rose (Int × ((List Int) × Unit)))) → Int → (List Int) → (List (Rose (Int × ((List Int) × Unit)))) → Option R) → Int → Option R) : LoopF R := fun m np id _ vs es K => iteH (decide (m = 74) && decide (np = 0)) (iteH (decide (id = 10)) (sl_ref5_Compare_l10 l_10 vs es K) (none)) none

theorem eq_ref5_Compare_l10 {R : Type} (c_ref1_SetLess : (List Int) → (List Int) → (Bool → Option R) → Option R) (c_ref5_Compare : Int → (List Int) → (List (Rose (Int × ((List Int) × Unit)))) → Int → (List Int) → (List (Rose (Int × ((List Int) × Unit)))) → (Int → Option R) → Option R) (l_10 : Int → (List Int) → (List (Rose (Int × ((List Int) × Unit)))) → Int → (List Int) → (List (Rose (Int × ((List Int) × Unit)))) → (Int → Int → (List Int) → (List (Rose (Int × ((List Int) × Unit)))) → Int → (List Int) → (List (Rose (Int × ((List Int) × Unit)))) → Option R) → (Int → (List Int) → (List (Rose (Int × ((List Int) × Unit)))) → Int → (List Int) → (List (Rose (Int × ((List Int) × Unit)))) → Option R) → Int → Option R) (v9 : Int) (v10 : Int) (v11 : (List Int)) (v12 : (List (Rose (Int × ((List Int) × Unit))))) (v13 : Int) (v14 : (List Int)) (v15 : (List (Rose (Int × ((List Int) × Unit))))) (K : Out → List S → List Ent → Option R) :
    acodeK C_ref5_Compare raw (cf_ref5_Compare c_ref1_SetLess c_ref5_Compare l_10) (lf_ref5_Compare c_ref1_SetLess c_ref5_Compare l_10) (loopBody Tryd.prog 67 10) (placeSt 74 0 [2, 3, 5] [.ptr 0 [], .ptr 1 [], .int .i64 v9] [.box (.st [.int .i64 v10, .arr 4 (.int .u64) v11, .sl (.rose (.pair (.int .i64) (.pair (.arr 4 (.int .u64)) .unit))) v12]) false, .box (.st [.int .i64 v13, .arr 4 (.int .u64) v14, .sl (.rose (.pair (.int .i64) (.pair (.arr 4 (.int .u64)) .unit))) v15]) false]) (loopKont C_ref5_Compare (lf_ref5_Compare c_ref1_SetLess c_ref5_Compare l_10) 74 0 10 (loopBody Tryd.prog 67 10) K) =
      ref5_Compare_l10_b c_ref1_SetLess c_ref5_Compare l_10 v10 v11 v12 v13 v14 v15 (fun (r0 : Int) (r1 : Int) (r2 : (List Int)) (r3 : (List (Rose (Int × ((List Int) × Unit))))) (r4 : Int) (r5 : (List Int)) (r6 : (List (Rose (Int × ((List Int) × Unit))))) => K .ret [.ptr 0 [], .ptr 1 [], .int .i64 r0] [.box (.st [.int .i64 r1, .arr 4 (.int .u64) r2, .sl (.rose (.pair (.int .i64) (.pair (.arr 4 (.int .u64)) .unit))) r3]) false, .box (.st [.int .i64 r4, .arr 4 (.int .u64) r5, .sl (.rose (.pair (.int .i64) (.pair (.arr 4 (.int .u64)) .unit))) r6]) false]) (fun (r0 : Int) (r1 : (List Int)) (r2 : (List (Rose (Int × ((List Int) × Unit))))) (r3 : Int) (r4 : (List Int)) (r5 : (List (Rose (Int × ((List Int) × Unit))))) => K (.exit 0) [.ptr 0 [], .ptr 1 [], .junk] [.box (.st [.int .i64 r0, .arr 4 (.int .u64) r1, .sl (.rose (.pair (.int .i64) (.pair (.arr 4 (.int .u64)) .unit))) r2]) false, .box (.st [.int .i64 r3, .arr 4 (.int .u64) r4, .sl (.rose (.pair (.int .i64) (.pair (.arr 4 (.int .u64)) .unit))) r5]) false]) v9 := by kernel_rfl

theorem eq_ref5_Compare {R : Type} (c_ref1_SetLess : (List Int) → (List Int) → (Bool → Option R) → Option R) (c_ref5_Compare : Int → (List Int) → (List (Rose (Int × ((List Int) × Unit)))) → Int → (List Int) → (List (Rose (Int × ((List Int) × Unit)))) → (Int → Option R) → Option R) (l_10 : Int → (List Int) → (List (Rose (Int × ((List Int) × Unit)))) → Int → (List Int) → (List (Rose (Int × ((List Int) × Unit)))) → (Int → Int → (List Int) → (List (Rose (Int × ((List Int) × Unit)))) → Int → (List Int) → (List (Rose (Int × ((List Int) × Unit)))) → Option R) → (Int → (List Int) → (List (Rose (Int × ((List Int) × Unit)))) → Int → (List Int) → (List (Rose (Int × ((List Int) × Unit)))) → Option R) → Int → Option R) (v1 : Int) (v2 : (List Int)) (v3 : (List (Rose (Int × ((List Int) × Unit))))) (v4 : Int) (v5 : (List Int)) (v6 : (List (Rose (Int × ((List Int) × Unit))))) (K : S → List Ent → Option R) :
    runK C_ref5_Compare raw (cf_ref5_Compare c_ref1_SetLess c_ref5_Compare l_10) (lf_ref5_Compare c_ref1_SetLess c_ref5_Compare l_10) 67 [.st [.int .i64 v1, .arr 4 (.int .u64) v2, .sl (.rose (.pair (.int .i64) (.pair (.arr 4 (.int .u64)) .unit))) v3], .st [.int .i64 v4, .arr 4 (.int .u64) v5, .sl (.rose (.pair (.int .i64) (.pair (.arr 4 (.int .u64)) .unit))) v6]] [] K =
      ref5_Compare_b c_ref1_SetLess c_ref5_Compare l_10 v1 v2 v3 v4 v5 v6 (fun (r0 : Int) => K (.int .i64 r0) []) := by kernel_rfl

noncomputable def C_ref5_Equal : Ctx := { P := Tryd.prog, mv := [], pu := [], glob := glob, live := fun n => look n [], out := fun n => look n [], frz := fun n => look n [], bef := fun n => look n [] }

def cf_ref5_Equal {R : Type} (c_ref5_Compare : Int → (List Int) → (List (Rose (Int × ((List Int) × Unit)))) → Int → (List Int) → (List (Rose (Int × ((List Int) × Unit)))) → (Int → Option R) → Option R) : CallF R := fun f av es K => iteH (decide (f = 67)) (sh67 c_ref5_Compare av es K) (none)

def lf_ref5_Equal {R : Type} (c_ref5_Compare : Int → (List Int) → (List (Rose (Int × ((List Int) × Unit)))) → Int → (List Int) → (List (Rose (Int × ((List Int) × Unit)))) → (Int → Option R) → Option R) : LoopF R := fun m np id _ vs es K => none

theorem eq_ref5_Equal {R : Type} (c_ref5_Compare : Int → (List Int) → (List (Rose (Int × ((List Int) × Unit)))) → Int → (List Int) → (List (Rose (Int × ((List Int) × Unit)))) → (Int → Option R) → Option R) (v1 : Int) (v2 : (List Int)) (v3 : (List (Rose (Int × ((List Int) × Unit))))) (v4 : Int) (v5 : (List Int)) (v6 : (List (Rose (Int × ((List Int) × Unit))))) (K : S → List Ent → Option R) :
    runK C_ref5_Equal raw (cf_ref5_Equal c_ref5_Compare) (lf_ref5_Equal c_ref5_Compare) 68 [.st [.int .i64 v1, .arr 4 (.int .u64) v2, .sl (.rose (.pair (.int .i64) (.pair (.arr 4 (.int .u64)) .unit))) v3], .st [.int .i64 v4, .arr 4 (.int .u64) v5, .sl (.rose (.pair (.int .i64) (.pair (.arr 4 (.int .u64)) .unit))) v6]] [] K =
      ref5_Equal_b c_ref5_Compare v1 v2 v3 v4 v5 v6 (fun (r0 : Bool) => K (.bool r0) []) := by kernel_rfl

noncomputable def C_ref5_insert : Ctx := { P := Tryd.prog, mv := [], pu := [4], glob := glob, live := fun n => look n [(2, [0, 3, 5])], out := fun n => look n [(2, [0, 3, 5])], frz := fun n => look n [(2, [])], bef := fun n => look n [(2, [0, 0, 2, 7, 15, 31, 31, 127, 255, 31, 1023, 2047, 4095]), (4, [0, 0, 2, 7, 15, 31, 31, 127, 255, 31, 1023, 2047]), (6, [0, 0, 0, 6, 15, 0, 32, 127, 0, 0, 768, 2047, 4095])] }

def cf_ref5_insert {R : Type} (c_ref5_Compare : Int → (List Int) → (List (Rose (Int × ((List Int) × Unit)))) → Int → (List Int) → (List (Rose (Int × ((List Int) × Unit)))) → (Int → Option R) → Option R) (c_ref5_Equal : Int → (List Int) → (List (Rose (Int × ((List Int) × Unit)))) → Int → (List Int) → (List (Rose (Int × ((List Int) × Unit)))) → (Bool → Option R) → Option R) (l_2 : (List (Rose (Int × ((List Int) × Unit)))) → Int → (List Int) → (List (Rose (Int × ((List Int) × Unit)))) → ((List (Rose (Int × ((List Int) × Unit)))) → Int → Int → (List Int) → (List (Rose (Int × ((List Int) × Unit)))) → Option R) → Int → Option R) : CallF R := fun f av es K => iteH (decide (f = 67)) (sh67 c_ref5_Compare av es K) (iteH (decide (f = 68)) (sh68 c_ref5_Equal av es K) (none))

def sl_ref5_insert_l2 {R : Type} (l_2 : (List (Rose (Int × ((List Int) × Unit)))) → Int → (List Int) → (List (Rose (Int × ((List Int) × Unit)))) → ((List (Rose (Int × ((List Int) × Unit)))) → Int → Int → (List Int) → (List (Rose (Int × ((List Int) × Unit)))) → Option R) → Int → Option R) (vs : List S) (es : List Ent) (K : Out → List S → List Ent → Option R) : Option R :=
  match vs, es with
  | [.sl (.rose (.pair (.int .i64) (.pair (.arr 4 (.int .u64)) .unit))) v5, .ptr 0 [], .int .i64 v6], [.box (.st [.int .i64 v7, .arr 4 (.int .u64) v8, .sl (.rose (.pair (.int .i64) (.pair (.arr 4 (.int .u64)) .unit))) v9]) false] => l_2 v5 v7 v8 v9 (fun (r0 : (List (Rose (Int × ((List Int) × Unit))))) (r1 : Int) (r2 : Int) (r3 : (List Int)) (r4 : (List (Rose (Int × ((List Int) × Unit))))) => K (.exit 0) [.sl (.rose (.pair (.int .i64) (.pair (.arr 4 (.int .u64)) .unit))) r0, .ptr 0 [], .int .i64 r1] [.box (.st [.int .i64 r2, .arr 4 (.int .u64) r3, .sl (.rose (.pair (.int .i64) (.pair (.arr 4 (.int .u64)) .unit))) r4]) false]) v6
  | _, _ => none

def lf_ref5_insert {R : Type} (c_ref5_Compare : Int → (List Int) → (List (Rose (Int × ((List Int) × Unit)))) → Int → (List Int) → (List (Rose (Int × ((List Int) × Unit)))) → (Int → Option R) → Option R) (c_ref5_Equal : Int → (List Int) → (List (Rose (Int × ((List Int) × Unit)))) → Int → (List Int) → (List (Rose (Int × ((List Int) × Unit)))) → (Bool → Option R) → Option R) (l_2 : (List (Rose (Int × ((List Int) × Unit)))) → Int → (List Int) → (List (Rose (Int × ((List Int) × Unit)))) → ((List (Rose (Int × ((List Int) × Unit)))) → Int → Int → (List Int) → (List (Rose (Int × ((List Int) × Unit)))) → Option R) → Int → Option R) : LoopF R := fun m np id _ vs es K => iteH (decide (m = 46) && decide (np = 0)) (iteH (decide (id = 2)) (sl_ref5_insert_l2 l_2 vs es K) (none)) none

theorem eq_ref5_insert_l2 {R : Type} (c_ref5_Compare : Int → (List Int) → (List (Rose (Int × ((List Int) × Unit)))) → Int → (List Int) → (List (Rose (Int × ((List Int) × Unit)))) → (Int → Option R) → Option R) (c_ref5_Equal : Int → (List Int) → (List (Rose (Int × ((List Int) × Unit)))) → Int → (List Int) → (List (Rose (Int × ((List Int) × Unit)))) → (Bool → Option R) → Option R) (l_2 : (List (Rose (Int × ((List Int) × Unit)))) → Int → (List Int) → (List (Rose (Int × ((List Int) × Unit)))) → ((List (Rose (Int × ((List Int) × Unit)))) → Int → Int → (List Int) → (List (Rose (Int × ((List Int) × Unit)))) → Option R) → Int → Option R) (v5 : (List (Rose (Int × ((List Int) × Unit))))) (v6 : Int) (v7 : Int) (v8 : (List Int)) (v9 : (List (Rose (Int × ((List Int) × Unit))))) (K : Out → List S → List Ent → Option R) :
    acodeK C_ref5_insert raw (cf_ref5_insert c_ref5_Compare c_ref5_Equal l_2) (lf_ref5_insert c_ref5_Compare c_ref5_Equal l_2) (loopBody Tryd.prog 53 2) (placeSt 46 0 [0, 3, 5] [.sl (.rose (.pair (.int .i64) (.pair (.arr 4 (.int .u64)) .unit))) v5, .ptr 0 [], .int .i64 v6] [.box (.st [.int .i64 v7, .arr 4 (.int .u64) v8, .sl (.rose (.pair (.int .i64) (.pair (.arr 4 (.int .u64)) .unit))) v9]) false]) (loopKont C_ref5_insert (lf_ref5_insert c_ref5_Compare c_ref5_Equal l_2) 46 0 2 (loopBody Tryd.prog 53 2) K) =
      ref5_insert_l2_b c_ref5_Compare c_ref5_Equal l_2 v5 v7 v8 v9 (fun (r0 : (List (Rose (Int × ((List Int) × Unit))))) (r1 : Int) (r2 : Int) (r3 : (List Int)) (r4 : (List (Rose (Int × ((List Int) × Unit))))) => K (.exit 0) [.sl (.rose (.pair (.int .i64) (.pair (.arr 4 (.int .u64)) .unit))) r0, .ptr 0 [], .int .i64 r1] [.box (.st [.int .i64 r2, .arr 4 (.int .u64) r3, .sl (.rose (.pair (.int .i64) (.pair (.arr 4 (.int .u64)) .unit))) r4]) false]) v6 := by kernel_rfl

theorem eq_ref5_insert {R : Type} (c_ref5_Compare : Int → (List Int) → (List (Rose (Int × ((List Int) × Unit)))) → Int → (List Int) → (List (Rose (Int × ((List Int) × Unit)))) → (Int → Option R) → Option R) (c_ref5_Equal : Int → (List Int) → (List (Rose (Int × ((List Int) × Unit)))) → Int → (List Int) → (List (Rose (Int × ((List Int) × Unit)))) → (Bool → Option R) → Option R) (l_2 : (List (Rose (Int × ((List Int) × Unit)))) → Int → (List Int) → (List (Rose (Int × ((List Int) × Unit)))) → ((List (Rose (Int × ((List Int) × Unit)))) → Int → Int → (List Int) → (List (Rose (Int × ((List Int) × Unit)))) → Option R) → Int → Option R) (v1 : (List (Rose (Int × ((List Int) × Unit))))) (v2 : Int) (v3 : (List Int)) (v4 : (List (Rose (Int × ((List Int) × Unit))))) (K : S → List Ent → Option R) :
    runK C_ref5_insert raw (cf_ref5_insert c_ref5_Compare c_ref5_Equal l_2) (lf_ref5_insert c_ref5_Compare c_ref5_Equal l_2) 53 [.sl (.rose (.pair (.int .i64) (.pair (.arr 4 (.int .u64)) .unit))) v1, .st [.int .i64 v2, .arr 4 (.int .u64) v3, .sl (.rose (.pair (.int .i64) (.pair (.arr 4 (.int .u64)) .unit))) v4]] [] K =
      ref5_insert_b c_ref5_Compare c_ref5_Equal l_2 v1 v2 v3 v4 (fun (r0 : (List (Rose (Int × ((List Int) × Unit))))) => K (.sl (.rose (.pair (.int .i64) (.pair (.arr 4 (.int .u64)) .unit))) r0) []) := by kernel_rfl

noncomputable def C_ref5_Alt : Ctx := { P := Tryd.prog, mv := [], pu := [2, 3], glob := glob, live := fun n => look n [(5, [2, 3, 4, 5, 6])], out := fun n => look n [(5, [2, 3, 4])], frz := fun n => look n [(5, [])], bef := fun n => look n [(11, [0, 0, 0, 6, 14, 30, 63, 127])] }

def cf_ref5_Alt {R : Type} (c_ref5_flat : Int → (List (Rose (Int × ((List Int) × Unit)))) → ((List (Rose (Int × ((List Int) × Unit)))) → Option R) → Option R) (c_ref1_Or : (List Int) → (List Int) → ((List Int) → Option R) → Option R) (c_ref5_Copy : Int → (List Int) → (List (Rose (Int × ((List Int) × Unit)))) → (Int → (List Int) → (List (Rose (Int × ((List Int) × Unit)))) → Option R) → Option R) (c_ref5_insert : (List (Rose (Int × ((List Int) × Unit)))) → Int → (List Int) → (List (Rose (Int × ((List Int) × Unit)))) → ((List (Rose (Int × ((List Int) × Unit)))) → Option R) → Option R) (c_ref5_Bytes : (List Int) → (Int → (List Int) → (List (Rose (Int × ((List Int) × Unit)))) → Option R) → Option R) (c_ref5_None : (Int → (List Int) → (List (Rose (Int × ((List Int) × Unit)))) → Option R) → Option R) (l_5 : Int → (List Int) → (List (Rose (Int × ((List Int) × Unit)))) → (List (Rose (Int × ((List Int) × Unit)))) → ((List (Rose (Int × ((List Int) × Unit)))) → Int → (List Int) → (List Int) → (List (Rose (Int × ((List Int) × Unit)))) → Option R) → (List (Rose (Int × ((List Int) × Unit)))) → Int → (List Int) → Option R) : CallF R := fun f av es K => iteH (decide (f = 51)) (sh51 c_ref5_flat av es K) (iteH (decide (f = 52)) (sh52 c_ref1_Or av es K) (iteH (decide (f = 11)) (sh11 c_ref5_Copy av es K) (iteH (decide (f = 53)) (sh53 c_ref5_insert av es K) (iteH (decide (f = 18)) (sh18 c_ref5_Bytes av es K) (iteH (decide (f = 33)) (sh33 c_ref5_None av es K) (none))))))

def sl_ref5_Alt_l5 {R : Type} (l_5 : Int → (List Int) → (List (Rose (Int × ((List Int) × Unit)))) → (List (Rose (Int × ((List Int) × Unit)))) → ((List (Rose (Int × ((List Int) × Unit)))) → Int → (List Int) → (List Int) → (List (Rose (Int × ((List Int) × Unit)))) → Option R) → (List (Rose (Int × ((List Int) × Unit)))) → Int → (List Int) → Option R) (vs : List S) (es : List Ent) (K : Out → List S → List Ent → Option R) : Option R :=
  match vs, es with
  | [.ptr 0 [], .sl (.rose (.pair (.int .i64) (.pair (.arr 4 (.int .u64)) .unit))) v3, .ptr 1 [], .own (.rose (.pair (.int .i64) (.pair (.arr 4 (.int .u64)) .unit))) 2, .int .i64 v4], [.box (.st [.int .i64 v5, .arr 4 (.int .u64) v6, .own (.rose (.pair (.int .i64) (.pair (.arr 4 (.int .u64)) .unit))) 3]) false, .box (.arr 4 (.int .u64) v7) false, .buf (.rose (.pair (.int .i64) (.pair (.arr 4 (.int .u64)) .unit))) v8 false, .buf (.rose (.pair (.int .i64) (.pair (.arr 4 (.int .u64)) .unit))) v9 false] => l_5 v5 v6 v8 v9 (fun (r0 : (List (Rose (Int × ((List Int) × Unit))))) (r1 : Int) (r2 : (List Int)) (r3 : (List Int)) (r4 : (List (Rose (Int × ((List Int) × Unit))))) => K (.exit 0) [.ptr 0 [], .sl (.rose (.pair (.int .i64) (.pair (.arr 4 (.int .u64)) .unit))) r0, .ptr 1 []] [.box (.st [.int .i64 r1, .arr 4 (.int .u64) r2, .own (.rose (.pair (.int .i64) (.pair (.arr 4 (.int .u64)) .unit))) 2]) false, .box (.arr 4 (.int .u64) r3) false, .buf (.rose (.pair (.int .i64) (.pair (.arr 4 (.int .u64)) .unit))) r4 false]) v3 v4 v7
  | _, _ => none

def lf_ref5_Alt {R : Type} (c_ref5_flat : Int → (List (Rose (Int × ((List Int) × Unit)))) → ((List (Rose (Int × ((List Int) × Unit)))) → Option R) → Option R) (c_ref1_Or : (List Int) → (List Int) → ((List Int) → Option R) → Option R) (c_ref5_Copy : Int → (List Int) → (List (Rose (Int × ((List Int) × Unit)))) → (Int → (List Int) → (List (Rose (Int × ((List Int) × Unit)))) → Option R) → Option R) (c_ref5_insert : (List (Rose (Int × ((List Int) × Unit)))) → Int → (List Int) → (List (Rose (Int × ((List Int) × Unit)))) → ((List (Rose (Int × ((List Int) × Unit)))) → Option R) → Option R) (c_ref5_Bytes : (List Int) → (Int → (List Int) → (List (Rose (Int × ((List Int) × Unit)))) → Option R) → Option R) (c_ref5_None : (Int → (List Int) → (List (Rose (Int × ((List Int) × Unit)))) → Option R) → Option R) (l_5 : Int → (List Int) → (List (Rose (Int × ((List Int) × Unit)))) → (List (Rose (Int × ((List Int) × Unit)))) → ((List (Rose (Int × ((List Int) × Unit)))) → Int → (List Int) → (List Int) → (List (Rose (Int × ((List Int) × Unit)))) → Option R) → (List (Rose (Int × ((List Int) × Unit)))) → Int → (List Int) → Option R) : LoopF R := fun m np id _ vs es K => iteH (decide (m = 57) && decide (np = 0)) (iteH (decide (id = 5)) (sl_ref5_Alt_l5 l_5 vs es K) (none)) none

theorem eq_ref5_Alt_l5 {R : Type} (c_ref5_flat : Int → (List (Rose (Int × ((List Int) × Unit)))) → ((List (Rose (Int × ((List Int) × Unit)))) → Option R) → Option R) (c_ref1_Or : (List Int) → (List Int) → ((List Int) → Option R) → Option R) (c_ref5_Copy : Int → (List Int) → (List (Rose (Int × ((List Int) × Unit)))) → (Int → (List Int) → (List (Rose (Int × ((List Int) × Unit)))) → Option R) → Option R) (c_ref5_insert : (List (Rose (Int × ((List Int) × Unit)))) → Int → (List Int) → (List (Rose (Int × ((List Int) × Unit)))) → ((List (Rose (Int × ((List Int) × Unit)))) → Option R) → Option R) (c_ref5_Bytes : (List Int) → (Int → (List Int) → (List (Rose (Int × ((List Int) × Unit)))) → Option R) → Option R) (c_ref5_None : (Int → (List Int) → (List (Rose (Int × ((List Int) × Unit)))) → Option R) → Option R) (l_5 : Int → (List Int) → (List (Rose (Int × ((List Int) × Unit)))) → (List (Rose (Int × ((List Int) × Unit)))) → ((List (Rose (Int × ((List Int) × Unit)))) → Int → (List Int) → (List Int) → (List (Rose (Int × ((List Int) × Unit)))) → Option R) → (List (Rose (Int × ((List Int) × Unit)))) → Int → (List Int) → Option R) (v3 : (List (Rose (Int × ((List Int) × Unit))))) (v4 : Int) (v5 : Int) (v6 : (List Int)) (v7 : (List Int)) (v8 : (List (Rose (Int × ((List Int) × Unit))))) (v9 : (List (Rose (Int × ((List Int) × Unit))))) (K : Out → List S → List Ent → Option R) :
    acodeK C_ref5_Alt raw (cf_ref5_Alt c_ref5_flat c_ref1_Or c_ref5_Copy c_ref5_insert c_ref5_Bytes c_ref5_None l_5) (lf_ref5_Alt c_ref5_flat c_ref1_Or c_ref5_Copy c_ref5_insert c_ref5_Bytes c_ref5_None l_5) (loopBody Tryd.prog 35 5) (placeSt 57 0 [2, 3, 4, 5, 6] [.ptr 0 [], .sl (.rose (.pair (.int .i64) (.pair (.arr 4 (.int .u64)) .unit))) v3, .ptr 1 [], .own (.rose (.pair (.int .i64) (.pair (.arr 4 (.int .u64)) .unit))) 2, .int .i64 v4] [.box (.st [.int .i64 v5, .arr 4 (.int .u64) v6, .own (.rose (.pair (.int .i64) (.pair (.arr 4 (.int .u64)) .unit))) 3]) false, .box (.arr 4 (.int .u64) v7) false, .buf (.rose (.pair (.int .i64) (.pair (.arr 4 (.int .u64)) .unit))) v8 false, .buf (.rose (.pair (.int .i64) (.pair (.arr 4 (.int .u64)) .unit))) v9 false]) (loopKont C_ref5_Alt (lf_ref5_Alt c_ref5_flat c_ref1_Or c_ref5_Copy c_ref5_insert c_ref5_Bytes c_ref5_None l_5) 57 0 5 (loopBody Tryd.prog 35 5) K) =
      ref5_Alt_l5_b c_ref5_flat c_ref1_Or c_ref5_Copy c_ref5_insert c_ref5_Bytes c_ref5_None l_5 v5 v6 v8 v9 (fun (r0 : (List (Rose (Int × ((List Int) × Unit))))) (r1 : Int) (r2 : (List Int)) (r3 : (List Int)) (r4 : (List (Rose (Int × ((List Int) × Unit))))) => K (.exit 0) [.ptr 0 [], .sl (.rose (.pair (.int .i64) (.pair (.arr 4 (.int .u64)) .unit))) r0, .ptr 1 []] [.box (.st [.int .i64 r1, .arr 4 (.int .u64) r2, .own (.rose (.pair (.int .i64) (.pair (.arr 4 (.int .u64)) .unit))) 2]) false, .box (.arr 4 (.int .u64) r3) false, .buf (.rose (.pair (.int .i64) (.pair (.arr 4 (.int .u64)) .unit))) r4 false]) v3 v4 v7 := by kernel_rfl

theorem eq_ref5_Alt {R : Type} (c_ref5_flat : Int → (List (Rose (Int × ((List Int) × Unit)))) → ((List (Rose (Int × ((List Int) × Unit)))) → Option R) → Option R) (c_ref1_Or : (List Int) → (List Int) → ((List Int) → Option R) → Option R) (c_ref5_Copy : Int → (List Int) → (List (Rose (Int × ((List Int) × Unit)))) → (Int → (List Int) → (List (Rose (Int × ((List Int) × Unit)))) → Option R) → Option R) (c_ref5_insert : (List (Rose (Int × ((List Int) × Unit)))) → Int → (List Int) → (List (Rose (Int × ((List Int) × Unit)))) → ((List (Rose (Int × ((List Int) × Unit)))) → Option R) → Option R) (c_ref5_Bytes : (List Int) → (Int → (List Int) → (List (Rose (Int × ((List Int) × Unit)))) → Option R) → Option R) (c_ref5_None : (Int → (List Int) → (List (Rose (Int × ((List Int) × Unit)))) → Option R) → Option R) (l_5 : Int → (List Int) → (List (Rose (Int × ((List Int) × Unit)))) → (List (Rose (Int × ((List Int) × Unit)))) → ((List (Rose (Int × ((List Int) × Unit)))) → Int → (List Int) → (List Int) → (List (Rose (Int × ((List Int) × Unit)))) → Option R) → (List (Rose (Int × ((List Int) × Unit)))) → Int → (List Int) → Option R) (v1 : (List (Rose (Int × ((List Int) × Unit))))) (K : S → List Ent → Option R) :
    runK C_ref5_Alt raw (cf_ref5_Alt c_ref5_flat c_ref1_Or c_ref5_Copy c_ref5_insert c_ref5_Bytes c_ref5_None l_5) (lf_ref5_Alt c_ref5_flat c_ref1_Or c_ref5_Copy c_ref5_insert c_ref5_Bytes c_ref5_None l_5) 35 [.sl (.rose (.pair (.int .i64) (.pair (.arr 4 (.int .u64)) .unit))) v1] [] K =
      ref5_Alt_b c_ref5_flat c_ref1_Or c_ref5_Copy c_ref5_insert c_ref5_Bytes c_ref5_None l_5 v1 (fun (r0 : Int) (r1 : (List Int)) (r2 : (List (Rose (Int × ((List Int) × Unit))))) => K (.st [.int .i64 r0, .arr 4 (.int .u64) r1, .sl (.rose (.pair (.int .i64) (.pair (.arr 4 (.int .u64)) .unit))) r2]) []) := by kernel_rfl

noncomputable def C_ref5_Star : Ctx := { P := Tryd.prog, mv := [], pu := [], glob := glob, live := fun n => look n [(10, [1, 2, 3, 4])], out := fun n => look n [(10, [1, 2, 3])], frz := fun n => look n [(10, [])], bef := fun n => look n [] }

def cf_ref5_Star {R : Type} (c_ref5_Copy : Int → (List Int) → (List (Rose (Int × ((List Int) × Unit)))) → (Int → (List Int) → (List (Rose (Int × ((List Int) × Unit)))) → Option R) → Option R) (c_ref5_Empty : (Int → (List Int) → (List (Rose (Int × ((List Int) × Unit)))) → Option R) → Option R) (c_ref5_Alt : (List (Rose (Int × ((List Int) × Unit)))) → (Int → (List Int) → (List (Rose (Int × ((List Int) × Unit)))) → Option R) → Option R) (c_ref5_Star : Int → (List Int) → (List (Rose (Int × ((List Int) × Unit)))) → (Int → (List Int) → (List (Rose (Int × ((List Int) × Unit)))) → Option R) → Option R) (l_10 : Int → (List Int) → (List (Rose (Int × ((List Int) × Unit)))) → Int → (List Int) → (List (Rose (Int × ((List Int) × Unit)))) → (Int → (List Int) → (List (Rose (Int × ((List Int) × Unit)))) → Int → (List Int) → (List (Rose (Int × ((List Int) × Unit)))) → (List (Rose (Int × ((List Int) × Unit)))) → Option R) → Int → (List (Rose (Int × ((List Int) × Unit)))) → Option R) : CallF R := fun f av es K => iteH (decide (f = 11)) (sh11 c_ref5_Copy av es K) (iteH (decide (f = 22)) (sh22 c_ref5_Empty av es K) (iteH (decide (f = 35)) (sh35 c_ref5_Alt av es K) (iteH (decide (f = 21)) (sh21 c_ref5_Star av es K) (none))))

def sl_ref5_Star_l10 {R : Type} (l_10 : Int → (List Int) → (List (Rose (Int × ((List Int) × Unit)))) → Int → (List Int) → (List (Rose (Int × ((List Int) × Unit)))) → (Int → (List Int) → (List (Rose (Int × ((List Int) × Unit)))) → Int → (List Int) → (List (Rose (Int × ((List Int) × Unit)))) → (List (Rose (Int × ((List Int) × Unit)))) → Option R) → Int → (List (Rose (Int × ((List Int) × Unit)))) → Option R) (vs : List S) (es : List Ent) (K : Out → List S → List Ent → Option R) : Option R :=
  match vs, es with
  | [.ptr 0 [], .ptr 1 [], .own (.rose (.pair (.int .i64) (.pair (.arr 4 (.int .u64)) .unit))) 2, .int .i64 v11], [.box (.st [.int .i64 v12, .arr 4 (.int .u64) v13, .sl (.rose (.pair (.int .i64) (.pair (.arr 4 (.int .u64)) .unit))) v14]) false, .box (.st [.int .i64 v15, .arr 4 (.int .u64) v16, .own (.rose (.pair (.int .i64) (.pair (.arr 4 (.int .u64)) .unit))) 3]) false, .buf (.rose (.pair (.int .i64) (.pair (.arr 4 (.int .u64)) .unit))) v17 false, .buf (.rose (.pair (.int .i64) (.pair (.arr 4 (.int .u64)) .unit))) v18 false] => l_10 v12 v13 v14 v15 v16 v18 (fun (r0 : Int) (r1 : (List Int)) (r2 : (List (Rose (Int × ((List Int) × Unit))))) (r3 : Int) (r4 : (List Int)) (r5 : (List (Rose (Int × ((List Int) × Unit))))) (r6 : (List (Rose (Int × ((List Int) × Unit))))) => K (.exit 1) [.ptr 0 [], .ptr 1 [], .own (.rose (.pair (.int .i64) (.pair (.arr 4 (.int .u64)) .unit))) 2] [.box (.st [.int .i64 r0, .arr 4 (.int .u64) r1, .sl (.rose (.pair (.int .i64) (.pair (.arr 4 (.int .u64)) .unit))) r2]) false, .box (.st [.int .i64 r3, .arr 4 (.int .u64) r4, .own (.rose (.pair (.int .i64) (.pair (.arr 4 (.int .u64)) .unit))) 3]) false, .buf (.rose (.pair (.int .i64) (.pair (.arr 4 (.int .u64)) .unit))) r5 false, .buf (.rose (.pair (.int .i64) (.pair (.arr 4 (.int .u64)) .unit))) r6 false]) v11 v17
  | _, _ => none

def lf_ref5_Star {R : Type} (c_ref5_Copy : Int → (List Int) → (List (Rose (Int × ((List Int) × Unit)))) → (Int → (List Int) → (List (Rose (Int × ((List Int) × Unit)))) → Option R) → Option R) (c_ref5_Empty : (Int → (List Int) → (List (Rose (Int × ((List Int) × Unit)))) → Option R) → Option R) (c_ref5_Alt : (List (Rose (Int × ((List Int) × Unit)))) → (Int → (List Int) → (List (Rose (Int × ((List Int) × Unit)))) → Option R) → Option R) (c_ref5_Star : Int → (List Int) → (List (Rose (Int × ((List Int) × Unit)))) → (Int → (List Int) → (List (Rose (Int × ((List Int) × Unit)))) → Option R) → Option R) (l_10 : Int → (List Int) → (List (Rose (Int × ((List Int) × Unit)))) → Int → (List Int) → (List (Rose (Int × ((List Int) × Unit)))) → (Int → (List Int) → (List (Rose (Int × ((List Int) × Unit)))) → Int → (List Int) → (List (Rose (Int × ((List Int) × Unit)))) → (List (Rose (Int × ((List Int) × Unit)))) → Option R) → Int → (List (Rose (Int × ((List Int) × Unit)))) → Option R) : LoopF R := fun m np id _ vs es K => iteH (decide (m = 52) && decide (np = 0)) (iteH (decide (id = 10)) (sl_ref5_Star_l10 l_10 vs es K) (none)) none

theorem eq_ref5_Star_l10 {R : Type} (c_ref5_Copy : Int → (List Int) → (List (Rose (Int × ((List Int) × Unit)))) → (Int → (List Int) → (List (Rose (Int × ((List Int) × Unit)))) → Option R) → Option R) (c_ref5_Empty : (Int → (List Int) → (List (Rose (Int × ((List Int) × Unit)))) → Option R) → Option R) (c_ref5_Alt : (List (Rose (Int × ((List Int) × Unit)))) → (Int → (List Int) → (List (Rose (Int × ((List Int) × Unit)))) → Option R) → Option R) (c_ref5_Star : Int → (List Int) → (List (Rose (Int × ((List Int) × Unit)))) → (Int → (List Int) → (List (Rose (Int × ((List Int) × Unit)))) → Option R) → Option R) (l_10 : Int → (List Int) → (List (Rose (Int × ((List Int) × Unit)))) → Int → (List Int) → (List (Rose (Int × ((List Int) × Unit)))) → (Int → (List Int) → (List (Rose (Int × ((List Int) × Unit)))) → Int → (List Int) → (List (Rose (Int × ((List Int) × Unit)))) → (List (Rose (Int × ((List Int) × Unit)))) → Option R) → Int → (List (Rose (Int × ((List Int) × Unit)))) → Option R) (v11 : Int) (v12 : Int) (v13 : (List Int)) (v14 : (List (Rose (Int × ((List Int) × Unit))))) (v15 : Int) (v16 : (List Int)) (v17 : (List (Rose (Int × ((List Int) × Unit))))) (v18 : (List (Rose (Int × ((List Int) × Unit))))) (K : Out → List S → List Ent → Option R) :
    acodeK C_ref5_Star raw (cf_ref5_Star c_ref5_Copy c_ref5_Empty c_ref5_Alt c_ref5_Star l_10) (lf_ref5_Star c_ref5_Copy c_ref5_Empty c_ref5_Alt c_ref5_Star l_10) (loopBody Tryd.prog 21 10) (placeSt 52 0 [1, 2, 3, 4] [.ptr 0 [], .ptr 1 [], .own (.rose (.pair (.int .i64) (.pair (.arr 4 (.int .u64)) .unit))) 2, .int .i64 v11] [.box (.st [.int .i64 v12, .arr 4 (.int .u64) v13, .sl (.rose (.pair (.int .i64) (.pair (.arr 4 (.int .u64)) .unit))) v14]) false, .box (.st [.int .i64 v15, .arr 4 (.int .u64) v16, .own (.rose (.pair (.int .i64) (.pair (.arr 4 (.int .u64)) .unit))) 3]) false, .buf (.rose (.pair (.int .i64) (.pair (.arr 4 (.int .u64)) .unit))) v17 false, .buf (.rose (.pair (.int .i64) (.pair (.arr 4 (.int .u64)) .unit))) v18 false]) (loopKont C_ref5_Star (lf_ref5_Star c_ref5_Copy c_ref5_Empty c_ref5_Alt c_ref5_Star l_10) 52 0 10 (loopBody Tryd.prog 21 10) K) =
      ref5_Star_l10_b c_ref5_Copy c_ref5_Empty c_ref5_Alt c_ref5_Star l_10 v12 v13 v14 v15 v16 v18 (fun (r0 : Int) (r1 : (List Int)) (r2 : (List (Rose (Int × ((List Int) × Unit))))) (r3 : Int) (r4 : (List Int)) (r5 : (List (Rose (Int × ((List Int) × Unit))))) (r6 : (List (Rose (Int × ((List Int) × Unit))))) => K (.exit 1) [.ptr 0 [], .ptr 1 [], .own (.rose (.pair (.int .i64) (.pair (.arr 4 (.int .u64)) .unit))) 2] [.box (.st [.int .i64 r0, .arr 4 (.int .u64) r1, .sl (.rose (.pair (.int .i64) (.pair (.arr 4 (.int .u64)) .unit))) r2]) false, .box (.st [.int .i64 r3, .arr 4 (.int .u64) r4, .own (.rose (.pair (.int .i64) (.pair (.arr 4 (.int .u64)) .unit))) 3]) false, .buf (.rose (.pair (.int .i64) (.pair (.arr 4 (.int .u64)) .unit))) r5 false, .buf (.rose (.pair (.int .i64) (.pair (.arr 4 (.int .u64)) .unit))) r6 false]) v11 v17 := by kernel_rfl

theorem eq_ref5_Star {R : Type} (c_ref5_Copy : Int → (List Int) → (List (Rose (Int × ((List Int) × Unit)))) → (Int → (List Int) → (List (Rose (Int × ((List Int) × Unit)))) → Option R) → Option R) (c_ref5_Empty : (Int → (List Int) → (List (Rose (Int × ((List Int) × Unit)))) → Option R) → Option R) (c_ref5_Alt : (List (Rose (Int × ((List Int) × Unit)))) → (Int → (List Int) → (List (Rose (Int × ((List Int) × Unit)))) → Option R) → Option R) (c_ref5_Star : Int → (List Int) → (List (Rose (Int × ((List Int) × Unit)))) → (Int → (List Int) → (List (Rose (Int × ((List Int) × Unit)))) → Option R) → Option R) (l_10 : Int → (List Int) → (List (Rose (Int × ((List Int) × Unit)))) → Int → (List Int) → (List (Rose (Int × ((List Int) × Unit)))) → (Int → (List Int) → (List (Rose (Int × ((List Int) × Unit)))) → Int → (List Int) → (List (Rose (Int × ((List Int) × Unit)))) → (List (Rose (Int × ((List Int) × Unit)))) → Option R) → Int → (List (Rose (Int × ((List Int) × Unit)))) → Option R) (v1 : Int) (v2 : (List Int)) (v3 : (List (Rose (Int × ((List Int) × Unit))))) (K : S → List Ent → Option R) :
    runK C_ref5_Star raw (cf_ref5_Star c_ref5_Copy c_ref5_Empty c_ref5_Alt c_ref5_Star l_10) (lf_ref5_Star c_ref5_Copy c_ref5_Empty c_ref5_Alt c_ref5_Star l_10) 21 [.st [.int .i64 v1, .arr 4 (.int .u64) v2, .sl (.rose (.pair (.int .i64) (.pair (.arr 4 (.int .u64)) .unit))) v3]] [] K =
      ref5_Star_b c_ref5_Copy c_ref5_Empty c_ref5_Alt c_ref5_Star l_10 v1 v2 v3 (fun (r0 : Int) (r1 : (List Int)) (r2 : (List (Rose (Int × ((List Int) × Unit))))) => K (.st [.int .i64 r0, .arr 4 (.int .u64) r1, .own (.rose (.pair (.int .i64) (.pair (.arr 4 (.int .u64)) .unit))) 0]) [.buf (.rose (.pair (.int .i64) (.pair (.arr 4 (.int .u64)) .unit))) r2 false]) := by kernel_rfl

noncomputable def C_slices_Index_int_int : Ctx := { P := Tryd.prog, mv := [], pu := [], glob := glob, live := fun n => look n [(2, [0, 1, 7, 8])], out := fun n => look n [(2, [4])], frz := fun n => look n [(2, [])], bef := fun n => look n [] }

def cf_slices_Index_int_int {R : Type} (l_2 : (List Int) → Int → Int → (Int → Option R) → (Option R) → Int → Option R) : CallF R := fun f av es K => none

def sl_slices_Index_int_int_l2 {R : Type} (l_2 : (List Int) → Int → Int → (Int → Option R) → (Option R) → Int → Option R) (vs : List S) (es : List Ent) (K : Out → List S → List Ent → Option R) : Option R :=
  match vs, es with
  | [.sl (.int .i64) v3, .int .i64 v4, .int .i64 v5, .int .i64 v6], [] => l_2 v3 v4 v5 (fun (r0 : Int) => K .ret [.int .i64 r0] []) (K (.exit 0) [.junk] []) v6
  | _, _ => none

def lf_slices_Index_int_int {R : Type} (l_2 : (List Int) → Int → Int → (Int → Option R) → (Option R) → Int → Option R) : LoopF R := fun m np id _ vs es K => iteH (decide (m = 19) && decide (np = 0)) (iteH (decide (id = 2)) (sl_slices_Index_int_int_l2 l_2 vs es K) (none)) none

theorem eq_slices_Index_int_int_l2 {R : Type} (l_2 : (List Int) → Int → Int → (Int → Option R) → (Option R) → Int → Option R) (v3 : (List Int)) (v4 : Int) (v5 : Int) (v6 : Int) (K : Out → List S → List Ent → Option R) :
    acodeK C_slices_Index_int_int raw (cf_slices_Index_int_int l_2) (lf_slices_Index_int_int l_2) (loopBody Tryd.prog 69 2) (placeSt 19 0 [0, 1, 7, 8] [.sl (.int .i64) v3, .int .i64 v4, .int .i64 v5, .int .i64 v6] []) (loopKont C_slices_Index_int_int (lf_slices_Index_int_int l_2) 19 0 2 (loopBody Tryd.prog 69 2) K) =
      slices_Index_int_int_l2_b l_2 v3 v4 v5 (fun (r0 : Int) => K .ret [.int .i64 r0] []) (K (.exit 0) [.junk] []) v6 := by kernel_rfl

theorem eq_slices_Index_int_int {R : Type} (l_2 : (List Int) → Int → Int → (Int → Option R) → (Option R) → Int → Option R) (v1 : (List Int)) (v2 : Int) (K : S → List Ent → Option R) :
    runK C_slices_Index_int_int raw (cf_slices_Index_int_int l_2) (lf_slices_Index_int_int l_2) 69 [.sl (.int .i64) v1, .int .i64 v2] [] K =
      slices_Index_int_int_b l_2 v1 v2 (fun (r0 : Int) => K (.int .i64 r0) []) := by kernel_rfl

noncomputable def C_slices_Contains_int_int : Ctx := { P := Tryd.prog, mv := [], pu := [], glob := glob, live := fun n => look n [], out := fun n => look n [], frz := fun n => look n [], bef := fun n => look n [] }

def cf_slices_Contains_int_int {R : Type} (c_slices_Index_int_int : (List Int) → Int → (Int → Option R) → Option R) : CallF R := fun f av es K => iteH (decide (f = 69)) (sh69 c_slices_Index_int_int av es K) (none)

def lf_slices_Contains_int_int {R : Type} (c_slices_Index_int_int : (List Int) → Int → (Int → Option R) → Option R) : LoopF R := fun m np id _ vs es K => none

theorem eq_slices_Contains_int_int {R : Type} (c_slices_Index_int_int : (List Int) → Int → (Int → Option R) → Option R) (v1 : (List Int)) (v2 : Int) (K : S → List Ent → Option R) :
    runK C_slices_Contains_int_int raw (cf_slices_Contains_int_int c_slices_Index_int_int) (lf_slices_Contains_int_int c_slices_Index_int_int) 55 [.sl (.int .i64) v1, .int .i64 v2] [] K =
      slices_Contains_int_int_b c_slices_Index_int_int v1 v2 (fun (r0 : Bool) => K (.bool r0) []) := by kernel_rfl

noncomputable def C_rx_bad_1 : Ctx := { P := Tryd.prog, mv := [], pu := [], glob := glob, live := fun n => look n [], out := fun n => look n [], frz := fun n => look n [], bef := fun n => look n [] }

def cf_rx_bad_1 {R : Type} (c_slices_Contains_int_int : (List Int) → Int → (Bool → Option R) → Option R) : CallF R := fun f av es K => iteH (decide (f = 55)) (sh55 c_slices_Contains_int_int av es K) (none)

def lf_rx_bad_1 {R : Type} (c_slices_Contains_int_int : (List Int) → Int → (Bool → Option R) → Option R) : LoopF R := fun m np id _ vs es K => none

theorem eq_rx_bad_1 {R : Type} (c_slices_Contains_int_int : (List Int) → Int → (Bool → Option R) → Option R) (v1 : Int) (v2 : (List Int)) (v3 : (List (Rose (Int × ((List Int) × Unit))))) (v4 : (List Int)) (K : S → List Ent → Option R) :
    runK C_rx_bad_1 raw (cf_rx_bad_1 c_slices_Contains_int_int) (lf_rx_bad_1 c_slices_Contains_int_int) 54 [.st [.int .i64 v1, .arr 4 (.int .u64) v2, .sl (.rose (.pair (.int .i64) (.pair (.arr 4 (.int .u64)) .unit))) v3], .ptr 0 []] [.box (.sl (.int .i64) v4) false] K =
      rx_bad_1_b c_slices_Contains_int_int v1 v2 v3 v4 (fun (r0 : Bool) (r1 : (List Int)) => K (.bool r0) [.box (.sl (.int .i64) r1) false]) := by kernel_rfl

noncomputable def C_slices_IndexFunc_api_Rx_api_Rx : Ctx := { P := Tryd.prog, mv := [], pu := [], glob := glob, live := fun n => look n [(2, [0, 1, 7, 8])], out := fun n => look n [(2, [4])], frz := fun n => look n [(2, [])], bef := fun n => look n [] }

def cf_slices_IndexFunc_api_Rx_api_Rx {R : Type} (c_rx_bad_1 : Int → (List Int) → (List (Rose (Int × ((List Int) × Unit)))) → (List Int) → (Bool → (List Int) → Option R) → Option R) (l_2 : (List (Rose (Int × ((List Int) × Unit)))) → Int → (Int → (List Int) → Option R) → ((List Int) → Option R) → Int → (List Int) → Option R) : CallF R := fun f av es K => iteH (decide (f = 54)) (sh54 c_rx_bad_1 av es K) (none)

def sl_slices_IndexFunc_api_Rx_api_Rx_l2 {R : Type} (l_2 : (List (Rose (Int × ((List Int) × Unit)))) → Int → (Int → (List Int) → Option R) → ((List Int) → Option R) → Int → (List Int) → Option R) (vs : List S) (es : List Ent) (K : Out → List S → List Ent → Option R) : Option R :=
  match vs, es with
  | [.sl (.rose (.pair (.int .i64) (.pair (.arr 4 (.int .u64)) .unit))) v3, .fn 54 [.ptr 0 []], .int .i64 v4, .int .i64 v5], [.box (.sl (.int .i64) v6) false] => l_2 v3 v4 (fun (r0 : Int) (r1 : (List Int)) => K .ret [.int .i64 r0] [.box (.sl (.int .i64) r1) false]) (fun (r0 : (List Int)) => K (.exit 0) [.junk] [.box (.sl (.int .i64) r0) false]) v5 v6
  | _, _ => none

def lf_slices_IndexFunc_api_Rx_api_Rx {R : Type} (c_rx_bad_1 : Int → (List Int) → (List (Rose (Int × ((List Int) × Unit)))) → (List Int) → (Bool → (List Int) → Option R) → Option R) (l_2 : (List (Rose (Int × ((List Int) × Unit)))) → Int → (Int → (List Int) → Option R) → ((List Int) → Option R) → Int → (List Int) → Option R) : LoopF R := fun m np id _ vs es K => iteH (decide (m = 19) && decide (np = 1)) (iteH (decide (id = 2)) (sl_slices_IndexFunc_api_Rx_api_Rx_l2 l_2 vs es K) (none)) none

theorem eq_slices_IndexFunc_api_Rx_api_Rx_l2 {R : Type} (c_rx_bad_1 : Int → (List Int) → (List (Rose (Int × ((List Int) × Unit)))) → (List Int) → (Bool → (List Int) → Option R) → Option R) (l_2 : (List (Rose (Int × ((List Int) × Unit)))) → Int → (Int → (List Int) → Option R) → ((List Int) → Option R) → Int → (List Int) → Option R) (v3 : (List (Rose (Int × ((List Int) × Unit))))) (v4 : Int) (v5 : Int) (v6 : (List Int)) (K : Out → List S → List Ent → Option R) :
    acodeK C_slices_IndexFunc_api_Rx_api_Rx raw (cf_slices_IndexFunc_api_Rx_api_Rx c_rx_bad_1 l_2) (lf_slices_IndexFunc_api_Rx_api_Rx c_rx_bad_1 l_2) (loopBody Tryd.prog 58 2) (placeSt 19 1 [0, 1, 7, 8] [.sl (.rose (.pair (.int .i64) (.pair (.arr 4 (.int .u64)) .unit))) v3, .fn 54 [.ptr 0 []], .int .i64 v4, .int .i64 v5] [.box (.sl (.int .i64) v6) false]) (loopKont C_slices_IndexFunc_api_Rx_api_Rx (lf_slices_IndexFunc_api_Rx_api_Rx c_rx_bad_1 l_2) 19 1 2 (loopBody Tryd.prog 58 2) K) =
      slices_IndexFunc_api_Rx_api_Rx_l2_b c_rx_bad_1 l_2 v3 v4 (fun (r0 : Int) (r1 : (List Int)) => K .ret [.int .i64 r0] [.box (.sl (.int .i64) r1) false]) (fun (r0 : (List Int)) => K (.exit 0) [.junk] [.box (.sl (.int .i64) r0) false]) v5 v6 := by kernel_rfl

theorem eq_slices_IndexFunc_api_Rx_api_Rx {R : Type} (c_rx_bad_1 : Int → (List Int) → (List (Rose (Int × ((List Int) × Unit)))) → (List Int) → (Bool → (List Int) → Option R) → Option R) (l_2 : (List (Rose (Int × ((List Int) × Unit)))) → Int → (Int → (List Int) → Option R) → ((List Int) → Option R) → Int → (List Int) → Option R) (v1 : (List (Rose (Int × ((List Int) × Unit))))) (v2 : (List Int)) (K : S → List Ent → Option R) :
    runK C_slices_IndexFunc_api_Rx_api_Rx raw (cf_slices_IndexFunc_api_Rx_api_Rx c_rx_bad_1 l_2) (lf_slices_IndexFunc_api_Rx_api_Rx c_rx_bad_1 l_2) 58 [.sl (.rose (.pair (.int .i64) (.pair (.arr 4 (.int .u64)) .unit))) v1, .fn 54 [.ptr 0 []]] [.box (.sl (.int .i64) v2) false] K =
      slices_IndexFunc_api_Rx_api_Rx_b c_rx_bad_1 l_2 v1 v2 (fun (r0 : Int) (r1 : (List Int)) => K (.int .i64 r0) [.box (.sl (.int .i64) r1) false]) := by kernel_rfl

noncomputable def C_slices_ContainsFunc_api_Rx_api_Rx : Ctx := { P := Tryd.prog, mv := [], pu := [], glob := glob, live := fun n => look n [], out := fun n => look n [], frz := fun n => look n [], bef := fun n => look n [] }

def cf_slices_ContainsFunc_api_Rx_api_Rx {R : Type} (c_slices_IndexFunc_api_Rx_api_Rx : (List (Rose (Int × ((List Int) × Unit)))) → (List Int) → (Int → (List Int) → Option R) → Option R) : CallF R := fun f av es K => iteH (decide (f = 58)) (sh58 c_slices_IndexFunc_api_Rx_api_Rx (fun _ _ => none) av es K) (none)

def lf_slices_ContainsFunc_api_Rx_api_Rx {R : Type} (c_slices_IndexFunc_api_Rx_api_Rx : (List (Rose (Int × ((List Int) × Unit)))) → (List Int) → (Int → (List Int) → Option R) → Option R) : LoopF R := fun m np id _ vs es K => none

theorem eq_slices_ContainsFunc_api_Rx_api_Rx {R : Type} (c_slices_IndexFunc_api_Rx_api_Rx : (List (Rose (Int × ((List Int) × Unit)))) → (List Int) → (Int → (List Int) → Option R) → Option R) (v1 : (List (Rose (Int × ((List Int) × Unit))))) (v2 : (List Int)) (K : S → List Ent → Option R) :
    runK C_slices_ContainsFunc_api_Rx_api_Rx raw (cf_slices_ContainsFunc_api_Rx_api_Rx c_slices_IndexFunc_api_Rx_api_Rx) (lf_slices_ContainsFunc_api_Rx_api_Rx c_slices_IndexFunc_api_Rx_api_Rx) 38 [.sl (.rose (.pair (.int .i64) (.pair (.arr 4 (.int .u64)) .unit))) v1, .fn 54 [.ptr 0 []]] [.box (.sl (.int .i64) v2) false] K =
      slices_ContainsFunc_api_Rx_api_Rx_b c_slices_IndexFunc_api_Rx_api_Rx v1 v2 (fun (r0 : Bool) (r1 : (List Int)) => K (.bool r0) [.box (.sl (.int .i64) r1) false]) := by kernel_rfl

noncomputable def C_rx_bad : Ctx := { P := Tryd.prog, mv := [], pu := [], glob := glob, live := fun n => look n [], out := fun n => look n [], frz := fun n => look n [], bef := fun n => look n [] }

def cf_rx_bad {R : Type} (c_slices_ContainsFunc_api_Rx_api_Rx : (List (Rose (Int × ((List Int) × Unit)))) → (List Int) → (Bool → (List Int) → Option R) → Option R) : CallF R := fun f av es K => iteH (decide (f = 38)) (sh38 c_slices_ContainsFunc_api_Rx_api_Rx (fun _ _ => none) av es K) (none)

def lf_rx_bad {R : Type} (c_slices_ContainsFunc_api_Rx_api_Rx : (List (Rose (Int × ((List Int) × Unit)))) → (List Int) → (Bool → (List Int) → Option R) → Option R) : LoopF R := fun m np id _ vs es K => none

theorem eq_rx_bad {R : Type} (c_slices_ContainsFunc_api_Rx_api_Rx : (List (Rose (Int × ((List Int) × Unit)))) → (List Int) → (Bool → (List Int) → Option R) → Option R) (v1 : (List (Rose (Int × ((List Int) × Unit))))) (v2 : (List Int)) (K : S → List Ent → Option R) :
    runK C_rx_bad raw (cf_rx_bad c_slices_ContainsFunc_api_Rx_api_Rx) (lf_rx_bad c_slices_ContainsFunc_api_Rx_api_Rx) 36 [.sl (.rose (.pair (.int .i64) (.pair (.arr 4 (.int .u64)) .unit))) v1, .sl (.int .i64) v2] [] K =
      rx_bad_b c_slices_ContainsFunc_api_Rx_api_Rx v1 v2 (fun (r0 : Bool) => K (.bool r0) []) := by kernel_rfl

noncomputable def C_rx_isSet : Ctx := { P := Tryd.prog, mv := [], pu := [], glob := glob, live := fun n => look n [], out := fun n => look n [], frz := fun n => look n [], bef := fun n => look n [] }

def cf_rx_isSet {R : Type} : CallF R := fun f av es K => none

def lf_rx_isSet {R : Type} : LoopF R := fun m np id _ vs es K => none

theorem eq_rx_isSet {R : Type} (v1 : Int) (v2 : (List Int)) (v3 : (List (Rose (Int × ((List Int) × Unit))))) (K : S → List Ent → Option R) :
    runK C_rx_isSet raw (cf_rx_isSet) (lf_rx_isSet) 56 [.st [.int .i64 v1, .arr 4 (.int .u64) v2, .sl (.rose (.pair (.int .i64) (.pair (.arr 4 (.int .u64)) .unit))) v3]] [] K =
      rx_isSet_b v1 v2 v3 (fun (r0 : Bool) => K (.bool r0) []) := by kernel_rfl

noncomputable def C_cmp_isNaN_int : Ctx := { P := Tryd.prog, mv := [], pu := [], glob := glob, live := fun n => look n [], out := fun n => look n [], frz := fun n => look n [], bef := fun n => look n [] }

def cf_cmp_isNaN_int {R : Type} : CallF R := fun f av es K => none

def lf_cmp_isNaN_int {R : Type} : LoopF R := fun m np id _ vs es K => none

theorem eq_cmp_isNaN_int {R : Type} (v1 : Int) (K : S → List Ent → Option R) :
    runK C_cmp_isNaN_int raw (cf_cmp_isNaN_int) (lf_cmp_isNaN_int) 80 [.int .i64 v1] [] K =
      cmp_isNaN_int_b v1 (fun (r0 : Bool) => K (.bool r0) []) := by kernel_rfl

noncomputable def C_cmp_Compare_int : Ctx := { P := Tryd.prog, mv := [], pu := [], glob := glob, live := fun n => look n [], out := fun n => look n [], frz := fun n => look n [], bef := fun n => look n [] }

def cf_cmp_Compare_int {R : Type} (c_cmp_isNaN_int : Int → (Bool → Option R) → Option R) : CallF R := fun f av es K => iteH (decide (f = 80)) (sh80 c_cmp_isNaN_int av es K) (none)

def lf_cmp_Compare_int {R : Type} (c_cmp_isNaN_int : Int → (Bool → Option R) → Option R) : LoopF R := fun m np id _ vs es K => none

theorem eq_cmp_Compare_int {R : Type} (c_cmp_isNaN_int : Int → (Bool → Option R) → Option R) (v1 : Int) (v2 : Int) (K : S → List Ent → Option R) :
    runK C_cmp_Compare_int raw (cf_cmp_Compare_int c_cmp_isNaN_int) (lf_cmp_Compare_int c_cmp_isNaN_int) 70 [.int .i64 v1, .int .i64 v2] [] K =
      cmp_Compare_int_b c_cmp_isNaN_int v1 v2 (fun (r0 : Int) => K (.int .i64 r0) []) := by kernel_rfl

noncomputable def C_math_bits_TrailingZeros64 : Ctx := { P := Tryd.prog, mv := [], pu := [], glob := glob, live := fun n => look n [], out := fun n => look n [], frz := fun n => look n [], bef := fun n => look n [] }

def cf_math_bits_TrailingZeros64 {R : Type} : CallF R := fun f av es K => none

def lf_math_bits_TrailingZeros64 {R : Type} : LoopF R := fun m np id _ vs es K => none

theorem eq_math_bits_TrailingZeros64 {R : Type} (v1 : Int) (K : S → List Ent → Option R) :
    runK C_math_bits_TrailingZeros64 raw (cf_math_bits_TrailingZeros64) (lf_math_bits_TrailingZeros64) 81 [.int .u64 v1] [] K =
      math_bits_TrailingZeros64_b v1 (fun (r0 : Int) => K (.int .i64 r0) []) := by kernel_rfl

noncomputable def C_byteset_Less : Ctx := { P := Tryd.prog, mv := [], pu := [], glob := glob, live := fun n => look n [(2, [2, 3, 7])], out := fun n => look n [(2, [4])], frz := fun n => look n [(2, [])], bef := fun n => look n [(4, [0, 1, 3, 0, 8, 24, 63, 127]), (6, [0, 1, 3, 0, 8, 31, 63, 127, 255])] }

def cf_byteset_Less {R : Type} (c_math_bits_TrailingZeros64 : Int → (Int → Option R) → Option R) (l_2 : (List Int) → (List Int) → (Bool → Option R) → (Option R) → Int → Option R) : CallF R := fun f av es K => iteH (decide (f = 81)) (sh81 c_math_bits_TrailingZeros64 av es K) (none)

def sl_byteset_Less_l2 {R : Type} (l_2 : (List Int) → (List Int) → (Bool → Option R) → (Option R) → Int → Option R) (vs : List S) (es : List Ent) (K : Out → List S → List Ent → Option R) : Option R :=
  match vs, es with
  | [.ptr 0 [], .ptr 1 [], .int .i64 v3], [.box (.arr 4 (.int .u64) v4) false, .box (.arr 4 (.int .u64) v5) false] => l_2 v4 v5 (fun (r0 : Bool) => K .ret [.bool r0] []) (K (.exit 0) [.junk] []) v3
  | _, _ => none

def lf_byteset_Less {R : Type} (c_math_bits_TrailingZeros64 : Int → (Int → Option R) → Option R) (l_2 : (List Int) → (List Int) → (Bool → Option R) → (Option R) → Int → Option R) : LoopF R := fun m np id _ vs es K => iteH (decide (m = 28) && decide (np = 0)) (iteH (decide (id = 2)) (sl_byteset_Less_l2 l_2 vs es K) (none)) none

theorem eq_byteset_Less_l2 {R : Type} (c_math_bits_TrailingZeros64 : Int → (Int → Option R) → Option R) (l_2 : (List Int) → (List Int) → (Bool → Option R) → (Option R) → Int → Option R) (v3 : Int) (v4 : (List Int)) (v5 : (List Int)) (K : Out → List S → List Ent → Option R) :
    acodeK C_byteset_Less raw (cf_byteset_Less c_math_bits_TrailingZeros64 l_2) (lf_byteset_Less c_math_bits_TrailingZeros64 l_2) (loopBody Tryd.prog 71 2) (placeSt 28 0 [2, 3, 7] [.ptr 0 [], .ptr 1 [], .int .i64 v3] [.box (.arr 4 (.int .u64) v4) false, .box (.arr 4 (.int .u64) v5) false]) (loopKont C_byteset_Less (lf_byteset_Less c_math_bits_TrailingZeros64 l_2) 28 0 2 (loopBody Tryd.prog 71 2) K) =
      byteset_Less_l2_b c_math_bits_TrailingZeros64 l_2 v4 v5 (fun (r0 : Bool) => K .ret [.bool r0] []) (K (.exit 0) [.junk] []) v3 := by kernel_rfl

theorem eq_byteset_Less {R : Type} (c_math_bits_TrailingZeros64 : Int → (Int → Option R) → Option R) (l_2 : (List Int) → (List Int) → (Bool → Option R) → (Option R) → Int → Option R) (v1 : (List Int)) (v2 : (List Int)) (K : S → List Ent → Option R) :
    runK C_byteset_Less raw (cf_byteset_Less c_math_bits_TrailingZeros64 l_2) (lf_byteset_Less c_math_bits_TrailingZeros64 l_2) 71 [.arr 4 (.int .u64) v1, .arr 4 (.int .u64) v2] [] K =
      byteset_Less_b c_math_bits_TrailingZeros64 l_2 v1 v2 (fun (r0 : Bool) => K (.bool r0) []) := by kernel_rfl

noncomputable def C_slices_CompareFunc_api_Rx_api_Rx_api_Rx_api_Rx : Ctx := { P := Tryd.prog, mv := [], pu := [], glob := glob, live := fun n => look n [(2, [0, 1, 2, 11, 12, 13])], out := fun n => look n [(2, [0, 1, 6])], frz := fun n => look n [(2, [])], bef := fun n => look n [] }

def cf_slices_CompareFunc_api_Rx_api_Rx_api_Rx_api_Rx {R : Type} (c_rx_Compare : Int → (List Int) → (List (Rose (Int × ((List Int) × Unit)))) → Int → (List Int) → (List (Rose (Int × ((List Int) × Unit)))) → (Int → Option R) → Option R) (l_2 : (List (Rose (Int × ((List Int) × Unit)))) → (List (Rose (Int × ((List Int) × Unit)))) → (List (Rose (Int × ((List Int) × Unit)))) → Int → ((List (Rose (Int × ((List Int) × Unit)))) → (List (Rose (Int × ((List Int) × Unit)))) → Int → Option R) → ((List (Rose (Int × ((List Int) × Unit)))) → (List (Rose (Int × ((List Int) × Unit)))) → Option R) → Int → Option R) : CallF R := fun f av es K => iteH (decide (f = 57)) (sh57 c_rx_Compare av es K) (none)

def sl_slices_CompareFunc_api_Rx_api_Rx_api_Rx_api_Rx_l2 {R : Type} (l_2 : (List (Rose (Int × ((List Int) × Unit)))) → (List (Rose (Int × ((List Int) × Unit)))) → (List (Rose (Int × ((List Int) × Unit)))) → Int → ((List (Rose (Int × ((List Int) × Unit)))) → (List (Rose (Int × ((List Int) × Unit)))) → Int → Option R) → ((List (Rose (Int × ((List Int) × Unit)))) → (List (Rose (Int × ((List Int) × Unit)))) → Option R) → Int → Option R) (vs : List S) (es : List Ent) (K : Out → List S → List Ent → Option R) : Option R :=
  match vs, es with
  | [.sl (.rose (.pair (.int .i64) (.pair (.arr 4 (.int .u64)) .unit))) v3, .sl (.rose (.pair (.int .i64) (.pair (.arr 4 (.int .u64)) .unit))) v4, .fn 57 [], .sl (.rose (.pair (.int .i64) (.pair (.arr 4 (.int .u64)) .unit))) v5, .int .i64 v6, .int .i64 v7], [] => l_2 v3 v4 v5 v6 (fun (r0 : (List (Rose (Int × ((List Int) × Unit))))) (r1 : (List (Rose (Int × ((List Int) × Unit))))) (r2 : Int) => K .ret [.sl (.rose (.pair (.int .i64) (.pair (.arr 4 (.int .u64)) .unit))) r0, .sl (.rose (.pair (.int .i64) (.pair (.arr 4 (.int .u64)) .unit))) r1, .int .i64 r2] []) (fun (r0 : (List (Rose (Int × ((List Int) × Unit))))) (r1 : (List (Rose (Int × ((List Int) × Unit))))) => K (.exit 0) [.sl (.rose (.pair (.int .i64) (.pair (.arr 4 (.int .u64)) .unit))) r0, .sl (.rose (.pair (.int .i64) (.pair (.arr 4 (.int .u64)) .unit))) r1, .junk] []) v7
  | _, _ => none

def lf_slices_CompareFunc_api_Rx_api_Rx_api_Rx_api_Rx {R : Type} (c_rx_Compare : Int → (List Int) → (List (Rose (Int × ((List Int) × Unit)))) → Int → (List Int) → (List (Rose (Int × ((List Int) × Unit)))) → (Int → Option R) → Option R) (l_2 : (List (Rose (Int × ((List Int) × Unit)))) → (List (Rose (Int × ((List Int) × Unit)))) → (List (Rose (Int × ((List Int) × Unit)))) → Int → ((List (Rose (Int × ((List Int) × Unit)))) → (List (Rose (Int × ((List Int) × Unit)))) → Int → Option R) → ((List (Rose (Int × ((List Int) × Unit)))) → (List (Rose (Int × ((List Int) × Unit)))) → Option R) → Int → Option R) : LoopF R := fun m np id _ vs es K => iteH (decide (m = 39) && decide (np = 0)) (iteH (decide (id = 2)) (sl_slices_CompareFunc_api_Rx_api_Rx_api_Rx_api_Rx_l2 l_2 vs es K) (none)) none

theorem eq_slices_CompareFunc_api_Rx_api_Rx_api_Rx_api_Rx_l2 {R : Type} (c_rx_Compare : Int → (List Int) → (List (Rose (Int × ((List Int) × Unit)))) → Int → (List Int) → (List (Rose (Int × ((List Int) × Unit)))) → (Int → Option R) → Option R) (l_2 : (List (Rose (Int × ((List Int) × Unit)))) → (List (Rose (Int × ((List Int) × Unit)))) → (List (Rose (Int × ((List Int) × Unit)))) → Int → ((List (Rose (Int × ((List Int) × Unit)))) → (List (Rose (Int × ((List Int) × Unit)))) → Int → Option R) → ((List (Rose (Int × ((List Int) × Unit)))) → (List (Rose (Int × ((List Int) × Unit)))) → Option R) → Int → Option R) (v3 : (List (Rose (Int × ((List Int) × Unit))))) (v4 : (List (Rose (Int × ((List Int) × Unit))))) (v5 : (List (Rose (Int × ((List Int) × Unit))))) (v6 : Int) (v7 : Int) (K : Out → List S → List Ent → Option R) :
    acodeK C_slices_CompareFunc_api_Rx_api_Rx_api_Rx_api_Rx raw (cf_slices_CompareFunc_api_Rx_api_Rx_api_Rx_api_Rx c_rx_Compare l_2) (lf_slices_CompareFunc_api_Rx_api_Rx_api_Rx_api_Rx c_rx_Compare l_2) (loopBody Tryd.prog 72 2) (placeSt 39 0 [0, 1, 2, 11, 12, 13] [.sl (.rose (.pair (.int .i64) (.pair (.arr 4 (.int .u64)) .unit))) v3, .sl (.rose (.pair (.int .i64) (.pair (.arr 4 (.int .u64)) .unit))) v4, .fn 57 [], .sl (.rose (.pair (.int .i64) (.pair (.arr 4 (.int .u64)) .unit))) v5, .int .i64 v6, .int .i64 v7] []) (loopKont C_slices_CompareFunc_api_Rx_api_Rx_api_Rx_api_Rx (lf_slices_CompareFunc_api_Rx_api_Rx_api_Rx_api_Rx c_rx_Compare l_2) 39 0 2 (loopBody Tryd.prog 72 2) K) =
      slices_CompareFunc_api_Rx_api_Rx_api_Rx_api_Rx_l2_b c_rx_Compare l_2 v3 v4 v5 v6 (fun (r0 : (List (Rose (Int × ((List Int) × Unit))))) (r1 : (List (Rose (Int × ((List Int) × Unit))))) (r2 : Int) => K .ret [.sl (.rose (.pair (.int .i64) (.pair (.arr 4 (.int .u64)) .unit))) r0, .sl (.rose (.pair (.int .i64) (.pair (.arr 4 (.int .u64)) .unit))) r1, .int .i64 r2] []) (fun (r0 : (List (Rose (Int × ((List Int) × Unit))))) (r1 : (List (Rose (Int × ((List Int) × Unit))))) => K (.exit 0) [.sl (.rose (.pair (.int .i64) (.pair (.arr 4 (.int .u64)) .unit))) r0, .sl (.rose (.pair (.int .i64) (.pair (.arr 4 (.int .u64)) .unit))) r1, .junk] []) v7 := by kernel_rfl

theorem eq_slices_CompareFunc_api_Rx_api_Rx_api_Rx_api_Rx {R : Type} (c_rx_Compare : Int → (List Int) → (List (Rose (Int × ((List Int) × Unit)))) → Int → (List Int) → (List (Rose (Int × ((List Int) × Unit)))) → (Int → Option R) → Option R) (l_2 : (List (Rose (Int × ((List Int) × Unit)))) → (List (Rose (Int × ((List Int) × Unit)))) → (List (Rose (Int × ((List Int) × Unit)))) → Int → ((List (Rose (Int × ((List Int) × Unit)))) → (List (Rose (Int × ((List Int) × Unit)))) → Int → Option R) → ((List (Rose (Int × ((List Int) × Unit)))) → (List (Rose (Int × ((List Int) × Unit)))) → Option R) → Int → Option R) (v1 : (List (Rose (Int × ((List Int) × Unit))))) (v2 : (List (Rose (Int × ((List Int) × Unit))))) (K : S → List Ent → Option R) :
    runK C_slices_CompareFunc_api_Rx_api_Rx_api_Rx_api_Rx raw (cf_slices_CompareFunc_api_Rx_api_Rx_api_Rx_api_Rx c_rx_Compare l_2) (lf_slices_CompareFunc_api_Rx_api_Rx_api_Rx_api_Rx c_rx_Compare l_2) 72 [.sl (.rose (.pair (.int .i64) (.pair (.arr 4 (.int .u64)) .unit))) v1, .sl (.rose (.pair (.int .i64) (.pair (.arr 4 (.int .u64)) .unit))) v2, .fn 57 []] [] K =
      slices_CompareFunc_api_Rx_api_Rx_api_Rx_api_Rx_b c_rx_Compare l_2 v1 v2 (fun (r0 : Int) => K (.int .i64 r0) []) := by kernel_rfl

noncomputable def C_rx_Compare : Ctx := { P := Tryd.prog, mv := [], pu := [], glob := glob, live := fun n => look n [], out := fun n => look n [], frz := fun n => look n [], bef := fun n => look n [] }

def cf_rx_Compare {R : Type} (c_cmp_Compare_int : Int → Int → (Int → Option R) → Option R) (c_byteset_Less : (List Int) → (List Int) → (Bool → Option R) → Option R) (c_slices_CompareFunc_api_Rx_api_Rx_api_Rx_api_Rx : (List (Rose (Int × ((List Int) × Unit)))) → (List (Rose (Int × ((List Int) × Unit)))) → (Int → Option R) → Option R) : CallF R := fun f av es K => iteH (decide (f = 70)) (sh70 c_cmp_Compare_int av es K) (iteH (decide (f = 71)) (sh71 c_byteset_Less av es K) (iteH (decide (f = 72)) (sh72 c_slices_CompareFunc_api_Rx_api_Rx_api_Rx_api_Rx av es K) (none)))

def lf_rx_Compare {R : Type} (c_cmp_Compare_int : Int → Int → (Int → Option R) → Option R) (c_byteset_Less : (List Int) → (List Int) → (Bool → Option R) → Option R) (c_slices_CompareFunc_api_Rx_api_Rx_api_Rx_api_Rx : (List (Rose (Int × ((List Int) × Unit)))) → (List (Rose (Int × ((List Int) × Unit)))) → (Int → Option R) → Option R) : LoopF R := fun m np id _ vs es K => none

theorem eq_rx_Compare {R : Type} (c_cmp_Compare_int : Int → Int → (Int → Option R) → Option R) (c_byteset_Less : (List Int) → (List Int) → (Bool → Option R) → Option R) (c_slices_CompareFunc_api_Rx_api_Rx_api_Rx_api_Rx : (List (Rose (Int × ((List Int) × Unit)))) → (List (Rose (Int × ((List Int) × Unit)))) → (Int → Option R) → Option R) (v1 : Int) (v2 : (List Int)) (v3 : (List (Rose (Int × ((List Int) × Unit))))) (v4 : Int) (v5 : (List Int)) (v6 : (List (Rose (Int × ((List Int) × Unit))))) (K : S → List Ent → Option R) :
    runK C_rx_Compare raw (cf_rx_Compare c_cmp_Compare_int c_byteset_Less c_slices_CompareFunc_api_Rx_api_Rx_api_Rx_api_Rx) (lf_rx_Compare c_cmp_Compare_int c_byteset_Less c_slices_CompareFunc_api_Rx_api_Rx_api_Rx_api_Rx) 57 [.st [.int .i64 v1, .arr 4 (.int .u64) v2, .sl (.rose (.pair (.int .i64) (.pair (.arr 4 (.int .u64)) .unit))) v3], .st [.int .i64 v4, .arr 4 (.int .u64) v5, .sl (.rose (.pair (.int .i64) (.pair (.arr 4 (.int .u64)) .unit))) v6]] [] K =
      rx_Compare_b c_cmp_Compare_int c_byteset_Less c_slices_CompareFunc_api_Rx_api_Rx_api_Rx_api_Rx v1 v2 v3 v4 v5 v6 (fun (r0 : Int) => K (.int .i64 r0) []) := by kernel_rfl

noncomputable def C_rx_rising : Ctx := { P := Tryd.prog, mv := [], pu := [], glob := glob, live := fun n => look n [(3, [0, 3, 6, 7, 8])], out := fun n => look n [(3, [2, 3])], frz := fun n => look n [(3, [])], bef := fun n => look n [(7, [0, 1, 3, 7, 7, 23, 63, 127, 7, 511, 1023, 2047])] }

def cf_rx_rising {R : Type} (c_rx_isSet : Int → (List Int) → (List (Rose (Int × ((List Int) × Unit)))) → (Bool → Option R) → Option R) (c_rx_Compare : Int → (List Int) → (List (Rose (Int × ((List Int) × Unit)))) → Int → (List Int) → (List (Rose (Int × ((List Int) × Unit)))) → (Int → Option R) → Option R) (l_3 : (List (Rose (Int × ((List Int) × Unit)))) → (List (Rose (Int × ((List Int) × Unit)))) → Int → (Bool → Int → Option R) → (Int → Option R) → Int → Int → Option R) : CallF R := fun f av es K => iteH (decide (f = 56)) (sh56 c_rx_isSet av es K) (iteH (decide (f = 57)) (sh57 c_rx_Compare av es K) (none))

def sl_rx_rising_l3 {R : Type} (l_3 : (List (Rose (Int × ((List Int) × Unit)))) → (List (Rose (Int × ((List Int) × Unit)))) → Int → (Bool → Int → Option R) → (Int → Option R) → Int → Int → Option R) (vs : List S) (es : List Ent) (K : Out → List S → List Ent → Option R) : Option R :=
  match vs, es with
  | [.sl (.rose (.pair (.int .i64) (.pair (.arr 4 (.int .u64)) .unit))) v2, .int .i64 v3, .sl (.rose (.pair (.int .i64) (.pair (.arr 4 (.int .u64)) .unit))) v4, .int .i64 v5, .int .i64 v6], [] => l_3 v2 v4 v5 (fun (r0 : Bool) (r1 : Int) => K .ret [.bool r0, .int .i64 r1] []) (fun (r0 : Int) => K (.exit 0) [.junk, .int .i64 r0] []) v3 v6
  | _, _ => none

def lf_rx_rising {R : Type} (c_rx_isSet : Int → (List Int) → (List (Rose (Int × ((List Int) × Unit)))) → (Bool → Option R) → Option R) (c_rx_Compare : Int → (List Int) → (List (Rose (Int × ((List Int) × Unit)))) → Int → (List Int) → (List (Rose (Int × ((List Int) × Unit)))) → (Int → Option R) → Option R) (l_3 : (List (Rose (Int × ((List Int) × Unit)))) → (List (Rose (Int × ((List Int) × Unit)))) → Int → (Bool → Int → Option R) → (Int → Option R) → Int → Int → Option R) : LoopF R := fun m np id _ vs es K => iteH (decide (m = 32) && decide (np = 0)) (iteH (decide (id = 3)) (sl_rx_rising_l3 l_3 vs es K) (none)) none

theorem eq_rx_rising_l3 {R : Type} (c_rx_isSet : Int → (List Int) → (List (Rose (Int × ((List Int) × Unit)))) → (Bool → Option R) → Option R) (c_rx_Compare : Int → (List Int) → (List (Rose (Int × ((List Int) × Unit)))) → Int → (List Int) → (List (Rose (Int × ((List Int) × Unit)))) → (Int → Option R) → Option R) (l_3 : (List (Rose (Int × ((List Int) × Unit)))) → (List (Rose (Int × ((List Int) × Unit)))) → Int → (Bool → Int → Option R) → (Int → Option R) → Int → Int → Option R) (v2 : (List (Rose (Int × ((List Int) × Unit))))) (v3 : Int) (v4 : (List (Rose (Int × ((List Int) × Unit))))) (v5 : Int) (v6 : Int) (K : Out → List S → List Ent → Option R) :
    acodeK C_rx_rising raw (cf_rx_rising c_rx_isSet c_rx_Compare l_3) (lf_rx_rising c_rx_isSet c_rx_Compare l_3) (loopBody Tryd.prog 37 3) (placeSt 32 0 [0, 3, 6, 7, 8] [.sl (.rose (.pair (.int .i64) (.pair (.arr 4 (.int .u64)) .unit))) v2, .int .i64 v3, .sl (.rose (.pair (.int .i64) (.pair (.arr 4 (.int .u64)) .unit))) v4, .int .i64 v5, .int .i64 v6] []) (loopKont C_rx_rising (lf_rx_rising c_rx_isSet c_rx_Compare l_3) 32 0 3 (loopBody Tryd.prog 37 3) K) =
      rx_rising_l3_b c_rx_isSet c_rx_Compare l_3 v2 v4 v5 (fun (r0 : Bool) (r1 : Int) => K .ret [.bool r0, .int .i64 r1] []) (fun (r0 : Int) => K (.exit 0) [.junk, .int .i64 r0] []) v3 v6 := by kernel_rfl

theorem eq_rx_rising {R : Type} (c_rx_isSet : Int → (List Int) → (List (Rose (Int × ((List Int) × Unit)))) → (Bool → Option R) → Option R) (c_rx_Compare : Int → (List Int) → (List (Rose (Int × ((List Int) × Unit)))) → Int → (List Int) → (List (Rose (Int × ((List Int) × Unit)))) → (Int → Option R) → Option R) (l_3 : (List (Rose (Int × ((List Int) × Unit)))) → (List (Rose (Int × ((List Int) × Unit)))) → Int → (Bool → Int → Option R) → (Int → Option R) → Int → Int → Option R) (v1 : (List (Rose (Int × ((List Int) × Unit))))) (K : S → List Ent → Option R) :
    runK C_rx_rising raw (cf_rx_rising c_rx_isSet c_rx_Compare l_3) (lf_rx_rising c_rx_isSet c_rx_Compare l_3) 37 [.sl (.rose (.pair (.int .i64) (.pair (.arr 4 (.int .u64)) .unit))) v1] [] K =
      rx_rising_b c_rx_isSet c_rx_Compare l_3 v1 (fun (r0 : Bool) => K (.bool r0) []) := by kernel_rfl

noncomputable def C_rx_Plain_1 : Ctx := { P := Tryd.prog, mv := [], pu := [], glob := glob, live := fun n => look n [], out := fun n => look n [], frz := fun n => look n [], bef := fun n => look n [] }

def cf_rx_Plain_1 {R : Type} (c_rx_Plain : Int → (List Int) → (List (Rose (Int × ((List Int) × Unit)))) → (Bool → Option R) → Option R) : CallF R := fun f av es K => iteH (decide (f = 25)) (sh25 c_rx_Plain av es K) (none)

def lf_rx_Plain_1 {R : Type} (c_rx_Plain : Int → (List Int) → (List (Rose (Int × ((List Int) × Unit)))) → (Bool → Option R) → Option R) : LoopF R := fun m np id _ vs es K => none

theorem eq_rx_Plain_1 {R : Type} (c_rx_Plain : Int → (List Int) → (List (Rose (Int × ((List Int) × Unit)))) → (Bool → Option R) → Option R) (v1 : Int) (v2 : (List Int)) (v3 : (List (Rose (Int × ((List Int) × Unit))))) (K : S → List Ent → Option R) :
    runK C_rx_Plain_1 raw (cf_rx_Plain_1 c_rx_Plain) (lf_rx_Plain_1 c_rx_Plain) 39 [.st [.int .i64 v1, .arr 4 (.int .u64) v2, .sl (.rose (.pair (.int .i64) (.pair (.arr 4 (.int .u64)) .unit))) v3]] [] K =
      rx_Plain_1_b c_rx_Plain v1 v2 v3 (fun (r0 : Bool) => K (.bool r0) []) := by kernel_rfl

noncomputable def C_slices_IndexFunc_api_Rx_api_Rx_s1 : Ctx := { P := Tryd.prog, mv := [], pu := [], glob := glob, live := fun n => look n [(2, [0, 1, 7, 8])], out := fun n => look n [(2, [4])], frz := fun n => look n [(2, [])], bef := fun n => look n [] }

def cf_slices_IndexFunc_api_Rx_api_Rx_s1 {R : Type} (c_rx_Plain_1 : Int → (List Int) → (List (Rose (Int × ((List Int) × Unit)))) → (Bool → Option R) → Option R) (l_2 : (List (Rose (Int × ((List Int) × Unit)))) → Int → (Int → Option R) → (Option R) → Int → Option R) : CallF R := fun f av es K => iteH (decide (f = 39)) (sh39 c_rx_Plain_1 av es K) (none)

def sl_slices_IndexFunc_api_Rx_api_Rx_s1_l2 {R : Type} (l_2 : (List (Rose (Int × ((List Int) × Unit)))) → Int → (Int → Option R) → (Option R) → Int → Option R) (vs : List S) (es : List Ent) (K : Out → List S → List Ent → Option R) : Option R :=
  match vs, es with
  | [.sl (.rose (.pair (.int .i64) (.pair (.arr 4 (.int .u64)) .unit))) v2, .fn 39 [], .int .i64 v3, .int .i64 v4], [] => l_2 v2 v3 (fun (r0 : Int) => K .ret [.int .i64 r0] []) (K (.exit 0) [.junk] []) v4
  | _, _ => none

def lf_slices_IndexFunc_api_Rx_api_Rx_s1 {R : Type} (c_rx_Plain_1 : Int → (List Int) → (List (Rose (Int × ((List Int) × Unit)))) → (Bool → Option R) → Option R) (l_2 : (List (Rose (Int × ((List Int) × Unit)))) → Int → (Int → Option R) → (Option R) → Int → Option R) : LoopF R := fun m np id _ vs es K => iteH (decide (m = 19) && decide (np = 0)) (iteH (decide (id = 2)) (sl_slices_IndexFunc_api_Rx_api_Rx_s1_l2 l_2 vs es K) (none)) none

theorem eq_slices_IndexFunc_api_Rx_api_Rx_s1_l2 {R : Type} (c_rx_Plain_1 : Int → (List Int) → (List (Rose (Int × ((List Int) × Unit)))) → (Bool → Option R) → Option R) (l_2 : (List (Rose (Int × ((List Int) × Unit)))) → Int → (Int → Option R) → (Option R) → Int → Option R) (v2 : (List (Rose (Int × ((List Int) × Unit))))) (v3 : Int) (v4 : Int) (K : Out → List S → List Ent → Option R) :
    acodeK C_slices_IndexFunc_api_Rx_api_Rx_s1 raw (cf_slices_IndexFunc_api_Rx_api_Rx_s1 c_rx_Plain_1 l_2) (lf_slices_IndexFunc_api_Rx_api_Rx_s1 c_rx_Plain_1 l_2) (loopBody Tryd.prog 58 2) (placeSt 19 0 [0, 1, 7, 8] [.sl (.rose (.pair (.int .i64) (.pair (.arr 4 (.int .u64)) .unit))) v2, .fn 39 [], .int .i64 v3, .int .i64 v4] []) (loopKont C_slices_IndexFunc_api_Rx_api_Rx_s1 (lf_slices_IndexFunc_api_Rx_api_Rx_s1 c_rx_Plain_1 l_2) 19 0 2 (loopBody Tryd.prog 58 2) K) =
      slices_IndexFunc_api_Rx_api_Rx_s1_l2_b c_rx_Plain_1 l_2 v2 v3 (fun (r0 : Int) => K .ret [.int .i64 r0] []) (K (.exit 0) [.junk] []) v4 := by kernel_rfl

theorem eq_slices_IndexFunc_api_Rx_api_Rx_s1 {R : Type} (c_rx_Plain_1 : Int → (List Int) → (List (Rose (Int × ((List Int) × Unit)))) → (Bool → Option R) → Option R) (l_2 : (List (Rose (Int × ((List Int) × Unit)))) → Int → (Int → Option R) → (Option R) → Int → Option R) (v1 : (List (Rose (Int × ((List Int) × Unit))))) (K : S → List Ent → Option R) :
    runK C_slices_IndexFunc_api_Rx_api_Rx_s1 raw (cf_slices_IndexFunc_api_Rx_api_Rx_s1 c_rx_Plain_1 l_2) (lf_slices_IndexFunc_api_Rx_api_Rx_s1 c_rx_Plain_1 l_2) 58 [.sl (.rose (.pair (.int .i64) (.pair (.arr 4 (.int .u64)) .unit))) v1, .fn 39 []] [] K =
      slices_IndexFunc_api_Rx_api_Rx_s1_b c_rx_Plain_1 l_2 v1 (fun (r0 : Int) => K (.int .i64 r0) []) := by kernel_rfl

noncomputable def C_slices_ContainsFunc_api_Rx_api_Rx_s1 : Ctx := { P := Tryd.prog, mv := [], pu := [], glob := glob, live := fun n => look n [], out := fun n => look n [], frz := fun n => look n [], bef := fun n => look n [] }

def cf_slices_ContainsFunc_api_Rx_api_Rx_s1 {R : Type} (c_slices_IndexFunc_api_Rx_api_Rx_s1 : (List (Rose (Int × ((List Int) × Unit)))) → (Int → Option R) → Option R) : CallF R := fun f av es K => iteH (decide (f = 58)) (sh58 (fun _ _ _ => none) c_slices_IndexFunc_api_Rx_api_Rx_s1 av es K) (none)

def lf_slices_ContainsFunc_api_Rx_api_Rx_s1 {R : Type} (c_slices_IndexFunc_api_Rx_api_Rx_s1 : (List (Rose (Int × ((List Int) × Unit)))) → (Int → Option R) → Option R) : LoopF R := fun m np id _ vs es K => none

theorem eq_slices_ContainsFunc_api_Rx_api_Rx_s1 {R : Type} (c_slices_IndexFunc_api_Rx_api_Rx_s1 : (List (Rose (Int × ((List Int) × Unit)))) → (Int → Option R) → Option R) (v1 : (List (Rose (Int × ((List Int) × Unit))))) (K : S → List Ent → Option R) :
    runK C_slices_ContainsFunc_api_Rx_api_Rx_s1 raw (cf_slices_ContainsFunc_api_Rx_api_Rx_s1 c_slices_IndexFunc_api_Rx_api_Rx_s1) (lf_slices_ContainsFunc_api_Rx_api_Rx_s1 c_slices_IndexFunc_api_Rx_api_Rx_s1) 38 [.sl (.rose (.pair (.int .i64) (.pair (.arr 4 (.int .u64)) .unit))) v1, .fn 39 []] [] K =
      slices_ContainsFunc_api_Rx_api_Rx_s1_b c_slices_IndexFunc_api_Rx_api_Rx_s1 v1 (fun (r0 : Bool) => K (.bool r0) []) := by kernel_rfl

noncomputable def C_rx_Plain : Ctx := { P := Tryd.prog, mv := [], pu := [], glob := glob, live := fun n => look n [], out := fun n => look n [], frz := fun n => look n [], bef := fun n => look n [] }

def cf_rx_Plain {R : Type} (c_rx_bad : (List (Rose (Int × ((List Int) × Unit)))) → (List Int) → (Bool → Option R) → Option R) (c_rx_rising : (List (Rose (Int × ((List Int) × Unit)))) → (Bool → Option R) → Option R) (c_slices_ContainsFunc_api_Rx_api_Rx_s1 : (List (Rose (Int × ((List Int) × Unit)))) → (Bool → Option R) → Option R) : CallF R := fun f av es K => iteH (decide (f = 36)) (sh36 c_rx_bad av es K) (iteH (decide (f = 37)) (sh37 c_rx_rising av es K) (iteH (decide (f = 38)) (sh38 (fun _ _ _ => none) c_slices_ContainsFunc_api_Rx_api_Rx_s1 av es K) (none)))

def lf_rx_Plain {R : Type} (c_rx_bad : (List (Rose (Int × ((List Int) × Unit)))) → (List Int) → (Bool → Option R) → Option R) (c_rx_rising : (List (Rose (Int × ((List Int) × Unit)))) → (Bool → Option R) → Option R) (c_slices_ContainsFunc_api_Rx_api_Rx_s1 : (List (Rose (Int × ((List Int) × Unit)))) → (Bool → Option R) → Option R) : LoopF R := fun m np id _ vs es K => none

theorem eq_rx_Plain {R : Type} (c_rx_bad : (List (Rose (Int × ((List Int) × Unit)))) → (List Int) → (Bool → Option R) → Option R) (c_rx_rising : (List (Rose (Int × ((List Int) × Unit)))) → (Bool → Option R) → Option R) (c_slices_ContainsFunc_api_Rx_api_Rx_s1 : (List (Rose (Int × ((List Int) × Unit)))) → (Bool → Option R) → Option R) (v1 : Int) (v2 : (List Int)) (v3 : (List (Rose (Int × ((List Int) × Unit))))) (K : S → List Ent → Option R) :
    runK C_rx_Plain raw (cf_rx_Plain c_rx_bad c_rx_rising c_slices_ContainsFunc_api_Rx_api_Rx_s1) (lf_rx_Plain c_rx_bad c_rx_rising c_slices_ContainsFunc_api_Rx_api_Rx_s1) 25 [.st [.int .i64 v1, .arr 4 (.int .u64) v2, .sl (.rose (.pair (.int .i64) (.pair (.arr 4 (.int .u64)) .unit))) v3]] [] K =
      rx_Plain_b c_rx_bad c_rx_rising c_slices_ContainsFunc_api_Rx_api_Rx_s1 v1 v2 v3 (fun (r0 : Bool) => K (.bool r0) []) := by kernel_rfl

noncomputable def C_show_writer_put : Ctx := { P := Tryd.prog, mv := [], pu := [], glob := glob, live := fun n => look n [], out := fun n => look n [], frz := fun n => look n [], bef := fun n => look n [] }

def cf_show_writer_put {R : Type} : CallF R := fun f av es K => none

def lf_show_writer_put {R : Type} : LoopF R := fun m np id _ vs es K => none

theorem eq_show_writer_put {R : Type} (v1 : (List Int)) (v2 : Bool) (v3 : (List Int)) (K : S → List Ent → Option R) :
    runK C_show_writer_put raw (cf_show_writer_put) (lf_show_writer_put) 40 [.ptr 0 [], .str v1] [.box (.st [.own (.int .u8) 1, .bool v2]) false, .buf (.int .u8) v3 false] K =
      show_writer_put_b v1 v2 v3 (fun (r0 : Bool) (r1 : (List Int)) => K (.tup []) [.box (.st [.own (.int .u8) 1, .bool r0]) false, .buf (.int .u8) r1 false]) := by kernel_rfl

noncomputable def C_byteset_Has : Ctx := { P := Tryd.prog, mv := [], pu := [], glob := glob, live := fun n => look n [], out := fun n => look n [], frz := fun n => look n [], bef := fun n => look n [] }

def cf_byteset_Has {R : Type} : CallF R := fun f av es K => none

def lf_byteset_Has {R : Type} : LoopF R := fun m np id _ vs es K => none

theorem eq_byteset_Has {R : Type} (v1 : (List Int)) (v2 : Int) (K : S → List Ent → Option R) :
    runK C_byteset_Has raw (cf_byteset_Has) (lf_byteset_Has) 73 [.arr 4 (.int .u64) v1, .int .u8 v2] [] K =
      byteset_Has_b v1 v2 (fun (r0 : Bool) => K (.bool r0) []) := by kernel_rfl

noncomputable def C_byteset_List : Ctx := { P := Tryd.prog, mv := [], pu := [], glob := glob, live := fun n => look n [(3, [1, 3, 5])], out := fun n => look n [(3, [3])], frz := fun n => look n [(3, [])], bef := fun n => look n [] }

def cf_byteset_List {R : Type} (c_byteset_Has : (List Int) → Int → (Bool → Option R) → Option R) (l_3 : (List Int) → ((List Int) → Option R) → Int → (List Int) → Option R) : CallF R := fun f av es K => iteH (decide (f = 73)) (sh73 c_byteset_Has av es K) (none)

def sl_byteset_List_l3 {R : Type} (l_3 : (List Int) → ((List Int) → Option R) → Int → (List Int) → Option R) (vs : List S) (es : List Ent) (K : Out → List S → List Ent → Option R) : Option R :=
  match vs, es with
  | [.ptr 0 [], .own (.int .u8) 1, .int .i64 v2], [.box (.arr 4 (.int .u64) v3) false, .buf (.int .u8) v4 false] => l_3 v3 (fun (r0 : (List Int)) => K (.exit 0) [.own (.int .u8) 0] [.buf (.int .u8) r0 false]) v2 v4
  | _, _ => none

def lf_byteset_List {R : Type} (c_byteset_Has : (List Int) → Int → (Bool → Option R) → Option R) (l_3 : (List Int) → ((List Int) → Option R) → Int → (List Int) → Option R) : LoopF R := fun m np id _ vs es K => iteH (decide (m = 19) && decide (np = 0)) (iteH (decide (id = 3)) (sl_byteset_List_l3 l_3 vs es K) (none)) none

theorem eq_byteset_List_l3 {R : Type} (c_byteset_Has : (List Int) → Int → (Bool → Option R) → Option R) (l_3 : (List Int) → ((List Int) → Option R) → Int → (List Int) → Option R) (v2 : Int) (v3 : (List Int)) (v4 : (List Int)) (K : Out → List S → List Ent → Option R) :
    acodeK C_byteset_List raw (cf_byteset_List c_byteset_Has l_3) (lf_byteset_List c_byteset_Has l_3) (loopBody Tryd.prog 59 3) (placeSt 19 0 [1, 3, 5] [.ptr 0 [], .own (.int .u8) 1, .int .i64 v2] [.box (.arr 4 (.int .u64) v3) false, .buf (.int .u8) v4 false]) (loopKont C_byteset_List (lf_byteset_List c_byteset_Has l_3) 19 0 3 (loopBody Tryd.prog 59 3) K) =
      byteset_List_l3_b c_byteset_Has l_3 v3 (fun (r0 : (List Int)) => K (.exit 0) [.own (.int .u8) 0] [.buf (.int .u8) r0 false]) v2 v4 := by kernel_rfl

theorem eq_byteset_List {R : Type} (c_byteset_Has : (List Int) → Int → (Bool → Option R) → Option R) (l_3 : (List Int) → ((List Int) → Option R) → Int → (List Int) → Option R) (v1 : (List Int)) (K : S → List Ent → Option R) :
    runK C_byteset_List raw (cf_byteset_List c_byteset_Has l_3) (lf_byteset_List c_byteset_Has l_3) 59 [.arr 4 (.int .u64) v1] [] K =
      byteset_List_b c_byteset_Has l_3 v1 (fun (r0 : (List Int)) => K (.own (.int .u8) 0) [.buf (.int .u8) r0 false]) := by kernel_rfl

noncomputable def C_show_sign : Ctx := { P := Tryd.prog, mv := [], pu := [], glob := glob, live := fun n => look n [], out := fun n => look n [], frz := fun n => look n [], bef := fun n => look n [(5, [0, 1, 3, 0, 8, 24, 63, 127, 255, 511])] }

def cf_show_sign {R : Type} : CallF R := fun f av es K => iteH (decide (f = 74)) (sh74 av es K) (none)

def lf_show_sign {R : Type} : LoopF R := fun m np id _ vs es K => none

theorem eq_show_sign {R : Type} (v1 : Int) (K : S → List Ent → Option R) :
    runK C_show_sign raw (cf_show_sign) (lf_show_sign) 60 [.int .u8 v1] [] K =
      show_sign_b v1 (fun (r0 : (List Int)) => K (.str r0) []) := by kernel_rfl

noncomputable def C_show_writer_set : Ctx := { P := Tryd.prog, mv := [], pu := [], glob := glob, live := fun n => look n [(9, [0, 4, 5]), (11, [0, 4, 5, 6])], out := fun n => look n [(9, [0]), (11, [0, 4, 5, 6])], frz := fun n => look n [(9, []), (11, [])], bef := fun n => look n [(11, [0, 1, 0, 4, 15, 31, 63, 63, 191, 511, 1023, 63, 63, 6207, 14399, 30783, 65535, 131071])] }

def cf_show_writer_set {R : Type} (c_byteset_List : (List Int) → ((List Int) → Option R) → Option R) (c_show_writer_put : (List Int) → Bool → (List Int) → (Bool → (List Int) → Option R) → Option R) (c_show_sign : Int → ((List Int) → Option R) → Option R) (l_9 : (Bool → (List Int) → Option R) → Int → Bool → (List Int) → (List Int) → Option R) (l_11 : Int → Bool → (List Int) → (List Int) → (Int → Int → Bool → (List Int) → (List Int) → Option R) → Int → Option R) : CallF R := fun f av es K => iteH (decide (f = 59)) (sh59 c_byteset_List av es K) (iteH (decide (f = 40)) (sh40 c_show_writer_put av es K) (iteH (decide (f = 60)) (sh60 c_show_sign av es K) (none)))

def sl_show_writer_set_l9 {R : Type} (l_9 : (Bool → (List Int) → Option R) → Int → Bool → (List Int) → (List Int) → Option R) (vs : List S) (es : List Ent) (K : Out → List S → List Ent → Option R) : Option R :=
  match vs, es with
  | [.ptr 0 [], .own (.int .u8) 1, .int .i64 v12], [.box (.st [.own (.int .u8) 2, .bool v13]) false, .buf (.int .u8) v14 false, .buf (.int .u8) v15 false] => l_9 (fun (r0 : Bool) (r1 : (List Int)) => K (.exit 1) [.ptr 0 []] [.box (.st [.own (.int .u8) 1, .bool r0]) false, .buf (.int .u8) r1 false]) v12 v13 v14 v15
  | _, _ => none

def sl_show_writer_set_l11 {R : Type} (l_11 : Int → Bool → (List Int) → (List Int) → (Int → Int → Bool → (List Int) → (List Int) → Option R) → Int → Option R) (vs : List S) (es : List Ent) (K : Out → List S → List Ent → Option R) : Option R :=
  match vs, es with
  | [.ptr 0 [], .own (.int .u8) 1, .int .i64 v16, .int .i64 v17], [.box (.st [.own (.int .u8) 2, .bool v18]) false, .buf (.int .u8) v19 false, .buf (.int .u8) v20 false] => l_11 v16 v18 v19 v20 (fun (r0 : Int) (r1 : Int) (r2 : Bool) (r3 : (List Int)) (r4 : (List Int)) => K (.exit 3) [.ptr 0 [], .own (.int .u8) 1, .int .i64 r0, .int .i64 r1] [.box (.st [.own (.int .u8) 2, .bool r2]) false, .buf (.int .u8) r3 false, .buf (.int .u8) r4 false]) v17
  | _, _ => none

def lf_show_writer_set {R : Type} (c_byteset_List : (List Int) → ((List Int) → Option R) → Option R) (c_show_writer_put : (List Int) → Bool → (List Int) → (Bool → (List Int) → Option R) → Option R) (c_show_sign : Int → ((List Int) → Option R) → Option R) (l_9 : (Bool → (List Int) → Option R) → Int → Bool → (List Int) → (List Int) → Option R) (l_11 : Int → Bool → (List Int) → (List Int) → (Int → Int → Bool → (List Int) → (List Int) → Option R) → Int → Option R) : LoopF R := fun m np id _ vs es K => iteH (decide (m = 77) && decide (np = 1)) (iteH (decide (id = 9)) (sl_show_writer_set_l9 l_9 vs es K) (iteH (decide (id = 11)) (sl_show_writer_set_l11 l_11 vs es K) (none))) none

theorem eq_show_writer_set_l9 {R : Type} (c_byteset_List : (List Int) → ((List Int) → Option R) → Option R) (c_show_writer_put : (List Int) → Bool → (List Int) → (Bool → (List Int) → Option R) → Option R) (c_show_sign : Int → ((List Int) → Option R) → Option R) (l_9 : (Bool → (List Int) → Option R) → Int → Bool → (List Int) → (List Int) → Option R) (l_11 : Int → Bool → (List Int) → (List Int) → (Int → Int → Bool → (List Int) → (List Int) → Option R) → Int → Option R) (v12 : Int) (v13 : Bool) (v14 : (List Int)) (v15 : (List Int)) (K : Out → List S → List Ent → Option R) :
    acodeK C_show_writer_set raw (cf_show_writer_set c_byteset_List c_show_writer_put c_show_sign l_9 l_11) (lf_show_writer_set c_byteset_List c_show_writer_put c_show_sign l_9 l_11) (loopBody Tryd.prog 41 9) (placeSt 77 1 [0, 4, 5] [.ptr 0 [], .own (.int .u8) 1, .int .i64 v12] [.box (.st [.own (.int .u8) 2, .bool v13]) false, .buf (.int .u8) v14 false, .buf (.int .u8) v15 false]) (loopKont C_show_writer_set (lf_show_writer_set c_byteset_List c_show_writer_put c_show_sign l_9 l_11) 77 1 9 (loopBody Tryd.prog 41 9) K) =
      show_writer_set_l9_b c_byteset_List c_show_writer_put c_show_sign l_9 l_11 (fun (r0 : Bool) (r1 : (List Int)) => K (.exit 1) [.ptr 0 []] [.box (.st [.own (.int .u8) 1, .bool r0]) false, .buf (.int .u8) r1 false]) v12 v13 v14 v15 := by kernel_rfl

theorem eq_show_writer_set_l11 {R : Type} (c_byteset_List : (List Int) → ((List Int) → Option R) → Option R) (c_show_writer_put : (List Int) → Bool → (List Int) → (Bool → (List Int) → Option R) → Option R) (c_show_sign : Int → ((List Int) → Option R) → Option R) (l_9 : (Bool → (List Int) → Option R) → Int → Bool → (List Int) → (List Int) → Option R) (l_11 : Int → Bool → (List Int) → (List Int) → (Int → Int → Bool → (List Int) → (List Int) → Option R) → Int → Option R) (v16 : Int) (v17 : Int) (v18 : Bool) (v19 : (List Int)) (v20 : (List Int)) (K : Out → List S → List Ent → Option R) :
    acodeK C_show_writer_set raw (cf_show_writer_set c_byteset_List c_show_writer_put c_show_sign l_9 l_11) (lf_show_writer_set c_byteset_List c_show_writer_put c_show_sign l_9 l_11) (loopBody Tryd.prog 41 11) (placeSt 77 1 [0, 4, 5, 6] [.ptr 0 [], .own (.int .u8) 1, .int .i64 v16, .int .i64 v17] [.box (.st [.own (.int .u8) 2, .bool v18]) false, .buf (.int .u8) v19 false, .buf (.int .u8) v20 false]) (loopKont C_show_writer_set (lf_show_writer_set c_byteset_List c_show_writer_put c_show_sign l_9 l_11) 77 1 11 (loopBody Tryd.prog 41 11) K) =
      show_writer_set_l11_b c_byteset_List c_show_writer_put c_show_sign l_9 l_11 v16 v18 v19 v20 (fun (r0 : Int) (r1 : Int) (r2 : Bool) (r3 : (List Int)) (r4 : (List Int)) => K (.exit 3) [.ptr 0 [], .own (.int .u8) 1, .int .i64 r0, .int .i64 r1] [.box (.st [.own (.int .u8) 2, .bool r2]) false, .buf (.int .u8) r3 false, .buf (.int .u8) r4 false]) v17 := by kernel_rfl

theorem eq_show_writer_set {R : Type} (c_byteset_List : (List Int) → ((List Int) → Option R) → Option R) (c_show_writer_put : (List Int) → Bool → (List Int) → (Bool → (List Int) → Option R) → Option R) (c_show_sign : Int → ((List Int) → Option R) → Option R) (l_9 : (Bool → (List Int) → Option R) → Int → Bool → (List Int) → (List Int) → Option R) (l_11 : Int → Bool → (List Int) → (List Int) → (Int → Int → Bool → (List Int) → (List Int) → Option R) → Int → Option R) (v1 : (List Int)) (v2 : Bool) (v3 : (List Int)) (K : S → List Ent → Option R) :
    runK C_show_writer_set raw (cf_show_writer_set c_byteset_List c_show_writer_put c_show_sign l_9 l_11) (lf_show_writer_set c_byteset_List c_show_writer_put c_show_sign l_9 l_11) 41 [.ptr 0 [], .arr 4 (.int .u64) v1] [.box (.st [.own (.int .u8) 1, .bool v2]) false, .buf (.int .u8) v3 false] K =
      show_writer_set_b c_byteset_List c_show_writer_put c_show_sign l_9 l_11 v1 v2 v3 (fun (r0 : Bool) (r1 : (List Int)) => K (.tup []) [.box (.st [.own (.int .u8) 1, .bool r0]) false, .buf (.int .u8) r1 false]) := by kernel_rfl

noncomputable def C_show_writer_within : Ctx := { P := Tryd.prog, mv := [], pu := [], glob := glob, live := fun n => look n [], out := fun n => look n [], frz := fun n => look n [], bef := fun n => look n [] }

def cf_show_writer_within {R : Type} (c_slices_Contains_int_int : (List Int) → Int → (Bool → Option R) → Option R) (c_show_writer_rx : Int → (List Int) → (List (Rose (Int × ((List Int) × Unit)))) → Bool → (List Int) → (Bool → (List Int) → Option R) → Option R) (c_show_writer_put : (List Int) → Bool → (List Int) → (Bool → (List Int) → Option R) → Option R) : CallF R := fun f av es K => iteH (decide (f = 55)) (sh55 c_slices_Contains_int_int av es K) (iteH (decide (f = 26)) (sh26 c_show_writer_rx av es K) (iteH (decide (f = 40)) (sh40 c_show_writer_put av es K) (none)))

def lf_show_writer_within {R : Type} (c_slices_Contains_int_int : (List Int) → Int → (Bool → Option R) → Option R) (c_show_writer_rx : Int → (List Int) → (List (Rose (Int × ((List Int) × Unit)))) → Bool → (List Int) → (Bool → (List Int) → Option R) → Option R) (c_show_writer_put : (List Int) → Bool → (List Int) → (Bool → (List Int) → Option R) → Option R) : LoopF R := fun m np id _ vs es K => none

theorem eq_show_writer_within {R : Type} (c_slices_Contains_int_int : (List Int) → Int → (Bool → Option R) → Option R) (c_show_writer_rx : Int → (List Int) → (List (Rose (Int × ((List Int) × Unit)))) → Bool → (List Int) → (Bool → (List Int) → Option R) → Option R) (c_show_writer_put : (List Int) → Bool → (List Int) → (Bool → (List Int) → Option R) → Option R) (v1 : Int) (v2 : (List Int)) (v3 : (List (Rose (Int × ((List Int) × Unit))))) (v4 : (List Int)) (v5 : Bool) (v6 : (List Int)) (K : S → List Ent → Option R) :
    runK C_show_writer_within raw (cf_show_writer_within c_slices_Contains_int_int c_show_writer_rx c_show_writer_put) (lf_show_writer_within c_slices_Contains_int_int c_show_writer_rx c_show_writer_put) 42 [.ptr 0 [], .st [.int .i64 v1, .arr 4 (.int .u64) v2, .sl (.rose (.pair (.int .i64) (.pair (.arr 4 (.int .u64)) .unit))) v3], .sl (.int .i64) v4] [.box (.st [.own (.int .u8) 1, .bool v5]) false, .buf (.int .u8) v6 false] K =
      show_writer_within_b c_slices_Contains_int_int c_show_writer_rx c_show_writer_put v1 v2 v3 v4 v5 v6 (fun (r0 : Bool) (r1 : (List Int)) => K (.tup []) [.box (.st [.own (.int .u8) 1, .bool r0]) false, .buf (.int .u8) r1 false]) := by kernel_rfl

noncomputable def C_show_writer_rx : Ctx := { P := Tryd.prog, mv := [], pu := [], glob := glob, live := fun n => look n [(11, [0, 31, 32, 33]), (17, [0, 45, 46, 47])], out := fun n => look n [(11, []), (17, [])], frz := fun n => look n [(11, []), (17, [])], bef := fun n => look n [] }

def cf_show_writer_rx {R : Type} (c_show_writer_put : (List Int) → Bool → (List Int) → (Bool → (List Int) → Option R) → Option R) (c_show_writer_set : (List Int) → Bool → (List Int) → (Bool → (List Int) → Option R) → Option R) (c_show_writer_within : Int → (List Int) → (List (Rose (Int × ((List Int) × Unit)))) → (List Int) → Bool → (List Int) → (Bool → (List Int) → Option R) → Option R) (c_show_writer_rx : Int → (List Int) → (List (Rose (Int × ((List Int) × Unit)))) → Bool → (List Int) → (Bool → (List Int) → Option R) → Option R) (l_11 : (List (Rose (Int × ((List Int) × Unit)))) → Int → (Bool → (List Int) → Option R) → Int → Bool → (List Int) → Option R) (l_17 : (List (Rose (Int × ((List Int) × Unit)))) → Int → (Bool → (List Int) → Option R) → Int → Bool → (List Int) → Option R) : CallF R := fun f av es K => iteH (decide (f = 40)) (sh40 c_show_writer_put av es K) (iteH (decide (f = 41)) (sh41 c_show_writer_set av es K) (iteH (decide (f = 42)) (sh42 c_show_writer_within av es K) (iteH (decide (f = 26)) (sh26 c_show_writer_rx av es K) (none))))

def sl_show_writer_rx_l11 {R : Type} (l_11 : (List (Rose (Int × ((List Int) × Unit)))) → Int → (Bool → (List Int) → Option R) → Int → Bool → (List Int) → Option R) (vs : List S) (es : List Ent) (K : Out → List S → List Ent → Option R) : Option R :=
  match vs, es with
  | [.ptr 0 [], .sl (.rose (.pair (.int .i64) (.pair (.arr 4 (.int .u64)) .unit))) v12, .int .i64 v13, .int .i64 v14], [.box (.st [.own (.int .u8) 1, .bool v15]) false, .buf (.int .u8) v16 false] => l_11 v12 v13 (fun (r0 : Bool) (r1 : (List Int)) => K (.exit 1) [] [.box (.st [.own (.int .u8) 1, .bool r0]) false, .buf (.int .u8) r1 false]) v14 v15 v16
  | _, _ => none

def sl_show_writer_rx_l17 {R : Type} (l_17 : (List (Rose (Int × ((List Int) × Unit)))) → Int → (Bool → (List Int) → Option R) → Int → Bool → (List Int) → Option R) (vs : List S) (es : List Ent) (K : Out → List S → List Ent → Option R) : Option R :=
  match vs, es with
  | [.ptr 0 [], .sl (.rose (.pair (.int .i64) (.pair (.arr 4 (.int .u64)) .unit))) v21, .int .i64 v22, .int .i64 v23], [.box (.st [.own (.int .u8) 1, .bool v24]) false, .buf (.int .u8) v25 false] => l_17 v21 v22 (fun (r0 : Bool) (r1 : (List Int)) => K (.exit 3) [] [.box (.st [.own (.int .u8) 1, .bool r0]) false, .buf (.int .u8) r1 false]) v23 v24 v25
  | _, _ => none

def lf_show_writer_rx {R : Type} (c_show_writer_put : (List Int) → Bool → (List Int) → (Bool → (List Int) → Option R) → Option R) (c_show_writer_set : (List Int) → Bool → (List Int) → (Bool → (List Int) → Option R) → Option R) (c_show_writer_within : Int → (List Int) → (List (Rose (Int × ((List Int) × Unit)))) → (List Int) → Bool → (List Int) → (Bool → (List Int) → Option R) → Option R) (c_show_writer_rx : Int → (List Int) → (List (Rose (Int × ((List Int) × Unit)))) → Bool → (List Int) → (Bool → (List Int) → Option R) → Option R) (l_11 : (List (Rose (Int × ((List Int) × Unit)))) → Int → (Bool → (List Int) → Option R) → Int → Bool → (List Int) → Option R) (l_17 : (List (Rose (Int × ((List Int) × Unit)))) → Int → (Bool → (List Int) → Option R) → Int → Bool → (List Int) → Option R) : LoopF R := fun m np id _ vs es K => iteH (decide (m = 74) && decide (np = 1)) (iteH (decide (id = 11)) (sl_show_writer_rx_l11 l_11 vs es K) (iteH (decide (id = 17)) (sl_show_writer_rx_l17 l_17 vs es K) (none))) none

theorem eq_show_writer_rx_l11 {R : Type} (c_show_writer_put : (List Int) → Bool → (List Int) → (Bool → (List Int) → Option R) → Option R) (c_show_writer_set : (List Int) → Bool → (List Int) → (Bool → (List Int) → Option R) → Option R) (c_show_writer_within : Int → (List Int) → (List (Rose (Int × ((List Int) × Unit)))) → (List Int) → Bool → (List Int) → (Bool → (List Int) → Option R) → Option R) (c_show_writer_rx : Int → (List Int) → (List (Rose (Int × ((List Int) × Unit)))) → Bool → (List Int) → (Bool → (List Int) → Option R) → Option R) (l_11 : (List (Rose (Int × ((List Int) × Unit)))) → Int → (Bool → (List Int) → Option R) → Int → Bool → (List Int) → Option R) (l_17 : (List (Rose (Int × ((List Int) × Unit)))) → Int → (Bool → (List Int) → Option R) → Int → Bool → (List Int) → Option R) (v12 : (List (Rose (Int × ((List Int) × Unit))))) (v13 : Int) (v14 : Int) (v15 : Bool) (v16 : (List Int)) (K : Out → List S → List Ent → Option R) :
    acodeK C_show_writer_rx raw (cf_show_writer_rx c_show_writer_put c_show_writer_set c_show_writer_within c_show_writer_rx l_11 l_17) (lf_show_writer_rx c_show_writer_put c_show_writer_set c_show_writer_within c_show_writer_rx l_11 l_17) (loopBody Tryd.prog 26 11) (placeSt 74 1 [0, 31, 32, 33] [.ptr 0 [], .sl (.rose (.pair (.int .i64) (.pair (.arr 4 (.int .u64)) .unit))) v12, .int .i64 v13, .int .i64 v14] [.box (.st [.own (.int .u8) 1, .bool v15]) false, .buf (.int .u8) v16 false]) (loopKont C_show_writer_rx (lf_show_writer_rx c_show_writer_put c_show_writer_set c_show_writer_within c_show_writer_rx l_11 l_17) 74 1 11 (loopBody Tryd.prog 26 11) K) =
      show_writer_rx_l11_b c_show_writer_put c_show_writer_set c_show_writer_within c_show_writer_rx l_11 l_17 v12 v13 (fun (r0 : Bool) (r1 : (List Int)) => K (.exit 1) [] [.box (.st [.own (.int .u8) 1, .bool r0]) false, .buf (.int .u8) r1 false]) v14 v15 v16 := by kernel_rfl

theorem eq_show_writer_rx_l17 {R : Type} (c_show_writer_put : (List Int) → Bool → (List Int) → (Bool → (List Int) → Option R) → Option R) (c_show_writer_set : (List Int) → Bool → (List Int) → (Bool → (List Int) → Option R) → Option R) (c_show_writer_within : Int → (List Int) → (List (Rose (Int × ((List Int) × Unit)))) → (List Int) → Bool → (List Int) → (Bool → (List Int) → Option R) → Option R) (c_show_writer_rx : Int → (List Int) → (List (Rose (Int × ((List Int) × Unit)))) → Bool → (List Int) → (Bool → (List Int) → Option R) → Option R) (l_11 : (List (Rose (Int × ((List Int) × Unit)))) → Int → (Bool → (List Int) → Option R) → Int → Bool → (List Int) → Option R) (l_17 : (List (Rose (Int × ((List Int) × Unit)))) → Int → (Bool → (List Int) → Option R) → Int → Bool → (List Int) → Option R) (v21 : (List (Rose (Int × ((List Int) × Unit))))) (v22 : Int) (v23 : Int) (v24 : Bool) (v25 : (List Int)) (K : Out → List S → List Ent → Option R) :
    acodeK C_show_writer_rx raw (cf_show_writer_rx c_show_writer_put c_show_writer_set c_show_writer_within c_show_writer_rx l_11 l_17) (lf_show_writer_rx c_show_writer_put c_show_writer_set c_show_writer_within c_show_writer_rx l_11 l_17) (loopBody Tryd.prog 26 17) (placeSt 74 1 [0, 45, 46, 47] [.ptr 0 [], .sl (.rose (.pair (.int .i64) (.pair (.arr 4 (.int .u64)) .unit))) v21, .int .i64 v22, .int .i64 v23] [.box (.st [.own (.int .u8) 1, .bool v24]) false, .buf (.int .u8) v25 false]) (loopKont C_show_writer_rx (lf_show_writer_rx c_show_writer_put c_show_writer_set c_show_writer_within c_show_writer_rx l_11 l_17) 74 1 17 (loopBody Tryd.prog 26 17) K) =
      show_writer_rx_l17_b c_show_writer_put c_show_writer_set c_show_writer_within c_show_writer_rx l_11 l_17 v21 v22 (fun (r0 : Bool) (r1 : (List Int)) => K (.exit 3) [] [.box (.st [.own (.int .u8) 1, .bool r0]) false, .buf (.int .u8) r1 false]) v23 v24 v25 := by kernel_rfl

theorem eq_show_writer_rx {R : Type} (c_show_writer_put : (List Int) → Bool → (List Int) → (Bool → (List Int) → Option R) → Option R) (c_show_writer_set : (List Int) → Bool → (List Int) → (Bool → (List Int) → Option R) → Option R) (c_show_writer_within : Int → (List Int) → (List (Rose (Int × ((List Int) × Unit)))) → (List Int) → Bool → (List Int) → (Bool → (List Int) → Option R) → Option R) (c_show_writer_rx : Int → (List Int) → (List (Rose (Int × ((List Int) × Unit)))) → Bool → (List Int) → (Bool → (List Int) → Option R) → Option R) (l_11 : (List (Rose (Int × ((List Int) × Unit)))) → Int → (Bool → (List Int) → Option R) → Int → Bool → (List Int) → Option R) (l_17 : (List (Rose (Int × ((List Int) × Unit)))) → Int → (Bool → (List Int) → Option R) → Int → Bool → (List Int) → Option R) (v1 : Int) (v2 : (List Int)) (v3 : (List (Rose (Int × ((List Int) × Unit))))) (v4 : Bool) (v5 : (List Int)) (K : S → List Ent → Option R) :
    runK C_show_writer_rx raw (cf_show_writer_rx c_show_writer_put c_show_writer_set c_show_writer_within c_show_writer_rx l_11 l_17) (lf_show_writer_rx c_show_writer_put c_show_writer_set c_show_writer_within c_show_writer_rx l_11 l_17) 26 [.ptr 0 [], .st [.int .i64 v1, .arr 4 (.int .u64) v2, .sl (.rose (.pair (.int .i64) (.pair (.arr 4 (.int .u64)) .unit))) v3]] [.box (.st [.own (.int .u8) 1, .bool v4]) false, .buf (.int .u8) v5 false] K =
      show_writer_rx_b c_show_writer_put c_show_writer_set c_show_writer_within c_show_writer_rx l_11 l_17 v1 v2 v3 v4 v5 (fun (r0 : Bool) (r1 : (List Int)) => K (.tup []) [.box (.st [.own (.int .u8) 1, .bool r0]) false, .buf (.int .u8) r1 false]) := by kernel_rfl

noncomputable def C_show_Show : Ctx := { P := Tryd.prog, mv := [], pu := [], glob := glob, live := fun n => look n [], out := fun n => look n [], frz := fun n => look n [], bef := fun n => look n [] }

def cf_show_Show {R : Type} (c_rx_Plain : Int → (List Int) → (List (Rose (Int × ((List Int) × Unit)))) → (Bool → Option R) → Option R) (c_show_writer_rx : Int → (List Int) → (List (Rose (Int × ((List Int) × Unit)))) → Bool → (List Int) → (Bool → (List Int) → Option R) → Option R) : CallF R := fun f av es K => iteH (decide (f = 25)) (sh25 c_rx_Plain av es K) (iteH (decide (f = 26)) (sh26 c_show_writer_rx av es K) (none))

def lf_show_Show {R : Type} (c_rx_Plain : Int → (List Int) → (List (Rose (Int × ((List Int) × Unit)))) → (Bool → Option R) → Option R) (c_show_writer_rx : Int → (List Int) → (List (Rose (Int × ((List Int) × Unit)))) → Bool → (List Int) → (Bool → (List Int) → Option R) → Option R) : LoopF R := fun m np id _ vs es K => none

theorem eq_show_Show {R : Type} (c_rx_Plain : Int → (List Int) → (List (Rose (Int × ((List Int) × Unit)))) → (Bool → Option R) → Option R) (c_show_writer_rx : Int → (List Int) → (List (Rose (Int × ((List Int) × Unit)))) → Bool → (List Int) → (Bool → (List Int) → Option R) → Option R) (v1 : Int) (v2 : (List Int)) (v3 : (List (Rose (Int × ((List Int) × Unit))))) (K : S → List Ent → Option R) :
    runK C_show_Show raw (cf_show_Show c_rx_Plain c_show_writer_rx) (lf_show_Show c_rx_Plain c_show_writer_rx) 12 [.st [.int .i64 v1, .arr 4 (.int .u64) v2, .sl (.rose (.pair (.int .i64) (.pair (.arr 4 (.int .u64)) .unit))) v3]] [] K =
      show_Show_b c_rx_Plain c_show_writer_rx v1 v2 v3 (fun (r0 : (List Int)) => K (.str r0) []) := by kernel_rfl

noncomputable def C_law7_begun : Ctx := { P := Tryd.prog, mv := [], pu := [], glob := glob, live := fun n => look n [], out := fun n => look n [], frz := fun n => look n [], bef := fun n => look n [] }

def cf_law7_begun {R : Type} (c_ref1_Of : (List Int) → ((List Int) → Option R) → Option R) (c_ref5_Bytes : (List Int) → (Int → (List Int) → (List (Rose (Int × ((List Int) × Unit)))) → Option R) → Option R) (c_ref5_Star : Int → (List Int) → (List (Rose (Int × ((List Int) × Unit)))) → (Int → (List Int) → (List (Rose (Int × ((List Int) × Unit)))) → Option R) → Option R) (c_show_Show : Int → (List Int) → (List (Rose (Int × ((List Int) × Unit)))) → ((List Int) → Option R) → Option R) (c_ref5_Empty : (Int → (List Int) → (List (Rose (Int × ((List Int) × Unit)))) → Option R) → Option R) : CallF R := fun f av es K => iteH (decide (f = 20)) (sh20 c_ref1_Of av es K) (iteH (decide (f = 18)) (sh18 c_ref5_Bytes av es K) (iteH (decide (f = 21)) (sh21 c_ref5_Star av es K) (iteH (decide (f = 12)) (sh12 c_show_Show av es K) (iteH (decide (f = 22)) (sh22 c_ref5_Empty av es K) (none)))))

def lf_law7_begun {R : Type} (c_ref1_Of : (List Int) → ((List Int) → Option R) → Option R) (c_ref5_Bytes : (List Int) → (Int → (List Int) → (List (Rose (Int × ((List Int) × Unit)))) → Option R) → Option R) (c_ref5_Star : Int → (List Int) → (List (Rose (Int × ((List Int) × Unit)))) → (Int → (List Int) → (List (Rose (Int × ((List Int) × Unit)))) → Option R) → Option R) (c_show_Show : Int → (List Int) → (List (Rose (Int × ((List Int) × Unit)))) → ((List Int) → Option R) → Option R) (c_ref5_Empty : (Int → (List Int) → (List (Rose (Int × ((List Int) × Unit)))) → Option R) → Option R) : LoopF R := fun m np id _ vs es K => none

theorem eq_law7_begun {R : Type} (c_ref1_Of : (List Int) → ((List Int) → Option R) → Option R) (c_ref5_Bytes : (List Int) → (Int → (List Int) → (List (Rose (Int × ((List Int) × Unit)))) → Option R) → Option R) (c_ref5_Star : Int → (List Int) → (List (Rose (Int × ((List Int) × Unit)))) → (Int → (List Int) → (List (Rose (Int × ((List Int) × Unit)))) → Option R) → Option R) (c_show_Show : Int → (List Int) → (List (Rose (Int × ((List Int) × Unit)))) → ((List Int) → Option R) → Option R) (c_ref5_Empty : (Int → (List Int) → (List (Rose (Int × ((List Int) × Unit)))) → Option R) → Option R) (K : S → List Ent → Option R) :
    runK C_law7_begun raw (cf_law7_begun c_ref1_Of c_ref5_Bytes c_ref5_Star c_show_Show c_ref5_Empty) (lf_law7_begun c_ref1_Of c_ref5_Bytes c_ref5_Star c_show_Show c_ref5_Empty) 9 [] [] K =
      law7_begun_b c_ref1_Of c_ref5_Bytes c_ref5_Star c_show_Show c_ref5_Empty (fun (r0 : Bool) => K (.bool r0) []) := by kernel_rfl

noncomputable def C_ref1_Where : Ctx := { P := Tryd.prog, mv := [], pu := [], glob := glob, live := fun n => look n [(3, [1, 2, 3, 4])], out := fun n => look n [(3, [2, 3])], frz := fun n => look n [(3, [])], bef := fun n => look n [] }

def cf_ref1_Where {R : Type} (c_ref1_Of : (List Int) → ((List Int) → Option R) → Option R) (l_3 : (List Bool) → (List Int) → ((List Int) → (List Int) → Option R) → Int → (List Int) → Option R) : CallF R := fun f av es K => iteH (decide (f = 20)) (sh20 c_ref1_Of av es K) (none)

def sl_ref1_Where_l3 {R : Type} (l_3 : (List Bool) → (List Int) → ((List Int) → (List Int) → Option R) → Int → (List Int) → Option R) (vs : List S) (es : List Ent) (K : Out → List S → List Ent → Option R) : Option R :=
  match vs, es with
  | [.ptr 0 [], .ptr 1 [], .own (.int .u8) 2, .int .i64 v2], [.box (.arr 256 .bool v3) false, .box (.arr 4 (.int .u64) v4) false, .buf (.int .u8) v5 false] => l_3 v3 v4 (fun (r0 : (List Int)) (r1 : (List Int)) => K (.exit 0) [.ptr 0 [], .own (.int .u8) 1] [.box (.arr 4 (.int .u64) r0) false, .buf (.int .u8) r1 false]) v2 v5
  | _, _ => none

def lf_ref1_Where {R : Type} (c_ref1_Of : (List Int) → ((List Int) → Option R) → Option R) (l_3 : (List Bool) → (List Int) → ((List Int) → (List Int) → Option R) → Int → (List Int) → Option R) : LoopF R := fun m np id _ vs es K => iteH (decide (m = 19) && decide (np = 0)) (iteH (decide (id = 3)) (sl_ref1_Where_l3 l_3 vs es K) (none)) none

theorem eq_ref1_Where_l3 {R : Type} (c_ref1_Of : (List Int) → ((List Int) → Option R) → Option R) (l_3 : (List Bool) → (List Int) → ((List Int) → (List Int) → Option R) → Int → (List Int) → Option R) (v2 : Int) (v3 : (List Bool)) (v4 : (List Int)) (v5 : (List Int)) (K : Out → List S → List Ent → Option R) :
    acodeK C_ref1_Where raw (cf_ref1_Where c_ref1_Of l_3) (lf_ref1_Where c_ref1_Of l_3) (loopBody Tryd.prog 34 3) (placeSt 19 0 [1, 2, 3, 4] [.ptr 0 [], .ptr 1 [], .own (.int .u8) 2, .int .i64 v2] [.box (.arr 256 .bool v3) false, .box (.arr 4 (.int .u64) v4) false, .buf (.int .u8) v5 false]) (loopKont C_ref1_Where (lf_ref1_Where c_ref1_Of l_3) 19 0 3 (loopBody Tryd.prog 34 3) K) =
      ref1_Where_l3_b c_ref1_Of l_3 v3 v4 (fun (r0 : (List Int)) (r1 : (List Int)) => K (.exit 0) [.ptr 0 [], .own (.int .u8) 1] [.box (.arr 4 (.int .u64) r0) false, .buf (.int .u8) r1 false]) v2 v5 := by kernel_rfl

theorem eq_ref1_Where {R : Type} (c_ref1_Of : (List Int) → ((List Int) → Option R) → Option R) (l_3 : (List Bool) → (List Int) → ((List Int) → (List Int) → Option R) → Int → (List Int) → Option R) (v1 : (List Bool)) (K : S → List Ent → Option R) :
    runK C_ref1_Where raw (cf_ref1_Where c_ref1_Of l_3) (lf_ref1_Where c_ref1_Of l_3) 34 [.arr 256 .bool v1] [] K =
      ref1_Where_b c_ref1_Of l_3 v1 (fun (r0 : (List Int)) => K (.arr 4 (.int .u64) r0) []) := by kernel_rfl

noncomputable def C_ref1_Range : Ctx := { P := Tryd.prog, mv := [], pu := [], glob := glob, live := fun n => look n [(3, [1, 4, 5, 6])], out := fun n => look n [(3, [4, 5])], frz := fun n => look n [(3, [])], bef := fun n => look n [] }

def cf_ref1_Range {R : Type} (c_ref1_Where : (List Bool) → ((List Int) → Option R) → Option R) (l_3 : Int → (List Int) → ((List Int) → (List Bool) → Option R) → Int → (List Bool) → Option R) : CallF R := fun f av es K => iteH (decide (f = 34)) (sh34 c_ref1_Where av es K) (none)

def sl_ref1_Range_l3 {R : Type} (l_3 : Int → (List Int) → ((List Int) → (List Bool) → Option R) → Int → (List Bool) → Option R) (vs : List S) (es : List Ent) (K : Out → List S → List Ent → Option R) : Option R :=
  match vs, es with
  | [.int .u8 v3, .ptr 0 [], .ptr 1 [], .int .i64 v4], [.box (.arr 4 (.int .u64) v5) false, .box (.arr 256 .bool v6) false] => l_3 v3 v5 (fun (r0 : (List Int)) (r1 : (List Bool)) => K (.exit 0) [.ptr 0 [], .ptr 1 []] [.box (.arr 4 (.int .u64) r0) false, .box (.arr 256 .bool r1) false]) v4 v6
  | _, _ => none

def lf_ref1_Range {R : Type} (c_ref1_Where : (List Bool) → ((List Int) → Option R) → Option R) (l_3 : Int → (List Int) → ((List Int) → (List Bool) → Option R) → Int → (List Bool) → Option R) : LoopF R := fun m np id _ vs es K => iteH (decide (m = 19) && decide (np = 0)) (iteH (decide (id = 3)) (sl_ref1_Range_l3 l_3 vs es K) (none)) none

theorem eq_ref1_Range_l3 {R : Type} (c_ref1_Where : (List Bool) → ((List Int) → Option R) → Option R) (l_3 : Int → (List Int) → ((List Int) → (List Bool) → Option R) → Int → (List Bool) → Option R) (v3 : Int) (v4 : Int) (v5 : (List Int)) (v6 : (List Bool)) (K : Out → List S → List Ent → Option R) :
    acodeK C_ref1_Range raw (cf_ref1_Range c_ref1_Where l_3) (lf_ref1_Range c_ref1_Where l_3) (loopBody Tryd.prog 19 3) (placeSt 19 0 [1, 4, 5, 6] [.int .u8 v3, .ptr 0 [], .ptr 1 [], .int .i64 v4] [.box (.arr 4 (.int .u64) v5) false, .box (.arr 256 .bool v6) false]) (loopKont C_ref1_Range (lf_ref1_Range c_ref1_Where l_3) 19 0 3 (loopBody Tryd.prog 19 3) K) =
      ref1_Range_l3_b c_ref1_Where l_3 v3 v5 (fun (r0 : (List Int)) (r1 : (List Bool)) => K (.exit 0) [.ptr 0 [], .ptr 1 []] [.box (.arr 4 (.int .u64) r0) false, .box (.arr 256 .bool r1) false]) v4 v6 := by kernel_rfl

theorem eq_ref1_Range {R : Type} (c_ref1_Where : (List Bool) → ((List Int) → Option R) → Option R) (l_3 : Int → (List Int) → ((List Int) → (List Bool) → Option R) → Int → (List Bool) → Option R) (v1 : Int) (v2 : Int) (K : S → List Ent → Option R) :
    runK C_ref1_Range raw (cf_ref1_Range c_ref1_Where l_3) (lf_ref1_Range c_ref1_Where l_3) 19 [.int .u8 v1, .int .u8 v2] [] K =
      ref1_Range_b c_ref1_Where l_3 v1 v2 (fun (r0 : (List Int)) => K (.arr 4 (.int .u64) r0) []) := by kernel_rfl

noncomputable def C_law7_ShowRuns : Ctx := { P := Tryd.prog, mv := [], pu := [], glob := glob, live := fun n => look n [], out := fun n => look n [], frz := fun n => look n [], bef := fun n => look n [] }

def cf_law7_ShowRuns {R : Type} (c_law7_begun : (Bool → Option R) → Option R) (c_ref1_Range : Int → Int → ((List Int) → Option R) → Option R) (c_ref5_Bytes : (List Int) → (Int → (List Int) → (List (Rose (Int × ((List Int) × Unit)))) → Option R) → Option R) (c_show_Show : Int → (List Int) → (List (Rose (Int × ((List Int) × Unit)))) → ((List Int) → Option R) → Option R) : CallF R := fun f av es K => iteH (decide (f = 9)) (sh9 c_law7_begun av es K) (iteH (decide (f = 19)) (sh19 c_ref1_Range av es K) (iteH (decide (f = 18)) (sh18 c_ref5_Bytes av es K) (iteH (decide (f = 12)) (sh12 c_show_Show av es K) (none))))

def lf_law7_ShowRuns {R : Type} (c_law7_begun : (Bool → Option R) → Option R) (c_ref1_Range : Int → Int → ((List Int) → Option R) → Option R) (c_ref5_Bytes : (List Int) → (Int → (List Int) → (List (Rose (Int × ((List Int) × Unit)))) → Option R) → Option R) (c_show_Show : Int → (List Int) → (List (Rose (Int × ((List Int) × Unit)))) → ((List Int) → Option R) → Option R) : LoopF R := fun m np id _ vs es K => none

theorem eq_law7_ShowRuns {R : Type} (c_law7_begun : (Bool → Option R) → Option R) (c_ref1_Range : Int → Int → ((List Int) → Option R) → Option R) (c_ref5_Bytes : (List Int) → (Int → (List Int) → (List (Rose (Int × ((List Int) × Unit)))) → Option R) → Option R) (c_show_Show : Int → (List Int) → (List (Rose (Int × ((List Int) × Unit)))) → ((List Int) → Option R) → Option R) (v1 : Int) (v2 : Int) (K : S → List Ent → Option R) :
    runK C_law7_ShowRuns raw (cf_law7_ShowRuns c_law7_begun c_ref1_Range c_ref5_Bytes c_show_Show) (lf_law7_ShowRuns c_law7_begun c_ref1_Range c_ref5_Bytes c_show_Show) 7 [.int .u8 v1, .int .u8 v2] [] K =
      law7_ShowRuns_b c_law7_begun c_ref1_Range c_ref5_Bytes c_show_Show v1 v2 (fun (r0 : Bool) => K (.bool r0) []) := by kernel_rfl

end
end Go.Ab.T
