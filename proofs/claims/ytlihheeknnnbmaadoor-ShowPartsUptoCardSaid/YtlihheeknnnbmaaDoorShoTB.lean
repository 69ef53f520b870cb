/- ShoTB: a part of the proofs of this seat's statements. -/
import Derived.Test.YtlihheeknnnbmaaDoorShoTA
namespace Go.Ab.T
open Go Go.Ab Go.Proofs
set_option maxRecDepth 100000
set_option linter.unusedVariables false
noncomputable section
noncomputable def C_yy17 : Ctx := { P := Tryd.prog, mv := [], pu := [], glob := glob, live := fun n => look n [(3, [0, 2, 3, 4])], out := fun n => look n [(3, [2, 3])], frz := fun n => look n [(3, [])], bef := fun n => look n [(5, [0, 0, 3, 7, 15, 31, 63, 0, 0, 384, 896, 1920, 3968, 8191, 16383, 32767])] }
def cf_yy17 {R : Type} (l_3 : T30 R) : CallF R := fun f av es K => none
def sl_yy17_l3 {R : Type} (l_3 : T30 R) (vs : List S) (es : List Ent) (K : Out → List S → List Ent → Option R) : Option R :=
  match vs, es with
  | [.sl (.int .u8) v2, .ptr 0 [], .ptr 1 [], .int .i64 v3], [.box (.arr 4 (.int .u64) v4) false, .box (.arr 4 (.int .u64) v5) false] => l_3 v2 v4 (fun (r0 : LI) (r1 : LI) => K (.exit 0) [.ptr 0 [], .ptr 1 []] [.box (.arr 4 (.int .u64) r0) false, .box (.arr 4 (.int .u64) r1) false]) v3 v5
  | _, _ => none
def lf_yy17 {R : Type} (l_3 : T30 R) : LoopF R := fun m np id _ vs es K => iteH (decide (m = 27) && decide (np = 0)) (iteH (decide (id = 3)) (sl_yy17_l3 l_3 vs es K) (none)) none
theorem eq_yy17_l3 {R : Type} (l_3 : T30 R) (v2 : LI) (v3 : Int) (v4 : LI) (v5 : LI) (K : Out → List S → List Ent → Option R) :
    acodeK C_yy17 raw (cf_yy17 l_3) (lf_yy17 l_3) (loopBody Tryd.prog 20 3) (placeSt 27 0 [0, 2, 3, 4] [.sl (.int .u8) v2, .ptr 0 [], .ptr 1 [], .int .i64 v3] [.box (.arr 4 (.int .u64) v4) false, .box (.arr 4 (.int .u64) v5) false]) (loopKont C_yy17 (lf_yy17 l_3) 27 0 3 (loopBody Tryd.prog 20 3) K) =
      yy17_l3_b l_3 v2 v4 (fun (r0 : LI) (r1 : LI) => K (.exit 0) [.ptr 0 [], .ptr 1 []] [.box (.arr 4 (.int .u64) r0) false, .box (.arr 4 (.int .u64) r1) false]) v3 v5 := by kernel_rfl
theorem eq_yy17 {R : Type} (l_3 : T30 R) (v1 : LI) (K : S → List Ent → Option R) :
    runK C_yy17 raw (cf_yy17 l_3) (lf_yy17 l_3) 20 [.sl (.int .u8) v1] [] K =
      yy17_b l_3 v1 (fun (r0 : LI) => K (.arr 4 (.int .u64) r0) []) := by kernel_rfl
noncomputable def C_yy29 : Ctx := { P := Tryd.prog, mv := [], pu := [], glob := glob, live := fun n => look n [], out := fun n => look n [], frz := fun n => look n [], bef := fun n => look n [] }
def cf_yy29 {R : Type} : CallF R := fun f av es K => none
def lf_yy29 {R : Type} : LoopF R := fun m np id _ vs es K => none
theorem eq_yy29 {R : Type} (K : S → List Ent → Option R) :
    runK C_yy29 raw (cf_yy29) (lf_yy29) 33 [] [] K =
      yy29_b (fun (r0 : Int) (r1 : LI) (r2 : (List (Rose (Int × (LI × Unit))))) => K (.st [.int .i64 r0, .arr 4 (.int .u64) r1, .own (.rose (.pair (.int .i64) (.pair (.arr 4 (.int .u64)) .unit))) 0]) [.buf (.rose (.pair (.int .i64) (.pair (.arr 4 (.int .u64)) .unit))) r2 false]) := by kernel_rfl
noncomputable def C_yy23 : Ctx := { P := Tryd.prog, mv := [], pu := [], glob := glob, live := fun n => look n [], out := fun n => look n [], frz := fun n => look n [], bef := fun n => look n [] }
def cf_yy23 {R : Type} (c_yy29 : T1 R) : CallF R := fun f av es K => iteH (decide (f = 33)) (sh33 c_yy29 av es K) (none)
def lf_yy23 {R : Type} (c_yy29 : T1 R) : LoopF R := fun m np id _ vs es K => none
theorem eq_yy23 {R : Type} (c_yy29 : T1 R) (v1 : LI) (K : S → List Ent → Option R) :
    runK C_yy23 raw (cf_yy23 c_yy29) (lf_yy23 c_yy29) 18 [.arr 4 (.int .u64) v1] [] K =
      yy23_b c_yy29 v1 (fun (r0 : Int) (r1 : LI) (r2 : (List (Rose (Int × (LI × Unit))))) => K (.st [.int .i64 r0, .arr 4 (.int .u64) r1, .own (.rose (.pair (.int .i64) (.pair (.arr 4 (.int .u64)) .unit))) 0]) [.buf (.rose (.pair (.int .i64) (.pair (.arr 4 (.int .u64)) .unit))) r2 false]) := by kernel_rfl
noncomputable def C_yy26 : Ctx := { P := Tryd.prog, mv := [], pu := [], glob := glob, live := fun n => look n [(3, [1, 2, 3, 4])], out := fun n => look n [(3, [1, 2, 3])], frz := fun n => look n [(3, [])], bef := fun n => look n [] }
def cf_yy26 {R : Type} (c_yy26 : T0 R) (l_3 : T14 R) : CallF R := fun f av es K => iteH (decide (f = 11)) (sh11 c_yy26 av es K) (none)
def sl_yy26_l3 {R : Type} (l_3 : T14 R) (vs : List S) (es : List Ent) (K : Out → List S → List Ent → Option R) : Option R :=
  match vs, es with
  | [.ptr 0 [], .ptr 1 [], .own (.rose (.pair (.int .i64) (.pair (.arr 4 (.int .u64)) .unit))) 2, .int .i64 v4], [.box (.st [.int .i64 v5, .arr 4 (.int .u64) v6, .sl (.rose (.pair (.int .i64) (.pair (.arr 4 (.int .u64)) .unit))) v7]) false, .box (.st [.int .i64 v8, .arr 4 (.int .u64) v9, .own (.rose (.pair (.int .i64) (.pair (.arr 4 (.int .u64)) .unit))) 3]) false, .buf (.rose (.pair (.int .i64) (.pair (.arr 4 (.int .u64)) .unit))) v10 false, .buf (.rose (.pair (.int .i64) (.pair (.arr 4 (.int .u64)) .unit))) v11 false] => l_3 v5 v6 v7 v8 v9 v11 (fun (r0 : Int) (r1 : LI) (r2 : (List (Rose (Int × (LI × Unit))))) (r3 : Int) (r4 : LI) (r5 : (List (Rose (Int × (LI × Unit))))) (r6 : (List (Rose (Int × (LI × Unit))))) => K (.exit 0) [.ptr 0 [], .ptr 1 [], .own (.rose (.pair (.int .i64) (.pair (.arr 4 (.int .u64)) .unit))) 2] [.box (.st [.int .i64 r0, .arr 4 (.int .u64) r1, .sl (.rose (.pair (.int .i64) (.pair (.arr 4 (.int .u64)) .unit))) r2]) false, .box (.st [.int .i64 r3, .arr 4 (.int .u64) r4, .own (.rose (.pair (.int .i64) (.pair (.arr 4 (.int .u64)) .unit))) 3]) false, .buf (.rose (.pair (.int .i64) (.pair (.arr 4 (.int .u64)) .unit))) r5 false, .buf (.rose (.pair (.int .i64) (.pair (.arr 4 (.int .u64)) .unit))) r6 false]) v4 v10
  | _, _ => none
def lf_yy26 {R : Type} (c_yy26 : T0 R) (l_3 : T14 R) : LoopF R := fun m np id _ vs es K => iteH (decide (m = 24) && decide (np = 0)) (iteH (decide (id = 3)) (sl_yy26_l3 l_3 vs es K) (none)) none
theorem eq_yy26_l3 {R : Type} (c_yy26 : T0 R) (l_3 : T14 R) (v4 : Int) (v5 : Int) (v6 : LI) (v7 : (List (Rose (Int × (LI × Unit))))) (v8 : Int) (v9 : LI) (v10 : (List (Rose (Int × (LI × Unit))))) (v11 : (List (Rose (Int × (LI × Unit))))) (K : Out → List S → List Ent → Option R) :
    acodeK C_yy26 raw (cf_yy26 c_yy26 l_3) (lf_yy26 c_yy26 l_3) (loopBody Tryd.prog 11 3) (placeSt 24 0 [1, 2, 3, 4] [.ptr 0 [], .ptr 1 [], .own (.rose (.pair (.int .i64) (.pair (.arr 4 (.int .u64)) .unit))) 2, .int .i64 v4] [.box (.st [.int .i64 v5, .arr 4 (.int .u64) v6, .sl (.rose (.pair (.int .i64) (.pair (.arr 4 (.int .u64)) .unit))) v7]) false, .box (.st [.int .i64 v8, .arr 4 (.int .u64) v9, .own (.rose (.pair (.int .i64) (.pair (.arr 4 (.int .u64)) .unit))) 3]) false, .buf (.rose (.pair (.int .i64) (.pair (.arr 4 (.int .u64)) .unit))) v10 false, .buf (.rose (.pair (.int .i64) (.pair (.arr 4 (.int .u64)) .unit))) v11 false]) (loopKont C_yy26 (lf_yy26 c_yy26 l_3) 24 0 3 (loopBody Tryd.prog 11 3) K) =
      yy26_l3_b c_yy26 l_3 v5 v6 v7 v8 v9 v11 (fun (r0 : Int) (r1 : LI) (r2 : (List (Rose (Int × (LI × Unit))))) (r3 : Int) (r4 : LI) (r5 : (List (Rose (Int × (LI × Unit))))) (r6 : (List (Rose (Int × (LI × Unit))))) => K (.exit 0) [.ptr 0 [], .ptr 1 [], .own (.rose (.pair (.int .i64) (.pair (.arr 4 (.int .u64)) .unit))) 2] [.box (.st [.int .i64 r0, .arr 4 (.int .u64) r1, .sl (.rose (.pair (.int .i64) (.pair (.arr 4 (.int .u64)) .unit))) r2]) false, .box (.st [.int .i64 r3, .arr 4 (.int .u64) r4, .own (.rose (.pair (.int .i64) (.pair (.arr 4 (.int .u64)) .unit))) 3]) false, .buf (.rose (.pair (.int .i64) (.pair (.arr 4 (.int .u64)) .unit))) r5 false, .buf (.rose (.pair (.int .i64) (.pair (.arr 4 (.int .u64)) .unit))) r6 false]) v4 v10 := by kernel_rfl
theorem eq_yy26 {R : Type} (c_yy26 : T0 R) (l_3 : T14 R) (v1 : Int) (v2 : LI) (v3 : (List (Rose (Int × (LI × Unit))))) (K : S → List Ent → Option R) :
    runK C_yy26 raw (cf_yy26 c_yy26 l_3) (lf_yy26 c_yy26 l_3) 11 [.st [.int .i64 v1, .arr 4 (.int .u64) v2, .sl (.rose (.pair (.int .i64) (.pair (.arr 4 (.int .u64)) .unit))) v3]] [] K =
      yy26_b c_yy26 l_3 v1 v2 v3 (fun (r0 : Int) (r1 : LI) (r2 : (List (Rose (Int × (LI × Unit))))) => K (.st [.int .i64 r0, .arr 4 (.int .u64) r1, .own (.rose (.pair (.int .i64) (.pair (.arr 4 (.int .u64)) .unit))) 0]) [.buf (.rose (.pair (.int .i64) (.pair (.arr 4 (.int .u64)) .unit))) r2 false]) := by kernel_rfl
noncomputable def C_yy27 : Ctx := { P := Tryd.prog, mv := [], pu := [], glob := glob, live := fun n => look n [], out := fun n => look n [], frz := fun n => look n [], bef := fun n => look n [] }
def cf_yy27 {R : Type} : CallF R := fun f av es K => none
def lf_yy27 {R : Type} : LoopF R := fun m np id _ vs es K => none
theorem eq_yy27 {R : Type} (K : S → List Ent → Option R) :
    runK C_yy27 raw (cf_yy27) (lf_yy27) 22 [] [] K =
      yy27_b (fun (r0 : Int) (r1 : LI) (r2 : (List (Rose (Int × (LI × Unit))))) => K (.st [.int .i64 r0, .arr 4 (.int .u64) r1, .own (.rose (.pair (.int .i64) (.pair (.arr 4 (.int .u64)) .unit))) 0]) [.buf (.rose (.pair (.int .i64) (.pair (.arr 4 (.int .u64)) .unit))) r2 false]) := by kernel_rfl
noncomputable def C_yy31 : Ctx := { P := Tryd.prog, mv := [], pu := [], glob := glob, live := fun n => look n [(3, [0, 1, 5, 6])], out := fun n => look n [(3, [5])], frz := fun n => look n [(3, [])], bef := fun n => look n [] }
def cf_yy31 {R : Type} (l_3 : T31 R) : CallF R := fun f av es K => none
def sl_yy31_l3 {R : Type} (l_3 : T31 R) (vs : List S) (es : List Ent) (K : Out → List S → List Ent → Option R) : Option R :=
  match vs, es with
  | [.int .i64 v3, .sl (.rose (.pair (.int .i64) (.pair (.arr 4 (.int .u64)) .unit))) v4, .own (.rose (.pair (.int .i64) (.pair (.arr 4 (.int .u64)) .unit))) 0, .int .i64 v5], [.buf (.rose (.pair (.int .i64) (.pair (.arr 4 (.int .u64)) .unit))) v6 false] => l_3 v3 v4 (fun (r0 : (List (Rose (Int × (LI × Unit))))) => K (.exit 0) [.own (.rose (.pair (.int .i64) (.pair (.arr 4 (.int .u64)) .unit))) 0] [.buf (.rose (.pair (.int .i64) (.pair (.arr 4 (.int .u64)) .unit))) r0 false]) v5 v6
  | _, _ => none
def lf_yy31 {R : Type} (l_3 : T31 R) : LoopF R := fun m np id _ vs es K => iteH (decide (m = 35) && decide (np = 0)) (iteH (decide (id = 3)) (sl_yy31_l3 l_3 vs es K) (none)) none
theorem eq_yy31_l3 {R : Type} (l_3 : T31 R) (v3 : Int) (v4 : (List (Rose (Int × (LI × Unit))))) (v5 : Int) (v6 : (List (Rose (Int × (LI × Unit))))) (K : Out → List S → List Ent → Option R) :
    acodeK C_yy31 raw (cf_yy31 l_3) (lf_yy31 l_3) (loopBody Tryd.prog 51 3) (placeSt 35 0 [0, 1, 5, 6] [.int .i64 v3, .sl (.rose (.pair (.int .i64) (.pair (.arr 4 (.int .u64)) .unit))) v4, .own (.rose (.pair (.int .i64) (.pair (.arr 4 (.int .u64)) .unit))) 0, .int .i64 v5] [.buf (.rose (.pair (.int .i64) (.pair (.arr 4 (.int .u64)) .unit))) v6 false]) (loopKont C_yy31 (lf_yy31 l_3) 35 0 3 (loopBody Tryd.prog 51 3) K) =
      yy31_l3_b l_3 v3 v4 (fun (r0 : (List (Rose (Int × (LI × Unit))))) => K (.exit 0) [.own (.rose (.pair (.int .i64) (.pair (.arr 4 (.int .u64)) .unit))) 0] [.buf (.rose (.pair (.int .i64) (.pair (.arr 4 (.int .u64)) .unit))) r0 false]) v5 v6 := by kernel_rfl
theorem eq_yy31 {R : Type} (l_3 : T31 R) (v1 : Int) (v2 : (List (Rose (Int × (LI × Unit))))) (K : S → List Ent → Option R) :
    runK C_yy31 raw (cf_yy31 l_3) (lf_yy31 l_3) 51 [.int .i64 v1, .sl (.rose (.pair (.int .i64) (.pair (.arr 4 (.int .u64)) .unit))) v2] [] K =
      yy31_b l_3 v1 v2 (fun (r0 : (List (Rose (Int × (LI × Unit))))) => K (.own (.rose (.pair (.int .i64) (.pair (.arr 4 (.int .u64)) .unit))) 0) [.buf (.rose (.pair (.int .i64) (.pair (.arr 4 (.int .u64)) .unit))) r0 false]) := by kernel_rfl
noncomputable def C_yy14 : Ctx := { P := Tryd.prog, mv := [], pu := [], glob := glob, live := fun n => look n [], out := fun n => look n [], frz := fun n => look n [], bef := fun n => look n [] }
def cf_yy14 {R : Type} : CallF R := fun f av es K => none
def lf_yy14 {R : Type} : LoopF R := fun m np id _ vs es K => none
theorem eq_yy14 {R : Type} (v1 : LI) (v2 : Int) (K : S → List Ent → Option R) :
    runK C_yy14 raw (cf_yy14) (lf_yy14) 75 [.arr 4 (.int .u64) v1, .int .u8 v2] [] K =
      yy14_b v1 v2 (fun (r0 : Bool) => K (.bool r0) []) := by kernel_rfl
noncomputable def C_yy15 : Ctx := { P := Tryd.prog, mv := [], pu := [], glob := glob, live := fun n => look n [(3, [1, 3, 4])], out := fun n => look n [(3, [3])], frz := fun n => look n [(3, [])], bef := fun n => look n [] }
def cf_yy15 {R : Type} (c_yy14 : T2 R) (l_3 : T15 R) : CallF R := fun f av es K => iteH (decide (f = 75)) (sh75 c_yy14 av es K) (none)
def sl_yy15_l3 {R : Type} (l_3 : T15 R) (vs : List S) (es : List Ent) (K : Out → List S → List Ent → Option R) : Option R :=
  match vs, es with
  | [.ptr 0 [], .own (.int .u8) 1, .int .i64 v2], [.box (.arr 4 (.int .u64) v3) false, .buf (.int .u8) v4 false] => l_3 v3 (fun (r0 : LI) => K (.exit 0) [.own (.int .u8) 0] [.buf (.int .u8) r0 false]) v2 v4
  | _, _ => none
def lf_yy15 {R : Type} (c_yy14 : T2 R) (l_3 : T15 R) : LoopF R := fun m np id _ vs es K => iteH (decide (m = 19) && decide (np = 0)) (iteH (decide (id = 3)) (sl_yy15_l3 l_3 vs es K) (none)) none
theorem eq_yy15_l3 {R : Type} (c_yy14 : T2 R) (l_3 : T15 R) (v2 : Int) (v3 : LI) (v4 : LI) (K : Out → List S → List Ent → Option R) :
    acodeK C_yy15 raw (cf_yy15 c_yy14 l_3) (lf_yy15 c_yy14 l_3) (loopBody Tryd.prog 61 3) (placeSt 19 0 [1, 3, 4] [.ptr 0 [], .own (.int .u8) 1, .int .i64 v2] [.box (.arr 4 (.int .u64) v3) false, .buf (.int .u8) v4 false]) (loopKont C_yy15 (lf_yy15 c_yy14 l_3) 19 0 3 (loopBody Tryd.prog 61 3) K) =
      yy15_l3_b c_yy14 l_3 v3 (fun (r0 : LI) => K (.exit 0) [.own (.int .u8) 0] [.buf (.int .u8) r0 false]) v2 v4 := by kernel_rfl
theorem eq_yy15 {R : Type} (c_yy14 : T2 R) (l_3 : T15 R) (v1 : LI) (K : S → List Ent → Option R) :
    runK C_yy15 raw (cf_yy15 c_yy14 l_3) (lf_yy15 c_yy14 l_3) 61 [.arr 4 (.int .u64) v1] [] K =
      yy15_b c_yy14 l_3 v1 (fun (r0 : LI) => K (.own (.int .u8) 0) [.buf (.int .u8) r0 false]) := by kernel_rfl
noncomputable def C_yy18 : Ctx := { P := Tryd.prog, mv := [], pu := [], glob := glob, live := fun n => look n [], out := fun n => look n [], frz := fun n => look n [], bef := fun n => look n [(1, [0, 1, 0, 7, 15, 31, 63])] }
def cf_yy18 {R : Type} (c_yy15 : LI → (LI → Option R) → Option R) (c_yy17 : LI → (LI → Option R) → Option R) : CallF R := fun f av es K => iteH (decide (f = 61)) (sh61 c_yy15 av es K) (iteH (decide (f = 20)) (sh20 c_yy17 av es K) (none))
def lf_yy18 {R : Type} (c_yy15 : LI → (LI → Option R) → Option R) (c_yy17 : LI → (LI → Option R) → Option R) : LoopF R := fun m np id _ vs es K => none
theorem eq_yy18 {R : Type} (c_yy15 : LI → (LI → Option R) → Option R) (c_yy17 : LI → (LI → Option R) → Option R) (v1 : LI) (v2 : LI) (K : S → List Ent → Option R) :
    runK C_yy18 raw (cf_yy18 c_yy15 c_yy17) (lf_yy18 c_yy15 c_yy17) 52 [.arr 4 (.int .u64) v1, .arr 4 (.int .u64) v2] [] K =
      yy18_b c_yy15 c_yy17 v1 v2 (fun (r0 : LI) => K (.arr 4 (.int .u64) r0) []) := by kernel_rfl
noncomputable def C_yy20 : Ctx := { P := Tryd.prog, mv := [], pu := [], glob := glob, live := fun n => look n [(2, [2, 3, 5])], out := fun n => look n [(2, [4])], frz := fun n => look n [(2, [])], bef := fun n => look n [(4, [0, 0, 2, 7, 0, 0, 32, 127, 255])] }
def cf_yy20 {R : Type} (c_yy14 : T2 R) (l_2 : T16 R) : CallF R := fun f av es K => iteH (decide (f = 75)) (sh75 c_yy14 av es K) (none)
def sl_yy20_l2 {R : Type} (l_2 : T16 R) (vs : List S) (es : List Ent) (K : Out → List S → List Ent → Option R) : Option R :=
  match vs, es with
  | [.ptr 0 [], .ptr 1 [], .int .i64 v3], [.box (.arr 4 (.int .u64) v4) false, .box (.arr 4 (.int .u64) v5) false] => l_2 v4 v5 (fun (r0 : Bool) => K .ret [.bool r0] []) (K (.exit 0) [.junk] []) v3
  | _, _ => none
def lf_yy20 {R : Type} (c_yy14 : T2 R) (l_2 : T16 R) : LoopF R := fun m np id _ vs es K => iteH (decide (m = 23) && decide (np = 0)) (iteH (decide (id = 2)) (sl_yy20_l2 l_2 vs es K) (none)) none
theorem eq_yy20_l2 {R : Type} (c_yy14 : T2 R) (l_2 : T16 R) (v3 : Int) (v4 : LI) (v5 : LI) (K : Out → List S → List Ent → Option R) :
    acodeK C_yy20 raw (cf_yy20 c_yy14 l_2) (lf_yy20 c_yy14 l_2) (loopBody Tryd.prog 79 2) (placeSt 23 0 [2, 3, 5] [.ptr 0 [], .ptr 1 [], .int .i64 v3] [.box (.arr 4 (.int .u64) v4) false, .box (.arr 4 (.int .u64) v5) false]) (loopKont C_yy20 (lf_yy20 c_yy14 l_2) 23 0 2 (loopBody Tryd.prog 79 2) K) =
      yy20_l2_b c_yy14 l_2 v4 v5 (fun (r0 : Bool) => K .ret [.bool r0] []) (K (.exit 0) [.junk] []) v3 := by kernel_rfl
theorem eq_yy20 {R : Type} (c_yy14 : T2 R) (l_2 : T16 R) (v1 : LI) (v2 : LI) (K : S → List Ent → Option R) :
    runK C_yy20 raw (cf_yy20 c_yy14 l_2) (lf_yy20 c_yy14 l_2) 79 [.arr 4 (.int .u64) v1, .arr 4 (.int .u64) v2] [] K =
      yy20_b c_yy14 l_2 v1 v2 (fun (r0 : Bool) => K (.bool r0) []) := by kernel_rfl
noncomputable def C_yy25 : Ctx := { P := Tryd.prog, mv := [], pu := [], glob := glob, live := fun n => look n [(10, [2, 3, 5])], out := fun n => look n [(10, [2, 3, 4])], frz := fun n => look n [(10, [])], bef := fun n => look n [(12, [0, 1, 0, 7, 15, 0, 32, 0, 224, 480, 1023, 2047])] }
def cf_yy25 {R : Type} (c_yy20 : T11 R) (c_yy25 : T3 R) (l_10 : T32 R) : CallF R := fun f av es K => iteH (decide (f = 79)) (sh79 c_yy20 av es K) (iteH (decide (f = 67)) (sh67 c_yy25 av es K) (none))
def sl_yy25_l10 {R : Type} (l_10 : T32 R) (vs : List S) (es : List Ent) (K : Out → List S → List Ent → Option R) : Option R :=
  match vs, es with
  | [.ptr 0 [], .ptr 1 [], .int .i64 v9], [.box (.st [.int .i64 v10, .arr 4 (.int .u64) v11, .sl (.rose (.pair (.int .i64) (.pair (.arr 4 (.int .u64)) .unit))) v12]) false, .box (.st [.int .i64 v13, .arr 4 (.int .u64) v14, .sl (.rose (.pair (.int .i64) (.pair (.arr 4 (.int .u64)) .unit))) v15]) false] => l_10 v10 v11 v12 v13 v14 v15 (fun (r0 : Int) (r1 : Int) (r2 : LI) (r3 : (List (Rose (Int × (LI × Unit))))) (r4 : Int) (r5 : LI) (r6 : (List (Rose (Int × (LI × Unit))))) => K .ret [.ptr 0 [], .ptr 1 [], .int .i64 r0] [.box (.st [.int .i64 r1, .arr 4 (.int .u64) r2, .sl (.rose (.pair (.int .i64) (.pair (.arr 4 (.int .u64)) .unit))) r3]) false, .box (.st [.int .i64 r4, .arr 4 (.int .u64) r5, .sl (.rose (.pair (.int .i64) (.pair (.arr 4 (.int .u64)) .unit))) r6]) false]) (fun (r0 : Int) (r1 : LI) (r2 : (List (Rose (Int × (LI × Unit))))) (r3 : Int) (r4 : LI) (r5 : (List (Rose (Int × (LI × Unit))))) => K (.exit 0) [.ptr 0 [], .ptr 1 [], .junk] [.box (.st [.int .i64 r0, .arr 4 (.int .u64) r1, .sl (.rose (.pair (.int .i64) (.pair (.arr 4 (.int .u64)) .unit))) r2]) false, .box (.st [.int .i64 r3, .arr 4 (.int .u64) r4, .sl (.rose (.pair (.int .i64) (.pair (.arr 4 (.int .u64)) .unit))) r5]) false]) v9
  | _, _ => none
def lf_yy25 {R : Type} (c_yy20 : T11 R) (c_yy25 : T3 R) (l_10 : T32 R) : LoopF R := fun m np id _ vs es K => iteH (decide (m = 74) && decide (np = 0)) (iteH (decide (id = 10)) (sl_yy25_l10 l_10 vs es K) (none)) none
theorem eq_yy25_l10 {R : Type} (c_yy20 : T11 R) (c_yy25 : T3 R) (l_10 : T32 R) (v9 : Int) (v10 : Int) (v11 : LI) (v12 : (List (Rose (Int × (LI × Unit))))) (v13 : Int) (v14 : LI) (v15 : (List (Rose (Int × (LI × Unit))))) (K : Out → List S → List Ent → Option R) :
    acodeK C_yy25 raw (cf_yy25 c_yy20 c_yy25 l_10) (lf_yy25 c_yy20 c_yy25 l_10) (loopBody Tryd.prog 67 10) (placeSt 74 0 [2, 3, 5] [.ptr 0 [], .ptr 1 [], .int .i64 v9] [.box (.st [.int .i64 v10, .arr 4 (.int .u64) v11, .sl (.rose (.pair (.int .i64) (.pair (.arr 4 (.int .u64)) .unit))) v12]) false, .box (.st [.int .i64 v13, .arr 4 (.int .u64) v14, .sl (.rose (.pair (.int .i64) (.pair (.arr 4 (.int .u64)) .unit))) v15]) false]) (loopKont C_yy25 (lf_yy25 c_yy20 c_yy25 l_10) 74 0 10 (loopBody Tryd.prog 67 10) K) =
      yy25_l10_b c_yy20 c_yy25 l_10 v10 v11 v12 v13 v14 v15 (fun (r0 : Int) (r1 : Int) (r2 : LI) (r3 : (List (Rose (Int × (LI × Unit))))) (r4 : Int) (r5 : LI) (r6 : (List (Rose (Int × (LI × Unit))))) => K .ret [.ptr 0 [], .ptr 1 [], .int .i64 r0] [.box (.st [.int .i64 r1, .arr 4 (.int .u64) r2, .sl (.rose (.pair (.int .i64) (.pair (.arr 4 (.int .u64)) .unit))) r3]) false, .box (.st [.int .i64 r4, .arr 4 (.int .u64) r5, .sl (.rose (.pair (.int .i64) (.pair (.arr 4 (.int .u64)) .unit))) r6]) false]) (fun (r0 : Int) (r1 : LI) (r2 : (List (Rose (Int × (LI × Unit))))) (r3 : Int) (r4 : LI) (r5 : (List (Rose (Int × (LI × Unit))))) => K (.exit 0) [.ptr 0 [], .ptr 1 [], .junk] [.box (.st [.int .i64 r0, .arr 4 (.int .u64) r1, .sl (.rose (.pair (.int .i64) (.pair (.arr 4 (.int .u64)) .unit))) r2]) false, .box (.st [.int .i64 r3, .arr 4 (.int .u64) r4, .sl (.rose (.pair (.int .i64) (.pair (.arr 4 (.int .u64)) .unit))) r5]) false]) v9 := by kernel_rfl
theorem eq_yy25 {R : Type} (c_yy20 : T11 R) (c_yy25 : T3 R) (l_10 : T32 R) (v1 : Int) (v2 : LI) (v3 : (List (Rose (Int × (LI × Unit))))) (v4 : Int) (v5 : LI) (v6 : (List (Rose (Int × (LI × Unit))))) (K : S → List Ent → Option R) :
    runK C_yy25 raw (cf_yy25 c_yy20 c_yy25 l_10) (lf_yy25 c_yy20 c_yy25 l_10) 67 [.st [.int .i64 v1, .arr 4 (.int .u64) v2, .sl (.rose (.pair (.int .i64) (.pair (.arr 4 (.int .u64)) .unit))) v3], .st [.int .i64 v4, .arr 4 (.int .u64) v5, .sl (.rose (.pair (.int .i64) (.pair (.arr 4 (.int .u64)) .unit))) v6]] [] K =
      yy25_b c_yy20 c_yy25 l_10 v1 v2 v3 v4 v5 v6 (fun (r0 : Int) => K (.int .i64 r0) []) := by kernel_rfl
noncomputable def C_yy28 : Ctx := { P := Tryd.prog, mv := [], pu := [], glob := glob, live := fun n => look n [], out := fun n => look n [], frz := fun n => look n [], bef := fun n => look n [] }
def cf_yy28 {R : Type} (c_yy25 : T3 R) : CallF R := fun f av es K => iteH (decide (f = 67)) (sh67 c_yy25 av es K) (none)
def lf_yy28 {R : Type} (c_yy25 : T3 R) : LoopF R := fun m np id _ vs es K => none
theorem eq_yy28 {R : Type} (c_yy25 : T3 R) (v1 : Int) (v2 : LI) (v3 : (List (Rose (Int × (LI × Unit))))) (v4 : Int) (v5 : LI) (v6 : (List (Rose (Int × (LI × Unit))))) (K : S → List Ent → Option R) :
    runK C_yy28 raw (cf_yy28 c_yy25) (lf_yy28 c_yy25) 68 [.st [.int .i64 v1, .arr 4 (.int .u64) v2, .sl (.rose (.pair (.int .i64) (.pair (.arr 4 (.int .u64)) .unit))) v3], .st [.int .i64 v4, .arr 4 (.int .u64) v5, .sl (.rose (.pair (.int .i64) (.pair (.arr 4 (.int .u64)) .unit))) v6]] [] K =
      yy28_b c_yy25 v1 v2 v3 v4 v5 v6 (fun (r0 : Bool) => K (.bool r0) []) := by kernel_rfl
noncomputable def C_yy32 : Ctx := { P := Tryd.prog, mv := [], pu := [4], glob := glob, live := fun n => look n [(2, [0, 3, 5])], out := fun n => look n [(2, [0, 3, 5])], frz := fun n => look n [(2, [])], bef := fun n => look n [(2, [0, 0, 2, 7, 15, 31, 31, 127, 255, 31, 1023, 2047, 4095]), (4, [0, 0, 2, 7, 15, 31, 31, 127, 255, 31, 1023, 2047]), (6, [0, 0, 0, 6, 15, 0, 32, 127, 0, 0, 768, 2047, 4095])] }
def cf_yy32 {R : Type} (c_yy25 : T3 R) (c_yy28 : T24 R) (l_2 : T33 R) : CallF R := fun f av es K => iteH (decide (f = 67)) (sh67 c_yy25 av es K) (iteH (decide (f = 68)) (sh68 c_yy28 av es K) (none))
def sl_yy32_l2 {R : Type} (l_2 : T33 R) (vs : List S) (es : List Ent) (K : Out → List S → List Ent → Option R) : Option R :=
  match vs, es with
  | [.sl (.rose (.pair (.int .i64) (.pair (.arr 4 (.int .u64)) .unit))) v5, .ptr 0 [], .int .i64 v6], [.box (.st [.int .i64 v7, .arr 4 (.int .u64) v8, .sl (.rose (.pair (.int .i64) (.pair (.arr 4 (.int .u64)) .unit))) v9]) false] => l_2 v5 v7 v8 v9 (fun (r0 : (List (Rose (Int × (LI × Unit))))) (r1 : Int) (r2 : Int) (r3 : LI) (r4 : (List (Rose (Int × (LI × Unit))))) => K (.exit 0) [.sl (.rose (.pair (.int .i64) (.pair (.arr 4 (.int .u64)) .unit))) r0, .ptr 0 [], .int .i64 r1] [.box (.st [.int .i64 r2, .arr 4 (.int .u64) r3, .sl (.rose (.pair (.int .i64) (.pair (.arr 4 (.int .u64)) .unit))) r4]) false]) v6
  | _, _ => none
def lf_yy32 {R : Type} (c_yy25 : T3 R) (c_yy28 : T24 R) (l_2 : T33 R) : LoopF R := fun m np id _ vs es K => iteH (decide (m = 46) && decide (np = 0)) (iteH (decide (id = 2)) (sl_yy32_l2 l_2 vs es K) (none)) none
theorem eq_yy32_l2 {R : Type} (c_yy25 : T3 R) (c_yy28 : T24 R) (l_2 : T33 R) (v5 : (List (Rose (Int × (LI × Unit))))) (v6 : Int) (v7 : Int) (v8 : LI) (v9 : (List (Rose (Int × (LI × Unit))))) (K : Out → List S → List Ent → Option R) :
    acodeK C_yy32 raw (cf_yy32 c_yy25 c_yy28 l_2) (lf_yy32 c_yy25 c_yy28 l_2) (loopBody Tryd.prog 53 2) (placeSt 46 0 [0, 3, 5] [.sl (.rose (.pair (.int .i64) (.pair (.arr 4 (.int .u64)) .unit))) v5, .ptr 0 [], .int .i64 v6] [.box (.st [.int .i64 v7, .arr 4 (.int .u64) v8, .sl (.rose (.pair (.int .i64) (.pair (.arr 4 (.int .u64)) .unit))) v9]) false]) (loopKont C_yy32 (lf_yy32 c_yy25 c_yy28 l_2) 46 0 2 (loopBody Tryd.prog 53 2) K) =
      yy32_l2_b c_yy25 c_yy28 l_2 v5 v7 v8 v9 (fun (r0 : (List (Rose (Int × (LI × Unit))))) (r1 : Int) (r2 : Int) (r3 : LI) (r4 : (List (Rose (Int × (LI × Unit))))) => K (.exit 0) [.sl (.rose (.pair (.int .i64) (.pair (.arr 4 (.int .u64)) .unit))) r0, .ptr 0 [], .int .i64 r1] [.box (.st [.int .i64 r2, .arr 4 (.int .u64) r3, .sl (.rose (.pair (.int .i64) (.pair (.arr 4 (.int .u64)) .unit))) r4]) false]) v6 := by kernel_rfl
theorem eq_yy32 {R : Type} (c_yy25 : T3 R) (c_yy28 : T24 R) (l_2 : T33 R) (v1 : (List (Rose (Int × (LI × Unit))))) (v2 : Int) (v3 : LI) (v4 : (List (Rose (Int × (LI × Unit))))) (K : S → List Ent → Option R) :
    runK C_yy32 raw (cf_yy32 c_yy25 c_yy28 l_2) (lf_yy32 c_yy25 c_yy28 l_2) 53 [.sl (.rose (.pair (.int .i64) (.pair (.arr 4 (.int .u64)) .unit))) v1, .st [.int .i64 v2, .arr 4 (.int .u64) v3, .sl (.rose (.pair (.int .i64) (.pair (.arr 4 (.int .u64)) .unit))) v4]] [] K =
      yy32_b c_yy25 c_yy28 l_2 v1 v2 v3 v4 (fun (r0 : (List (Rose (Int × (LI × Unit))))) => K (.sl (.rose (.pair (.int .i64) (.pair (.arr 4 (.int .u64)) .unit))) r0) []) := by kernel_rfl
noncomputable def C_yy22 : Ctx := { P := Tryd.prog, mv := [], pu := [2, 3], glob := glob, live := fun n => look n [(5, [2, 3, 4, 5, 6])], out := fun n => look n [(5, [2, 3, 4])], frz := fun n => look n [(5, [])], bef := fun n => look n [(11, [0, 0, 0, 6, 14, 30, 63, 127])] }
def cf_yy22 {R : Type} (c_yy31 : T12 R) (c_yy18 : T25 R) (c_yy26 : T0 R) (c_yy32 : T26 R) (c_yy23 : T10 R) (c_yy29 : T1 R) (l_5 : T34 R) : CallF R := fun f av es K => iteH (decide (f = 51)) (sh51 c_yy31 av es K) (iteH (decide (f = 52)) (sh52 c_yy18 av es K) (iteH (decide (f = 11)) (sh11 c_yy26 av es K) (iteH (decide (f = 53)) (sh53 c_yy32 av es K) (iteH (decide (f = 18)) (sh18 c_yy23 av es K) (iteH (decide (f = 33)) (sh33 c_yy29 av es K) (none))))))
def sl_yy22_l5 {R : Type} (l_5 : T34 R) (vs : List S) (es : List Ent) (K : Out → List S → List Ent → Option R) : Option R :=
  match vs, es with
  | [.ptr 0 [], .sl (.rose (.pair (.int .i64) (.pair (.arr 4 (.int .u64)) .unit))) v3, .ptr 1 [], .own (.rose (.pair (.int .i64) (.pair (.arr 4 (.int .u64)) .unit))) 2, .int .i64 v4], [.box (.st [.int .i64 v5, .arr 4 (.int .u64) v6, .own (.rose (.pair (.int .i64) (.pair (.arr 4 (.int .u64)) .unit))) 3]) false, .box (.arr 4 (.int .u64) v7) false, .buf (.rose (.pair (.int .i64) (.pair (.arr 4 (.int .u64)) .unit))) v8 false, .buf (.rose (.pair (.int .i64) (.pair (.arr 4 (.int .u64)) .unit))) v9 false] => l_5 v5 v6 v8 v9 (fun (r0 : (List (Rose (Int × (LI × Unit))))) (r1 : Int) (r2 : LI) (r3 : LI) (r4 : (List (Rose (Int × (LI × Unit))))) => K (.exit 0) [.ptr 0 [], .sl (.rose (.pair (.int .i64) (.pair (.arr 4 (.int .u64)) .unit))) r0, .ptr 1 []] [.box (.st [.int .i64 r1, .arr 4 (.int .u64) r2, .own (.rose (.pair (.int .i64) (.pair (.arr 4 (.int .u64)) .unit))) 2]) false, .box (.arr 4 (.int .u64) r3) false, .buf (.rose (.pair (.int .i64) (.pair (.arr 4 (.int .u64)) .unit))) r4 false]) v3 v4 v7
  | _, _ => none
def lf_yy22 {R : Type} (c_yy31 : T12 R) (c_yy18 : T25 R) (c_yy26 : T0 R) (c_yy32 : T26 R) (c_yy23 : T10 R) (c_yy29 : T1 R) (l_5 : T34 R) : LoopF R := fun m np id _ vs es K => iteH (decide (m = 57) && decide (np = 0)) (iteH (decide (id = 5)) (sl_yy22_l5 l_5 vs es K) (none)) none
theorem eq_yy22_l5 {R : Type} (c_yy31 : T12 R) (c_yy18 : T25 R) (c_yy26 : T0 R) (c_yy32 : T26 R) (c_yy23 : T10 R) (c_yy29 : T1 R) (l_5 : T34 R) (v3 : (List (Rose (Int × (LI × Unit))))) (v4 : Int) (v5 : Int) (v6 : LI) (v7 : LI) (v8 : (List (Rose (Int × (LI × Unit))))) (v9 : (List (Rose (Int × (LI × Unit))))) (K : Out → List S → List Ent → Option R) :
    acodeK C_yy22 raw (cf_yy22 c_yy31 c_yy18 c_yy26 c_yy32 c_yy23 c_yy29 l_5) (lf_yy22 c_yy31 c_yy18 c_yy26 c_yy32 c_yy23 c_yy29 l_5) (loopBody Tryd.prog 35 5) (placeSt 57 0 [2, 3, 4, 5, 6] [.ptr 0 [], .sl (.rose (.pair (.int .i64) (.pair (.arr 4 (.int .u64)) .unit))) v3, .ptr 1 [], .own (.rose (.pair (.int .i64) (.pair (.arr 4 (.int .u64)) .unit))) 2, .int .i64 v4] [.box (.st [.int .i64 v5, .arr 4 (.int .u64) v6, .own (.rose (.pair (.int .i64) (.pair (.arr 4 (.int .u64)) .unit))) 3]) false, .box (.arr 4 (.int .u64) v7) false, .buf (.rose (.pair (.int .i64) (.pair (.arr 4 (.int .u64)) .unit))) v8 false, .buf (.rose (.pair (.int .i64) (.pair (.arr 4 (.int .u64)) .unit))) v9 false]) (loopKont C_yy22 (lf_yy22 c_yy31 c_yy18 c_yy26 c_yy32 c_yy23 c_yy29 l_5) 57 0 5 (loopBody Tryd.prog 35 5) K) =
      yy22_l5_b c_yy31 c_yy18 c_yy26 c_yy32 c_yy23 c_yy29 l_5 v5 v6 v8 v9 (fun (r0 : (List (Rose (Int × (LI × Unit))))) (r1 : Int) (r2 : LI) (r3 : LI) (r4 : (List (Rose (Int × (LI × Unit))))) => K (.exit 0) [.ptr 0 [], .sl (.rose (.pair (.int .i64) (.pair (.arr 4 (.int .u64)) .unit))) r0, .ptr 1 []] [.box (.st [.int .i64 r1, .arr 4 (.int .u64) r2, .own (.rose (.pair (.int .i64) (.pair (.arr 4 (.int .u64)) .unit))) 2]) false, .box (.arr 4 (.int .u64) r3) false, .buf (.rose (.pair (.int .i64) (.pair (.arr 4 (.int .u64)) .unit))) r4 false]) v3 v4 v7 := by kernel_rfl
theorem eq_yy22 {R : Type} (c_yy31 : T12 R) (c_yy18 : T25 R) (c_yy26 : T0 R) (c_yy32 : T26 R) (c_yy23 : T10 R) (c_yy29 : T1 R) (l_5 : T34 R) (v1 : (List (Rose (Int × (LI × Unit))))) (K : S → List Ent → Option R) :
    runK C_yy22 raw (cf_yy22 c_yy31 c_yy18 c_yy26 c_yy32 c_yy23 c_yy29 l_5) (lf_yy22 c_yy31 c_yy18 c_yy26 c_yy32 c_yy23 c_yy29 l_5) 35 [.sl (.rose (.pair (.int .i64) (.pair (.arr 4 (.int .u64)) .unit))) v1] [] K =
      yy22_b c_yy31 c_yy18 c_yy26 c_yy32 c_yy23 c_yy29 l_5 v1 (fun (r0 : Int) (r1 : LI) (r2 : (List (Rose (Int × (LI × Unit))))) => K (.st [.int .i64 r0, .arr 4 (.int .u64) r1, .sl (.rose (.pair (.int .i64) (.pair (.arr 4 (.int .u64)) .unit))) r2]) []) := by kernel_rfl
noncomputable def C_yy30 : Ctx := { P := Tryd.prog, mv := [], pu := [], glob := glob, live := fun n => look n [(10, [1, 2, 3, 4])], out := fun n => look n [(10, [1, 2, 3])], frz := fun n => look n [(10, [])], bef := fun n => look n [] }
def cf_yy30 {R : Type} (c_yy26 : T0 R) (c_yy27 : T1 R) (c_yy22 : T7 R) (c_yy30 : T0 R) (l_10 : T14 R) : CallF R := fun f av es K => iteH (decide (f = 11)) (sh11 c_yy26 av es K) (iteH (decide (f = 22)) (sh22 c_yy27 av es K) (iteH (decide (f = 35)) (sh35 c_yy22 av es K) (iteH (decide (f = 21)) (sh21 c_yy30 av es K) (none))))
def sl_yy30_l10 {R : Type} (l_10 : T14 R) (vs : List S) (es : List Ent) (K : Out → List S → List Ent → Option R) : Option R :=
  match vs, es with
  | [.ptr 0 [], .ptr 1 [], .own (.rose (.pair (.int .i64) (.pair (.arr 4 (.int .u64)) .unit))) 2, .int .i64 v11], [.box (.st [.int .i64 v12, .arr 4 (.int .u64) v13, .sl (.rose (.pair (.int .i64) (.pair (.arr 4 (.int .u64)) .unit))) v14]) false, .box (.st [.int .i64 v15, .arr 4 (.int .u64) v16, .own (.rose (.pair (.int .i64) (.pair (.arr 4 (.int .u64)) .unit))) 3]) false, .buf (.rose (.pair (.int .i64) (.pair (.arr 4 (.int .u64)) .unit))) v17 false, .buf (.rose (.pair (.int .i64) (.pair (.arr 4 (.int .u64)) .unit))) v18 false] => l_10 v12 v13 v14 v15 v16 v18 (fun (r0 : Int) (r1 : LI) (r2 : (List (Rose (Int × (LI × Unit))))) (r3 : Int) (r4 : LI) (r5 : (List (Rose (Int × (LI × Unit))))) (r6 : (List (Rose (Int × (LI × Unit))))) => K (.exit 1) [.ptr 0 [], .ptr 1 [], .own (.rose (.pair (.int .i64) (.pair (.arr 4 (.int .u64)) .unit))) 2] [.box (.st [.int .i64 r0, .arr 4 (.int .u64) r1, .sl (.rose (.pair (.int .i64) (.pair (.arr 4 (.int .u64)) .unit))) r2]) false, .box (.st [.int .i64 r3, .arr 4 (.int .u64) r4, .own (.rose (.pair (.int .i64) (.pair (.arr 4 (.int .u64)) .unit))) 3]) false, .buf (.rose (.pair (.int .i64) (.pair (.arr 4 (.int .u64)) .unit))) r5 false, .buf (.rose (.pair (.int .i64) (.pair (.arr 4 (.int .u64)) .unit))) r6 false]) v11 v17
  | _, _ => none
def lf_yy30 {R : Type} (c_yy26 : T0 R) (c_yy27 : T1 R) (c_yy22 : T7 R) (c_yy30 : T0 R) (l_10 : T14 R) : LoopF R := fun m np id _ vs es K => iteH (decide (m = 52) && decide (np = 0)) (iteH (decide (id = 10)) (sl_yy30_l10 l_10 vs es K) (none)) none
theorem eq_yy30_l10 {R : Type} (c_yy26 : T0 R) (c_yy27 : T1 R) (c_yy22 : T7 R) (c_yy30 : T0 R) (l_10 : T14 R) (v11 : Int) (v12 : Int) (v13 : LI) (v14 : (List (Rose (Int × (LI × Unit))))) (v15 : Int) (v16 : LI) (v17 : (List (Rose (Int × (LI × Unit))))) (v18 : (List (Rose (Int × (LI × Unit))))) (K : Out → List S → List Ent → Option R) :
    acodeK C_yy30 raw (cf_yy30 c_yy26 c_yy27 c_yy22 c_yy30 l_10) (lf_yy30 c_yy26 c_yy27 c_yy22 c_yy30 l_10) (loopBody Tryd.prog 21 10) (placeSt 52 0 [1, 2, 3, 4] [.ptr 0 [], .ptr 1 [], .own (.rose (.pair (.int .i64) (.pair (.arr 4 (.int .u64)) .unit))) 2, .int .i64 v11] [.box (.st [.int .i64 v12, .arr 4 (.int .u64) v13, .sl (.rose (.pair (.int .i64) (.pair (.arr 4 (.int .u64)) .unit))) v14]) false, .box (.st [.int .i64 v15, .arr 4 (.int .u64) v16, .own (.rose (.pair (.int .i64) (.pair (.arr 4 (.int .u64)) .unit))) 3]) false, .buf (.rose (.pair (.int .i64) (.pair (.arr 4 (.int .u64)) .unit))) v17 false, .buf (.rose (.pair (.int .i64) (.pair (.arr 4 (.int .u64)) .unit))) v18 false]) (loopKont C_yy30 (lf_yy30 c_yy26 c_yy27 c_yy22 c_yy30 l_10) 52 0 10 (loopBody Tryd.prog 21 10) K) =
      yy30_l10_b c_yy26 c_yy27 c_yy22 c_yy30 l_10 v12 v13 v14 v15 v16 v18 (fun (r0 : Int) (r1 : LI) (r2 : (List (Rose (Int × (LI × Unit))))) (r3 : Int) (r4 : LI) (r5 : (List (Rose (Int × (LI × Unit))))) (r6 : (List (Rose (Int × (LI × Unit))))) => K (.exit 1) [.ptr 0 [], .ptr 1 [], .own (.rose (.pair (.int .i64) (.pair (.arr 4 (.int .u64)) .unit))) 2] [.box (.st [.int .i64 r0, .arr 4 (.int .u64) r1, .sl (.rose (.pair (.int .i64) (.pair (.arr 4 (.int .u64)) .unit))) r2]) false, .box (.st [.int .i64 r3, .arr 4 (.int .u64) r4, .own (.rose (.pair (.int .i64) (.pair (.arr 4 (.int .u64)) .unit))) 3]) false, .buf (.rose (.pair (.int .i64) (.pair (.arr 4 (.int .u64)) .unit))) r5 false, .buf (.rose (.pair (.int .i64) (.pair (.arr 4 (.int .u64)) .unit))) r6 false]) v11 v17 := by kernel_rfl
theorem eq_yy30 {R : Type} (c_yy26 : T0 R) (c_yy27 : T1 R) (c_yy22 : T7 R) (c_yy30 : T0 R) (l_10 : T14 R) (v1 : Int) (v2 : LI) (v3 : (List (Rose (Int × (LI × Unit))))) (K : S → List Ent → Option R) :
    runK C_yy30 raw (cf_yy30 c_yy26 c_yy27 c_yy22 c_yy30 l_10) (lf_yy30 c_yy26 c_yy27 c_yy22 c_yy30 l_10) 21 [.st [.int .i64 v1, .arr 4 (.int .u64) v2, .sl (.rose (.pair (.int .i64) (.pair (.arr 4 (.int .u64)) .unit))) v3]] [] K =
      yy30_b c_yy26 c_yy27 c_yy22 c_yy30 l_10 v1 v2 v3 (fun (r0 : Int) (r1 : LI) (r2 : (List (Rose (Int × (LI × Unit))))) => K (.st [.int .i64 r0, .arr 4 (.int .u64) r1, .own (.rose (.pair (.int .i64) (.pair (.arr 4 (.int .u64)) .unit))) 0]) [.buf (.rose (.pair (.int .i64) (.pair (.arr 4 (.int .u64)) .unit))) r2 false]) := by kernel_rfl
noncomputable def C_yy52 : Ctx := { P := Tryd.prog, mv := [], pu := [], glob := glob, live := fun n => look n [(2, [0, 1, 7, 8])], out := fun n => look n [(2, [4])], frz := fun n => look n [(2, [])], bef := fun n => look n [] }
def cf_yy52 {R : Type} (l_2 : T35 R) : CallF R := fun f av es K => none
def sl_yy52_l2 {R : Type} (l_2 : T35 R) (vs : List S) (es : List Ent) (K : Out → List S → List Ent → Option R) : Option R :=
  match vs, es with
  | [.sl (.int .i64) v3, .int .i64 v4, .int .i64 v5, .int .i64 v6], [] => l_2 v3 v4 v5 (fun (r0 : Int) => K .ret [.int .i64 r0] []) (K (.exit 0) [.junk] []) v6
  | _, _ => none
def lf_yy52 {R : Type} (l_2 : T35 R) : LoopF R := fun m np id _ vs es K => iteH (decide (m = 19) && decide (np = 0)) (iteH (decide (id = 2)) (sl_yy52_l2 l_2 vs es K) (none)) none
theorem eq_yy52_l2 {R : Type} (l_2 : T35 R) (v3 : LI) (v4 : Int) (v5 : Int) (v6 : Int) (K : Out → List S → List Ent → Option R) :
    acodeK C_yy52 raw (cf_yy52 l_2) (lf_yy52 l_2) (loopBody Tryd.prog 69 2) (placeSt 19 0 [0, 1, 7, 8] [.sl (.int .i64) v3, .int .i64 v4, .int .i64 v5, .int .i64 v6] []) (loopKont C_yy52 (lf_yy52 l_2) 19 0 2 (loopBody Tryd.prog 69 2) K) =
      yy52_l2_b l_2 v3 v4 v5 (fun (r0 : Int) => K .ret [.int .i64 r0] []) (K (.exit 0) [.junk] []) v6 := by kernel_rfl
theorem eq_yy52 {R : Type} (l_2 : T35 R) (v1 : LI) (v2 : Int) (K : S → List Ent → Option R) :
    runK C_yy52 raw (cf_yy52 l_2) (lf_yy52 l_2) 69 [.sl (.int .i64) v1, .int .i64 v2] [] K =
      yy52_b l_2 v1 v2 (fun (r0 : Int) => K (.int .i64 r0) []) := by kernel_rfl
noncomputable def C_yy49 : Ctx := { P := Tryd.prog, mv := [], pu := [], glob := glob, live := fun n => look n [], out := fun n => look n [], frz := fun n => look n [], bef := fun n => look n [] }
def cf_yy49 {R : Type} (c_yy52 : T36 R) : CallF R := fun f av es K => iteH (decide (f = 69)) (sh69 c_yy52 av es K) (none)
def lf_yy49 {R : Type} (c_yy52 : T36 R) : LoopF R := fun m np id _ vs es K => none
theorem eq_yy49 {R : Type} (c_yy52 : T36 R) (v1 : LI) (v2 : Int) (K : S → List Ent → Option R) :
    runK C_yy49 raw (cf_yy49 c_yy52) (lf_yy49 c_yy52) 55 [.sl (.int .i64) v1, .int .i64 v2] [] K =
      yy49_b c_yy52 v1 v2 (fun (r0 : Bool) => K (.bool r0) []) := by kernel_rfl
noncomputable def C_yy37 : Ctx := { P := Tryd.prog, mv := [], pu := [], glob := glob, live := fun n => look n [], out := fun n => look n [], frz := fun n => look n [], bef := fun n => look n [] }
def cf_yy37 {R : Type} (c_yy49 : T2 R) : CallF R := fun f av es K => iteH (decide (f = 55)) (sh55 c_yy49 av es K) (none)
def lf_yy37 {R : Type} (c_yy49 : T2 R) : LoopF R := fun m np id _ vs es K => none
theorem eq_yy37 {R : Type} (c_yy49 : T2 R) (v1 : Int) (v2 : LI) (v3 : (List (Rose (Int × (LI × Unit))))) (v4 : LI) (K : S → List Ent → Option R) :
    runK C_yy37 raw (cf_yy37 c_yy49) (lf_yy37 c_yy49) 54 [.st [.int .i64 v1, .arr 4 (.int .u64) v2, .sl (.rose (.pair (.int .i64) (.pair (.arr 4 (.int .u64)) .unit))) v3], .ptr 0 []] [.box (.sl (.int .i64) v4) false] K =
      yy37_b c_yy49 v1 v2 v3 v4 (fun (r0 : Bool) (r1 : LI) => K (.bool r0) [.box (.sl (.int .i64) r1) false]) := by kernel_rfl
noncomputable def C_yy50 : Ctx := { P := Tryd.prog, mv := [], pu := [], glob := glob, live := fun n => look n [(2, [0, 1, 7, 8])], out := fun n => look n [(2, [4])], frz := fun n => look n [(2, [])], bef := fun n => look n [] }
def cf_yy50 {R : Type} (c_yy37 : T27 R) (l_2 : T37 R) : CallF R := fun f av es K => iteH (decide (f = 54)) (sh54 c_yy37 av es K) (none)
def sl_yy50_l2 {R : Type} (l_2 : T37 R) (vs : List S) (es : List Ent) (K : Out → List S → List Ent → Option R) : Option R :=
  match vs, es with
  | [.sl (.rose (.pair (.int .i64) (.pair (.arr 4 (.int .u64)) .unit))) v3, .fn 54 [.ptr 0 []], .int .i64 v4, .int .i64 v5], [.box (.sl (.int .i64) v6) false] => l_2 v3 v4 (fun (r0 : Int) (r1 : LI) => K .ret [.int .i64 r0] [.box (.sl (.int .i64) r1) false]) (fun (r0 : LI) => K (.exit 0) [.junk] [.box (.sl (.int .i64) r0) false]) v5 v6
  | _, _ => none
def lf_yy50 {R : Type} (c_yy37 : T27 R) (l_2 : T37 R) : LoopF R := fun m np id _ vs es K => iteH (decide (m = 19) && decide (np = 1)) (iteH (decide (id = 2)) (sl_yy50_l2 l_2 vs es K) (none)) none
theorem eq_yy50_l2 {R : Type} (c_yy37 : T27 R) (l_2 : T37 R) (v3 : (List (Rose (Int × (LI × Unit))))) (v4 : Int) (v5 : Int) (v6 : LI) (K : Out → List S → List Ent → Option R) :
    acodeK C_yy50 raw (cf_yy50 c_yy37 l_2) (lf_yy50 c_yy37 l_2) (loopBody Tryd.prog 58 2) (placeSt 19 1 [0, 1, 7, 8] [.sl (.rose (.pair (.int .i64) (.pair (.arr 4 (.int .u64)) .unit))) v3, .fn 54 [.ptr 0 []], .int .i64 v4, .int .i64 v5] [.box (.sl (.int .i64) v6) false]) (loopKont C_yy50 (lf_yy50 c_yy37 l_2) 19 1 2 (loopBody Tryd.prog 58 2) K) =
      yy50_l2_b c_yy37 l_2 v3 v4 (fun (r0 : Int) (r1 : LI) => K .ret [.int .i64 r0] [.box (.sl (.int .i64) r1) false]) (fun (r0 : LI) => K (.exit 0) [.junk] [.box (.sl (.int .i64) r0) false]) v5 v6 := by kernel_rfl
theorem eq_yy50 {R : Type} (c_yy37 : T27 R) (l_2 : T37 R) (v1 : (List (Rose (Int × (LI × Unit))))) (v2 : LI) (K : S → List Ent → Option R) :
    runK C_yy50 raw (cf_yy50 c_yy37 l_2) (lf_yy50 c_yy37 l_2) 58 [.sl (.rose (.pair (.int .i64) (.pair (.arr 4 (.int .u64)) .unit))) v1, .fn 54 [.ptr 0 []]] [.box (.sl (.int .i64) v2) false] K =
      yy50_b c_yy37 l_2 v1 v2 (fun (r0 : Int) (r1 : LI) => K (.int .i64 r0) [.box (.sl (.int .i64) r1) false]) := by kernel_rfl
noncomputable def C_yy47 : Ctx := { P := Tryd.prog, mv := [], pu := [], glob := glob, live := fun n => look n [], out := fun n => look n [], frz := fun n => look n [], bef := fun n => look n [] }
def cf_yy47 {R : Type} (c_yy50 : T38 R) : CallF R := fun f av es K => iteH (decide (f = 58)) (sh58 c_yy50 (fun _ _ => none) av es K) (none)
def lf_yy47 {R : Type} (c_yy50 : T38 R) : LoopF R := fun m np id _ vs es K => none
theorem eq_yy47 {R : Type} (c_yy50 : T38 R) (v1 : (List (Rose (Int × (LI × Unit))))) (v2 : LI) (K : S → List Ent → Option R) :
    runK C_yy47 raw (cf_yy47 c_yy50) (lf_yy47 c_yy50) 38 [.sl (.rose (.pair (.int .i64) (.pair (.arr 4 (.int .u64)) .unit))) v1, .fn 54 [.ptr 0 []]] [.box (.sl (.int .i64) v2) false] K =
      yy47_b c_yy50 v1 v2 (fun (r0 : Bool) (r1 : LI) => K (.bool r0) [.box (.sl (.int .i64) r1) false]) := by kernel_rfl
noncomputable def C_yy36 : Ctx := { P := Tryd.prog, mv := [], pu := [], glob := glob, live := fun n => look n [], out := fun n => look n [], frz := fun n => look n [], bef := fun n => look n [] }
def cf_yy36 {R : Type} (c_yy47 : T39 R) : CallF R := fun f av es K => iteH (decide (f = 38)) (sh38 c_yy47 (fun _ _ => none) av es K) (none)
def lf_yy36 {R : Type} (c_yy47 : T39 R) : LoopF R := fun m np id _ vs es K => none
theorem eq_yy36 {R : Type} (c_yy47 : T39 R) (v1 : (List (Rose (Int × (LI × Unit))))) (v2 : LI) (K : S → List Ent → Option R) :
    runK C_yy36 raw (cf_yy36 c_yy47) (lf_yy36 c_yy47) 36 [.sl (.rose (.pair (.int .i64) (.pair (.arr 4 (.int .u64)) .unit))) v1, .sl (.int .i64) v2] [] K =
      yy36_b c_yy47 v1 v2 (fun (r0 : Bool) => K (.bool r0) []) := by kernel_rfl
noncomputable def C_yy38 : Ctx := { P := Tryd.prog, mv := [], pu := [], glob := glob, live := fun n => look n [], out := fun n => look n [], frz := fun n => look n [], bef := fun n => look n [] }
def cf_yy38 {R : Type} : CallF R := fun f av es K => none
def lf_yy38 {R : Type} : LoopF R := fun m np id _ vs es K => none
theorem eq_yy38 {R : Type} (v1 : Int) (v2 : LI) (v3 : (List (Rose (Int × (LI × Unit))))) (K : S → List Ent → Option R) :
    runK C_yy38 raw (cf_yy38) (lf_yy38) 56 [.st [.int .i64 v1, .arr 4 (.int .u64) v2, .sl (.rose (.pair (.int .i64) (.pair (.arr 4 (.int .u64)) .unit))) v3]] [] K =
      yy38_b v1 v2 v3 (fun (r0 : Bool) => K (.bool r0) []) := by kernel_rfl
noncomputable def C_yy4 : Ctx := { P := Tryd.prog, mv := [], pu := [], glob := glob, live := fun n => look n [], out := fun n => look n [], frz := fun n => look n [], bef := fun n => look n [] }
def cf_yy4 {R : Type} : CallF R := fun f av es K => none
def lf_yy4 {R : Type} : LoopF R := fun m np id _ vs es K => none
theorem eq_yy4 {R : Type} (v1 : Int) (K : S → List Ent → Option R) :
    runK C_yy4 raw (cf_yy4) (lf_yy4) 80 [.int .i64 v1] [] K =
      yy4_b v1 (fun (r0 : Bool) => K (.bool r0) []) := by kernel_rfl
noncomputable def C_yy3 : Ctx := { P := Tryd.prog, mv := [], pu := [], glob := glob, live := fun n => look n [], out := fun n => look n [], frz := fun n => look n [], bef := fun n => look n [] }
def cf_yy3 {R : Type} (c_yy4 : Int → (Bool → Option R) → Option R) : CallF R := fun f av es K => iteH (decide (f = 80)) (sh80 c_yy4 av es K) (none)
def lf_yy3 {R : Type} (c_yy4 : Int → (Bool → Option R) → Option R) : LoopF R := fun m np id _ vs es K => none
theorem eq_yy3 {R : Type} (c_yy4 : Int → (Bool → Option R) → Option R) (v1 : Int) (v2 : Int) (K : S → List Ent → Option R) :
    runK C_yy3 raw (cf_yy3 c_yy4) (lf_yy3 c_yy4) 70 [.int .i64 v1, .int .i64 v2] [] K =
      yy3_b c_yy4 v1 v2 (fun (r0 : Int) => K (.int .i64 r0) []) := by kernel_rfl
noncomputable def C_yy7 : Ctx := { P := Tryd.prog, mv := [], pu := [], glob := glob, live := fun n => look n [], out := fun n => look n [], frz := fun n => look n [], bef := fun n => look n [] }
def cf_yy7 {R : Type} : CallF R := fun f av es K => none
def lf_yy7 {R : Type} : LoopF R := fun m np id _ vs es K => none
theorem eq_yy7 {R : Type} (v1 : Int) (K : S → List Ent → Option R) :
    runK C_yy7 raw (cf_yy7) (lf_yy7) 81 [.int .u64 v1] [] K =
      yy7_b v1 (fun (r0 : Int) => K (.int .i64 r0) []) := by kernel_rfl
noncomputable def C_yy1 : Ctx := { P := Tryd.prog, mv := [], pu := [], glob := glob, live := fun n => look n [(2, [2, 3, 7])], out := fun n => look n [(2, [4])], frz := fun n => look n [(2, [])], bef := fun n => look n [(4, [0, 1, 3, 0, 8, 24, 63, 127]), (6, [0, 1, 3, 0, 8, 31, 63, 127, 255])] }
def cf_yy1 {R : Type} (c_yy7 : Int → (Int → Option R) → Option R) (l_2 : T16 R) : CallF R := fun f av es K => iteH (decide (f = 81)) (sh81 c_yy7 av es K) (none)
def sl_yy1_l2 {R : Type} (l_2 : T16 R) (vs : List S) (es : List Ent) (K : Out → List S → List Ent → Option R) : Option R :=
  match vs, es with
  | [.ptr 0 [], .ptr 1 [], .int .i64 v3], [.box (.arr 4 (.int .u64) v4) false, .box (.arr 4 (.int .u64) v5) false] => l_2 v4 v5 (fun (r0 : Bool) => K .ret [.bool r0] []) (K (.exit 0) [.junk] []) v3
  | _, _ => none
def lf_yy1 {R : Type} (c_yy7 : Int → (Int → Option R) → Option R) (l_2 : T16 R) : LoopF R := fun m np id _ vs es K => iteH (decide (m = 28) && decide (np = 0)) (iteH (decide (id = 2)) (sl_yy1_l2 l_2 vs es K) (none)) none
theorem eq_yy1_l2 {R : Type} (c_yy7 : Int → (Int → Option R) → Option R) (l_2 : T16 R) (v3 : Int) (v4 : LI) (v5 : LI) (K : Out → List S → List Ent → Option R) :
    acodeK C_yy1 raw (cf_yy1 c_yy7 l_2) (lf_yy1 c_yy7 l_2) (loopBody Tryd.prog 71 2) (placeSt 28 0 [2, 3, 7] [.ptr 0 [], .ptr 1 [], .int .i64 v3] [.box (.arr 4 (.int .u64) v4) false, .box (.arr 4 (.int .u64) v5) false]) (loopKont C_yy1 (lf_yy1 c_yy7 l_2) 28 0 2 (loopBody Tryd.prog 71 2) K) =
      yy1_l2_b c_yy7 l_2 v4 v5 (fun (r0 : Bool) => K .ret [.bool r0] []) (K (.exit 0) [.junk] []) v3 := by kernel_rfl
theorem eq_yy1 {R : Type} (c_yy7 : Int → (Int → Option R) → Option R) (l_2 : T16 R) (v1 : LI) (v2 : LI) (K : S → List Ent → Option R) :
    runK C_yy1 raw (cf_yy1 c_yy7 l_2) (lf_yy1 c_yy7 l_2) 71 [.arr 4 (.int .u64) v1, .arr 4 (.int .u64) v2] [] K =
      yy1_b c_yy7 l_2 v1 v2 (fun (r0 : Bool) => K (.bool r0) []) := by kernel_rfl
noncomputable def C_yy46 : Ctx := { P := Tryd.prog, mv := [], pu := [], glob := glob, live := fun n => look n [(2, [0, 1, 2, 11, 12, 13])], out := fun n => look n [(2, [0, 1, 6])], frz := fun n => look n [(2, [])], bef := fun n => look n [] }
def cf_yy46 {R : Type} (c_yy33 : T3 R) (l_2 : T40 R) : CallF R := fun f av es K => iteH (decide (f = 57)) (sh57 c_yy33 av es K) (none)
def sl_yy46_l2 {R : Type} (l_2 : T40 R) (vs : List S) (es : List Ent) (K : Out → List S → List Ent → Option R) : Option R :=
  match vs, es with
  | [.sl (.rose (.pair (.int .i64) (.pair (.arr 4 (.int .u64)) .unit))) v3, .sl (.rose (.pair (.int .i64) (.pair (.arr 4 (.int .u64)) .unit))) v4, .fn 57 [], .sl (.rose (.pair (.int .i64) (.pair (.arr 4 (.int .u64)) .unit))) v5, .int .i64 v6, .int .i64 v7], [] => l_2 v3 v4 v5 v6 (fun (r0 : (List (Rose (Int × (LI × Unit))))) (r1 : (List (Rose (Int × (LI × Unit))))) (r2 : Int) => K .ret [.sl (.rose (.pair (.int .i64) (.pair (.arr 4 (.int .u64)) .unit))) r0, .sl (.rose (.pair (.int .i64) (.pair (.arr 4 (.int .u64)) .unit))) r1, .int .i64 r2] []) (fun (r0 : (List (Rose (Int × (LI × Unit))))) (r1 : (List (Rose (Int × (LI × Unit))))) => K (.exit 0) [.sl (.rose (.pair (.int .i64) (.pair (.arr 4 (.int .u64)) .unit))) r0, .sl (.rose (.pair (.int .i64) (.pair (.arr 4 (.int .u64)) .unit))) r1, .junk] []) v7
  | _, _ => none
def lf_yy46 {R : Type} (c_yy33 : T3 R) (l_2 : T40 R) : LoopF R := fun m np id _ vs es K => iteH (decide (m = 39) && decide (np = 0)) (iteH (decide (id = 2)) (sl_yy46_l2 l_2 vs es K) (none)) none
theorem eq_yy46_l2 {R : Type} (c_yy33 : T3 R) (l_2 : T40 R) (v3 : (List (Rose (Int × (LI × Unit))))) (v4 : (List (Rose (Int × (LI × Unit))))) (v5 : (List (Rose (Int × (LI × Unit))))) (v6 : Int) (v7 : Int) (K : Out → List S → List Ent → Option R) :
    acodeK C_yy46 raw (cf_yy46 c_yy33 l_2) (lf_yy46 c_yy33 l_2) (loopBody Tryd.prog 72 2) (placeSt 39 0 [0, 1, 2, 11, 12, 13] [.sl (.rose (.pair (.int .i64) (.pair (.arr 4 (.int .u64)) .unit))) v3, .sl (.rose (.pair (.int .i64) (.pair (.arr 4 (.int .u64)) .unit))) v4, .fn 57 [], .sl (.rose (.pair (.int .i64) (.pair (.arr 4 (.int .u64)) .unit))) v5, .int .i64 v6, .int .i64 v7] []) (loopKont C_yy46 (lf_yy46 c_yy33 l_2) 39 0 2 (loopBody Tryd.prog 72 2) K) =
      yy46_l2_b c_yy33 l_2 v3 v4 v5 v6 (fun (r0 : (List (Rose (Int × (LI × Unit))))) (r1 : (List (Rose (Int × (LI × Unit))))) (r2 : Int) => K .ret [.sl (.rose (.pair (.int .i64) (.pair (.arr 4 (.int .u64)) .unit))) r0, .sl (.rose (.pair (.int .i64) (.pair (.arr 4 (.int .u64)) .unit))) r1, .int .i64 r2] []) (fun (r0 : (List (Rose (Int × (LI × Unit))))) (r1 : (List (Rose (Int × (LI × Unit))))) => K (.exit 0) [.sl (.rose (.pair (.int .i64) (.pair (.arr 4 (.int .u64)) .unit))) r0, .sl (.rose (.pair (.int .i64) (.pair (.arr 4 (.int .u64)) .unit))) r1, .junk] []) v7 := by kernel_rfl
theorem eq_yy46 {R : Type} (c_yy33 : T3 R) (l_2 : T40 R) (v1 : (List (Rose (Int × (LI × Unit))))) (v2 : (List (Rose (Int × (LI × Unit))))) (K : S → List Ent → Option R) :
    runK C_yy46 raw (cf_yy46 c_yy33 l_2) (lf_yy46 c_yy33 l_2) 72 [.sl (.rose (.pair (.int .i64) (.pair (.arr 4 (.int .u64)) .unit))) v1, .sl (.rose (.pair (.int .i64) (.pair (.arr 4 (.int .u64)) .unit))) v2, .fn 57 []] [] K =
      yy46_b c_yy33 l_2 v1 v2 (fun (r0 : Int) => K (.int .i64 r0) []) := by kernel_rfl
noncomputable def C_yy33 : Ctx := { P := Tryd.prog, mv := [], pu := [], glob := glob, live := fun n => look n [], out := fun n => look n [], frz := fun n => look n [], bef := fun n => look n [] }
def cf_yy33 {R : Type} (c_yy3 : T41 R) (c_yy1 : T11 R) (c_yy46 : T42 R) : CallF R := fun f av es K => iteH (decide (f = 70)) (sh70 c_yy3 av es K) (iteH (decide (f = 71)) (sh71 c_yy1 av es K) (iteH (decide (f = 72)) (sh72 c_yy46 av es K) (none)))
def lf_yy33 {R : Type} (c_yy3 : T41 R) (c_yy1 : T11 R) (c_yy46 : T42 R) : LoopF R := fun m np id _ vs es K => none
theorem eq_yy33 {R : Type} (c_yy3 : T41 R) (c_yy1 : T11 R) (c_yy46 : T42 R) (v1 : Int) (v2 : LI) (v3 : (List (Rose (Int × (LI × Unit))))) (v4 : Int) (v5 : LI) (v6 : (List (Rose (Int × (LI × Unit))))) (K : S → List Ent → Option R) :
    runK C_yy33 raw (cf_yy33 c_yy3 c_yy1 c_yy46) (lf_yy33 c_yy3 c_yy1 c_yy46) 57 [.st [.int .i64 v1, .arr 4 (.int .u64) v2, .sl (.rose (.pair (.int .i64) (.pair (.arr 4 (.int .u64)) .unit))) v3], .st [.int .i64 v4, .arr 4 (.int .u64) v5, .sl (.rose (.pair (.int .i64) (.pair (.arr 4 (.int .u64)) .unit))) v6]] [] K =
      yy33_b c_yy3 c_yy1 c_yy46 v1 v2 v3 v4 v5 v6 (fun (r0 : Int) => K (.int .i64 r0) []) := by kernel_rfl
noncomputable def C_yy39 : Ctx := { P := Tryd.prog, mv := [], pu := [], glob := glob, live := fun n => look n [(3, [0, 3, 6, 7, 8])], out := fun n => look n [(3, [2, 3])], frz := fun n => look n [(3, [])], bef := fun n => look n [(7, [0, 1, 3, 7, 7, 23, 63, 127, 7, 511, 1023, 2047])] }
def cf_yy39 {R : Type} (c_yy38 : T4 R) (c_yy33 : T3 R) (l_3 : T43 R) : CallF R := fun f av es K => iteH (decide (f = 56)) (sh56 c_yy38 av es K) (iteH (decide (f = 57)) (sh57 c_yy33 av es K) (none))
def sl_yy39_l3 {R : Type} (l_3 : T43 R) (vs : List S) (es : List Ent) (K : Out → List S → List Ent → Option R) : Option R :=
  match vs, es with
  | [.sl (.rose (.pair (.int .i64) (.pair (.arr 4 (.int .u64)) .unit))) v2, .int .i64 v3, .sl (.rose (.pair (.int .i64) (.pair (.arr 4 (.int .u64)) .unit))) v4, .int .i64 v5, .int .i64 v6], [] => l_3 v2 v4 v5 (fun (r0 : Bool) (r1 : Int) => K .ret [.bool r0, .int .i64 r1] []) (fun (r0 : Int) => K (.exit 0) [.junk, .int .i64 r0] []) v3 v6
  | _, _ => none
def lf_yy39 {R : Type} (c_yy38 : T4 R) (c_yy33 : T3 R) (l_3 : T43 R) : LoopF R := fun m np id _ vs es K => iteH (decide (m = 32) && decide (np = 0)) (iteH (decide (id = 3)) (sl_yy39_l3 l_3 vs es K) (none)) none
theorem eq_yy39_l3 {R : Type} (c_yy38 : T4 R) (c_yy33 : T3 R) (l_3 : T43 R) (v2 : (List (Rose (Int × (LI × Unit))))) (v3 : Int) (v4 : (List (Rose (Int × (LI × Unit))))) (v5 : Int) (v6 : Int) (K : Out → List S → List Ent → Option R) :
    acodeK C_yy39 raw (cf_yy39 c_yy38 c_yy33 l_3) (lf_yy39 c_yy38 c_yy33 l_3) (loopBody Tryd.prog 37 3) (placeSt 32 0 [0, 3, 6, 7, 8] [.sl (.rose (.pair (.int .i64) (.pair (.arr 4 (.int .u64)) .unit))) v2, .int .i64 v3, .sl (.rose (.pair (.int .i64) (.pair (.arr 4 (.int .u64)) .unit))) v4, .int .i64 v5, .int .i64 v6] []) (loopKont C_yy39 (lf_yy39 c_yy38 c_yy33 l_3) 32 0 3 (loopBody Tryd.prog 37 3) K) =
      yy39_l3_b c_yy38 c_yy33 l_3 v2 v4 v5 (fun (r0 : Bool) (r1 : Int) => K .ret [.bool r0, .int .i64 r1] []) (fun (r0 : Int) => K (.exit 0) [.junk, .int .i64 r0] []) v3 v6 := by kernel_rfl
theorem eq_yy39 {R : Type} (c_yy38 : T4 R) (c_yy33 : T3 R) (l_3 : T43 R) (v1 : (List (Rose (Int × (LI × Unit))))) (K : S → List Ent → Option R) :
    runK C_yy39 raw (cf_yy39 c_yy38 c_yy33 l_3) (lf_yy39 c_yy38 c_yy33 l_3) 37 [.sl (.rose (.pair (.int .i64) (.pair (.arr 4 (.int .u64)) .unit))) v1] [] K =
      yy39_b c_yy38 c_yy33 l_3 v1 (fun (r0 : Bool) => K (.bool r0) []) := by kernel_rfl
noncomputable def C_yy35 : Ctx := { P := Tryd.prog, mv := [], pu := [], glob := glob, live := fun n => look n [], out := fun n => look n [], frz := fun n => look n [], bef := fun n => look n [] }
def cf_yy35 {R : Type} (c_yy34 : T4 R) : CallF R := fun f av es K => iteH (decide (f = 25)) (sh25 c_yy34 av es K) (none)
def lf_yy35 {R : Type} (c_yy34 : T4 R) : LoopF R := fun m np id _ vs es K => none
theorem eq_yy35 {R : Type} (c_yy34 : T4 R) (v1 : Int) (v2 : LI) (v3 : (List (Rose (Int × (LI × Unit))))) (K : S → List Ent → Option R) :
    runK C_yy35 raw (cf_yy35 c_yy34) (lf_yy35 c_yy34) 39 [.st [.int .i64 v1, .arr 4 (.int .u64) v2, .sl (.rose (.pair (.int .i64) (.pair (.arr 4 (.int .u64)) .unit))) v3]] [] K =
      yy35_b c_yy34 v1 v2 v3 (fun (r0 : Bool) => K (.bool r0) []) := by kernel_rfl
noncomputable def C_yy51 : Ctx := { P := Tryd.prog, mv := [], pu := [], glob := glob, live := fun n => look n [(2, [0, 1, 7, 8])], out := fun n => look n [(2, [4])], frz := fun n => look n [(2, [])], bef := fun n => look n [] }
def cf_yy51 {R : Type} (c_yy35 : T4 R) (l_2 : T44 R) : CallF R := fun f av es K => iteH (decide (f = 39)) (sh39 c_yy35 av es K) (none)
def sl_yy51_l2 {R : Type} (l_2 : T44 R) (vs : List S) (es : List Ent) (K : Out → List S → List Ent → Option R) : Option R :=
  match vs, es with
  | [.sl (.rose (.pair (.int .i64) (.pair (.arr 4 (.int .u64)) .unit))) v2, .fn 39 [], .int .i64 v3, .int .i64 v4], [] => l_2 v2 v3 (fun (r0 : Int) => K .ret [.int .i64 r0] []) (K (.exit 0) [.junk] []) v4
  | _, _ => none
def lf_yy51 {R : Type} (c_yy35 : T4 R) (l_2 : T44 R) : LoopF R := fun m np id _ vs es K => iteH (decide (m = 19) && decide (np = 0)) (iteH (decide (id = 2)) (sl_yy51_l2 l_2 vs es K) (none)) none
theorem eq_yy51_l2 {R : Type} (c_yy35 : T4 R) (l_2 : T44 R) (v2 : (List (Rose (Int × (LI × Unit))))) (v3 : Int) (v4 : Int) (K : Out → List S → List Ent → Option R) :
    acodeK C_yy51 raw (cf_yy51 c_yy35 l_2) (lf_yy51 c_yy35 l_2) (loopBody Tryd.prog 58 2) (placeSt 19 0 [0, 1, 7, 8] [.sl (.rose (.pair (.int .i64) (.pair (.arr 4 (.int .u64)) .unit))) v2, .fn 39 [], .int .i64 v3, .int .i64 v4] []) (loopKont C_yy51 (lf_yy51 c_yy35 l_2) 19 0 2 (loopBody Tryd.prog 58 2) K) =
      yy51_l2_b c_yy35 l_2 v2 v3 (fun (r0 : Int) => K .ret [.int .i64 r0] []) (K (.exit 0) [.junk] []) v4 := by kernel_rfl
theorem eq_yy51 {R : Type} (c_yy35 : T4 R) (l_2 : T44 R) (v1 : (List (Rose (Int × (LI × Unit))))) (K : S → List Ent → Option R) :
    runK C_yy51 raw (cf_yy51 c_yy35 l_2) (lf_yy51 c_yy35 l_2) 58 [.sl (.rose (.pair (.int .i64) (.pair (.arr 4 (.int .u64)) .unit))) v1, .fn 39 []] [] K =
      yy51_b c_yy35 l_2 v1 (fun (r0 : Int) => K (.int .i64 r0) []) := by kernel_rfl
noncomputable def C_yy48 : Ctx := { P := Tryd.prog, mv := [], pu := [], glob := glob, live := fun n => look n [], out := fun n => look n [], frz := fun n => look n [], bef := fun n => look n [] }
def cf_yy48 {R : Type} (c_yy51 : T45 R) : CallF R := fun f av es K => iteH (decide (f = 58)) (sh58 (fun _ _ _ => none) c_yy51 av es K) (none)
def lf_yy48 {R : Type} (c_yy51 : T45 R) : LoopF R := fun m np id _ vs es K => none
theorem eq_yy48 {R : Type} (c_yy51 : T45 R) (v1 : (List (Rose (Int × (LI × Unit))))) (K : S → List Ent → Option R) :
    runK C_yy48 raw (cf_yy48 c_yy51) (lf_yy48 c_yy51) 38 [.sl (.rose (.pair (.int .i64) (.pair (.arr 4 (.int .u64)) .unit))) v1, .fn 39 []] [] K =
      yy48_b c_yy51 v1 (fun (r0 : Bool) => K (.bool r0) []) := by kernel_rfl
noncomputable def C_yy34 : Ctx := { P := Tryd.prog, mv := [], pu := [], glob := glob, live := fun n => look n [], out := fun n => look n [], frz := fun n => look n [], bef := fun n => look n [] }
def cf_yy34 {R : Type} (c_yy36 : T46 R) (c_yy39 : T17 R) (c_yy48 : T17 R) : CallF R := fun f av es K => iteH (decide (f = 36)) (sh36 c_yy36 av es K) (iteH (decide (f = 37)) (sh37 c_yy39 av es K) (iteH (decide (f = 38)) (sh38 (fun _ _ _ => none) c_yy48 av es K) (none)))
def lf_yy34 {R : Type} (c_yy36 : T46 R) (c_yy39 : T17 R) (c_yy48 : T17 R) : LoopF R := fun m np id _ vs es K => none
theorem eq_yy34 {R : Type} (c_yy36 : T46 R) (c_yy39 : T17 R) (c_yy48 : T17 R) (v1 : Int) (v2 : LI) (v3 : (List (Rose (Int × (LI × Unit))))) (K : S → List Ent → Option R) :
    runK C_yy34 raw (cf_yy34 c_yy36 c_yy39 c_yy48) (lf_yy34 c_yy36 c_yy39 c_yy48) 25 [.st [.int .i64 v1, .arr 4 (.int .u64) v2, .sl (.rose (.pair (.int .i64) (.pair (.arr 4 (.int .u64)) .unit))) v3]] [] K =
      yy34_b c_yy36 c_yy39 c_yy48 v1 v2 v3 (fun (r0 : Bool) => K (.bool r0) []) := by kernel_rfl
noncomputable def C_yy42 : Ctx := { P := Tryd.prog, mv := [], pu := [], glob := glob, live := fun n => look n [], out := fun n => look n [], frz := fun n => look n [], bef := fun n => look n [] }
def cf_yy42 {R : Type} : CallF R := fun f av es K => none
def lf_yy42 {R : Type} : LoopF R := fun m np id _ vs es K => none
theorem eq_yy42 {R : Type} (v1 : LI) (v2 : Bool) (v3 : LI) (K : S → List Ent → Option R) :
    runK C_yy42 raw (cf_yy42) (lf_yy42) 40 [.ptr 0 [], .str v1] [.box (.st [.own (.int .u8) 1, .bool v2]) false, .buf (.int .u8) v3 false] K =
      yy42_b v1 v2 v3 (fun (r0 : Bool) (r1 : LI) => K (.tup []) [.box (.st [.own (.int .u8) 1, .bool r0]) false, .buf (.int .u8) r1 false]) := by kernel_rfl
noncomputable def C_yy0 : Ctx := { P := Tryd.prog, mv := [], pu := [], glob := glob, live := fun n => look n [], out := fun n => look n [], frz := fun n => look n [], bef := fun n => look n [] }
def cf_yy0 {R : Type} : CallF R := fun f av es K => none
def lf_yy0 {R : Type} : LoopF R := fun m np id _ vs es K => none
theorem eq_yy0 {R : Type} (v1 : LI) (v2 : Int) (K : S → List Ent → Option R) :
    runK C_yy0 raw (cf_yy0) (lf_yy0) 73 [.arr 4 (.int .u64) v1, .int .u8 v2] [] K =
      yy0_b v1 v2 (fun (r0 : Bool) => K (.bool r0) []) := by kernel_rfl
noncomputable def C_yy2 : Ctx := { P := Tryd.prog, mv := [], pu := [], glob := glob, live := fun n => look n [(3, [1, 3, 5])], out := fun n => look n [(3, [3])], frz := fun n => look n [(3, [])], bef := fun n => look n [] }
def cf_yy2 {R : Type} (c_yy0 : T2 R) (l_3 : T15 R) : CallF R := fun f av es K => iteH (decide (f = 73)) (sh73 c_yy0 av es K) (none)
def sl_yy2_l3 {R : Type} (l_3 : T15 R) (vs : List S) (es : List Ent) (K : Out → List S → List Ent → Option R) : Option R :=
  match vs, es with
  | [.ptr 0 [], .own (.int .u8) 1, .int .i64 v2], [.box (.arr 4 (.int .u64) v3) false, .buf (.int .u8) v4 false] => l_3 v3 (fun (r0 : LI) => K (.exit 0) [.own (.int .u8) 0] [.buf (.int .u8) r0 false]) v2 v4
  | _, _ => none
def lf_yy2 {R : Type} (c_yy0 : T2 R) (l_3 : T15 R) : LoopF R := fun m np id _ vs es K => iteH (decide (m = 19) && decide (np = 0)) (iteH (decide (id = 3)) (sl_yy2_l3 l_3 vs es K) (none)) none
theorem eq_yy2_l3 {R : Type} (c_yy0 : T2 R) (l_3 : T15 R) (v2 : Int) (v3 : LI) (v4 : LI) (K : Out → List S → List Ent → Option R) :
    acodeK C_yy2 raw (cf_yy2 c_yy0 l_3) (lf_yy2 c_yy0 l_3) (loopBody Tryd.prog 59 3) (placeSt 19 0 [1, 3, 5] [.ptr 0 [], .own (.int .u8) 1, .int .i64 v2] [.box (.arr 4 (.int .u64) v3) false, .buf (.int .u8) v4 false]) (loopKont C_yy2 (lf_yy2 c_yy0 l_3) 19 0 3 (loopBody Tryd.prog 59 3) K) =
      yy2_l3_b c_yy0 l_3 v3 (fun (r0 : LI) => K (.exit 0) [.own (.int .u8) 0] [.buf (.int .u8) r0 false]) v2 v4 := by kernel_rfl
theorem eq_yy2 {R : Type} (c_yy0 : T2 R) (l_3 : T15 R) (v1 : LI) (K : S → List Ent → Option R) :
    runK C_yy2 raw (cf_yy2 c_yy0 l_3) (lf_yy2 c_yy0 l_3) 59 [.arr 4 (.int .u64) v1] [] K =
      yy2_b c_yy0 l_3 v1 (fun (r0 : LI) => K (.own (.int .u8) 0) [.buf (.int .u8) r0 false]) := by kernel_rfl
noncomputable def C_yy41 : Ctx := { P := Tryd.prog, mv := [], pu := [], glob := glob, live := fun n => look n [], out := fun n => look n [], frz := fun n => look n [], bef := fun n => look n [(5, [0, 1, 3, 0, 8, 24, 63, 127, 255, 511])] }
def cf_yy41 {R : Type} : CallF R := fun f av es K => iteH (decide (f = 74)) (sh74 av es K) (none)
def lf_yy41 {R : Type} : LoopF R := fun m np id _ vs es K => none
theorem eq_yy41 {R : Type} (v1 : Int) (K : S → List Ent → Option R) :
    runK C_yy41 raw (cf_yy41) (lf_yy41) 60 [.int .u8 v1] [] K =
      yy41_b v1 (fun (r0 : LI) => K (.str r0) []) := by kernel_rfl
noncomputable def C_yy44 : Ctx := { P := Tryd.prog, mv := [], pu := [], glob := glob, live := fun n => look n [(9, [0, 4, 5]), (11, [0, 4, 5, 6])], out := fun n => look n [(9, [0]), (11, [0, 4, 5, 6])], frz := fun n => look n [(9, []), (11, [])], bef := fun n => look n [(11, [0, 1, 0, 4, 15, 31, 63, 63, 191, 511, 1023, 63, 63, 6207, 14399, 30783, 65535, 131071])] }
def cf_yy44 {R : Type} (c_yy2 : LI → (LI → Option R) → Option R) (c_yy42 : T5 R) (c_yy41 : Int → (LI → Option R) → Option R) (l_9 : T28 R) (l_11 : T29 R) : CallF R := fun f av es K => iteH (decide (f = 59)) (sh59 c_yy2 av es K) (iteH (decide (f = 40)) (sh40 c_yy42 av es K) (iteH (decide (f = 60)) (sh60 c_yy41 av es K) (none)))
def sl_yy44_l9 {R : Type} (l_9 : T28 R) (vs : List S) (es : List Ent) (K : Out → List S → List Ent → Option R) : Option R :=
  match vs, es with
  | [.ptr 0 [], .own (.int .u8) 1, .int .i64 v12], [.box (.st [.own (.int .u8) 2, .bool v13]) false, .buf (.int .u8) v14 false, .buf (.int .u8) v15 false] => l_9 (fun (r0 : Bool) (r1 : LI) => K (.exit 1) [.ptr 0 []] [.box (.st [.own (.int .u8) 1, .bool r0]) false, .buf (.int .u8) r1 false]) v12 v13 v14 v15
  | _, _ => none
def sl_yy44_l11 {R : Type} (l_11 : T29 R) (vs : List S) (es : List Ent) (K : Out → List S → List Ent → Option R) : Option R :=
  match vs, es with
  | [.ptr 0 [], .own (.int .u8) 1, .int .i64 v16, .int .i64 v17], [.box (.st [.own (.int .u8) 2, .bool v18]) false, .buf (.int .u8) v19 false, .buf (.int .u8) v20 false] => l_11 v16 v18 v19 v20 (fun (r0 : Int) (r1 : Int) (r2 : Bool) (r3 : LI) (r4 : LI) => K (.exit 3) [.ptr 0 [], .own (.int .u8) 1, .int .i64 r0, .int .i64 r1] [.box (.st [.own (.int .u8) 2, .bool r2]) false, .buf (.int .u8) r3 false, .buf (.int .u8) r4 false]) v17
  | _, _ => none
def lf_yy44 {R : Type} (c_yy2 : LI → (LI → Option R) → Option R) (c_yy42 : T5 R) (c_yy41 : Int → (LI → Option R) → Option R) (l_9 : T28 R) (l_11 : T29 R) : LoopF R := fun m np id _ vs es K => iteH (decide (m = 77) && decide (np = 1)) (iteH (decide (id = 9)) (sl_yy44_l9 l_9 vs es K) (iteH (decide (id = 11)) (sl_yy44_l11 l_11 vs es K) (none))) none
theorem eq_yy44_l9 {R : Type} (c_yy2 : LI → (LI → Option R) → Option R) (c_yy42 : T5 R) (c_yy41 : Int → (LI → Option R) → Option R) (l_9 : T28 R) (l_11 : T29 R) (v12 : Int) (v13 : Bool) (v14 : LI) (v15 : LI) (K : Out → List S → List Ent → Option R) :
    acodeK C_yy44 raw (cf_yy44 c_yy2 c_yy42 c_yy41 l_9 l_11) (lf_yy44 c_yy2 c_yy42 c_yy41 l_9 l_11) (loopBody Tryd.prog 41 9) (placeSt 77 1 [0, 4, 5] [.ptr 0 [], .own (.int .u8) 1, .int .i64 v12] [.box (.st [.own (.int .u8) 2, .bool v13]) false, .buf (.int .u8) v14 false, .buf (.int .u8) v15 false]) (loopKont C_yy44 (lf_yy44 c_yy2 c_yy42 c_yy41 l_9 l_11) 77 1 9 (loopBody Tryd.prog 41 9) K) =
      yy44_l9_b c_yy2 c_yy42 c_yy41 l_9 l_11 (fun (r0 : Bool) (r1 : LI) => K (.exit 1) [.ptr 0 []] [.box (.st [.own (.int .u8) 1, .bool r0]) false, .buf (.int .u8) r1 false]) v12 v13 v14 v15 := by kernel_rfl
theorem eq_yy44_l11 {R : Type} (c_yy2 : LI → (LI → Option R) → Option R) (c_yy42 : T5 R) (c_yy41 : Int → (LI → Option R) → Option R) (l_9 : T28 R) (l_11 : T29 R) (v16 : Int) (v17 : Int) (v18 : Bool) (v19 : LI) (v20 : LI) (K : Out → List S → List Ent → Option R) :
    acodeK C_yy44 raw (cf_yy44 c_yy2 c_yy42 c_yy41 l_9 l_11) (lf_yy44 c_yy2 c_yy42 c_yy41 l_9 l_11) (loopBody Tryd.prog 41 11) (placeSt 77 1 [0, 4, 5, 6] [.ptr 0 [], .own (.int .u8) 1, .int .i64 v16, .int .i64 v17] [.box (.st [.own (.int .u8) 2, .bool v18]) false, .buf (.int .u8) v19 false, .buf (.int .u8) v20 false]) (loopKont C_yy44 (lf_yy44 c_yy2 c_yy42 c_yy41 l_9 l_11) 77 1 11 (loopBody Tryd.prog 41 11) K) =
      yy44_l11_b c_yy2 c_yy42 c_yy41 l_9 l_11 v16 v18 v19 v20 (fun (r0 : Int) (r1 : Int) (r2 : Bool) (r3 : LI) (r4 : LI) => K (.exit 3) [.ptr 0 [], .own (.int .u8) 1, .int .i64 r0, .int .i64 r1] [.box (.st [.own (.int .u8) 2, .bool r2]) false, .buf (.int .u8) r3 false, .buf (.int .u8) r4 false]) v17 := by kernel_rfl
theorem eq_yy44 {R : Type} (c_yy2 : LI → (LI → Option R) → Option R) (c_yy42 : T5 R) (c_yy41 : Int → (LI → Option R) → Option R) (l_9 : T28 R) (l_11 : T29 R) (v1 : LI) (v2 : Bool) (v3 : LI) (K : S → List Ent → Option R) :
    runK C_yy44 raw (cf_yy44 c_yy2 c_yy42 c_yy41 l_9 l_11) (lf_yy44 c_yy2 c_yy42 c_yy41 l_9 l_11) 41 [.ptr 0 [], .arr 4 (.int .u64) v1] [.box (.st [.own (.int .u8) 1, .bool v2]) false, .buf (.int .u8) v3 false] K =
      yy44_b c_yy2 c_yy42 c_yy41 l_9 l_11 v1 v2 v3 (fun (r0 : Bool) (r1 : LI) => K (.tup []) [.box (.st [.own (.int .u8) 1, .bool r0]) false, .buf (.int .u8) r1 false]) := by kernel_rfl
noncomputable def C_yy45 : Ctx := { P := Tryd.prog, mv := [], pu := [], glob := glob, live := fun n => look n [], out := fun n => look n [], frz := fun n => look n [], bef := fun n => look n [] }
def cf_yy45 {R : Type} (c_yy49 : T2 R) (c_yy43 : T6 R) (c_yy42 : T5 R) : CallF R := fun f av es K => iteH (decide (f = 55)) (sh55 c_yy49 av es K) (iteH (decide (f = 26)) (sh26 c_yy43 av es K) (iteH (decide (f = 40)) (sh40 c_yy42 av es K) (none)))
def lf_yy45 {R : Type} (c_yy49 : T2 R) (c_yy43 : T6 R) (c_yy42 : T5 R) : LoopF R := fun m np id _ vs es K => none
theorem eq_yy45 {R : Type} (c_yy49 : T2 R) (c_yy43 : T6 R) (c_yy42 : T5 R) (v1 : Int) (v2 : LI) (v3 : (List (Rose (Int × (LI × Unit))))) (v4 : LI) (v5 : Bool) (v6 : LI) (K : S → List Ent → Option R) :
    runK C_yy45 raw (cf_yy45 c_yy49 c_yy43 c_yy42) (lf_yy45 c_yy49 c_yy43 c_yy42) 42 [.ptr 0 [], .st [.int .i64 v1, .arr 4 (.int .u64) v2, .sl (.rose (.pair (.int .i64) (.pair (.arr 4 (.int .u64)) .unit))) v3], .sl (.int .i64) v4] [.box (.st [.own (.int .u8) 1, .bool v5]) false, .buf (.int .u8) v6 false] K =
      yy45_b c_yy49 c_yy43 c_yy42 v1 v2 v3 v4 v5 v6 (fun (r0 : Bool) (r1 : LI) => K (.tup []) [.box (.st [.own (.int .u8) 1, .bool r0]) false, .buf (.int .u8) r1 false]) := by kernel_rfl
noncomputable def C_yy43 : Ctx := { P := Tryd.prog, mv := [], pu := [], glob := glob, live := fun n => look n [(11, [0, 31, 32, 33]), (17, [0, 45, 46, 47])], out := fun n => look n [(11, []), (17, [])], frz := fun n => look n [(11, []), (17, [])], bef := fun n => look n [] }
def cf_yy43 {R : Type} (c_yy42 : T5 R) (c_yy44 : T5 R) (c_yy45 : T19 R) (c_yy43 : T6 R) (l_11 : T8 R) (l_17 : T8 R) : CallF R := fun f av es K => iteH (decide (f = 40)) (sh40 c_yy42 av es K) (iteH (decide (f = 41)) (sh41 c_yy44 av es K) (iteH (decide (f = 42)) (sh42 c_yy45 av es K) (iteH (decide (f = 26)) (sh26 c_yy43 av es K) (none))))
def sl_yy43_l11 {R : Type} (l_11 : T8 R) (vs : List S) (es : List Ent) (K : Out → List S → List Ent → Option R) : Option R :=
  match vs, es with
  | [.ptr 0 [], .sl (.rose (.pair (.int .i64) (.pair (.arr 4 (.int .u64)) .unit))) v12, .int .i64 v13, .int .i64 v14], [.box (.st [.own (.int .u8) 1, .bool v15]) false, .buf (.int .u8) v16 false] => l_11 v12 v13 (fun (r0 : Bool) (r1 : LI) => K (.exit 1) [] [.box (.st [.own (.int .u8) 1, .bool r0]) false, .buf (.int .u8) r1 false]) v14 v15 v16
  | _, _ => none
def sl_yy43_l17 {R : Type} (l_17 : T8 R) (vs : List S) (es : List Ent) (K : Out → List S → List Ent → Option R) : Option R :=
  match vs, es with
  | [.ptr 0 [], .sl (.rose (.pair (.int .i64) (.pair (.arr 4 (.int .u64)) .unit))) v21, .int .i64 v22, .int .i64 v23], [.box (.st [.own (.int .u8) 1, .bool v24]) false, .buf (.int .u8) v25 false] => l_17 v21 v22 (fun (r0 : Bool) (r1 : LI) => K (.exit 3) [] [.box (.st [.own (.int .u8) 1, .bool r0]) false, .buf (.int .u8) r1 false]) v23 v24 v25
  | _, _ => none
def lf_yy43 {R : Type} (c_yy42 : T5 R) (c_yy44 : T5 R) (c_yy45 : T19 R) (c_yy43 : T6 R) (l_11 : T8 R) (l_17 : T8 R) : LoopF R := fun m np id _ vs es K => iteH (decide (m = 74) && decide (np = 1)) (iteH (decide (id = 11)) (sl_yy43_l11 l_11 vs es K) (iteH (decide (id = 17)) (sl_yy43_l17 l_17 vs es K) (none))) none
theorem eq_yy43_l11 {R : Type} (c_yy42 : T5 R) (c_yy44 : T5 R) (c_yy45 : T19 R) (c_yy43 : T6 R) (l_11 : T8 R) (l_17 : T8 R) (v12 : (List (Rose (Int × (LI × Unit))))) (v13 : Int) (v14 : Int) (v15 : Bool) (v16 : LI) (K : Out → List S → List Ent → Option R) :
    acodeK C_yy43 raw (cf_yy43 c_yy42 c_yy44 c_yy45 c_yy43 l_11 l_17) (lf_yy43 c_yy42 c_yy44 c_yy45 c_yy43 l_11 l_17) (loopBody Tryd.prog 26 11) (placeSt 74 1 [0, 31, 32, 33] [.ptr 0 [], .sl (.rose (.pair (.int .i64) (.pair (.arr 4 (.int .u64)) .unit))) v12, .int .i64 v13, .int .i64 v14] [.box (.st [.own (.int .u8) 1, .bool v15]) false, .buf (.int .u8) v16 false]) (loopKont C_yy43 (lf_yy43 c_yy42 c_yy44 c_yy45 c_yy43 l_11 l_17) 74 1 11 (loopBody Tryd.prog 26 11) K) =
      yy43_l11_b c_yy42 c_yy44 c_yy45 c_yy43 l_11 l_17 v12 v13 (fun (r0 : Bool) (r1 : LI) => K (.exit 1) [] [.box (.st [.own (.int .u8) 1, .bool r0]) false, .buf (.int .u8) r1 false]) v14 v15 v16 := by kernel_rfl
theorem eq_yy43_l17 {R : Type} (c_yy42 : T5 R) (c_yy44 : T5 R) (c_yy45 : T19 R) (c_yy43 : T6 R) (l_11 : T8 R) (l_17 : T8 R) (v21 : (List (Rose (Int × (LI × Unit))))) (v22 : Int) (v23 : Int) (v24 : Bool) (v25 : LI) (K : Out → List S → List Ent → Option R) :
    acodeK C_yy43 raw (cf_yy43 c_yy42 c_yy44 c_yy45 c_yy43 l_11 l_17) (lf_yy43 c_yy42 c_yy44 c_yy45 c_yy43 l_11 l_17) (loopBody Tryd.prog 26 17) (placeSt 74 1 [0, 45, 46, 47] [.ptr 0 [], .sl (.rose (.pair (.int .i64) (.pair (.arr 4 (.int .u64)) .unit))) v21, .int .i64 v22, .int .i64 v23] [.box (.st [.own (.int .u8) 1, .bool v24]) false, .buf (.int .u8) v25 false]) (loopKont C_yy43 (lf_yy43 c_yy42 c_yy44 c_yy45 c_yy43 l_11 l_17) 74 1 17 (loopBody Tryd.prog 26 17) K) =
      yy43_l17_b c_yy42 c_yy44 c_yy45 c_yy43 l_11 l_17 v21 v22 (fun (r0 : Bool) (r1 : LI) => K (.exit 3) [] [.box (.st [.own (.int .u8) 1, .bool r0]) false, .buf (.int .u8) r1 false]) v23 v24 v25 := by kernel_rfl
theorem eq_yy43 {R : Type} (c_yy42 : T5 R) (c_yy44 : T5 R) (c_yy45 : T19 R) (c_yy43 : T6 R) (l_11 : T8 R) (l_17 : T8 R) (v1 : Int) (v2 : LI) (v3 : (List (Rose (Int × (LI × Unit))))) (v4 : Bool) (v5 : LI) (K : S → List Ent → Option R) :
    runK C_yy43 raw (cf_yy43 c_yy42 c_yy44 c_yy45 c_yy43 l_11 l_17) (lf_yy43 c_yy42 c_yy44 c_yy45 c_yy43 l_11 l_17) 26 [.ptr 0 [], .st [.int .i64 v1, .arr 4 (.int .u64) v2, .sl (.rose (.pair (.int .i64) (.pair (.arr 4 (.int .u64)) .unit))) v3]] [.box (.st [.own (.int .u8) 1, .bool v4]) false, .buf (.int .u8) v5 false] K =
      yy43_b c_yy42 c_yy44 c_yy45 c_yy43 l_11 l_17 v1 v2 v3 v4 v5 (fun (r0 : Bool) (r1 : LI) => K (.tup []) [.box (.st [.own (.int .u8) 1, .bool r0]) false, .buf (.int .u8) r1 false]) := by kernel_rfl
noncomputable def C_yy40 : Ctx := { P := Tryd.prog, mv := [], pu := [], glob := glob, live := fun n => look n [], out := fun n => look n [], frz := fun n => look n [], bef := fun n => look n [] }
def cf_yy40 {R : Type} (c_yy34 : T4 R) (c_yy43 : T6 R) : CallF R := fun f av es K => iteH (decide (f = 25)) (sh25 c_yy34 av es K) (iteH (decide (f = 26)) (sh26 c_yy43 av es K) (none))
def lf_yy40 {R : Type} (c_yy34 : T4 R) (c_yy43 : T6 R) : LoopF R := fun m np id _ vs es K => none
theorem eq_yy40 {R : Type} (c_yy34 : T4 R) (c_yy43 : T6 R) (v1 : Int) (v2 : LI) (v3 : (List (Rose (Int × (LI × Unit))))) (K : S → List Ent → Option R) :
    runK C_yy40 raw (cf_yy40 c_yy34 c_yy43) (lf_yy40 c_yy34 c_yy43) 12 [.st [.int .i64 v1, .arr 4 (.int .u64) v2, .sl (.rose (.pair (.int .i64) (.pair (.arr 4 (.int .u64)) .unit))) v3]] [] K =
      yy40_b c_yy34 c_yy43 v1 v2 v3 (fun (r0 : LI) => K (.str r0) []) := by kernel_rfl
noncomputable def C_yy6 : Ctx := { P := Tryd.prog, mv := [], pu := [], glob := glob, live := fun n => look n [], out := fun n => look n [], frz := fun n => look n [], bef := fun n => look n [] }
def cf_yy6 {R : Type} (c_yy17 : LI → (LI → Option R) → Option R) (c_yy23 : T10 R) (c_yy30 : T0 R) (c_yy40 : T13 R) (c_yy27 : T1 R) : CallF R := fun f av es K => iteH (decide (f = 20)) (sh20 c_yy17 av es K) (iteH (decide (f = 18)) (sh18 c_yy23 av es K) (iteH (decide (f = 21)) (sh21 c_yy30 av es K) (iteH (decide (f = 12)) (sh12 c_yy40 av es K) (iteH (decide (f = 22)) (sh22 c_yy27 av es K) (none)))))
def lf_yy6 {R : Type} (c_yy17 : LI → (LI → Option R) → Option R) (c_yy23 : T10 R) (c_yy30 : T0 R) (c_yy40 : T13 R) (c_yy27 : T1 R) : LoopF R := fun m np id _ vs es K => none
theorem eq_yy6 {R : Type} (c_yy17 : LI → (LI → Option R) → Option R) (c_yy23 : T10 R) (c_yy30 : T0 R) (c_yy40 : T13 R) (c_yy27 : T1 R) (K : S → List Ent → Option R) :
    runK C_yy6 raw (cf_yy6 c_yy17 c_yy23 c_yy30 c_yy40 c_yy27) (lf_yy6 c_yy17 c_yy23 c_yy30 c_yy40 c_yy27) 9 [] [] K =
      yy6_b c_yy17 c_yy23 c_yy30 c_yy40 c_yy27 (fun (r0 : Bool) => K (.bool r0) []) := by kernel_rfl
noncomputable def C_yy8 : Ctx := { P := Tryd.prog, mv := [], pu := [], glob := glob, live := fun n => look n [], out := fun n => look n [], frz := fun n => look n [], bef := fun n => look n [] }
def cf_yy8 {R : Type} : CallF R := fun f av es K => none
def lf_yy8 {R : Type} : LoopF R := fun m np id _ vs es K => none
theorem eq_yy8 {R : Type} (v1 : LI) (K : S → List Ent → Option R) :
    runK C_yy8 raw (cf_yy8) (lf_yy8) 15 [.sl (.int .u8) v1] [] K =
      yy8_b v1 (fun (r0 : LI) (r1 : Int) => K (.ptr 0 []) [.box (.st [.sl (.int .u8) r0, .int .i64 r1]) false]) := by kernel_rfl
noncomputable def C_yy11 : Ctx := { P := Tryd.prog, mv := [], pu := [], glob := glob, live := fun n => look n [], out := fun n => look n [], frz := fun n => look n [], bef := fun n => look n [(1, [0, 1, 3, 7, 0, 16, 48, 112, 240, 511]), (4, [0, 1, 3, 7, 0, 16, 48, 112, 240, 511, 1023, 2047, 0, 8191, 16383])] }
def cf_yy11 {R : Type} : CallF R := fun f av es K => none
def lf_yy11 {R : Type} : LoopF R := fun m np id _ vs es K => none
theorem eq_yy11 {R : Type} (v1 : Int) (v2 : LI) (v3 : Int) (K : S → List Ent → Option R) :
    runK C_yy11 raw (cf_yy11) (lf_yy11) 45 [.ptr 0 [], .int .i64 v1] [.box (.st [.sl (.int .u8) v2, .int .i64 v3]) false] K =
      yy11_b v1 v2 v3 (fun (r0 : Int) (r1 : LI) (r2 : Int) => K (.int .i64 r0) [.box (.st [.sl (.int .u8) r1, .int .i64 r2]) false]) := by kernel_rfl
noncomputable def C_yy12 : Ctx := { P := Tryd.prog, mv := [], pu := [], glob := glob, live := fun n => look n [], out := fun n => look n [], frz := fun n => look n [], bef := fun n => look n [(1, [0, 1, 3, 7, 0, 16, 48, 112, 240, 511, 1023])] }
def cf_yy12 {R : Type} : CallF R := fun f av es K => none
def lf_yy12 {R : Type} : LoopF R := fun m np id _ vs es K => none
theorem eq_yy12 {R : Type} (v1 : LI) (v2 : Int) (K : S → List Ent → Option R) :
    runK C_yy12 raw (cf_yy12) (lf_yy12) 46 [.ptr 0 []] [.box (.st [.sl (.int .u8) v1, .int .i64 v2]) false] K =
      yy12_b v1 v2 (fun (r0 : Bool) (r1 : LI) (r2 : Int) => K (.bool r0) [.box (.st [.sl (.int .u8) r1, .int .i64 r2]) false]) := by kernel_rfl
noncomputable def C_yy21 : Ctx := { P := Tryd.prog, mv := [], pu := [], glob := glob, live := fun n => look n [(3, [1, 2, 3, 4])], out := fun n => look n [(3, [2, 3])], frz := fun n => look n [(3, [])], bef := fun n => look n [] }
def cf_yy21 {R : Type} (c_yy17 : LI → (LI → Option R) → Option R) (l_3 : T47 R) : CallF R := fun f av es K => iteH (decide (f = 20)) (sh20 c_yy17 av es K) (none)
def sl_yy21_l3 {R : Type} (l_3 : T47 R) (vs : List S) (es : List Ent) (K : Out → List S → List Ent → Option R) : Option R :=
  match vs, es with
  | [.ptr 0 [], .ptr 1 [], .own (.int .u8) 2, .int .i64 v2], [.box (.arr 256 .bool v3) false, .box (.arr 4 (.int .u64) v4) false, .buf (.int .u8) v5 false] => l_3 v3 v4 (fun (r0 : LI) (r1 : LI) => K (.exit 0) [.ptr 0 [], .own (.int .u8) 1] [.box (.arr 4 (.int .u64) r0) false, .buf (.int .u8) r1 false]) v2 v5
  | _, _ => none
def lf_yy21 {R : Type} (c_yy17 : LI → (LI → Option R) → Option R) (l_3 : T47 R) : LoopF R := fun m np id _ vs es K => iteH (decide (m = 19) && decide (np = 0)) (iteH (decide (id = 3)) (sl_yy21_l3 l_3 vs es K) (none)) none
theorem eq_yy21_l3 {R : Type} (c_yy17 : LI → (LI → Option R) → Option R) (l_3 : T47 R) (v2 : Int) (v3 : LB) (v4 : LI) (v5 : LI) (K : Out → List S → List Ent → Option R) :
    acodeK C_yy21 raw (cf_yy21 c_yy17 l_3) (lf_yy21 c_yy17 l_3) (loopBody Tryd.prog 34 3) (placeSt 19 0 [1, 2, 3, 4] [.ptr 0 [], .ptr 1 [], .own (.int .u8) 2, .int .i64 v2] [.box (.arr 256 .bool v3) false, .box (.arr 4 (.int .u64) v4) false, .buf (.int .u8) v5 false]) (loopKont C_yy21 (lf_yy21 c_yy17 l_3) 19 0 3 (loopBody Tryd.prog 34 3) K) =
      yy21_l3_b c_yy17 l_3 v3 v4 (fun (r0 : LI) (r1 : LI) => K (.exit 0) [.ptr 0 [], .own (.int .u8) 1] [.box (.arr 4 (.int .u64) r0) false, .buf (.int .u8) r1 false]) v2 v5 := by kernel_rfl
theorem eq_yy21 {R : Type} (c_yy17 : LI → (LI → Option R) → Option R) (l_3 : T47 R) (v1 : LB) (K : S → List Ent → Option R) :
    runK C_yy21 raw (cf_yy21 c_yy17 l_3) (lf_yy21 c_yy17 l_3) 34 [.arr 256 .bool v1] [] K =
      yy21_b c_yy17 l_3 v1 (fun (r0 : LI) => K (.arr 4 (.int .u64) r0) []) := by kernel_rfl
noncomputable def C_yy19 : Ctx := { P := Tryd.prog, mv := [], pu := [], glob := glob, live := fun n => look n [(3, [1, 4, 5, 6])], out := fun n => look n [(3, [4, 5])], frz := fun n => look n [(3, [])], bef := fun n => look n [] }
def cf_yy19 {R : Type} (c_yy21 : LB → (LI → Option R) → Option R) (l_3 : T48 R) : CallF R := fun f av es K => iteH (decide (f = 34)) (sh34 c_yy21 av es K) (none)
def sl_yy19_l3 {R : Type} (l_3 : T48 R) (vs : List S) (es : List Ent) (K : Out → List S → List Ent → Option R) : Option R :=
  match vs, es with
  | [.int .u8 v3, .ptr 0 [], .ptr 1 [], .int .i64 v4], [.box (.arr 4 (.int .u64) v5) false, .box (.arr 256 .bool v6) false] => l_3 v3 v5 (fun (r0 : LI) (r1 : LB) => K (.exit 0) [.ptr 0 [], .ptr 1 []] [.box (.arr 4 (.int .u64) r0) false, .box (.arr 256 .bool r1) false]) v4 v6
  | _, _ => none
def lf_yy19 {R : Type} (c_yy21 : LB → (LI → Option R) → Option R) (l_3 : T48 R) : LoopF R := fun m np id _ vs es K => iteH (decide (m = 19) && decide (np = 0)) (iteH (decide (id = 3)) (sl_yy19_l3 l_3 vs es K) (none)) none
theorem eq_yy19_l3 {R : Type} (c_yy21 : LB → (LI → Option R) → Option R) (l_3 : T48 R) (v3 : Int) (v4 : Int) (v5 : LI) (v6 : LB) (K : Out → List S → List Ent → Option R) :
    acodeK C_yy19 raw (cf_yy19 c_yy21 l_3) (lf_yy19 c_yy21 l_3) (loopBody Tryd.prog 19 3) (placeSt 19 0 [1, 4, 5, 6] [.int .u8 v3, .ptr 0 [], .ptr 1 [], .int .i64 v4] [.box (.arr 4 (.int .u64) v5) false, .box (.arr 256 .bool v6) false]) (loopKont C_yy19 (lf_yy19 c_yy21 l_3) 19 0 3 (loopBody Tryd.prog 19 3) K) =
      yy19_l3_b c_yy21 l_3 v3 v5 (fun (r0 : LI) (r1 : LB) => K (.exit 0) [.ptr 0 [], .ptr 1 []] [.box (.arr 4 (.int .u64) r0) false, .box (.arr 256 .bool r1) false]) v4 v6 := by kernel_rfl
theorem eq_yy19 {R : Type} (c_yy21 : LB → (LI → Option R) → Option R) (l_3 : T48 R) (v1 : Int) (v2 : Int) (K : S → List Ent → Option R) :
    runK C_yy19 raw (cf_yy19 c_yy21 l_3) (lf_yy19 c_yy21 l_3) 19 [.int .u8 v1, .int .u8 v2] [] K =
      yy19_b c_yy21 l_3 v1 v2 (fun (r0 : LI) => K (.arr 4 (.int .u64) r0) []) := by kernel_rfl
noncomputable def C_yy16 : Ctx := { P := Tryd.prog, mv := [], pu := [], glob := glob, live := fun n => look n [(3, [1, 2, 3, 4])], out := fun n => look n [(3, [2, 3])], frz := fun n => look n [(3, [])], bef := fun n => look n [] }
def cf_yy16 {R : Type} (c_yy14 : T2 R) (c_yy21 : LB → (LI → Option R) → Option R) (l_3 : T49 R) : CallF R := fun f av es K => iteH (decide (f = 75)) (sh75 c_yy14 av es K) (iteH (decide (f = 34)) (sh34 c_yy21 av es K) (none))
def sl_yy16_l3 {R : Type} (l_3 : T49 R) (vs : List S) (es : List Ent) (K : Out → List S → List Ent → Option R) : Option R :=
  match vs, es with
  | [.ptr 0 [], .ptr 1 [], .ptr 2 [], .int .i64 v2], [.box (.arr 4 (.int .u64) v3) false, .box (.arr 4 (.int .u64) v4) false, .box (.arr 256 .bool v5) false] => l_3 v3 v4 (fun (r0 : LI) (r1 : LB) => K (.exit 0) [.ptr 0 [], .ptr 1 []] [.box (.arr 4 (.int .u64) r0) false, .box (.arr 256 .bool r1) false]) v2 v5
  | _, _ => none
def lf_yy16 {R : Type} (c_yy14 : T2 R) (c_yy21 : LB → (LI → Option R) → Option R) (l_3 : T49 R) : LoopF R := fun m np id _ vs es K => iteH (decide (m = 18) && decide (np = 0)) (iteH (decide (id = 3)) (sl_yy16_l3 l_3 vs es K) (none)) none
theorem eq_yy16_l3 {R : Type} (c_yy14 : T2 R) (c_yy21 : LB → (LI → Option R) → Option R) (l_3 : T49 R) (v2 : Int) (v3 : LI) (v4 : LI) (v5 : LB) (K : Out → List S → List Ent → Option R) :
    acodeK C_yy16 raw (cf_yy16 c_yy14 c_yy21 l_3) (lf_yy16 c_yy14 c_yy21 l_3) (loopBody Tryd.prog 63 3) (placeSt 18 0 [1, 2, 3, 4] [.ptr 0 [], .ptr 1 [], .ptr 2 [], .int .i64 v2] [.box (.arr 4 (.int .u64) v3) false, .box (.arr 4 (.int .u64) v4) false, .box (.arr 256 .bool v5) false]) (loopKont C_yy16 (lf_yy16 c_yy14 c_yy21 l_3) 18 0 3 (loopBody Tryd.prog 63 3) K) =
      yy16_l3_b c_yy14 c_yy21 l_3 v3 v4 (fun (r0 : LI) (r1 : LB) => K (.exit 0) [.ptr 0 [], .ptr 1 []] [.box (.arr 4 (.int .u64) r0) false, .box (.arr 256 .bool r1) false]) v2 v5 := by kernel_rfl
theorem eq_yy16 {R : Type} (c_yy14 : T2 R) (c_yy21 : LB → (LI → Option R) → Option R) (l_3 : T49 R) (v1 : LI) (K : S → List Ent → Option R) :
    runK C_yy16 raw (cf_yy16 c_yy14 c_yy21 l_3) (lf_yy16 c_yy14 c_yy21 l_3) 63 [.arr 4 (.int .u64) v1] [] K =
      yy16_b c_yy14 c_yy21 l_3 v1 (fun (r0 : LI) => K (.arr 4 (.int .u64) r0) []) := by kernel_rfl
noncomputable def C_yy10 : Ctx := { P := Tryd.prog, mv := [], pu := [], glob := glob, live := fun n => look n [], out := fun n => look n [], frz := fun n => look n [], bef := fun n => look n [] }
def cf_yy10 {R : Type} (c_yy11 : T20 R) (c_yy19 : T50 R) (c_yy17 : LI → (LI → Option R) → Option R) (c_yy16 : LI → (LI → Option R) → Option R) : CallF R := fun f av es K => iteH (decide (f = 45)) (sh45 c_yy11 av es K) (iteH (decide (f = 19)) (sh19 c_yy19 av es K) (iteH (decide (f = 20)) (sh20 c_yy17 av es K) (iteH (decide (f = 63)) (sh63 c_yy16 av es K) (none))))
def lf_yy10 {R : Type} (c_yy11 : T20 R) (c_yy19 : T50 R) (c_yy17 : LI → (LI → Option R) → Option R) (c_yy16 : LI → (LI → Option R) → Option R) : LoopF R := fun m np id _ vs es K => none
theorem eq_yy10 {R : Type} (c_yy11 : T20 R) (c_yy19 : T50 R) (c_yy17 : LI → (LI → Option R) → Option R) (c_yy16 : LI → (LI → Option R) → Option R) (v1 : LI) (v2 : Int) (K : S → List Ent → Option R) :
    runK C_yy10 raw (cf_yy10 c_yy11 c_yy19 c_yy17 c_yy16) (lf_yy10 c_yy11 c_yy19 c_yy17 c_yy16) 47 [.ptr 0 []] [.box (.st [.sl (.int .u8) v1, .int .i64 v2]) false] K =
      yy10_b c_yy11 c_yy19 c_yy17 c_yy16 v1 v2 (fun (r0 : LI) (r1 : LI) (r2 : Int) => K (.arr 4 (.int .u64) r0) [.box (.st [.sl (.int .u8) r1, .int .i64 r2]) false]) := by kernel_rfl
noncomputable def C_yy24 : Ctx := { P := Tryd.prog, mv := [], pu := [2], glob := glob, live := fun n => look n [(4, [2, 3, 4, 5])], out := fun n => look n [(4, [2, 3])], frz := fun n => look n [(4, [])], bef := fun n => look n [] }
def cf_yy24 {R : Type} (c_yy31 : T12 R) (c_yy29 : T1 R) (c_yy26 : T0 R) (c_yy27 : T1 R) (l_4 : T51 R) : CallF R := fun f av es K => iteH (decide (f = 51)) (sh51 c_yy31 av es K) (iteH (decide (f = 33)) (sh33 c_yy29 av es K) (iteH (decide (f = 11)) (sh11 c_yy26 av es K) (iteH (decide (f = 22)) (sh22 c_yy27 av es K) (none))))
def sl_yy24_l4 {R : Type} (l_4 : T51 R) (vs : List S) (es : List Ent) (K : Out → List S → List Ent → Option R) : Option R :=
  match vs, es with
  | [.ptr 0 [], .own (.rose (.pair (.int .i64) (.pair (.arr 4 (.int .u64)) .unit))) 1, .own (.rose (.pair (.int .i64) (.pair (.arr 4 (.int .u64)) .unit))) 2, .int .i64 v3], [.box (.st [.int .i64 v4, .arr 4 (.int .u64) v5, .own (.rose (.pair (.int .i64) (.pair (.arr 4 (.int .u64)) .unit))) 3]) false, .buf (.rose (.pair (.int .i64) (.pair (.arr 4 (.int .u64)) .unit))) v6 false, .buf (.rose (.pair (.int .i64) (.pair (.arr 4 (.int .u64)) .unit))) v7 false, .buf (.rose (.pair (.int .i64) (.pair (.arr 4 (.int .u64)) .unit))) v8 false] => l_4 v4 v5 v7 v8 (fun (r0 : Int) (r1 : LI) (r2 : (List (Rose (Int × (LI × Unit))))) (r3 : (List (Rose (Int × (LI × Unit))))) => K .ret [.ptr 0 [], .own (.rose (.pair (.int .i64) (.pair (.arr 4 (.int .u64)) .unit))) 1] [.box (.st [.int .i64 r0, .arr 4 (.int .u64) r1, .sl (.rose (.pair (.int .i64) (.pair (.arr 4 (.int .u64)) .unit))) r2]) false, .buf (.rose (.pair (.int .i64) (.pair (.arr 4 (.int .u64)) .unit))) r3 false]) (fun (r0 : Int) (r1 : LI) (r2 : (List (Rose (Int × (LI × Unit))))) (r3 : (List (Rose (Int × (LI × Unit))))) => K (.exit 0) [.ptr 0 [], .own (.rose (.pair (.int .i64) (.pair (.arr 4 (.int .u64)) .unit))) 1] [.box (.st [.int .i64 r0, .arr 4 (.int .u64) r1, .own (.rose (.pair (.int .i64) (.pair (.arr 4 (.int .u64)) .unit))) 2]) false, .buf (.rose (.pair (.int .i64) (.pair (.arr 4 (.int .u64)) .unit))) r2 false, .buf (.rose (.pair (.int .i64) (.pair (.arr 4 (.int .u64)) .unit))) r3 false]) v3 v6
  | _, _ => none
def lf_yy24 {R : Type} (c_yy31 : T12 R) (c_yy29 : T1 R) (c_yy26 : T0 R) (c_yy27 : T1 R) (l_4 : T51 R) : LoopF R := fun m np id _ vs es K => iteH (decide (m = 47) && decide (np = 0)) (iteH (decide (id = 4)) (sl_yy24_l4 l_4 vs es K) (none)) none
theorem eq_yy24_l4 {R : Type} (c_yy31 : T12 R) (c_yy29 : T1 R) (c_yy26 : T0 R) (c_yy27 : T1 R) (l_4 : T51 R) (v3 : Int) (v4 : Int) (v5 : LI) (v6 : (List (Rose (Int × (LI × Unit))))) (v7 : (List (Rose (Int × (LI × Unit))))) (v8 : (List (Rose (Int × (LI × Unit))))) (K : Out → List S → List Ent → Option R) :
    acodeK C_yy24 raw (cf_yy24 c_yy31 c_yy29 c_yy26 c_yy27 l_4) (lf_yy24 c_yy31 c_yy29 c_yy26 c_yy27 l_4) (loopBody Tryd.prog 43 4) (placeSt 47 0 [2, 3, 4, 5] [.ptr 0 [], .own (.rose (.pair (.int .i64) (.pair (.arr 4 (.int .u64)) .unit))) 1, .own (.rose (.pair (.int .i64) (.pair (.arr 4 (.int .u64)) .unit))) 2, .int .i64 v3] [.box (.st [.int .i64 v4, .arr 4 (.int .u64) v5, .own (.rose (.pair (.int .i64) (.pair (.arr 4 (.int .u64)) .unit))) 3]) false, .buf (.rose (.pair (.int .i64) (.pair (.arr 4 (.int .u64)) .unit))) v6 false, .buf (.rose (.pair (.int .i64) (.pair (.arr 4 (.int .u64)) .unit))) v7 false, .buf (.rose (.pair (.int .i64) (.pair (.arr 4 (.int .u64)) .unit))) v8 false]) (loopKont C_yy24 (lf_yy24 c_yy31 c_yy29 c_yy26 c_yy27 l_4) 47 0 4 (loopBody Tryd.prog 43 4) K) =
      yy24_l4_b c_yy31 c_yy29 c_yy26 c_yy27 l_4 v4 v5 v7 v8 (fun (r0 : Int) (r1 : LI) (r2 : (List (Rose (Int × (LI × Unit))))) (r3 : (List (Rose (Int × (LI × Unit))))) => K .ret [.ptr 0 [], .own (.rose (.pair (.int .i64) (.pair (.arr 4 (.int .u64)) .unit))) 1] [.box (.st [.int .i64 r0, .arr 4 (.int .u64) r1, .sl (.rose (.pair (.int .i64) (.pair (.arr 4 (.int .u64)) .unit))) r2]) false, .buf (.rose (.pair (.int .i64) (.pair (.arr 4 (.int .u64)) .unit))) r3 false]) (fun (r0 : Int) (r1 : LI) (r2 : (List (Rose (Int × (LI × Unit))))) (r3 : (List (Rose (Int × (LI × Unit))))) => K (.exit 0) [.ptr 0 [], .own (.rose (.pair (.int .i64) (.pair (.arr 4 (.int .u64)) .unit))) 1] [.box (.st [.int .i64 r0, .arr 4 (.int .u64) r1, .own (.rose (.pair (.int .i64) (.pair (.arr 4 (.int .u64)) .unit))) 2]) false, .buf (.rose (.pair (.int .i64) (.pair (.arr 4 (.int .u64)) .unit))) r2 false, .buf (.rose (.pair (.int .i64) (.pair (.arr 4 (.int .u64)) .unit))) r3 false]) v3 v6 := by kernel_rfl
theorem eq_yy24 {R : Type} (c_yy31 : T12 R) (c_yy29 : T1 R) (c_yy26 : T0 R) (c_yy27 : T1 R) (l_4 : T51 R) (v1 : (List (Rose (Int × (LI × Unit))))) (K : S → List Ent → Option R) :
    runK C_yy24 raw (cf_yy24 c_yy31 c_yy29 c_yy26 c_yy27 l_4) (lf_yy24 c_yy31 c_yy29 c_yy26 c_yy27 l_4) 43 [.sl (.rose (.pair (.int .i64) (.pair (.arr 4 (.int .u64)) .unit))) v1] [] K =
      yy24_b c_yy31 c_yy29 c_yy26 c_yy27 l_4 v1 (fun (r0 : Int) (r1 : LI) (r2 : (List (Rose (Int × (LI × Unit))))) => K (.st [.int .i64 r0, .arr 4 (.int .u64) r1, .sl (.rose (.pair (.int .i64) (.pair (.arr 4 (.int .u64)) .unit))) r2]) []) := by kernel_rfl
noncomputable def C_yy13 : Ctx := { P := Tryd.prog, mv := [], pu := [4], glob := glob, live := fun n => look n [], out := fun n => look n [], frz := fun n => look n [], bef := fun n => look n [(13, [0, 0, 0, 4, 14, 31, 63, 127]), (16, [0, 0, 0, 4, 14, 31, 63, 127])] }
def cf_yy13 {R : Type} (c_yy11 : T20 R) (c_yy12 : T52 R) (c_yy10 : T53 R) (c_yy23 : T10 R) (c_yy29 : T1 R) (c_yy27 : T1 R) (c_yy13 : T21 R) (c_yy24 : T7 R) (c_yy22 : T7 R) (c_yy30 : T0 R) : CallF R := fun f av es K => iteH (decide (f = 45)) (sh45 c_yy11 av es K) (iteH (decide (f = 46)) (sh46 c_yy12 av es K) (iteH (decide (f = 47)) (sh47 c_yy10 av es K) (iteH (decide (f = 18)) (sh18 c_yy23 av es K) (iteH (decide (f = 33)) (sh33 c_yy29 av es K) (iteH (decide (f = 22)) (sh22 c_yy27 av es K) (iteH (decide (f = 29)) (sh29 c_yy13 av es K) (iteH (decide (f = 43)) (sh43 c_yy24 av es K) (iteH (decide (f = 35)) (sh35 c_yy22 av es K) (iteH (decide (f = 21)) (sh21 c_yy30 av es K) (none))))))))))
def lf_yy13 {R : Type} (c_yy11 : T20 R) (c_yy12 : T52 R) (c_yy10 : T53 R) (c_yy23 : T10 R) (c_yy29 : T1 R) (c_yy27 : T1 R) (c_yy13 : T21 R) (c_yy24 : T7 R) (c_yy22 : T7 R) (c_yy30 : T0 R) : LoopF R := fun m np id _ vs es K => none
theorem eq_yy13 {R : Type} (c_yy11 : T20 R) (c_yy12 : T52 R) (c_yy10 : T53 R) (c_yy23 : T10 R) (c_yy29 : T1 R) (c_yy27 : T1 R) (c_yy13 : T21 R) (c_yy24 : T7 R) (c_yy22 : T7 R) (c_yy30 : T0 R) (v1 : Int) (v2 : LI) (v3 : Int) (K : S → List Ent → Option R) :
    runK C_yy13 raw (cf_yy13 c_yy11 c_yy12 c_yy10 c_yy23 c_yy29 c_yy27 c_yy13 c_yy24 c_yy22 c_yy30) (lf_yy13 c_yy11 c_yy12 c_yy10 c_yy23 c_yy29 c_yy27 c_yy13 c_yy24 c_yy22 c_yy30) 29 [.ptr 0 [], .int .i64 v1] [.box (.st [.sl (.int .u8) v2, .int .i64 v3]) false] K =
      yy13_b c_yy11 c_yy12 c_yy10 c_yy23 c_yy29 c_yy27 c_yy13 c_yy24 c_yy22 c_yy30 v1 v2 v3 (fun (r0 : Int) (r1 : LI) (r2 : (List (Rose (Int × (LI × Unit))))) (r3 : LI) (r4 : Int) => K (.st [.int .i64 r0, .arr 4 (.int .u64) r1, .sl (.rose (.pair (.int .i64) (.pair (.arr 4 (.int .u64)) .unit))) r2]) [.box (.st [.sl (.int .u8) r3, .int .i64 r4]) false]) := by kernel_rfl
noncomputable def C_yy9 : Ctx := { P := Tryd.prog, mv := [], pu := [], glob := glob, live := fun n => look n [], out := fun n => look n [], frz := fun n => look n [], bef := fun n => look n [] }
def cf_yy9 {R : Type} (c_yy13 : T21 R) : CallF R := fun f av es K => iteH (decide (f = 29)) (sh29 c_yy13 av es K) (none)
def lf_yy9 {R : Type} (c_yy13 : T21 R) : LoopF R := fun m np id _ vs es K => none
theorem eq_yy9 {R : Type} (c_yy13 : T21 R) (v1 : LI) (v2 : Int) (K : S → List Ent → Option R) :
    runK C_yy9 raw (cf_yy9 c_yy13) (lf_yy9 c_yy13) 16 [.ptr 0 []] [.box (.st [.sl (.int .u8) v1, .int .i64 v2]) false] K =
      yy9_b c_yy13 v1 v2 (fun (r0 : Int) (r1 : LI) (r2 : (List (Rose (Int × (LI × Unit))))) (r3 : LI) (r4 : Int) => K (.st [.int .i64 r0, .arr 4 (.int .u64) r1, .sl (.rose (.pair (.int .i64) (.pair (.arr 4 (.int .u64)) .unit))) r2]) [.box (.st [.sl (.int .u8) r3, .int .i64 r4]) false]) := by kernel_rfl
noncomputable def C_yy5 : Ctx := { P := Tryd.prog, mv := [], pu := [], glob := glob, live := fun n => look n [(11, [3, 4, 5]), (19, [3, 4, 7])], out := fun n => look n [(11, [3, 4]), (19, [3, 4])], frz := fun n => look n [(11, []), (19, [])], bef := fun n => look n [] }
def cf_yy5 {R : Type} (c_yy6 : (Bool → Option R) → Option R) (c_yy8 : T22 R) (c_yy9 : T23 R) (c_yy40 : T13 R) (l_11 : T9 R) (l_19 : T9 R) : CallF R := fun f av es K => iteH (decide (f = 9)) (sh9 c_yy6 av es K) (iteH (decide (f = 15)) (sh15 c_yy8 av es K) (iteH (decide (f = 16)) (sh16 c_yy9 av es K) (iteH (decide (f = 12)) (sh12 c_yy40 av es K) (none))))
def sl_yy5_l11 {R : Type} (l_11 : T9 R) (vs : List S) (es : List Ent) (K : Out → List S → List Ent → Option R) : Option R :=
  match vs, es with
  | [.ptr 0 [], .str v10, .int .i64 v11], [.box (.st [.int .i64 v12, .arr 4 (.int .u64) v13, .sl (.rose (.pair (.int .i64) (.pair (.arr 4 (.int .u64)) .unit))) v14]) false] => l_11 v12 v13 v14 (fun (r0 : LI) (r1 : Int) (r2 : LI) (r3 : (List (Rose (Int × (LI × Unit))))) => K (.exit 1) [.ptr 0 [], .str r0] [.box (.st [.int .i64 r1, .arr 4 (.int .u64) r2, .sl (.rose (.pair (.int .i64) (.pair (.arr 4 (.int .u64)) .unit))) r3]) false]) v10 v11
  | _, _ => none
def sl_yy5_l19 {R : Type} (l_19 : T9 R) (vs : List S) (es : List Ent) (K : Out → List S → List Ent → Option R) : Option R :=
  match vs, es with
  | [.ptr 0 [], .str v23, .int .i64 v24], [.box (.st [.int .i64 v25, .arr 4 (.int .u64) v26, .sl (.rose (.pair (.int .i64) (.pair (.arr 4 (.int .u64)) .unit))) v27]) false] => l_19 v25 v26 v27 (fun (r0 : LI) (r1 : Int) (r2 : LI) (r3 : (List (Rose (Int × (LI × Unit))))) => K (.exit 3) [.ptr 0 [], .str r0] [.box (.st [.int .i64 r1, .arr 4 (.int .u64) r2, .sl (.rose (.pair (.int .i64) (.pair (.arr 4 (.int .u64)) .unit))) r3]) false]) v23 v24
  | _, _ => none
def lf_yy5 {R : Type} (c_yy6 : (Bool → Option R) → Option R) (c_yy8 : T22 R) (c_yy9 : T23 R) (c_yy40 : T13 R) (l_11 : T9 R) (l_19 : T9 R) : LoopF R := fun m np id _ vs es K => iteH (decide (m = 107) && decide (np = 0)) (iteH (decide (id = 11)) (sl_yy5_l11 l_11 vs es K) (iteH (decide (id = 19)) (sl_yy5_l19 l_19 vs es K) (none))) none
theorem eq_yy5_l11 {R : Type} (c_yy6 : (Bool → Option R) → Option R) (c_yy8 : T22 R) (c_yy9 : T23 R) (c_yy40 : T13 R) (l_11 : T9 R) (l_19 : T9 R) (v10 : LI) (v11 : Int) (v12 : Int) (v13 : LI) (v14 : (List (Rose (Int × (LI × Unit))))) (K : Out → List S → List Ent → Option R) :
    acodeK C_yy5 raw (cf_yy5 c_yy6 c_yy8 c_yy9 c_yy40 l_11 l_19) (lf_yy5 c_yy6 c_yy8 c_yy9 c_yy40 l_11 l_19) (loopBody Tryd.prog 8 11) (placeSt 107 0 [3, 4, 5] [.ptr 0 [], .str v10, .int .i64 v11] [.box (.st [.int .i64 v12, .arr 4 (.int .u64) v13, .sl (.rose (.pair (.int .i64) (.pair (.arr 4 (.int .u64)) .unit))) v14]) false]) (loopKont C_yy5 (lf_yy5 c_yy6 c_yy8 c_yy9 c_yy40 l_11 l_19) 107 0 11 (loopBody Tryd.prog 8 11) K) =
      yy5_l11_b c_yy6 c_yy8 c_yy9 c_yy40 l_11 l_19 v12 v13 v14 (fun (r0 : LI) (r1 : Int) (r2 : LI) (r3 : (List (Rose (Int × (LI × Unit))))) => K (.exit 1) [.ptr 0 [], .str r0] [.box (.st [.int .i64 r1, .arr 4 (.int .u64) r2, .sl (.rose (.pair (.int .i64) (.pair (.arr 4 (.int .u64)) .unit))) r3]) false]) v10 v11 := by kernel_rfl
theorem eq_yy5_l19 {R : Type} (c_yy6 : (Bool → Option R) → Option R) (c_yy8 : T22 R) (c_yy9 : T23 R) (c_yy40 : T13 R) (l_11 : T9 R) (l_19 : T9 R) (v23 : LI) (v24 : Int) (v25 : Int) (v26 : LI) (v27 : (List (Rose (Int × (LI × Unit))))) (K : Out → List S → List Ent → Option R) :
    acodeK C_yy5 raw (cf_yy5 c_yy6 c_yy8 c_yy9 c_yy40 l_11 l_19) (lf_yy5 c_yy6 c_yy8 c_yy9 c_yy40 l_11 l_19) (loopBody Tryd.prog 8 19) (placeSt 107 0 [3, 4, 7] [.ptr 0 [], .str v23, .int .i64 v24] [.box (.st [.int .i64 v25, .arr 4 (.int .u64) v26, .sl (.rose (.pair (.int .i64) (.pair (.arr 4 (.int .u64)) .unit))) v27]) false]) (loopKont C_yy5 (lf_yy5 c_yy6 c_yy8 c_yy9 c_yy40 l_11 l_19) 107 0 19 (loopBody Tryd.prog 8 19) K) =
      yy5_l19_b c_yy6 c_yy8 c_yy9 c_yy40 l_11 l_19 v25 v26 v27 (fun (r0 : LI) (r1 : Int) (r2 : LI) (r3 : (List (Rose (Int × (LI × Unit))))) => K (.exit 3) [.ptr 0 [], .str r0] [.box (.st [.int .i64 r1, .arr 4 (.int .u64) r2, .sl (.rose (.pair (.int .i64) (.pair (.arr 4 (.int .u64)) .unit))) r3]) false]) v23 v24 := by kernel_rfl
theorem eq_yy5 {R : Type} (c_yy6 : (Bool → Option R) → Option R) (c_yy8 : T22 R) (c_yy9 : T23 R) (c_yy40 : T13 R) (l_11 : T9 R) (l_19 : T9 R) (v1 : LI) (K : S → List Ent → Option R) :
    runK C_yy5 raw (cf_yy5 c_yy6 c_yy8 c_yy9 c_yy40 l_11 l_19) (lf_yy5 c_yy6 c_yy8 c_yy9 c_yy40 l_11 l_19) 8 [.sl (.int .u8) v1] [] K =
      yy5_b c_yy6 c_yy8 c_yy9 c_yy40 l_11 l_19 v1 (fun (r0 : Bool) => K (.bool r0) []) := by kernel_rfl
end
end Go.Ab.T
