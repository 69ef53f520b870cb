/- ImaTE: a part of the proofs of this seat's statements. -/
import Derived.Test.YtdoaclnnkeonkaaDoorImaTB
namespace Go.Ab.T
open Go Go.Ab Go.Proofs
set_option maxRecDepth 100000
set_option linter.unusedVariables false
noncomputable section
noncomputable def C_yy36 : Ctx := { P := Tryd.prog, mv := [], pu := [], glob := glob, live := fun n => look n [(5, [1, 3, 4, 5, 6]), (11, [1, 3, 7]), (18, [1, 3, 7, 9])], out := fun n => look n [(5, [1, 3, 4, 5]), (11, [3]), (18, [1, 3, 7])], frz := fun n => look n [(5, []), (11, []), (18, [])], bef := fun n => look n [(1, [0, 1, 3, 7, 0, 16, 48, 112, 255, 511]), (7, [0, 1, 3, 7, 15, 7, 63, 127, 7, 7, 775, 1799, 4095, 8191])] }
def cf_yy36 {R : Type} (c_yy26 : T1 R) (l_5 : T47 R) (l_11 : T4 R) (l_18 : T48 R) : CallF R := fun f av es K => iteH (decide (f = 39)) (sh39 c_yy26 av es K) (none)
def sl_yy36_l5 {R : Type} (l_5 : T47 R) (vs : List S) (es : List Ent) (K : Out → List S → List Ent → Option R) : Option R :=
  match vs, es with
  | [.ptr 0 [], .own (.int .u8) 1, .own (.int .u8) 2, .int .i64 v5, .int .i64 v6], [.box (.st [.arr 256 (.int .u8) v7, .sl (.slice (.int .i64)) v8, .sl .bool v9]) false, .buf (.int .u8) v10 false, .buf (.int .u8) v11 false] => l_5 v7 v8 v9 v10 (fun (r0 : Int) (r1 : LI) (r2 : LL) (r3 : LB) (r4 : LI) (r5 : LI) => K (.exit 0) [.ptr 0 [], .own (.int .u8) 1, .own (.int .u8) 2, .int .i64 r0] [.box (.st [.arr 256 (.int .u8) r1, .sl (.slice (.int .i64)) r2, .sl .bool r3]) false, .buf (.int .u8) r4 false, .buf (.int .u8) r5 false]) v5 v6 v11
  | _, _ => none
def sl_yy36_l11 {R : Type} (l_11 : T4 R) (vs : List S) (es : List Ent) (K : Out → List S → List Ent → Option R) : Option R :=
  match vs, es with
  | [.ptr 0 [], .own (.int .u8) 1, .int .i64 v20], [.box (.st [.arr 256 (.int .u8) v21, .sl (.slice (.int .i64)) v22, .sl .bool v23]) false, .buf (.int .u8) v24 false] => l_11 (fun (r0 : LI) => K (.exit 2) [.own (.int .u8) 0] [.buf (.int .u8) r0 false]) v20 v21 v22 v23 v24
  | _, _ => none
def sl_yy36_l18 {R : Type} (l_18 : T48 R) (vs : List S) (es : List Ent) (K : Out → List S → List Ent → Option R) : Option R :=
  match vs, es with
  | [.ptr 0 [], .own (.int .u8) 1, .int .i64 v26, .int .i64 v27], [.box (.st [.arr 256 (.int .u8) v28, .sl (.slice (.int .i64)) v29, .sl .bool v30]) false, .buf (.int .u8) v31 false] => l_18 v26 v28 v29 v30 (fun (r0 : Int) (r1 : LI) (r2 : LL) (r3 : LB) (r4 : LI) => K (.exit 4) [.ptr 0 [], .own (.int .u8) 1, .int .i64 r0] [.box (.st [.arr 256 (.int .u8) r1, .sl (.slice (.int .i64)) r2, .sl .bool r3]) false, .buf (.int .u8) r4 false]) v27 v31
  | _, _ => none
def lf_yy36 {R : Type} (c_yy26 : T1 R) (l_5 : T47 R) (l_11 : T4 R) (l_18 : T48 R) : LoopF R := fun m np id _ vs es K => iteH (decide (m = 95) && decide (np = 0)) (iteH (decide (id = 5)) (sl_yy36_l5 l_5 vs es K) (iteH (decide (id = 11)) (sl_yy36_l11 l_11 vs es K) (iteH (decide (id = 18)) (sl_yy36_l18 l_18 vs es K) (none)))) none
theorem eq_yy36_l5 {R : Type} (c_yy26 : T1 R) (l_5 : T47 R) (l_11 : T4 R) (l_18 : T48 R) (v5 : Int) (v6 : Int) (v7 : LI) (v8 : LL) (v9 : LB) (v10 : LI) (v11 : LI) (K : Out → List S → List Ent → Option R) :
    acodeK C_yy36 raw (cf_yy36 c_yy26 l_5 l_11 l_18) (lf_yy36 c_yy26 l_5 l_11 l_18) (loopBody Tryd.prog 35 5) (placeSt 95 0 [1, 3, 4, 5, 6] [.ptr 0 [], .own (.int .u8) 1, .own (.int .u8) 2, .int .i64 v5, .int .i64 v6] [.box (.st [.arr 256 (.int .u8) v7, .sl (.slice (.int .i64)) v8, .sl .bool v9]) false, .buf (.int .u8) v10 false, .buf (.int .u8) v11 false]) (loopKont C_yy36 (lf_yy36 c_yy26 l_5 l_11 l_18) 95 0 5 (loopBody Tryd.prog 35 5) K) =
      yy36_l5_b c_yy26 l_5 l_11 l_18 v7 v8 v9 v10 (fun (r0 : Int) (r1 : LI) (r2 : LL) (r3 : LB) (r4 : LI) (r5 : LI) => K (.exit 0) [.ptr 0 [], .own (.int .u8) 1, .own (.int .u8) 2, .int .i64 r0] [.box (.st [.arr 256 (.int .u8) r1, .sl (.slice (.int .i64)) r2, .sl .bool r3]) false, .buf (.int .u8) r4 false, .buf (.int .u8) r5 false]) v5 v6 v11 := by kernel_rfl
theorem eq_yy36_l11 {R : Type} (c_yy26 : T1 R) (l_5 : T47 R) (l_11 : T4 R) (l_18 : T48 R) (v20 : Int) (v21 : LI) (v22 : LL) (v23 : LB) (v24 : LI) (K : Out → List S → List Ent → Option R) :
    acodeK C_yy36 raw (cf_yy36 c_yy26 l_5 l_11 l_18) (lf_yy36 c_yy26 l_5 l_11 l_18) (loopBody Tryd.prog 35 11) (placeSt 95 0 [1, 3, 7] [.ptr 0 [], .own (.int .u8) 1, .int .i64 v20] [.box (.st [.arr 256 (.int .u8) v21, .sl (.slice (.int .i64)) v22, .sl .bool v23]) false, .buf (.int .u8) v24 false]) (loopKont C_yy36 (lf_yy36 c_yy26 l_5 l_11 l_18) 95 0 11 (loopBody Tryd.prog 35 11) K) =
      yy36_l11_b c_yy26 l_5 l_11 l_18 (fun (r0 : LI) => K (.exit 2) [.own (.int .u8) 0] [.buf (.int .u8) r0 false]) v20 v21 v22 v23 v24 := by kernel_rfl
theorem eq_yy36_l18 {R : Type} (c_yy26 : T1 R) (l_5 : T47 R) (l_11 : T4 R) (l_18 : T48 R) (v26 : Int) (v27 : Int) (v28 : LI) (v29 : LL) (v30 : LB) (v31 : LI) (K : Out → List S → List Ent → Option R) :
    acodeK C_yy36 raw (cf_yy36 c_yy26 l_5 l_11 l_18) (lf_yy36 c_yy26 l_5 l_11 l_18) (loopBody Tryd.prog 35 18) (placeSt 95 0 [1, 3, 7, 9] [.ptr 0 [], .own (.int .u8) 1, .int .i64 v26, .int .i64 v27] [.box (.st [.arr 256 (.int .u8) v28, .sl (.slice (.int .i64)) v29, .sl .bool v30]) false, .buf (.int .u8) v31 false]) (loopKont C_yy36 (lf_yy36 c_yy26 l_5 l_11 l_18) 95 0 18 (loopBody Tryd.prog 35 18) K) =
      yy36_l18_b c_yy26 l_5 l_11 l_18 v26 v28 v29 v30 (fun (r0 : Int) (r1 : LI) (r2 : LL) (r3 : LB) (r4 : LI) => K (.exit 4) [.ptr 0 [], .own (.int .u8) 1, .int .i64 r0] [.box (.st [.arr 256 (.int .u8) r1, .sl (.slice (.int .i64)) r2, .sl .bool r3]) false, .buf (.int .u8) r4 false]) v27 v31 := by kernel_rfl
theorem eq_yy36 {R : Type} (c_yy26 : T1 R) (l_5 : T47 R) (l_11 : T4 R) (l_18 : T48 R) (v1 : LI) (v2 : LL) (v3 : LB) (K : S → List Ent → Option R) :
    runK C_yy36 raw (cf_yy36 c_yy26 l_5 l_11 l_18) (lf_yy36 c_yy26 l_5 l_11 l_18) 35 [.st [.arr 256 (.int .u8) v1, .sl (.slice (.int .i64)) v2, .sl .bool v3]] [] K =
      yy36_b c_yy26 l_5 l_11 l_18 v1 v2 v3 (fun (r0 : LI) => K (.own (.int .u8) 0) [.buf (.int .u8) r0 false]) := by kernel_rfl
noncomputable def C_yy31 : Ctx := { P := Tryd.prog, mv := [], pu := [], glob := glob, live := fun n => look n [], out := fun n => look n [], frz := fun n => look n [], bef := fun n => look n [] }
def cf_yy31 {R : Type} (c_yy27 : T0 R) (c_yy36 : T2 R) : CallF R := fun f av es K => iteH (decide (f = 26)) (sh26 c_yy27 av es K) (iteH (decide (f = 35)) (sh35 c_yy36 av es K) (none))
def lf_yy31 {R : Type} (c_yy27 : T0 R) (c_yy36 : T2 R) : LoopF R := fun m np id _ vs es K => none
theorem eq_yy31 {R : Type} (c_yy27 : T0 R) (c_yy36 : T2 R) (v1 : LI) (v2 : LL) (v3 : LB) (K : S → List Ent → Option R) :
    runK C_yy31 raw (cf_yy31 c_yy27 c_yy36) (lf_yy31 c_yy27 c_yy36) 14 [.st [.arr 256 (.int .u8) v1, .sl (.slice (.int .i64)) v2, .sl .bool v3]] [] K =
      yy31_b c_yy27 c_yy36 v1 v2 v3 (fun (r0 : Int) (r1 : LI) => K (.tup [.own (.int .u8) 0, .int .i64 r0]) [.buf (.int .u8) r1 false]) := by kernel_rfl
noncomputable def C_yy34 : Ctx := { P := Tryd.prog, mv := [], pu := [], glob := glob, live := fun n => look n [], out := fun n => look n [], frz := fun n => look n [], bef := fun n => look n [] }
def cf_yy34 {R : Type} (c_yy31 : T3 R) : CallF R := fun f av es K => iteH (decide (f = 14)) (sh14 c_yy31 av es K) (none)
def lf_yy34 {R : Type} (c_yy31 : T3 R) : LoopF R := fun m np id _ vs es K => none
theorem eq_yy34 {R : Type} (c_yy31 : T3 R) (v1 : LI) (v2 : LL) (v3 : LB) (K : S → List Ent → Option R) :
    runK C_yy34 raw (cf_yy34 c_yy31) (lf_yy34 c_yy31) 16 [.st [.arr 256 (.int .u8) v1, .sl (.slice (.int .i64)) v2, .sl .bool v3]] [] K =
      yy34_b c_yy31 v1 v2 v3 (fun (r0 : Int) => K (.int .i64 r0) []) := by kernel_rfl
noncomputable def C_yy8 : Ctx := { P := Tryd.prog, mv := [], pu := [], glob := glob, live := fun n => look n [], out := fun n => look n [], frz := fun n => look n [], bef := fun n => look n [(10, [0, 0, 3, 7, 15, 31, 15, 79, 255, 511, 1023, 2047, 2047, 8191, 16383, 32767, 65535, 131071, 262143, 524287, 1048575, 2097151, 1048575, 5242879, 16777215, 33554431, 67108863, 134217727, 268435455, 134217727, 1073741823, 2147483647, 4294967295, 8589934591, 17179869183, 34359738367, 17179869183, 85899345919, 274877906943, 549755813887, 1099511627775])] }
def cf_yy8 {R : Type} (c_yy9 : (Bool → Option R) → Option R) (c_yy7 : T76 R) (c_yy23 : T77 R) (c_yy28 : T7 R) (c_yy0 : T3 R) (c_yy31 : T3 R) (c_yy1 : T1 R) (c_yy34 : T1 R) : CallF R := fun f av es K => iteH (decide (f = 9)) (sh9 c_yy9 av es K) (iteH (decide (f = 10)) (sh10 c_yy7 av es K) (iteH (decide (f = 12)) (sh12 c_yy23 av es K) (iteH (decide (f = 11)) (sh11 c_yy28 av es K) (iteH (decide (f = 13)) (sh13 c_yy0 av es K) (iteH (decide (f = 14)) (sh14 c_yy31 av es K) (iteH (decide (f = 15)) (sh15 c_yy1 av es K) (iteH (decide (f = 16)) (sh16 c_yy34 av es K) (none))))))))
def lf_yy8 {R : Type} (c_yy9 : (Bool → Option R) → Option R) (c_yy7 : T76 R) (c_yy23 : T77 R) (c_yy28 : T7 R) (c_yy0 : T3 R) (c_yy31 : T3 R) (c_yy1 : T1 R) (c_yy34 : T1 R) : LoopF R := fun m np id _ vs es K => none
theorem eq_yy8 {R : Type} (c_yy9 : (Bool → Option R) → Option R) (c_yy7 : T76 R) (c_yy23 : T77 R) (c_yy28 : T7 R) (c_yy0 : T3 R) (c_yy31 : T3 R) (c_yy1 : T1 R) (c_yy34 : T1 R) (v1 : LI) (v2 : LL) (v3 : LB) (v4 : Int) (v5 : Int) (v6 : LI) (K : S → List Ent → Option R) :
    runK C_yy8 raw (cf_yy8 c_yy9 c_yy7 c_yy23 c_yy28 c_yy0 c_yy31 c_yy1 c_yy34) (lf_yy8 c_yy9 c_yy7 c_yy23 c_yy28 c_yy0 c_yy31 c_yy1 c_yy34) 3 [.st [.arr 256 (.int .u8) v1, .sl (.slice (.int .i64)) v2, .sl .bool v3], .int .u8 v4, .int .u8 v5, .sl (.int .u8) v6] [] K =
      yy8_b c_yy9 c_yy7 c_yy23 c_yy28 c_yy0 c_yy31 c_yy1 c_yy34 v1 v2 v3 v4 v5 v6 (fun (r0 : Bool) => K (.bool r0) []) := by kernel_rfl
end
end Go.Ab.T
