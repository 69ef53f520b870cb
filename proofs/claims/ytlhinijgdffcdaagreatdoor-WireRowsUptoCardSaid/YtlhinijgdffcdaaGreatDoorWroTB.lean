/- WroTB: a part of the proofs of this seat's statements. -/
import Derived.Test.YtlhinijgdffcdaaGreatDoorWroTA
namespace Go.Ab.T
open Go Go.Ab Go.Proofs
set_option maxRecDepth 100000
set_option linter.unusedVariables false
noncomputable section
variable {R : Type}
abbrev mkC (a b : List Nat) (c d e g : List (Nat × List Nat)) : Ctx := { P := Tryz.prog, mv := a, pu := b, glob := glob, live := fun n => look n c, out := fun n => look n d, frz := fun n => look n e, bef := fun n => look n g }
def C_yy73 : Ctx := mkC [] [2] [] [] [] []
def cf_yy73 : CallF R := fun f av es K => none
def lf_yy73 : LoopF R := fun m np id _ vs es K => none
theorem eq_yy73 (v1 : Int) (v2 v3 v4 : LI) (v5 : Int) (v6 : LI) (v7 : Int) (v8 : LZ1) (K : KS R) :
  runK C_yy73 raw (cf_yy73) (lf_yy73) 24 [.st [.int .i64 v1, .str v2, .str v3, .str v4, .int .i64 v5, .sl (.nw .u8) v6, .int .i64 v7, .sl tZ1 v8]] [] K =
   yy73_b v1 v2 v3 v4 v5 v6 v7 v8 (fun r0 r1 r2 r3 r4 r5 r6 r7 => K (.st [.int .i64 r0, .str r1, .str r2, .str r3, .int .i64 r4, .sl (.nw .u8) r5, .int .i64 r6, .sl tZ1 r7]) []) := by kernel_rfl
def C_yy67 : Ctx := mkC [] [] [] [] [] []
def cf_yy67 : CallF R := fun f av es K => none
def lf_yy67 : LoopF R := fun m np id _ vs es K => none
theorem eq_yy67 (v1 : Int) (v2 v3 v4 : LI) (v5 : Int) (v6 : LI) (v7 : Int) (v8 : LZ1) (K : KS R) :
  runK C_yy67 raw (cf_yy67) (lf_yy67) 23 [.st [.int .i64 v1, .str v2, .str v3, .str v4, .int .i64 v5, .sl (.nw .u8) v6, .int .i64 v7, .sl tZ1 v8]] [] K =
   yy67_b v1 v2 v3 v4 v5 v6 v7 v8 (fun r0 => K (.bool r0) []) := by kernel_rfl
def C_yy66 : Ctx := mkC [] [] [] [] [] []
def cf_yy66 : CallF R := fun f av es K => none
def lf_yy66 : LoopF R := fun m np id _ vs es K => none
theorem eq_yy66 (v1 : Int) (K : KS R) :
  runK C_yy66 raw (cf_yy66) (lf_yy66) 25 [.int .i64 v1] [] K =
   yy66_b v1 (fun r0 => K (.err r0) []) := by kernel_rfl
def C_yy2 : Ctx := mkC [] [] [(4, [1, 7, 18, 19])] [(4, [7])] [(4, [])] []
def cf_yy2 (l_4 : T63 R) : CallF R := fun f av es K => none
noncomputable def sl_yy2_l4 (l_4 : T63 R) (vs : List S) (es : List Ent) (K : KO R) : Option R :=
 match vs, es with
 | [.int .u64 v4, .own (.int .u8) 0, .int .i64 v5, .int .i64 v6], [.buf (.int .u8) v7 false] => l_4 v5 (fun r0 => K (.exit 0) [.own (.int .u8) 0] [.buf (.int .u8) r0 false]) v4 v6 v7
 | _, _ => none
def lf_yy2 (l_4 : T63 R) : LoopF R := fun m np id _ vs es K => iteH (decide (m = 30) && decide (np = 0)) (iteH (decide (id = 4)) (sl_yy2_l4 l_4 vs es K) (none)) none
theorem eq_yy2_l4 (l_4 : T63 R) (v4 v5 v6 : Int) (v7 : LI) (K : KO R) :
  acodeK C_yy2 raw (cf_yy2 l_4) (lf_yy2 l_4) (loopBody Tryz.prog 27 4) (placeSt 30 0 [1, 7, 18, 19] [.int .u64 v4, .own (.int .u8) 0, .int .i64 v5, .int .i64 v6] [.buf (.int .u8) v7 false]) (loopKont C_yy2 (lf_yy2 l_4) 30 0 4 (loopBody Tryz.prog 27 4) K) =
   yy2_l4_b l_4 v5 (fun r0 => K (.exit 0) [.own (.int .u8) 0] [.buf (.int .u8) r0 false]) v4 v6 v7 := by kernel_rfl
theorem eq_yy2 (l_4 : T63 R) (v1 : LI) (v2 v3 : Int) (K : KS R) :
  runK C_yy2 raw (cf_yy2 l_4) (lf_yy2 l_4) 27 [.sl (.int .u8) v1, .int .u64 v2, .int .i64 v3] [] K =
   yy2_b l_4 v1 v2 v3 (fun r0 => K (.own (.int .u8) 0) [.buf (.int .u8) r0 false]) := by kernel_rfl
def C_yy75 : Ctx := mkC [] [] [] [] [] []
def cf_yy75 (c66 : Int → (Err → Option R) → Option R) (c2 : T39 R) : CallF R := fun f av es K => iteH (decide (f = 25)) (sh25 c66 av es K) (iteH (decide (f = 27)) (sh27 c2 av es K) (none))
def lf_yy75 : LoopF R := fun m np id _ vs es K => none
theorem eq_yy75 (c66 : Int → (Err → Option R) → Option R) (c2 : T39 R) (v1 v2 v3 : Int) (v4 : Err) (v5 : LI) (K : KS R) :
  runK C_yy75 raw (cf_yy75 c66 c2) (lf_yy75) 17 [.ptr 0 [], .int .i64 v1, .int .i64 v2, .int .i64 v3] [.box (.st [.own (.int .u8) 1, .err v4]) false, .buf (.int .u8) v5 false] K =
   yy75_b c66 c2 v1 v2 v3 v4 v5 (fun r0 r1 => K (.tup []) [.box (.st [.own (.int .u8) 1, .err r0]) false, .buf (.int .u8) r1 false]) := by kernel_rfl
def C_yy5 : Ctx := mkC [] [] [] [] [] []
def cf_yy5 (c2 : T39 R) : CallF R := fun f av es K => iteH (decide (f = 27)) (sh27 c2 av es K) (none)
def lf_yy5 : LoopF R := fun m np id _ vs es K => none
theorem eq_yy5 (c2 : T39 R) (v1 v2 : LI) (K : KS R) :
  runK C_yy5 raw (cf_yy5 c2) (lf_yy5) 28 [.sl (.int .u8) v1, .sl (.int .u8) v2] [] K =
   yy5_b c2 v1 v2 (fun r0 => K (.own (.int .u8) 0) [.buf (.int .u8) r0 false]) := by kernel_rfl
def C_yy76 : Ctx := mkC [] [] [] [] [] []
def cf_yy76 (c66 : Int → (Err → Option R) → Option R) (c5 : T15 R) : CallF R := fun f av es K => iteH (decide (f = 25)) (sh25 c66 av es K) (iteH (decide (f = 28)) (sh28 c5 av es K) (none))
def lf_yy76 : LoopF R := fun m np id _ vs es K => none
theorem eq_yy76 (c66 : Int → (Err → Option R) → Option R) (c5 : T15 R) (v1 : LI) (v2 : Err) (v3 : LI) (K : KS R) :
  runK C_yy76 raw (cf_yy76 c66 c5) (lf_yy76) 18 [.ptr 0 [], .str v1] [.box (.st [.own (.int .u8) 1, .err v2]) false, .buf (.int .u8) v3 false] K =
   yy76_b c66 c5 v1 v2 v3 (fun r0 r1 => K (.tup []) [.box (.st [.own (.int .u8) 1, .err r0]) false, .buf (.int .u8) r1 false]) := by kernel_rfl
def C_yy74 : Ctx := mkC [] [] [(25, [0, 107, 108, 109])] [(25, [])] [(25, [])] []
def cf_yy74 (c73 : T48 R) (c67 : T49 R) (c66 : Int → (Err → Option R) → Option R) (c75 : T16 R) (c76 : T17 R) (c74 : T18 R) (l_25 : T64 R) : CallF R := fun f av es K => iteH (decide (f = 24)) (sh24 c73 av es K) (iteH (decide (f = 23)) (sh23 c67 av es K) (iteH (decide (f = 25)) (sh25 c66 av es K) (iteH (decide (f = 17)) (sh17 c75 av es K) (iteH (decide (f = 18)) (sh18 c76 av es K) (iteH (decide (f = 14)) (sh14 c74 av es K) (none))))))
noncomputable def sl_yy74_l25 (l_25 : T64 R) (vs : List S) (es : List Ent) (K : KO R) : Option R :=
 match vs, es with
 | [.ptr 0 [], .sl t1 v40, .int .i64 v41, .int .i64 v42], [.box (.st [.own (.int .u8) 1, .err v43]) false, .buf (.int .u8) v44 false] => if q1 : t1 = tZ1 then l_25 (castL q1 v40) v41 (fun r0 r1 => K (.exit 8) [] [.box (.st [.own (.int .u8) 1, .err r0]) false, .buf (.int .u8) r1 false]) v42 v43 v44 else none
 | _, _ => none
def lf_yy74 (l_25 : T64 R) : LoopF R := fun m np id _ vs es K => iteH (decide (m = 117) && decide (np = 1)) (iteH (decide (id = 25)) (sl_yy74_l25 l_25 vs es K) (none)) none
theorem eq_yy74_l25 (c73 : T48 R) (c67 : T49 R) (c66 : Int → (Err → Option R) → Option R) (c75 : T16 R) (c76 : T17 R) (c74 : T18 R) (l_25 : T64 R) (v40 : LZ1) (v41 v42 : Int) (v43 : Err) (v44 : LI) (K : KO R) :
  acodeK C_yy74 raw (cf_yy74 c73 c67 c66 c75 c76 c74 l_25) (lf_yy74 l_25) (loopBody Tryz.prog 14 25) (placeSt 117 1 [0, 107, 108, 109] [.ptr 0 [], .sl tZ1 v40, .int .i64 v41, .int .i64 v42] [.box (.st [.own (.int .u8) 1, .err v43]) false, .buf (.int .u8) v44 false]) (loopKont C_yy74 (lf_yy74 l_25) 117 1 25 (loopBody Tryz.prog 14 25) K) =
   yy74_l25_b c73 c67 c66 c75 c76 c74 l_25 v40 v41 (fun r0 r1 => K (.exit 8) [] [.box (.st [.own (.int .u8) 1, .err r0]) false, .buf (.int .u8) r1 false]) v42 v43 v44 := by kernel_rfl
theorem eq_yy74 (c73 : T48 R) (c67 : T49 R) (c66 : Int → (Err → Option R) → Option R) (c75 : T16 R) (c76 : T17 R) (c74 : T18 R) (l_25 : T64 R) (v1 : Int) (v2 v3 v4 : LI) (v5 : Int) (v6 : LI) (v7 : Int) (v8 : LZ1) (v9 : Bool) (v10 : Err) (v11 : LI) (K : KS R) :
  runK C_yy74 raw (cf_yy74 c73 c67 c66 c75 c76 c74 l_25) (lf_yy74 l_25) 14 [.ptr 0 [], .st [.int .i64 v1, .str v2, .str v3, .str v4, .int .i64 v5, .sl (.nw .u8) v6, .int .i64 v7, .sl tZ1 v8], .bool v9] [.box (.st [.own (.int .u8) 1, .err v10]) false, .buf (.int .u8) v11 false] K =
   yy74_b c73 c67 c66 c75 c76 c74 l_25 v1 v2 v3 v4 v5 v6 v7 v8 v9 v10 v11 (fun r0 r1 => K (.tup []) [.box (.st [.own (.int .u8) 1, .err r0]) false, .buf (.int .u8) r1 false]) := by kernel_rfl
def C_yy68 : Ctx := mkC [] [] [] [] [] []
def cf_yy68 : CallF R := fun f av es K => iteH (decide (f = 26)) (sh26 av es K) (none)
def lf_yy68 : LoopF R := fun m np id _ vs es K => none
theorem eq_yy68 (v1 : Err) (K : KS R) :
  runK C_yy68 raw (cf_yy68) (lf_yy68) 15 [.err v1] [] K =
   yy68_b v1 (fun r0 => K (.int .i64 r0) []) := by kernel_rfl
def C_yy62 : Ctx := mkC [] [] [] [] [] [(5, [0, 0, 3, 0, 8, 24, 56, 127, 255, 511])]
def cf_yy62 (c74 : T18 R) (c68 : Err → (Int → Option R) → Option R) : CallF R := fun f av es K => iteH (decide (f = 14)) (sh14 c74 av es K) (iteH (decide (f = 15)) (sh15 c68 av es K) (none))
def lf_yy62 : LoopF R := fun m np id _ vs es K => none
theorem eq_yy62 (c74 : T18 R) (c68 : Err → (Int → Option R) → Option R) (v1 : LI) (v2 : Int) (v3 v4 v5 : LI) (v6 : Int) (v7 : LI) (v8 : Int) (v9 : LZ1) (K : KS R) :
  runK C_yy62 raw (cf_yy62 c74 c68) (lf_yy62) 6 [.sl (.int .u8) v1, .st [.int .i64 v2, .str v3, .str v4, .str v5, .int .i64 v6, .sl (.nw .u8) v7, .int .i64 v8, .sl tZ1 v9]] [] K =
   yy62_b c74 c68 v1 v2 v3 v4 v5 v6 v7 v8 v9 (fun r0 r1 => K (.tup [.own (.int .u8) 0, .int .i64 r0]) [.buf (.int .u8) r1 false]) := by kernel_rfl
def C_yy3 : Ctx := mkC [35] [] [] [] [] []
def cf_yy3 : CallF R := fun f av es K => none
def lf_yy3 : LoopF R := fun m np id _ vs es K => none
theorem eq_yy3 (v1 : LI) (v2 v3 : Int) (K : KS R) :
  runK C_yy3 raw (cf_yy3) (lf_yy3) 29 [.sl (.int .u8) v1, .int .i64 v2, .int .i64 v3] [] K =
   yy3_b v1 v2 v3 (fun r0 r1 => K (.tup [.int .u64 r0, .int .i64 r1]) []) := by kernel_rfl
def C_yy70 : Ctx := mkC [] [] [] [] [] []
def cf_yy70 (c66 : Int → (Err → Option R) → Option R) : CallF R := fun f av es K => iteH (decide (f = 25)) (sh25 c66 av es K) (none)
def lf_yy70 : LoopF R := fun m np id _ vs es K => none
theorem eq_yy70 (c66 : Int → (Err → Option R) → Option R) (v1 : Int) (v2 : LI) (v3 : Err) (K : KS R) :
  runK C_yy70 raw (cf_yy70 c66) (lf_yy70) 20 [.ptr 0 [], .int .i64 v1] [.box (.st [.sl (.int .u8) v2, .err v3]) false] K =
   yy70_b c66 v1 v2 v3 (fun r0 r1 => K (.tup []) [.box (.st [.sl (.int .u8) r0, .err r1]) false]) := by kernel_rfl
def C_yy71 : Ctx := mkC [32] [] [] [] [] []
def cf_yy71 (c3 : T40 R) (c70 : T8 R) : CallF R := fun f av es K => iteH (decide (f = 29)) (sh29 c3 av es K) (iteH (decide (f = 20)) (sh20 c70 av es K) (none))
def lf_yy71 : LoopF R := fun m np id _ vs es K => none
theorem eq_yy71 (c3 : T40 R) (c70 : T8 R) (v1 : Int) (v2 : LI) (v3 : Err) (K : KS R) :
  runK C_yy71 raw (cf_yy71 c3 c70) (lf_yy71) 19 [.ptr 0 [], .int .i64 v1] [.box (.st [.sl (.int .u8) v2, .err v3]) false] K =
   yy71_b c3 c70 v1 v2 v3 (fun r0 r1 r2 => K (.int .i64 r0) [.box (.st [.sl (.int .u8) r1, .err r2]) false]) := by kernel_rfl
def C_yy4 : Ctx := mkC [] [] [] [] [] []
def cf_yy4 (c3 : T40 R) : CallF R := fun f av es K => iteH (decide (f = 29)) (sh29 c3 av es K) (none)
def lf_yy4 : LoopF R := fun m np id _ vs es K => none
theorem eq_yy4 (c3 : T40 R) (v1 : LI) (v2 : Int) (K : KS R) :
  runK C_yy4 raw (cf_yy4 c3) (lf_yy4) 30 [.sl (.int .u8) v1, .int .i64 v2] [] K =
   yy4_b c3 v1 v2 (fun r0 r1 r2 => K (.tup [.own (.int .u8) 0, .int .i64 r0, .int .i64 r1]) [.buf (.int .u8) r2 false]) := by kernel_rfl
def C_yy72 : Ctx := mkC [31] [] [] [] [] []
def cf_yy72 (c4 : T65 R) (c70 : T8 R) : CallF R := fun f av es K => iteH (decide (f = 30)) (sh30 c4 av es K) (iteH (decide (f = 20)) (sh20 c70 av es K) (none))
def lf_yy72 : LoopF R := fun m np id _ vs es K => none
theorem eq_yy72 (c4 : T65 R) (c70 : T8 R) (v1 : LI) (v2 : Err) (K : KS R) :
  runK C_yy72 raw (cf_yy72 c4 c70) (lf_yy72) 21 [.ptr 0 []] [.box (.st [.sl (.int .u8) v1, .err v2]) false] K =
   yy72_b c4 c70 v1 v2 (fun r0 r1 r2 => K (.str r0) [.box (.st [.sl (.int .u8) r1, .err r2]) false]) := by kernel_rfl
def C_yy69 : Ctx := mkC [] [] [(27, [0, 4, 5, 67, 68])] [(27, [4, 5])] [(27, [])] [(29, [0, 1, 0, 4, 12, 31, 63, 127])]
def cf_yy69 (c71 : T19 R) (c72 : T20 R) (c70 : T8 R) (c69 : T21 R) (l_27 : T66 R) : CallF R := fun f av es K => iteH (decide (f = 19)) (sh19 c71 av es K) (iteH (decide (f = 21)) (sh21 c72 av es K) (iteH (decide (f = 20)) (sh20 c70 av es K) (iteH (decide (f = 16)) (sh16 c69 av es K) (none))))
noncomputable def sl_yy69_l27 (l_27 : T66 R) (vs : List S) (es : List Ent) (K : KO R) : Option R :=
 match vs, es with
 | [.ptr 0 [], .ptr 1 [], .ptr 2 [], .int .i64 v46, .int .i64 v47], [.box (.st [.sl (.int .u8) v48, .err v49]) false, .box (.st [.int .i64 v50, .str v51, .str v52, .str v53, .int .i64 v54, .own (.int .u8) 3, .int .i64 v55, .own t1 4]) false, .box (.st [.int .i64 v56, .str v57, .str v58, .str v59, .int .i64 v60, .own (.int .u8) 5, .int .i64 v61, .own t2 6]) false, .buf (.int .u8) v62 false, .buf t3 v63 false, .buf (.int .u8) v64 false, .buf t4 v65 false] => if q1 : t1 = tZ1 then if q2 : t2 = tZ1 then if q3 : t3 = tZ1 then if q4 : t4 = tZ1 then l_27 v46 v50 v51 v52 v53 v54 v55 v56 v57 v58 v59 v60 v61 v62 (castL q3 v63) v64 (fun r0 r1 r2 r3 r4 r5 r6 r7 r8 r9 r10 r11 r12 r13 r14 r15 r16 r17 => K (.exit 9) [.ptr 1 [], .ptr 2 []] [.box (.st [.sl (.int .u8) r0, .err r1]) false, .box (.st [.int .i64 r2, .str r3, .str r4, .str r5, .int .i64 r6, .own (.int .u8) 3, .int .i64 r7, .own tZ1 4]) false, .box (.st [.int .i64 r8, .str r9, .str r10, .str r11, .int .i64 r12, .own (.int .u8) 5, .int .i64 r13, .own tZ1 6]) false, .buf (.int .u8) r14 false, .buf tZ1 r15 false, .buf (.int .u8) r16 false, .buf tZ1 r17 false]) v47 v48 v49 (castL q4 v65) else none else none else none else none
 | _, _ => none
def lf_yy69 (l_27 : T66 R) : LoopF R := fun m np id _ vs es K => iteH (decide (m = 86) && decide (np = 1)) (iteH (decide (id = 27)) (sl_yy69_l27 l_27 vs es K) (none)) none
theorem eq_yy69_l27 (c71 : T19 R) (c72 : T20 R) (c70 : T8 R) (c69 : T21 R) (l_27 : T66 R) (v46 v47 : Int) (v48 : LI) (v49 : Err) (v50 : Int) (v51 v52 v53 : LI) (v54 v55 v56 : Int) (v57 v58 v59 : LI) (v60 v61 : Int) (v62 : LI) (v63 : LZ1) (v64 : LI) (v65 : LZ1) (K : KO R) :
  acodeK C_yy69 raw (cf_yy69 c71 c72 c70 c69 l_27) (lf_yy69 l_27) (loopBody Tryz.prog 16 27) (placeSt 86 1 [0, 4, 5, 67, 68] [.ptr 0 [], .ptr 1 [], .ptr 2 [], .int .i64 v46, .int .i64 v47] [.box (.st [.sl (.int .u8) v48, .err v49]) false, .box (.st [.int .i64 v50, .str v51, .str v52, .str v53, .int .i64 v54, .own (.int .u8) 3, .int .i64 v55, .own tZ1 4]) false, .box (.st [.int .i64 v56, .str v57, .str v58, .str v59, .int .i64 v60, .own (.int .u8) 5, .int .i64 v61, .own tZ1 6]) false, .buf (.int .u8) v62 false, .buf tZ1 v63 false, .buf (.int .u8) v64 false, .buf tZ1 v65 false]) (loopKont C_yy69 (lf_yy69 l_27) 86 1 27 (loopBody Tryz.prog 16 27) K) =
   yy69_l27_b c71 c72 c70 c69 l_27 v46 v50 v51 v52 v53 v54 v55 v56 v57 v58 v59 v60 v61 v62 v63 v64 (fun r0 r1 r2 r3 r4 r5 r6 r7 r8 r9 r10 r11 r12 r13 r14 r15 r16 r17 => K (.exit 9) [.ptr 1 [], .ptr 2 []] [.box (.st [.sl (.int .u8) r0, .err r1]) false, .box (.st [.int .i64 r2, .str r3, .str r4, .str r5, .int .i64 r6, .own (.int .u8) 3, .int .i64 r7, .own tZ1 4]) false, .box (.st [.int .i64 r8, .str r9, .str r10, .str r11, .int .i64 r12, .own (.int .u8) 5, .int .i64 r13, .own tZ1 6]) false, .buf (.int .u8) r14 false, .buf tZ1 r15 false, .buf (.int .u8) r16 false, .buf tZ1 r17 false]) v47 v48 v49 v65 := by kernel_rfl
theorem eq_yy69 (c71 : T19 R) (c72 : T20 R) (c70 : T8 R) (c69 : T21 R) (l_27 : T66 R) (v1 : Bool) (v2 : LI) (v3 : Err) (K : KS R) :
  runK C_yy69 raw (cf_yy69 c71 c72 c70 c69 l_27) (lf_yy69 l_27) 16 [.ptr 0 [], .bool v1] [.box (.st [.sl (.int .u8) v2, .err v3]) false] K =
   yy69_b c71 c72 c70 c69 l_27 v1 v2 v3 (fun r0 r1 r2 r3 r4 r5 r6 r7 r8 r9 => K (.st [.int .i64 r0, .str r1, .str r2, .str r3, .int .i64 r4, .own (.int .u8) 1, .int .i64 r5, .own tZ1 2]) [.box (.st [.sl (.int .u8) r6, .err r7]) false, .buf (.int .u8) r8 false, .buf tZ1 r9 false]) := by kernel_rfl
def C_yy64 : Ctx := mkC [] [] [] [] [] [(5, [0, 0, 2, 0, 8, 24, 56, 120, 254, 1, 1023, 2047])]
def cf_yy64 (c69 : T21 R) (c68 : Err → (Int → Option R) → Option R) : CallF R := fun f av es K => iteH (decide (f = 16)) (sh16 c69 av es K) (iteH (decide (f = 15)) (sh15 c68 av es K) (none))
def lf_yy64 : LoopF R := fun m np id _ vs es K => none
theorem eq_yy64 (c69 : T21 R) (c68 : Err → (Int → Option R) → Option R) (v1 : LI) (K : KS R) :
  runK C_yy64 raw (cf_yy64 c69 c68) (lf_yy64) 7 [.sl (.int .u8) v1] [] K =
   yy64_b c69 c68 v1 (fun r0 r1 r2 r3 r4 r5 r6 r7 r8 r9 => K (.tup [.st [.int .i64 r0, .str r1, .str r2, .str r3, .int .i64 r4, .own (.int .u8) 0, .int .i64 r5, .own tZ1 1], .int .i64 r6, .int .i64 r7]) [.buf (.int .u8) r8 false, .buf tZ1 r9 false]) := by kernel_rfl
def C_yy63 : Ctx := mkC [] [] [(13, [0, 6, 51, 52, 53])] [(13, [0, 6])] [(13, [])] [(19, [0, 0, 3, 0, 8, 24, 56, 127, 255, 511])]
def cf_yy63 (c75 : T16 R) (c76 : T17 R) (c68 : Err → (Int → Option R) → Option R) (l_13 : T67 R) : CallF R := fun f av es K => iteH (decide (f = 17)) (sh17 c75 av es K) (iteH (decide (f = 18)) (sh18 c76 av es K) (iteH (decide (f = 15)) (sh15 c68 av es K) (none)))
noncomputable def sl_yy63_l13 (l_13 : T67 R) (vs : List S) (es : List Ent) (K : KO R) : Option R :=
 match vs, es with
 | [.sl (.int .u8) v24, .ptr 0 [], .sl .str v25, .int .i64 v26, .int .i64 v27], [.box (.st [.own (.int .u8) 1, .err v28]) false, .buf (.int .u8) v29 false] => l_13 v24 v25 v26 (fun r0 r1 r2 => K (.exit 0) [.sl (.int .u8) r0, .ptr 0 []] [.box (.st [.own (.int .u8) 1, .err r1]) false, .buf (.int .u8) r2 false]) v27 v28 v29
 | _, _ => none
def lf_yy63 (l_13 : T67 R) : LoopF R := fun m np id _ vs es K => iteH (decide (m = 79) && decide (np = 0)) (iteH (decide (id = 13)) (sl_yy63_l13 l_13 vs es K) (none)) none
theorem eq_yy63_l13 (c75 : T16 R) (c76 : T17 R) (c68 : Err → (Int → Option R) → Option R) (l_13 : T67 R) (v24 : LI) (v25 : LL) (v26 v27 : Int) (v28 : Err) (v29 : LI) (K : KO R) :
  acodeK C_yy63 raw (cf_yy63 c75 c76 c68 l_13) (lf_yy63 l_13) (loopBody Tryz.prog 9 13) (placeSt 79 0 [0, 6, 51, 52, 53] [.sl (.int .u8) v24, .ptr 0 [], .sl .str v25, .int .i64 v26, .int .i64 v27] [.box (.st [.own (.int .u8) 1, .err v28]) false, .buf (.int .u8) v29 false]) (loopKont C_yy63 (lf_yy63 l_13) 79 0 13 (loopBody Tryz.prog 9 13) K) =
   yy63_l13_b c75 c76 c68 l_13 v24 v25 v26 (fun r0 r1 r2 => K (.exit 0) [.sl (.int .u8) r0, .ptr 0 []] [.box (.st [.own (.int .u8) 1, .err r1]) false, .buf (.int .u8) r2 false]) v27 v28 v29 := by kernel_rfl
theorem eq_yy63 (c75 : T16 R) (c76 : T17 R) (c68 : Err → (Int → Option R) → Option R) (l_13 : T67 R) (v1 : LI) (v2 v3 v4 : Int) (v5 : Bool) (v6 v7 : LI) (v8 : LL) (K : KS R) :
  runK C_yy63 raw (cf_yy63 c75 c76 c68 l_13) (lf_yy63 l_13) 9 [.sl (.int .u8) v1, .st [.int .i64 v2, .int .i64 v3, .int .i64 v4, .st [.bool v5, .sl (.int .u8) v6], .str v7, .sl .str v8]] [] K =
   yy63_b c75 c76 c68 l_13 v1 v2 v3 v4 v5 v6 v7 v8 (fun r0 r1 => K (.tup [.own (.int .u8) 0, .int .i64 r0]) [.buf (.int .u8) r1 false]) := by kernel_rfl
def C_yy65 : Ctx := mkC [] [] [(12, [0, 2, 5, 7])] [(12, [0, 2, 5])] [(12, [])] [(14, [0, 1, 0, 4, 12, 31, 63, 127]), (17, [0, 0, 2, 0, 8, 24, 56, 120, 254, 1, 1023, 2047])]
def cf_yy65 (c71 : T19 R) (c70 : T8 R) (c72 : T20 R) (c68 : Err → (Int → Option R) → Option R) (l_12 : T68 R) : CallF R := fun f av es K => iteH (decide (f = 19)) (sh19 c71 av es K) (iteH (decide (f = 20)) (sh20 c70 av es K) (iteH (decide (f = 21)) (sh21 c72 av es K) (iteH (decide (f = 15)) (sh15 c68 av es K) (none))))
noncomputable def sl_yy65_l12 (l_12 : T68 R) (vs : List S) (es : List Ent) (K : KO R) : Option R :=
 match vs, es with
 | [.sl (.int .u8) v25, .ptr 0 [], .ptr 1 [], .int .i64 v26], [.box (.st [.int .i64 v27, .int .i64 v28, .int .i64 v29, .st [.bool v30, .own (.int .u8) 2], .str v31, .own .str 3]) false, .box (.st [.sl (.int .u8) v32, .err v33]) false, .buf (.int .u8) v34 false, .buf .str v35 false] => l_12 v25 v27 v28 v29 v30 v31 v34 (fun r0 r1 r2 r3 r4 r5 r6 r7 r8 r9 => K (.exit 0) [.sl (.int .u8) r0, .ptr 0 [], .ptr 1 []] [.box (.st [.int .i64 r1, .int .i64 r2, .int .i64 r3, .st [.bool r4, .own (.int .u8) 2], .str r5, .own .str 3]) false, .box (.st [.sl (.int .u8) r6, .err r7]) false, .buf (.int .u8) r8 false, .buf .str r9 false]) v26 v32 v33 v35
 | _, _ => none
def lf_yy65 (l_12 : T68 R) : LoopF R := fun m np id _ vs es K => iteH (decide (m = 78) && decide (np = 0)) (iteH (decide (id = 12)) (sl_yy65_l12 l_12 vs es K) (none)) none
theorem eq_yy65_l12 (c71 : T19 R) (c70 : T8 R) (c72 : T20 R) (c68 : Err → (Int → Option R) → Option R) (l_12 : T68 R) (v25 : LI) (v26 v27 v28 v29 : Int) (v30 : Bool) (v31 v32 : LI) (v33 : Err) (v34 : LI) (v35 : LL) (K : KO R) :
  acodeK C_yy65 raw (cf_yy65 c71 c70 c72 c68 l_12) (lf_yy65 l_12) (loopBody Tryz.prog 10 12) (placeSt 78 0 [0, 2, 5, 7] [.sl (.int .u8) v25, .ptr 0 [], .ptr 1 [], .int .i64 v26] [.box (.st [.int .i64 v27, .int .i64 v28, .int .i64 v29, .st [.bool v30, .own (.int .u8) 2], .str v31, .own .str 3]) false, .box (.st [.sl (.int .u8) v32, .err v33]) false, .buf (.int .u8) v34 false, .buf .str v35 false]) (loopKont C_yy65 (lf_yy65 l_12) 78 0 12 (loopBody Tryz.prog 10 12) K) =
   yy65_l12_b c71 c70 c72 c68 l_12 v25 v27 v28 v29 v30 v31 v34 (fun r0 r1 r2 r3 r4 r5 r6 r7 r8 r9 => K (.exit 0) [.sl (.int .u8) r0, .ptr 0 [], .ptr 1 []] [.box (.st [.int .i64 r1, .int .i64 r2, .int .i64 r3, .st [.bool r4, .own (.int .u8) 2], .str r5, .own .str 3]) false, .box (.st [.sl (.int .u8) r6, .err r7]) false, .buf (.int .u8) r8 false, .buf .str r9 false]) v26 v32 v33 v35 := by kernel_rfl
theorem eq_yy65 (c71 : T19 R) (c70 : T8 R) (c72 : T20 R) (c68 : Err → (Int → Option R) → Option R) (l_12 : T68 R) (v1 : LI) (K : KS R) :
  runK C_yy65 raw (cf_yy65 c71 c70 c72 c68 l_12) (lf_yy65 l_12) 10 [.sl (.int .u8) v1] [] K =
   yy65_b c71 c70 c72 c68 l_12 v1 (fun r0 r1 r2 r3 r4 r5 r6 r7 r8 => K (.tup [.st [.int .i64 r0, .int .i64 r1, .int .i64 r2, .st [.bool r3, .own (.int .u8) 0], .str r4, .own .str 1], .int .i64 r5, .int .i64 r6]) [.buf (.int .u8) r7 false, .buf .str r8 false]) := by kernel_rfl
def C_yy1 : Ctx := mkC [] [] [] [] [] []
def cf_yy1 (c62 : T22 R) (c64 : T23 R) (c63 : T69 R) (c65 : T70 R) : CallF R := fun f av es K => iteH (decide (f = 6)) (sh6 c62 av es K) (iteH (decide (f = 7)) (sh7 c64 av es K) (iteH (decide (f = 9)) (sh9 c63 av es K) (iteH (decide (f = 10)) (sh10 c65 av es K) (none))))
def lf_yy1 : LoopF R := fun m np id _ vs es K => none
theorem eq_yy1 (c62 : T22 R) (c64 : T23 R) (c63 : T69 R) (c65 : T70 R) (K : KS R) :
  runK C_yy1 raw (cf_yy1 c62 c64 c63 c65) (lf_yy1) 4 [] [] K =
   yy1_b c62 c64 c63 c65 (fun r0 => K (.bool r0) []) := by kernel_rfl
def C_yy7 : Ctx := mkC [] [] [] [] [] []
def cf_yy7 : CallF R := fun f av es K => none
def lf_yy7 : LoopF R := fun m np id _ vs es K => none
theorem eq_yy7 (v1 : LI) (K : KS R) :
  runK C_yy7 raw (cf_yy7) (lf_yy7) 11 [.sl (.int .u8) v1] [] K =
   yy7_b v1 (fun r0 r1 => K (.ptr 0 []) [.box (.st [.sl (.int .u8) r0, .int .i64 r1]) false]) := by kernel_rfl
def C_yy16 : Ctx := mkC [] [] [] [] [] [(1, [0, 1, 3, 7, 0, 16, 48, 112, 240, 511, 1023])]
def cf_yy16 : CallF R := fun f av es K => none
def lf_yy16 : LoopF R := fun m np id _ vs es K => none
theorem eq_yy16 (v1 : LI) (v2 : Int) (K : KS R) :
  runK C_yy16 raw (cf_yy16) (lf_yy16) 12 [.ptr 0 []] [.box (.st [.sl (.int .u8) v1, .int .i64 v2]) false] K =
   yy16_b v1 v2 (fun r0 r1 r2 => K (.bool r0) [.box (.st [.sl (.int .u8) r1, .int .i64 r2]) false]) := by kernel_rfl
def C_yy15 : Ctx := mkC [] [] [] [] [] [(1, [0, 1, 3, 7, 0, 16, 48, 112, 240, 511]), (4, [0, 1, 3, 7, 0, 16, 48, 112, 240, 511, 1023, 2047, 0, 8191, 16383])]
def cf_yy15 : CallF R := fun f av es K => none
def lf_yy15 : LoopF R := fun m np id _ vs es K => none
theorem eq_yy15 (v1 : Int) (v2 : LI) (v3 : Int) (K : KS R) :
  runK C_yy15 raw (cf_yy15) (lf_yy15) 31 [.ptr 0 [], .int .i64 v1] [.box (.st [.sl (.int .u8) v2, .int .i64 v3]) false] K =
   yy15_b v1 v2 v3 (fun r0 r1 r2 => K (.int .i64 r0) [.box (.st [.sl (.int .u8) r1, .int .i64 r2]) false]) := by kernel_rfl
def C_yy9 : Ctx := mkC [] [] [] [] [] []
def cf_yy9 (c15 : T5 R) : CallF R := fun f av es K => iteH (decide (f = 31)) (sh31 c15 av es K) (none)
def lf_yy9 : LoopF R := fun m np id _ vs es K => none
theorem eq_yy9 (c15 : T5 R) (v1 : LI) (v2 : Int) (K : KS R) :
  runK C_yy9 raw (cf_yy9 c15) (lf_yy9) 32 [.ptr 0 []] [.box (.st [.sl (.int .u8) v1, .int .i64 v2]) false] K =
   yy9_b c15 v1 v2 (fun r0 r1 r2 => K (.str r0) [.box (.st [.sl (.int .u8) r1, .int .i64 r2]) false]) := by kernel_rfl
def C_yy22 : Ctx := mkC [] [] [(3, [0, 2, 3, 4])] [(3, [2, 3])] [(3, [])] [(5, [0, 0, 3, 7, 15, 31, 63, 0, 0, 384, 896, 1920, 3968, 8191, 16383, 32767])]
def cf_yy22 (l_3 : T71 R) : CallF R := fun f av es K => none
noncomputable def sl_yy22_l3 (l_3 : T71 R) (vs : List S) (es : List Ent) (K : KO R) : Option R :=
 match vs, es with
 | [.sl (.int .u8) v2, .ptr 0 [], .ptr 1 [], .int .i64 v3], [.box (.arr 4 (.int .u64) v4) false, .box (.arr 4 (.int .u64) v5) false] => l_3 v2 v4 (fun r0 r1 => K (.exit 0) [.ptr 0 [], .ptr 1 []] [.box (.arr 4 (.int .u64) r0) false, .box (.arr 4 (.int .u64) r1) false]) v3 v5
 | _, _ => none
def lf_yy22 (l_3 : T71 R) : LoopF R := fun m np id _ vs es K => iteH (decide (m = 27) && decide (np = 0)) (iteH (decide (id = 3)) (sl_yy22_l3 l_3 vs es K) (none)) none
theorem eq_yy22_l3 (l_3 : T71 R) (v2 : LI) (v3 : Int) (v4 v5 : LI) (K : KO R) :
  acodeK C_yy22 raw (cf_yy22 l_3) (lf_yy22 l_3) (loopBody Tryz.prog 69 3) (placeSt 27 0 [0, 2, 3, 4] [.sl (.int .u8) v2, .ptr 0 [], .ptr 1 [], .int .i64 v3] [.box (.arr 4 (.int .u64) v4) false, .box (.arr 4 (.int .u64) v5) false]) (loopKont C_yy22 (lf_yy22 l_3) 27 0 3 (loopBody Tryz.prog 69 3) K) =
   yy22_l3_b l_3 v2 v4 (fun r0 r1 => K (.exit 0) [.ptr 0 [], .ptr 1 []] [.box (.arr 4 (.int .u64) r0) false, .box (.arr 4 (.int .u64) r1) false]) v3 v5 := by kernel_rfl
theorem eq_yy22 (l_3 : T71 R) (v1 : LI) (K : KS R) :
  runK C_yy22 raw (cf_yy22 l_3) (lf_yy22 l_3) 69 [.sl (.int .u8) v1] [] K =
   yy22_b l_3 v1 (fun r0 => K (.arr 4 (.int .u64) r0) []) := by kernel_rfl
def C_yy26 : Ctx := mkC [] [] [(3, [1, 2, 3, 4])] [(3, [2, 3])] [(3, [])] []
def cf_yy26 (c22 : LI → (LI → Option R) → Option R) (l_3 : T72 R) : CallF R := fun f av es K => iteH (decide (f = 69)) (sh69 c22 av es K) (none)
noncomputable def sl_yy26_l3 (l_3 : T72 R) (vs : List S) (es : List Ent) (K : KO R) : Option R :=
 match vs, es with
 | [.ptr 0 [], .ptr 1 [], .own (.int .u8) 2, .int .i64 v2], [.box (.arr 256 .bool v3) false, .box (.arr 4 (.int .u64) v4) false, .buf (.int .u8) v5 false] => l_3 v3 v4 (fun r0 r1 => K (.exit 0) [.ptr 0 [], .own (.int .u8) 1] [.box (.arr 4 (.int .u64) r0) false, .buf (.int .u8) r1 false]) v2 v5
 | _, _ => none
def lf_yy26 (l_3 : T72 R) : LoopF R := fun m np id _ vs es K => iteH (decide (m = 19) && decide (np = 0)) (iteH (decide (id = 3)) (sl_yy26_l3 l_3 vs es K) (none)) none
theorem eq_yy26_l3 (c22 : LI → (LI → Option R) → Option R) (l_3 : T72 R) (v2 : Int) (v3 : LB) (v4 v5 : LI) (K : KO R) :
  acodeK C_yy26 raw (cf_yy26 c22 l_3) (lf_yy26 l_3) (loopBody Tryz.prog 81 3) (placeSt 19 0 [1, 2, 3, 4] [.ptr 0 [], .ptr 1 [], .own (.int .u8) 2, .int .i64 v2] [.box (.arr 256 .bool v3) false, .box (.arr 4 (.int .u64) v4) false, .buf (.int .u8) v5 false]) (loopKont C_yy26 (lf_yy26 l_3) 19 0 3 (loopBody Tryz.prog 81 3) K) =
   yy26_l3_b c22 l_3 v3 v4 (fun r0 r1 => K (.exit 0) [.ptr 0 [], .own (.int .u8) 1] [.box (.arr 4 (.int .u64) r0) false, .buf (.int .u8) r1 false]) v2 v5 := by kernel_rfl
theorem eq_yy26 (c22 : LI → (LI → Option R) → Option R) (l_3 : T72 R) (v1 : LB) (K : KS R) :
  runK C_yy26 raw (cf_yy26 c22 l_3) (lf_yy26 l_3) 81 [.arr 256 .bool v1] [] K =
   yy26_b c22 l_3 v1 (fun r0 => K (.arr 4 (.int .u64) r0) []) := by kernel_rfl
def C_yy24 : Ctx := mkC [] [] [(3, [1, 4, 5, 6])] [(3, [4, 5])] [(3, [])] []
def cf_yy24 (c26 : LB → (LI → Option R) → Option R) (l_3 : T73 R) : CallF R := fun f av es K => iteH (decide (f = 81)) (sh81 c26 av es K) (none)
noncomputable def sl_yy24_l3 (l_3 : T73 R) (vs : List S) (es : List Ent) (K : KO R) : Option R :=
 match vs, es with
 | [.int .u8 v3, .ptr 0 [], .ptr 1 [], .int .i64 v4], [.box (.arr 4 (.int .u64) v5) false, .box (.arr 256 .bool v6) false] => l_3 v3 v5 (fun r0 r1 => K (.exit 0) [.ptr 0 [], .ptr 1 []] [.box (.arr 4 (.int .u64) r0) false, .box (.arr 256 .bool r1) false]) v4 v6
 | _, _ => none
def lf_yy24 (l_3 : T73 R) : LoopF R := fun m np id _ vs es K => iteH (decide (m = 19) && decide (np = 0)) (iteH (decide (id = 3)) (sl_yy24_l3 l_3 vs es K) (none)) none
theorem eq_yy24_l3 (c26 : LB → (LI → Option R) → Option R) (l_3 : T73 R) (v3 v4 : Int) (v5 : LI) (v6 : LB) (K : KO R) :
  acodeK C_yy24 raw (cf_yy24 c26 l_3) (lf_yy24 l_3) (loopBody Tryz.prog 67 3) (placeSt 19 0 [1, 4, 5, 6] [.int .u8 v3, .ptr 0 [], .ptr 1 [], .int .i64 v4] [.box (.arr 4 (.int .u64) v5) false, .box (.arr 256 .bool v6) false]) (loopKont C_yy24 (lf_yy24 l_3) 19 0 3 (loopBody Tryz.prog 67 3) K) =
   yy24_l3_b c26 l_3 v3 v5 (fun r0 r1 => K (.exit 0) [.ptr 0 [], .ptr 1 []] [.box (.arr 4 (.int .u64) r0) false, .box (.arr 256 .bool r1) false]) v4 v6 := by kernel_rfl
theorem eq_yy24 (c26 : LB → (LI → Option R) → Option R) (l_3 : T73 R) (v1 v2 : Int) (K : KS R) :
  runK C_yy24 raw (cf_yy24 c26 l_3) (lf_yy24 l_3) 67 [.int .u8 v1, .int .u8 v2] [] K =
   yy24_b c26 l_3 v1 v2 (fun r0 => K (.arr 4 (.int .u64) r0) []) := by kernel_rfl
def C_yy19 : Ctx := mkC [] [] [] [] [] []
def cf_yy19 : CallF R := fun f av es K => none
def lf_yy19 : LoopF R := fun m np id _ vs es K => none
theorem eq_yy19 (v1 : LI) (v2 : Int) (K : KS R) :
  runK C_yy19 raw (cf_yy19) (lf_yy19) 82 [.arr 4 (.int .u64) v1, .int .u8 v2] [] K =
   yy19_b v1 v2 (fun r0 => K (.bool r0) []) := by kernel_rfl
def C_yy21 : Ctx := mkC [] [] [(3, [1, 2, 3, 4])] [(3, [2, 3])] [(3, [])] []
def cf_yy21 (c19 : T0 R) (c26 : LB → (LI → Option R) → Option R) (l_3 : T74 R) : CallF R := fun f av es K => iteH (decide (f = 82)) (sh82 c19 av es K) (iteH (decide (f = 81)) (sh81 c26 av es K) (none))
noncomputable def sl_yy21_l3 (l_3 : T74 R) (vs : List S) (es : List Ent) (K : KO R) : Option R :=
 match vs, es with
 | [.ptr 0 [], .ptr 1 [], .ptr 2 [], .int .i64 v2], [.box (.arr 4 (.int .u64) v3) false, .box (.arr 4 (.int .u64) v4) false, .box (.arr 256 .bool v5) false] => l_3 v3 v4 (fun r0 r1 => K (.exit 0) [.ptr 0 [], .ptr 1 []] [.box (.arr 4 (.int .u64) r0) false, .box (.arr 256 .bool r1) false]) v2 v5
 | _, _ => none
def lf_yy21 (l_3 : T74 R) : LoopF R := fun m np id _ vs es K => iteH (decide (m = 18) && decide (np = 0)) (iteH (decide (id = 3)) (sl_yy21_l3 l_3 vs es K) (none)) none
theorem eq_yy21_l3 (c19 : T0 R) (c26 : LB → (LI → Option R) → Option R) (l_3 : T74 R) (v2 : Int) (v3 v4 : LI) (v5 : LB) (K : KO R) :
  acodeK C_yy21 raw (cf_yy21 c19 c26 l_3) (lf_yy21 l_3) (loopBody Tryz.prog 68 3) (placeSt 18 0 [1, 2, 3, 4] [.ptr 0 [], .ptr 1 [], .ptr 2 [], .int .i64 v2] [.box (.arr 4 (.int .u64) v3) false, .box (.arr 4 (.int .u64) v4) false, .box (.arr 256 .bool v5) false]) (loopKont C_yy21 (lf_yy21 l_3) 18 0 3 (loopBody Tryz.prog 68 3) K) =
   yy21_l3_b c19 c26 l_3 v3 v4 (fun r0 r1 => K (.exit 0) [.ptr 0 [], .ptr 1 []] [.box (.arr 4 (.int .u64) r0) false, .box (.arr 256 .bool r1) false]) v2 v5 := by kernel_rfl
theorem eq_yy21 (c19 : T0 R) (c26 : LB → (LI → Option R) → Option R) (l_3 : T74 R) (v1 : LI) (K : KS R) :
  runK C_yy21 raw (cf_yy21 c19 c26 l_3) (lf_yy21 l_3) 68 [.arr 4 (.int .u64) v1] [] K =
   yy21_b c19 c26 l_3 v1 (fun r0 => K (.arr 4 (.int .u64) r0) []) := by kernel_rfl
def C_yy11 : Ctx := mkC [] [] [] [] [] []
def cf_yy11 (c15 : T5 R) (c24 : T75 R) (c22 : LI → (LI → Option R) → Option R) (c21 : LI → (LI → Option R) → Option R) : CallF R := fun f av es K => iteH (decide (f = 31)) (sh31 c15 av es K) (iteH (decide (f = 67)) (sh67 c24 av es K) (iteH (decide (f = 69)) (sh69 c22 av es K) (iteH (decide (f = 68)) (sh68 c21 av es K) (none))))
def lf_yy11 : LoopF R := fun m np id _ vs es K => none
theorem eq_yy11 (c15 : T5 R) (c24 : T75 R) (c22 : LI → (LI → Option R) → Option R) (c21 : LI → (LI → Option R) → Option R) (v1 : LI) (v2 : Int) (K : KS R) :
  runK C_yy11 raw (cf_yy11 c15 c24 c22 c21) (lf_yy11) 51 [.ptr 0 []] [.box (.st [.sl (.int .u8) v1, .int .i64 v2]) false] K =
   yy11_b c15 c24 c22 c21 v1 v2 (fun r0 r1 r2 => K (.arr 4 (.int .u64) r0) [.box (.st [.sl (.int .u8) r1, .int .i64 r2]) false]) := by kernel_rfl
def C_yy39 : Ctx := mkC [] [] [] [] [] []
def cf_yy39 : CallF R := fun f av es K => none
def lf_yy39 : LoopF R := fun m np id _ vs es K => none
theorem eq_yy39 (K : KS R) :
  runK C_yy39 raw (cf_yy39) (lf_yy39) 52 [] [] K =
   yy39_b (fun r0 r1 r2 => K (.st [.int .i64 r0, .arr 4 (.int .u64) r1, .own tZ0 0]) [.buf tZ0 r2 false]) := by kernel_rfl
def C_yy30 : Ctx := mkC [] [] [] [] [] []
def cf_yy30 (c39 : T2 R) : CallF R := fun f av es K => iteH (decide (f = 52)) (sh52 c39 av es K) (none)
def lf_yy30 : LoopF R := fun m np id _ vs es K => none
theorem eq_yy30 (c39 : T2 R) (v1 : LI) (K : KS R) :
  runK C_yy30 raw (cf_yy30 c39) (lf_yy30) 50 [.arr 4 (.int .u64) v1] [] K =
   yy30_b c39 v1 (fun r0 r1 r2 => K (.st [.int .i64 r0, .arr 4 (.int .u64) r1, .own tZ0 0]) [.buf tZ0 r2 false]) := by kernel_rfl
def C_yy35 : Ctx := mkC [] [] [] [] [] []
def cf_yy35 : CallF R := fun f av es K => none
def lf_yy35 : LoopF R := fun m np id _ vs es K => none
theorem eq_yy35 (K : KS R) :
  runK C_yy35 raw (cf_yy35) (lf_yy35) 53 [] [] K =
   yy35_b (fun r0 r1 r2 => K (.st [.int .i64 r0, .arr 4 (.int .u64) r1, .own tZ0 0]) [.buf tZ0 r2 false]) := by kernel_rfl
def C_yy43 : Ctx := mkC [] [] [(3, [0, 1, 5, 6])] [(3, [5])] [(3, [])] []
def cf_yy43 (l_3 : T76 R) : CallF R := fun f av es K => none
noncomputable def sl_yy43_l3 (l_3 : T76 R) (vs : List S) (es : List Ent) (K : KO R) : Option R :=
 match vs, es with
 | [.int .i64 v3, .sl t1 v4, .own t2 0, .int .i64 v5], [.buf t3 v6 false] => if q1 : t1 = tZ0 then if q2 : t2 = tZ0 then if q3 : t3 = tZ0 then l_3 v3 (castL q1 v4) (fun r0 => K (.exit 0) [.own tZ0 0] [.buf tZ0 r0 false]) v5 (castL q3 v6) else none else none else none
 | _, _ => none
def lf_yy43 (l_3 : T76 R) : LoopF R := fun m np id _ vs es K => iteH (decide (m = 35) && decide (np = 0)) (iteH (decide (id = 3)) (sl_yy43_l3 l_3 vs es K) (none)) none
theorem eq_yy43_l3 (l_3 : T76 R) (v3 : Int) (v4 : LZ0) (v5 : Int) (v6 : LZ0) (K : KO R) :
  acodeK C_yy43 raw (cf_yy43 l_3) (lf_yy43 l_3) (loopBody Tryz.prog 70 3) (placeSt 35 0 [0, 1, 5, 6] [.int .i64 v3, .sl tZ0 v4, .own tZ0 0, .int .i64 v5] [.buf tZ0 v6 false]) (loopKont C_yy43 (lf_yy43 l_3) 35 0 3 (loopBody Tryz.prog 70 3) K) =
   yy43_l3_b l_3 v3 v4 (fun r0 => K (.exit 0) [.own tZ0 0] [.buf tZ0 r0 false]) v5 v6 := by kernel_rfl
theorem eq_yy43 (l_3 : T76 R) (v1 : Int) (v2 : LZ0) (K : KS R) :
  runK C_yy43 raw (cf_yy43 l_3) (lf_yy43 l_3) 70 [.int .i64 v1, .sl tZ0 v2] [] K =
   yy43_b l_3 v1 v2 (fun r0 => K (.own tZ0 0) [.buf tZ0 r0 false]) := by kernel_rfl
def C_yy33 : Ctx := mkC [] [] [(3, [1, 2, 3, 4])] [(3, [1, 2, 3])] [(3, [])] []
def cf_yy33 (c33 : T1 R) (l_3 : T26 R) : CallF R := fun f av es K => iteH (decide (f = 71)) (sh71 c33 av es K) (none)
noncomputable def sl_yy33_l3 (l_3 : T26 R) (vs : List S) (es : List Ent) (K : KO R) : Option R :=
 match vs, es with
 | [.ptr 0 [], .ptr 1 [], .own t1 2, .int .i64 v4], [.box (.st [.int .i64 v5, .arr 4 (.int .u64) v6, .sl t2 v7]) false, .box (.st [.int .i64 v8, .arr 4 (.int .u64) v9, .own t3 3]) false, .buf t4 v10 false, .buf t5 v11 false] => if q1 : t1 = tZ0 then if q2 : t2 = tZ0 then if q3 : t3 = tZ0 then if q4 : t4 = tZ0 then if q5 : t5 = tZ0 then l_3 v5 v6 (castL q2 v7) v8 v9 (castL q5 v11) (fun r0 r1 r2 r3 r4 r5 r6 => K (.exit 0) [.ptr 0 [], .ptr 1 [], .own tZ0 2] [.box (.st [.int .i64 r0, .arr 4 (.int .u64) r1, .sl tZ0 r2]) false, .box (.st [.int .i64 r3, .arr 4 (.int .u64) r4, .own tZ0 3]) false, .buf tZ0 r5 false, .buf tZ0 r6 false]) v4 (castL q4 v10) else none else none else none else none else none
 | _, _ => none
def lf_yy33 (l_3 : T26 R) : LoopF R := fun m np id _ vs es K => iteH (decide (m = 24) && decide (np = 0)) (iteH (decide (id = 3)) (sl_yy33_l3 l_3 vs es K) (none)) none
theorem eq_yy33_l3 (c33 : T1 R) (l_3 : T26 R) (v4 v5 : Int) (v6 : LI) (v7 : LZ0) (v8 : Int) (v9 : LI) (v10 v11 : LZ0) (K : KO R) :
  acodeK C_yy33 raw (cf_yy33 c33 l_3) (lf_yy33 l_3) (loopBody Tryz.prog 71 3) (placeSt 24 0 [1, 2, 3, 4] [.ptr 0 [], .ptr 1 [], .own tZ0 2, .int .i64 v4] [.box (.st [.int .i64 v5, .arr 4 (.int .u64) v6, .sl tZ0 v7]) false, .box (.st [.int .i64 v8, .arr 4 (.int .u64) v9, .own tZ0 3]) false, .buf tZ0 v10 false, .buf tZ0 v11 false]) (loopKont C_yy33 (lf_yy33 l_3) 24 0 3 (loopBody Tryz.prog 71 3) K) =
   yy33_l3_b c33 l_3 v5 v6 v7 v8 v9 v11 (fun r0 r1 r2 r3 r4 r5 r6 => K (.exit 0) [.ptr 0 [], .ptr 1 [], .own tZ0 2] [.box (.st [.int .i64 r0, .arr 4 (.int .u64) r1, .sl tZ0 r2]) false, .box (.st [.int .i64 r3, .arr 4 (.int .u64) r4, .own tZ0 3]) false, .buf tZ0 r5 false, .buf tZ0 r6 false]) v4 v10 := by kernel_rfl
theorem eq_yy33 (c33 : T1 R) (l_3 : T26 R) (v1 : Int) (v2 : LI) (v3 : LZ0) (K : KS R) :
  runK C_yy33 raw (cf_yy33 c33 l_3) (lf_yy33 l_3) 71 [.st [.int .i64 v1, .arr 4 (.int .u64) v2, .sl tZ0 v3]] [] K =
   yy33_b c33 l_3 v1 v2 v3 (fun r0 r1 r2 => K (.st [.int .i64 r0, .arr 4 (.int .u64) r1, .own tZ0 0]) [.buf tZ0 r2 false]) := by kernel_rfl
def C_yy31 : Ctx := mkC [] [2] [(4, [2, 3, 4, 5])] [(4, [2, 3])] [(4, [])] []
def cf_yy31 (c43 : T24 R) (c39 : T2 R) (c33 : T1 R) (c35 : T2 R) (l_4 : T77 R) : CallF R := fun f av es K => iteH (decide (f = 70)) (sh70 c43 av es K) (iteH (decide (f = 52)) (sh52 c39 av es K) (iteH (decide (f = 71)) (sh71 c33 av es K) (iteH (decide (f = 53)) (sh53 c35 av es K) (none))))
noncomputable def sl_yy31_l4 (l_4 : T77 R) (vs : List S) (es : List Ent) (K : KO R) : Option R :=
 match vs, es with
 | [.ptr 0 [], .own t1 1, .own t2 2, .int .i64 v3], [.box (.st [.int .i64 v4, .arr 4 (.int .u64) v5, .own t3 3]) false, .buf t4 v6 false, .buf t5 v7 false, .buf t6 v8 false] => if q1 : t1 = tZ0 then if q2 : t2 = tZ0 then if q3 : t3 = tZ0 then if q4 : t4 = tZ0 then if q5 : t5 = tZ0 then if q6 : t6 = tZ0 then l_4 v4 v5 (castL q5 v7) (castL q6 v8) (fun r0 r1 r2 r3 => K .ret [.ptr 0 [], .own tZ0 1] [.box (.st [.int .i64 r0, .arr 4 (.int .u64) r1, .sl tZ0 r2]) false, .buf tZ0 r3 false]) (fun r0 r1 r2 r3 => K (.exit 0) [.ptr 0 [], .own tZ0 1] [.box (.st [.int .i64 r0, .arr 4 (.int .u64) r1, .own tZ0 2]) false, .buf tZ0 r2 false, .buf tZ0 r3 false]) v3 (castL q4 v6) else none else none else none else none else none else none
 | _, _ => none
def lf_yy31 (l_4 : T77 R) : LoopF R := fun m np id _ vs es K => iteH (decide (m = 47) && decide (np = 0)) (iteH (decide (id = 4)) (sl_yy31_l4 l_4 vs es K) (none)) none
theorem eq_yy31_l4 (c43 : T24 R) (c39 : T2 R) (c33 : T1 R) (c35 : T2 R) (l_4 : T77 R) (v3 v4 : Int) (v5 : LI) (v6 v7 v8 : LZ0) (K : KO R) :
  acodeK C_yy31 raw (cf_yy31 c43 c39 c33 c35 l_4) (lf_yy31 l_4) (loopBody Tryz.prog 54 4) (placeSt 47 0 [2, 3, 4, 5] [.ptr 0 [], .own tZ0 1, .own tZ0 2, .int .i64 v3] [.box (.st [.int .i64 v4, .arr 4 (.int .u64) v5, .own tZ0 3]) false, .buf tZ0 v6 false, .buf tZ0 v7 false, .buf tZ0 v8 false]) (loopKont C_yy31 (lf_yy31 l_4) 47 0 4 (loopBody Tryz.prog 54 4) K) =
   yy31_l4_b c43 c39 c33 c35 l_4 v4 v5 v7 v8 (fun r0 r1 r2 r3 => K .ret [.ptr 0 [], .own tZ0 1] [.box (.st [.int .i64 r0, .arr 4 (.int .u64) r1, .sl tZ0 r2]) false, .buf tZ0 r3 false]) (fun r0 r1 r2 r3 => K (.exit 0) [.ptr 0 [], .own tZ0 1] [.box (.st [.int .i64 r0, .arr 4 (.int .u64) r1, .own tZ0 2]) false, .buf tZ0 r2 false, .buf tZ0 r3 false]) v3 v6 := by kernel_rfl
theorem eq_yy31 (c43 : T24 R) (c39 : T2 R) (c33 : T1 R) (c35 : T2 R) (l_4 : T77 R) (v1 : LZ0) (K : KS R) :
  runK C_yy31 raw (cf_yy31 c43 c39 c33 c35 l_4) (lf_yy31 l_4) 54 [.sl tZ0 v1] [] K =
   yy31_b c43 c39 c33 c35 l_4 v1 (fun r0 r1 r2 => K (.st [.int .i64 r0, .arr 4 (.int .u64) r1, .sl tZ0 r2]) []) := by kernel_rfl
def C_yy20 : Ctx := mkC [] [] [(3, [1, 3, 4])] [(3, [3])] [(3, [])] []
def cf_yy20 (c19 : T0 R) (l_3 : T27 R) : CallF R := fun f av es K => iteH (decide (f = 82)) (sh82 c19 av es K) (none)
noncomputable def sl_yy20_l3 (l_3 : T27 R) (vs : List S) (es : List Ent) (K : KO R) : Option R :=
 match vs, es with
 | [.ptr 0 [], .own (.int .u8) 1, .int .i64 v2], [.box (.arr 4 (.int .u64) v3) false, .buf (.int .u8) v4 false] => l_3 v3 (fun r0 => K (.exit 0) [.own (.int .u8) 0] [.buf (.int .u8) r0 false]) v2 v4
 | _, _ => none
def lf_yy20 (l_3 : T27 R) : LoopF R := fun m np id _ vs es K => iteH (decide (m = 19) && decide (np = 0)) (iteH (decide (id = 3)) (sl_yy20_l3 l_3 vs es K) (none)) none
theorem eq_yy20_l3 (c19 : T0 R) (l_3 : T27 R) (v2 : Int) (v3 v4 : LI) (K : KO R) :
  acodeK C_yy20 raw (cf_yy20 c19 l_3) (lf_yy20 l_3) (loopBody Tryz.prog 74 3) (placeSt 19 0 [1, 3, 4] [.ptr 0 [], .own (.int .u8) 1, .int .i64 v2] [.box (.arr 4 (.int .u64) v3) false, .buf (.int .u8) v4 false]) (loopKont C_yy20 (lf_yy20 l_3) 19 0 3 (loopBody Tryz.prog 74 3) K) =
   yy20_l3_b c19 l_3 v3 (fun r0 => K (.exit 0) [.own (.int .u8) 0] [.buf (.int .u8) r0 false]) v2 v4 := by kernel_rfl
theorem eq_yy20 (c19 : T0 R) (l_3 : T27 R) (v1 : LI) (K : KS R) :
  runK C_yy20 raw (cf_yy20 c19 l_3) (lf_yy20 l_3) 74 [.arr 4 (.int .u64) v1] [] K =
   yy20_b c19 l_3 v1 (fun r0 => K (.own (.int .u8) 0) [.buf (.int .u8) r0 false]) := by kernel_rfl
def C_yy23 : Ctx := mkC [] [] [] [] [] [(1, [0, 1, 0, 7, 15, 31, 63])]
def cf_yy23 (c20 : LI → (LI → Option R) → Option R) (c22 : LI → (LI → Option R) → Option R) : CallF R := fun f av es K => iteH (decide (f = 74)) (sh74 c20 av es K) (iteH (decide (f = 69)) (sh69 c22 av es K) (none))
def lf_yy23 : LoopF R := fun m np id _ vs es K => none
theorem eq_yy23 (c20 : LI → (LI → Option R) → Option R) (c22 : LI → (LI → Option R) → Option R) (v1 v2 : LI) (K : KS R) :
  runK C_yy23 raw (cf_yy23 c20 c22) (lf_yy23) 72 [.arr 4 (.int .u64) v1, .arr 4 (.int .u64) v2] [] K =
   yy23_b c20 c22 v1 v2 (fun r0 => K (.arr 4 (.int .u64) r0) []) := by kernel_rfl
def C_yy25 : Ctx := mkC [] [] [(2, [2, 3, 5])] [(2, [4])] [(2, [])] [(4, [0, 0, 2, 7, 0, 0, 32, 127, 255])]
def cf_yy25 (c19 : T0 R) (l_2 : T28 R) : CallF R := fun f av es K => iteH (decide (f = 82)) (sh82 c19 av es K) (none)
noncomputable def sl_yy25_l2 (l_2 : T28 R) (vs : List S) (es : List Ent) (K : KO R) : Option R :=
 match vs, es with
 | [.ptr 0 [], .ptr 1 [], .int .i64 v3], [.box (.arr 4 (.int .u64) v4) false, .box (.arr 4 (.int .u64) v5) false] => l_2 v4 v5 (fun r0 => K .ret [.bool r0] []) (K (.exit 0) [.junk] []) v3
 | _, _ => none
def lf_yy25 (l_2 : T28 R) : LoopF R := fun m np id _ vs es K => iteH (decide (m = 23) && decide (np = 0)) (iteH (decide (id = 2)) (sl_yy25_l2 l_2 vs es K) (none)) none
theorem eq_yy25_l2 (c19 : T0 R) (l_2 : T28 R) (v3 : Int) (v4 v5 : LI) (K : KO R) :
  acodeK C_yy25 raw (cf_yy25 c19 l_2) (lf_yy25 l_2) (loopBody Tryz.prog 87 2) (placeSt 23 0 [2, 3, 5] [.ptr 0 [], .ptr 1 [], .int .i64 v3] [.box (.arr 4 (.int .u64) v4) false, .box (.arr 4 (.int .u64) v5) false]) (loopKont C_yy25 (lf_yy25 l_2) 23 0 2 (loopBody Tryz.prog 87 2) K) =
   yy25_l2_b c19 l_2 v4 v5 (fun r0 => K .ret [.bool r0] []) (K (.exit 0) [.junk] []) v3 := by kernel_rfl
theorem eq_yy25 (c19 : T0 R) (l_2 : T28 R) (v1 v2 : LI) (K : KS R) :
  runK C_yy25 raw (cf_yy25 c19 l_2) (lf_yy25 l_2) 87 [.arr 4 (.int .u64) v1, .arr 4 (.int .u64) v2] [] K =
   yy25_b c19 l_2 v1 v2 (fun r0 => K (.bool r0) []) := by kernel_rfl
def C_yy32 : Ctx := mkC [] [] [(10, [2, 3, 5])] [(10, [2, 3, 4])] [(10, [])] [(12, [0, 1, 0, 7, 15, 0, 32, 0, 224, 480, 1023, 2047])]
def cf_yy32 (c25 : T14 R) (c32 : T10 R) (l_10 : T78 R) : CallF R := fun f av es K => iteH (decide (f = 87)) (sh87 c25 av es K) (iteH (decide (f = 83)) (sh83 c32 av es K) (none))
noncomputable def sl_yy32_l10 (l_10 : T78 R) (vs : List S) (es : List Ent) (K : KO R) : Option R :=
 match vs, es with
 | [.ptr 0 [], .ptr 1 [], .int .i64 v9], [.box (.st [.int .i64 v10, .arr 4 (.int .u64) v11, .sl t1 v12]) false, .box (.st [.int .i64 v13, .arr 4 (.int .u64) v14, .sl t2 v15]) false] => if q1 : t1 = tZ0 then if q2 : t2 = tZ0 then l_10 v10 v11 (castL q1 v12) v13 v14 (castL q2 v15) (fun r0 r1 r2 r3 r4 r5 r6 => K .ret [.ptr 0 [], .ptr 1 [], .int .i64 r0] [.box (.st [.int .i64 r1, .arr 4 (.int .u64) r2, .sl tZ0 r3]) false, .box (.st [.int .i64 r4, .arr 4 (.int .u64) r5, .sl tZ0 r6]) false]) (fun r0 r1 r2 r3 r4 r5 => K (.exit 0) [.ptr 0 [], .ptr 1 [], .junk] [.box (.st [.int .i64 r0, .arr 4 (.int .u64) r1, .sl tZ0 r2]) false, .box (.st [.int .i64 r3, .arr 4 (.int .u64) r4, .sl tZ0 r5]) false]) v9 else none else none
 | _, _ => none
def lf_yy32 (l_10 : T78 R) : LoopF R := fun m np id _ vs es K => iteH (decide (m = 74) && decide (np = 0)) (iteH (decide (id = 10)) (sl_yy32_l10 l_10 vs es K) (none)) none
theorem eq_yy32_l10 (c25 : T14 R) (c32 : T10 R) (l_10 : T78 R) (v9 v10 : Int) (v11 : LI) (v12 : LZ0) (v13 : Int) (v14 : LI) (v15 : LZ0) (K : KO R) :
  acodeK C_yy32 raw (cf_yy32 c25 c32 l_10) (lf_yy32 l_10) (loopBody Tryz.prog 83 10) (placeSt 74 0 [2, 3, 5] [.ptr 0 [], .ptr 1 [], .int .i64 v9] [.box (.st [.int .i64 v10, .arr 4 (.int .u64) v11, .sl tZ0 v12]) false, .box (.st [.int .i64 v13, .arr 4 (.int .u64) v14, .sl tZ0 v15]) false]) (loopKont C_yy32 (lf_yy32 l_10) 74 0 10 (loopBody Tryz.prog 83 10) K) =
   yy32_l10_b c25 c32 l_10 v10 v11 v12 v13 v14 v15 (fun r0 r1 r2 r3 r4 r5 r6 => K .ret [.ptr 0 [], .ptr 1 [], .int .i64 r0] [.box (.st [.int .i64 r1, .arr 4 (.int .u64) r2, .sl tZ0 r3]) false, .box (.st [.int .i64 r4, .arr 4 (.int .u64) r5, .sl tZ0 r6]) false]) (fun r0 r1 r2 r3 r4 r5 => K (.exit 0) [.ptr 0 [], .ptr 1 [], .junk] [.box (.st [.int .i64 r0, .arr 4 (.int .u64) r1, .sl tZ0 r2]) false, .box (.st [.int .i64 r3, .arr 4 (.int .u64) r4, .sl tZ0 r5]) false]) v9 := by kernel_rfl
theorem eq_yy32 (c25 : T14 R) (c32 : T10 R) (l_10 : T78 R) (v1 : Int) (v2 : LI) (v3 : LZ0) (v4 : Int) (v5 : LI) (v6 : LZ0) (K : KS R) :
  runK C_yy32 raw (cf_yy32 c25 c32 l_10) (lf_yy32 l_10) 83 [.st [.int .i64 v1, .arr 4 (.int .u64) v2, .sl tZ0 v3], .st [.int .i64 v4, .arr 4 (.int .u64) v5, .sl tZ0 v6]] [] K =
   yy32_b c25 c32 l_10 v1 v2 v3 v4 v5 v6 (fun r0 => K (.int .i64 r0) []) := by kernel_rfl
def C_yy36 : Ctx := mkC [] [] [] [] [] []
def cf_yy36 (c32 : T10 R) : CallF R := fun f av es K => iteH (decide (f = 83)) (sh83 c32 av es K) (none)
def lf_yy36 : LoopF R := fun m np id _ vs es K => none
theorem eq_yy36 (c32 : T10 R) (v1 : Int) (v2 : LI) (v3 : LZ0) (v4 : Int) (v5 : LI) (v6 : LZ0) (K : KS R) :
  runK C_yy36 raw (cf_yy36 c32) (lf_yy36) 84 [.st [.int .i64 v1, .arr 4 (.int .u64) v2, .sl tZ0 v3], .st [.int .i64 v4, .arr 4 (.int .u64) v5, .sl tZ0 v6]] [] K =
   yy36_b c32 v1 v2 v3 v4 v5 v6 (fun r0 => K (.bool r0) []) := by kernel_rfl
def C_yy44 : Ctx := mkC [] [4] [(2, [0, 3, 5])] [(2, [0, 3, 5])] [(2, [])] [(2, [0, 0, 2, 7, 15, 31, 31, 127, 255, 31, 1023, 2047, 4095]), (4, [0, 0, 2, 7, 15, 31, 31, 127, 255, 31, 1023, 2047]), (6, [0, 0, 0, 6, 15, 0, 32, 127, 0, 0, 768, 2047, 4095])]
def cf_yy44 (c32 : T10 R) (c36 : T6 R) (l_2 : T79 R) : CallF R := fun f av es K => iteH (decide (f = 83)) (sh83 c32 av es K) (iteH (decide (f = 84)) (sh84 c36 av es K) (none))
noncomputable def sl_yy44_l2 (l_2 : T79 R) (vs : List S) (es : List Ent) (K : KO R) : Option R :=
 match vs, es with
 | [.sl t1 v5, .ptr 0 [], .int .i64 v6], [.box (.st [.int .i64 v7, .arr 4 (.int .u64) v8, .sl t2 v9]) false] => if q1 : t1 = tZ0 then if q2 : t2 = tZ0 then l_2 (castL q1 v5) v7 v8 (castL q2 v9) (fun r0 r1 r2 r3 r4 => K (.exit 0) [.sl tZ0 r0, .ptr 0 [], .int .i64 r1] [.box (.st [.int .i64 r2, .arr 4 (.int .u64) r3, .sl tZ0 r4]) false]) v6 else none else none
 | _, _ => none
def lf_yy44 (l_2 : T79 R) : LoopF R := fun m np id _ vs es K => iteH (decide (m = 46) && decide (np = 0)) (iteH (decide (id = 2)) (sl_yy44_l2 l_2 vs es K) (none)) none
theorem eq_yy44_l2 (c32 : T10 R) (c36 : T6 R) (l_2 : T79 R) (v5 : LZ0) (v6 v7 : Int) (v8 : LI) (v9 : LZ0) (K : KO R) :
  acodeK C_yy44 raw (cf_yy44 c32 c36 l_2) (lf_yy44 l_2) (loopBody Tryz.prog 73 2) (placeSt 46 0 [0, 3, 5] [.sl tZ0 v5, .ptr 0 [], .int .i64 v6] [.box (.st [.int .i64 v7, .arr 4 (.int .u64) v8, .sl tZ0 v9]) false]) (loopKont C_yy44 (lf_yy44 l_2) 46 0 2 (loopBody Tryz.prog 73 2) K) =
   yy44_l2_b c32 c36 l_2 v5 v7 v8 v9 (fun r0 r1 r2 r3 r4 => K (.exit 0) [.sl tZ0 r0, .ptr 0 [], .int .i64 r1] [.box (.st [.int .i64 r2, .arr 4 (.int .u64) r3, .sl tZ0 r4]) false]) v6 := by kernel_rfl
theorem eq_yy44 (c32 : T10 R) (c36 : T6 R) (l_2 : T79 R) (v1 : LZ0) (v2 : Int) (v3 : LI) (v4 : LZ0) (K : KS R) :
  runK C_yy44 raw (cf_yy44 c32 c36 l_2) (lf_yy44 l_2) 73 [.sl tZ0 v1, .st [.int .i64 v2, .arr 4 (.int .u64) v3, .sl tZ0 v4]] [] K =
   yy44_b c32 c36 l_2 v1 v2 v3 v4 (fun r0 => K (.sl tZ0 r0) []) := by kernel_rfl
def C_yy29 : Ctx := mkC [] [2, 3] [(5, [2, 3, 4, 5, 6])] [(5, [2, 3, 4])] [(5, [])] [(11, [0, 0, 0, 6, 14, 30, 63, 127])]
def cf_yy29 (c43 : T24 R) (c23 : T15 R) (c33 : T1 R) (c44 : T50 R) (c30 : T31 R) (c39 : T2 R) (l_5 : T80 R) : CallF R := fun f av es K => iteH (decide (f = 70)) (sh70 c43 av es K) (iteH (decide (f = 72)) (sh72 c23 av es K) (iteH (decide (f = 71)) (sh71 c33 av es K) (iteH (decide (f = 73)) (sh73 c44 av es K) (iteH (decide (f = 50)) (sh50 c30 av es K) (iteH (decide (f = 52)) (sh52 c39 av es K) (none))))))
noncomputable def sl_yy29_l5 (l_5 : T80 R) (vs : List S) (es : List Ent) (K : KO R) : Option R :=
 match vs, es with
 | [.ptr 0 [], .sl t1 v3, .ptr 1 [], .own t2 2, .int .i64 v4], [.box (.st [.int .i64 v5, .arr 4 (.int .u64) v6, .own t3 3]) false, .box (.arr 4 (.int .u64) v7) false, .buf t4 v8 false, .buf t5 v9 false] => if q1 : t1 = tZ0 then if q2 : t2 = tZ0 then if q3 : t3 = tZ0 then if q4 : t4 = tZ0 then if q5 : t5 = tZ0 then l_5 v5 v6 (castL q4 v8) (castL q5 v9) (fun r0 r1 r2 r3 r4 => K (.exit 0) [.ptr 0 [], .sl tZ0 r0, .ptr 1 []] [.box (.st [.int .i64 r1, .arr 4 (.int .u64) r2, .own tZ0 2]) false, .box (.arr 4 (.int .u64) r3) false, .buf tZ0 r4 false]) (castL q1 v3) v4 v7 else none else none else none else none else none
 | _, _ => none
def lf_yy29 (l_5 : T80 R) : LoopF R := fun m np id _ vs es K => iteH (decide (m = 57) && decide (np = 0)) (iteH (decide (id = 5)) (sl_yy29_l5 l_5 vs es K) (none)) none
theorem eq_yy29_l5 (c43 : T24 R) (c23 : T15 R) (c33 : T1 R) (c44 : T50 R) (c30 : T31 R) (c39 : T2 R) (l_5 : T80 R) (v3 : LZ0) (v4 v5 : Int) (v6 v7 : LI) (v8 v9 : LZ0) (K : KO R) :
  acodeK C_yy29 raw (cf_yy29 c43 c23 c33 c44 c30 c39 l_5) (lf_yy29 l_5) (loopBody Tryz.prog 55 5) (placeSt 57 0 [2, 3, 4, 5, 6] [.ptr 0 [], .sl tZ0 v3, .ptr 1 [], .own tZ0 2, .int .i64 v4] [.box (.st [.int .i64 v5, .arr 4 (.int .u64) v6, .own tZ0 3]) false, .box (.arr 4 (.int .u64) v7) false, .buf tZ0 v8 false, .buf tZ0 v9 false]) (loopKont C_yy29 (lf_yy29 l_5) 57 0 5 (loopBody Tryz.prog 55 5) K) =
   yy29_l5_b c43 c23 c33 c44 c30 c39 l_5 v5 v6 v8 v9 (fun r0 r1 r2 r3 r4 => K (.exit 0) [.ptr 0 [], .sl tZ0 r0, .ptr 1 []] [.box (.st [.int .i64 r1, .arr 4 (.int .u64) r2, .own tZ0 2]) false, .box (.arr 4 (.int .u64) r3) false, .buf tZ0 r4 false]) v3 v4 v7 := by kernel_rfl
theorem eq_yy29 (c43 : T24 R) (c23 : T15 R) (c33 : T1 R) (c44 : T50 R) (c30 : T31 R) (c39 : T2 R) (l_5 : T80 R) (v1 : LZ0) (K : KS R) :
  runK C_yy29 raw (cf_yy29 c43 c23 c33 c44 c30 c39 l_5) (lf_yy29 l_5) 55 [.sl tZ0 v1] [] K =
   yy29_b c43 c23 c33 c44 c30 c39 l_5 v1 (fun r0 r1 r2 => K (.st [.int .i64 r0, .arr 4 (.int .u64) r1, .sl tZ0 r2]) []) := by kernel_rfl
def C_yy42 : Ctx := mkC [] [] [(10, [1, 2, 3, 4])] [(10, [1, 2, 3])] [(10, [])] []
def cf_yy42 (c33 : T1 R) (c35 : T2 R) (c29 : T4 R) (c42 : T1 R) (l_10 : T26 R) : CallF R := fun f av es K => iteH (decide (f = 71)) (sh71 c33 av es K) (iteH (decide (f = 53)) (sh53 c35 av es K) (iteH (decide (f = 55)) (sh55 c29 av es K) (iteH (decide (f = 56)) (sh56 c42 av es K) (none))))
noncomputable def sl_yy42_l10 (l_10 : T26 R) (vs : List S) (es : List Ent) (K : KO R) : Option R :=
 match vs, es with
 | [.ptr 0 [], .ptr 1 [], .own t1 2, .int .i64 v11], [.box (.st [.int .i64 v12, .arr 4 (.int .u64) v13, .sl t2 v14]) false, .box (.st [.int .i64 v15, .arr 4 (.int .u64) v16, .own t3 3]) false, .buf t4 v17 false, .buf t5 v18 false] => if q1 : t1 = tZ0 then if q2 : t2 = tZ0 then if q3 : t3 = tZ0 then if q4 : t4 = tZ0 then if q5 : t5 = tZ0 then l_10 v12 v13 (castL q2 v14) v15 v16 (castL q5 v18) (fun r0 r1 r2 r3 r4 r5 r6 => K (.exit 1) [.ptr 0 [], .ptr 1 [], .own tZ0 2] [.box (.st [.int .i64 r0, .arr 4 (.int .u64) r1, .sl tZ0 r2]) false, .box (.st [.int .i64 r3, .arr 4 (.int .u64) r4, .own tZ0 3]) false, .buf tZ0 r5 false, .buf tZ0 r6 false]) v11 (castL q4 v17) else none else none else none else none else none
 | _, _ => none
def lf_yy42 (l_10 : T26 R) : LoopF R := fun m np id _ vs es K => iteH (decide (m = 52) && decide (np = 0)) (iteH (decide (id = 10)) (sl_yy42_l10 l_10 vs es K) (none)) none
theorem eq_yy42_l10 (c33 : T1 R) (c35 : T2 R) (c29 : T4 R) (c42 : T1 R) (l_10 : T26 R) (v11 v12 : Int) (v13 : LI) (v14 : LZ0) (v15 : Int) (v16 : LI) (v17 v18 : LZ0) (K : KO R) :
  acodeK C_yy42 raw (cf_yy42 c33 c35 c29 c42 l_10) (lf_yy42 l_10) (loopBody Tryz.prog 56 10) (placeSt 52 0 [1, 2, 3, 4] [.ptr 0 [], .ptr 1 [], .own tZ0 2, .int .i64 v11] [.box (.st [.int .i64 v12, .arr 4 (.int .u64) v13, .sl tZ0 v14]) false, .box (.st [.int .i64 v15, .arr 4 (.int .u64) v16, .own tZ0 3]) false, .buf tZ0 v17 false, .buf tZ0 v18 false]) (loopKont C_yy42 (lf_yy42 l_10) 52 0 10 (loopBody Tryz.prog 56 10) K) =
   yy42_l10_b c33 c35 c29 c42 l_10 v12 v13 v14 v15 v16 v18 (fun r0 r1 r2 r3 r4 r5 r6 => K (.exit 1) [.ptr 0 [], .ptr 1 [], .own tZ0 2] [.box (.st [.int .i64 r0, .arr 4 (.int .u64) r1, .sl tZ0 r2]) false, .box (.st [.int .i64 r3, .arr 4 (.int .u64) r4, .own tZ0 3]) false, .buf tZ0 r5 false, .buf tZ0 r6 false]) v11 v17 := by kernel_rfl
theorem eq_yy42 (c33 : T1 R) (c35 : T2 R) (c29 : T4 R) (c42 : T1 R) (l_10 : T26 R) (v1 : Int) (v2 : LI) (v3 : LZ0) (K : KS R) :
  runK C_yy42 raw (cf_yy42 c33 c35 c29 c42 l_10) (lf_yy42 l_10) 56 [.st [.int .i64 v1, .arr 4 (.int .u64) v2, .sl tZ0 v3]] [] K =
   yy42_b c33 c35 c29 c42 l_10 v1 v2 v3 (fun r0 r1 r2 => K (.st [.int .i64 r0, .arr 4 (.int .u64) r1, .own tZ0 0]) [.buf tZ0 r2 false]) := by kernel_rfl
def C_yy17 : Ctx := mkC [] [4] [] [] [] [(13, [0, 0, 0, 4, 14, 31, 63, 127]), (16, [0, 0, 0, 4, 14, 31, 63, 127])]
def cf_yy17 (c15 : T5 R) (c16 : T32 R) (c11 : T7 R) (c30 : T31 R) (c39 : T2 R) (c35 : T2 R) (c17 : T41 R) (c31 : T4 R) (c29 : T4 R) (c42 : T1 R) : CallF R := fun f av es K => iteH (decide (f = 31)) (sh31 c15 av es K) (iteH (decide (f = 12)) (sh12 c16 av es K) (iteH (decide (f = 51)) (sh51 c11 av es K) (iteH (decide (f = 50)) (sh50 c30 av es K) (iteH (decide (f = 52)) (sh52 c39 av es K) (iteH (decide (f = 53)) (sh53 c35 av es K) (iteH (decide (f = 45)) (sh45 c17 av es K) (iteH (decide (f = 54)) (sh54 c31 av es K) (iteH (decide (f = 55)) (sh55 c29 av es K) (iteH (decide (f = 56)) (sh56 c42 av es K) (none))))))))))
def lf_yy17 : LoopF R := fun m np id _ vs es K => none
theorem eq_yy17 (c15 : T5 R) (c16 : T32 R) (c11 : T7 R) (c30 : T31 R) (c39 : T2 R) (c35 : T2 R) (c17 : T41 R) (c31 : T4 R) (c29 : T4 R) (c42 : T1 R) (v1 : Int) (v2 : LI) (v3 : Int) (K : KS R) :
  runK C_yy17 raw (cf_yy17 c15 c16 c11 c30 c39 c35 c17 c31 c29 c42) (lf_yy17) 45 [.ptr 0 [], .int .i64 v1] [.box (.st [.sl (.int .u8) v2, .int .i64 v3]) false] K =
   yy17_b c15 c16 c11 c30 c39 c35 c17 c31 c29 c42 v1 v2 v3 (fun r0 r1 r2 r3 r4 => K (.st [.int .i64 r0, .arr 4 (.int .u64) r1, .sl tZ0 r2]) [.box (.st [.sl (.int .u8) r3, .int .i64 r4]) false]) := by kernel_rfl
def C_yy10 : Ctx := mkC [] [] [] [] [] []
def cf_yy10 (c17 : T41 R) : CallF R := fun f av es K => iteH (decide (f = 45)) (sh45 c17 av es K) (none)
def lf_yy10 : LoopF R := fun m np id _ vs es K => none
theorem eq_yy10 (c17 : T41 R) (v1 : LI) (v2 : Int) (K : KS R) :
  runK C_yy10 raw (cf_yy10 c17) (lf_yy10) 39 [.ptr 0 []] [.box (.st [.sl (.int .u8) v1, .int .i64 v2]) false] K =
   yy10_b c17 v1 v2 (fun r0 r1 r2 r3 r4 => K (.st [.int .i64 r0, .arr 4 (.int .u64) r1, .sl tZ0 r2]) [.box (.st [.sl (.int .u8) r3, .int .i64 r4]) false]) := by kernel_rfl
def C_yy41 : Ctx := mkC [] [] [(4, [2, 3, 5])] [(4, [4])] [(4, [])] [(6, [0, 1, 0, 7, 15, 0, 32, 0, 224, 480, 1023, 2047])]
def cf_yy41 (c41 : T6 R) (l_4 : T81 R) : CallF R := fun f av es K => iteH (decide (f = 57)) (sh57 c41 av es K) (none)
noncomputable def sl_yy41_l4 (l_4 : T81 R) (vs : List S) (es : List Ent) (K : KO R) : Option R :=
 match vs, es with
 | [.ptr 0 [], .ptr 1 [], .int .i64 v8], [.box (.st [.int .i64 v9, .arr 4 (.int .u64) v10, .sl t1 v11]) false, .box (.st [.int .i64 v12, .arr 4 (.int .u64) v13, .sl t2 v14]) false] => if q1 : t1 = tZ0 then if q2 : t2 = tZ0 then l_4 (castL q1 v11) (castL q2 v14) (fun r0 => K .ret [.bool r0] []) (K (.exit 0) [.junk] []) v8 else none else none
 | _, _ => none
def lf_yy41 (l_4 : T81 R) : LoopF R := fun m np id _ vs es K => iteH (decide (m = 46) && decide (np = 0)) (iteH (decide (id = 4)) (sl_yy41_l4 l_4 vs es K) (none)) none
theorem eq_yy41_l4 (c41 : T6 R) (l_4 : T81 R) (v8 v9 : Int) (v10 : LI) (v11 : LZ0) (v12 : Int) (v13 : LI) (v14 : LZ0) (K : KO R) :
  acodeK C_yy41 raw (cf_yy41 c41 l_4) (lf_yy41 l_4) (loopBody Tryz.prog 57 4) (placeSt 46 0 [2, 3, 5] [.ptr 0 [], .ptr 1 [], .int .i64 v8] [.box (.st [.int .i64 v9, .arr 4 (.int .u64) v10, .sl tZ0 v11]) false, .box (.st [.int .i64 v12, .arr 4 (.int .u64) v13, .sl tZ0 v14]) false]) (loopKont C_yy41 (lf_yy41 l_4) 46 0 4 (loopBody Tryz.prog 57 4) K) =
   yy41_l4_b c41 l_4 v11 v14 (fun r0 => K .ret [.bool r0] []) (K (.exit 0) [.junk] []) v8 := by kernel_rfl
theorem eq_yy41 (c41 : T6 R) (l_4 : T81 R) (v1 : Int) (v2 : LI) (v3 : LZ0) (v4 : Int) (v5 : LI) (v6 : LZ0) (K : KS R) :
  runK C_yy41 raw (cf_yy41 c41 l_4) (lf_yy41 l_4) 57 [.st [.int .i64 v1, .arr 4 (.int .u64) v2, .sl tZ0 v3], .st [.int .i64 v4, .arr 4 (.int .u64) v5, .sl tZ0 v6]] [] K =
   yy41_b c41 l_4 v1 v2 v3 v4 v5 v6 (fun r0 => K (.bool r0) []) := by kernel_rfl
def C_yy40 : Ctx := mkC [] [] [(2, [1, 3])] [(2, [1, 2])] [(2, [])] [(13, [0, 1, 0, 7, 15, 31, 63, 127, 255, 511, 1023, 2047, 4095, 8191, 2047, 32767, 65535, 131071]), (15, [0, 1, 0, 7, 15, 31, 63, 127, 255, 511, 1023, 2047, 4095, 8191, 2047, 32767, 65535, 131071])]
def cf_yy40 (c40 : T11 R) (c31 : T4 R) (c41 : T6 R) (c29 : T4 R) (l_2 : T82 R) : CallF R := fun f av es K => iteH (decide (f = 46)) (sh46 c40 av es K) (iteH (decide (f = 54)) (sh54 c31 av es K) (iteH (decide (f = 57)) (sh57 c41 av es K) (iteH (decide (f = 55)) (sh55 c29 av es K) (none))))
noncomputable def sl_yy40_l2 (l_2 : T82 R) (vs : List S) (es : List Ent) (K : KO R) : Option R :=
 match vs, es with
 | [.ptr 0 [], .int .i64 v4], [.box (.st [.int .i64 v5, .arr 4 (.int .u64) v6, .sl t1 v7]) false] => if q1 : t1 = tZ0 then l_2 v5 v6 (castL q1 v7) (fun r0 r1 r2 r3 => K .ret [.ptr 0 [], .bool r0] [.box (.st [.int .i64 r1, .arr 4 (.int .u64) r2, .sl tZ0 r3]) false]) (fun r0 r1 r2 => K (.exit 0) [.ptr 0 [], .junk] [.box (.st [.int .i64 r0, .arr 4 (.int .u64) r1, .sl tZ0 r2]) false]) v4 else none
 | _, _ => none
def lf_yy40 (l_2 : T82 R) : LoopF R := fun m np id _ vs es K => iteH (decide (m = 119) && decide (np = 0)) (iteH (decide (id = 2)) (sl_yy40_l2 l_2 vs es K) (none)) none
theorem eq_yy40_l2 (c40 : T11 R) (c31 : T4 R) (c41 : T6 R) (c29 : T4 R) (l_2 : T82 R) (v4 v5 : Int) (v6 : LI) (v7 : LZ0) (K : KO R) :
  acodeK C_yy40 raw (cf_yy40 c40 c31 c41 c29 l_2) (lf_yy40 l_2) (loopBody Tryz.prog 46 2) (placeSt 119 0 [1, 3] [.ptr 0 [], .int .i64 v4] [.box (.st [.int .i64 v5, .arr 4 (.int .u64) v6, .sl tZ0 v7]) false]) (loopKont C_yy40 (lf_yy40 l_2) 119 0 2 (loopBody Tryz.prog 46 2) K) =
   yy40_l2_b c40 c31 c41 c29 l_2 v5 v6 v7 (fun r0 r1 r2 r3 => K .ret [.ptr 0 [], .bool r0] [.box (.st [.int .i64 r1, .arr 4 (.int .u64) r2, .sl tZ0 r3]) false]) (fun r0 r1 r2 => K (.exit 0) [.ptr 0 [], .junk] [.box (.st [.int .i64 r0, .arr 4 (.int .u64) r1, .sl tZ0 r2]) false]) v4 := by kernel_rfl
theorem eq_yy40 (c40 : T11 R) (c31 : T4 R) (c41 : T6 R) (c29 : T4 R) (l_2 : T82 R) (v1 : Int) (v2 : LI) (v3 : LZ0) (K : KS R) :
  runK C_yy40 raw (cf_yy40 c40 c31 c41 c29 l_2) (lf_yy40 l_2) 46 [.st [.int .i64 v1, .arr 4 (.int .u64) v2, .sl tZ0 v3]] [] K =
   yy40_b c40 c31 c41 c29 l_2 v1 v2 v3 (fun r0 => K (.bool r0) []) := by kernel_rfl
def C_yy46 : Ctx := mkC [] [] [(2, [0, 1, 5])] [(2, [4])] [(2, [])] []
def cf_yy46 (l_2 : T29 R) : CallF R := fun f av es K => none
noncomputable def sl_yy46_l2 (l_2 : T29 R) (vs : List S) (es : List Ent) (K : KO R) : Option R :=
 match vs, es with
 | [.str v3, .int .u8 v4, .int .i64 v5], [] => l_2 v3 v4 (fun r0 => K .ret [.bool r0] []) (K (.exit 0) [.junk] []) v5
 | _, _ => none
def lf_yy46 (l_2 : T29 R) : LoopF R := fun m np id _ vs es K => iteH (decide (m = 17) && decide (np = 0)) (iteH (decide (id = 2)) (sl_yy46_l2 l_2 vs es K) (none)) none
theorem eq_yy46_l2 (l_2 : T29 R) (v3 : LI) (v4 v5 : Int) (K : KO R) :
  acodeK C_yy46 raw (cf_yy46 l_2) (lf_yy46 l_2) (loopBody Tryz.prog 85 2) (placeSt 17 0 [0, 1, 5] [.str v3, .int .u8 v4, .int .i64 v5] []) (loopKont C_yy46 (lf_yy46 l_2) 17 0 2 (loopBody Tryz.prog 85 2) K) =
   yy46_l2_b l_2 v3 v4 (fun r0 => K .ret [.bool r0] []) (K (.exit 0) [.junk] []) v5 := by kernel_rfl
theorem eq_yy46 (l_2 : T29 R) (v1 : LI) (v2 : Int) (K : KS R) :
  runK C_yy46 raw (cf_yy46 l_2) (lf_yy46 l_2) 85 [.str v1, .int .u8 v2] [] K =
   yy46_b l_2 v1 v2 (fun r0 => K (.bool r0) []) := by kernel_rfl
def C_yy48 : Ctx := mkC [] [] [] [] [] [(5, [0, 1, 3, 0, 8, 24, 63, 127, 255])]
def cf_yy48 (c46 : T0 R) : CallF R := fun f av es K => iteH (decide (f = 85)) (sh85 c46 av es K) (none)
def lf_yy48 : LoopF R := fun m np id _ vs es K => none
theorem eq_yy48 (c46 : T0 R) (v1 : Int) (K : KS R) :
  runK C_yy48 raw (cf_yy48 c46) (lf_yy48) 75 [.int .u8 v1] [] K =
   yy48_b c46 v1 (fun r0 => K (.str r0) []) := by kernel_rfl
def C_yy47 : Ctx := mkC [] [] [(8, [3, 4, 5]), (10, [3, 4, 5, 6])] [(8, [4]), (10, [3, 4, 5, 6])] [(8, []), (10, [])] [(10, [0, 1, 0, 4, 15, 31, 63, 63, 191, 511, 1023, 63, 63, 6207, 14399, 30783, 65535, 131071]), (17, [0, 0, 0, 6, 14, 30, 63, 0, 0, 384, 896, 1982, 4095, 8191]), (13, [0, 0, 0, 6, 14, 30, 63, 127, 0, 0, 768, 1792, 3902, 8191, 16383])]
def cf_yy47 (c20 : LI → (LI → Option R) → Option R) (c48 : Int → (LI → Option R) → Option R) (l_8 : T51 R) (l_10 : T52 R) : CallF R := fun f av es K => iteH (decide (f = 74)) (sh74 c20 av es K) (iteH (decide (f = 75)) (sh75 c48 av es K) (none))
noncomputable def sl_yy47_l8 (l_8 : T51 R) (vs : List S) (es : List Ent) (K : KO R) : Option R :=
 match vs, es with
 | [.own (.int .u8) 0, .str v4, .int .i64 v5], [.buf (.int .u8) v6 false] => l_8 (fun r0 => K (.exit 0) [.str r0] []) v4 v5 v6
 | _, _ => none
noncomputable def sl_yy47_l10 (l_10 : T52 R) (vs : List S) (es : List Ent) (K : KO R) : Option R :=
 match vs, es with
 | [.own (.int .u8) 0, .str v7, .int .i64 v8, .int .i64 v9], [.buf (.int .u8) v10 false] => l_10 v7 v8 v10 (fun r0 r1 r2 r3 => K (.exit 2) [.own (.int .u8) 0, .str r0, .int .i64 r1, .int .i64 r2] [.buf (.int .u8) r3 false]) v9
 | _, _ => none
def lf_yy47 (l_8 : T51 R) (l_10 : T52 R) : LoopF R := fun m np id _ vs es K => iteH (decide (m = 89) && decide (np = 0)) (iteH (decide (id = 8)) (sl_yy47_l8 l_8 vs es K) (iteH (decide (id = 10)) (sl_yy47_l10 l_10 vs es K) (none))) none
theorem eq_yy47_l8 (c20 : LI → (LI → Option R) → Option R) (c48 : Int → (LI → Option R) → Option R) (l_8 : T51 R) (l_10 : T52 R) (v4 : LI) (v5 : Int) (v6 : LI) (K : KO R) :
  acodeK C_yy47 raw (cf_yy47 c20 c48 l_8 l_10) (lf_yy47 l_8 l_10) (loopBody Tryz.prog 58 8) (placeSt 89 0 [3, 4, 5] [.own (.int .u8) 0, .str v4, .int .i64 v5] [.buf (.int .u8) v6 false]) (loopKont C_yy47 (lf_yy47 l_8 l_10) 89 0 8 (loopBody Tryz.prog 58 8) K) =
   yy47_l8_b c20 c48 l_8 l_10 (fun r0 => K (.exit 0) [.str r0] []) v4 v5 v6 := by kernel_rfl
theorem eq_yy47_l10 (c20 : LI → (LI → Option R) → Option R) (c48 : Int → (LI → Option R) → Option R) (l_8 : T51 R) (l_10 : T52 R) (v7 : LI) (v8 v9 : Int) (v10 : LI) (K : KO R) :
  acodeK C_yy47 raw (cf_yy47 c20 c48 l_8 l_10) (lf_yy47 l_8 l_10) (loopBody Tryz.prog 58 10) (placeSt 89 0 [3, 4, 5, 6] [.own (.int .u8) 0, .str v7, .int .i64 v8, .int .i64 v9] [.buf (.int .u8) v10 false]) (loopKont C_yy47 (lf_yy47 l_8 l_10) 89 0 10 (loopBody Tryz.prog 58 10) K) =
   yy47_l10_b c20 c48 l_8 l_10 v7 v8 v10 (fun r0 r1 r2 r3 => K (.exit 2) [.own (.int .u8) 0, .str r0, .int .i64 r1, .int .i64 r2] [.buf (.int .u8) r3 false]) v9 := by kernel_rfl
theorem eq_yy47 (c20 : LI → (LI → Option R) → Option R) (c48 : Int → (LI → Option R) → Option R) (l_8 : T51 R) (l_10 : T52 R) (v1 : LI) (K : KS R) :
  runK C_yy47 raw (cf_yy47 c20 c48 l_8 l_10) (lf_yy47 l_8 l_10) 58 [.arr 4 (.int .u64) v1] [] K =
   yy47_b c20 c48 l_8 l_10 v1 (fun r0 => K (.str r0) []) := by kernel_rfl
def C_yy49 : Ctx := mkC [] [] [(15, [1, 4, 5])] [(15, [4])] [(15, [])] []
def cf_yy49 (c47 : LI → (LI → Option R) → Option R) (c49 : T9 R) (l_15 : T83 R) : CallF R := fun f av es K => iteH (decide (f = 58)) (sh58 c47 av es K) (iteH (decide (f = 47)) (sh47 c49 av es K) (none))
noncomputable def sl_yy49_l15 (l_15 : T83 R) (vs : List S) (es : List Ent) (K : KO R) : Option R :=
 match vs, es with
 | [.ptr 0 [], .str v9, .int .i64 v10], [.box (.st [.int .i64 v11, .arr 4 (.int .u64) v12, .sl t1 v13]) false] => if q1 : t1 = tZ0 then l_15 v11 (castL q1 v13) (fun r0 => K (.exit 1) [.str r0] []) v9 v10 else none
 | _, _ => none
def lf_yy49 (l_15 : T83 R) : LoopF R := fun m np id _ vs es K => iteH (decide (m = 86) && decide (np = 0)) (iteH (decide (id = 15)) (sl_yy49_l15 l_15 vs es K) (none)) none
theorem eq_yy49_l15 (c47 : LI → (LI → Option R) → Option R) (c49 : T9 R) (l_15 : T83 R) (v9 : LI) (v10 v11 : Int) (v12 : LI) (v13 : LZ0) (K : KO R) :
  acodeK C_yy49 raw (cf_yy49 c47 c49 l_15) (lf_yy49 l_15) (loopBody Tryz.prog 47 15) (placeSt 86 0 [1, 4, 5] [.ptr 0 [], .str v9, .int .i64 v10] [.box (.st [.int .i64 v11, .arr 4 (.int .u64) v12, .sl tZ0 v13]) false]) (loopKont C_yy49 (lf_yy49 l_15) 86 0 15 (loopBody Tryz.prog 47 15) K) =
   yy49_l15_b c47 c49 l_15 v11 v13 (fun r0 => K (.exit 1) [.str r0] []) v9 v10 := by kernel_rfl
theorem eq_yy49 (c47 : LI → (LI → Option R) → Option R) (c49 : T9 R) (l_15 : T83 R) (v1 : Int) (v2 : LI) (v3 : LZ0) (K : KS R) :
  runK C_yy49 raw (cf_yy49 c47 c49 l_15) (lf_yy49 l_15) 47 [.st [.int .i64 v1, .arr 4 (.int .u64) v2, .sl tZ0 v3]] [] K =
   yy49_b c47 c49 l_15 v1 v2 v3 (fun r0 => K (.str r0) []) := by kernel_rfl
def C_yy45 : Ctx := mkC [] [] [] [] [] []
def cf_yy45 (c40 : T11 R) (c49 : T9 R) : CallF R := fun f av es K => iteH (decide (f = 46)) (sh46 c40 av es K) (iteH (decide (f = 47)) (sh47 c49 av es K) (none))
def lf_yy45 : LoopF R := fun m np id _ vs es K => none
theorem eq_yy45 (c40 : T11 R) (c49 : T9 R) (v1 : Int) (v2 : LI) (v3 : LZ0) (K : KS R) :
  runK C_yy45 raw (cf_yy45 c40 c49) (lf_yy45) 40 [.st [.int .i64 v1, .arr 4 (.int .u64) v2, .sl tZ0 v3]] [] K =
   yy45_b c40 c49 v1 v2 v3 (fun r0 => K (.str r0) []) := by kernel_rfl
def C_yy53 : Ctx := mkC [] [] [(1, [0, 1, 2, 6])] [(1, [])] [(1, [])] [(3, [0, 1, 3, 7, 0, 0, 48, 112, 0, 0, 512, 1536, 3584, 0, 0, 24576, 57344, 130560, 261632, 524032, 0, 2096896, 4194303, 8388607])]
def cf_yy53 (l_1 : T84 R) : CallF R := fun f av es K => none
noncomputable def sl_yy53_l1 (l_1 : T84 R) (vs : List S) (es : List Ent) (K : KO R) : Option R :=
 match vs, es with
 | [.ptr 0 [], .sl (.int .i64) v8, .sl (.int .i64) v9, .int .i64 v10], [.box (.st [.own (.arr 4 (.int .u64)) 1, .own (.int .i64) 2, .own (.int .i64) 3, .own (.slice (.int .i64)) 4, .bool v11]) false, .buf (.arr 4 (.int .u64)) v12 false, .buf (.int .i64) v13 false, .buf (.int .i64) v14 false, .buf (.slice (.int .i64)) v15 false] => l_1 v8 v9 v11 v12 v13 v14 (fun r0 r1 r2 r3 r4 => K (.exit 0) [] [.box (.st [.own (.arr 4 (.int .u64)) 1, .own (.int .i64) 2, .own (.int .i64) 3, .own (.slice (.int .i64)) 4, .bool r0]) false, .buf (.arr 4 (.int .u64)) r1 false, .buf (.int .i64) r2 false, .buf (.int .i64) r3 false, .buf (.slice (.int .i64)) r4 false]) v10 v15
 | _, _ => none
def lf_yy53 (l_1 : T84 R) : LoopF R := fun m np id _ vs es K => iteH (decide (m = 36) && decide (np = 1)) (iteH (decide (id = 1)) (sl_yy53_l1 l_1 vs es K) (none)) none
theorem eq_yy53_l1 (l_1 : T84 R) (v8 v9 : LI) (v10 : Int) (v11 : Bool) (v12 : LL) (v13 v14 : LI) (v15 : LL) (K : KO R) :
  acodeK C_yy53 raw (cf_yy53 l_1) (lf_yy53 l_1) (loopBody Tryz.prog 86 1) (placeSt 36 1 [0, 1, 2, 6] [.ptr 0 [], .sl (.int .i64) v8, .sl (.int .i64) v9, .int .i64 v10] [.box (.st [.own (.arr 4 (.int .u64)) 1, .own (.int .i64) 2, .own (.int .i64) 3, .own (.slice (.int .i64)) 4, .bool v11]) false, .buf (.arr 4 (.int .u64)) v12 false, .buf (.int .i64) v13 false, .buf (.int .i64) v14 false, .buf (.slice (.int .i64)) v15 false]) (loopKont C_yy53 (lf_yy53 l_1) 36 1 1 (loopBody Tryz.prog 86 1) K) =
   yy53_l1_b l_1 v8 v9 v11 v12 v13 v14 (fun r0 r1 r2 r3 r4 => K (.exit 0) [] [.box (.st [.own (.arr 4 (.int .u64)) 1, .own (.int .i64) 2, .own (.int .i64) 3, .own (.slice (.int .i64)) 4, .bool r0]) false, .buf (.arr 4 (.int .u64)) r1 false, .buf (.int .i64) r2 false, .buf (.int .i64) r3 false, .buf (.slice (.int .i64)) r4 false]) v10 v15 := by kernel_rfl
theorem eq_yy53 (l_1 : T84 R) (v1 v2 : LI) (v3 : Bool) (v4 : LL) (v5 v6 : LI) (v7 : LL) (K : KS R) :
  runK C_yy53 raw (cf_yy53 l_1) (lf_yy53 l_1) 86 [.ptr 0 [], .sl (.int .i64) v1, .sl (.int .i64) v2] [.box (.st [.own (.arr 4 (.int .u64)) 1, .own (.int .i64) 2, .own (.int .i64) 3, .own (.slice (.int .i64)) 4, .bool v3]) false, .buf (.arr 4 (.int .u64)) v4 false, .buf (.int .i64) v5 false, .buf (.int .i64) v6 false, .buf (.slice (.int .i64)) v7 false] K =
   yy53_b l_1 v1 v2 v3 v4 v5 v6 v7 (fun r0 r1 r2 r3 r4 => K (.tup []) [.box (.st [.own (.arr 4 (.int .u64)) 1, .own (.int .i64) 2, .own (.int .i64) 3, .own (.slice (.int .i64)) 4, .bool r0]) false, .buf (.arr 4 (.int .u64)) r1 false, .buf (.int .i64) r2 false, .buf (.int .i64) r3 false, .buf (.slice (.int .i64)) r4 false]) := by kernel_rfl
def C_yy55 : Ctx := mkC [] [4, 10, 134, 144, 147] [(16, [0, 3, 4, 7, 8]), (24, [0, 3, 4, 10, 11])] [(16, [4, 7]), (24, [4, 10])] [(16, []), (24, [])] [(6, [0, 0, 0, 4, 12, 28, 0, 64, 192, 508, 0, 1024, 3072, 7168, 0, 32764, 65533, 131069, 262141, 524287, 1048575, 2097151]), (19, [0, 1, 0, 4, 15, 0, 32, 0, 128, 511, 0, 1024, 4095, 8191, 16383, 32767, 3199, 73727, 204799, 466943, 1048575, 2097151]), (29, [0, 0, 2, 7, 0, 16, 63, 127, 255]), (31, [0, 0, 2, 7, 0, 16, 63, 127, 255])]
def cf_yy55 (c55 : T12 R) (c53 : T42 R) (l_16 : T53 R) (l_24 : T54 R) : CallF R := fun f av es K => iteH (decide (f = 76)) (sh76 c55 av es K) (iteH (decide (f = 86)) (sh86 c53 av es K) (none))
noncomputable def sl_yy55_l16 (l_16 : T53 R) (vs : List S) (es : List Ent) (K : KO R) : Option R :=
 match vs, es with
 | [.ptr 0 [], .ptr 1 [], .ptr 2 [], .ptr 3 [], .int .i64 v24], [.box (.st [.own (.arr 4 (.int .u64)) 4, .own (.int .i64) 5, .own (.int .i64) 6, .own (.slice (.int .i64)) 7, .bool v25]) false, .box (.st [.int .i64 v26, .arr 4 (.int .u64) v27, .sl t1 v28]) false, .box (.st [.own (.arr 4 (.int .u64)) 8, .own (.int .i64) 9, .own (.int .i64) 10, .own (.slice (.int .i64)) 11, .bool v29]) false, .box (.st [.own (.arr 4 (.int .u64)) 12, .own (.int .i64) 13, .own (.int .i64) 14, .own (.slice (.int .i64)) 15, .bool v30]) false, .buf (.arr 4 (.int .u64)) v31 false, .buf (.int .i64) v32 false, .buf (.int .i64) v33 false, .buf (.slice (.int .i64)) v34 false, .buf (.arr 4 (.int .u64)) v35 false, .buf (.int .i64) v36 false, .buf (.int .i64) v37 false, .buf (.slice (.int .i64)) v38 false, .buf (.arr 4 (.int .u64)) v39 false, .buf (.int .i64) v40 false, .buf (.int .i64) v41 false, .buf (.slice (.int .i64)) v42 false] => if q1 : t1 = tZ0 then l_16 (castL q1 v28) v29 v35 v36 v37 v38 v39 v42 (fun r0 r1 r2 r3 r4 r5 r6 r7 r8 r9 r10 r11 r12 r13 r14 => K (.exit 1) [.ptr 1 [], .ptr 2 []] [.box (.st [.own (.arr 4 (.int .u64)) 3, .own (.int .i64) 4, .own (.int .i64) 5, .own (.slice (.int .i64)) 6, .bool r0]) false, .box (.st [.own (.arr 4 (.int .u64)) 7, .own (.int .i64) 8, .own (.int .i64) 9, .own (.slice (.int .i64)) 10, .bool r1]) false, .box (.st [.own (.arr 4 (.int .u64)) 11, .own (.int .i64) 12, .own (.int .i64) 13, .own (.slice (.int .i64)) 14, .bool r2]) false, .buf (.arr 4 (.int .u64)) r3 false, .buf (.int .i64) r4 false, .buf (.int .i64) r5 false, .buf (.slice (.int .i64)) r6 false, .buf (.arr 4 (.int .u64)) r7 false, .buf (.int .i64) r8 false, .buf (.int .i64) r9 false, .buf (.slice (.int .i64)) r10 false, .buf (.arr 4 (.int .u64)) r11 false, .buf (.int .i64) r12 false, .buf (.int .i64) r13 false, .buf (.slice (.int .i64)) r14 false]) v24 v25 v30 v31 v32 v33 v34 v40 v41 else none
 | _, _ => none
noncomputable def sl_yy55_l24 (l_24 : T54 R) (vs : List S) (es : List Ent) (K : KO R) : Option R :=
 match vs, es with
 | [.ptr 0 [], .ptr 1 [], .ptr 2 [], .ptr 3 [], .int .i64 v68], [.box (.st [.own (.arr 4 (.int .u64)) 4, .own (.int .i64) 5, .own (.int .i64) 6, .own (.slice (.int .i64)) 7, .bool v69]) false, .box (.st [.int .i64 v70, .arr 4 (.int .u64) v71, .sl t1 v72]) false, .box (.st [.own (.arr 4 (.int .u64)) 8, .own (.int .i64) 9, .own (.int .i64) 10, .own (.slice (.int .i64)) 11, .bool v73]) false, .box (.st [.sl (.arr 4 (.int .u64)) v74, .sl (.int .i64) v75, .sl (.int .i64) v76, .sl (.slice (.int .i64)) v77, .bool v78]) false, .buf (.arr 4 (.int .u64)) v79 false, .buf (.int .i64) v80 false, .buf (.int .i64) v81 false, .buf (.slice (.int .i64)) v82 false, .buf (.arr 4 (.int .u64)) v83 false, .buf (.int .i64) v84 false, .buf (.int .i64) v85 false, .buf (.slice (.int .i64)) v86 false] => if q1 : t1 = tZ0 then l_24 (castL q1 v72) v73 v74 v77 v83 v84 v85 v86 (fun r0 r1 r2 r3 r4 r5 r6 r7 r8 r9 r10 r11 r12 r13 r14 => K (.exit 3) [.ptr 1 [], .ptr 2 []] [.box (.st [.own (.arr 4 (.int .u64)) 3, .own (.int .i64) 4, .own (.int .i64) 5, .own (.slice (.int .i64)) 6, .bool r0]) false, .box (.st [.own (.arr 4 (.int .u64)) 7, .own (.int .i64) 8, .own (.int .i64) 9, .own (.slice (.int .i64)) 10, .bool r1]) false, .box (.st [.sl (.arr 4 (.int .u64)) r2, .sl (.int .i64) r3, .sl (.int .i64) r4, .sl (.slice (.int .i64)) r5, .bool r6]) false, .buf (.arr 4 (.int .u64)) r7 false, .buf (.int .i64) r8 false, .buf (.int .i64) r9 false, .buf (.slice (.int .i64)) r10 false, .buf (.arr 4 (.int .u64)) r11 false, .buf (.int .i64) r12 false, .buf (.int .i64) r13 false, .buf (.slice (.int .i64)) r14 false]) v68 v69 v75 v76 v78 v79 v80 v81 v82 else none
 | _, _ => none
def lf_yy55 (l_16 : T53 R) (l_24 : T54 R) : LoopF R := fun m np id _ vs es K => iteH (decide (m = 157) && decide (np = 1)) (iteH (decide (id = 16)) (sl_yy55_l16 l_16 vs es K) (iteH (decide (id = 24)) (sl_yy55_l24 l_24 vs es K) (none))) none
theorem eq_yy55_l16 (c55 : T12 R) (c53 : T42 R) (l_16 : T53 R) (l_24 : T54 R) (v24 : Int) (v25 : Bool) (v26 : Int) (v27 : LI) (v28 : LZ0) (v29 v30 : Bool) (v31 : LL) (v32 v33 : LI) (v34 v35 : LL) (v36 v37 : LI) (v38 v39 : LL) (v40 v41 : LI) (v42 : LL) (K : KO R) :
  acodeK C_yy55 raw (cf_yy55 c55 c53 l_16 l_24) (lf_yy55 l_16 l_24) (loopBody Tryz.prog 76 16) (placeSt 157 1 [0, 3, 4, 7, 8] [.ptr 0 [], .ptr 1 [], .ptr 2 [], .ptr 3 [], .int .i64 v24] [.box (.st [.own (.arr 4 (.int .u64)) 4, .own (.int .i64) 5, .own (.int .i64) 6, .own (.slice (.int .i64)) 7, .bool v25]) false, .box (.st [.int .i64 v26, .arr 4 (.int .u64) v27, .sl tZ0 v28]) false, .box (.st [.own (.arr 4 (.int .u64)) 8, .own (.int .i64) 9, .own (.int .i64) 10, .own (.slice (.int .i64)) 11, .bool v29]) false, .box (.st [.own (.arr 4 (.int .u64)) 12, .own (.int .i64) 13, .own (.int .i64) 14, .own (.slice (.int .i64)) 15, .bool v30]) false, .buf (.arr 4 (.int .u64)) v31 false, .buf (.int .i64) v32 false, .buf (.int .i64) v33 false, .buf (.slice (.int .i64)) v34 false, .buf (.arr 4 (.int .u64)) v35 false, .buf (.int .i64) v36 false, .buf (.int .i64) v37 false, .buf (.slice (.int .i64)) v38 false, .buf (.arr 4 (.int .u64)) v39 false, .buf (.int .i64) v40 false, .buf (.int .i64) v41 false, .buf (.slice (.int .i64)) v42 false]) (loopKont C_yy55 (lf_yy55 l_16 l_24) 157 1 16 (loopBody Tryz.prog 76 16) K) =
   yy55_l16_b c55 c53 l_16 l_24 v28 v29 v35 v36 v37 v38 v39 v42 (fun r0 r1 r2 r3 r4 r5 r6 r7 r8 r9 r10 r11 r12 r13 r14 => K (.exit 1) [.ptr 1 [], .ptr 2 []] [.box (.st [.own (.arr 4 (.int .u64)) 3, .own (.int .i64) 4, .own (.int .i64) 5, .own (.slice (.int .i64)) 6, .bool r0]) false, .box (.st [.own (.arr 4 (.int .u64)) 7, .own (.int .i64) 8, .own (.int .i64) 9, .own (.slice (.int .i64)) 10, .bool r1]) false, .box (.st [.own (.arr 4 (.int .u64)) 11, .own (.int .i64) 12, .own (.int .i64) 13, .own (.slice (.int .i64)) 14, .bool r2]) false, .buf (.arr 4 (.int .u64)) r3 false, .buf (.int .i64) r4 false, .buf (.int .i64) r5 false, .buf (.slice (.int .i64)) r6 false, .buf (.arr 4 (.int .u64)) r7 false, .buf (.int .i64) r8 false, .buf (.int .i64) r9 false, .buf (.slice (.int .i64)) r10 false, .buf (.arr 4 (.int .u64)) r11 false, .buf (.int .i64) r12 false, .buf (.int .i64) r13 false, .buf (.slice (.int .i64)) r14 false]) v24 v25 v30 v31 v32 v33 v34 v40 v41 := by kernel_rfl
theorem eq_yy55_l24 (c55 : T12 R) (c53 : T42 R) (l_16 : T53 R) (l_24 : T54 R) (v68 : Int) (v69 : Bool) (v70 : Int) (v71 : LI) (v72 : LZ0) (v73 : Bool) (v74 : LL) (v75 v76 : LI) (v77 : LL) (v78 : Bool) (v79 : LL) (v80 v81 : LI) (v82 v83 : LL) (v84 v85 : LI) (v86 : LL) (K : KO R) :
  acodeK C_yy55 raw (cf_yy55 c55 c53 l_16 l_24) (lf_yy55 l_16 l_24) (loopBody Tryz.prog 76 24) (placeSt 157 1 [0, 3, 4, 10, 11] [.ptr 0 [], .ptr 1 [], .ptr 2 [], .ptr 3 [], .int .i64 v68] [.box (.st [.own (.arr 4 (.int .u64)) 4, .own (.int .i64) 5, .own (.int .i64) 6, .own (.slice (.int .i64)) 7, .bool v69]) false, .box (.st [.int .i64 v70, .arr 4 (.int .u64) v71, .sl tZ0 v72]) false, .box (.st [.own (.arr 4 (.int .u64)) 8, .own (.int .i64) 9, .own (.int .i64) 10, .own (.slice (.int .i64)) 11, .bool v73]) false, .box (.st [.sl (.arr 4 (.int .u64)) v74, .sl (.int .i64) v75, .sl (.int .i64) v76, .sl (.slice (.int .i64)) v77, .bool v78]) false, .buf (.arr 4 (.int .u64)) v79 false, .buf (.int .i64) v80 false, .buf (.int .i64) v81 false, .buf (.slice (.int .i64)) v82 false, .buf (.arr 4 (.int .u64)) v83 false, .buf (.int .i64) v84 false, .buf (.int .i64) v85 false, .buf (.slice (.int .i64)) v86 false]) (loopKont C_yy55 (lf_yy55 l_16 l_24) 157 1 24 (loopBody Tryz.prog 76 24) K) =
   yy55_l24_b c55 c53 l_16 l_24 v72 v73 v74 v77 v83 v84 v85 v86 (fun r0 r1 r2 r3 r4 r5 r6 r7 r8 r9 r10 r11 r12 r13 r14 => K (.exit 3) [.ptr 1 [], .ptr 2 []] [.box (.st [.own (.arr 4 (.int .u64)) 3, .own (.int .i64) 4, .own (.int .i64) 5, .own (.slice (.int .i64)) 6, .bool r0]) false, .box (.st [.own (.arr 4 (.int .u64)) 7, .own (.int .i64) 8, .own (.int .i64) 9, .own (.slice (.int .i64)) 10, .bool r1]) false, .box (.st [.sl (.arr 4 (.int .u64)) r2, .sl (.int .i64) r3, .sl (.int .i64) r4, .sl (.slice (.int .i64)) r5, .bool r6]) false, .buf (.arr 4 (.int .u64)) r7 false, .buf (.int .i64) r8 false, .buf (.int .i64) r9 false, .buf (.slice (.int .i64)) r10 false, .buf (.arr 4 (.int .u64)) r11 false, .buf (.int .i64) r12 false, .buf (.int .i64) r13 false, .buf (.slice (.int .i64)) r14 false]) v68 v69 v75 v76 v78 v79 v80 v81 v82 := by kernel_rfl
theorem eq_yy55 (c55 : T12 R) (c53 : T42 R) (l_16 : T53 R) (l_24 : T54 R) (v1 : Int) (v2 : LI) (v3 : LZ0) (v4 : Bool) (v5 : LL) (v6 v7 : LI) (v8 : LL) (K : KS R) :
  runK C_yy55 raw (cf_yy55 c55 c53 l_16 l_24) (lf_yy55 l_16 l_24) 76 [.ptr 0 [], .st [.int .i64 v1, .arr 4 (.int .u64) v2, .sl tZ0 v3]] [.box (.st [.own (.arr 4 (.int .u64)) 1, .own (.int .i64) 2, .own (.int .i64) 3, .own (.slice (.int .i64)) 4, .bool v4]) false, .buf (.arr 4 (.int .u64)) v5 false, .buf (.int .i64) v6 false, .buf (.int .i64) v7 false, .buf (.slice (.int .i64)) v8 false] K =
   yy55_b c55 c53 l_16 l_24 v1 v2 v3 v4 v5 v6 v7 v8 (fun r0 r1 r2 r3 r4 r5 r6 r7 r8 r9 => K (.st [.sl (.arr 4 (.int .u64)) r0, .sl (.int .i64) r1, .sl (.int .i64) r2, .sl (.slice (.int .i64)) r3, .bool r4]) [.box (.st [.own (.arr 4 (.int .u64)) 1, .own (.int .i64) 2, .own (.int .i64) 3, .own (.slice (.int .i64)) 4, .bool r5]) false, .buf (.arr 4 (.int .u64)) r6 false, .buf (.int .i64) r7 false, .buf (.int .i64) r8 false, .buf (.slice (.int .i64)) r9 false]) := by kernel_rfl
def C_yy52 : Ctx := mkC [] [] [] [] [] [(3, [0, 1, 3, 7, 0, 16, 0, 64, 0, 256, 768, 1792, 0, 4096, 16383, 32767])]
def cf_yy52 (c55 : T12 R) : CallF R := fun f av es K => iteH (decide (f = 76)) (sh76 c55 av es K) (none)
def lf_yy52 : LoopF R := fun m np id _ vs es K => none
theorem eq_yy52 (c55 : T12 R) (v1 : Int) (v2 : LI) (v3 : LZ0) (K : KS R) :
  runK C_yy52 raw (cf_yy52 c55) (lf_yy52) 59 [.st [.int .i64 v1, .arr 4 (.int .u64) v2, .sl tZ0 v3]] [] K =
   yy52_b c55 v1 v2 v3 (fun r0 r1 r2 r3 r4 => K (.st [.own (.arr 4 (.int .u64)) 0, .sl (.int .i64) r0, .sl (.int .i64) r1, .own (.slice (.int .i64)) 1, .bool r2]) [.buf (.arr 4 (.int .u64)) r3 false, .buf (.slice (.int .i64)) r4 false]) := by kernel_rfl
def C_yy27 : Ctx := mkC [] [] [(2, [0, 1, 2, 7])] [(2, [6])] [(2, [])] [(4, [0, 0, 3, 7, 0, 31, 0, 0, 192, 448, 0, 2047, 4095])]
def cf_yy27 (c19 : T0 R) (l_2 : T85 R) : CallF R := fun f av es K => iteH (decide (f = 82)) (sh82 c19 av es K) (none)
noncomputable def sl_yy27_l2 (l_2 : T85 R) (vs : List S) (es : List Ent) (K : KO R) : Option R :=
 match vs, es with
 | [.sl (.arr 4 (.int .u64)) v4, .int .u8 v5, .int .u8 v6, .int .i64 v7], [] => l_2 v4 v5 v6 (fun r0 => K .ret [.bool r0] []) (K (.exit 0) [.junk] []) v7
 | _, _ => none
def lf_yy27 (l_2 : T85 R) : LoopF R := fun m np id _ vs es K => iteH (decide (m = 27) && decide (np = 0)) (iteH (decide (id = 2)) (sl_yy27_l2 l_2 vs es K) (none)) none
theorem eq_yy27_l2 (c19 : T0 R) (l_2 : T85 R) (v4 : LL) (v5 v6 v7 : Int) (K : KO R) :
  acodeK C_yy27 raw (cf_yy27 c19 l_2) (lf_yy27 l_2) (loopBody Tryz.prog 77 2) (placeSt 27 0 [0, 1, 2, 7] [.sl (.arr 4 (.int .u64)) v4, .int .u8 v5, .int .u8 v6, .int .i64 v7] []) (loopKont C_yy27 (lf_yy27 l_2) 27 0 2 (loopBody Tryz.prog 77 2) K) =
   yy27_l2_b c19 l_2 v4 v5 v6 (fun r0 => K .ret [.bool r0] []) (K (.exit 0) [.junk] []) v7 := by kernel_rfl
theorem eq_yy27 (c19 : T0 R) (l_2 : T85 R) (v1 : LL) (v2 v3 : Int) (K : KS R) :
  runK C_yy27 raw (cf_yy27 c19 l_2) (lf_yy27 l_2) 77 [.sl (.arr 4 (.int .u64)) v1, .int .u8 v2, .int .u8 v3] [] K =
   yy27_b c19 l_2 v1 v2 v3 (fun r0 => K (.bool r0) []) := by kernel_rfl
def C_yy18 : Ctx := mkC [] [] [(4, [0, 2, 4, 5, 6]), (7, [0, 2, 4, 5, 6, 7])] [(4, [2, 4, 5]), (7, [0, 2, 4, 5, 6, 7])] [(4, []), (7, [])] []
def cf_yy18 (c27 : T43 R) (l_4 : T55 R) (l_7 : T56 R) : CallF R := fun f av es K => iteH (decide (f = 77)) (sh77 c27 av es K) (none)
noncomputable def sl_yy18_l4 (l_4 : T55 R) (vs : List S) (es : List Ent) (K : KO R) : Option R :=
 match vs, es with
 | [.sl (.arr 4 (.int .u64)) v2, .ptr 0 [], .ptr 1 [], .own (.int .i64) 2, .int .i64 v3], [.box (.arr 256 (.int .u8) v4) false, .box (.arr 256 (.int .u8) v5) false, .buf (.int .i64) v6 false] => l_4 (fun r0 r1 r2 => K (.exit 0) [.ptr 0 [], .ptr 1 [], .own (.int .i64) 2] [.box (.arr 256 (.int .u8) r0) false, .box (.arr 256 (.int .u8) r1) false, .buf (.int .i64) r2 false]) v2 v3 v4 v5 v6
 | _, _ => none
noncomputable def sl_yy18_l7 (l_7 : T56 R) (vs : List S) (es : List Ent) (K : KO R) : Option R :=
 match vs, es with
 | [.sl (.arr 4 (.int .u64)) v7, .ptr 0 [], .ptr 1 [], .own (.int .i64) 2, .int .i64 v8, .int .i64 v9], [.box (.arr 256 (.int .u8) v10) false, .box (.arr 256 (.int .u8) v11) false, .buf (.int .i64) v12 false] => l_7 v7 v8 v10 v11 v12 (fun r0 r1 r2 r3 r4 r5 => K (.exit 2) [.sl (.arr 4 (.int .u64)) r0, .ptr 0 [], .ptr 1 [], .own (.int .i64) 2, .int .i64 r1, .int .i64 r2] [.box (.arr 256 (.int .u8) r3) false, .box (.arr 256 (.int .u8) r4) false, .buf (.int .i64) r5 false]) v9
 | _, _ => none
def lf_yy18 (l_4 : T55 R) (l_7 : T56 R) : LoopF R := fun m np id _ vs es K => iteH (decide (m = 45) && decide (np = 0)) (iteH (decide (id = 4)) (sl_yy18_l4 l_4 vs es K) (iteH (decide (id = 7)) (sl_yy18_l7 l_7 vs es K) (none))) none
theorem eq_yy18_l4 (c27 : T43 R) (l_4 : T55 R) (l_7 : T56 R) (v2 : LL) (v3 : Int) (v4 v5 v6 : LI) (K : KO R) :
  acodeK C_yy18 raw (cf_yy18 c27 l_4 l_7) (lf_yy18 l_4 l_7) (loopBody Tryz.prog 60 4) (placeSt 45 0 [0, 2, 4, 5, 6] [.sl (.arr 4 (.int .u64)) v2, .ptr 0 [], .ptr 1 [], .own (.int .i64) 2, .int .i64 v3] [.box (.arr 256 (.int .u8) v4) false, .box (.arr 256 (.int .u8) v5) false, .buf (.int .i64) v6 false]) (loopKont C_yy18 (lf_yy18 l_4 l_7) 45 0 4 (loopBody Tryz.prog 60 4) K) =
   yy18_l4_b c27 l_4 l_7 (fun r0 r1 r2 => K (.exit 0) [.ptr 0 [], .ptr 1 [], .own (.int .i64) 2] [.box (.arr 256 (.int .u8) r0) false, .box (.arr 256 (.int .u8) r1) false, .buf (.int .i64) r2 false]) v2 v3 v4 v5 v6 := by kernel_rfl
theorem eq_yy18_l7 (c27 : T43 R) (l_4 : T55 R) (l_7 : T56 R) (v7 : LL) (v8 v9 : Int) (v10 v11 v12 : LI) (K : KO R) :
  acodeK C_yy18 raw (cf_yy18 c27 l_4 l_7) (lf_yy18 l_4 l_7) (loopBody Tryz.prog 60 7) (placeSt 45 0 [0, 2, 4, 5, 6, 7] [.sl (.arr 4 (.int .u64)) v7, .ptr 0 [], .ptr 1 [], .own (.int .i64) 2, .int .i64 v8, .int .i64 v9] [.box (.arr 256 (.int .u8) v10) false, .box (.arr 256 (.int .u8) v11) false, .buf (.int .i64) v12 false]) (loopKont C_yy18 (lf_yy18 l_4 l_7) 45 0 7 (loopBody Tryz.prog 60 7) K) =
   yy18_l7_b c27 l_4 l_7 v7 v8 v10 v11 v12 (fun r0 r1 r2 r3 r4 r5 => K (.exit 2) [.sl (.arr 4 (.int .u64)) r0, .ptr 0 [], .ptr 1 [], .own (.int .i64) 2, .int .i64 r1, .int .i64 r2] [.box (.arr 256 (.int .u8) r3) false, .box (.arr 256 (.int .u8) r4) false, .buf (.int .i64) r5 false]) v9 := by kernel_rfl
theorem eq_yy18 (c27 : T43 R) (l_4 : T55 R) (l_7 : T56 R) (v1 : LL) (K : KS R) :
  runK C_yy18 raw (cf_yy18 c27 l_4 l_7) (lf_yy18 l_4 l_7) 60 [.sl (.arr 4 (.int .u64)) v1] [] K =
   yy18_b c27 l_4 l_7 v1 (fun r0 r1 => K (.tup [.arr 256 (.int .u8) r0, .int .i64 r1]) []) := by kernel_rfl
def C_yy50 : Ctx := mkC [] [] [(3, [2, 5, 6])] [(3, [5])] [(3, [])] []
def cf_yy50 (l_3 : T27 R) : CallF R := fun f av es K => none
noncomputable def sl_yy50_l3 (l_3 : T27 R) (vs : List S) (es : List Ent) (K : KO R) : Option R :=
 match vs, es with
 | [.ptr 0 [], .own (.int .u8) 1, .int .i64 v3], [.box (.arr 256 (.int .u8) v4) false, .buf (.int .u8) v5 false] => l_3 v4 (fun r0 => K (.exit 0) [.own (.int .u8) 0] [.buf (.int .u8) r0 false]) v3 v5
 | _, _ => none
def lf_yy50 (l_3 : T27 R) : LoopF R := fun m np id _ vs es K => iteH (decide (m = 21) && decide (np = 0)) (iteH (decide (id = 3)) (sl_yy50_l3 l_3 vs es K) (none)) none
theorem eq_yy50_l3 (l_3 : T27 R) (v3 : Int) (v4 v5 : LI) (K : KO R) :
  acodeK C_yy50 raw (cf_yy50 l_3) (lf_yy50 l_3) (loopBody Tryz.prog 61 3) (placeSt 21 0 [2, 5, 6] [.ptr 0 [], .own (.int .u8) 1, .int .i64 v3] [.box (.arr 256 (.int .u8) v4) false, .buf (.int .u8) v5 false]) (loopKont C_yy50 (lf_yy50 l_3) 21 0 3 (loopBody Tryz.prog 61 3) K) =
   yy50_l3_b l_3 v4 (fun r0 => K (.exit 0) [.own (.int .u8) 0] [.buf (.int .u8) r0 false]) v3 v5 := by kernel_rfl
theorem eq_yy50 (l_3 : T27 R) (v1 : LI) (v2 : Int) (K : KS R) :
  runK C_yy50 raw (cf_yy50 l_3) (lf_yy50 l_3) 61 [.arr 256 (.int .u8) v1, .int .i64 v2] [] K =
   yy50_b l_3 v1 v2 (fun r0 => K (.own (.int .u8) 0) [.buf (.int .u8) r0 false]) := by kernel_rfl
def C_yy59 : Ctx := mkC [] [] [(2, [0, 1, 5])] [(2, [4])] [(2, [])] []
def cf_yy59 (l_2 : T29 R) : CallF R := fun f av es K => none
noncomputable def sl_yy59_l2 (l_2 : T29 R) (vs : List S) (es : List Ent) (K : KO R) : Option R :=
 match vs, es with
 | [.sl (.int .i64) v3, .int .i64 v4, .int .i64 v5], [] => l_2 v3 v4 (fun r0 => K .ret [.bool r0] []) (K (.exit 0) [.junk] []) v5
 | _, _ => none
def lf_yy59 (l_2 : T29 R) : LoopF R := fun m np id _ vs es K => iteH (decide (m = 18) && decide (np = 0)) (iteH (decide (id = 2)) (sl_yy59_l2 l_2 vs es K) (none)) none
theorem eq_yy59_l2 (l_2 : T29 R) (v3 : LI) (v4 v5 : Int) (K : KO R) :
  acodeK C_yy59 raw (cf_yy59 l_2) (lf_yy59 l_2) (loopBody Tryz.prog 62 2) (placeSt 18 0 [0, 1, 5] [.sl (.int .i64) v3, .int .i64 v4, .int .i64 v5] []) (loopKont C_yy59 (lf_yy59 l_2) 18 0 2 (loopBody Tryz.prog 62 2) K) =
   yy59_l2_b l_2 v3 v4 (fun r0 => K .ret [.bool r0] []) (K (.exit 0) [.junk] []) v5 := by kernel_rfl
theorem eq_yy59 (l_2 : T29 R) (v1 : LI) (v2 : Int) (K : KS R) :
  runK C_yy59 raw (cf_yy59 l_2) (lf_yy59 l_2) 62 [.sl (.int .i64) v1, .int .i64 v2] [] K =
   yy59_b l_2 v1 v2 (fun r0 => K (.bool r0) []) := by kernel_rfl
def C_yy54 : Ctx := mkC [] [] [(2, [1, 2, 3, 4, 8])] [(2, [])] [(2, [])] [(4, [0, 0, 0, 6, 14, 0, 0, 0, 192, 448, 992, 2016, 4064, 8160, 16352, 8160, 8160, 106464, 237536, 524256, 1048544, 8160, 4194272, 8388576, 16777215, 33554431])]
def cf_yy54 (c19 : T0 R) (l_2 : T86 R) : CallF R := fun f av es K => iteH (decide (f = 82)) (sh82 c19 av es K) (none)
noncomputable def sl_yy54_l2 (l_2 : T86 R) (vs : List S) (es : List Ent) (K : KO R) : Option R :=
 match vs, es with
 | [.own .bool 0, .sl (.int .i64) v9, .int .u8 v10, .ptr 1 [], .int .i64 v11], [.buf .bool v12 false, .box (.st [.sl (.arr 4 (.int .u64)) v13, .sl (.int .i64) v14, .sl (.int .i64) v15, .sl (.slice (.int .i64)) v16, .bool v17]) false] => l_2 v9 v10 v13 (fun r0 => K (.exit 0) [] [.buf .bool r0 false]) v11 v12
 | _, _ => none
def lf_yy54 (l_2 : T86 R) : LoopF R := fun m np id _ vs es K => iteH (decide (m = 40) && decide (np = 1)) (iteH (decide (id = 2)) (sl_yy54_l2 l_2 vs es K) (none)) none
theorem eq_yy54_l2 (c19 : T0 R) (l_2 : T86 R) (v9 : LI) (v10 v11 : Int) (v12 : LB) (v13 : LL) (v14 v15 : LI) (v16 : LL) (v17 : Bool) (K : KO R) :
  acodeK C_yy54 raw (cf_yy54 c19 l_2) (lf_yy54 l_2) (loopBody Tryz.prog 78 2) (placeSt 40 1 [1, 2, 3, 4, 8] [.own .bool 0, .sl (.int .i64) v9, .int .u8 v10, .ptr 1 [], .int .i64 v11] [.buf .bool v12 false, .box (.st [.sl (.arr 4 (.int .u64)) v13, .sl (.int .i64) v14, .sl (.int .i64) v15, .sl (.slice (.int .i64)) v16, .bool v17]) false]) (loopKont C_yy54 (lf_yy54 l_2) 40 1 2 (loopBody Tryz.prog 78 2) K) =
   yy54_l2_b c19 l_2 v9 v10 v13 (fun r0 => K (.exit 0) [] [.buf .bool r0 false]) v11 v12 := by kernel_rfl
theorem eq_yy54 (c19 : T0 R) (l_2 : T86 R) (v1 : LL) (v2 v3 : LI) (v4 : LL) (v5 : Bool) (v6 : LI) (v7 : Int) (v8 : LB) (K : KS R) :
  runK C_yy54 raw (cf_yy54 c19 l_2) (lf_yy54 l_2) 78 [.st [.sl (.arr 4 (.int .u64)) v1, .sl (.int .i64) v2, .sl (.int .i64) v3, .sl (.slice (.int .i64)) v4, .bool v5], .own .bool 0, .sl (.int .i64) v6, .int .u8 v7] [.buf .bool v8 false] K =
   yy54_b c19 l_2 v1 v2 v3 v4 v5 v6 v7 v8 (fun r0 => K (.tup []) [.buf .bool r0 false]) := by kernel_rfl
def C_yy60 : Ctx := mkC [] [] [(3, [0, 3, 4])] [(3, [3])] [(3, [])] []
def cf_yy60 (l_3 : T87 R) : CallF R := fun f av es K => none
noncomputable def sl_yy60_l3 (l_3 : T87 R) (vs : List S) (es : List Ent) (K : KO R) : Option R :=
 match vs, es with
 | [.sl .bool v2, .own (.int .i64) 0, .int .i64 v3], [.buf (.int .i64) v4 false] => l_3 v2 (fun r0 => K (.exit 0) [.own (.int .i64) 0] [.buf (.int .i64) r0 false]) v3 v4
 | _, _ => none
def lf_yy60 (l_3 : T87 R) : LoopF R := fun m np id _ vs es K => iteH (decide (m = 20) && decide (np = 0)) (iteH (decide (id = 3)) (sl_yy60_l3 l_3 vs es K) (none)) none
theorem eq_yy60_l3 (l_3 : T87 R) (v2 : LB) (v3 : Int) (v4 : LI) (K : KO R) :
  acodeK C_yy60 raw (cf_yy60 l_3) (lf_yy60 l_3) (loopBody Tryz.prog 79 3) (placeSt 20 0 [0, 3, 4] [.sl .bool v2, .own (.int .i64) 0, .int .i64 v3] [.buf (.int .i64) v4 false]) (loopKont C_yy60 (lf_yy60 l_3) 20 0 3 (loopBody Tryz.prog 79 3) K) =
   yy60_l3_b l_3 v2 (fun r0 => K (.exit 0) [.own (.int .i64) 0] [.buf (.int .i64) r0 false]) v3 v4 := by kernel_rfl
theorem eq_yy60 (l_3 : T87 R) (v1 : LB) (K : KS R) :
  runK C_yy60 raw (cf_yy60 l_3) (lf_yy60 l_3) 79 [.sl .bool v1] [] K =
   yy60_b l_3 v1 (fun r0 => K (.own (.int .i64) 0) [.buf (.int .i64) r0 false]) := by kernel_rfl
def C_yy56 : Ctx := mkC [] [] [(5, [1, 2, 3, 4, 9, 10])] [(5, [9])] [(5, [])] [(7, [0, 0, 0, 4, 0, 0, 48, 112, 252, 508, 0, 2047])]
def cf_yy56 (c54 : T57 R) (c60 : LB → (LI → Option R) → Option R) (l_5 : T88 R) : CallF R := fun f av es K => iteH (decide (f = 78)) (sh78 c54 av es K) (iteH (decide (f = 79)) (sh79 c60 av es K) (none))
noncomputable def sl_yy56_l5 (l_5 : T88 R) (vs : List S) (es : List Ent) (K : KO R) : Option R :=
 match vs, es with
 | [.sl (.int .i64) v10, .bool v11, .int .u8 v12, .ptr 0 [], .own .bool 1, .int .i64 v13], [.box (.st [.sl (.arr 4 (.int .u64)) v14, .sl (.int .i64) v15, .sl (.int .i64) v16, .sl (.slice (.int .i64)) v17, .bool v18]) false, .buf .bool v19 false] => l_5 v10 v11 v12 v14 v15 v16 v17 v18 (fun r0 => K (.exit 0) [.own .bool 0] [.buf .bool r0 false]) v13 v19
 | _, _ => none
def lf_yy56 (l_5 : T88 R) : LoopF R := fun m np id _ vs es K => iteH (decide (m = 46) && decide (np = 0)) (iteH (decide (id = 5)) (sl_yy56_l5 l_5 vs es K) (none)) none
theorem eq_yy56_l5 (c54 : T57 R) (c60 : LB → (LI → Option R) → Option R) (l_5 : T88 R) (v10 : LI) (v11 : Bool) (v12 v13 : Int) (v14 : LL) (v15 v16 : LI) (v17 : LL) (v18 : Bool) (v19 : LB) (K : KO R) :
  acodeK C_yy56 raw (cf_yy56 c54 c60 l_5) (lf_yy56 l_5) (loopBody Tryz.prog 63 5) (placeSt 46 0 [1, 2, 3, 4, 9, 10] [.sl (.int .i64) v10, .bool v11, .int .u8 v12, .ptr 0 [], .own .bool 1, .int .i64 v13] [.box (.st [.sl (.arr 4 (.int .u64)) v14, .sl (.int .i64) v15, .sl (.int .i64) v16, .sl (.slice (.int .i64)) v17, .bool v18]) false, .buf .bool v19 false]) (loopKont C_yy56 (lf_yy56 l_5) 46 0 5 (loopBody Tryz.prog 63 5) K) =
   yy56_l5_b c54 c60 l_5 v10 v11 v12 v14 v15 v16 v17 v18 (fun r0 => K (.exit 0) [.own .bool 0] [.buf .bool r0 false]) v13 v19 := by kernel_rfl
theorem eq_yy56 (c54 : T57 R) (c60 : LB → (LI → Option R) → Option R) (l_5 : T88 R) (v1 : LL) (v2 v3 : LI) (v4 : LL) (v5 : Bool) (v6 : LI) (v7 : Bool) (v8 : Int) (K : KS R) :
  runK C_yy56 raw (cf_yy56 c54 c60 l_5) (lf_yy56 l_5) 63 [.st [.sl (.arr 4 (.int .u64)) v1, .sl (.int .i64) v2, .sl (.int .i64) v3, .sl (.slice (.int .i64)) v4, .bool v5], .sl (.int .i64) v6, .bool v7, .int .u8 v8] [] K =
   yy56_b c54 c60 l_5 v1 v2 v3 v4 v5 v6 v7 v8 (fun r0 => K (.own (.int .i64) 0) [.buf (.int .i64) r0 false]) := by kernel_rfl
def C_yy61 : Ctx := mkC [] [] [(4, [0, 1, 5])] [(4, [4])] [(4, [])] [(6, [0, 0, 3, 7, 0, 0, 48, 112, 255])]
def cf_yy61 (l_4 : T28 R) : CallF R := fun f av es K => none
noncomputable def sl_yy61_l4 (l_4 : T28 R) (vs : List S) (es : List Ent) (K : KO R) : Option R :=
 match vs, es with
 | [.sl (.int .i64) v3, .sl (.int .i64) v4, .int .i64 v5], [] => l_4 v3 v4 (fun r0 => K .ret [.bool r0] []) (K (.exit 0) [.junk] []) v5
 | _, _ => none
def lf_yy61 (l_4 : T28 R) : LoopF R := fun m np id _ vs es K => iteH (decide (m = 26) && decide (np = 0)) (iteH (decide (id = 4)) (sl_yy61_l4 l_4 vs es K) (none)) none
theorem eq_yy61_l4 (l_4 : T28 R) (v3 v4 : LI) (v5 : Int) (K : KO R) :
  acodeK C_yy61 raw (cf_yy61 l_4) (lf_yy61 l_4) (loopBody Tryz.prog 80 4) (placeSt 26 0 [0, 1, 5] [.sl (.int .i64) v3, .sl (.int .i64) v4, .int .i64 v5] []) (loopKont C_yy61 (lf_yy61 l_4) 26 0 4 (loopBody Tryz.prog 80 4) K) =
   yy61_l4_b l_4 v3 v4 (fun r0 => K .ret [.bool r0] []) (K (.exit 0) [.junk] []) v5 := by kernel_rfl
theorem eq_yy61 (l_4 : T28 R) (v1 v2 : LI) (K : KS R) :
  runK C_yy61 raw (cf_yy61 l_4) (lf_yy61 l_4) 80 [.sl (.int .i64) v1, .sl (.int .i64) v2] [] K =
   yy61_b l_4 v1 v2 (fun r0 => K (.bool r0) []) := by kernel_rfl
def C_yy58 : Ctx := mkC [] [] [(2, [0, 1, 5])] [(2, [4])] [(2, [])] []
def cf_yy58 (c61 : T14 R) (l_2 : T89 R) : CallF R := fun f av es K => iteH (decide (f = 80)) (sh80 c61 av es K) (none)
noncomputable def sl_yy58_l2 (l_2 : T89 R) (vs : List S) (es : List Ent) (K : KO R) : Option R :=
 match vs, es with
 | [.sl (.slice (.int .i64)) v3, .sl (.int .i64) v4, .int .i64 v5], [] => l_2 v3 v4 (fun r0 => K .ret [.int .i64 r0] []) (K (.exit 0) [.junk] []) v5
 | _, _ => none
def lf_yy58 (l_2 : T89 R) : LoopF R := fun m np id _ vs es K => iteH (decide (m = 19) && decide (np = 0)) (iteH (decide (id = 2)) (sl_yy58_l2 l_2 vs es K) (none)) none
theorem eq_yy58_l2 (c61 : T14 R) (l_2 : T89 R) (v3 : LL) (v4 : LI) (v5 : Int) (K : KO R) :
  acodeK C_yy58 raw (cf_yy58 c61 l_2) (lf_yy58 l_2) (loopBody Tryz.prog 64 2) (placeSt 19 0 [0, 1, 5] [.sl (.slice (.int .i64)) v3, .sl (.int .i64) v4, .int .i64 v5] []) (loopKont C_yy58 (lf_yy58 l_2) 19 0 2 (loopBody Tryz.prog 64 2) K) =
   yy58_l2_b c61 l_2 v3 v4 (fun r0 => K .ret [.int .i64 r0] []) (K (.exit 0) [.junk] []) v5 := by kernel_rfl
theorem eq_yy58 (c61 : T14 R) (l_2 : T89 R) (v1 : LL) (v2 : LI) (K : KS R) :
  runK C_yy58 raw (cf_yy58 c61 l_2) (lf_yy58 l_2) 64 [.sl (.slice (.int .i64)) v1, .sl (.int .i64) v2] [] K =
   yy58_b c61 l_2 v1 v2 (fun r0 => K (.int .i64 r0) []) := by kernel_rfl
end
end Go.Ab.T
