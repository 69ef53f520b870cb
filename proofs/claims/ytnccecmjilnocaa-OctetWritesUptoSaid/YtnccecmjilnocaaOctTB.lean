/- OctTB: a part of the proofs of this seat's statements. -/
import Derived.Test.YtnccecmjilnocaaOctTA

namespace Go.Ab.T

open Go Go.Ab Go.Proofs

set_option maxRecDepth 100000

set_option linter.unusedVariables false

noncomputable section

noncomputable def C_octet_Take : Ctx := { P := Try.prog, mv := [35], pu := [], glob := glob, live := fun n => look n [], out := fun n => look n [], frz := fun n => look n [], bef := fun n => look n [] }

def cf_octet_Take {R : Type} : CallF R := fun f av es K => none

def lf_octet_Take {R : Type} : LoopF R := fun m np id _ vs es K => none

theorem eq_octet_Take {R : Type} (v1 : (List Int)) (v2 : Int) (v3 : Int) (K : S → List Ent → Option R) :
    runK C_octet_Take raw (cf_octet_Take) (lf_octet_Take) 16 [.sl (.int .u8) v1, .int .i64 v2, .int .i64 v3] [] K =
      octet_Take_b v1 v2 v3 (fun (r0 : Int) (r1 : Int) => K (.tup [.int .u64 r0, .int .i64 r1]) []) := by kernel_rfl

noncomputable def C_octet_TakeText : Ctx := { P := Try.prog, mv := [], pu := [], glob := glob, live := fun n => look n [], out := fun n => look n [], frz := fun n => look n [], bef := fun n => look n [] }

def cf_octet_TakeText {R : Type} (c_octet_Take : (List Int) → Int → Int → (Int → Int → Option R) → Option R) : CallF R := fun f av es K => iteH (decide (f = 16)) (sh16 c_octet_Take av es K) (none)

def lf_octet_TakeText {R : Type} (c_octet_Take : (List Int) → Int → Int → (Int → Int → Option R) → Option R) : LoopF R := fun m np id _ vs es K => none

theorem eq_octet_TakeText {R : Type} (c_octet_Take : (List Int) → Int → Int → (Int → Int → Option R) → Option R) (v1 : (List Int)) (v2 : Int) (K : S → List Ent → Option R) :
    runK C_octet_TakeText raw (cf_octet_TakeText c_octet_Take) (lf_octet_TakeText c_octet_Take) 17 [.sl (.int .u8) v1, .int .i64 v2] [] K =
      octet_TakeText_b c_octet_Take v1 v2 (fun (r0 : Int) (r1 : Int) (r2 : (List Int)) => K (.tup [.own (.int .u8) 0, .int .i64 r0, .int .i64 r1]) [.buf (.int .u8) r2 false]) := by kernel_rfl

noncomputable def C_octet_Put : Ctx := { P := Try.prog, mv := [], pu := [], glob := glob, live := fun n => look n [(4, [1, 7, 18, 19])], out := fun n => look n [(4, [7])], frz := fun n => look n [(4, [])], bef := fun n => look n [] }

def cf_octet_Put {R : Type} (l_4 : Int → ((List Int) → Option R) → Int → Int → (List Int) → Option R) : CallF R := fun f av es K => none

def sl_octet_Put_l4 {R : Type} (l_4 : Int → ((List Int) → Option R) → Int → Int → (List Int) → Option R) (vs : List S) (es : List Ent) (K : Out → List S → List Ent → Option R) : Option R :=
  match vs, es with
  | [.int .u64 v4, .own (.int .u8) 0, .int .i64 v5, .int .i64 v6], [.buf (.int .u8) v7 false] => l_4 v5 (fun (r0 : (List Int)) => K (.exit 0) [.own (.int .u8) 0] [.buf (.int .u8) r0 false]) v4 v6 v7
  | _, _ => none

def lf_octet_Put {R : Type} (l_4 : Int → ((List Int) → Option R) → Int → Int → (List Int) → Option R) : LoopF R := fun m np id _ vs es K => iteH (decide (m = 30) && decide (np = 0)) (iteH (decide (id = 4)) (sl_octet_Put_l4 l_4 vs es K) (none)) none

theorem eq_octet_Put_l4 {R : Type} (l_4 : Int → ((List Int) → Option R) → Int → Int → (List Int) → Option R) (v4 : Int) (v5 : Int) (v6 : Int) (v7 : (List Int)) (K : Out → List S → List Ent → Option R) :
    acodeK C_octet_Put raw (cf_octet_Put l_4) (lf_octet_Put l_4) (loopBody Try.prog 10 4) (placeSt 30 0 [1, 7, 18, 19] [.int .u64 v4, .own (.int .u8) 0, .int .i64 v5, .int .i64 v6] [.buf (.int .u8) v7 false]) (loopKont C_octet_Put (lf_octet_Put l_4) 30 0 4 (loopBody Try.prog 10 4) K) =
      octet_Put_l4_b l_4 v5 (fun (r0 : (List Int)) => K (.exit 0) [.own (.int .u8) 0] [.buf (.int .u8) r0 false]) v4 v6 v7 := by kernel_rfl

theorem eq_octet_Put {R : Type} (l_4 : Int → ((List Int) → Option R) → Int → Int → (List Int) → Option R) (v1 : (List Int)) (v2 : Int) (v3 : Int) (K : S → List Ent → Option R) :
    runK C_octet_Put raw (cf_octet_Put l_4) (lf_octet_Put l_4) 10 [.sl (.int .u8) v1, .int .u64 v2, .int .i64 v3] [] K =
      octet_Put_b l_4 v1 v2 v3 (fun (r0 : (List Int)) => K (.own (.int .u8) 0) [.buf (.int .u8) r0 false]) := by kernel_rfl

noncomputable def C_law1_begun : Ctx := { P := Try.prog, mv := [], pu := [], glob := glob, live := fun n => look n [], out := fun n => look n [], frz := fun n => look n [], bef := fun n => look n [] }

def cf_law1_begun {R : Type} (c_octet_Take : (List Int) → Int → Int → (Int → Int → Option R) → Option R) (c_octet_TakeText : (List Int) → Int → (Int → Int → (List Int) → Option R) → Option R) (c_octet_Put : (List Int) → Int → Int → ((List Int) → Option R) → Option R) : CallF R := fun f av es K => iteH (decide (f = 16)) (sh16 c_octet_Take av es K) (iteH (decide (f = 17)) (sh17 c_octet_TakeText av es K) (iteH (decide (f = 10)) (sh10 c_octet_Put av es K) (none)))

def lf_law1_begun {R : Type} (c_octet_Take : (List Int) → Int → Int → (Int → Int → Option R) → Option R) (c_octet_TakeText : (List Int) → Int → (Int → Int → (List Int) → Option R) → Option R) (c_octet_Put : (List Int) → Int → Int → ((List Int) → Option R) → Option R) : LoopF R := fun m np id _ vs es K => none

theorem eq_law1_begun {R : Type} (c_octet_Take : (List Int) → Int → Int → (Int → Int → Option R) → Option R) (c_octet_TakeText : (List Int) → Int → (Int → Int → (List Int) → Option R) → Option R) (c_octet_Put : (List Int) → Int → Int → ((List Int) → Option R) → Option R) (K : S → List Ent → Option R) :
    runK C_law1_begun raw (cf_law1_begun c_octet_Take c_octet_TakeText c_octet_Put) (lf_law1_begun c_octet_Take c_octet_TakeText c_octet_Put) 8 [] [] K =
      law1_begun_b c_octet_Take c_octet_TakeText c_octet_Put (fun (r0 : Bool) => K (.bool r0) []) := by kernel_rfl

noncomputable def C_law0_Twin : Ctx := { P := Try.prog, ex := true, mv := [26], pu := [], glob := glob, live := fun n => look n [(4, [0, 3, 4])], out := fun n => look n [(4, [0, 3])], frz := fun n => look n [(4, [])], bef := fun n => look n [] }

def cf_law0_Twin {R : Type} (l_4 : (List Int) → Int → ((List Int) → Int → (List Int) → Option R) → Int → (List Int) → Option R) : CallF R := fun f av es K => none

def sl_law0_Twin_l4 {R : Type} (l_4 : (List Int) → Int → ((List Int) → Int → (List Int) → Option R) → Int → (List Int) → Option R) (vs : List S) (es : List Ent) (K : Out → List S → List Ent → Option R) : Option R :=
  match vs, es with
  | [.sl (.int .u8) v3, .twn (.int .u8) 0 v4, .int .i64 v5], [.buf (.int .u8) v6 false] => l_4 v3 v4 (fun (r0 : (List Int)) (r1 : Int) (r2 : (List Int)) => K (.exit 0) [.sl (.int .u8) r0, .twn (.int .u8) 0 r1] [.buf (.int .u8) r2 false]) v5 v6
  | _, _ => none

def lf_law0_Twin {R : Type} (l_4 : (List Int) → Int → ((List Int) → Int → (List Int) → Option R) → Int → (List Int) → Option R) : LoopF R := fun m np id _ vs es K => iteH (decide (m = 27) && decide (np = 0)) (iteH (decide (id = 4)) (sl_law0_Twin_l4 l_4 vs es K) (none)) none

theorem eq_law0_Twin_l4 {R : Type} (l_4 : (List Int) → Int → ((List Int) → Int → (List Int) → Option R) → Int → (List Int) → Option R) (v3 : (List Int)) (v4 : Int) (v5 : Int) (v6 : (List Int)) (K : Out → List S → List Ent → Option R) :
    acodeK C_law0_Twin raw (cf_law0_Twin l_4) (lf_law0_Twin l_4) (loopBody Try.prog 9 4) (placeSt 27 0 [0, 3, 4] [.sl (.int .u8) v3, .twn (.int .u8) 0 v4, .int .i64 v5] [.buf (.int .u8) v6 false]) (loopKont C_law0_Twin (lf_law0_Twin l_4) 27 0 4 (loopBody Try.prog 9 4) K) =
      law0_Twin_l4_b l_4 v3 v4 (fun (r0 : (List Int)) (r1 : Int) (r2 : (List Int)) => K (.exit 0) [.sl (.int .u8) r0, .twn (.int .u8) 0 r1] [.buf (.int .u8) r2 false]) v5 v6 := by kernel_rfl

theorem eq_law0_Twin {R : Type} (l_4 : (List Int) → Int → ((List Int) → Int → (List Int) → Option R) → Int → (List Int) → Option R) (v1 : (List Int)) (K : S → List Ent → Option R) :
    runK C_law0_Twin raw (cf_law0_Twin l_4) (lf_law0_Twin l_4) 9 [.sl (.int .u8) v1] [] K =
      law0_Twin_b l_4 v1 (fun (r0 : Int) (r1 : (List Int)) => K (.twn (.int .u8) 0 r0) [.buf (.int .u8) r1 false]) := by kernel_rfl

noncomputable def C_octet_Text : Ctx := { P := Try.prog, mv := [], pu := [], glob := glob, live := fun n => look n [], out := fun n => look n [], frz := fun n => look n [], bef := fun n => look n [] }

def cf_octet_Text {R : Type} (c_octet_Put : (List Int) → Int → Int → ((List Int) → Option R) → Option R) : CallF R := fun f av es K => iteH (decide (f = 10)) (sh10 c_octet_Put av es K) (none)

def lf_octet_Text {R : Type} (c_octet_Put : (List Int) → Int → Int → ((List Int) → Option R) → Option R) : LoopF R := fun m np id _ vs es K => none

theorem eq_octet_Text {R : Type} (c_octet_Put : (List Int) → Int → Int → ((List Int) → Option R) → Option R) (v1 : (List Int)) (v2 : (List Int)) (K : S → List Ent → Option R) :
    runK C_octet_Text raw (cf_octet_Text c_octet_Put) (lf_octet_Text c_octet_Put) 11 [.sl (.int .u8) v1, .sl (.int .u8) v2] [] K =
      octet_Text_b c_octet_Put v1 v2 (fun (r0 : (List Int)) => K (.own (.int .u8) 0) [.buf (.int .u8) r0 false]) := by kernel_rfl

noncomputable def C_ref1_Put : Ctx := { P := Try.prog, mv := [], pu := [], glob := glob, live := fun n => look n [(3, [1, 2, 7, 8])], out := fun n => look n [(3, [7])], frz := fun n => look n [(3, [])], bef := fun n => look n [] }

def cf_ref1_Put {R : Type} (l_3 : Int → ((List Int) → Option R) → Int → Int → (List Int) → Option R) : CallF R := fun f av es K => none

def sl_ref1_Put_l3 {R : Type} (l_3 : Int → ((List Int) → Option R) → Int → Int → (List Int) → Option R) (vs : List S) (es : List Ent) (K : Out → List S → List Ent → Option R) : Option R :=
  match vs, es with
  | [.int .u64 v4, .int .i64 v5, .own (.int .u8) 0, .int .i64 v6], [.buf (.int .u8) v7 false] => l_3 v5 (fun (r0 : (List Int)) => K (.exit 0) [.own (.int .u8) 0] [.buf (.int .u8) r0 false]) v4 v6 v7
  | _, _ => none

def lf_ref1_Put {R : Type} (l_3 : Int → ((List Int) → Option R) → Int → Int → (List Int) → Option R) : LoopF R := fun m np id _ vs es K => iteH (decide (m = 28) && decide (np = 0)) (iteH (decide (id = 3)) (sl_ref1_Put_l3 l_3 vs es K) (none)) none

theorem eq_ref1_Put_l3 {R : Type} (l_3 : Int → ((List Int) → Option R) → Int → Int → (List Int) → Option R) (v4 : Int) (v5 : Int) (v6 : Int) (v7 : (List Int)) (K : Out → List S → List Ent → Option R) :
    acodeK C_ref1_Put raw (cf_ref1_Put l_3) (lf_ref1_Put l_3) (loopBody Try.prog 12 3) (placeSt 28 0 [1, 2, 7, 8] [.int .u64 v4, .int .i64 v5, .own (.int .u8) 0, .int .i64 v6] [.buf (.int .u8) v7 false]) (loopKont C_ref1_Put (lf_ref1_Put l_3) 28 0 3 (loopBody Try.prog 12 3) K) =
      ref1_Put_l3_b l_3 v5 (fun (r0 : (List Int)) => K (.exit 0) [.own (.int .u8) 0] [.buf (.int .u8) r0 false]) v4 v6 v7 := by kernel_rfl

theorem eq_ref1_Put {R : Type} (l_3 : Int → ((List Int) → Option R) → Int → Int → (List Int) → Option R) (v1 : (List Int)) (v2 : Int) (v3 : Int) (K : S → List Ent → Option R) :
    runK C_ref1_Put raw (cf_ref1_Put l_3) (lf_ref1_Put l_3) 12 [.sl (.int .u8) v1, .int .u64 v2, .int .i64 v3] [] K =
      ref1_Put_b l_3 v1 v2 v3 (fun (r0 : (List Int)) => K (.own (.int .u8) 0) [.buf (.int .u8) r0 false]) := by kernel_rfl

noncomputable def C_ref1_Text : Ctx := { P := Try.prog, mv := [], pu := [], glob := glob, live := fun n => look n [], out := fun n => look n [], frz := fun n => look n [], bef := fun n => look n [] }

def cf_ref1_Text {R : Type} (c_ref1_Put : (List Int) → Int → Int → ((List Int) → Option R) → Option R) : CallF R := fun f av es K => iteH (decide (f = 12)) (sh12 c_ref1_Put av es K) (none)

def lf_ref1_Text {R : Type} (c_ref1_Put : (List Int) → Int → Int → ((List Int) → Option R) → Option R) : LoopF R := fun m np id _ vs es K => none

theorem eq_ref1_Text {R : Type} (c_ref1_Put : (List Int) → Int → Int → ((List Int) → Option R) → Option R) (v1 : (List Int)) (v2 : (List Int)) (K : S → List Ent → Option R) :
    runK C_ref1_Text raw (cf_ref1_Text c_ref1_Put) (lf_ref1_Text c_ref1_Put) 13 [.sl (.int .u8) v1, .sl (.int .u8) v2] [] K =
      ref1_Text_b c_ref1_Put v1 v2 (fun (r0 : (List Int)) => K (.own (.int .u8) 0) [.buf (.int .u8) r0 false]) := by kernel_rfl

noncomputable def C_law0_Kept : Ctx := { P := Try.prog, mv := [10], pu := [], glob := glob, live := fun n => look n [(5, [1, 5, 6])], out := fun n => look n [(5, [4])], frz := fun n => look n [(5, [])], bef := fun n => look n [] }

def cf_law0_Kept {R : Type} (l_5 : (List Int) → Int → (List Int) → (Bool → (List Int) → Option R) → ((List Int) → Option R) → Int → Option R) : CallF R := fun f av es K => none

def sl_law0_Kept_l5 {R : Type} (l_5 : (List Int) → Int → (List Int) → (Bool → (List Int) → Option R) → ((List Int) → Option R) → Int → Option R) (vs : List S) (es : List Ent) (K : Out → List S → List Ent → Option R) : Option R :=
  match vs, es with
  | [.sl (.int .u8) v5, .twn (.int .u8) 0 v6, .int .i64 v7], [.buf (.int .u8) v8 false] => l_5 v5 v6 v8 (fun (r0 : Bool) (r1 : (List Int)) => K .ret [.bool r0] [.buf (.int .u8) r1 false]) (fun (r0 : (List Int)) => K (.exit 0) [.junk] [.buf (.int .u8) r0 false]) v7
  | _, _ => none

def lf_law0_Kept {R : Type} (l_5 : (List Int) → Int → (List Int) → (Bool → (List Int) → Option R) → ((List Int) → Option R) → Int → Option R) : LoopF R := fun m np id _ vs es K => iteH (decide (m = 38) && decide (np = 1)) (iteH (decide (id = 5)) (sl_law0_Kept_l5 l_5 vs es K) (none)) none

theorem eq_law0_Kept_l5 {R : Type} (l_5 : (List Int) → Int → (List Int) → (Bool → (List Int) → Option R) → ((List Int) → Option R) → Int → Option R) (v5 : (List Int)) (v6 : Int) (v7 : Int) (v8 : (List Int)) (K : Out → List S → List Ent → Option R) :
    acodeK C_law0_Kept raw (cf_law0_Kept l_5) (lf_law0_Kept l_5) (loopBody Try.prog 14 5) (placeSt 38 1 [1, 5, 6] [.sl (.int .u8) v5, .twn (.int .u8) 0 v6, .int .i64 v7] [.buf (.int .u8) v8 false]) (loopKont C_law0_Kept (lf_law0_Kept l_5) 38 1 5 (loopBody Try.prog 14 5) K) =
      law0_Kept_l5_b l_5 v5 v6 v8 (fun (r0 : Bool) (r1 : (List Int)) => K .ret [.bool r0] [.buf (.int .u8) r1 false]) (fun (r0 : (List Int)) => K (.exit 0) [.junk] [.buf (.int .u8) r0 false]) v7 := by kernel_rfl

theorem eq_law0_Kept {R : Type} (l_5 : (List Int) → Int → (List Int) → (Bool → (List Int) → Option R) → ((List Int) → Option R) → Int → Option R) (v1 : Int) (v2 : (List Int)) (v3 : (List Int)) (K : S → List Ent → Option R) :
    runK C_law0_Kept raw (cf_law0_Kept l_5) (lf_law0_Kept l_5) 14 [.twn (.int .u8) 0 v1, .sl (.int .u8) v2] [.buf (.int .u8) v3 false] K =
      law0_Kept_b l_5 v1 v2 v3 (fun (r0 : Bool) (r1 : (List Int)) => K (.bool r0) [.buf (.int .u8) r1 false]) := by kernel_rfl

noncomputable def C_law1_OctetWrites : Ctx := { P := Try.prog, mv := [], pu := [], glob := glob, live := fun n => look n [], out := fun n => look n [], frz := fun n => look n [], bef := fun n => look n [(7, [0, 1, 0, 0, 0, 28, 60, 127, 255, 511, 1023, 511, 511, 6655, 14847, 32767, 65535, 131071, 262143, 262143, 1048575, 2097151, 4194303, 8388607, 8388607, 33554431, 67108863, 134217727])] }

def cf_law1_OctetWrites {R : Type} (c_law1_begun : (Bool → Option R) → Option R) (c_law0_Twin : (List Int) → (Int → (List Int) → Option R) → Option R) (c_octet_Put : (List Int) → Int → Int → ((List Int) → Option R) → Option R) (c_octet_Text : (List Int) → (List Int) → ((List Int) → Option R) → Option R) (c_ref1_Put : (List Int) → Int → Int → ((List Int) → Option R) → Option R) (c_ref1_Text : (List Int) → (List Int) → ((List Int) → Option R) → Option R) (c_law0_Kept : Int → (List Int) → (List Int) → (Bool → (List Int) → Option R) → Option R) : CallF R := fun f av es K => iteH (decide (f = 8)) (sh8 c_law1_begun av es K) (iteH (decide (f = 9)) (sh9 c_law0_Twin av es K) (iteH (decide (f = 10)) (sh10 c_octet_Put av es K) (iteH (decide (f = 11)) (sh11 c_octet_Text av es K) (iteH (decide (f = 12)) (sh12 c_ref1_Put av es K) (iteH (decide (f = 13)) (sh13 c_ref1_Text av es K) (iteH (decide (f = 14)) (sh14 c_law0_Kept av es K) (iteH (decide (f = 15)) (sh15 av es K) (none))))))))

def lf_law1_OctetWrites {R : Type} (c_law1_begun : (Bool → Option R) → Option R) (c_law0_Twin : (List Int) → (Int → (List Int) → Option R) → Option R) (c_octet_Put : (List Int) → Int → Int → ((List Int) → Option R) → Option R) (c_octet_Text : (List Int) → (List Int) → ((List Int) → Option R) → Option R) (c_ref1_Put : (List Int) → Int → Int → ((List Int) → Option R) → Option R) (c_ref1_Text : (List Int) → (List Int) → ((List Int) → Option R) → Option R) (c_law0_Kept : Int → (List Int) → (List Int) → (Bool → (List Int) → Option R) → Option R) : LoopF R := fun m np id _ vs es K => none

theorem eq_law1_OctetWrites {R : Type} (c_law1_begun : (Bool → Option R) → Option R) (c_law0_Twin : (List Int) → (Int → (List Int) → Option R) → Option R) (c_octet_Put : (List Int) → Int → Int → ((List Int) → Option R) → Option R) (c_octet_Text : (List Int) → (List Int) → ((List Int) → Option R) → Option R) (c_ref1_Put : (List Int) → Int → Int → ((List Int) → Option R) → Option R) (c_ref1_Text : (List Int) → (List Int) → ((List Int) → Option R) → Option R) (c_law0_Kept : Int → (List Int) → (List Int) → (Bool → (List Int) → Option R) → Option R) (v1 : (List Int)) (v2 : (List Int)) (v3 : Int) (v4 : Int) (K : S → List Ent → Option R) :
    runK C_law1_OctetWrites raw (cf_law1_OctetWrites c_law1_begun c_law0_Twin c_octet_Put c_octet_Text c_ref1_Put c_ref1_Text c_law0_Kept) (lf_law1_OctetWrites c_law1_begun c_law0_Twin c_octet_Put c_octet_Text c_ref1_Put c_ref1_Text c_law0_Kept) 3 [.sl (.int .u8) v1, .sl (.int .u8) v2, .int .u64 v3, .int .i64 v4] [] K =
      law1_OctetWrites_b c_law1_begun c_law0_Twin c_octet_Put c_octet_Text c_ref1_Put c_ref1_Text c_law0_Kept v1 v2 v3 v4 (fun (r0 : Bool) => K (.bool r0) []) := by kernel_rfl

end
end Go.Ab.T
