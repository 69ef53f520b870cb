/- OctetTB: a part of the proofs of this seat's statements; printed by a program of the prover's. -/
import Derived.Test.YtnccecmjilnocaaOctetTA

namespace Go.Ab.T

open Go Go.Ab Go.Proofs

set_option maxRecDepth 100000

set_option linter.unusedVariables false

noncomputable section

noncomputable def C_octet_Take : Ctx := { P := Try.prog, mv := [35], glob := glob, live := fun n => look n [], out := fun n => look n [], frz := fun n => look n [], bef := fun n => look n [] }

def cf_octet_Take {R : Type} : CallF R := fun f av es K => none

def lf_octet_Take {R : Type} : LoopF R := fun m np id _ vs es K => none

theorem eq_octet_Take {R : Type} (v1 : (List Int)) (v2 : Int) (v3 : Int) (K : S → List Ent → Option R) :
    runK C_octet_Take raw (cf_octet_Take) (lf_octet_Take) 16 [.sl (.int .u8) v1, .int .i64 v2, .int .i64 v3] [] K =
      octet_Take_b v1 v2 v3 (fun (r0 : Int) (r1 : Int) => K (.tup [.int .u64 r0, .int .i64 r1]) []) := by kernel_rfl

noncomputable def C_octet_TakeText : Ctx := { P := Try.prog, mv := [], glob := glob, live := fun n => look n [], out := fun n => look n [], frz := fun n => look n [], bef := fun n => look n [] }

def cf_octet_TakeText {R : Type} (c_octet_Take : (List Int) → Int → Int → (Int → Int → Option R) → Option R) : CallF R := fun f av es K => iteH (decide (f = 16)) (sh16 c_octet_Take av es K) (none)

def lf_octet_TakeText {R : Type} (c_octet_Take : (List Int) → Int → Int → (Int → Int → Option R) → Option R) : LoopF R := fun m np id _ vs es K => none

theorem eq_octet_TakeText {R : Type} (c_octet_Take : (List Int) → Int → Int → (Int → Int → Option R) → Option R) (v1 : (List Int)) (v2 : Int) (K : S → List Ent → Option R) :
    runK C_octet_TakeText raw (cf_octet_TakeText c_octet_Take) (lf_octet_TakeText c_octet_Take) 17 [.sl (.int .u8) v1, .int .i64 v2] [] K =
      octet_TakeText_b c_octet_Take v1 v2 (fun (r0 : Int) (r1 : Int) (r2 : (List Int)) => K (.tup [.own (.int .u8) 0, .int .i64 r0, .int .i64 r1]) [.buf (.int .u8) r2 false]) := by kernel_rfl

noncomputable def C_octet_Put : Ctx := { P := Try.prog, mv := [], glob := glob, live := fun n => look n [(4, [1, 7, 18, 19])], out := fun n => look n [(4, [7])], frz := fun n => look n [(4, [])], bef := fun n => look n [] }

def cf_octet_Put {R : Type} (l_4 : Int → ((List Int) → Option R) → Int → Int → (List Int) → Option R) : CallF R := fun f av es K => none

def sl_octet_Put_l4 {R : Type} (l_4 : Int → ((List Int) → Option R) → Int → Int → (List Int) → Option R) (vs : List S) (es : List Ent) (K : Out → List S → List Ent → Option R) : Option R :=
  match vs, es with
  | [.int .u64 v4, .own (.int .u8) 0, .int .i64 v5, .int .i64 v6], [.buf (.int .u8) v7 false] => l_4 v5 (fun (r0 : (List Int)) => K (.exit 0) [.own (.int .u8) 0] [.buf (.int .u8) r0 false]) v4 v6 v7
  | _, _ => none

def lf_octet_Put {R : Type} (l_4 : Int → ((List Int) → Option R) → Int → Int → (List Int) → Option R) : LoopF R := fun m np id _ vs es K => iteH (decide (m = 30) && decide (np = 0)) (iteH (decide (id = 4)) (sl_octet_Put_l4 l_4 vs es K) (none)) none

theorem eq_octet_Put_l4 {R : Type} (l_4 : Int → ((List Int) → Option R) → Int → Int → (List Int) → Option R) (v4 : Int) (v5 : Int) (v6 : Int) (v7 : (List Int)) (K : Out → List S → List Ent → Option R) :
    acodeK C_octet_Put raw (cf_octet_Put l_4) (lf_octet_Put l_4) (loopBody Try.prog 10 4) (placeSt 30 0 [1, 7, 18, 19] [.int .u64 v4, .own (.int .u8) 0, .int .i64 v5, .int .i64 v6] [.buf (.int .u8) v7 false]) (loopKont C_octet_Put (lf_octet_Put l_4) 30 0 4 (loopBody Try.prog 10 4) K) =
      octet_Put_l4_b l_4 v5 (fun (r0 : (List Int)) => K (.exit 0) [.own (.int .u8) 0] [.buf (.int .u8) r0 false]) v4 v6 v7 := by kernel_rfl

theorem eq_octet_Put {R : Type} (l_4 : Int → ((List Int) → Option R) → Int → Int → (List Int) → Option R) (v1 : (List Int)) (v2 : Int) (v3 : Int) (K : S → List Ent → Option R) :
    runK C_octet_Put raw (cf_octet_Put l_4) (lf_octet_Put l_4) 10 [.sl (.int .u8) v1, .int .u64 v2, .int .i64 v3] [] K =
      octet_Put_b l_4 v1 v2 v3 (fun (r0 : (List Int)) => K (.own (.int .u8) 0) [.buf (.int .u8) r0 false]) := by kernel_rfl

noncomputable def C_law1_begun : Ctx := { P := Try.prog, mv := [], glob := glob, live := fun n => look n [], out := fun n => look n [], frz := fun n => look n [], bef := fun n => look n [] }

def cf_law1_begun {R : Type} (c_octet_Take : (List Int) → Int → Int → (Int → Int → Option R) → Option R) (c_octet_TakeText : (List Int) → Int → (Int → Int → (List Int) → Option R) → Option R) (c_octet_Put : (List Int) → Int → Int → ((List Int) → Option R) → Option R) : CallF R := fun f av es K => iteH (decide (f = 16)) (sh16 c_octet_Take av es K) (iteH (decide (f = 17)) (sh17 c_octet_TakeText av es K) (iteH (decide (f = 10)) (sh10 c_octet_Put av es K) (none)))

def lf_law1_begun {R : Type} (c_octet_Take : (List Int) → Int → Int → (Int → Int → Option R) → Option R) (c_octet_TakeText : (List Int) → Int → (Int → Int → (List Int) → Option R) → Option R) (c_octet_Put : (List Int) → Int → Int → ((List Int) → Option R) → Option R) : LoopF R := fun m np id _ vs es K => none

theorem eq_law1_begun {R : Type} (c_octet_Take : (List Int) → Int → Int → (Int → Int → Option R) → Option R) (c_octet_TakeText : (List Int) → Int → (Int → Int → (List Int) → Option R) → Option R) (c_octet_Put : (List Int) → Int → Int → ((List Int) → Option R) → Option R) (K : S → List Ent → Option R) :
    runK C_law1_begun raw (cf_law1_begun c_octet_Take c_octet_TakeText c_octet_Put) (lf_law1_begun c_octet_Take c_octet_TakeText c_octet_Put) 8 [] [] K =
      law1_begun_b c_octet_Take c_octet_TakeText c_octet_Put (fun (r0 : Bool) => K (.bool r0) []) := by kernel_rfl

noncomputable def C_octet_Text : Ctx := { P := Try.prog, mv := [], glob := glob, live := fun n => look n [], out := fun n => look n [], frz := fun n => look n [], bef := fun n => look n [] }

def cf_octet_Text {R : Type} (c_octet_Put : (List Int) → Int → Int → ((List Int) → Option R) → Option R) : CallF R := fun f av es K => iteH (decide (f = 10)) (sh10 c_octet_Put av es K) (none)

def lf_octet_Text {R : Type} (c_octet_Put : (List Int) → Int → Int → ((List Int) → Option R) → Option R) : LoopF R := fun m np id _ vs es K => none

theorem eq_octet_Text {R : Type} (c_octet_Put : (List Int) → Int → Int → ((List Int) → Option R) → Option R) (v1 : (List Int)) (v2 : (List Int)) (K : S → List Ent → Option R) :
    runK C_octet_Text raw (cf_octet_Text c_octet_Put) (lf_octet_Text c_octet_Put) 11 [.sl (.int .u8) v1, .sl (.int .u8) v2] [] K =
      octet_Text_b c_octet_Put v1 v2 (fun (r0 : (List Int)) => K (.own (.int .u8) 0) [.buf (.int .u8) r0 false]) := by kernel_rfl

noncomputable def C_law0_Place : Ctx := { P := Try.prog, mv := [], glob := glob, live := fun n => look n [], out := fun n => look n [], frz := fun n => look n [], bef := fun n => look n [] }

def cf_law0_Place {R : Type} : CallF R := fun f av es K => none

def lf_law0_Place {R : Type} : LoopF R := fun m np id _ vs es K => none

theorem eq_law0_Place {R : Type} (v1 : Int) (v2 : Int) (K : S → List Ent → Option R) :
    runK C_law0_Place raw (cf_law0_Place) (lf_law0_Place) 18 [.int .i64 v1, .int .i64 v2] [] K =
      law0_Place_b v1 v2 (fun (r0 : Int) => K (.int .i64 r0) []) := by kernel_rfl

noncomputable def C_law1_OctetBack : Ctx := { P := Try.prog, mv := [], glob := glob, live := fun n => look n [], out := fun n => look n [], frz := fun n => look n [], bef := fun n => look n [] }

def cf_law1_OctetBack {R : Type} (c_law1_begun : (Bool → Option R) → Option R) (c_octet_Put : (List Int) → Int → Int → ((List Int) → Option R) → Option R) (c_octet_Take : (List Int) → Int → Int → (Int → Int → Option R) → Option R) (c_octet_Text : (List Int) → (List Int) → ((List Int) → Option R) → Option R) (c_octet_TakeText : (List Int) → Int → (Int → Int → (List Int) → Option R) → Option R) (c_law0_Place : Int → Int → (Int → Option R) → Option R) : CallF R := fun f av es K => iteH (decide (f = 8)) (sh8 c_law1_begun av es K) (iteH (decide (f = 10)) (sh10 c_octet_Put av es K) (iteH (decide (f = 16)) (sh16 c_octet_Take av es K) (iteH (decide (f = 11)) (sh11 c_octet_Text av es K) (iteH (decide (f = 17)) (sh17 c_octet_TakeText av es K) (iteH (decide (f = 18)) (sh18 c_law0_Place av es K) (none))))))

def lf_law1_OctetBack {R : Type} (c_law1_begun : (Bool → Option R) → Option R) (c_octet_Put : (List Int) → Int → Int → ((List Int) → Option R) → Option R) (c_octet_Take : (List Int) → Int → Int → (Int → Int → Option R) → Option R) (c_octet_Text : (List Int) → (List Int) → ((List Int) → Option R) → Option R) (c_octet_TakeText : (List Int) → Int → (Int → Int → (List Int) → Option R) → Option R) (c_law0_Place : Int → Int → (Int → Option R) → Option R) : LoopF R := fun m np id _ vs es K => none

theorem eq_law1_OctetBack {R : Type} (c_law1_begun : (Bool → Option R) → Option R) (c_octet_Put : (List Int) → Int → Int → ((List Int) → Option R) → Option R) (c_octet_Take : (List Int) → Int → Int → (Int → Int → Option R) → Option R) (c_octet_Text : (List Int) → (List Int) → ((List Int) → Option R) → Option R) (c_octet_TakeText : (List Int) → Int → (Int → Int → (List Int) → Option R) → Option R) (c_law0_Place : Int → Int → (Int → Option R) → Option R) (v1 : (List Int)) (v2 : (List Int)) (v3 : (List Int)) (v4 : Int) (v5 : Int) (v6 : Int) (K : S → List Ent → Option R) :
    runK C_law1_OctetBack raw (cf_law1_OctetBack c_law1_begun c_octet_Put c_octet_Take c_octet_Text c_octet_TakeText c_law0_Place) (lf_law1_OctetBack c_law1_begun c_octet_Put c_octet_Take c_octet_Text c_octet_TakeText c_law0_Place) 4 [.sl (.int .u8) v1, .sl (.int .u8) v2, .sl (.int .u8) v3, .int .u64 v4, .int .u8 v5, .int .i64 v6] [] K =
      law1_OctetBack_b c_law1_begun c_octet_Put c_octet_Take c_octet_Text c_octet_TakeText c_law0_Place v1 v2 v3 v4 v5 v6 (fun (r0 : Bool) => K (.bool r0) []) := by kernel_rfl

noncomputable def C_law1_OctetApart : Ctx := { P := Try.prog, mv := [], glob := glob, live := fun n => look n [], out := fun n => look n [], frz := fun n => look n [], bef := fun n => look n [(6, [0, 1, 0, 4, 15, 31, 63, 63, 191, 511, 1023, 63, 2111, 8191, 16383, 32767]), (7, [0, 1, 3, 0, 11, 27, 63, 0, 0, 384, 1023, 2047, 4095, 4095, 12287, 4095, 36863, 126975, 262143, 524287, 1048575])] }

def cf_law1_OctetApart {R : Type} (c_law1_begun : (Bool → Option R) → Option R) (c_octet_Text : (List Int) → (List Int) → ((List Int) → Option R) → Option R) (c_octet_Put : (List Int) → Int → Int → ((List Int) → Option R) → Option R) : CallF R := fun f av es K => iteH (decide (f = 8)) (sh8 c_law1_begun av es K) (iteH (decide (f = 11)) (sh11 c_octet_Text av es K) (iteH (decide (f = 10)) (sh10 c_octet_Put av es K) (none)))

def lf_law1_OctetApart {R : Type} (c_law1_begun : (Bool → Option R) → Option R) (c_octet_Text : (List Int) → (List Int) → ((List Int) → Option R) → Option R) (c_octet_Put : (List Int) → Int → Int → ((List Int) → Option R) → Option R) : LoopF R := fun m np id _ vs es K => none

theorem eq_law1_OctetApart {R : Type} (c_law1_begun : (Bool → Option R) → Option R) (c_octet_Text : (List Int) → (List Int) → ((List Int) → Option R) → Option R) (c_octet_Put : (List Int) → Int → Int → ((List Int) → Option R) → Option R) (v1 : Int) (v2 : Int) (v3 : (List Int)) (v4 : (List Int)) (K : S → List Ent → Option R) :
    runK C_law1_OctetApart raw (cf_law1_OctetApart c_law1_begun c_octet_Text c_octet_Put) (lf_law1_OctetApart c_law1_begun c_octet_Text c_octet_Put) 5 [.int .u64 v1, .int .u64 v2, .sl (.int .u8) v3, .sl (.int .u8) v4] [] K =
      law1_OctetApart_b c_law1_begun c_octet_Text c_octet_Put v1 v2 v3 v4 (fun (r0 : Bool) => K (.bool r0) []) := by kernel_rfl

noncomputable def C_law1_OctetRows : Ctx := { P := Try.prog, mv := [], glob := glob, live := fun n => look n [(7, [0, 1, 5, 6]), (12, [0, 1, 5, 7, 8]), (19, [0, 1, 5, 7, 9, 10]), (30, [1, 5, 7, 15])], out := fun n => look n [(7, [0, 1, 5]), (12, [0, 1, 4, 5, 7]), (19, [1, 4, 5, 7]), (30, [4, 5, 7])], frz := fun n => look n [(7, []), (12, []), (19, []), (30, [0])], bef := fun n => look n [(33, [0, 1, 3, 7, 15, 7, 7, 103, 231, 487, 1023, 2047])] }

def cf_law1_OctetRows {R : Type} (c_law1_begun : (Bool → Option R) → Option R) (c_octet_Put : (List Int) → Int → Int → ((List Int) → Option R) → Option R) (c_octet_Text : (List Int) → (List Int) → ((List Int) → Option R) → Option R) (c_octet_Take : (List Int) → Int → Int → (Int → Int → Option R) → Option R) (c_octet_TakeText : (List Int) → Int → (Int → Int → (List Int) → Option R) → Option R) (l_7 : (List Int) → (List (List Int)) → ((List Int) → (List (List Int)) → (List Int) → Option R) → Int → (List Int) → Option R) (l_12 : (List Int) → (List (List Int)) → Int → ((List Int) → (List (List Int)) → Bool → Int → (List Int) → Option R) → ((List Int) → (List (List Int)) → Int → (List Int) → Option R) → Int → (List Int) → Option R) (l_19 : (List Int) → (List (List Int)) → Int → (List Int) → ((List (List Int)) → Bool → Int → (List Int) → Option R) → ((List (List Int)) → Int → (List Int) → Option R) → Int → Int → Option R) (l_30 : (List (List Int)) → (List Int) → (Bool → Int → (List Int) → Option R) → (Int → (List Int) → Option R) → Int → Int → Option R) : CallF R := fun f av es K => iteH (decide (f = 8)) (sh8 c_law1_begun av es K) (iteH (decide (f = 10)) (sh10 c_octet_Put av es K) (iteH (decide (f = 11)) (sh11 c_octet_Text av es K) (iteH (decide (f = 16)) (sh16 c_octet_Take av es K) (iteH (decide (f = 17)) (sh17 c_octet_TakeText av es K) (none)))))

def sl_law1_OctetRows_l7 {R : Type} (l_7 : (List Int) → (List (List Int)) → ((List Int) → (List (List Int)) → (List Int) → Option R) → Int → (List Int) → Option R) (vs : List S) (es : List Ent) (K : Out → List S → List Ent → Option R) : Option R :=
  match vs, es with
  | [.sl (.int .u64) v5, .sl (.slice (.int .u8)) v6, .own (.int .u8) 0, .int .i64 v7], [.buf (.int .u8) v8 false] => l_7 v5 v6 (fun (r0 : (List Int)) (r1 : (List (List Int))) (r2 : (List Int)) => K (.exit 0) [.sl (.int .u64) r0, .sl (.slice (.int .u8)) r1, .own (.int .u8) 0] [.buf (.int .u8) r2 false]) v7 v8
  | _, _ => none

def sl_law1_OctetRows_l12 {R : Type} (l_12 : (List Int) → (List (List Int)) → Int → ((List Int) → (List (List Int)) → Bool → Int → (List Int) → Option R) → ((List Int) → (List (List Int)) → Int → (List Int) → Option R) → Int → (List Int) → Option R) (vs : List S) (es : List Ent) (K : Out → List S → List Ent → Option R) : Option R :=
  match vs, es with
  | [.sl (.int .u64) v13, .sl (.slice (.int .u8)) v14, .own (.int .u8) 0, .int .i64 v15, .int .i64 v16], [.buf (.int .u8) v17 false] => l_12 v13 v14 v15 (fun (r0 : (List Int)) (r1 : (List (List Int))) (r2 : Bool) (r3 : Int) (r4 : (List Int)) => K .ret [.sl (.int .u64) r0, .sl (.slice (.int .u8)) r1, .bool r2, .own (.int .u8) 0, .int .i64 r3] [.buf (.int .u8) r4 false]) (fun (r0 : (List Int)) (r1 : (List (List Int))) (r2 : Int) (r3 : (List Int)) => K (.exit 2) [.sl (.int .u64) r0, .sl (.slice (.int .u8)) r1, .junk, .own (.int .u8) 0, .int .i64 r2] [.buf (.int .u8) r3 false]) v16 v17
  | _, _ => none

def sl_law1_OctetRows_l19 {R : Type} (l_19 : (List Int) → (List (List Int)) → Int → (List Int) → ((List (List Int)) → Bool → Int → (List Int) → Option R) → ((List (List Int)) → Int → (List Int) → Option R) → Int → Int → Option R) (vs : List S) (es : List Ent) (K : Out → List S → List Ent → Option R) : Option R :=
  match vs, es with
  | [.sl (.int .u64) v28, .sl (.slice (.int .u8)) v29, .own (.int .u8) 0, .int .i64 v30, .int .i64 v31, .int .i64 v32], [.buf (.int .u8) v33 false] => l_19 v28 v29 v30 v33 (fun (r0 : (List (List Int))) (r1 : Bool) (r2 : Int) (r3 : (List Int)) => K .ret [.sl (.slice (.int .u8)) r0, .bool r1, .own (.int .u8) 0, .int .i64 r2] [.buf (.int .u8) r3 false]) (fun (r0 : (List (List Int))) (r1 : Int) (r2 : (List Int)) => K (.exit 4) [.sl (.slice (.int .u8)) r0, .junk, .own (.int .u8) 0, .int .i64 r1] [.buf (.int .u8) r2 false]) v31 v32
  | _, _ => none

def sl_law1_OctetRows_l30 {R : Type} (l_30 : (List (List Int)) → (List Int) → (Bool → Int → (List Int) → Option R) → (Int → (List Int) → Option R) → Int → Int → Option R) (vs : List S) (es : List Ent) (K : Out → List S → List Ent → Option R) : Option R :=
  match vs, es with
  | [.sl (.slice (.int .u8)) v48, .own (.int .u8) 0, .int .i64 v49, .int .i64 v50], [.buf (.int .u8) v51 true] => l_30 v48 v51 (fun (r0 : Bool) (r1 : Int) (r2 : (List Int)) => K .ret [.bool r0, .own (.int .u8) 0, .int .i64 r1] [.buf (.int .u8) r2 true]) (fun (r0 : Int) (r1 : (List Int)) => K (.exit 6) [.junk, .own (.int .u8) 0, .int .i64 r0] [.buf (.int .u8) r1 true]) v49 v50
  | _, _ => none

def lf_law1_OctetRows {R : Type} (c_law1_begun : (Bool → Option R) → Option R) (c_octet_Put : (List Int) → Int → Int → ((List Int) → Option R) → Option R) (c_octet_Text : (List Int) → (List Int) → ((List Int) → Option R) → Option R) (c_octet_Take : (List Int) → Int → Int → (Int → Int → Option R) → Option R) (c_octet_TakeText : (List Int) → Int → (Int → Int → (List Int) → Option R) → Option R) (l_7 : (List Int) → (List (List Int)) → ((List Int) → (List (List Int)) → (List Int) → Option R) → Int → (List Int) → Option R) (l_12 : (List Int) → (List (List Int)) → Int → ((List Int) → (List (List Int)) → Bool → Int → (List Int) → Option R) → ((List Int) → (List (List Int)) → Int → (List Int) → Option R) → Int → (List Int) → Option R) (l_19 : (List Int) → (List (List Int)) → Int → (List Int) → ((List (List Int)) → Bool → Int → (List Int) → Option R) → ((List (List Int)) → Int → (List Int) → Option R) → Int → Int → Option R) (l_30 : (List (List Int)) → (List Int) → (Bool → Int → (List Int) → Option R) → (Int → (List Int) → Option R) → Int → Int → Option R) : LoopF R := fun m np id _ vs es K => iteH (decide (m = 134) && decide (np = 0)) (iteH (decide (id = 7)) (sl_law1_OctetRows_l7 l_7 vs es K) (iteH (decide (id = 12)) (sl_law1_OctetRows_l12 l_12 vs es K) (iteH (decide (id = 19)) (sl_law1_OctetRows_l19 l_19 vs es K) (iteH (decide (id = 30)) (sl_law1_OctetRows_l30 l_30 vs es K) (none))))) none

theorem eq_law1_OctetRows_l7 {R : Type} (c_law1_begun : (Bool → Option R) → Option R) (c_octet_Put : (List Int) → Int → Int → ((List Int) → Option R) → Option R) (c_octet_Text : (List Int) → (List Int) → ((List Int) → Option R) → Option R) (c_octet_Take : (List Int) → Int → Int → (Int → Int → Option R) → Option R) (c_octet_TakeText : (List Int) → Int → (Int → Int → (List Int) → Option R) → Option R) (l_7 : (List Int) → (List (List Int)) → ((List Int) → (List (List Int)) → (List Int) → Option R) → Int → (List Int) → Option R) (l_12 : (List Int) → (List (List Int)) → Int → ((List Int) → (List (List Int)) → Bool → Int → (List Int) → Option R) → ((List Int) → (List (List Int)) → Int → (List Int) → Option R) → Int → (List Int) → Option R) (l_19 : (List Int) → (List (List Int)) → Int → (List Int) → ((List (List Int)) → Bool → Int → (List Int) → Option R) → ((List (List Int)) → Int → (List Int) → Option R) → Int → Int → Option R) (l_30 : (List (List Int)) → (List Int) → (Bool → Int → (List Int) → Option R) → (Int → (List Int) → Option R) → Int → Int → Option R) (v5 : (List Int)) (v6 : (List (List Int))) (v7 : Int) (v8 : (List Int)) (K : Out → List S → List Ent → Option R) :
    acodeK C_law1_OctetRows raw (cf_law1_OctetRows c_law1_begun c_octet_Put c_octet_Text c_octet_Take c_octet_TakeText l_7 l_12 l_19 l_30) (lf_law1_OctetRows c_law1_begun c_octet_Put c_octet_Text c_octet_Take c_octet_TakeText l_7 l_12 l_19 l_30) (loopBody Try.prog 6 7) (placeSt 134 0 [0, 1, 5, 6] [.sl (.int .u64) v5, .sl (.slice (.int .u8)) v6, .own (.int .u8) 0, .int .i64 v7] [.buf (.int .u8) v8 false]) (loopKont C_law1_OctetRows (lf_law1_OctetRows c_law1_begun c_octet_Put c_octet_Text c_octet_Take c_octet_TakeText l_7 l_12 l_19 l_30) 134 0 7 (loopBody Try.prog 6 7) K) =
      law1_OctetRows_l7_b c_law1_begun c_octet_Put c_octet_Text c_octet_Take c_octet_TakeText l_7 l_12 l_19 l_30 v5 v6 (fun (r0 : (List Int)) (r1 : (List (List Int))) (r2 : (List Int)) => K (.exit 0) [.sl (.int .u64) r0, .sl (.slice (.int .u8)) r1, .own (.int .u8) 0] [.buf (.int .u8) r2 false]) v7 v8 := by kernel_rfl

theorem eq_law1_OctetRows_l12 {R : Type} (c_law1_begun : (Bool → Option R) → Option R) (c_octet_Put : (List Int) → Int → Int → ((List Int) → Option R) → Option R) (c_octet_Text : (List Int) → (List Int) → ((List Int) → Option R) → Option R) (c_octet_Take : (List Int) → Int → Int → (Int → Int → Option R) → Option R) (c_octet_TakeText : (List Int) → Int → (Int → Int → (List Int) → Option R) → Option R) (l_7 : (List Int) → (List (List Int)) → ((List Int) → (List (List Int)) → (List Int) → Option R) → Int → (List Int) → Option R) (l_12 : (List Int) → (List (List Int)) → Int → ((List Int) → (List (List Int)) → Bool → Int → (List Int) → Option R) → ((List Int) → (List (List Int)) → Int → (List Int) → Option R) → Int → (List Int) → Option R) (l_19 : (List Int) → (List (List Int)) → Int → (List Int) → ((List (List Int)) → Bool → Int → (List Int) → Option R) → ((List (List Int)) → Int → (List Int) → Option R) → Int → Int → Option R) (l_30 : (List (List Int)) → (List Int) → (Bool → Int → (List Int) → Option R) → (Int → (List Int) → Option R) → Int → Int → Option R) (v13 : (List Int)) (v14 : (List (List Int))) (v15 : Int) (v16 : Int) (v17 : (List Int)) (K : Out → List S → List Ent → Option R) :
    acodeK C_law1_OctetRows raw (cf_law1_OctetRows c_law1_begun c_octet_Put c_octet_Text c_octet_Take c_octet_TakeText l_7 l_12 l_19 l_30) (lf_law1_OctetRows c_law1_begun c_octet_Put c_octet_Text c_octet_Take c_octet_TakeText l_7 l_12 l_19 l_30) (loopBody Try.prog 6 12) (placeSt 134 0 [0, 1, 5, 7, 8] [.sl (.int .u64) v13, .sl (.slice (.int .u8)) v14, .own (.int .u8) 0, .int .i64 v15, .int .i64 v16] [.buf (.int .u8) v17 false]) (loopKont C_law1_OctetRows (lf_law1_OctetRows c_law1_begun c_octet_Put c_octet_Text c_octet_Take c_octet_TakeText l_7 l_12 l_19 l_30) 134 0 12 (loopBody Try.prog 6 12) K) =
      law1_OctetRows_l12_b c_law1_begun c_octet_Put c_octet_Text c_octet_Take c_octet_TakeText l_7 l_12 l_19 l_30 v13 v14 v15 (fun (r0 : (List Int)) (r1 : (List (List Int))) (r2 : Bool) (r3 : Int) (r4 : (List Int)) => K .ret [.sl (.int .u64) r0, .sl (.slice (.int .u8)) r1, .bool r2, .own (.int .u8) 0, .int .i64 r3] [.buf (.int .u8) r4 false]) (fun (r0 : (List Int)) (r1 : (List (List Int))) (r2 : Int) (r3 : (List Int)) => K (.exit 2) [.sl (.int .u64) r0, .sl (.slice (.int .u8)) r1, .junk, .own (.int .u8) 0, .int .i64 r2] [.buf (.int .u8) r3 false]) v16 v17 := by kernel_rfl

theorem eq_law1_OctetRows_l19 {R : Type} (c_law1_begun : (Bool → Option R) → Option R) (c_octet_Put : (List Int) → Int → Int → ((List Int) → Option R) → Option R) (c_octet_Text : (List Int) → (List Int) → ((List Int) → Option R) → Option R) (c_octet_Take : (List Int) → Int → Int → (Int → Int → Option R) → Option R) (c_octet_TakeText : (List Int) → Int → (Int → Int → (List Int) → Option R) → Option R) (l_7 : (List Int) → (List (List Int)) → ((List Int) → (List (List Int)) → (List Int) → Option R) → Int → (List Int) → Option R) (l_12 : (List Int) → (List (List Int)) → Int → ((List Int) → (List (List Int)) → Bool → Int → (List Int) → Option R) → ((List Int) → (List (List Int)) → Int → (List Int) → Option R) → Int → (List Int) → Option R) (l_19 : (List Int) → (List (List Int)) → Int → (List Int) → ((List (List Int)) → Bool → Int → (List Int) → Option R) → ((List (List Int)) → Int → (List Int) → Option R) → Int → Int → Option R) (l_30 : (List (List Int)) → (List Int) → (Bool → Int → (List Int) → Option R) → (Int → (List Int) → Option R) → Int → Int → Option R) (v28 : (List Int)) (v29 : (List (List Int))) (v30 : Int) (v31 : Int) (v32 : Int) (v33 : (List Int)) (K : Out → List S → List Ent → Option R) :
    acodeK C_law1_OctetRows raw (cf_law1_OctetRows c_law1_begun c_octet_Put c_octet_Text c_octet_Take c_octet_TakeText l_7 l_12 l_19 l_30) (lf_law1_OctetRows c_law1_begun c_octet_Put c_octet_Text c_octet_Take c_octet_TakeText l_7 l_12 l_19 l_30) (loopBody Try.prog 6 19) (placeSt 134 0 [0, 1, 5, 7, 9, 10] [.sl (.int .u64) v28, .sl (.slice (.int .u8)) v29, .own (.int .u8) 0, .int .i64 v30, .int .i64 v31, .int .i64 v32] [.buf (.int .u8) v33 false]) (loopKont C_law1_OctetRows (lf_law1_OctetRows c_law1_begun c_octet_Put c_octet_Text c_octet_Take c_octet_TakeText l_7 l_12 l_19 l_30) 134 0 19 (loopBody Try.prog 6 19) K) =
      law1_OctetRows_l19_b c_law1_begun c_octet_Put c_octet_Text c_octet_Take c_octet_TakeText l_7 l_12 l_19 l_30 v28 v29 v30 v33 (fun (r0 : (List (List Int))) (r1 : Bool) (r2 : Int) (r3 : (List Int)) => K .ret [.sl (.slice (.int .u8)) r0, .bool r1, .own (.int .u8) 0, .int .i64 r2] [.buf (.int .u8) r3 false]) (fun (r0 : (List (List Int))) (r1 : Int) (r2 : (List Int)) => K (.exit 4) [.sl (.slice (.int .u8)) r0, .junk, .own (.int .u8) 0, .int .i64 r1] [.buf (.int .u8) r2 false]) v31 v32 := by kernel_rfl

theorem eq_law1_OctetRows_l30 {R : Type} (c_law1_begun : (Bool → Option R) → Option R) (c_octet_Put : (List Int) → Int → Int → ((List Int) → Option R) → Option R) (c_octet_Text : (List Int) → (List Int) → ((List Int) → Option R) → Option R) (c_octet_Take : (List Int) → Int → Int → (Int → Int → Option R) → Option R) (c_octet_TakeText : (List Int) → Int → (Int → Int → (List Int) → Option R) → Option R) (l_7 : (List Int) → (List (List Int)) → ((List Int) → (List (List Int)) → (List Int) → Option R) → Int → (List Int) → Option R) (l_12 : (List Int) → (List (List Int)) → Int → ((List Int) → (List (List Int)) → Bool → Int → (List Int) → Option R) → ((List Int) → (List (List Int)) → Int → (List Int) → Option R) → Int → (List Int) → Option R) (l_19 : (List Int) → (List (List Int)) → Int → (List Int) → ((List (List Int)) → Bool → Int → (List Int) → Option R) → ((List (List Int)) → Int → (List Int) → Option R) → Int → Int → Option R) (l_30 : (List (List Int)) → (List Int) → (Bool → Int → (List Int) → Option R) → (Int → (List Int) → Option R) → Int → Int → Option R) (v48 : (List (List Int))) (v49 : Int) (v50 : Int) (v51 : (List Int)) (K : Out → List S → List Ent → Option R) :
    acodeK C_law1_OctetRows raw (cf_law1_OctetRows c_law1_begun c_octet_Put c_octet_Text c_octet_Take c_octet_TakeText l_7 l_12 l_19 l_30) (lf_law1_OctetRows c_law1_begun c_octet_Put c_octet_Text c_octet_Take c_octet_TakeText l_7 l_12 l_19 l_30) (loopBody Try.prog 6 30) (placeSt 134 0 [1, 5, 7, 15] [.sl (.slice (.int .u8)) v48, .own (.int .u8) 0, .int .i64 v49, .int .i64 v50] [.buf (.int .u8) v51 true]) (loopKont C_law1_OctetRows (lf_law1_OctetRows c_law1_begun c_octet_Put c_octet_Text c_octet_Take c_octet_TakeText l_7 l_12 l_19 l_30) 134 0 30 (loopBody Try.prog 6 30) K) =
      law1_OctetRows_l30_b c_law1_begun c_octet_Put c_octet_Text c_octet_Take c_octet_TakeText l_7 l_12 l_19 l_30 v48 v51 (fun (r0 : Bool) (r1 : Int) (r2 : (List Int)) => K .ret [.bool r0, .own (.int .u8) 0, .int .i64 r1] [.buf (.int .u8) r2 true]) (fun (r0 : Int) (r1 : (List Int)) => K (.exit 6) [.junk, .own (.int .u8) 0, .int .i64 r0] [.buf (.int .u8) r1 true]) v49 v50 := by kernel_rfl

theorem eq_law1_OctetRows {R : Type} (c_law1_begun : (Bool → Option R) → Option R) (c_octet_Put : (List Int) → Int → Int → ((List Int) → Option R) → Option R) (c_octet_Text : (List Int) → (List Int) → ((List Int) → Option R) → Option R) (c_octet_Take : (List Int) → Int → Int → (Int → Int → Option R) → Option R) (c_octet_TakeText : (List Int) → Int → (Int → Int → (List Int) → Option R) → Option R) (l_7 : (List Int) → (List (List Int)) → ((List Int) → (List (List Int)) → (List Int) → Option R) → Int → (List Int) → Option R) (l_12 : (List Int) → (List (List Int)) → Int → ((List Int) → (List (List Int)) → Bool → Int → (List Int) → Option R) → ((List Int) → (List (List Int)) → Int → (List Int) → Option R) → Int → (List Int) → Option R) (l_19 : (List Int) → (List (List Int)) → Int → (List Int) → ((List (List Int)) → Bool → Int → (List Int) → Option R) → ((List (List Int)) → Int → (List Int) → Option R) → Int → Int → Option R) (l_30 : (List (List Int)) → (List Int) → (Bool → Int → (List Int) → Option R) → (Int → (List Int) → Option R) → Int → Int → Option R) (v1 : (List Int)) (v2 : (List (List Int))) (K : S → List Ent → Option R) :
    runK C_law1_OctetRows raw (cf_law1_OctetRows c_law1_begun c_octet_Put c_octet_Text c_octet_Take c_octet_TakeText l_7 l_12 l_19 l_30) (lf_law1_OctetRows c_law1_begun c_octet_Put c_octet_Text c_octet_Take c_octet_TakeText l_7 l_12 l_19 l_30) 6 [.sl (.int .u64) v1, .sl (.slice (.int .u8)) v2] [] K =
      law1_OctetRows_b c_law1_begun c_octet_Put c_octet_Text c_octet_Take c_octet_TakeText l_7 l_12 l_19 l_30 v1 v2 (fun (r0 : Bool) => K (.bool r0) []) := by kernel_rfl

noncomputable def C_law1_OctetMost : Ctx := { P := Try.prog, mv := [], glob := glob, live := fun n => look n [], out := fun n => look n [], frz := fun n => look n [], bef := fun n => look n [] }

def cf_law1_OctetMost {R : Type} (c_law1_begun : (Bool → Option R) → Option R) (c_octet_Text : (List Int) → (List Int) → ((List Int) → Option R) → Option R) (c_octet_TakeText : (List Int) → Int → (Int → Int → (List Int) → Option R) → Option R) : CallF R := fun f av es K => iteH (decide (f = 8)) (sh8 c_law1_begun av es K) (iteH (decide (f = 11)) (sh11 c_octet_Text av es K) (iteH (decide (f = 17)) (sh17 c_octet_TakeText av es K) (none)))

def lf_law1_OctetMost {R : Type} (c_law1_begun : (Bool → Option R) → Option R) (c_octet_Text : (List Int) → (List Int) → ((List Int) → Option R) → Option R) (c_octet_TakeText : (List Int) → Int → (Int → Int → (List Int) → Option R) → Option R) : LoopF R := fun m np id _ vs es K => none

theorem eq_law1_OctetMost {R : Type} (c_law1_begun : (Bool → Option R) → Option R) (c_octet_Text : (List Int) → (List Int) → ((List Int) → Option R) → Option R) (c_octet_TakeText : (List Int) → Int → (Int → Int → (List Int) → Option R) → Option R) (v1 : (List Int)) (v2 : Int) (K : S → List Ent → Option R) :
    runK C_law1_OctetMost raw (cf_law1_OctetMost c_law1_begun c_octet_Text c_octet_TakeText) (lf_law1_OctetMost c_law1_begun c_octet_Text c_octet_TakeText) 7 [.sl (.int .u8) v1, .int .u16 v2] [] K =
      law1_OctetMost_b c_law1_begun c_octet_Text c_octet_TakeText v1 v2 (fun (r0 : Bool) => K (.bool r0) []) := by kernel_rfl

end
end Go.Ab.T
