/- LeaATA: a part of the proofs of this seat's statements. -/
import Derived.Test.YtnnojemckfikfaaDef
import Derived.Test.YtnnojemckfikfaaRawC
import Derived.Test.YtnnojemckfikfaaProg
import Derived.KernelRfl




namespace Go.Ab.T

open Go Go.Ab Go.Proofs

set_option maxRecDepth 100000

set_option linter.unusedVariables false

noncomputable section

def glob : Nat → Option S := fun _ => none

def raw : FuncId → Bool := fun f => [].contains f

def slices_Max_uint8_uint8_l5_b {R : Type} (l_5 : (List Int) → (Int → Option R) → Int → Int → Option R) (v2 : (List Int)) (Ke0 : Int → Option R) (v3 : Int) (v4 : Int) : Option R :=
    bif decide (v4 < (v2.length : Int)) then
    (gd (decide (0 ≤ v4))
     (gd (decide (v4 < (v2.length : Int)))
      (l_5 v2 Ke0 (mx v3 (v2.getD (Int.toNat v4) (0 : Int))) (IntKind.i64.wrap (v4 + 1)))))
    else (Ke0 v3)

def slices_Max_uint8_uint8_b {R : Type} (l_5 : (List Int) → (Int → Option R) → Int → Int → Option R) (v1 : (List Int)) (K : Int → Option R) : Option R :=
    bif decide ((v1.length : Int) < 1) then
    (none)
    else (gd (decide (0 < (v1.length : Int)))
     (l_5 v1
      (fun (v5 : Int) =>
       K v5) (v1.getD 0 (0 : Int)) 1))

def slices_Max_uint8_uint8_l5 {R : Type} (kf : Nat) : Nat → (List Int) → (Int → Option R) → Int → Int → Option R
  | 0, _, _, _, _ => none
  | k + 1, y0, y1, y2, y3 => slices_Max_uint8_uint8_l5_b (slices_Max_uint8_uint8_l5 kf k) y0 y1 y2 y3

def slices_Max_uint8_uint8 {R : Type} (kf : Nat) (v1 : (List Int)) (K : Int → Option R) : Option R := slices_Max_uint8_uint8_b (slices_Max_uint8_uint8_l5 kf kf) v1 K

def machine_classes_b {R : Type} (c_slices_Max_uint8_uint8 : (List Int) → (Int → Option R) → Option R) (v1 : (List Int)) (v2 : (List (List Int))) (v3 : (List Bool)) (K : Int → Option R) : Option R :=
    c_slices_Max_uint8_uint8 v1 (fun (v4 : Int) =>
     K (IntKind.i64.wrap ((IntKind.i64.wrap v4) + 1)))

def machine_classes {R : Type} (kf : Nat) (v1 : (List Int)) (v2 : (List (List Int))) (v3 : (List Bool)) (K : Int → Option R) : Option R := machine_classes_b (slices_Max_uint8_uint8 kf) v1 v2 v3 K

def machine_May_1_b {R : Type} (v1 : Int) (v2 : Int) (K : Bool → Int → Option R) : Option R :=
    bif decide (v1 < 0) then
    (K true v2)
    else (K (decide (v2 ≤ v1)) v2)

def machine_May_1 {R : Type} (v1 : Int) (v2 : Int) (K : Bool → Int → Option R) : Option R := machine_May_1_b v1 v2 K

def slices_IndexFunc_int_int_1_l2_b {R : Type} (c_machine_May_1 : Int → Int → (Bool → Int → Option R) → Option R) (l_2 : (List Int) → Int → (Int → Int → Option R) → (Int → Option R) → Int → Int → Option R) (v3 : (List Int)) (v4 : Int) (Kr : Int → Int → Option R) (Ke0 : Int → Option R) (v5 : Int) (v6 : Int) : Option R :=
    bif decide (v5 < v4) then
    (gd (decide (0 ≤ v5))
     (gd (decide (v5 < (v3.length : Int)))
      (c_machine_May_1 (v3.getD (Int.toNat v5) (0 : Int)) v6 (fun (v7 : Bool) (v8 : Int) =>
        bif v7 then
        (Kr v5 v8)
        else (l_2 v3 v4 Kr Ke0 (IntKind.i64.wrap (v5 + 1)) v8)))))
    else (Ke0 v6)

def slices_IndexFunc_int_int_1_b {R : Type} (c_machine_May_1 : Int → Int → (Bool → Int → Option R) → Option R) (l_2 : (List Int) → Int → (Int → Int → Option R) → (Int → Option R) → Int → Int → Option R) (v1 : (List Int)) (v2 : Int) (K : Int → Int → Option R) : Option R :=
    l_2 v1 (v1.length : Int)
    (fun (v9 : Int) (v10 : Int) =>
     K v9 v10)
    (fun (v11 : Int) =>
     K (-1) v11) 0 v2

def slices_IndexFunc_int_int_1_l2 {R : Type} (kf : Nat) : Nat → (List Int) → Int → (Int → Int → Option R) → (Int → Option R) → Int → Int → Option R
  | 0, _, _, _, _, _, _ => none
  | k + 1, y0, y1, y2, y3, y4, y5 => slices_IndexFunc_int_int_1_l2_b machine_May_1 (slices_IndexFunc_int_int_1_l2 kf k) y0 y1 y2 y3 y4 y5

def slices_IndexFunc_int_int_1 {R : Type} (kf : Nat) (v1 : (List Int)) (v2 : Int) (K : Int → Int → Option R) : Option R := slices_IndexFunc_int_int_1_b machine_May_1 (slices_IndexFunc_int_int_1_l2 kf kf) v1 v2 K

def slices_ContainsFunc_int_int_b {R : Type} (c_slices_IndexFunc_int_int_1 : (List Int) → Int → (Int → Int → Option R) → Option R) (v1 : (List Int)) (v2 : Int) (K : Bool → Int → Option R) : Option R :=
    c_slices_IndexFunc_int_int_1 v1 v2 (fun (v3 : Int) (v4 : Int) =>
     K (decide (0 ≤ v3)) v4)

def slices_ContainsFunc_int_int {R : Type} (kf : Nat) (v1 : (List Int)) (v2 : Int) (K : Bool → Int → Option R) : Option R := slices_ContainsFunc_int_int_b (slices_IndexFunc_int_int_1 kf) v1 v2 K

def machine_May_l6_b {R : Type} (c_machine_classes : (List Int) → (List (List Int)) → (List Bool) → (Int → Option R) → Option R) (c_slices_ContainsFunc_int_int : (List Int) → Int → (Bool → Int → Option R) → Option R) (l_6 : Int → (List (List Int)) → Int → (Bool → Option R) → (Option R) → Int → Int → Option R) (v6 : Int) (v7 : (List (List Int))) (v8 : Int) (Kr : Bool → Option R) (Ke0 : Option R) (v9 : Int) (v10 : Int) : Option R :=
    bif decide (v9 < v8) then
    (gd (decide (0 ≤ v9))
     (gd (decide (v9 < (v7.length : Int)))
      (let j13 : Bool → Int → Option R := fun v11 v12 =>
       (bif v11 then
        (Kr false)
        else (l_6 v6 v7 v8 Kr Ke0 (IntKind.i64.wrap (v9 + 1)) v12))
       (bif (!(decide (((v7.getD (Int.toNat v9) ([] : (List Int))).length : Int) = v6))) then
        (j13 true v10)
        else (c_slices_ContainsFunc_int_int (v7.getD (Int.toNat v9) ([] : (List Int))) v10 (fun (v14 : Bool) (v15 : Int) =>
          j13 v14 v15))))))
    else (Ke0)

def machine_May_b {R : Type} (c_machine_classes : (List Int) → (List (List Int)) → (List Bool) → (Int → Option R) → Option R) (c_slices_ContainsFunc_int_int : (List Int) → Int → (Bool → Int → Option R) → Option R) (l_6 : Int → (List (List Int)) → Int → (Bool → Option R) → (Option R) → Int → Int → Option R) (v1 : (List Int)) (v2 : (List (List Int))) (v3 : (List Bool)) (K : Bool → Option R) : Option R :=
    let j17 : Bool → Option R := fun v4 =>
    (bif v4 then
     (K false)
     else (c_machine_classes v1 v2 v3 (fun (v5 : Int) =>
       l_6 v5 v2 (v2.length : Int)
       (fun (v16 : Bool) =>
        K v16)
       (K true) 0 (v2.length : Int))))
    (bif decide ((v2.length : Int) < 1) then
     (j17 true)
     else (bif decide (2000 < (v2.length : Int)) then
      (j17 true)
      else (j17 (!(decide ((v3.length : Int) = (v2.length : Int)))))))

def machine_May_l6 {R : Type} (kf : Nat) : Nat → Int → (List (List Int)) → Int → (Bool → Option R) → (Option R) → Int → Int → Option R
  | 0, _, _, _, _, _, _, _ => none
  | k + 1, y0, y1, y2, y3, y4, y5, y6 => machine_May_l6_b (machine_classes kf) (slices_ContainsFunc_int_int kf) (machine_May_l6 kf k) y0 y1 y2 y3 y4 y5 y6

def machine_May {R : Type} (kf : Nat) (v1 : (List Int)) (v2 : (List (List Int))) (v3 : (List Bool)) (K : Bool → Option R) : Option R := machine_May_b (machine_classes kf) (slices_ContainsFunc_int_int kf) (machine_May_l6 kf kf) v1 v2 v3 K

def least_mark_l3_b {R : Type} (l_3 : (List Int) → (List Int) → Int → ((List Int) → Option R) → Int → (List Int) → Option R) (v4 : (List Int)) (v5 : (List Int)) (v6 : Int) (Ke0 : (List Int) → Option R) (v7 : Int) (v8 : (List Int)) : Option R :=
    bif decide (v7 < v6) then
    (gd (decide (0 ≤ v7))
     (gd (decide (v7 < (v5.length : Int)))
      (gd (decide (0 ≤ (v5.getD (Int.toNat v7) (0 : Int))))
       (gd (decide ((v5.getD (Int.toNat v7) (0 : Int)) < (v4.length : Int)))
        (gd (decide (0 ≤ (v5.getD (Int.toNat v7) (0 : Int))))
         (gd (decide ((v5.getD (Int.toNat v7) (0 : Int)) < (v4.length : Int)))
          (gd (decide (v8.length + ([(IntKind.u8.wrap (v4.getD (Int.toNat (v5.getD (Int.toNat v7) (0 : Int))) (0 : Int))), (IntKind.u8.wrap (shr .i64 (v4.getD (Int.toNat (v5.getD (Int.toNat v7) (0 : Int))) (0 : Int)) 8))] : List Int).length < SMALL))
           (l_3 v4 v5 v6 Ke0 (IntKind.i64.wrap (v7 + 1)) (v8 ++ ([(IntKind.u8.wrap (v4.getD (Int.toNat (v5.getD (Int.toNat v7) (0 : Int))) (0 : Int))), (IntKind.u8.wrap (shr .i64 (v4.getD (Int.toNat (v5.getD (Int.toNat v7) (0 : Int))) (0 : Int)) 8))] : List Int))))))))))
    else (Ke0 v8)

def least_mark_b {R : Type} (l_3 : (List Int) → (List Int) → Int → ((List Int) → Option R) → Int → (List Int) → Option R) (v1 : Int) (v2 : (List Int)) (v3 : (List Int)) (K : (List Int) → Option R) : Option R :=
    l_3 v3 v2 (v2.length : Int)
    (fun (v9 : (List Int)) =>
     K v9) 0 ([(IntKind.u8.wrap v1), (IntKind.u8.wrap (shr .i64 v1 8))] : List Int)

def least_mark_l3 {R : Type} (kf : Nat) : Nat → (List Int) → (List Int) → Int → ((List Int) → Option R) → Int → (List Int) → Option R
  | 0, _, _, _, _, _, _ => none
  | k + 1, y0, y1, y2, y3, y4, y5 => least_mark_l3_b (least_mark_l3 kf k) y0 y1 y2 y3 y4 y5

def least_mark {R : Type} (kf : Nat) (v1 : Int) (v2 : (List Int)) (v3 : (List Int)) (K : (List Int) → Option R) : Option R := least_mark_b (least_mark_l3 kf kf) v1 v2 v3 K

def least_parts_l4_b {R : Type} (c_least_mark : Int → (List Int) → (List Int) → ((List Int) → Option R) → Option R) (l_4 : (List Bool) → Int → (List Int) → (List (List Int)) → (List Bool) → (Int → (List Int) → (List (List Int)) → (List Bool) → (List Int) → Option R) → Int → Int → (List Int) → Option R) (l_9 : ((List Int) → Option R) → Int → (List Int) → (List (List Int)) → (List Bool) → (List Int) → Option R) (l_12 : Int → (List (List Int)) → Int → (List Int) → (List (List Int)) → (List Bool) → (List Int) → (Int → (List Int) → (List (List Int)) → (List Bool) → (List Int) → (List ((List Int) × Int)) → Option R) → Int → (List Int) → (List ((List Int) × Int)) → Option R) (v5 : (List Bool)) (v6 : Int) (v8 : (List Int)) (v9 : (List (List Int))) (v10 : (List Bool)) (Ke0 : Int → (List Int) → (List (List Int)) → (List Bool) → (List Int) → Option R) (v4 : Int) (v7 : Int) (v11 : (List Int)) : Option R :=
    bif decide (v7 < v6) then
    (gd (decide (0 ≤ v7))
     (gd (decide (v7 < (v5.length : Int)))
      (gd (decide (0 < (v10.length : Int)))
       (bif (!(decide ((v5.getD (Int.toNat v7) false) = (v10.getD 0 false)))) then
        (gd (decide (0 ≤ v7))
         (gd (decide (v7 < (v11.length : Int)))
          (l_4 v5 v6 v8 v9 v10 Ke0 2 (IntKind.i64.wrap (v7 + 1)) (v11.set (Int.toNat v7) 1))))
        else (l_4 v5 v6 v8 v9 v10 Ke0 v4 (IntKind.i64.wrap (v7 + 1)) v11)))))
    else (Ke0 v4 v8 v9 v10 v11)

def least_parts_l9_b {R : Type} (c_least_mark : Int → (List Int) → (List Int) → ((List Int) → Option R) → Option R) (l_4 : (List Bool) → Int → (List Int) → (List (List Int)) → (List Bool) → (Int → (List Int) → (List (List Int)) → (List Bool) → (List Int) → Option R) → Int → Int → (List Int) → Option R) (l_9 : ((List Int) → Option R) → Int → (List Int) → (List (List Int)) → (List Bool) → (List Int) → Option R) (l_12 : Int → (List (List Int)) → Int → (List Int) → (List (List Int)) → (List Bool) → (List Int) → (Int → (List Int) → (List (List Int)) → (List Bool) → (List Int) → (List ((List Int) × Int)) → Option R) → Int → (List Int) → (List ((List Int) × Int)) → Option R) (Kr : (List Int) → Option R) (v17 : Int) (v18 : (List Int)) (v19 : (List (List Int))) (v20 : (List Bool)) (v21 : (List Int)) : Option R :=
    gd (decide (0 ≤ (v21.length : Int)))
    (gd (decide ((v21.length : Int) ≤ (v21.length : Int)))
     (gd (decide ((v21.length : Int) < (SMALL : Int)))
      (l_12 v17 v19 (v19.length : Int) v18 v19 v20 v21
       (fun (v36 : Int) (v37 : (List Int)) (v38 : (List (List Int))) (v39 : (List Bool)) (v40 : (List Int)) (v41 : (List ((List Int) × Int))) =>
        gd (decide (v41.length < SMALL))
        (bif decide ((v41.length : Int) = v36) then
         (Kr v40)
         else (gd (decide (v41.length < SMALL))
          (l_9 Kr (v41.length : Int) v37 v38 v39 v40)))) 0 (List.replicate (Int.toNat (v21.length : Int)) (0 : Int)) ([] : List ((List Int) × Int)))))

def least_parts_l12_b {R : Type} (c_least_mark : Int → (List Int) → (List Int) → ((List Int) → Option R) → Option R) (l_4 : (List Bool) → Int → (List Int) → (List (List Int)) → (List Bool) → (Int → (List Int) → (List (List Int)) → (List Bool) → (List Int) → Option R) → Int → Int → (List Int) → Option R) (l_9 : ((List Int) → Option R) → Int → (List Int) → (List (List Int)) → (List Bool) → (List Int) → Option R) (l_12 : Int → (List (List Int)) → Int → (List Int) → (List (List Int)) → (List Bool) → (List Int) → (Int → (List Int) → (List (List Int)) → (List Bool) → (List Int) → (List ((List Int) × Int)) → Option R) → Int → (List Int) → (List ((List Int) × Int)) → Option R) (v22 : Int) (v23 : (List (List Int))) (v24 : Int) (v26 : (List Int)) (v27 : (List (List Int))) (v28 : (List Bool)) (v29 : (List Int)) (Ke4 : Int → (List Int) → (List (List Int)) → (List Bool) → (List Int) → (List ((List Int) × Int)) → Option R) (v25 : Int) (v30 : (List Int)) (v31 : (List ((List Int) × Int))) : Option R :=
    bif decide (v25 < v24) then
    (gd (decide (0 ≤ v25))
     (gd (decide (v25 < (v23.length : Int)))
      (gd (decide (0 ≤ v25))
       (gd (decide (v25 < (v29.length : Int)))
        (c_least_mark (v29.getD (Int.toNat v25) (0 : Int)) (v23.getD (Int.toNat v25) ([] : (List Int))) v29 (fun (v32 : (List Int)) =>
          let j35 : Int → (List ((List Int) × Int)) → Option R := fun v33 v34 =>
          (gd (decide (0 ≤ v25))
           (gd (decide (v25 < (v30.length : Int)))
            (l_12 v22 v23 v24 v26 v27 v28 v29 Ke4 (IntKind.i64.wrap (v25 + 1)) (v30.set (Int.toNat v25) v33) v34)))
          (bif (!((mget v31 v32).isSome)) then
           (gd (decide (v31.length < SMALL))
            (j35 (v31.length : Int) (mset v31 v32 (v31.length : Int))))
           else (j35 ((mget v31 v32).getD (0 : Int)) v31))))))))
    else (Ke4 v22 v26 v27 v28 v30 v31)

def least_parts_b {R : Type} (c_least_mark : Int → (List Int) → (List Int) → ((List Int) → Option R) → Option R) (l_4 : (List Bool) → Int → (List Int) → (List (List Int)) → (List Bool) → (Int → (List Int) → (List (List Int)) → (List Bool) → (List Int) → Option R) → Int → Int → (List Int) → Option R) (l_9 : ((List Int) → Option R) → Int → (List Int) → (List (List Int)) → (List Bool) → (List Int) → Option R) (l_12 : Int → (List (List Int)) → Int → (List Int) → (List (List Int)) → (List Bool) → (List Int) → (Int → (List Int) → (List (List Int)) → (List Bool) → (List Int) → (List ((List Int) × Int)) → Option R) → Int → (List Int) → (List ((List Int) × Int)) → Option R) (v1 : (List Int)) (v2 : (List (List Int))) (v3 : (List Bool)) (K : (List Int) → Option R) : Option R :=
    gd (decide (0 ≤ (v2.length : Int)))
    (gd (decide ((v2.length : Int) ≤ (v2.length : Int)))
     (gd (decide ((v2.length : Int) < (SMALL : Int)))
      (l_4 v3 (v3.length : Int) v1 v2 v3
       (fun (v12 : Int) (v13 : (List Int)) (v14 : (List (List Int))) (v15 : (List Bool)) (v16 : (List Int)) =>
        l_9
        (fun (v42 : (List Int)) =>
         K v42) v12 v13 v14 v15 v16) 1 0 (List.replicate (Int.toNat (v2.length : Int)) (0 : Int)))))

def least_parts_l4 {R : Type} (kf : Nat) : Nat → (List Bool) → Int → (List Int) → (List (List Int)) → (List Bool) → (Int → (List Int) → (List (List Int)) → (List Bool) → (List Int) → Option R) → Int → Int → (List Int) → Option R
  | 0, _, _, _, _, _, _, _, _, _ => none
  | k + 1, y0, y1, y2, y3, y4, y5, y6, y7, y8 => least_parts_l4_b (least_mark kf) (least_parts_l4 kf k) (fun _ _ _ _ _ _ => none) (fun _ _ _ _ _ _ _ _ _ _ _ => none) y0 y1 y2 y3 y4 y5 y6 y7 y8

def least_parts_l12 {R : Type} (kf : Nat) : Nat → Int → (List (List Int)) → Int → (List Int) → (List (List Int)) → (List Bool) → (List Int) → (Int → (List Int) → (List (List Int)) → (List Bool) → (List Int) → (List ((List Int) × Int)) → Option R) → Int → (List Int) → (List ((List Int) × Int)) → Option R
  | 0, _, _, _, _, _, _, _, _, _, _, _ => none
  | k + 1, y0, y1, y2, y3, y4, y5, y6, y7, y8, y9, y10 => least_parts_l12_b (least_mark kf) (least_parts_l4 kf k) (fun _ _ _ _ _ _ => none) (least_parts_l12 kf k) y0 y1 y2 y3 y4 y5 y6 y7 y8 y9 y10

def least_parts_l9 {R : Type} (kf : Nat) : Nat → ((List Int) → Option R) → Int → (List Int) → (List (List Int)) → (List Bool) → (List Int) → Option R
  | 0, _, _, _, _, _, _ => none
  | k + 1, y0, y1, y2, y3, y4, y5 => least_parts_l9_b (least_mark kf) (least_parts_l4 kf k) (least_parts_l9 kf k) (least_parts_l12 kf k) y0 y1 y2 y3 y4 y5

def least_parts {R : Type} (kf : Nat) (v1 : (List Int)) (v2 : (List (List Int))) (v3 : (List Bool)) (K : (List Int) → Option R) : Option R := least_parts_b (least_mark kf) (least_parts_l4 kf kf) (least_parts_l9 kf kf) (least_parts_l12 kf kf) v1 v2 v3 K

def least_order_l4_b {R : Type} (l_4 : ((List Int) → (List (Int × Int)) → Option R) → (List Int) → Int → (List Int) → (List (List Int)) → (List Bool) → (List Int) → (List (Int × Int)) → Option R) (l_7 : (List Int) → Int → (List Int) → (List (List Int)) → (List Bool) → ((List Int) → Int → (List Int) → (List (List Int)) → (List Bool) → (List Int) → (List (Int × Int)) → Option R) → Int → (List Int) → (List (Int × Int)) → Option R) (Ke0 : (List Int) → (List (Int × Int)) → Option R) (v5 : (List Int)) (v6 : Int) (v7 : (List Int)) (v8 : (List (List Int))) (v9 : (List Bool)) (v10 : (List Int)) (v11 : (List (Int × Int))) : Option R :=
    bif decide (v6 < (v10.length : Int)) then
    (l_7 v5 v6 v7 v8 v9
     (fun (v21 : (List Int)) (v22 : Int) (v23 : (List Int)) (v24 : (List (List Int))) (v25 : (List Bool)) (v26 : (List Int)) (v27 : (List (Int × Int))) =>
      l_4 Ke0 v21 (IntKind.i64.wrap (v22 + 1)) v23 v24 v25 v26 v27) 0 v10 v11)
    else (Ke0 v10 v11)

def least_order_l7_b {R : Type} (l_4 : ((List Int) → (List (Int × Int)) → Option R) → (List Int) → Int → (List Int) → (List (List Int)) → (List Bool) → (List Int) → (List (Int × Int)) → Option R) (l_7 : (List Int) → Int → (List Int) → (List (List Int)) → (List Bool) → ((List Int) → Int → (List Int) → (List (List Int)) → (List Bool) → (List Int) → (List (Int × Int)) → Option R) → Int → (List Int) → (List (Int × Int)) → Option R) (v12 : (List Int)) (v13 : Int) (v15 : (List Int)) (v16 : (List (List Int))) (v17 : (List Bool)) (Ke2 : (List Int) → Int → (List Int) → (List (List Int)) → (List Bool) → (List Int) → (List (Int × Int)) → Option R) (v14 : Int) (v18 : (List Int)) (v19 : (List (Int × Int))) : Option R :=
    bif decide (v14 < 256) then
    (gd (decide (0 ≤ v13))
     (gd (decide (v13 < (v18.length : Int)))
      (gd (decide (0 ≤ (v18.getD (Int.toNat v13) (0 : Int))))
       (gd (decide ((v18.getD (Int.toNat v13) (0 : Int)) < (v16.length : Int)))
        (gd (decide (0 ≤ v14))
         (gd (decide (v14 < 256))
          (gd (decide (0 ≤ (v15.getD (Int.toNat v14) (0 : Int))))
           (gd (decide ((v15.getD (Int.toNat v14) (0 : Int)) < ((v16.getD (Int.toNat (v18.getD (Int.toNat v13) (0 : Int))) ([] : (List Int))).length : Int)))
            (let v20 : Int := ((v16.getD (Int.toNat (v18.getD (Int.toNat v13) (0 : Int))) ([] : (List Int))).getD (Int.toNat (v15.getD (Int.toNat v14) (0 : Int))) (0 : Int))
             gd (decide (0 ≤ v20))
             (gd (decide (v20 < (v12.length : Int)))
              (bif (!((mget v19 (v12.getD (Int.toNat v20) (0 : Int))).isSome)) then
               (gd (decide (0 ≤ v20))
                (gd (decide (v20 < (v12.length : Int)))
                 (gd (decide (v18.length + ([v20] : List Int).length < SMALL))
                  (l_7 v12 v13 v15 v16 v17 Ke2 (IntKind.i64.wrap (v14 + 1)) (v18 ++ ([v20] : List Int)) (mset v19 (v12.getD (Int.toNat v20) (0 : Int)) (v18.length : Int))))))
               else (l_7 v12 v13 v15 v16 v17 Ke2 (IntKind.i64.wrap (v14 + 1)) v18 v19))))))))))))
    else (Ke2 v12 v13 v15 v16 v17 v18 v19)

def least_order_b {R : Type} (l_4 : ((List Int) → (List (Int × Int)) → Option R) → (List Int) → Int → (List Int) → (List (List Int)) → (List Bool) → (List Int) → (List (Int × Int)) → Option R) (l_7 : (List Int) → Int → (List Int) → (List (List Int)) → (List Bool) → ((List Int) → Int → (List Int) → (List (List Int)) → (List Bool) → (List Int) → (List (Int × Int)) → Option R) → Int → (List Int) → (List (Int × Int)) → Option R) (v1 : (List Int)) (v2 : (List (List Int))) (v3 : (List Bool)) (v4 : (List Int)) (K : (List Int) → (List (Int × Int)) → Option R) : Option R :=
    gd (decide (0 < (v4.length : Int)))
    (l_4
     (fun (v28 : (List Int)) (v29 : (List (Int × Int))) =>
      K v28 v29) v4 0 v1 v2 v3 ([0] : List Int) (mset ([] : List (Int × Int)) (v4.getD 0 (0 : Int)) 0))

def least_order_l7 {R : Type} (kf : Nat) : Nat → (List Int) → Int → (List Int) → (List (List Int)) → (List Bool) → ((List Int) → Int → (List Int) → (List (List Int)) → (List Bool) → (List Int) → (List (Int × Int)) → Option R) → Int → (List Int) → (List (Int × Int)) → Option R
  | 0, _, _, _, _, _, _, _, _, _ => none
  | k + 1, y0, y1, y2, y3, y4, y5, y6, y7, y8 => least_order_l7_b (fun _ _ _ _ _ _ _ _ => none) (least_order_l7 kf k) y0 y1 y2 y3 y4 y5 y6 y7 y8

def least_order_l4 {R : Type} (kf : Nat) : Nat → ((List Int) → (List (Int × Int)) → Option R) → (List Int) → Int → (List Int) → (List (List Int)) → (List Bool) → (List Int) → (List (Int × Int)) → Option R
  | 0, _, _, _, _, _, _, _, _ => none
  | k + 1, y0, y1, y2, y3, y4, y5, y6, y7 => least_order_l4_b (least_order_l4 kf k) (least_order_l7 kf k) y0 y1 y2 y3 y4 y5 y6 y7

def least_order {R : Type} (kf : Nat) (v1 : (List Int)) (v2 : (List (List Int))) (v3 : (List Bool)) (v4 : (List Int)) (K : (List Int) → (List (Int × Int)) → Option R) : Option R := least_order_b (least_order_l4 kf kf) (least_order_l7 kf kf) v1 v2 v3 v4 K

def slices_Equal_int_int_l4_b {R : Type} (l_4 : (List Int) → (List Int) → Int → (Bool → Option R) → (Option R) → Int → Option R) (v3 : (List Int)) (v4 : (List Int)) (v5 : Int) (Kr : Bool → Option R) (Ke0 : Option R) (v6 : Int) : Option R :=
    bif decide (v6 < v5) then
    (gd (decide (0 ≤ v6))
     (gd (decide (v6 < (v3.length : Int)))
      (gd (decide (0 ≤ v6))
       (gd (decide (v6 < (v4.length : Int)))
        (bif (!(decide ((v3.getD (Int.toNat v6) (0 : Int)) = (v4.getD (Int.toNat v6) (0 : Int))))) then
         (Kr false)
         else (l_4 v3 v4 v5 Kr Ke0 (IntKind.i64.wrap (v6 + 1))))))))
    else (Ke0)

def slices_Equal_int_int_b {R : Type} (l_4 : (List Int) → (List Int) → Int → (Bool → Option R) → (Option R) → Int → Option R) (v1 : (List Int)) (v2 : (List Int)) (K : Bool → Option R) : Option R :=
    bif (!(decide ((v1.length : Int) = (v2.length : Int)))) then
    (K false)
    else (l_4 v1 v2 (v1.length : Int)
     (fun (v7 : Bool) =>
      K v7)
     (K true) 0)

def slices_Equal_int_int_l4 {R : Type} (kf : Nat) : Nat → (List Int) → (List Int) → Int → (Bool → Option R) → (Option R) → Int → Option R
  | 0, _, _, _, _, _, _ => none
  | k + 1, y0, y1, y2, y3, y4, y5 => slices_Equal_int_int_l4_b (slices_Equal_int_int_l4 kf k) y0 y1 y2 y3 y4 y5

def slices_Equal_int_int {R : Type} (kf : Nat) (v1 : (List Int)) (v2 : (List Int)) (K : Bool → Option R) : Option R := slices_Equal_int_int_b (slices_Equal_int_int_l4 kf kf) v1 v2 K

def least_Least_1_b {R : Type} (c_slices_Equal_int_int : (List Int) → (List Int) → (Bool → Option R) → Option R) (v1 : (List Int)) (v2 : (List Int)) (K : Bool → (List Int) → Option R) : Option R :=
    c_slices_Equal_int_int v1 v2 (fun (v3 : Bool) =>
     K v3 v2)

def least_Least_1 {R : Type} (kf : Nat) (v1 : (List Int)) (v2 : (List Int)) (K : Bool → (List Int) → Option R) : Option R := least_Least_1_b (slices_Equal_int_int kf) v1 v2 K

def slices_IndexFunc_int_int_l2_b {R : Type} (c_least_Least_1 : (List Int) → (List Int) → (Bool → (List Int) → Option R) → Option R) (l_2 : (List (List Int)) → Int → (Int → (List Int) → Option R) → ((List Int) → Option R) → Int → (List Int) → Option R) (v3 : (List (List Int))) (v4 : Int) (Kr : Int → (List Int) → Option R) (Ke0 : (List Int) → Option R) (v5 : Int) (v6 : (List Int)) : Option R :=
    bif decide (v5 < v4) then
    (gd (decide (0 ≤ v5))
     (gd (decide (v5 < (v3.length : Int)))
      (c_least_Least_1 (v3.getD (Int.toNat v5) ([] : (List Int))) v6 (fun (v7 : Bool) (v8 : (List Int)) =>
        bif v7 then
        (Kr v5 v8)
        else (l_2 v3 v4 Kr Ke0 (IntKind.i64.wrap (v5 + 1)) v8)))))
    else (Ke0 v6)

def slices_IndexFunc_int_int_b {R : Type} (c_least_Least_1 : (List Int) → (List Int) → (Bool → (List Int) → Option R) → Option R) (l_2 : (List (List Int)) → Int → (Int → (List Int) → Option R) → ((List Int) → Option R) → Int → (List Int) → Option R) (v1 : (List (List Int))) (v2 : (List Int)) (K : Int → (List Int) → Option R) : Option R :=
    l_2 v1 (v1.length : Int)
    (fun (v9 : Int) (v10 : (List Int)) =>
     K v9 v10)
    (fun (v11 : (List Int)) =>
     K (-1) v11) 0 v2

def slices_IndexFunc_int_int_l2 {R : Type} (kf : Nat) : Nat → (List (List Int)) → Int → (Int → (List Int) → Option R) → ((List Int) → Option R) → Int → (List Int) → Option R
  | 0, _, _, _, _, _, _ => none
  | k + 1, y0, y1, y2, y3, y4, y5 => slices_IndexFunc_int_int_l2_b (least_Least_1 kf) (slices_IndexFunc_int_int_l2 kf k) y0 y1 y2 y3 y4 y5

def slices_IndexFunc_int_int {R : Type} (kf : Nat) (v1 : (List (List Int))) (v2 : (List Int)) (K : Int → (List Int) → Option R) : Option R := slices_IndexFunc_int_int_b (least_Least_1 kf) (slices_IndexFunc_int_int_l2 kf kf) v1 v2 K

def least_Least_l8_b {R : Type} (c_machine_May : (List Int) → (List (List Int)) → (List Bool) → (Bool → Option R) → Option R) (c_least_parts : (List Int) → (List (List Int)) → (List Bool) → ((List Int) → Option R) → Option R) (c_least_order : (List Int) → (List (List Int)) → (List Bool) → (List Int) → ((List Int) → (List (Int × Int)) → Option R) → Option R) (c_slices_IndexFunc_int_int : (List (List Int)) → (List Int) → (Int → (List Int) → Option R) → Option R) (l_8 : ((List Int) → (List (List Int)) → (List Bool) → (List Int) → (List Int) → (List Int) → (List (List Int)) → (List (List Int)) → (List Bool) → (List (List Int)) → (List Bool) → Option R) → Int → (List Int) → (List (List Int)) → (List Bool) → (List Int) → (List Int) → (List Int) → (List (Int × Int)) → (List Int) → (List (List Int)) → (List (List Int)) → (List Bool) → (List (List Int)) → (List Bool) → Option R) (l_12 : Int → Int → Int → (List Int) → (List (List Int)) → (List Bool) → (List Int) → (List Int) → (List Int) → (List (Int × Int)) → (List Int) → (List (List Int)) → (List (List Int)) → (List Bool) → (List (List Int)) → (List Bool) → (Int → Int → (List Int) → (List (List Int)) → (List Bool) → (List Int) → (List Int) → (List Int) → (List (Int × Int)) → (List Int) → (List (List Int)) → (List (List Int)) → (List Bool) → (List (List Int)) → (List Bool) → (List Int) → Option R) → Int → (List Int) → Option R) (l_23 : ((List Int) → (List Int) → (List (List Int)) → (List Bool) → (List (List Int)) → (List Bool) → Option R) → Int → Int → (List Int) → (List (List Int)) → (List Bool) → (List Int) → (List Int) → (List (List Int)) → (List Int) → (List (List Int)) → (List Bool) → (List (List Int)) → (List Bool) → Option R) (l_27 : Int → Int → Int → Int → Int → (List Int) → (List (List Int)) → (List Bool) → (List Int) → (List Int) → (List (List Int)) → (List Int) → (List (List Int)) → (List Bool) → (List (List Int)) → (List Bool) → (Int → Int → Int → (List Int) → (List (List Int)) → (List Bool) → (List Int) → (List Int) → (List (List Int)) → (List Int) → (List Int) → (List (List Int)) → (List Bool) → (List (List Int)) → (List Bool) → Option R) → Int → (List Int) → Option R) (Ke0 : (List Int) → (List (List Int)) → (List Bool) → (List Int) → (List Int) → (List Int) → (List (List Int)) → (List (List Int)) → (List Bool) → (List (List Int)) → (List Bool) → Option R) (v8 : Int) (v9 : (List Int)) (v10 : (List (List Int))) (v11 : (List Bool)) (v12 : (List Int)) (v13 : (List Int)) (v14 : (List Int)) (v15 : (List (Int × Int))) (v16 : (List Int)) (v17 : (List (List Int))) (v18 : (List (List Int))) (v19 : (List Bool)) (v20 : (List (List Int))) (v21 : (List Bool)) : Option R :=
    bif decide (v8 < 256) then
    (l_12 v8 v8 (v14.length : Int) v9 v10 v11 v12 v13 v14 v15 v16 v17 v18 v19 v20 v21
     (fun (v40 : Int) (v41 : Int) (v42 : (List Int)) (v43 : (List (List Int))) (v44 : (List Bool)) (v45 : (List Int)) (v46 : (List Int)) (v47 : (List Int)) (v48 : (List (Int × Int))) (v49 : (List Int)) (v50 : (List (List Int))) (v51 : (List (List Int))) (v52 : (List Bool)) (v53 : (List (List Int))) (v54 : (List Bool)) (v55 : (List Int)) =>
      c_slices_IndexFunc_int_int v50 v55 (fun (v56 : Int) (v57 : (List Int)) =>
       let j60 : Int → (List (List Int)) → Option R := fun v58 v59 =>
       (gd (decide (0 ≤ v40))
        (gd (decide (v40 < 256))
         (l_8 Ke0 (IntKind.i64.wrap (v41 + 1)) v42 v43 v44 v45 v46 v47 v48 (v49.set (Int.toNat v40) (IntKind.u8.wrap v58)) v59 v51 v52 v53 v54)))
       (bif decide (v56 < 0) then
        (gd (decide (v50.length + ([v57] : List (List Int)).length < SMALL))
         (j60 (v50.length : Int) (v50 ++ ([v57] : List (List Int)))))
        else (j60 v56 v50)))) 0 ([] : List Int))
    else (Ke0 v9 v10 v11 v12 v14 v16 v17 v18 v19 v20 v21)

def least_Least_l12_b {R : Type} (c_machine_May : (List Int) → (List (List Int)) → (List Bool) → (Bool → Option R) → Option R) (c_least_parts : (List Int) → (List (List Int)) → (List Bool) → ((List Int) → Option R) → Option R) (c_least_order : (List Int) → (List (List Int)) → (List Bool) → (List Int) → ((List Int) → (List (Int × Int)) → Option R) → Option R) (c_slices_IndexFunc_int_int : (List (List Int)) → (List Int) → (Int → (List Int) → Option R) → Option R) (l_8 : ((List Int) → (List (List Int)) → (List Bool) → (List Int) → (List Int) → (List Int) → (List (List Int)) → (List (List Int)) → (List Bool) → (List (List Int)) → (List Bool) → Option R) → Int → (List Int) → (List (List Int)) → (List Bool) → (List Int) → (List Int) → (List Int) → (List (Int × Int)) → (List Int) → (List (List Int)) → (List (List Int)) → (List Bool) → (List (List Int)) → (List Bool) → Option R) (l_12 : Int → Int → Int → (List Int) → (List (List Int)) → (List Bool) → (List Int) → (List Int) → (List Int) → (List (Int × Int)) → (List Int) → (List (List Int)) → (List (List Int)) → (List Bool) → (List (List Int)) → (List Bool) → (Int → Int → (List Int) → (List (List Int)) → (List Bool) → (List Int) → (List Int) → (List Int) → (List (Int × Int)) → (List Int) → (List (List Int)) → (List (List Int)) → (List Bool) → (List (List Int)) → (List Bool) → (List Int) → Option R) → Int → (List Int) → Option R) (l_23 : ((List Int) → (List Int) → (List (List Int)) → (List Bool) → (List (List Int)) → (List Bool) → Option R) → Int → Int → (List Int) → (List (List Int)) → (List Bool) → (List Int) → (List Int) → (List (List Int)) → (List Int) → (List (List Int)) → (List Bool) → (List (List Int)) → (List Bool) → Option R) (l_27 : Int → Int → Int → Int → Int → (List Int) → (List (List Int)) → (List Bool) → (List Int) → (List Int) → (List (List Int)) → (List Int) → (List (List Int)) → (List Bool) → (List (List Int)) → (List Bool) → (Int → Int → Int → (List Int) → (List (List Int)) → (List Bool) → (List Int) → (List Int) → (List (List Int)) → (List Int) → (List Int) → (List (List Int)) → (List Bool) → (List (List Int)) → (List Bool) → Option R) → Int → (List Int) → Option R) (v22 : Int) (v23 : Int) (v24 : Int) (v26 : (List Int)) (v27 : (List (List Int))) (v28 : (List Bool)) (v29 : (List Int)) (v30 : (List Int)) (v31 : (List Int)) (v32 : (List (Int × Int))) (v33 : (List Int)) (v34 : (List (List Int))) (v35 : (List (List Int))) (v36 : (List Bool)) (v37 : (List (List Int))) (v38 : (List Bool)) (Ke2 : Int → Int → (List Int) → (List (List Int)) → (List Bool) → (List Int) → (List Int) → (List Int) → (List (Int × Int)) → (List Int) → (List (List Int)) → (List (List Int)) → (List Bool) → (List (List Int)) → (List Bool) → (List Int) → Option R) (v25 : Int) (v39 : (List Int)) : Option R :=
    bif decide (v25 < v24) then
    (gd (decide (0 ≤ v25))
     (gd (decide (v25 < (v31.length : Int)))
      (gd (decide (0 ≤ (v31.getD (Int.toNat v25) (0 : Int))))
       (gd (decide ((v31.getD (Int.toNat v25) (0 : Int)) < (v27.length : Int)))
        (gd (decide (0 ≤ v22))
         (gd (decide (v22 < 256))
          (gd (decide (0 ≤ (v26.getD (Int.toNat v22) (0 : Int))))
           (gd (decide ((v26.getD (Int.toNat v22) (0 : Int)) < ((v27.getD (Int.toNat (v31.getD (Int.toNat v25) (0 : Int))) ([] : (List Int))).length : Int)))
            (gd (decide (0 ≤ ((v27.getD (Int.toNat (v31.getD (Int.toNat v25) (0 : Int))) ([] : (List Int))).getD (Int.toNat (v26.getD (Int.toNat v22) (0 : Int))) (0 : Int))))
             (gd (decide (((v27.getD (Int.toNat (v31.getD (Int.toNat v25) (0 : Int))) ([] : (List Int))).getD (Int.toNat (v26.getD (Int.toNat v22) (0 : Int))) (0 : Int)) < (v30.length : Int)))
              (gd (decide (v39.length + ([((mget v32 (v30.getD (Int.toNat ((v27.getD (Int.toNat (v31.getD (Int.toNat v25) (0 : Int))) ([] : (List Int))).getD (Int.toNat (v26.getD (Int.toNat v22) (0 : Int))) (0 : Int))) (0 : Int))).getD (0 : Int))] : List Int).length < SMALL))
               (l_12 v22 v23 v24 v26 v27 v28 v29 v30 v31 v32 v33 v34 v35 v36 v37 v38 Ke2 (IntKind.i64.wrap (v25 + 1)) (v39 ++ ([((mget v32 (v30.getD (Int.toNat ((v27.getD (Int.toNat (v31.getD (Int.toNat v25) (0 : Int))) ([] : (List Int))).getD (Int.toNat (v26.getD (Int.toNat v22) (0 : Int))) (0 : Int))) (0 : Int))).getD (0 : Int))] : List Int))))))))))))))
    else (Ke2 v22 v23 v26 v27 v28 v29 v30 v31 v32 v33 v34 v35 v36 v37 v38 v39)

def least_Least_l23_b {R : Type} (c_machine_May : (List Int) → (List (List Int)) → (List Bool) → (Bool → Option R) → Option R) (c_least_parts : (List Int) → (List (List Int)) → (List Bool) → ((List Int) → Option R) → Option R) (c_least_order : (List Int) → (List (List Int)) → (List Bool) → (List Int) → ((List Int) → (List (Int × Int)) → Option R) → Option R) (c_slices_IndexFunc_int_int : (List (List Int)) → (List Int) → (Int → (List Int) → Option R) → Option R) (l_8 : ((List Int) → (List (List Int)) → (List Bool) → (List Int) → (List Int) → (List Int) → (List (List Int)) → (List (List Int)) → (List Bool) → (List (List Int)) → (List Bool) → Option R) → Int → (List Int) → (List (List Int)) → (List Bool) → (List Int) → (List Int) → (List Int) → (List (Int × Int)) → (List Int) → (List (List Int)) → (List (List Int)) → (List Bool) → (List (List Int)) → (List Bool) → Option R) (l_12 : Int → Int → Int → (List Int) → (List (List Int)) → (List Bool) → (List Int) → (List Int) → (List Int) → (List (Int × Int)) → (List Int) → (List (List Int)) → (List (List Int)) → (List Bool) → (List (List Int)) → (List Bool) → (Int → Int → (List Int) → (List (List Int)) → (List Bool) → (List Int) → (List Int) → (List Int) → (List (Int × Int)) → (List Int) → (List (List Int)) → (List (List Int)) → (List Bool) → (List (List Int)) → (List Bool) → (List Int) → Option R) → Int → (List Int) → Option R) (l_23 : ((List Int) → (List Int) → (List (List Int)) → (List Bool) → (List (List Int)) → (List Bool) → Option R) → Int → Int → (List Int) → (List (List Int)) → (List Bool) → (List Int) → (List Int) → (List (List Int)) → (List Int) → (List (List Int)) → (List Bool) → (List (List Int)) → (List Bool) → Option R) (l_27 : Int → Int → Int → Int → Int → (List Int) → (List (List Int)) → (List Bool) → (List Int) → (List Int) → (List (List Int)) → (List Int) → (List (List Int)) → (List Bool) → (List (List Int)) → (List Bool) → (Int → Int → Int → (List Int) → (List (List Int)) → (List Bool) → (List Int) → (List Int) → (List (List Int)) → (List Int) → (List Int) → (List (List Int)) → (List Bool) → (List (List Int)) → (List Bool) → Option R) → Int → (List Int) → Option R) (Ke4 : (List Int) → (List Int) → (List (List Int)) → (List Bool) → (List (List Int)) → (List Bool) → Option R) (v72 : Int) (v73 : Int) (v74 : (List Int)) (v75 : (List (List Int))) (v76 : (List Bool)) (v77 : (List Int)) (v78 : (List Int)) (v79 : (List (List Int))) (v80 : (List Int)) (v81 : (List (List Int))) (v82 : (List Bool)) (v83 : (List (List Int))) (v84 : (List Bool)) : Option R :=
    bif decide (v73 < v72) then
    (gd (decide (0 ≤ v73))
     (gd (decide (v73 < (v80.length : Int)))
      (l_27 v73 (v80.getD (Int.toNat v73) (0 : Int)) v72 v73 (v79.length : Int) v74 v75 v76 v77 v78 v79 v80 v81 v82 v83 v84
       (fun (v103 : Int) (v104 : Int) (v105 : Int) (v106 : (List Int)) (v107 : (List (List Int))) (v108 : (List Bool)) (v109 : (List Int)) (v110 : (List Int)) (v111 : (List (List Int))) (v112 : (List Int)) (v113 : (List Int)) (v114 : (List (List Int))) (v115 : (List Bool)) (v116 : (List (List Int))) (v117 : (List Bool)) =>
        gd (decide (v116.length + ([v112] : List (List Int)).length < SMALL))
        (gd (decide (0 ≤ v103))
         (gd (decide (v103 < (v108.length : Int)))
          (gd (decide (v117.length + ([(v108.getD (Int.toNat v103) false)] : List Bool).length < SMALL))
           (l_23 Ke4 v104 (IntKind.i64.wrap (v105 + 1)) v106 v107 v108 v109 v110 v111 v113 v114 v115 (v116 ++ ([v112] : List (List Int))) (v117 ++ ([(v108.getD (Int.toNat v103) false)] : List Bool))))))) 0 ([] : List Int))))
    else (Ke4 v77 v78 v81 v82 v83 v84)

def least_Least_l27_b {R : Type} (c_machine_May : (List Int) → (List (List Int)) → (List Bool) → (Bool → Option R) → Option R) (c_least_parts : (List Int) → (List (List Int)) → (List Bool) → ((List Int) → Option R) → Option R) (c_least_order : (List Int) → (List (List Int)) → (List Bool) → (List Int) → ((List Int) → (List (Int × Int)) → Option R) → Option R) (c_slices_IndexFunc_int_int : (List (List Int)) → (List Int) → (Int → (List Int) → Option R) → Option R) (l_8 : ((List Int) → (List (List Int)) → (List Bool) → (List Int) → (List Int) → (List Int) → (List (List Int)) → (List (List Int)) → (List Bool) → (List (List Int)) → (List Bool) → Option R) → Int → (List Int) → (List (List Int)) → (List Bool) → (List Int) → (List Int) → (List Int) → (List (Int × Int)) → (List Int) → (List (List Int)) → (List (List Int)) → (List Bool) → (List (List Int)) → (List Bool) → Option R) (l_12 : Int → Int → Int → (List Int) → (List (List Int)) → (List Bool) → (List Int) → (List Int) → (List Int) → (List (Int × Int)) → (List Int) → (List (List Int)) → (List (List Int)) → (List Bool) → (List (List Int)) → (List Bool) → (Int → Int → (List Int) → (List (List Int)) → (List Bool) → (List Int) → (List Int) → (List Int) → (List (Int × Int)) → (List Int) → (List (List Int)) → (List (List Int)) → (List Bool) → (List (List Int)) → (List Bool) → (List Int) → Option R) → Int → (List Int) → Option R) (l_23 : ((List Int) → (List Int) → (List (List Int)) → (List Bool) → (List (List Int)) → (List Bool) → Option R) → Int → Int → (List Int) → (List (List Int)) → (List Bool) → (List Int) → (List Int) → (List (List Int)) → (List Int) → (List (List Int)) → (List Bool) → (List (List Int)) → (List Bool) → Option R) (l_27 : Int → Int → Int → Int → Int → (List Int) → (List (List Int)) → (List Bool) → (List Int) → (List Int) → (List (List Int)) → (List Int) → (List (List Int)) → (List Bool) → (List (List Int)) → (List Bool) → (Int → Int → Int → (List Int) → (List (List Int)) → (List Bool) → (List Int) → (List Int) → (List (List Int)) → (List Int) → (List Int) → (List (List Int)) → (List Bool) → (List (List Int)) → (List Bool) → Option R) → Int → (List Int) → Option R) (v85 : Int) (v86 : Int) (v87 : Int) (v88 : Int) (v89 : Int) (v91 : (List Int)) (v92 : (List (List Int))) (v93 : (List Bool)) (v94 : (List Int)) (v95 : (List Int)) (v96 : (List (List Int))) (v98 : (List Int)) (v99 : (List (List Int))) (v100 : (List Bool)) (v101 : (List (List Int))) (v102 : (List Bool)) (Ke6 : Int → Int → Int → (List Int) → (List (List Int)) → (List Bool) → (List Int) → (List Int) → (List (List Int)) → (List Int) → (List Int) → (List (List Int)) → (List Bool) → (List (List Int)) → (List Bool) → Option R) (v90 : Int) (v97 : (List Int)) : Option R :=
    bif decide (v90 < v89) then
    (gd (decide (0 ≤ v90))
     (gd (decide (v90 < (v96.length : Int)))
      (gd (decide (0 ≤ v85))
       (gd (decide (v85 < ((v96.getD (Int.toNat v90) ([] : (List Int))).length : Int)))
        (gd (decide (v97.length + ([((v96.getD (Int.toNat v90) ([] : (List Int))).getD (Int.toNat v85) (0 : Int))] : List Int).length < SMALL))
         (l_27 v85 v86 v87 v88 v89 v91 v92 v93 v94 v95 v96 v98 v99 v100 v101 v102 Ke6 (IntKind.i64.wrap (v90 + 1)) (v97 ++ ([((v96.getD (Int.toNat v90) ([] : (List Int))).getD (Int.toNat v85) (0 : Int))] : List Int))))))))
    else (Ke6 v86 v87 v88 v91 v92 v93 v94 v95 v96 v97 v98 v99 v100 v101 v102)

def least_Least_b {R : Type} (c_machine_May : (List Int) → (List (List Int)) → (List Bool) → (Bool → Option R) → Option R) (c_least_parts : (List Int) → (List (List Int)) → (List Bool) → ((List Int) → Option R) → Option R) (c_least_order : (List Int) → (List (List Int)) → (List Bool) → (List Int) → ((List Int) → (List (Int × Int)) → Option R) → Option R) (c_slices_IndexFunc_int_int : (List (List Int)) → (List Int) → (Int → (List Int) → Option R) → Option R) (l_8 : ((List Int) → (List (List Int)) → (List Bool) → (List Int) → (List Int) → (List Int) → (List (List Int)) → (List (List Int)) → (List Bool) → (List (List Int)) → (List Bool) → Option R) → Int → (List Int) → (List (List Int)) → (List Bool) → (List Int) → (List Int) → (List Int) → (List (Int × Int)) → (List Int) → (List (List Int)) → (List (List Int)) → (List Bool) → (List (List Int)) → (List Bool) → Option R) (l_12 : Int → Int → Int → (List Int) → (List (List Int)) → (List Bool) → (List Int) → (List Int) → (List Int) → (List (Int × Int)) → (List Int) → (List (List Int)) → (List (List Int)) → (List Bool) → (List (List Int)) → (List Bool) → (Int → Int → (List Int) → (List (List Int)) → (List Bool) → (List Int) → (List Int) → (List Int) → (List (Int × Int)) → (List Int) → (List (List Int)) → (List (List Int)) → (List Bool) → (List (List Int)) → (List Bool) → (List Int) → Option R) → Int → (List Int) → Option R) (l_23 : ((List Int) → (List Int) → (List (List Int)) → (List Bool) → (List (List Int)) → (List Bool) → Option R) → Int → Int → (List Int) → (List (List Int)) → (List Bool) → (List Int) → (List Int) → (List (List Int)) → (List Int) → (List (List Int)) → (List Bool) → (List (List Int)) → (List Bool) → Option R) (l_27 : Int → Int → Int → Int → Int → (List Int) → (List (List Int)) → (List Bool) → (List Int) → (List Int) → (List (List Int)) → (List Int) → (List (List Int)) → (List Bool) → (List (List Int)) → (List Bool) → (Int → Int → Int → (List Int) → (List (List Int)) → (List Bool) → (List Int) → (List Int) → (List (List Int)) → (List Int) → (List Int) → (List (List Int)) → (List Bool) → (List (List Int)) → (List Bool) → Option R) → Int → (List Int) → Option R) (v1 : (List Int)) (v2 : (List (List Int))) (v3 : (List Bool)) (K : (List Int) → (List (List Int)) → (List Bool) → Option R) : Option R :=
    c_machine_May v1 v2 v3 (fun (v4 : Bool) =>
     bif (!v4) then
     (K (List.replicate 256 (0 : Int)) ([] : List (List Int)) ([] : List Bool))
     else (c_least_parts v1 v2 v3 (fun (v5 : (List Int)) =>
       c_least_order v1 v2 v3 v5 (fun (v6 : (List Int)) (v7 : (List (Int × Int))) =>
        l_8
        (fun (v61 : (List Int)) (v62 : (List (List Int))) (v63 : (List Bool)) (v64 : (List Int)) (v65 : (List Int)) (v66 : (List Int)) (v67 : (List (List Int))) (v68 : (List (List Int))) (v69 : (List Bool)) (v70 : (List (List Int))) (v71 : (List Bool)) =>
         l_23
         (fun (v118 : (List Int)) (v119 : (List Int)) (v120 : (List (List Int))) (v121 : (List Bool)) (v122 : (List (List Int))) (v123 : (List Bool)) =>
          K v119 v122 v123) (v65.length : Int) 0 v61 v62 v63 v64 v66 v67 v65 v68 v69 v70 v71) 0 v1 v2 v3 (List.replicate 256 (0 : Int)) v5 v6 v7 (List.replicate 256 (0 : Int)) ([] : List (List Int)) ([] : List (List Int)) ([] : List Bool) ([] : List (List Int)) ([] : List Bool)))))

def least_Least_l12 {R : Type} (kf : Nat) : Nat → Int → Int → Int → (List Int) → (List (List Int)) → (List Bool) → (List Int) → (List Int) → (List Int) → (List (Int × Int)) → (List Int) → (List (List Int)) → (List (List Int)) → (List Bool) → (List (List Int)) → (List Bool) → (Int → Int → (List Int) → (List (List Int)) → (List Bool) → (List Int) → (List Int) → (List Int) → (List (Int × Int)) → (List Int) → (List (List Int)) → (List (List Int)) → (List Bool) → (List (List Int)) → (List Bool) → (List Int) → Option R) → Int → (List Int) → Option R
  | 0, _, _, _, _, _, _, _, _, _, _, _, _, _, _, _, _, _, _, _ => none
  | k + 1, y0, y1, y2, y3, y4, y5, y6, y7, y8, y9, y10, y11, y12, y13, y14, y15, y16, y17, y18 => least_Least_l12_b (machine_May kf) (least_parts kf) (least_order kf) (slices_IndexFunc_int_int kf) (fun _ _ _ _ _ _ _ _ _ _ _ _ _ _ _ => none) (least_Least_l12 kf k) (fun _ _ _ _ _ _ _ _ _ _ _ _ _ _ => none) (fun _ _ _ _ _ _ _ _ _ _ _ _ _ _ _ _ _ _ _ => none) y0 y1 y2 y3 y4 y5 y6 y7 y8 y9 y10 y11 y12 y13 y14 y15 y16 y17 y18

def least_Least_l8 {R : Type} (kf : Nat) : Nat → ((List Int) → (List (List Int)) → (List Bool) → (List Int) → (List Int) → (List Int) → (List (List Int)) → (List (List Int)) → (List Bool) → (List (List Int)) → (List Bool) → Option R) → Int → (List Int) → (List (List Int)) → (List Bool) → (List Int) → (List Int) → (List Int) → (List (Int × Int)) → (List Int) → (List (List Int)) → (List (List Int)) → (List Bool) → (List (List Int)) → (List Bool) → Option R
  | 0, _, _, _, _, _, _, _, _, _, _, _, _, _, _, _ => none
  | k + 1, y0, y1, y2, y3, y4, y5, y6, y7, y8, y9, y10, y11, y12, y13, y14 => least_Least_l8_b (machine_May kf) (least_parts kf) (least_order kf) (slices_IndexFunc_int_int kf) (least_Least_l8 kf k) (least_Least_l12 kf k) (fun _ _ _ _ _ _ _ _ _ _ _ _ _ _ => none) (fun _ _ _ _ _ _ _ _ _ _ _ _ _ _ _ _ _ _ _ => none) y0 y1 y2 y3 y4 y5 y6 y7 y8 y9 y10 y11 y12 y13 y14

def least_Least_l27 {R : Type} (kf : Nat) : Nat → Int → Int → Int → Int → Int → (List Int) → (List (List Int)) → (List Bool) → (List Int) → (List Int) → (List (List Int)) → (List Int) → (List (List Int)) → (List Bool) → (List (List Int)) → (List Bool) → (Int → Int → Int → (List Int) → (List (List Int)) → (List Bool) → (List Int) → (List Int) → (List (List Int)) → (List Int) → (List Int) → (List (List Int)) → (List Bool) → (List (List Int)) → (List Bool) → Option R) → Int → (List Int) → Option R
  | 0, _, _, _, _, _, _, _, _, _, _, _, _, _, _, _, _, _, _, _ => none
  | k + 1, y0, y1, y2, y3, y4, y5, y6, y7, y8, y9, y10, y11, y12, y13, y14, y15, y16, y17, y18 => least_Least_l27_b (machine_May kf) (least_parts kf) (least_order kf) (slices_IndexFunc_int_int kf) (least_Least_l8 kf k) (least_Least_l12 kf k) (fun _ _ _ _ _ _ _ _ _ _ _ _ _ _ => none) (least_Least_l27 kf k) y0 y1 y2 y3 y4 y5 y6 y7 y8 y9 y10 y11 y12 y13 y14 y15 y16 y17 y18

def least_Least_l23 {R : Type} (kf : Nat) : Nat → ((List Int) → (List Int) → (List (List Int)) → (List Bool) → (List (List Int)) → (List Bool) → Option R) → Int → Int → (List Int) → (List (List Int)) → (List Bool) → (List Int) → (List Int) → (List (List Int)) → (List Int) → (List (List Int)) → (List Bool) → (List (List Int)) → (List Bool) → Option R
  | 0, _, _, _, _, _, _, _, _, _, _, _, _, _, _ => none
  | k + 1, y0, y1, y2, y3, y4, y5, y6, y7, y8, y9, y10, y11, y12, y13 => least_Least_l23_b (machine_May kf) (least_parts kf) (least_order kf) (slices_IndexFunc_int_int kf) (least_Least_l8 kf k) (least_Least_l12 kf k) (least_Least_l23 kf k) (least_Least_l27 kf k) y0 y1 y2 y3 y4 y5 y6 y7 y8 y9 y10 y11 y12 y13

def least_Least {R : Type} (kf : Nat) (v1 : (List Int)) (v2 : (List (List Int))) (v3 : (List Bool)) (K : (List Int) → (List (List Int)) → (List Bool) → Option R) : Option R := least_Least_b (machine_May kf) (least_parts kf) (least_order kf) (slices_IndexFunc_int_int kf) (least_Least_l8 kf kf) (least_Least_l12 kf kf) (least_Least_l23 kf kf) (least_Least_l27 kf kf) v1 v2 v3 K

def least_Parts_l6_b {R : Type} (c_machine_May : (List Int) → (List (List Int)) → (List Bool) → (Bool → Option R) → Option R) (c_least_parts : (List Int) → (List (List Int)) → (List Bool) → ((List Int) → Option R) → Option R) (l_6 : Int → (List Int) → ((List Int) → Option R) → Int → (List (Int × Int)) → (List Int) → Option R) (v6 : Int) (v10 : (List Int)) (Ke0 : (List Int) → Option R) (v7 : Int) (v8 : (List (Int × Int))) (v9 : (List Int)) : Option R :=
    bif decide (v7 < v6) then
    (gd (decide (0 ≤ v7))
     (gd (decide (v7 < (v10.length : Int)))
      (let j12 : (List (Int × Int)) → Option R := fun v11 =>
       (gd (decide (v9.length + ([((mget v11 (v10.getD (Int.toNat v7) (0 : Int))).getD (0 : Int))] : List Int).length < SMALL))
        (l_6 v6 v10 Ke0 (IntKind.i64.wrap (v7 + 1)) v11 (v9 ++ ([((mget v11 (v10.getD (Int.toNat v7) (0 : Int))).getD (0 : Int))] : List Int))))
       (bif (!((mget v8 (v10.getD (Int.toNat v7) (0 : Int))).isSome)) then
        (j12 (mset v8 (v10.getD (Int.toNat v7) (0 : Int)) v7))
        else (j12 v8)))))
    else (Ke0 v9)

def least_Parts_b {R : Type} (c_machine_May : (List Int) → (List (List Int)) → (List Bool) → (Bool → Option R) → Option R) (c_least_parts : (List Int) → (List (List Int)) → (List Bool) → ((List Int) → Option R) → Option R) (l_6 : Int → (List Int) → ((List Int) → Option R) → Int → (List (Int × Int)) → (List Int) → Option R) (v1 : (List Int)) (v2 : (List (List Int))) (v3 : (List Bool)) (K : (List Int) → Option R) : Option R :=
    c_machine_May v1 v2 v3 (fun (v4 : Bool) =>
     bif (!v4) then
     (K ([] : List Int))
     else (c_least_parts v1 v2 v3 (fun (v5 : (List Int)) =>
       l_6 (v5.length : Int) v5
       (fun (v13 : (List Int)) =>
        K v13) 0 ([] : List (Int × Int)) ([] : List Int))))

def least_Parts_l6 {R : Type} (kf : Nat) : Nat → Int → (List Int) → ((List Int) → Option R) → Int → (List (Int × Int)) → (List Int) → Option R
  | 0, _, _, _, _, _, _ => none
  | k + 1, y0, y1, y2, y3, y4, y5 => least_Parts_l6_b (machine_May kf) (least_parts kf) (least_Parts_l6 kf k) y0 y1 y2 y3 y4 y5

def least_Parts {R : Type} (kf : Nat) (v1 : (List Int)) (v2 : (List (List Int))) (v3 : (List Bool)) (K : (List Int) → Option R) : Option R := least_Parts_b (machine_May kf) (least_parts kf) (least_Parts_l6 kf kf) v1 v2 v3 K

def slices_Equal_bool_bool_l4_b {R : Type} (l_4 : (List Bool) → (List Bool) → Int → (Bool → Option R) → (Option R) → Int → Option R) (v3 : (List Bool)) (v4 : (List Bool)) (v5 : Int) (Kr : Bool → Option R) (Ke0 : Option R) (v6 : Int) : Option R :=
    bif decide (v6 < v5) then
    (gd (decide (0 ≤ v6))
     (gd (decide (v6 < (v3.length : Int)))
      (gd (decide (0 ≤ v6))
       (gd (decide (v6 < (v4.length : Int)))
        (bif (!(decide ((v3.getD (Int.toNat v6) false) = (v4.getD (Int.toNat v6) false)))) then
         (Kr false)
         else (l_4 v3 v4 v5 Kr Ke0 (IntKind.i64.wrap (v6 + 1))))))))
    else (Ke0)

def slices_Equal_bool_bool_b {R : Type} (l_4 : (List Bool) → (List Bool) → Int → (Bool → Option R) → (Option R) → Int → Option R) (v1 : (List Bool)) (v2 : (List Bool)) (K : Bool → Option R) : Option R :=
    bif (!(decide ((v1.length : Int) = (v2.length : Int)))) then
    (K false)
    else (l_4 v1 v2 (v1.length : Int)
     (fun (v7 : Bool) =>
      K v7)
     (K true) 0)

def slices_Equal_bool_bool_l4 {R : Type} (kf : Nat) : Nat → (List Bool) → (List Bool) → Int → (Bool → Option R) → (Option R) → Int → Option R
  | 0, _, _, _, _, _, _ => none
  | k + 1, y0, y1, y2, y3, y4, y5 => slices_Equal_bool_bool_l4_b (slices_Equal_bool_bool_l4 kf k) y0 y1 y2 y3 y4 y5

def slices_Equal_bool_bool {R : Type} (kf : Nat) (v1 : (List Bool)) (v2 : (List Bool)) (K : Bool → Option R) : Option R := slices_Equal_bool_bool_b (slices_Equal_bool_bool_l4 kf kf) v1 v2 K

def machine_Same_1_b {R : Type} (c_slices_Equal_int_int : (List Int) → (List Int) → (Bool → Option R) → Option R) (v1 : (List Int)) (v2 : (List Int)) (K : Bool → Option R) : Option R :=
    c_slices_Equal_int_int v1 v2 (fun (v3 : Bool) =>
     K v3)

def machine_Same_1 {R : Type} (kf : Nat) (v1 : (List Int)) (v2 : (List Int)) (K : Bool → Option R) : Option R := machine_Same_1_b (slices_Equal_int_int kf) v1 v2 K

def slices_EqualFunc_int_int_int_int_l4_b {R : Type} (c_machine_Same_1 : (List Int) → (List Int) → (Bool → Option R) → Option R) (l_4 : (List (List Int)) → (List (List Int)) → Int → (Bool → Option R) → (Option R) → Int → Option R) (v3 : (List (List Int))) (v4 : (List (List Int))) (v5 : Int) (Kr : Bool → Option R) (Ke0 : Option R) (v6 : Int) : Option R :=
    bif decide (v6 < v5) then
    (gd (decide (0 ≤ v6))
     (gd (decide (v6 < (v4.length : Int)))
      (gd (decide (0 ≤ v6))
       (gd (decide (v6 < (v3.length : Int)))
        (c_machine_Same_1 (v4.getD (Int.toNat v6) ([] : (List Int))) (v3.getD (Int.toNat v6) ([] : (List Int))) (fun (v7 : Bool) =>
          bif (!v7) then
          (Kr false)
          else (l_4 v3 v4 v5 Kr Ke0 (IntKind.i64.wrap (v6 + 1)))))))))
    else (Ke0)

def slices_EqualFunc_int_int_int_int_b {R : Type} (c_machine_Same_1 : (List Int) → (List Int) → (Bool → Option R) → Option R) (l_4 : (List (List Int)) → (List (List Int)) → Int → (Bool → Option R) → (Option R) → Int → Option R) (v1 : (List (List Int))) (v2 : (List (List Int))) (K : Bool → Option R) : Option R :=
    bif (!(decide ((v1.length : Int) = (v2.length : Int)))) then
    (K false)
    else (l_4 v2 v1 (v1.length : Int)
     (fun (v8 : Bool) =>
      K v8)
     (K true) 0)

def slices_EqualFunc_int_int_int_int_l4 {R : Type} (kf : Nat) : Nat → (List (List Int)) → (List (List Int)) → Int → (Bool → Option R) → (Option R) → Int → Option R
  | 0, _, _, _, _, _, _ => none
  | k + 1, y0, y1, y2, y3, y4, y5 => slices_EqualFunc_int_int_int_int_l4_b (machine_Same_1 kf) (slices_EqualFunc_int_int_int_int_l4 kf k) y0 y1 y2 y3 y4 y5

def slices_EqualFunc_int_int_int_int {R : Type} (kf : Nat) (v1 : (List (List Int))) (v2 : (List (List Int))) (K : Bool → Option R) : Option R := slices_EqualFunc_int_int_int_int_b (machine_Same_1 kf) (slices_EqualFunc_int_int_int_int_l4 kf kf) v1 v2 K

def machine_Same_b {R : Type} (c_slices_Equal_bool_bool : (List Bool) → (List Bool) → (Bool → Option R) → Option R) (c_slices_EqualFunc_int_int_int_int : (List (List Int)) → (List (List Int)) → (Bool → Option R) → Option R) (v1 : (List Int)) (v2 : (List (List Int))) (v3 : (List Bool)) (v4 : (List Int)) (v5 : (List (List Int))) (v6 : (List Bool)) (K : Bool → Option R) : Option R :=
    bif decide (v1 = v4) then
    (c_slices_Equal_bool_bool v3 v6 (fun (v7 : Bool) =>
      bif v7 then
      (c_slices_EqualFunc_int_int_int_int v2 v5 (fun (v8 : Bool) =>
        K v8))
      else (K false)))
    else (K false)

def machine_Same {R : Type} (kf : Nat) (v1 : (List Int)) (v2 : (List (List Int))) (v3 : (List Bool)) (v4 : (List Int)) (v5 : (List (List Int))) (v6 : (List Bool)) (K : Bool → Option R) : Option R := machine_Same_b (slices_Equal_bool_bool kf) (slices_EqualFunc_int_int_int_int kf) v1 v2 v3 v4 v5 v6 K

def least_Is_b {R : Type} (c_machine_May : (List Int) → (List (List Int)) → (List Bool) → (Bool → Option R) → Option R) (c_least_Least : (List Int) → (List (List Int)) → (List Bool) → ((List Int) → (List (List Int)) → (List Bool) → Option R) → Option R) (c_machine_Same : (List Int) → (List (List Int)) → (List Bool) → (List Int) → (List (List Int)) → (List Bool) → (Bool → Option R) → Option R) (v1 : (List Int)) (v2 : (List (List Int))) (v3 : (List Bool)) (K : Bool → Option R) : Option R :=
    c_machine_May v1 v2 v3 (fun (v4 : Bool) =>
     bif v4 then
     (c_least_Least v1 v2 v3 (fun (v5 : (List Int)) (v6 : (List (List Int))) (v7 : (List Bool)) =>
       c_machine_Same v5 v6 v7 v1 v2 v3 (fun (v8 : Bool) =>
        K v8)))
     else (K false))

def least_Is {R : Type} (kf : Nat) (v1 : (List Int)) (v2 : (List (List Int))) (v3 : (List Bool)) (K : Bool → Option R) : Option R := least_Is_b (machine_May kf) (least_Least kf) (machine_Same kf) v1 v2 v3 K

def law12_begun_b {R : Type} (c_least_Least : (List Int) → (List (List Int)) → (List Bool) → ((List Int) → (List (List Int)) → (List Bool) → Option R) → Option R) (c_least_Parts : (List Int) → (List (List Int)) → (List Bool) → ((List Int) → Option R) → Option R) (c_least_Is : (List Int) → (List (List Int)) → (List Bool) → (Bool → Option R) → Option R) (K : Bool → Option R) : Option R :=
    c_least_Least (List.replicate 256 (0 : Int)) ([([1] : List Int), ([0] : List Int)] : List (List Int)) ([true, true] : List Bool) (fun (v1 : (List Int)) (v2 : (List (List Int))) (v3 : (List Bool)) =>
     c_least_Parts (List.replicate 256 (0 : Int)) ([([1] : List Int), ([0] : List Int)] : List (List Int)) ([true, true] : List Bool) (fun (v4 : (List Int)) =>
      bif decide ((v2.length : Int) = 1) then
      (c_least_Is v1 v2 v3 (fun (v5 : Bool) =>
        bif v5 then
        (c_least_Is (List.replicate 256 (0 : Int)) ([([1] : List Int), ([0] : List Int)] : List (List Int)) ([true, true] : List Bool) (fun (v6 : Bool) =>
          bif (!v6) then
          (bif decide ((v4.length : Int) = 2) then
           (gd (decide (1 < (v4.length : Int)))
            (K (decide ((v4.getD 1 (0 : Int)) = 0))))
           else (K false))
          else (K false)))
        else (K false)))
      else (K false)))

def law12_begun {R : Type} (kf : Nat) (K : Bool → Option R) : Option R := law12_begun_b (least_Least kf) (least_Parts kf) (least_Is kf) K

def play_Made_b {R : Type} (v1 : (List Int)) (K : (List Int) → Int → Option R) : Option R :=
    K v1 0

def play_Made {R : Type} (v1 : (List Int)) (K : (List Int) → Int → Option R) : Option R := play_Made_b v1 K

def play_Picks_num_b {R : Type} (v1 : Int) (v2 : (List Int)) (v3 : Int) (K : Int → (List Int) → Int → Option R) : Option R :=
    bif decide ((v2.length : Int) ≤ v3) then
    (K 0 v2 v3)
    else (gd (decide (0 ≤ (IntKind.i64.wrap ((IntKind.i64.wrap (v3 + 1)) - 1))))
     (gd (decide ((IntKind.i64.wrap ((IntKind.i64.wrap (v3 + 1)) - 1)) < (v2.length : Int)))
      (gd (decide (v1 ≠ 0))
       (let v4 : Int := (Int.tmod (IntKind.i64.wrap (v2.getD (Int.toNat (IntKind.i64.wrap ((IntKind.i64.wrap (v3 + 1)) - 1))) (0 : Int))) v1)
        K v4 v2 (IntKind.i64.wrap (v3 + 1))))))

def play_Picks_num {R : Type} (v1 : Int) (v2 : (List Int)) (v3 : Int) (K : Int → (List Int) → Int → Option R) : Option R := play_Picks_num_b v1 v2 v3 K

def play_Dfa_l5_b {R : Type} (c_play_Made : (List Int) → ((List Int) → Int → Option R) → Option R) (c_play_Picks_num : Int → (List Int) → Int → (Int → (List Int) → Int → Option R) → Option R) (l_5 : Int → Int → (List Int) → (List Int) → Int → (List (List Int)) → (List Bool) → (List (List Int)) → (List Bool) → (Int → Int → (List Int) → (List Int) → Int → (List Int) → (List (List Int)) → (List Bool) → (List (List Int)) → (List Bool) → Option R) → Int → (List Int) → Option R) (l_12 : ((List Int) → (List Int) → (List (List Int)) → (List Bool) → (List (List Int)) → (List Bool) → Option R) → Int → Int → Int → (List Int) → (List Int) → Int → (List Int) → (List (List Int)) → (List Bool) → (List (List Int)) → (List Bool) → Option R) (l_16 : Int → Int → Int → (List Int) → (List Int) → (List (List Int)) → (List Bool) → (List (List Int)) → (List Bool) → (Int → Int → Int → (List Int) → (List Int) → Int → (List Int) → (List Int) → (List (List Int)) → (List Bool) → (List (List Int)) → (List Bool) → Option R) → Int → (List Int) → Int → (List Int) → Option R) (v6 : Int) (v7 : Int) (v9 : (List Int)) (v10 : (List Int)) (v11 : Int) (v13 : (List (List Int))) (v14 : (List Bool)) (v15 : (List (List Int))) (v16 : (List Bool)) (Ke0 : Int → Int → (List Int) → (List Int) → Int → (List Int) → (List (List Int)) → (List Bool) → (List (List Int)) → (List Bool) → Option R) (v8 : Int) (v12 : (List Int)) : Option R :=
    bif decide (v8 < 256) then
    (gd (decide (v7 ≠ 0))
     (let j18 : Int → Option R := fun v17 =>
      (gd (decide (0 ≤ v8))
       (gd (decide (v8 < 256))
        (l_5 v6 v7 v9 v10 v11 v13 v14 v15 v16 Ke0 (IntKind.i64.wrap (v8 + 1)) (v12.set (Int.toNat v8) (IntKind.u8.wrap v17)))))
      (let j20 : Bool → Option R := fun v19 =>
       (bif v19 then
        (j18 (IntKind.i64.wrap (v8 - 97)))
        else (j18 (Int.tmod (Int.tmod v8 7) v7)))
       (bif decide (97 ≤ v8) then
        (j20 (decide (v8 < (IntKind.i64.wrap (97 + v7)))))
        else (j20 false)))))
    else (Ke0 v6 v7 v9 v10 v11 v12 v13 v14 v15 v16)

def play_Dfa_l12_b {R : Type} (c_play_Made : (List Int) → ((List Int) → Int → Option R) → Option R) (c_play_Picks_num : Int → (List Int) → Int → (Int → (List Int) → Int → Option R) → Option R) (l_5 : Int → Int → (List Int) → (List Int) → Int → (List (List Int)) → (List Bool) → (List (List Int)) → (List Bool) → (Int → Int → (List Int) → (List Int) → Int → (List Int) → (List (List Int)) → (List Bool) → (List (List Int)) → (List Bool) → Option R) → Int → (List Int) → Option R) (l_12 : ((List Int) → (List Int) → (List (List Int)) → (List Bool) → (List (List Int)) → (List Bool) → Option R) → Int → Int → Int → (List Int) → (List Int) → Int → (List Int) → (List (List Int)) → (List Bool) → (List (List Int)) → (List Bool) → Option R) (l_16 : Int → Int → Int → (List Int) → (List Int) → (List (List Int)) → (List Bool) → (List (List Int)) → (List Bool) → (Int → Int → Int → (List Int) → (List Int) → Int → (List Int) → (List Int) → (List (List Int)) → (List Bool) → (List (List Int)) → (List Bool) → Option R) → Int → (List Int) → Int → (List Int) → Option R) (Ke2 : (List Int) → (List Int) → (List (List Int)) → (List Bool) → (List (List Int)) → (List Bool) → Option R) (v31 : Int) (v32 : Int) (v33 : Int) (v34 : (List Int)) (v35 : (List Int)) (v36 : Int) (v37 : (List Int)) (v38 : (List (List Int))) (v39 : (List Bool)) (v40 : (List (List Int))) (v41 : (List Bool)) : Option R :=
    bif decide (v33 < v31) then
    (l_16 v31 v32 v33 v34 v37 v38 v39 v40 v41
     (fun (v58 : Int) (v59 : Int) (v60 : Int) (v61 : (List Int)) (v62 : (List Int)) (v63 : Int) (v64 : (List Int)) (v65 : (List Int)) (v66 : (List (List Int))) (v67 : (List Bool)) (v68 : (List (List Int))) (v69 : (List Bool)) =>
      gd (decide (v68.length + ([v65] : List (List Int)).length < SMALL))
      (c_play_Picks_num 2 v62 v63 (fun (v70 : Int) (v71 : (List Int)) (v72 : Int) =>
        gd (decide (v69.length + ([decide (v70 = 1)] : List Bool).length < SMALL))
        (l_12 Ke2 v58 v59 (IntKind.i64.wrap (v60 + 1)) v61 v71 v72 v64 v66 v67 (v68 ++ ([v65] : List (List Int))) (v69 ++ ([decide (v70 = 1)] : List Bool)))))) 0 v35 v36 ([] : List Int))
    else (Ke2 v34 v37 v38 v39 v40 v41)

def play_Dfa_l16_b {R : Type} (c_play_Made : (List Int) → ((List Int) → Int → Option R) → Option R) (c_play_Picks_num : Int → (List Int) → Int → (Int → (List Int) → Int → Option R) → Option R) (l_5 : Int → Int → (List Int) → (List Int) → Int → (List (List Int)) → (List Bool) → (List (List Int)) → (List Bool) → (Int → Int → (List Int) → (List Int) → Int → (List Int) → (List (List Int)) → (List Bool) → (List (List Int)) → (List Bool) → Option R) → Int → (List Int) → Option R) (l_12 : ((List Int) → (List Int) → (List (List Int)) → (List Bool) → (List (List Int)) → (List Bool) → Option R) → Int → Int → Int → (List Int) → (List Int) → Int → (List Int) → (List (List Int)) → (List Bool) → (List (List Int)) → (List Bool) → Option R) (l_16 : Int → Int → Int → (List Int) → (List Int) → (List (List Int)) → (List Bool) → (List (List Int)) → (List Bool) → (Int → Int → Int → (List Int) → (List Int) → Int → (List Int) → (List Int) → (List (List Int)) → (List Bool) → (List (List Int)) → (List Bool) → Option R) → Int → (List Int) → Int → (List Int) → Option R) (v42 : Int) (v43 : Int) (v44 : Int) (v46 : (List Int)) (v49 : (List Int)) (v51 : (List (List Int))) (v52 : (List Bool)) (v53 : (List (List Int))) (v54 : (List Bool)) (Ke4 : Int → Int → Int → (List Int) → (List Int) → Int → (List Int) → (List Int) → (List (List Int)) → (List Bool) → (List (List Int)) → (List Bool) → Option R) (v45 : Int) (v47 : (List Int)) (v48 : Int) (v50 : (List Int)) : Option R :=
    bif decide (v45 < v43) then
    (c_play_Picks_num v42 v47 v48 (fun (v55 : Int) (v56 : (List Int)) (v57 : Int) =>
      gd (decide (v50.length + ([v55] : List Int).length < SMALL))
      (l_16 v42 v43 v44 v46 v49 v51 v52 v53 v54 Ke4 (IntKind.i64.wrap (v45 + 1)) v56 v57 (v50 ++ ([v55] : List Int)))))
    else (Ke4 v42 v43 v44 v46 v47 v48 v49 v50 v51 v52 v53 v54)

def play_Dfa_b {R : Type} (c_play_Made : (List Int) → ((List Int) → Int → Option R) → Option R) (c_play_Picks_num : Int → (List Int) → Int → (Int → (List Int) → Int → Option R) → Option R) (l_5 : Int → Int → (List Int) → (List Int) → Int → (List (List Int)) → (List Bool) → (List (List Int)) → (List Bool) → (Int → Int → (List Int) → (List Int) → Int → (List Int) → (List (List Int)) → (List Bool) → (List (List Int)) → (List Bool) → Option R) → Int → (List Int) → Option R) (l_12 : ((List Int) → (List Int) → (List (List Int)) → (List Bool) → (List (List Int)) → (List Bool) → Option R) → Int → Int → Int → (List Int) → (List Int) → Int → (List Int) → (List (List Int)) → (List Bool) → (List (List Int)) → (List Bool) → Option R) (l_16 : Int → Int → Int → (List Int) → (List Int) → (List (List Int)) → (List Bool) → (List (List Int)) → (List Bool) → (Int → Int → Int → (List Int) → (List Int) → Int → (List Int) → (List Int) → (List (List Int)) → (List Bool) → (List (List Int)) → (List Bool) → Option R) → Int → (List Int) → Int → (List Int) → Option R) (v1 : Int) (v2 : Int) (v3 : (List Int)) (K : (List Int) → (List (List Int)) → (List Bool) → Option R) : Option R :=
    c_play_Made v3 (fun (v4 : (List Int)) (v5 : Int) =>
     l_5 (IntKind.i64.wrap (1 + (IntKind.i64.wrap (Int.tmod v1 8)))) (IntKind.i64.wrap (1 + (IntKind.i64.wrap (Int.tmod v2 4)))) (List.replicate 256 (0 : Int)) v4 v5 ([] : List (List Int)) ([] : List Bool) ([] : List (List Int)) ([] : List Bool)
     (fun (v21 : Int) (v22 : Int) (v23 : (List Int)) (v24 : (List Int)) (v25 : Int) (v26 : (List Int)) (v27 : (List (List Int))) (v28 : (List Bool)) (v29 : (List (List Int))) (v30 : (List Bool)) =>
      l_12
      (fun (v73 : (List Int)) (v74 : (List Int)) (v75 : (List (List Int))) (v76 : (List Bool)) (v77 : (List (List Int))) (v78 : (List Bool)) =>
       K v74 v77 v78) v21 v22 0 v23 v24 v25 v26 v27 v28 v29 v30) 0 (List.replicate 256 (0 : Int)))

def play_Dfa_l5 {R : Type} (kf : Nat) : Nat → Int → Int → (List Int) → (List Int) → Int → (List (List Int)) → (List Bool) → (List (List Int)) → (List Bool) → (Int → Int → (List Int) → (List Int) → Int → (List Int) → (List (List Int)) → (List Bool) → (List (List Int)) → (List Bool) → Option R) → Int → (List Int) → Option R
  | 0, _, _, _, _, _, _, _, _, _, _, _, _ => none
  | k + 1, y0, y1, y2, y3, y4, y5, y6, y7, y8, y9, y10, y11 => play_Dfa_l5_b play_Made play_Picks_num (play_Dfa_l5 kf k) (fun _ _ _ _ _ _ _ _ _ _ _ _ => none) (fun _ _ _ _ _ _ _ _ _ _ _ _ _ _ => none) y0 y1 y2 y3 y4 y5 y6 y7 y8 y9 y10 y11

def play_Dfa_l16 {R : Type} (kf : Nat) : Nat → Int → Int → Int → (List Int) → (List Int) → (List (List Int)) → (List Bool) → (List (List Int)) → (List Bool) → (Int → Int → Int → (List Int) → (List Int) → Int → (List Int) → (List Int) → (List (List Int)) → (List Bool) → (List (List Int)) → (List Bool) → Option R) → Int → (List Int) → Int → (List Int) → Option R
  | 0, _, _, _, _, _, _, _, _, _, _, _, _, _, _ => none
  | k + 1, y0, y1, y2, y3, y4, y5, y6, y7, y8, y9, y10, y11, y12, y13 => play_Dfa_l16_b play_Made play_Picks_num (play_Dfa_l5 kf k) (fun _ _ _ _ _ _ _ _ _ _ _ _ => none) (play_Dfa_l16 kf k) y0 y1 y2 y3 y4 y5 y6 y7 y8 y9 y10 y11 y12 y13

def play_Dfa_l12 {R : Type} (kf : Nat) : Nat → ((List Int) → (List Int) → (List (List Int)) → (List Bool) → (List (List Int)) → (List Bool) → Option R) → Int → Int → Int → (List Int) → (List Int) → Int → (List Int) → (List (List Int)) → (List Bool) → (List (List Int)) → (List Bool) → Option R
  | 0, _, _, _, _, _, _, _, _, _, _, _, _ => none
  | k + 1, y0, y1, y2, y3, y4, y5, y6, y7, y8, y9, y10, y11 => play_Dfa_l12_b play_Made play_Picks_num (play_Dfa_l5 kf k) (play_Dfa_l12 kf k) (play_Dfa_l16 kf k) y0 y1 y2 y3 y4 y5 y6 y7 y8 y9 y10 y11

def play_Dfa {R : Type} (kf : Nat) (v1 : Int) (v2 : Int) (v3 : (List Int)) (K : (List Int) → (List (List Int)) → (List Bool) → Option R) : Option R := play_Dfa_b play_Made play_Picks_num (play_Dfa_l5 kf kf) (play_Dfa_l12 kf kf) (play_Dfa_l16 kf kf) v1 v2 v3 K

def ref11_Classes_l3_b {R : Type} (l_3 : (List Int) → (Int → Option R) → Int → Int → Option R) (v6 : (List Int)) (Ke0 : Int → Option R) (v4 : Int) (v5 : Int) : Option R :=
    bif decide (v5 < 256) then
    (gd (decide (0 ≤ v5))
     (gd (decide (v5 < 256))
      (let v9 : Int := (mx v4 (IntKind.i64.wrap ((IntKind.i64.wrap (v6.getD (Int.toNat v5) (0 : Int))) + 1)))
       l_3 v6 Ke0 v9 (IntKind.i64.wrap (v5 + 1)))))
    else (Ke0 v4)

def ref11_Classes_b {R : Type} (l_3 : (List Int) → (Int → Option R) → Int → Int → Option R) (v1 : (List Int)) (v2 : (List (List Int))) (v3 : (List Bool)) (K : Int → Option R) : Option R :=
    l_3 v1
    (fun (v10 : Int) =>
     K v10) 0 0

def ref11_Classes_l3 {R : Type} (kf : Nat) : Nat → (List Int) → (Int → Option R) → Int → Int → Option R
  | 0, _, _, _, _ => none
  | k + 1, y0, y1, y2, y3 => ref11_Classes_l3_b (ref11_Classes_l3 kf k) y0 y1 y2 y3

def ref11_Classes {R : Type} (kf : Nat) (v1 : (List Int)) (v2 : (List (List Int))) (v3 : (List Bool)) (K : Int → Option R) : Option R := ref11_Classes_b (ref11_Classes_l3 kf kf) v1 v2 v3 K

def ref11_May_l5_b {R : Type} (c_ref11_Classes : (List Int) → (List (List Int)) → (List Bool) → (Int → Option R) → Option R) (l_5 : (Bool → Option R) → (Option R) → Int → Int → Int → (List Int) → (List (List Int)) → (List Bool) → Option R) (l_10 : Int → Int → Int → (List Int) → (List (List Int)) → (List Bool) → (Bool → Int → Int → Int → (List Int) → (List (List Int)) → (List Bool) → Option R) → (Int → Int → Int → (List Int) → (List (List Int)) → (List Bool) → Option R) → Int → Option R) (Kr : Bool → Option R) (Ke0 : Option R) (v6 : Int) (v7 : Int) (v8 : Int) (v9 : (List Int)) (v10 : (List (List Int))) (v11 : (List Bool)) : Option R :=
    bif decide (v8 < v6) then
    (gd (decide (0 ≤ v8))
     (gd (decide (v8 < (v10.length : Int)))
      (bif (!(decide (((v10.getD (Int.toNat v8) ([] : (List Int))).length : Int) = v7))) then
       (Kr false)
       else (l_10 v6 v7 v8 v9 v10 v11
        (fun (v21 : Bool) (v22 : Int) (v23 : Int) (v24 : Int) (v25 : (List Int)) (v26 : (List (List Int))) (v27 : (List Bool)) =>
         Kr v21)
        (fun (v28 : Int) (v29 : Int) (v30 : Int) (v31 : (List Int)) (v32 : (List (List Int))) (v33 : (List Bool)) =>
         l_5 Kr Ke0 v28 v29 (IntKind.i64.wrap (v30 + 1)) v31 v32 v33) 0))))
    else (Ke0)

def ref11_May_l10_b {R : Type} (c_ref11_Classes : (List Int) → (List (List Int)) → (List Bool) → (Int → Option R) → Option R) (l_5 : (Bool → Option R) → (Option R) → Int → Int → Int → (List Int) → (List (List Int)) → (List Bool) → Option R) (l_10 : Int → Int → Int → (List Int) → (List (List Int)) → (List Bool) → (Bool → Int → Int → Int → (List Int) → (List (List Int)) → (List Bool) → Option R) → (Int → Int → Int → (List Int) → (List (List Int)) → (List Bool) → Option R) → Int → Option R) (v12 : Int) (v13 : Int) (v14 : Int) (v16 : (List Int)) (v17 : (List (List Int))) (v18 : (List Bool)) (Kr : Bool → Int → Int → Int → (List Int) → (List (List Int)) → (List Bool) → Option R) (Ke2 : Int → Int → Int → (List Int) → (List (List Int)) → (List Bool) → Option R) (v15 : Int) : Option R :=
    bif decide (v15 < v13) then
    (let j20 : Bool → Option R := fun v19 =>
     (bif v19 then
      (Kr false v12 v13 v14 v16 v17 v18)
      else (l_10 v12 v13 v14 v16 v17 v18 Kr Ke2 (IntKind.i64.wrap (v15 + 1))))
     (gd (decide (0 ≤ v14))
      (gd (decide (v14 < (v17.length : Int)))
       (gd (decide (0 ≤ v15))
        (gd (decide (v15 < ((v17.getD (Int.toNat v14) ([] : (List Int))).length : Int)))
         (bif decide (((v17.getD (Int.toNat v14) ([] : (List Int))).getD (Int.toNat v15) (0 : Int)) < 0) then
          (j20 true)
          else (gd (decide (0 ≤ v14))
           (gd (decide (v14 < (v17.length : Int)))
            (gd (decide (0 ≤ v15))
             (gd (decide (v15 < ((v17.getD (Int.toNat v14) ([] : (List Int))).length : Int)))
              (j20 (decide (v12 ≤ ((v17.getD (Int.toNat v14) ([] : (List Int))).getD (Int.toNat v15) (0 : Int)))))))))))))))
    else (Ke2 v12 v13 v14 v16 v17 v18)

def ref11_May_b {R : Type} (c_ref11_Classes : (List Int) → (List (List Int)) → (List Bool) → (Int → Option R) → Option R) (l_5 : (Bool → Option R) → (Option R) → Int → Int → Int → (List Int) → (List (List Int)) → (List Bool) → Option R) (l_10 : Int → Int → Int → (List Int) → (List (List Int)) → (List Bool) → (Bool → Int → Int → Int → (List Int) → (List (List Int)) → (List Bool) → Option R) → (Int → Int → Int → (List Int) → (List (List Int)) → (List Bool) → Option R) → Int → Option R) (v1 : (List Int)) (v2 : (List (List Int))) (v3 : (List Bool)) (K : Bool → Option R) : Option R :=
    c_ref11_Classes v1 v2 v3 (fun (v4 : Int) =>
     let j35 : Bool → Option R := fun v5 =>
     (bif v5 then
      (K false)
      else (l_5
       (fun (v34 : Bool) =>
        K v34)
       (K true) (v2.length : Int) v4 0 v1 v2 v3))
     (bif decide ((v2.length : Int) < 1) then
      (j35 true)
      else (bif decide (2000 < (v2.length : Int)) then
       (j35 true)
       else (j35 (!(decide ((v3.length : Int) = (v2.length : Int))))))))

def ref11_May_l10 {R : Type} (kf : Nat) : Nat → Int → Int → Int → (List Int) → (List (List Int)) → (List Bool) → (Bool → Int → Int → Int → (List Int) → (List (List Int)) → (List Bool) → Option R) → (Int → Int → Int → (List Int) → (List (List Int)) → (List Bool) → Option R) → Int → Option R
  | 0, _, _, _, _, _, _, _, _, _ => none
  | k + 1, y0, y1, y2, y3, y4, y5, y6, y7, y8 => ref11_May_l10_b (ref11_Classes kf) (fun _ _ _ _ _ _ _ _ => none) (ref11_May_l10 kf k) y0 y1 y2 y3 y4 y5 y6 y7 y8

def ref11_May_l5 {R : Type} (kf : Nat) : Nat → (Bool → Option R) → (Option R) → Int → Int → Int → (List Int) → (List (List Int)) → (List Bool) → Option R
  | 0, _, _, _, _, _, _, _, _ => none
  | k + 1, y0, y1, y2, y3, y4, y5, y6, y7 => ref11_May_l5_b (ref11_Classes kf) (ref11_May_l5 kf k) (ref11_May_l10 kf k) y0 y1 y2 y3 y4 y5 y6 y7

def ref11_May {R : Type} (kf : Nat) (v1 : (List Int)) (v2 : (List (List Int))) (v3 : (List Bool)) (K : Bool → Option R) : Option R := ref11_May_b (ref11_Classes kf) (ref11_May_l5 kf kf) (ref11_May_l10 kf kf) v1 v2 v3 K

def law12_LeastApart_b {R : Type} (c_law12_begun : (Bool → Option R) → Option R) (c_play_Dfa : Int → Int → (List Int) → ((List Int) → (List (List Int)) → (List Bool) → Option R) → Option R) (c_least_Least : (List Int) → (List (List Int)) → (List Bool) → ((List Int) → (List (List Int)) → (List Bool) → Option R) → Option R) (c_ref11_May : (List Int) → (List (List Int)) → (List Bool) → (Bool → Option R) → Option R) (v1 : Int) (v2 : Int) (v3 : (List Int)) (K : Bool → Option R) : Option R :=
    c_law12_begun (fun (v4 : Bool) =>
     bif (!v4) then
     (K false)
     else (bif decide (60 < (v3.length : Int)) then
      (K true)
      else (c_play_Dfa v1 v2 v3 (fun (v5 : (List Int)) (v6 : (List (List Int))) (v7 : (List Bool)) =>
        c_least_Least v5 v6 v7 (fun (v8 : (List Int)) (v9 : (List (List Int))) (v10 : (List Bool)) =>
         c_ref11_May v8 v9 v10 (fun (v11 : Bool) =>
          bif (!v11) then
          (K false)
          else (gd (apG v9 v10)
           (K (apartP v9 v10)))))))))

def law12_LeastApart {R : Type} (kf : Nat) (v1 : Int) (v2 : Int) (v3 : (List Int)) (K : Bool → Option R) : Option R := law12_LeastApart_b (law12_begun kf) (play_Dfa kf) (least_Least kf) (ref11_May kf) v1 v2 v3 K

def sh6 {R : Type} (c_law12_LeastApart : Int → Int → (List Int) → (Bool → Option R) → Option R) (av : List S) (es : List Ent) (K : S → List Ent → Option R) : Option R :=
  match av, es with
  | [.int .u8 v1, .int .u8 v2, .sl (.int .u8) v3], [] => c_law12_LeastApart v1 v2 v3 (fun (r0 : Bool) => K (.bool r0) [])
  | _, _ => none

def sh10 {R : Type} (c_law12_begun : (Bool → Option R) → Option R) (av : List S) (es : List Ent) (K : S → List Ent → Option R) : Option R :=
  match av, es with
  | [], [] => c_law12_begun (fun (r0 : Bool) => K (.bool r0) [])
  | _, _ => none

def sh11 {R : Type} (c_play_Dfa : Int → Int → (List Int) → ((List Int) → (List (List Int)) → (List Bool) → Option R) → Option R) (av : List S) (es : List Ent) (K : S → List Ent → Option R) : Option R :=
  match av, es with
  | [.int .u8 v1, .int .u8 v2, .sl (.int .u8) v3], [] => c_play_Dfa v1 v2 v3 (fun (r0 : (List Int)) (r1 : (List (List Int))) (r2 : (List Bool)) => K (.st [.arr 256 (.int .u8) r0, .own (.slice (.int .i64)) 0, .own .bool 1]) [.buf (.slice (.int .i64)) r1 false, .buf .bool r2 false])
  | _, _ => none

def sh13 {R : Type} (c_least_Least : (List Int) → (List (List Int)) → (List Bool) → ((List Int) → (List (List Int)) → (List Bool) → Option R) → Option R) (av : List S) (es : List Ent) (K : S → List Ent → Option R) : Option R :=
  match av, es with
  | [.st [.arr 256 (.int .u8) v1, .sl (.slice (.int .i64)) v2, .sl .bool v3]], [] => c_least_Least v1 v2 v3 (fun (r0 : (List Int)) (r1 : (List (List Int))) (r2 : (List Bool)) => K (.st [.arr 256 (.int .u8) r0, .own (.slice (.int .i64)) 0, .own .bool 1]) [.buf (.slice (.int .i64)) r1 false, .buf .bool r2 false])
  | _, _ => none

def sh16 {R : Type} (c_least_Parts : (List Int) → (List (List Int)) → (List Bool) → ((List Int) → Option R) → Option R) (av : List S) (es : List Ent) (K : S → List Ent → Option R) : Option R :=
  match av, es with
  | [.st [.arr 256 (.int .u8) v1, .sl (.slice (.int .i64)) v2, .sl .bool v3]], [] => c_least_Parts v1 v2 v3 (fun (r0 : (List Int)) => K (.own (.int .i64) 0) [.buf (.int .i64) r0 false])
  | _, _ => none

def sh18 {R : Type} (c_ref11_May : (List Int) → (List (List Int)) → (List Bool) → (Bool → Option R) → Option R) (av : List S) (es : List Ent) (K : S → List Ent → Option R) : Option R :=
  match av, es with
  | [.st [.arr 256 (.int .u8) v1, .sl (.slice (.int .i64)) v2, .sl .bool v3]], [] => c_ref11_May v1 v2 v3 (fun (r0 : Bool) => K (.bool r0) [])
  | _, _ => none

def sh20 {R : Type} (c_ref11_Classes : (List Int) → (List (List Int)) → (List Bool) → (Int → Option R) → Option R) (av : List S) (es : List Ent) (K : S → List Ent → Option R) : Option R :=
  match av, es with
  | [.st [.arr 256 (.int .u8) v1, .sl (.slice (.int .i64)) v2, .sl .bool v3]], [] => c_ref11_Classes v1 v2 v3 (fun (r0 : Int) => K (.int .i64 r0) [])
  | _, _ => none

def sh21 {R : Type} (c_least_Is : (List Int) → (List (List Int)) → (List Bool) → (Bool → Option R) → Option R) (av : List S) (es : List Ent) (K : S → List Ent → Option R) : Option R :=
  match av, es with
  | [.st [.arr 256 (.int .u8) v1, .sl (.slice (.int .i64)) v2, .sl .bool v3]], [] => c_least_Is v1 v2 v3 (fun (r0 : Bool) => K (.bool r0) [])
  | _, _ => none

def sh26 {R : Type} (c_play_Made : (List Int) → ((List Int) → Int → Option R) → Option R) (av : List S) (es : List Ent) (K : S → List Ent → Option R) : Option R :=
  match av, es with
  | [.sl (.int .u8) v1], [] => c_play_Made v1 (fun (r0 : (List Int)) (r1 : Int) => K (.ptr 0 []) [.box (.st [.sl (.int .u8) r0, .int .i64 r1]) false])
  | _, _ => none

def sh27 {R : Type} (c_play_Picks_num : Int → (List Int) → Int → (Int → (List Int) → Int → Option R) → Option R) (av : List S) (es : List Ent) (K : S → List Ent → Option R) : Option R :=
  match av, es with
  | [.ptr 0 [], .int .i64 v1], [.box (.st [.sl (.int .u8) v2, .int .i64 v3]) false] => c_play_Picks_num v1 v2 v3 (fun (r0 : Int) (r1 : (List Int)) (r2 : Int) => K (.int .i64 r0) [.box (.st [.sl (.int .u8) r1, .int .i64 r2]) false])
  | _, _ => none

def sh28 {R : Type} (c_machine_May : (List Int) → (List (List Int)) → (List Bool) → (Bool → Option R) → Option R) (av : List S) (es : List Ent) (K : S → List Ent → Option R) : Option R :=
  match av, es with
  | [.st [.arr 256 (.int .u8) v1, .sl (.slice (.int .i64)) v2, .sl .bool v3]], [] => c_machine_May v1 v2 v3 (fun (r0 : Bool) => K (.bool r0) [])
  | _, _ => none

def sh29 {R : Type} (c_least_parts : (List Int) → (List (List Int)) → (List Bool) → ((List Int) → Option R) → Option R) (av : List S) (es : List Ent) (K : S → List Ent → Option R) : Option R :=
  match av, es with
  | [.st [.arr 256 (.int .u8) v1, .sl (.slice (.int .i64)) v2, .sl .bool v3]], [] => c_least_parts v1 v2 v3 (fun (r0 : (List Int)) => K (.own (.int .i64) 0) [.buf (.int .i64) r0 false])
  | _, _ => none

def sh30 {R : Type} (c_least_order : (List Int) → (List (List Int)) → (List Bool) → (List Int) → ((List Int) → (List (Int × Int)) → Option R) → Option R) (av : List S) (es : List Ent) (K : S → List Ent → Option R) : Option R :=
  match av, es with
  | [.st [.arr 256 (.int .u8) v1, .sl (.slice (.int .i64)) v2, .sl .bool v3], .sl (.int .i64) v4], [] => c_least_order v1 v2 v3 v4 (fun (r0 : (List Int)) (r1 : (List (Int × Int))) => K (.tup [.own (.int .i64) 0, .mp 1]) [.buf (.int .i64) r0 false, .map (.int .i64) (.int .i64) r1 false])
  | _, _ => none

def sh31 {R : Type} (c_slices_IndexFunc_int_int : (List (List Int)) → (List Int) → (Int → (List Int) → Option R) → Option R) (av : List S) (es : List Ent) (K : S → List Ent → Option R) : Option R :=
  match av, es with
  | [.sl (.slice (.int .i64)) v1, .fn 32 [.ptr 0 []]], [.box (.own (.int .i64) 1) false, .buf (.int .i64) v2 false] => c_slices_IndexFunc_int_int v1 v2 (fun (r0 : Int) (r1 : (List Int)) => K (.int .i64 r0) [.box (.own (.int .i64) 1) false, .buf (.int .i64) r1 false])
  | _, _ => none

def sh32 {R : Type} (c_least_Least_1 : (List Int) → (List Int) → (Bool → (List Int) → Option R) → Option R) (av : List S) (es : List Ent) (K : S → List Ent → Option R) : Option R :=
  match av, es with
  | [.sl (.int .i64) v1, .ptr 0 []], [.box (.own (.int .i64) 1) false, .buf (.int .i64) v2 false] => c_least_Least_1 v1 v2 (fun (r0 : Bool) (r1 : (List Int)) => K (.bool r0) [.box (.own (.int .i64) 1) false, .buf (.int .i64) r1 false])
  | _, _ => none

def sh33 {R : Type} (c_slices_Equal_int_int : (List Int) → (List Int) → (Bool → Option R) → Option R) (av : List S) (es : List Ent) (K : S → List Ent → Option R) : Option R :=
  match av, es with
  | [.sl (.int .i64) v1, .sl (.int .i64) v2], [] => c_slices_Equal_int_int v1 v2 (fun (r0 : Bool) => K (.bool r0) [])
  | _, _ => none

def sh38 {R : Type} (c_machine_Same : (List Int) → (List (List Int)) → (List Bool) → (List Int) → (List (List Int)) → (List Bool) → (Bool → Option R) → Option R) (av : List S) (es : List Ent) (K : S → List Ent → Option R) : Option R :=
  match av, es with
  | [.st [.arr 256 (.int .u8) v1, .sl (.slice (.int .i64)) v2, .sl .bool v3], .st [.arr 256 (.int .u8) v4, .sl (.slice (.int .i64)) v5, .sl .bool v6]], [] => c_machine_Same v1 v2 v3 v4 v5 v6 (fun (r0 : Bool) => K (.bool r0) [])
  | _, _ => none

def sh41 {R : Type} (c_machine_classes : (List Int) → (List (List Int)) → (List Bool) → (Int → Option R) → Option R) (av : List S) (es : List Ent) (K : S → List Ent → Option R) : Option R :=
  match av, es with
  | [.st [.arr 256 (.int .u8) v1, .sl (.slice (.int .i64)) v2, .sl .bool v3]], [] => c_machine_classes v1 v2 v3 (fun (r0 : Int) => K (.int .i64 r0) [])
  | _, _ => none

def sh42 {R : Type} (c_slices_ContainsFunc_int_int : (List Int) → Int → (Bool → Int → Option R) → Option R) (av : List S) (es : List Ent) (K : S → List Ent → Option R) : Option R :=
  match av, es with
  | [.sl (.int .i64) v1, .fn 43 [.ptr 0 []]], [.box (.int .i64 v2) false] => c_slices_ContainsFunc_int_int v1 v2 (fun (r0 : Bool) (r1 : Int) => K (.bool r0) [.box (.int .i64 r1) false])
  | _, _ => none

def sh43 {R : Type} (c_machine_May_1 : Int → Int → (Bool → Int → Option R) → Option R) (av : List S) (es : List Ent) (K : S → List Ent → Option R) : Option R :=
  match av, es with
  | [.int .i64 v1, .ptr 0 []], [.box (.int .i64 v2) false] => c_machine_May_1 v1 v2 (fun (r0 : Bool) (r1 : Int) => K (.bool r0) [.box (.int .i64 r1) false])
  | _, _ => none

def sh44 {R : Type} (c_least_mark : Int → (List Int) → (List Int) → ((List Int) → Option R) → Option R) (av : List S) (es : List Ent) (K : S → List Ent → Option R) : Option R :=
  match av, es with
  | [.int .i64 v1, .sl (.int .i64) v2, .sl (.int .i64) v3], [] => c_least_mark v1 v2 v3 (fun (r0 : (List Int)) => K (.str r0) [])
  | _, _ => none

def sh45 {R : Type} (c_slices_Equal_bool_bool : (List Bool) → (List Bool) → (Bool → Option R) → Option R) (av : List S) (es : List Ent) (K : S → List Ent → Option R) : Option R :=
  match av, es with
  | [.sl .bool v1, .sl .bool v2], [] => c_slices_Equal_bool_bool v1 v2 (fun (r0 : Bool) => K (.bool r0) [])
  | _, _ => none

def sh46 {R : Type} (c_slices_EqualFunc_int_int_int_int : (List (List Int)) → (List (List Int)) → (Bool → Option R) → Option R) (av : List S) (es : List Ent) (K : S → List Ent → Option R) : Option R :=
  match av, es with
  | [.sl (.slice (.int .i64)) v1, .sl (.slice (.int .i64)) v2, .fn 47 []], [] => c_slices_EqualFunc_int_int_int_int v1 v2 (fun (r0 : Bool) => K (.bool r0) [])
  | _, _ => none

def sh47 {R : Type} (c_machine_Same_1 : (List Int) → (List Int) → (Bool → Option R) → Option R) (av : List S) (es : List Ent) (K : S → List Ent → Option R) : Option R :=
  match av, es with
  | [.sl (.int .i64) v1, .sl (.int .i64) v2], [] => c_machine_Same_1 v1 v2 (fun (r0 : Bool) => K (.bool r0) [])
  | _, _ => none

def sh48 {R : Type} (c_slices_Max_uint8_uint8 : (List Int) → (Int → Option R) → Option R) (av : List S) (es : List Ent) (K : S → List Ent → Option R) : Option R :=
  match av, es with
  | [.sl (.int .u8) v1], [] => c_slices_Max_uint8_uint8 v1 (fun (r0 : Int) => K (.int .u8 r0) [])
  | _, _ => none

def sh49 {R : Type} (c_slices_IndexFunc_int_int_1 : (List Int) → Int → (Int → Int → Option R) → Option R) (av : List S) (es : List Ent) (K : S → List Ent → Option R) : Option R :=
  match av, es with
  | [.sl (.int .i64) v1, .fn 43 [.ptr 0 []]], [.box (.int .i64 v2) false] => c_slices_IndexFunc_int_int_1 v1 v2 (fun (r0 : Int) (r1 : Int) => K (.int .i64 r0) [.box (.int .i64 r1) false])
  | _, _ => none

end
end Go.Ab.T
