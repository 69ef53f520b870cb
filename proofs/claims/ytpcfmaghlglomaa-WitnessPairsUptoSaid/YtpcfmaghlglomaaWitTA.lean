/- WitTA: a part of the proofs of this seat's statements. -/
import Derived.Test.YtpcfmaghlglomaaDef
import Derived.Test.YtpcfmaghlglomaaProg
import Derived.KernelRfl



namespace Go.Ab.T

open Go Go.Ab Go.Proofs

set_option maxRecDepth 100000

set_option linter.unusedVariables false

noncomputable section

def glob : Nat → Option S := fun _ => none

def raw : FuncId → Bool := fun f => [26].contains f

def slices_Max_uint8_uint8_l5_b {R : Type} (l_5 : (List Int) → (Int → Option R) → Int → Int → Option R) (v2 : (List Int)) (Ke0 : Int → Option R) (v3 : Int) (v4 : Int) : Option R :=
    bif decide (v4 < (v2.length : Int)) then
    (gd (decide (0 ≤ v4))
     (gd (decide (v4 < (v2.length : Int)))
      (l_5 v2 Ke0 (mx v3 (v2.getD (Int.toNat v4) (0 : Int))) (IntKind.i64.wrap (v4 + 1)))))
    else (Ke0 v3)

def slices_Max_uint8_uint8_b {R : Type} (l_5 : (List Int) → (Int → Option R) → Int → Int → Option R) (v1 : (List Int)) (K : Int → Option R) : Option R :=
    bif decide ((v1.length : Int) < 1) then
    (none)
    else (gd (decide (0 < (v1.length : Int)))
     (l_5 v1
      (fun (v5 : Int) =>
       K v5) (v1.getD 0 (0 : Int)) 1))

def slices_Max_uint8_uint8_l5 {R : Type} (kf : Nat) : Nat → (List Int) → (Int → Option R) → Int → Int → Option R
  | 0, _, _, _, _ => none
  | k + 1, y0, y1, y2, y3 => slices_Max_uint8_uint8_l5_b (slices_Max_uint8_uint8_l5 kf k) y0 y1 y2 y3

def slices_Max_uint8_uint8 {R : Type} (kf : Nat) (v1 : (List Int)) (K : Int → Option R) : Option R := slices_Max_uint8_uint8_b (slices_Max_uint8_uint8_l5 kf kf) v1 K

def machine_classes_b {R : Type} (c_slices_Max_uint8_uint8 : (List Int) → (Int → Option R) → Option R) (v1 : (List Int)) (v2 : (List (List Int))) (v3 : (List Bool)) (K : Int → Option R) : Option R :=
    c_slices_Max_uint8_uint8 v1 (fun (v4 : Int) =>
     K (IntKind.i64.wrap ((IntKind.i64.wrap v4) + 1)))

def machine_classes {R : Type} (kf : Nat) (v1 : (List Int)) (v2 : (List (List Int))) (v3 : (List Bool)) (K : Int → Option R) : Option R := machine_classes_b (slices_Max_uint8_uint8 kf) v1 v2 v3 K

def machine_May_1_b {R : Type} (v1 : Int) (v2 : Int) (K : Bool → Int → Option R) : Option R :=
    bif decide (v1 < 0) then
    (K true v2)
    else (K (decide (v2 ≤ v1)) v2)

def machine_May_1 {R : Type} (v1 : Int) (v2 : Int) (K : Bool → Int → Option R) : Option R := machine_May_1_b v1 v2 K

def slices_IndexFunc_int_int_l2_b {R : Type} (c_machine_May_1 : Int → Int → (Bool → Int → Option R) → Option R) (l_2 : (List Int) → Int → (Int → Int → Option R) → (Int → Option R) → Int → Int → Option R) (v3 : (List Int)) (v4 : Int) (Kr : Int → Int → Option R) (Ke0 : Int → Option R) (v5 : Int) (v6 : Int) : Option R :=
    bif decide (v5 < v4) then
    (gd (decide (0 ≤ v5))
     (gd (decide (v5 < (v3.length : Int)))
      (c_machine_May_1 (v3.getD (Int.toNat v5) (0 : Int)) v6 (fun (v7 : Bool) (v8 : Int) =>
        bif v7 then
        (Kr v5 v8)
        else (l_2 v3 v4 Kr Ke0 (IntKind.i64.wrap (v5 + 1)) v8)))))
    else (Ke0 v6)

def slices_IndexFunc_int_int_b {R : Type} (c_machine_May_1 : Int → Int → (Bool → Int → Option R) → Option R) (l_2 : (List Int) → Int → (Int → Int → Option R) → (Int → Option R) → Int → Int → Option R) (v1 : (List Int)) (v2 : Int) (K : Int → Int → Option R) : Option R :=
    l_2 v1 (v1.length : Int)
    (fun (v9 : Int) (v10 : Int) =>
     K v9 v10)
    (fun (v11 : Int) =>
     K (-1) v11) 0 v2

def slices_IndexFunc_int_int_l2 {R : Type} (kf : Nat) : Nat → (List Int) → Int → (Int → Int → Option R) → (Int → Option R) → Int → Int → Option R
  | 0, _, _, _, _, _, _ => none
  | k + 1, y0, y1, y2, y3, y4, y5 => slices_IndexFunc_int_int_l2_b machine_May_1 (slices_IndexFunc_int_int_l2 kf k) y0 y1 y2 y3 y4 y5

def slices_IndexFunc_int_int {R : Type} (kf : Nat) (v1 : (List Int)) (v2 : Int) (K : Int → Int → Option R) : Option R := slices_IndexFunc_int_int_b machine_May_1 (slices_IndexFunc_int_int_l2 kf kf) v1 v2 K

def slices_ContainsFunc_int_int_b {R : Type} (c_slices_IndexFunc_int_int : (List Int) → Int → (Int → Int → Option R) → Option R) (v1 : (List Int)) (v2 : Int) (K : Bool → Int → Option R) : Option R :=
    c_slices_IndexFunc_int_int v1 v2 (fun (v3 : Int) (v4 : Int) =>
     K (decide (0 ≤ v3)) v4)

def slices_ContainsFunc_int_int {R : Type} (kf : Nat) (v1 : (List Int)) (v2 : Int) (K : Bool → Int → Option R) : Option R := slices_ContainsFunc_int_int_b (slices_IndexFunc_int_int kf) v1 v2 K

def machine_May_l6_b {R : Type} (c_machine_classes : (List Int) → (List (List Int)) → (List Bool) → (Int → Option R) → Option R) (c_slices_ContainsFunc_int_int : (List Int) → Int → (Bool → Int → Option R) → Option R) (l_6 : Int → (List (List Int)) → Int → (Bool → Option R) → (Option R) → Int → Int → Option R) (v6 : Int) (v7 : (List (List Int))) (v8 : Int) (Kr : Bool → Option R) (Ke0 : Option R) (v9 : Int) (v10 : Int) : Option R :=
    bif decide (v9 < v8) then
    (gd (decide (0 ≤ v9))
     (gd (decide (v9 < (v7.length : Int)))
      (let j13 : Bool → Int → Option R := fun v11 v12 =>
       (bif v11 then
        (Kr false)
        else (l_6 v6 v7 v8 Kr Ke0 (IntKind.i64.wrap (v9 + 1)) v12))
       (bif (!(decide (((v7.getD (Int.toNat v9) ([] : (List Int))).length : Int) = v6))) then
        (j13 true v10)
        else (c_slices_ContainsFunc_int_int (v7.getD (Int.toNat v9) ([] : (List Int))) v10 (fun (v14 : Bool) (v15 : Int) =>
          j13 v14 v15))))))
    else (Ke0)

def machine_May_b {R : Type} (c_machine_classes : (List Int) → (List (List Int)) → (List Bool) → (Int → Option R) → Option R) (c_slices_ContainsFunc_int_int : (List Int) → Int → (Bool → Int → Option R) → Option R) (l_6 : Int → (List (List Int)) → Int → (Bool → Option R) → (Option R) → Int → Int → Option R) (v1 : (List Int)) (v2 : (List (List Int))) (v3 : (List Bool)) (K : Bool → Option R) : Option R :=
    let j17 : Bool → Option R := fun v4 =>
    (bif v4 then
     (K false)
     else (c_machine_classes v1 v2 v3 (fun (v5 : Int) =>
       l_6 v5 v2 (v2.length : Int)
       (fun (v16 : Bool) =>
        K v16)
       (K true) 0 (v2.length : Int))))
    (bif decide ((v2.length : Int) < 1) then
     (j17 true)
     else (bif decide (2000 < (v2.length : Int)) then
      (j17 true)
      else (j17 (!(decide ((v3.length : Int) = (v2.length : Int)))))))

def machine_May_l6 {R : Type} (kf : Nat) : Nat → Int → (List (List Int)) → Int → (Bool → Option R) → (Option R) → Int → Int → Option R
  | 0, _, _, _, _, _, _, _ => none
  | k + 1, y0, y1, y2, y3, y4, y5, y6 => machine_May_l6_b (machine_classes kf) (slices_ContainsFunc_int_int kf) (machine_May_l6 kf k) y0 y1 y2 y3 y4 y5 y6

def machine_May {R : Type} (kf : Nat) (v1 : (List Int)) (v2 : (List (List Int))) (v3 : (List Bool)) (K : Bool → Option R) : Option R := machine_May_b (machine_classes kf) (slices_ContainsFunc_int_int kf) (machine_May_l6 kf kf) v1 v2 v3 K

def witness_firsts_l4_b {R : Type} (l_4 : (List Int) → ((List Int) → Option R) → Int → (List Int) → (List Bool) → Option R) (v4 : (List Int)) (Ke0 : (List Int) → Option R) (v5 : Int) (v6 : (List Int)) (v7 : (List Bool)) : Option R :=
    bif decide (v5 < 256) then
    (gd (decide (0 ≤ v5))
     (gd (decide (v5 < 256))
      (gd (decide (0 ≤ (v4.getD (Int.toNat v5) (0 : Int))))
       (gd (decide ((v4.getD (Int.toNat v5) (0 : Int)) < 256))
        (bif (!(v7.getD (Int.toNat (v4.getD (Int.toNat v5) (0 : Int))) false)) then
         (gd (decide (0 ≤ (v4.getD (Int.toNat v5) (0 : Int))))
          (gd (decide ((v4.getD (Int.toNat v5) (0 : Int)) < 256))
           (gd (decide (v6.length + ([(IntKind.u8.wrap v5)] : List Int).length < SMALL))
            (l_4 v4 Ke0 (IntKind.i64.wrap (v5 + 1)) (v6 ++ ([(IntKind.u8.wrap v5)] : List Int)) (v7.set (Int.toNat (v4.getD (Int.toNat v5) (0 : Int))) true)))))
         else (l_4 v4 Ke0 (IntKind.i64.wrap (v5 + 1)) v6 v7))))))
    else (Ke0 v6)

def witness_firsts_b {R : Type} (l_4 : (List Int) → ((List Int) → Option R) → Int → (List Int) → (List Bool) → Option R) (v1 : (List Int)) (v2 : (List (List Int))) (v3 : (List Bool)) (K : (List Int) → Option R) : Option R :=
    l_4 v1
    (fun (v8 : (List Int)) =>
     K v8) 0 ([] : List Int) (List.replicate 256 false)

def witness_firsts_l4 {R : Type} (kf : Nat) : Nat → (List Int) → ((List Int) → Option R) → Int → (List Int) → (List Bool) → Option R
  | 0, _, _, _, _, _ => none
  | k + 1, y0, y1, y2, y3, y4 => witness_firsts_l4_b (witness_firsts_l4 kf k) y0 y1 y2 y3 y4

def witness_firsts {R : Type} (kf : Nat) (v1 : (List Int)) (v2 : (List (List Int))) (v3 : (List Bool)) (K : (List Int) → Option R) : Option R := witness_firsts_b (witness_firsts_l4 kf kf) v1 v2 v3 K

def slices_Reverse_byte_byte_l1_b {R : Type} (l_1 : ((List Int) → Option R) → Int → Int → (List Int) → Option R) (Ke0 : (List Int) → Option R) (v2 : Int) (v3 : Int) (v4 : (List Int)) : Option R :=
    bif decide (v2 < v3) then
    (gd (decide (0 ≤ v3))
     (gd (decide (v3 < (v4.length : Int)))
      (gd (decide (0 ≤ v2))
       (gd (decide (v2 < (v4.length : Int)))
        (gd (decide (0 ≤ v2))
         (gd (decide (v2 < (v4.length : Int)))
          (gd (decide (0 ≤ v3))
           (gd (decide (v3 < ((v4.set (Int.toNat v2) (v4.getD (Int.toNat v3) (0 : Int))).length : Int)))
            (l_1 Ke0 (IntKind.i64.wrap (v2 + 1)) (IntKind.i64.wrap (v3 - 1)) ((v4.set (Int.toNat v2) (v4.getD (Int.toNat v3) (0 : Int))).set (Int.toNat v3) (v4.getD (Int.toNat v2) (0 : Int))))))))))))
    else (Ke0 v4)

def slices_Reverse_byte_byte_b {R : Type} (l_1 : ((List Int) → Option R) → Int → Int → (List Int) → Option R) (v1 : (List Int)) (K : (List Int) → Option R) : Option R :=
    l_1
    (fun (v5 : (List Int)) =>
     K v5) 0 (IntKind.i64.wrap ((v1.length : Int) - 1)) v1

def slices_Reverse_byte_byte_l1 {R : Type} (kf : Nat) : Nat → ((List Int) → Option R) → Int → Int → (List Int) → Option R
  | 0, _, _, _, _ => none
  | k + 1, y0, y1, y2, y3 => slices_Reverse_byte_byte_l1_b (slices_Reverse_byte_byte_l1 kf k) y0 y1 y2 y3

def slices_Reverse_byte_byte {R : Type} (kf : Nat) (v1 : (List Int)) (K : (List Int) → Option R) : Option R := slices_Reverse_byte_byte_b (slices_Reverse_byte_byte_l1 kf kf) v1 K

def witness_Shortest_l6_b {R : Type} (c_machine_May : (List Int) → (List (List Int)) → (List Bool) → (Bool → Option R) → Option R) (c_witness_firsts : (List Int) → (List (List Int)) → (List Bool) → ((List Int) → Option R) → Option R) (c_slices_Reverse_byte_byte : (List Int) → ((List Int) → Option R) → Option R) (l_6 : (Bool → (List Int) → Option R) → ((List Int) → Option R) → (List Int) → (List (List Int)) → (List Bool) → (List Int) → (List (Int × (Int × (Int × Unit)))) → (List Int) → (List Int) → Option R) (l_11 : (List (Int × (Int × (Int × Unit)))) → ((List Int) → Option R) → (List Int) → Int → Int → Option R) (l_19 : Int → Int → (List Int) → (List (List Int)) → (List Bool) → (List Int) → (List Int) → ((List Int) → (List (List Int)) → (List Bool) → (List Int) → (List (Int × (Int × (Int × Unit)))) → (List Int) → (List Int) → Option R) → Int → (List (Int × (Int × (Int × Unit)))) → (List Int) → Option R) (Kr : Bool → (List Int) → Option R) (Ke0 : (List Int) → Option R) (v6 : (List Int)) (v7 : (List (List Int))) (v8 : (List Bool)) (v9 : (List Int)) (v10 : (List (Int × (Int × (Int × Unit))))) (v11 : (List Int)) (v12 : (List Int)) : Option R :=
    bif decide (0 < (v12.length : Int)) then
    (gd (decide (0 < (v12.length : Int)))
     (gd (decide (0 ≤ (v12.getD 0 (0 : Int))))
      (gd (decide ((v12.getD 0 (0 : Int)) < (v8.length : Int)))
       (bif (v8.getD (Int.toNat (v12.getD 0 (0 : Int))) false) then
        (l_11 v10
         (fun (v17 : (List Int)) =>
          c_slices_Reverse_byte_byte v17 (fun (v18 : (List Int)) =>
           Kr true v18)) v9 (((mget v10 (v12.getD 0 (0 : Int))).getD ((0 : Int), ((0 : Int), ()))).1) (((mget v10 (v12.getD 0 (0 : Int))).getD ((0 : Int), ((0 : Int), ()))).2.1))
        else (l_19 (v12.getD 0 (0 : Int)) (v11.length : Int) v6 v7 v8 v9 v11
         (fun (v30 : (List Int)) (v31 : (List (List Int))) (v32 : (List Bool)) (v33 : (List Int)) (v34 : (List (Int × (Int × (Int × Unit))))) (v35 : (List Int)) (v36 : (List Int)) =>
          gd (decide (1 ≤ (v36.length : Int)))
          (l_6 Kr Ke0 v30 v31 v32 v33 v34 v35 (v36.drop 1))) 0 v10 v12)))))
    else (Ke0 v9)

def witness_Shortest_l11_b {R : Type} (c_machine_May : (List Int) → (List (List Int)) → (List Bool) → (Bool → Option R) → Option R) (c_witness_firsts : (List Int) → (List (List Int)) → (List Bool) → ((List Int) → Option R) → Option R) (c_slices_Reverse_byte_byte : (List Int) → ((List Int) → Option R) → Option R) (l_6 : (Bool → (List Int) → Option R) → ((List Int) → Option R) → (List Int) → (List (List Int)) → (List Bool) → (List Int) → (List (Int × (Int × (Int × Unit)))) → (List Int) → (List Int) → Option R) (l_11 : (List (Int × (Int × (Int × Unit)))) → ((List Int) → Option R) → (List Int) → Int → Int → Option R) (l_19 : Int → Int → (List Int) → (List (List Int)) → (List Bool) → (List Int) → (List Int) → ((List Int) → (List (List Int)) → (List Bool) → (List Int) → (List (Int × (Int × (Int × Unit)))) → (List Int) → (List Int) → Option R) → Int → (List (Int × (Int × (Int × Unit)))) → (List Int) → Option R) (v14 : (List (Int × (Int × (Int × Unit))))) (Ke2 : (List Int) → Option R) (v13 : (List Int)) (v15 : Int) (v16 : Int) : Option R :=
    bif decide (0 ≤ v15) then
    (gd (decide (v13.length + ([v16] : List Int).length < SMALL))
     (l_11 v14 Ke2 (v13 ++ ([v16] : List Int)) (((mget v14 v15).getD ((0 : Int), ((0 : Int), ()))).1) (((mget v14 v15).getD ((0 : Int), ((0 : Int), ()))).2.1)))
    else (Ke2 v13)

def witness_Shortest_l19_b {R : Type} (c_machine_May : (List Int) → (List (List Int)) → (List Bool) → (Bool → Option R) → Option R) (c_witness_firsts : (List Int) → (List (List Int)) → (List Bool) → ((List Int) → Option R) → Option R) (c_slices_Reverse_byte_byte : (List Int) → ((List Int) → Option R) → Option R) (l_6 : (Bool → (List Int) → Option R) → ((List Int) → Option R) → (List Int) → (List (List Int)) → (List Bool) → (List Int) → (List (Int × (Int × (Int × Unit)))) → (List Int) → (List Int) → Option R) (l_11 : (List (Int × (Int × (Int × Unit)))) → ((List Int) → Option R) → (List Int) → Int → Int → Option R) (l_19 : Int → Int → (List Int) → (List (List Int)) → (List Bool) → (List Int) → (List Int) → ((List Int) → (List (List Int)) → (List Bool) → (List Int) → (List (Int × (Int × (Int × Unit)))) → (List Int) → (List Int) → Option R) → Int → (List (Int × (Int × (Int × Unit)))) → (List Int) → Option R) (v19 : Int) (v20 : Int) (v22 : (List Int)) (v23 : (List (List Int))) (v24 : (List Bool)) (v25 : (List Int)) (v27 : (List Int)) (Ke4 : (List Int) → (List (List Int)) → (List Bool) → (List Int) → (List (Int × (Int × (Int × Unit)))) → (List Int) → (List Int) → Option R) (v21 : Int) (v26 : (List (Int × (Int × (Int × Unit))))) (v28 : (List Int)) : Option R :=
    bif decide (v21 < v20) then
    (gd (decide (0 ≤ v21))
     (gd (decide (v21 < (v27.length : Int)))
      (gd (decide (0 ≤ v19))
       (gd (decide (v19 < (v23.length : Int)))
        (gd (decide (0 ≤ (v27.getD (Int.toNat v21) (0 : Int))))
         (gd (decide ((v27.getD (Int.toNat v21) (0 : Int)) < 256))
          (gd (decide (0 ≤ (v22.getD (Int.toNat (v27.getD (Int.toNat v21) (0 : Int))) (0 : Int))))
           (gd (decide ((v22.getD (Int.toNat (v27.getD (Int.toNat v21) (0 : Int))) (0 : Int)) < ((v23.getD (Int.toNat v19) ([] : (List Int))).length : Int)))
            (let v29 : Int := ((v23.getD (Int.toNat v19) ([] : (List Int))).getD (Int.toNat (v22.getD (Int.toNat (v27.getD (Int.toNat v21) (0 : Int))) (0 : Int))) (0 : Int))
             bif (!((mget v26 v29).isSome)) then
             (gd (decide (v28.length + ([v29] : List Int).length < SMALL))
              (l_19 v19 v20 v22 v23 v24 v25 v27 Ke4 (IntKind.i64.wrap (v21 + 1)) (mset v26 v29 (v19, (v27.getD (Int.toNat v21) (0 : Int)), ())) (v28 ++ ([v29] : List Int))))
             else (l_19 v19 v20 v22 v23 v24 v25 v27 Ke4 (IntKind.i64.wrap (v21 + 1)) v26 v28))))))))))
    else (Ke4 v22 v23 v24 v25 v26 v27 v28)

def witness_Shortest_b {R : Type} (c_machine_May : (List Int) → (List (List Int)) → (List Bool) → (Bool → Option R) → Option R) (c_witness_firsts : (List Int) → (List (List Int)) → (List Bool) → ((List Int) → Option R) → Option R) (c_slices_Reverse_byte_byte : (List Int) → ((List Int) → Option R) → Option R) (l_6 : (Bool → (List Int) → Option R) → ((List Int) → Option R) → (List Int) → (List (List Int)) → (List Bool) → (List Int) → (List (Int × (Int × (Int × Unit)))) → (List Int) → (List Int) → Option R) (l_11 : (List (Int × (Int × (Int × Unit)))) → ((List Int) → Option R) → (List Int) → Int → Int → Option R) (l_19 : Int → Int → (List Int) → (List (List Int)) → (List Bool) → (List Int) → (List Int) → ((List Int) → (List (List Int)) → (List Bool) → (List Int) → (List (Int × (Int × (Int × Unit)))) → (List Int) → (List Int) → Option R) → Int → (List (Int × (Int × (Int × Unit)))) → (List Int) → Option R) (v1 : (List Int)) (v2 : (List (List Int))) (v3 : (List Bool)) (K : Bool → (List Int) → Option R) : Option R :=
    c_machine_May v1 v2 v3 (fun (v4 : Bool) =>
     bif (!v4) then
     (K false ([] : List Int))
     else (c_witness_firsts v1 v2 v3 (fun (v5 : (List Int)) =>
       l_6
       (fun (v37 : Bool) (v38 : (List Int)) =>
        K v37 v38)
       (fun (v39 : (List Int)) =>
        K false ([] : List Int)) v1 v2 v3 ([] : List Int) (mset ([] : List (Int × (Int × (Int × Unit)))) 0 ((-1), 0, ())) v5 ([0] : List Int))))

def witness_Shortest_l11 {R : Type} (kf : Nat) : Nat → (List (Int × (Int × (Int × Unit)))) → ((List Int) → Option R) → (List Int) → Int → Int → Option R
  | 0, _, _, _, _, _ => none
  | k + 1, y0, y1, y2, y3, y4 => witness_Shortest_l11_b (machine_May kf) (witness_firsts kf) (slices_Reverse_byte_byte kf) (fun _ _ _ _ _ _ _ _ _ => none) (witness_Shortest_l11 kf k) (fun _ _ _ _ _ _ _ _ _ _ _ => none) y0 y1 y2 y3 y4

def witness_Shortest_l19 {R : Type} (kf : Nat) : Nat → Int → Int → (List Int) → (List (List Int)) → (List Bool) → (List Int) → (List Int) → ((List Int) → (List (List Int)) → (List Bool) → (List Int) → (List (Int × (Int × (Int × Unit)))) → (List Int) → (List Int) → Option R) → Int → (List (Int × (Int × (Int × Unit)))) → (List Int) → Option R
  | 0, _, _, _, _, _, _, _, _, _, _, _ => none
  | k + 1, y0, y1, y2, y3, y4, y5, y6, y7, y8, y9, y10 => witness_Shortest_l19_b (machine_May kf) (witness_firsts kf) (slices_Reverse_byte_byte kf) (fun _ _ _ _ _ _ _ _ _ => none) (witness_Shortest_l11 kf k) (witness_Shortest_l19 kf k) y0 y1 y2 y3 y4 y5 y6 y7 y8 y9 y10

def witness_Shortest_l6 {R : Type} (kf : Nat) : Nat → (Bool → (List Int) → Option R) → ((List Int) → Option R) → (List Int) → (List (List Int)) → (List Bool) → (List Int) → (List (Int × (Int × (Int × Unit)))) → (List Int) → (List Int) → Option R
  | 0, _, _, _, _, _, _, _, _, _ => none
  | k + 1, y0, y1, y2, y3, y4, y5, y6, y7, y8 => witness_Shortest_l6_b (machine_May kf) (witness_firsts kf) (slices_Reverse_byte_byte kf) (witness_Shortest_l6 kf k) (witness_Shortest_l11 kf k) (witness_Shortest_l19 kf k) y0 y1 y2 y3 y4 y5 y6 y7 y8

def witness_Shortest {R : Type} (kf : Nat) (v1 : (List Int)) (v2 : (List (List Int))) (v3 : (List Bool)) (K : Bool → (List Int) → Option R) : Option R := witness_Shortest_b (machine_May kf) (witness_firsts kf) (slices_Reverse_byte_byte kf) (witness_Shortest_l6 kf kf) (witness_Shortest_l11 kf kf) (witness_Shortest_l19 kf kf) v1 v2 v3 K

def witness_Count_l5_b {R : Type} (c_machine_May : (List Int) → (List (List Int)) → (List Bool) → (Bool → Option R) → Option R) (l_5 : Int → (List Int) → (List Int) → (List (List Int)) → (List Bool) → (Int → (List Int) → (List (List Int)) → (List Bool) → (List Int) → Option R) → Int → (List Int) → Option R) (l_11 : Int → (List Bool) → Int → (List Int) → (List (List Int)) → (List Bool) → (List Int) → (Int → (List Int) → (List (List Int)) → (List Bool) → (List Int) → (List Int) → Option R) → Int → (List Int) → Option R) (l_17 : ((List Int) → Option R) → Int → Int → (List Int) → (List (List Int)) → (List Bool) → (List Int) → (List Int) → Option R) (l_20 : (Int → Int → (List Int) → (List (List Int)) → (List Bool) → (List Int) → (List Int) → Option R) → Int → Int → (List (List Int)) → Int → Int → (List Int) → (List (List Int)) → (List Bool) → (List Int) → (List Int) → (List Int) → Option R) (l_23 : Int → Int → Int → (List (List Int)) → Int → Int → (List Int) → Int → (List Int) → (List (List Int)) → (List Bool) → (List Int) → (List Int) → (Int → Int → (List (List Int)) → Int → Int → (List Int) → (List (List Int)) → (List Bool) → (List Int) → (List Int) → (List Int) → Option R) → Int → (List Int) → Option R) (v6 : Int) (v7 : (List Int)) (v9 : (List Int)) (v10 : (List (List Int))) (v11 : (List Bool)) (Ke0 : Int → (List Int) → (List (List Int)) → (List Bool) → (List Int) → Option R) (v8 : Int) (v12 : (List Int)) : Option R :=
    bif decide (v8 < 256) then
    (gd (decide (0 ≤ v8))
     (gd (decide (v8 < 256))
      (gd (decide (0 ≤ (v7.getD (Int.toNat v8) (0 : Int))))
       (gd (decide ((v7.getD (Int.toNat v8) (0 : Int)) < 256))
        (gd (decide (0 ≤ (v7.getD (Int.toNat v8) (0 : Int))))
         (gd (decide ((v7.getD (Int.toNat v8) (0 : Int)) < 256))
          (l_5 v6 v7 v9 v10 v11 Ke0 (IntKind.i64.wrap (v8 + 1)) (v12.set (Int.toNat (v7.getD (Int.toNat v8) (0 : Int))) (IntKind.u64.wrap ((v12.getD (Int.toNat (v7.getD (Int.toNat v8) (0 : Int))) (0 : Int)) + 1))))))))))
    else (Ke0 v6 v9 v10 v11 v12)

def witness_Count_l11_b {R : Type} (c_machine_May : (List Int) → (List (List Int)) → (List Bool) → (Bool → Option R) → Option R) (l_5 : Int → (List Int) → (List Int) → (List (List Int)) → (List Bool) → (Int → (List Int) → (List (List Int)) → (List Bool) → (List Int) → Option R) → Int → (List Int) → Option R) (l_11 : Int → (List Bool) → Int → (List Int) → (List (List Int)) → (List Bool) → (List Int) → (Int → (List Int) → (List (List Int)) → (List Bool) → (List Int) → (List Int) → Option R) → Int → (List Int) → Option R) (l_17 : ((List Int) → Option R) → Int → Int → (List Int) → (List (List Int)) → (List Bool) → (List Int) → (List Int) → Option R) (l_20 : (Int → Int → (List Int) → (List (List Int)) → (List Bool) → (List Int) → (List Int) → Option R) → Int → Int → (List (List Int)) → Int → Int → (List Int) → (List (List Int)) → (List Bool) → (List Int) → (List Int) → (List Int) → Option R) (l_23 : Int → Int → Int → (List (List Int)) → Int → Int → (List Int) → Int → (List Int) → (List (List Int)) → (List Bool) → (List Int) → (List Int) → (Int → Int → (List (List Int)) → Int → Int → (List Int) → (List (List Int)) → (List Bool) → (List Int) → (List Int) → (List Int) → Option R) → Int → (List Int) → Option R) (v18 : Int) (v19 : (List Bool)) (v20 : Int) (v22 : (List Int)) (v23 : (List (List Int))) (v24 : (List Bool)) (v25 : (List Int)) (Ke2 : Int → (List Int) → (List (List Int)) → (List Bool) → (List Int) → (List Int) → Option R) (v21 : Int) (v26 : (List Int)) : Option R :=
    bif decide (v21 < v20) then
    (gd (decide (0 ≤ v21))
     (gd (decide (v21 < (v19.length : Int)))
      (bif (v19.getD (Int.toNat v21) false) then
       (gd (decide (0 ≤ v21))
        (gd (decide (v21 < (v26.length : Int)))
         (l_11 v18 v19 v20 v22 v23 v24 v25 Ke2 (IntKind.i64.wrap (v21 + 1)) (v26.set (Int.toNat v21) 1))))
       else (l_11 v18 v19 v20 v22 v23 v24 v25 Ke2 (IntKind.i64.wrap (v21 + 1)) v26))))
    else (Ke2 v18 v22 v23 v24 v25 v26)

def witness_Count_l17_b {R : Type} (c_machine_May : (List Int) → (List (List Int)) → (List Bool) → (Bool → Option R) → Option R) (l_5 : Int → (List Int) → (List Int) → (List (List Int)) → (List Bool) → (Int → (List Int) → (List (List Int)) → (List Bool) → (List Int) → Option R) → Int → (List Int) → Option R) (l_11 : Int → (List Bool) → Int → (List Int) → (List (List Int)) → (List Bool) → (List Int) → (Int → (List Int) → (List (List Int)) → (List Bool) → (List Int) → (List Int) → Option R) → Int → (List Int) → Option R) (l_17 : ((List Int) → Option R) → Int → Int → (List Int) → (List (List Int)) → (List Bool) → (List Int) → (List Int) → Option R) (l_20 : (Int → Int → (List Int) → (List (List Int)) → (List Bool) → (List Int) → (List Int) → Option R) → Int → Int → (List (List Int)) → Int → Int → (List Int) → (List (List Int)) → (List Bool) → (List Int) → (List Int) → (List Int) → Option R) (l_23 : Int → Int → Int → (List (List Int)) → Int → Int → (List Int) → Int → (List Int) → (List (List Int)) → (List Bool) → (List Int) → (List Int) → (Int → Int → (List (List Int)) → Int → Int → (List Int) → (List (List Int)) → (List Bool) → (List Int) → (List Int) → (List Int) → Option R) → Int → (List Int) → Option R) (Ke4 : (List Int) → Option R) (v33 : Int) (v34 : Int) (v35 : (List Int)) (v36 : (List (List Int))) (v37 : (List Bool)) (v38 : (List Int)) (v39 : (List Int)) : Option R :=
    bif decide (v34 < v33) then
    (gd (decide (0 ≤ (v39.length : Int)))
     (gd (decide ((v39.length : Int) ≤ (v39.length : Int)))
      (gd (decide ((v39.length : Int) < (SMALL : Int)))
       (l_20
        (fun (v77 : Int) (v78 : Int) (v79 : (List Int)) (v80 : (List (List Int))) (v81 : (List Bool)) (v82 : (List Int)) (v83 : (List Int)) =>
         l_17 Ke4 v77 (IntKind.i64.wrap (v78 + 1)) v79 v80 v81 v82 v83) v33 v34 v36 (v36.length : Int) 0 v35 v36 v37 v38 v39 (List.replicate (Int.toNat (v39.length : Int)) (0 : Int))))))
    else (Ke4 v39)

def witness_Count_l20_b {R : Type} (c_machine_May : (List Int) → (List (List Int)) → (List Bool) → (Bool → Option R) → Option R) (l_5 : Int → (List Int) → (List Int) → (List (List Int)) → (List Bool) → (Int → (List Int) → (List (List Int)) → (List Bool) → (List Int) → Option R) → Int → (List Int) → Option R) (l_11 : Int → (List Bool) → Int → (List Int) → (List (List Int)) → (List Bool) → (List Int) → (Int → (List Int) → (List (List Int)) → (List Bool) → (List Int) → (List Int) → Option R) → Int → (List Int) → Option R) (l_17 : ((List Int) → Option R) → Int → Int → (List Int) → (List (List Int)) → (List Bool) → (List Int) → (List Int) → Option R) (l_20 : (Int → Int → (List Int) → (List (List Int)) → (List Bool) → (List Int) → (List Int) → Option R) → Int → Int → (List (List Int)) → Int → Int → (List Int) → (List (List Int)) → (List Bool) → (List Int) → (List Int) → (List Int) → Option R) (l_23 : Int → Int → Int → (List (List Int)) → Int → Int → (List Int) → Int → (List Int) → (List (List Int)) → (List Bool) → (List Int) → (List Int) → (Int → Int → (List (List Int)) → Int → Int → (List Int) → (List (List Int)) → (List Bool) → (List Int) → (List Int) → (List Int) → Option R) → Int → (List Int) → Option R) (Ke6 : Int → Int → (List Int) → (List (List Int)) → (List Bool) → (List Int) → (List Int) → Option R) (v40 : Int) (v41 : Int) (v42 : (List (List Int))) (v43 : Int) (v44 : Int) (v45 : (List Int)) (v46 : (List (List Int))) (v47 : (List Bool)) (v48 : (List Int)) (v49 : (List Int)) (v50 : (List Int)) : Option R :=
    bif decide (v44 < v43) then
    (gd (decide (0 ≤ v44))
     (gd (decide (v44 < (v42.length : Int)))
      (l_23 v44 v40 v41 v42 v43 v44 (v42.getD (Int.toNat v44) ([] : (List Int))) ((v42.getD (Int.toNat v44) ([] : (List Int))).length : Int) v45 v46 v47 v48 v49
       (fun (v66 : Int) (v67 : Int) (v68 : (List (List Int))) (v69 : Int) (v70 : Int) (v71 : (List Int)) (v72 : (List (List Int))) (v73 : (List Bool)) (v74 : (List Int)) (v75 : (List Int)) (v76 : (List Int)) =>
        l_20 Ke6 v66 v67 v68 v69 (IntKind.i64.wrap (v70 + 1)) v71 v72 v73 v74 v75 v76) 0 v50)))
    else (Ke6 v40 v41 v45 v46 v47 v48 v50)

def witness_Count_l23_b {R : Type} (c_machine_May : (List Int) → (List (List Int)) → (List Bool) → (Bool → Option R) → Option R) (l_5 : Int → (List Int) → (List Int) → (List (List Int)) → (List Bool) → (Int → (List Int) → (List (List Int)) → (List Bool) → (List Int) → Option R) → Int → (List Int) → Option R) (l_11 : Int → (List Bool) → Int → (List Int) → (List (List Int)) → (List Bool) → (List Int) → (Int → (List Int) → (List (List Int)) → (List Bool) → (List Int) → (List Int) → Option R) → Int → (List Int) → Option R) (l_17 : ((List Int) → Option R) → Int → Int → (List Int) → (List (List Int)) → (List Bool) → (List Int) → (List Int) → Option R) (l_20 : (Int → Int → (List Int) → (List (List Int)) → (List Bool) → (List Int) → (List Int) → Option R) → Int → Int → (List (List Int)) → Int → Int → (List Int) → (List (List Int)) → (List Bool) → (List Int) → (List Int) → (List Int) → Option R) (l_23 : Int → Int → Int → (List (List Int)) → Int → Int → (List Int) → Int → (List Int) → (List (List Int)) → (List Bool) → (List Int) → (List Int) → (Int → Int → (List (List Int)) → Int → Int → (List Int) → (List (List Int)) → (List Bool) → (List Int) → (List Int) → (List Int) → Option R) → Int → (List Int) → Option R) (v51 : Int) (v52 : Int) (v53 : Int) (v54 : (List (List Int))) (v55 : Int) (v56 : Int) (v57 : (List Int)) (v58 : Int) (v60 : (List Int)) (v61 : (List (List Int))) (v62 : (List Bool)) (v63 : (List Int)) (v64 : (List Int)) (Ke8 : Int → Int → (List (List Int)) → Int → Int → (List Int) → (List (List Int)) → (List Bool) → (List Int) → (List Int) → (List Int) → Option R) (v59 : Int) (v65 : (List Int)) : Option R :=
    bif decide (v59 < v58) then
    (gd (decide (0 ≤ v59))
     (gd (decide (v59 < (v57.length : Int)))
      (gd (decide (0 ≤ v51))
       (gd (decide (v51 < (v65.length : Int)))
        (gd (decide (0 ≤ v59))
         (gd (decide (v59 < 256))
          (gd (decide (0 ≤ (v57.getD (Int.toNat v59) (0 : Int))))
           (gd (decide ((v57.getD (Int.toNat v59) (0 : Int)) < (v64.length : Int)))
            (gd (decide (0 ≤ v51))
             (gd (decide (v51 < (v65.length : Int)))
              (l_23 v51 v52 v53 v54 v55 v56 v57 v58 v60 v61 v62 v63 v64 Ke8 (IntKind.i64.wrap (v59 + 1)) (v65.set (Int.toNat v51) (IntKind.u64.wrap ((v65.getD (Int.toNat v51) (0 : Int)) + (IntKind.u64.wrap (mulZ (v63.getD (Int.toNat v59) (0 : Int)) (v64.getD (Int.toNat (v57.getD (Int.toNat v59) (0 : Int))) (0 : Int))))))))))))))))))
    else (Ke8 v52 v53 v54 v55 v56 v60 v61 v62 v63 v64 v65)

def witness_Count_b {R : Type} (c_machine_May : (List Int) → (List (List Int)) → (List Bool) → (Bool → Option R) → Option R) (l_5 : Int → (List Int) → (List Int) → (List (List Int)) → (List Bool) → (Int → (List Int) → (List (List Int)) → (List Bool) → (List Int) → Option R) → Int → (List Int) → Option R) (l_11 : Int → (List Bool) → Int → (List Int) → (List (List Int)) → (List Bool) → (List Int) → (Int → (List Int) → (List (List Int)) → (List Bool) → (List Int) → (List Int) → Option R) → Int → (List Int) → Option R) (l_17 : ((List Int) → Option R) → Int → Int → (List Int) → (List (List Int)) → (List Bool) → (List Int) → (List Int) → Option R) (l_20 : (Int → Int → (List Int) → (List (List Int)) → (List Bool) → (List Int) → (List Int) → Option R) → Int → Int → (List (List Int)) → Int → Int → (List Int) → (List (List Int)) → (List Bool) → (List Int) → (List Int) → (List Int) → Option R) (l_23 : Int → Int → Int → (List (List Int)) → Int → Int → (List Int) → Int → (List Int) → (List (List Int)) → (List Bool) → (List Int) → (List Int) → (Int → Int → (List (List Int)) → Int → Int → (List Int) → (List (List Int)) → (List Bool) → (List Int) → (List Int) → (List Int) → Option R) → Int → (List Int) → Option R) (v1 : (List Int)) (v2 : (List (List Int))) (v3 : (List Bool)) (v4 : Int) (K : Int → Option R) : Option R :=
    let j85 : Bool → Option R := fun v5 =>
    (bif v5 then
     (K 0)
     else (l_5 v4 v1 v1 v2 v3
      (fun (v13 : Int) (v14 : (List Int)) (v15 : (List (List Int))) (v16 : (List Bool)) (v17 : (List Int)) =>
       gd (decide (0 ≤ (v15.length : Int)))
       (gd (decide ((v15.length : Int) ≤ (v15.length : Int)))
        (gd (decide ((v15.length : Int) < (SMALL : Int)))
         (l_11 v13 v16 (v16.length : Int) v14 v15 v16 v17
          (fun (v27 : Int) (v28 : (List Int)) (v29 : (List (List Int))) (v30 : (List Bool)) (v31 : (List Int)) (v32 : (List Int)) =>
           l_17
           (fun (v84 : (List Int)) =>
            gd (decide (0 < (v84.length : Int)))
            (K (v84.getD 0 (0 : Int)))) (mn v27 1000) 0 v28 v29 v30 v31 v32) 0 (List.replicate (Int.toNat (v15.length : Int)) (0 : Int)))))) 0 (List.replicate 256 (0 : Int))))
    (c_machine_May v1 v2 v3 (fun (v86 : Bool) =>
      bif (!v86) then
      (j85 true)
      else (j85 (decide (v4 < 0)))))

def witness_Count_l5 {R : Type} (kf : Nat) : Nat → Int → (List Int) → (List Int) → (List (List Int)) → (List Bool) → (Int → (List Int) → (List (List Int)) → (List Bool) → (List Int) → Option R) → Int → (List Int) → Option R
  | 0, _, _, _, _, _, _, _, _ => none
  | k + 1, y0, y1, y2, y3, y4, y5, y6, y7 => witness_Count_l5_b (machine_May kf) (witness_Count_l5 kf k) (fun _ _ _ _ _ _ _ _ _ _ => none) (fun _ _ _ _ _ _ _ _ => none) (fun _ _ _ _ _ _ _ _ _ _ _ _ => none) (fun _ _ _ _ _ _ _ _ _ _ _ _ _ _ _ _ => none) y0 y1 y2 y3 y4 y5 y6 y7

def witness_Count_l11 {R : Type} (kf : Nat) : Nat → Int → (List Bool) → Int → (List Int) → (List (List Int)) → (List Bool) → (List Int) → (Int → (List Int) → (List (List Int)) → (List Bool) → (List Int) → (List Int) → Option R) → Int → (List Int) → Option R
  | 0, _, _, _, _, _, _, _, _, _, _ => none
  | k + 1, y0, y1, y2, y3, y4, y5, y6, y7, y8, y9 => witness_Count_l11_b (machine_May kf) (witness_Count_l5 kf k) (witness_Count_l11 kf k) (fun _ _ _ _ _ _ _ _ => none) (fun _ _ _ _ _ _ _ _ _ _ _ _ => none) (fun _ _ _ _ _ _ _ _ _ _ _ _ _ _ _ _ => none) y0 y1 y2 y3 y4 y5 y6 y7 y8 y9

def witness_Count_l23 {R : Type} (kf : Nat) : Nat → Int → Int → Int → (List (List Int)) → Int → Int → (List Int) → Int → (List Int) → (List (List Int)) → (List Bool) → (List Int) → (List Int) → (Int → Int → (List (List Int)) → Int → Int → (List Int) → (List (List Int)) → (List Bool) → (List Int) → (List Int) → (List Int) → Option R) → Int → (List Int) → Option R
  | 0, _, _, _, _, _, _, _, _, _, _, _, _, _, _, _, _ => none
  | k + 1, y0, y1, y2, y3, y4, y5, y6, y7, y8, y9, y10, y11, y12, y13, y14, y15 => witness_Count_l23_b (machine_May kf) (witness_Count_l5 kf k) (witness_Count_l11 kf k) (fun _ _ _ _ _ _ _ _ => none) (fun _ _ _ _ _ _ _ _ _ _ _ _ => none) (witness_Count_l23 kf k) y0 y1 y2 y3 y4 y5 y6 y7 y8 y9 y10 y11 y12 y13 y14 y15

def witness_Count_l20 {R : Type} (kf : Nat) : Nat → (Int → Int → (List Int) → (List (List Int)) → (List Bool) → (List Int) → (List Int) → Option R) → Int → Int → (List (List Int)) → Int → Int → (List Int) → (List (List Int)) → (List Bool) → (List Int) → (List Int) → (List Int) → Option R
  | 0, _, _, _, _, _, _, _, _, _, _, _, _ => none
  | k + 1, y0, y1, y2, y3, y4, y5, y6, y7, y8, y9, y10, y11 => witness_Count_l20_b (machine_May kf) (witness_Count_l5 kf k) (witness_Count_l11 kf k) (fun _ _ _ _ _ _ _ _ => none) (witness_Count_l20 kf k) (witness_Count_l23 kf k) y0 y1 y2 y3 y4 y5 y6 y7 y8 y9 y10 y11

def witness_Count_l17 {R : Type} (kf : Nat) : Nat → ((List Int) → Option R) → Int → Int → (List Int) → (List (List Int)) → (List Bool) → (List Int) → (List Int) → Option R
  | 0, _, _, _, _, _, _, _, _ => none
  | k + 1, y0, y1, y2, y3, y4, y5, y6, y7 => witness_Count_l17_b (machine_May kf) (witness_Count_l5 kf k) (witness_Count_l11 kf k) (witness_Count_l17 kf k) (witness_Count_l20 kf k) (witness_Count_l23 kf k) y0 y1 y2 y3 y4 y5 y6 y7

def witness_Count {R : Type} (kf : Nat) (v1 : (List Int)) (v2 : (List (List Int))) (v3 : (List Bool)) (v4 : Int) (K : Int → Option R) : Option R := witness_Count_b (machine_May kf) (witness_Count_l5 kf kf) (witness_Count_l11 kf kf) (witness_Count_l17 kf kf) (witness_Count_l20 kf kf) (witness_Count_l23 kf kf) v1 v2 v3 v4 K

def witness_Words_1_b {R : Type} (v1 : Int) (v2 : (List Bool)) (K : Bool → (List Bool) → Option R) : Option R :=
    gd (decide (0 ≤ v1))
    (gd (decide (v1 < (v2.length : Int)))
     (K (v2.getD (Int.toNat v1) false) v2))

def witness_Words_1 {R : Type} (v1 : Int) (v2 : (List Bool)) (K : Bool → (List Bool) → Option R) : Option R := witness_Words_1_b v1 v2 K

def slices_IndexFunc_int_int_s1_l2_b {R : Type} (c_witness_Words_1 : Int → (List Bool) → (Bool → (List Bool) → Option R) → Option R) (l_2 : (List Int) → Int → (Int → (List Bool) → Option R) → ((List Bool) → Option R) → Int → (List Bool) → Option R) (v3 : (List Int)) (v4 : Int) (Kr : Int → (List Bool) → Option R) (Ke0 : (List Bool) → Option R) (v5 : Int) (v6 : (List Bool)) : Option R :=
    bif decide (v5 < v4) then
    (gd (decide (0 ≤ v5))
     (gd (decide (v5 < (v3.length : Int)))
      (c_witness_Words_1 (v3.getD (Int.toNat v5) (0 : Int)) v6 (fun (v7 : Bool) (v8 : (List Bool)) =>
        bif v7 then
        (Kr v5 v8)
        else (l_2 v3 v4 Kr Ke0 (IntKind.i64.wrap (v5 + 1)) v8)))))
    else (Ke0 v6)

def slices_IndexFunc_int_int_s1_b {R : Type} (c_witness_Words_1 : Int → (List Bool) → (Bool → (List Bool) → Option R) → Option R) (l_2 : (List Int) → Int → (Int → (List Bool) → Option R) → ((List Bool) → Option R) → Int → (List Bool) → Option R) (v1 : (List Int)) (v2 : (List Bool)) (K : Int → (List Bool) → Option R) : Option R :=
    l_2 v1 (v1.length : Int)
    (fun (v9 : Int) (v10 : (List Bool)) =>
     K v9 v10)
    (fun (v11 : (List Bool)) =>
     K (-1) v11) 0 v2

def slices_IndexFunc_int_int_s1_l2 {R : Type} (kf : Nat) : Nat → (List Int) → Int → (Int → (List Bool) → Option R) → ((List Bool) → Option R) → Int → (List Bool) → Option R
  | 0, _, _, _, _, _, _ => none
  | k + 1, y0, y1, y2, y3, y4, y5 => slices_IndexFunc_int_int_s1_l2_b witness_Words_1 (slices_IndexFunc_int_int_s1_l2 kf k) y0 y1 y2 y3 y4 y5

def slices_IndexFunc_int_int_s1 {R : Type} (kf : Nat) (v1 : (List Int)) (v2 : (List Bool)) (K : Int → (List Bool) → Option R) : Option R := slices_IndexFunc_int_int_s1_b witness_Words_1 (slices_IndexFunc_int_int_s1_l2 kf kf) v1 v2 K

def slices_ContainsFunc_int_int_s1_b {R : Type} (c_slices_IndexFunc_int_int_s1 : (List Int) → (List Bool) → (Int → (List Bool) → Option R) → Option R) (v1 : (List Int)) (v2 : (List Bool)) (K : Bool → (List Bool) → Option R) : Option R :=
    c_slices_IndexFunc_int_int_s1 v1 v2 (fun (v3 : Int) (v4 : (List Bool)) =>
     K (decide (0 ≤ v3)) v4)

def slices_ContainsFunc_int_int_s1 {R : Type} (kf : Nat) (v1 : (List Int)) (v2 : (List Bool)) (K : Bool → (List Bool) → Option R) : Option R := slices_ContainsFunc_int_int_s1_b (slices_IndexFunc_int_int_s1 kf) v1 v2 K

def witness_finder_finds_l4_b {R : Type} (c_witness_finder_finds : Int → Int → (List Int) → (List (List Int)) → (List Bool) → Int → (List (List Bool)) → (List Int) → (List (List Int)) → ((List Int) → (List (List Int)) → (List Bool) → Int → (List (List Bool)) → (List Int) → (List (List Int)) → Option R) → Option R) (l_4 : Int → Int → ((List Int) → (List (List Int)) → (List Bool) → Int → (List (List Bool)) → (List Int) → (List (List Int)) → Option R) → Int → (List Int) → (List (List Int)) → (List Bool) → Int → (List (List Bool)) → (List Int) → (List (List Int)) → Option R) (v10 : Int) (v11 : Int) (Ke0 : (List Int) → (List (List Int)) → (List Bool) → Int → (List (List Bool)) → (List Int) → (List (List Int)) → Option R) (v12 : Int) (v13 : (List Int)) (v14 : (List (List Int))) (v15 : (List Bool)) (v16 : Int) (v17 : (List (List Bool))) (v18 : (List Int)) (v19 : (List (List Int))) : Option R :=
    bif decide (v12 < 256) then
    (gd (decide (v18.length + ([(IntKind.u8.wrap v12)] : List Int).length < SMALL))
     (gd (decide (0 ≤ v10))
      (gd (decide (v10 < (v14.length : Int)))
       (gd (decide (0 ≤ v12))
        (gd (decide (v12 < 256))
         (gd (decide (0 ≤ (v13.getD (Int.toNat v12) (0 : Int))))
          (gd (decide ((v13.getD (Int.toNat v12) (0 : Int)) < ((v14.getD (Int.toNat v10) ([] : (List Int))).length : Int)))
           (c_witness_finder_finds ((v14.getD (Int.toNat v10) ([] : (List Int))).getD (Int.toNat (v13.getD (Int.toNat v12) (0 : Int))) (0 : Int)) (IntKind.i64.wrap (v11 - 1)) v13 v14 v15 v16 v17 (v18 ++ ([(IntKind.u8.wrap v12)] : List Int)) v19 (fun (v20 : (List Int)) (v21 : (List (List Int))) (v22 : (List Bool)) (v23 : Int) (v24 : (List (List Bool))) (v25 : (List Int)) (v26 : (List (List Int))) =>
             gd (decide (0 ≤ (IntKind.i64.wrap ((v25.length : Int) - 1))))
             (gd (decide ((IntKind.i64.wrap ((v25.length : Int) - 1)) ≤ (v25.length : Int)))
              (l_4 v10 v11 Ke0 (IntKind.i64.wrap (v12 + 1)) v20 v21 v22 v23 v24 (v25.take (Int.toNat (IntKind.i64.wrap ((v25.length : Int) - 1)))) v26)))))))))))
    else (Ke0 v13 v14 v15 v16 v17 v18 v19)

def witness_finder_finds_b {R : Type} (c_witness_finder_finds : Int → Int → (List Int) → (List (List Int)) → (List Bool) → Int → (List (List Bool)) → (List Int) → (List (List Int)) → ((List Int) → (List (List Int)) → (List Bool) → Int → (List (List Bool)) → (List Int) → (List (List Int)) → Option R) → Option R) (l_4 : Int → Int → ((List Int) → (List (List Int)) → (List Bool) → Int → (List (List Bool)) → (List Int) → (List (List Int)) → Option R) → Int → (List Int) → (List (List Int)) → (List Bool) → Int → (List (List Bool)) → (List Int) → (List (List Int)) → Option R) (v1 : Int) (v2 : Int) (v3 : (List Int)) (v4 : (List (List Int))) (v5 : (List Bool)) (v6 : Int) (v7 : (List (List Bool))) (v8 : (List Int)) (v9 : (List (List Int))) (K : (List Int) → (List (List Int)) → (List Bool) → Int → (List (List Bool)) → (List Int) → (List (List Int)) → Option R) : Option R :=
    bif decide (v6 ≤ (v9.length : Int)) then
    (K v3 v4 v5 v6 v7 v8 v9)
    else (gd (decide (0 ≤ v2))
     (gd (decide (v2 < (v7.length : Int)))
      (gd (decide (0 ≤ v1))
       (gd (decide (v1 < ((v7.getD (Int.toNat v2) ([] : (List Bool))).length : Int)))
        (bif (!((v7.getD (Int.toNat v2) ([] : (List Bool))).getD (Int.toNat v1) false)) then
         (K v3 v4 v5 v6 v7 v8 v9)
         else (bif decide (v2 = 0) then
          (gd (decide (v8.length < SMALL))
           (gd (decide (v9.length + ([v8] : List (List Int)).length < SMALL))
            (K v3 v4 v5 v6 v7 v8 (v9 ++ ([v8] : List (List Int))))))
          else (l_4 v1 v2
           (fun (v27 : (List Int)) (v28 : (List (List Int))) (v29 : (List Bool)) (v30 : Int) (v31 : (List (List Bool))) (v32 : (List Int)) (v33 : (List (List Int))) =>
            K v27 v28 v29 v30 v31 v32 v33) 0 v3 v4 v5 v6 v7 v8 v9)))))))

def witness_finder_finds_l4 {R : Type} (c_self : Int → Int → (List Int) → (List (List Int)) → (List Bool) → Int → (List (List Bool)) → (List Int) → (List (List Int)) → ((List Int) → (List (List Int)) → (List Bool) → Int → (List (List Bool)) → (List Int) → (List (List Int)) → Option R) → Option R) (kf : Nat) : Nat → Int → Int → ((List Int) → (List (List Int)) → (List Bool) → Int → (List (List Bool)) → (List Int) → (List (List Int)) → Option R) → Int → (List Int) → (List (List Int)) → (List Bool) → Int → (List (List Bool)) → (List Int) → (List (List Int)) → Option R
  | 0, _, _, _, _, _, _, _, _, _, _, _ => none
  | k + 1, y0, y1, y2, y3, y4, y5, y6, y7, y8, y9, y10 => witness_finder_finds_l4_b c_self (witness_finder_finds_l4 c_self kf k) y0 y1 y2 y3 y4 y5 y6 y7 y8 y9 y10

def witness_finder_finds {R : Type} : Nat → Int → Int → (List Int) → (List (List Int)) → (List Bool) → Int → (List (List Bool)) → (List Int) → (List (List Int)) → ((List Int) → (List (List Int)) → (List Bool) → Int → (List (List Bool)) → (List Int) → (List (List Int)) → Option R) → Option R
  | 0, _, _, _, _, _, _, _, _, _, _ => none
  | kf + 1, y0, y1, y2, y3, y4, y5, y6, y7, y8, y9 => witness_finder_finds_b (witness_finder_finds kf) (witness_finder_finds_l4 (witness_finder_finds kf) kf kf) y0 y1 y2 y3 y4 y5 y6 y7 y8 y9

def witness_Words_l5_b {R : Type} (c_machine_May : (List Int) → (List (List Int)) → (List Bool) → (Bool → Option R) → Option R) (c_slices_ContainsFunc_int_int_s1 : (List Int) → (List Bool) → (Bool → (List Bool) → Option R) → Option R) (c_witness_finder_finds : Int → Int → (List Int) → (List (List Int)) → (List Bool) → Int → (List (List Bool)) → (List Int) → (List (List Int)) → ((List Int) → (List (List Int)) → (List Bool) → Int → (List (List Bool)) → (List Int) → (List (List Int)) → Option R) → Option R) (l_5 : (Int → (List Int) → (List (List Int)) → (List Bool) → Int → (List (List Bool)) → (List Int) → (List (List Int)) → Option R) → Int → Int → Int → (List Int) → (List (List Int)) → (List Bool) → (List Int) → (List (List Int)) → (List Bool) → Int → (List (List Bool)) → (List Int) → (List (List Int)) → Option R) (l_9 : Int → Int → Int → (List (List Int)) → Int → (List Int) → (List (List Int)) → (List Bool) → (List Int) → (List (List Int)) → (List Bool) → Int → (List (List Bool)) → (List Int) → (List (List Int)) → (Int → Int → Int → (List Int) → (List (List Int)) → (List Bool) → (List Int) → (List (List Int)) → (List Bool) → Int → (List Bool) → (List (List Bool)) → (List Int) → (List (List Int)) → Option R) → Int → (List Bool) → (List Bool) → Option R) (Ke0 : Int → (List Int) → (List (List Int)) → (List Bool) → Int → (List (List Bool)) → (List Int) → (List (List Int)) → Option R) (v7 : Int) (v8 : Int) (v9 : Int) (v10 : (List Int)) (v11 : (List (List Int))) (v12 : (List Bool)) (v13 : (List Int)) (v14 : (List (List Int))) (v15 : (List Bool)) (v16 : Int) (v17 : (List (List Bool))) (v18 : (List Int)) (v19 : (List (List Int))) : Option R :=
    bif decide (v9 < v8) then
    (gd (decide (0 ≤ (IntKind.i64.wrap ((v17.length : Int) - 1))))
     (gd (decide ((IntKind.i64.wrap ((v17.length : Int) - 1)) < (v17.length : Int)))
      (let v20 : Int := ((v17.getD (Int.toNat (IntKind.i64.wrap ((v17.length : Int) - 1))) ([] : (List Bool))).length : Int)
       gd (decide (0 ≤ v20))
       (gd (decide (v20 ≤ v20))
        (gd (decide (v20 < (SMALL : Int)))
         (l_9 v7 v8 v9 v11 (v11.length : Int) v10 v11 v12 v13 v14 v15 v16 v17 v18 v19
          (fun (v41 : Int) (v42 : Int) (v43 : Int) (v44 : (List Int)) (v45 : (List (List Int))) (v46 : (List Bool)) (v47 : (List Int)) (v48 : (List (List Int))) (v49 : (List Bool)) (v50 : Int) (v51 : (List Bool)) (v52 : (List (List Bool))) (v53 : (List Int)) (v54 : (List (List Int))) =>
           gd (decide (v52.length + ([v51] : List (List Bool)).length < SMALL))
           (l_5 Ke0 v41 v42 (IntKind.i64.wrap (v43 + 1)) v44 v45 v46 v47 v48 v49 v50 (v52 ++ ([v51] : List (List Bool))) v53 v54)) 0 (v17.getD (Int.toNat (IntKind.i64.wrap ((v17.length : Int) - 1))) ([] : (List Bool))) (List.replicate (Int.toNat v20) false)))))))
    else (Ke0 v7 v13 v14 v15 v16 v17 v18 v19)

def witness_Words_l9_b {R : Type} (c_machine_May : (List Int) → (List (List Int)) → (List Bool) → (Bool → Option R) → Option R) (c_slices_ContainsFunc_int_int_s1 : (List Int) → (List Bool) → (Bool → (List Bool) → Option R) → Option R) (c_witness_finder_finds : Int → Int → (List Int) → (List (List Int)) → (List Bool) → Int → (List (List Bool)) → (List Int) → (List (List Int)) → ((List Int) → (List (List Int)) → (List Bool) → Int → (List (List Bool)) → (List Int) → (List (List Int)) → Option R) → Option R) (l_5 : (Int → (List Int) → (List (List Int)) → (List Bool) → Int → (List (List Bool)) → (List Int) → (List (List Int)) → Option R) → Int → Int → Int → (List Int) → (List (List Int)) → (List Bool) → (List Int) → (List (List Int)) → (List Bool) → Int → (List (List Bool)) → (List Int) → (List (List Int)) → Option R) (l_9 : Int → Int → Int → (List (List Int)) → Int → (List Int) → (List (List Int)) → (List Bool) → (List Int) → (List (List Int)) → (List Bool) → Int → (List (List Bool)) → (List Int) → (List (List Int)) → (Int → Int → Int → (List Int) → (List (List Int)) → (List Bool) → (List Int) → (List (List Int)) → (List Bool) → Int → (List Bool) → (List (List Bool)) → (List Int) → (List (List Int)) → Option R) → Int → (List Bool) → (List Bool) → Option R) (v21 : Int) (v22 : Int) (v23 : Int) (v24 : (List (List Int))) (v25 : Int) (v27 : (List Int)) (v28 : (List (List Int))) (v29 : (List Bool)) (v30 : (List Int)) (v31 : (List (List Int))) (v32 : (List Bool)) (v33 : Int) (v36 : (List (List Bool))) (v37 : (List Int)) (v38 : (List (List Int))) (Ke2 : Int → Int → Int → (List Int) → (List (List Int)) → (List Bool) → (List Int) → (List (List Int)) → (List Bool) → Int → (List Bool) → (List (List Bool)) → (List Int) → (List (List Int)) → Option R) (v26 : Int) (v34 : (List Bool)) (v35 : (List Bool)) : Option R :=
    bif decide (v26 < v25) then
    (gd (decide (0 ≤ v26))
     (gd (decide (v26 < (v24.length : Int)))
      (c_slices_ContainsFunc_int_int_s1 (v24.getD (Int.toNat v26) ([] : (List Int))) v34 (fun (v39 : Bool) (v40 : (List Bool)) =>
        gd (decide (0 ≤ v26))
        (gd (decide (v26 < (v35.length : Int)))
         (l_9 v21 v22 v23 v24 v25 v27 v28 v29 v30 v31 v32 v33 v36 v37 v38 Ke2 (IntKind.i64.wrap (v26 + 1)) v40 (v35.set (Int.toNat v26) v39)))))))
    else (Ke2 v21 v22 v23 v27 v28 v29 v30 v31 v32 v33 v35 v36 v37 v38)

def witness_Words_b {R : Type} (c_machine_May : (List Int) → (List (List Int)) → (List Bool) → (Bool → Option R) → Option R) (c_slices_ContainsFunc_int_int_s1 : (List Int) → (List Bool) → (Bool → (List Bool) → Option R) → Option R) (c_witness_finder_finds : Int → Int → (List Int) → (List (List Int)) → (List Bool) → Int → (List (List Bool)) → (List Int) → (List (List Int)) → ((List Int) → (List (List Int)) → (List Bool) → Int → (List (List Bool)) → (List Int) → (List (List Int)) → Option R) → Option R) (l_5 : (Int → (List Int) → (List (List Int)) → (List Bool) → Int → (List (List Bool)) → (List Int) → (List (List Int)) → Option R) → Int → Int → Int → (List Int) → (List (List Int)) → (List Bool) → (List Int) → (List (List Int)) → (List Bool) → Int → (List (List Bool)) → (List Int) → (List (List Int)) → Option R) (l_9 : Int → Int → Int → (List (List Int)) → Int → (List Int) → (List (List Int)) → (List Bool) → (List Int) → (List (List Int)) → (List Bool) → Int → (List (List Bool)) → (List Int) → (List (List Int)) → (Int → Int → Int → (List Int) → (List (List Int)) → (List Bool) → (List Int) → (List (List Int)) → (List Bool) → Int → (List Bool) → (List (List Bool)) → (List Int) → (List (List Int)) → Option R) → Int → (List Bool) → (List Bool) → Option R) (v1 : (List Int)) (v2 : (List (List Int))) (v3 : (List Bool)) (v4 : Int) (v5 : Int) (K : (List (List Int)) → Option R) : Option R :=
    let j70 : Bool → Option R := fun v6 =>
    (bif v6 then
     (K ([] : List (List Int)))
     else (l_5
      (fun (v55 : Int) (v56 : (List Int)) (v57 : (List (List Int))) (v58 : (List Bool)) (v59 : Int) (v60 : (List (List Bool))) (v61 : (List Int)) (v62 : (List (List Int))) =>
       c_witness_finder_finds 0 v55 v56 v57 v58 v59 v60 v61 v62 (fun (v63 : (List Int)) (v64 : (List (List Int))) (v65 : (List Bool)) (v66 : Int) (v67 : (List (List Bool))) (v68 : (List Int)) (v69 : (List (List Int))) =>
        K v69)) v4 v4 0 v1 v2 v3 v1 v2 v3 (mn v5 1000) ([v3] : List (List Bool)) ([] : List Int) ([] : List (List Int))))
    (c_machine_May v1 v2 v3 (fun (v71 : Bool) =>
      bif (!v71) then
      (j70 true)
      else (bif decide (v4 < 0) then
       (j70 true)
       else (bif decide (200 < v4) then
        (j70 true)
        else (j70 (decide (v5 < 1)))))))

def witness_Words_l9 {R : Type} (kf : Nat) : Nat → Int → Int → Int → (List (List Int)) → Int → (List Int) → (List (List Int)) → (List Bool) → (List Int) → (List (List Int)) → (List Bool) → Int → (List (List Bool)) → (List Int) → (List (List Int)) → (Int → Int → Int → (List Int) → (List (List Int)) → (List Bool) → (List Int) → (List (List Int)) → (List Bool) → Int → (List Bool) → (List (List Bool)) → (List Int) → (List (List Int)) → Option R) → Int → (List Bool) → (List Bool) → Option R
  | 0, _, _, _, _, _, _, _, _, _, _, _, _, _, _, _, _, _, _, _ => none
  | k + 1, y0, y1, y2, y3, y4, y5, y6, y7, y8, y9, y10, y11, y12, y13, y14, y15, y16, y17, y18 => witness_Words_l9_b (machine_May kf) (slices_ContainsFunc_int_int_s1 kf) (witness_finder_finds kf) (fun _ _ _ _ _ _ _ _ _ _ _ _ _ _ => none) (witness_Words_l9 kf k) y0 y1 y2 y3 y4 y5 y6 y7 y8 y9 y10 y11 y12 y13 y14 y15 y16 y17 y18

def witness_Words_l5 {R : Type} (kf : Nat) : Nat → (Int → (List Int) → (List (List Int)) → (List Bool) → Int → (List (List Bool)) → (List Int) → (List (List Int)) → Option R) → Int → Int → Int → (List Int) → (List (List Int)) → (List Bool) → (List Int) → (List (List Int)) → (List Bool) → Int → (List (List Bool)) → (List Int) → (List (List Int)) → Option R
  | 0, _, _, _, _, _, _, _, _, _, _, _, _, _, _ => none
  | k + 1, y0, y1, y2, y3, y4, y5, y6, y7, y8, y9, y10, y11, y12, y13 => witness_Words_l5_b (machine_May kf) (slices_ContainsFunc_int_int_s1 kf) (witness_finder_finds kf) (witness_Words_l5 kf k) (witness_Words_l9 kf k) y0 y1 y2 y3 y4 y5 y6 y7 y8 y9 y10 y11 y12 y13

def witness_Words {R : Type} (kf : Nat) (v1 : (List Int)) (v2 : (List (List Int))) (v3 : (List Bool)) (v4 : Int) (v5 : Int) (K : (List (List Int)) → Option R) : Option R := witness_Words_b (machine_May kf) (slices_ContainsFunc_int_int_s1 kf) (witness_finder_finds kf) (witness_Words_l5 kf kf) (witness_Words_l9 kf kf) v1 v2 v3 v4 v5 K

def law14_begun_b {R : Type} (c_witness_Shortest : (List Int) → (List (List Int)) → (List Bool) → (Bool → (List Int) → Option R) → Option R) (c_witness_Count : (List Int) → (List (List Int)) → (List Bool) → Int → (Int → Option R) → Option R) (c_witness_Words : (List Int) → (List (List Int)) → (List Bool) → Int → Int → ((List (List Int)) → Option R) → Option R) (K : Bool → Option R) : Option R :=
    c_witness_Shortest (List.replicate 256 (0 : Int)) ([([0] : List Int)] : List (List Int)) ([true] : List Bool) (fun (v1 : Bool) (v2 : (List Int)) =>
     bif v1 then
     (bif decide ((v2.length : Int) = 0) then
      (c_witness_Count (List.replicate 256 (0 : Int)) ([([0] : List Int)] : List (List Int)) ([true] : List Bool) 2 (fun (v3 : Int) =>
        bif decide (v3 = 65536) then
        (c_witness_Words (List.replicate 256 (0 : Int)) ([([0] : List Int)] : List (List Int)) ([true] : List Bool) 1 3 (fun (v4 : (List (List Int))) =>
          K (decide ((v4.length : Int) = 3))))
        else (K false)))
      else (K false))
     else (K false))

def law14_begun {R : Type} (kf : Nat) (K : Bool → Option R) : Option R := law14_begun_b (witness_Shortest kf) (witness_Count kf) (witness_Words kf) K

def play_Made_b {R : Type} (v1 : (List Int)) (K : (List Int) → Int → Option R) : Option R :=
    K v1 0

def play_Made {R : Type} (v1 : (List Int)) (K : (List Int) → Int → Option R) : Option R := play_Made_b v1 K

def play_Picks_num_b {R : Type} (v1 : Int) (v2 : (List Int)) (v3 : Int) (K : Int → (List Int) → Int → Option R) : Option R :=
    bif decide ((v2.length : Int) ≤ v3) then
    (K 0 v2 v3)
    else (gd (decide (0 ≤ (IntKind.i64.wrap ((IntKind.i64.wrap (v3 + 1)) - 1))))
     (gd (decide ((IntKind.i64.wrap ((IntKind.i64.wrap (v3 + 1)) - 1)) < (v2.length : Int)))
      (gd (decide (v1 ≠ 0))
       (let v4 : Int := (Int.tmod (IntKind.i64.wrap (v2.getD (Int.toNat (IntKind.i64.wrap ((IntKind.i64.wrap (v3 + 1)) - 1))) (0 : Int))) v1)
        K v4 v2 (IntKind.i64.wrap (v3 + 1))))))

def play_Picks_num {R : Type} (v1 : Int) (v2 : (List Int)) (v3 : Int) (K : Int → (List Int) → Int → Option R) : Option R := play_Picks_num_b v1 v2 v3 K

def play_Dfa_l5_b {R : Type} (c_play_Made : (List Int) → ((List Int) → Int → Option R) → Option R) (c_play_Picks_num : Int → (List Int) → Int → (Int → (List Int) → Int → Option R) → Option R) (l_5 : Int → Int → (List Int) → (List Int) → Int → (List (List Int)) → (List Bool) → (List (List Int)) → (List Bool) → (Int → Int → (List Int) → (List Int) → Int → (List Int) → (List (List Int)) → (List Bool) → (List (List Int)) → (List Bool) → Option R) → Int → (List Int) → Option R) (l_12 : ((List Int) → (List Int) → (List (List Int)) → (List Bool) → (List (List Int)) → (List Bool) → Option R) → Int → Int → Int → (List Int) → (List Int) → Int → (List Int) → (List (List Int)) → (List Bool) → (List (List Int)) → (List Bool) → Option R) (l_16 : Int → Int → Int → (List Int) → (List Int) → (List (List Int)) → (List Bool) → (List (List Int)) → (List Bool) → (Int → Int → Int → (List Int) → (List Int) → Int → (List Int) → (List Int) → (List (List Int)) → (List Bool) → (List (List Int)) → (List Bool) → Option R) → Int → (List Int) → Int → (List Int) → Option R) (v6 : Int) (v7 : Int) (v9 : (List Int)) (v10 : (List Int)) (v11 : Int) (v13 : (List (List Int))) (v14 : (List Bool)) (v15 : (List (List Int))) (v16 : (List Bool)) (Ke0 : Int → Int → (List Int) → (List Int) → Int → (List Int) → (List (List Int)) → (List Bool) → (List (List Int)) → (List Bool) → Option R) (v8 : Int) (v12 : (List Int)) : Option R :=
    bif decide (v8 < 256) then
    (gd (decide (v7 ≠ 0))
     (let j18 : Int → Option R := fun v17 =>
      (gd (decide (0 ≤ v8))
       (gd (decide (v8 < 256))
        (l_5 v6 v7 v9 v10 v11 v13 v14 v15 v16 Ke0 (IntKind.i64.wrap (v8 + 1)) (v12.set (Int.toNat v8) (IntKind.u8.wrap v17)))))
      (let j20 : Bool → Option R := fun v19 =>
       (bif v19 then
        (j18 (IntKind.i64.wrap (v8 - 97)))
        else (j18 (Int.tmod (Int.tmod v8 7) v7)))
       (bif decide (97 ≤ v8) then
        (j20 (decide (v8 < (IntKind.i64.wrap (97 + v7)))))
        else (j20 false)))))
    else (Ke0 v6 v7 v9 v10 v11 v12 v13 v14 v15 v16)

def play_Dfa_l12_b {R : Type} (c_play_Made : (List Int) → ((List Int) → Int → Option R) → Option R) (c_play_Picks_num : Int → (List Int) → Int → (Int → (List Int) → Int → Option R) → Option R) (l_5 : Int → Int → (List Int) → (List Int) → Int → (List (List Int)) → (List Bool) → (List (List Int)) → (List Bool) → (Int → Int → (List Int) → (List Int) → Int → (List Int) → (List (List Int)) → (List Bool) → (List (List Int)) → (List Bool) → Option R) → Int → (List Int) → Option R) (l_12 : ((List Int) → (List Int) → (List (List Int)) → (List Bool) → (List (List Int)) → (List Bool) → Option R) → Int → Int → Int → (List Int) → (List Int) → Int → (List Int) → (List (List Int)) → (List Bool) → (List (List Int)) → (List Bool) → Option R) (l_16 : Int → Int → Int → (List Int) → (List Int) → (List (List Int)) → (List Bool) → (List (List Int)) → (List Bool) → (Int → Int → Int → (List Int) → (List Int) → Int → (List Int) → (List Int) → (List (List Int)) → (List Bool) → (List (List Int)) → (List Bool) → Option R) → Int → (List Int) → Int → (List Int) → Option R) (Ke2 : (List Int) → (List Int) → (List (List Int)) → (List Bool) → (List (List Int)) → (List Bool) → Option R) (v31 : Int) (v32 : Int) (v33 : Int) (v34 : (List Int)) (v35 : (List Int)) (v36 : Int) (v37 : (List Int)) (v38 : (List (List Int))) (v39 : (List Bool)) (v40 : (List (List Int))) (v41 : (List Bool)) : Option R :=
    bif decide (v33 < v31) then
    (l_16 v31 v32 v33 v34 v37 v38 v39 v40 v41
     (fun (v58 : Int) (v59 : Int) (v60 : Int) (v61 : (List Int)) (v62 : (List Int)) (v63 : Int) (v64 : (List Int)) (v65 : (List Int)) (v66 : (List (List Int))) (v67 : (List Bool)) (v68 : (List (List Int))) (v69 : (List Bool)) =>
      gd (decide (v68.length + ([v65] : List (List Int)).length < SMALL))
      (c_play_Picks_num 2 v62 v63 (fun (v70 : Int) (v71 : (List Int)) (v72 : Int) =>
        gd (decide (v69.length + ([decide (v70 = 1)] : List Bool).length < SMALL))
        (l_12 Ke2 v58 v59 (IntKind.i64.wrap (v60 + 1)) v61 v71 v72 v64 v66 v67 (v68 ++ ([v65] : List (List Int))) (v69 ++ ([decide (v70 = 1)] : List Bool)))))) 0 v35 v36 ([] : List Int))
    else (Ke2 v34 v37 v38 v39 v40 v41)

def play_Dfa_l16_b {R : Type} (c_play_Made : (List Int) → ((List Int) → Int → Option R) → Option R) (c_play_Picks_num : Int → (List Int) → Int → (Int → (List Int) → Int → Option R) → Option R) (l_5 : Int → Int → (List Int) → (List Int) → Int → (List (List Int)) → (List Bool) → (List (List Int)) → (List Bool) → (Int → Int → (List Int) → (List Int) → Int → (List Int) → (List (List Int)) → (List Bool) → (List (List Int)) → (List Bool) → Option R) → Int → (List Int) → Option R) (l_12 : ((List Int) → (List Int) → (List (List Int)) → (List Bool) → (List (List Int)) → (List Bool) → Option R) → Int → Int → Int → (List Int) → (List Int) → Int → (List Int) → (List (List Int)) → (List Bool) → (List (List Int)) → (List Bool) → Option R) (l_16 : Int → Int → Int → (List Int) → (List Int) → (List (List Int)) → (List Bool) → (List (List Int)) → (List Bool) → (Int → Int → Int → (List Int) → (List Int) → Int → (List Int) → (List Int) → (List (List Int)) → (List Bool) → (List (List Int)) → (List Bool) → Option R) → Int → (List Int) → Int → (List Int) → Option R) (v42 : Int) (v43 : Int) (v44 : Int) (v46 : (List Int)) (v49 : (List Int)) (v51 : (List (List Int))) (v52 : (List Bool)) (v53 : (List (List Int))) (v54 : (List Bool)) (Ke4 : Int → Int → Int → (List Int) → (List Int) → Int → (List Int) → (List Int) → (List (List Int)) → (List Bool) → (List (List Int)) → (List Bool) → Option R) (v45 : Int) (v47 : (List Int)) (v48 : Int) (v50 : (List Int)) : Option R :=
    bif decide (v45 < v43) then
    (c_play_Picks_num v42 v47 v48 (fun (v55 : Int) (v56 : (List Int)) (v57 : Int) =>
      gd (decide (v50.length + ([v55] : List Int).length < SMALL))
      (l_16 v42 v43 v44 v46 v49 v51 v52 v53 v54 Ke4 (IntKind.i64.wrap (v45 + 1)) v56 v57 (v50 ++ ([v55] : List Int)))))
    else (Ke4 v42 v43 v44 v46 v47 v48 v49 v50 v51 v52 v53 v54)

def play_Dfa_b {R : Type} (c_play_Made : (List Int) → ((List Int) → Int → Option R) → Option R) (c_play_Picks_num : Int → (List Int) → Int → (Int → (List Int) → Int → Option R) → Option R) (l_5 : Int → Int → (List Int) → (List Int) → Int → (List (List Int)) → (List Bool) → (List (List Int)) → (List Bool) → (Int → Int → (List Int) → (List Int) → Int → (List Int) → (List (List Int)) → (List Bool) → (List (List Int)) → (List Bool) → Option R) → Int → (List Int) → Option R) (l_12 : ((List Int) → (List Int) → (List (List Int)) → (List Bool) → (List (List Int)) → (List Bool) → Option R) → Int → Int → Int → (List Int) → (List Int) → Int → (List Int) → (List (List Int)) → (List Bool) → (List (List Int)) → (List Bool) → Option R) (l_16 : Int → Int → Int → (List Int) → (List Int) → (List (List Int)) → (List Bool) → (List (List Int)) → (List Bool) → (Int → Int → Int → (List Int) → (List Int) → Int → (List Int) → (List Int) → (List (List Int)) → (List Bool) → (List (List Int)) → (List Bool) → Option R) → Int → (List Int) → Int → (List Int) → Option R) (v1 : Int) (v2 : Int) (v3 : (List Int)) (K : (List Int) → (List (List Int)) → (List Bool) → Option R) : Option R :=
    c_play_Made v3 (fun (v4 : (List Int)) (v5 : Int) =>
     l_5 (IntKind.i64.wrap (1 + (IntKind.i64.wrap (Int.tmod v1 8)))) (IntKind.i64.wrap (1 + (IntKind.i64.wrap (Int.tmod v2 4)))) (List.replicate 256 (0 : Int)) v4 v5 ([] : List (List Int)) ([] : List Bool) ([] : List (List Int)) ([] : List Bool)
     (fun (v21 : Int) (v22 : Int) (v23 : (List Int)) (v24 : (List Int)) (v25 : Int) (v26 : (List Int)) (v27 : (List (List Int))) (v28 : (List Bool)) (v29 : (List (List Int))) (v30 : (List Bool)) =>
      l_12
      (fun (v73 : (List Int)) (v74 : (List Int)) (v75 : (List (List Int))) (v76 : (List Bool)) (v77 : (List (List Int))) (v78 : (List Bool)) =>
       K v74 v77 v78) v21 v22 0 v23 v24 v25 v26 v27 v28 v29 v30) 0 (List.replicate 256 (0 : Int)))

def play_Dfa_l5 {R : Type} (kf : Nat) : Nat → Int → Int → (List Int) → (List Int) → Int → (List (List Int)) → (List Bool) → (List (List Int)) → (List Bool) → (Int → Int → (List Int) → (List Int) → Int → (List Int) → (List (List Int)) → (List Bool) → (List (List Int)) → (List Bool) → Option R) → Int → (List Int) → Option R
  | 0, _, _, _, _, _, _, _, _, _, _, _, _ => none
  | k + 1, y0, y1, y2, y3, y4, y5, y6, y7, y8, y9, y10, y11 => play_Dfa_l5_b play_Made play_Picks_num (play_Dfa_l5 kf k) (fun _ _ _ _ _ _ _ _ _ _ _ _ => none) (fun _ _ _ _ _ _ _ _ _ _ _ _ _ _ => none) y0 y1 y2 y3 y4 y5 y6 y7 y8 y9 y10 y11

def play_Dfa_l16 {R : Type} (kf : Nat) : Nat → Int → Int → Int → (List Int) → (List Int) → (List (List Int)) → (List Bool) → (List (List Int)) → (List Bool) → (Int → Int → Int → (List Int) → (List Int) → Int → (List Int) → (List Int) → (List (List Int)) → (List Bool) → (List (List Int)) → (List Bool) → Option R) → Int → (List Int) → Int → (List Int) → Option R
  | 0, _, _, _, _, _, _, _, _, _, _, _, _, _, _ => none
  | k + 1, y0, y1, y2, y3, y4, y5, y6, y7, y8, y9, y10, y11, y12, y13 => play_Dfa_l16_b play_Made play_Picks_num (play_Dfa_l5 kf k) (fun _ _ _ _ _ _ _ _ _ _ _ _ => none) (play_Dfa_l16 kf k) y0 y1 y2 y3 y4 y5 y6 y7 y8 y9 y10 y11 y12 y13

def play_Dfa_l12 {R : Type} (kf : Nat) : Nat → ((List Int) → (List Int) → (List (List Int)) → (List Bool) → (List (List Int)) → (List Bool) → Option R) → Int → Int → Int → (List Int) → (List Int) → Int → (List Int) → (List (List Int)) → (List Bool) → (List (List Int)) → (List Bool) → Option R
  | 0, _, _, _, _, _, _, _, _, _, _, _, _ => none
  | k + 1, y0, y1, y2, y3, y4, y5, y6, y7, y8, y9, y10, y11 => play_Dfa_l12_b play_Made play_Picks_num (play_Dfa_l5 kf k) (play_Dfa_l12 kf k) (play_Dfa_l16 kf k) y0 y1 y2 y3 y4 y5 y6 y7 y8 y9 y10 y11

def play_Dfa {R : Type} (kf : Nat) (v1 : Int) (v2 : Int) (v3 : (List Int)) (K : (List Int) → (List (List Int)) → (List Bool) → Option R) : Option R := play_Dfa_b play_Made play_Picks_num (play_Dfa_l5 kf kf) (play_Dfa_l12 kf kf) (play_Dfa_l16 kf kf) v1 v2 v3 K

def ref11_Classes_l3_b {R : Type} (l_3 : (List Int) → (Int → Option R) → Int → Int → Option R) (v6 : (List Int)) (Ke0 : Int → Option R) (v4 : Int) (v5 : Int) : Option R :=
    bif decide (v5 < 256) then
    (gd (decide (0 ≤ v5))
     (gd (decide (v5 < 256))
      (let v9 : Int := (mx v4 (IntKind.i64.wrap ((IntKind.i64.wrap (v6.getD (Int.toNat v5) (0 : Int))) + 1)))
       l_3 v6 Ke0 v9 (IntKind.i64.wrap (v5 + 1)))))
    else (Ke0 v4)

def ref11_Classes_b {R : Type} (l_3 : (List Int) → (Int → Option R) → Int → Int → Option R) (v1 : (List Int)) (v2 : (List (List Int))) (v3 : (List Bool)) (K : Int → Option R) : Option R :=
    l_3 v1
    (fun (v10 : Int) =>
     K v10) 0 0

def ref11_Classes_l3 {R : Type} (kf : Nat) : Nat → (List Int) → (Int → Option R) → Int → Int → Option R
  | 0, _, _, _, _ => none
  | k + 1, y0, y1, y2, y3 => ref11_Classes_l3_b (ref11_Classes_l3 kf k) y0 y1 y2 y3

def ref11_Classes {R : Type} (kf : Nat) (v1 : (List Int)) (v2 : (List (List Int))) (v3 : (List Bool)) (K : Int → Option R) : Option R := ref11_Classes_b (ref11_Classes_l3 kf kf) v1 v2 v3 K

def ref11_May_l5_b {R : Type} (c_ref11_Classes : (List Int) → (List (List Int)) → (List Bool) → (Int → Option R) → Option R) (l_5 : (Bool → Option R) → (Option R) → Int → Int → Int → (List Int) → (List (List Int)) → (List Bool) → Option R) (l_10 : Int → Int → Int → (List Int) → (List (List Int)) → (List Bool) → (Bool → Int → Int → Int → (List Int) → (List (List Int)) → (List Bool) → Option R) → (Int → Int → Int → (List Int) → (List (List Int)) → (List Bool) → Option R) → Int → Option R) (Kr : Bool → Option R) (Ke0 : Option R) (v6 : Int) (v7 : Int) (v8 : Int) (v9 : (List Int)) (v10 : (List (List Int))) (v11 : (List Bool)) : Option R :=
    bif decide (v8 < v6) then
    (gd (decide (0 ≤ v8))
     (gd (decide (v8 < (v10.length : Int)))
      (bif (!(decide (((v10.getD (Int.toNat v8) ([] : (List Int))).length : Int) = v7))) then
       (Kr false)
       else (l_10 v6 v7 v8 v9 v10 v11
        (fun (v21 : Bool) (v22 : Int) (v23 : Int) (v24 : Int) (v25 : (List Int)) (v26 : (List (List Int))) (v27 : (List Bool)) =>
         Kr v21)
        (fun (v28 : Int) (v29 : Int) (v30 : Int) (v31 : (List Int)) (v32 : (List (List Int))) (v33 : (List Bool)) =>
         l_5 Kr Ke0 v28 v29 (IntKind.i64.wrap (v30 + 1)) v31 v32 v33) 0))))
    else (Ke0)

def ref11_May_l10_b {R : Type} (c_ref11_Classes : (List Int) → (List (List Int)) → (List Bool) → (Int → Option R) → Option R) (l_5 : (Bool → Option R) → (Option R) → Int → Int → Int → (List Int) → (List (List Int)) → (List Bool) → Option R) (l_10 : Int → Int → Int → (List Int) → (List (List Int)) → (List Bool) → (Bool → Int → Int → Int → (List Int) → (List (List Int)) → (List Bool) → Option R) → (Int → Int → Int → (List Int) → (List (List Int)) → (List Bool) → Option R) → Int → Option R) (v12 : Int) (v13 : Int) (v14 : Int) (v16 : (List Int)) (v17 : (List (List Int))) (v18 : (List Bool)) (Kr : Bool → Int → Int → Int → (List Int) → (List (List Int)) → (List Bool) → Option R) (Ke2 : Int → Int → Int → (List Int) → (List (List Int)) → (List Bool) → Option R) (v15 : Int) : Option R :=
    bif decide (v15 < v13) then
    (let j20 : Bool → Option R := fun v19 =>
     (bif v19 then
      (Kr false v12 v13 v14 v16 v17 v18)
      else (l_10 v12 v13 v14 v16 v17 v18 Kr Ke2 (IntKind.i64.wrap (v15 + 1))))
     (gd (decide (0 ≤ v14))
      (gd (decide (v14 < (v17.length : Int)))
       (gd (decide (0 ≤ v15))
        (gd (decide (v15 < ((v17.getD (Int.toNat v14) ([] : (List Int))).length : Int)))
         (bif decide (((v17.getD (Int.toNat v14) ([] : (List Int))).getD (Int.toNat v15) (0 : Int)) < 0) then
          (j20 true)
          else (gd (decide (0 ≤ v14))
           (gd (decide (v14 < (v17.length : Int)))
            (gd (decide (0 ≤ v15))
             (gd (decide (v15 < ((v17.getD (Int.toNat v14) ([] : (List Int))).length : Int)))
              (j20 (decide (v12 ≤ ((v17.getD (Int.toNat v14) ([] : (List Int))).getD (Int.toNat v15) (0 : Int)))))))))))))))
    else (Ke2 v12 v13 v14 v16 v17 v18)

def ref11_May_b {R : Type} (c_ref11_Classes : (List Int) → (List (List Int)) → (List Bool) → (Int → Option R) → Option R) (l_5 : (Bool → Option R) → (Option R) → Int → Int → Int → (List Int) → (List (List Int)) → (List Bool) → Option R) (l_10 : Int → Int → Int → (List Int) → (List (List Int)) → (List Bool) → (Bool → Int → Int → Int → (List Int) → (List (List Int)) → (List Bool) → Option R) → (Int → Int → Int → (List Int) → (List (List Int)) → (List Bool) → Option R) → Int → Option R) (v1 : (List Int)) (v2 : (List (List Int))) (v3 : (List Bool)) (K : Bool → Option R) : Option R :=
    c_ref11_Classes v1 v2 v3 (fun (v4 : Int) =>
     let j35 : Bool → Option R := fun v5 =>
     (bif v5 then
      (K false)
      else (l_5
       (fun (v34 : Bool) =>
        K v34)
       (K true) (v2.length : Int) v4 0 v1 v2 v3))
     (bif decide ((v2.length : Int) < 1) then
      (j35 true)
      else (bif decide (2000 < (v2.length : Int)) then
       (j35 true)
       else (j35 (!(decide ((v3.length : Int) = (v2.length : Int))))))))

def ref11_May_l10 {R : Type} (kf : Nat) : Nat → Int → Int → Int → (List Int) → (List (List Int)) → (List Bool) → (Bool → Int → Int → Int → (List Int) → (List (List Int)) → (List Bool) → Option R) → (Int → Int → Int → (List Int) → (List (List Int)) → (List Bool) → Option R) → Int → Option R
  | 0, _, _, _, _, _, _, _, _, _ => none
  | k + 1, y0, y1, y2, y3, y4, y5, y6, y7, y8 => ref11_May_l10_b (ref11_Classes kf) (fun _ _ _ _ _ _ _ _ => none) (ref11_May_l10 kf k) y0 y1 y2 y3 y4 y5 y6 y7 y8

def ref11_May_l5 {R : Type} (kf : Nat) : Nat → (Bool → Option R) → (Option R) → Int → Int → Int → (List Int) → (List (List Int)) → (List Bool) → Option R
  | 0, _, _, _, _, _, _, _, _ => none
  | k + 1, y0, y1, y2, y3, y4, y5, y6, y7 => ref11_May_l5_b (ref11_Classes kf) (ref11_May_l5 kf k) (ref11_May_l10 kf k) y0 y1 y2 y3 y4 y5 y6 y7

def ref11_May {R : Type} (kf : Nat) (v1 : (List Int)) (v2 : (List (List Int))) (v3 : (List Bool)) (K : Bool → Option R) : Option R := ref11_May_b (ref11_Classes kf) (ref11_May_l5 kf kf) (ref11_May_l10 kf kf) v1 v2 v3 K

def ref11_Live_l5_b {R : Type} (c_ref11_May : (List Int) → (List (List Int)) → (List Bool) → (Bool → Option R) → Option R) (l_5 : ((List Bool) → Option R) → Bool → (List Int) → (List (List Int)) → (List Bool) → (List Bool) → Option R) (l_8 : (Bool → (List Int) → (List (List Int)) → (List Bool) → (List Bool) → Option R) → Bool → Int → (List Int) → (List (List Int)) → (List Bool) → (List Bool) → Option R) (l_11 : Int → (List Int) → (List (List Int)) → (List Bool) → (Bool → Int → (List Int) → (List (List Int)) → (List Bool) → (List Bool) → Option R) → Bool → Int → (List Bool) → Option R) (Ke0 : (List Bool) → Option R) (v5 : Bool) (v6 : (List Int)) (v7 : (List (List Int))) (v8 : (List Bool)) (v9 : (List Bool)) : Option R :=
    bif v5 then
    (l_8
     (fun (v29 : Bool) (v30 : (List Int)) (v31 : (List (List Int))) (v32 : (List Bool)) (v33 : (List Bool)) =>
      l_5 Ke0 v29 v30 v31 v32 v33) false 0 v6 v7 v8 v9)
    else (Ke0 v9)

def ref11_Live_l8_b {R : Type} (c_ref11_May : (List Int) → (List (List Int)) → (List Bool) → (Bool → Option R) → Option R) (l_5 : ((List Bool) → Option R) → Bool → (List Int) → (List (List Int)) → (List Bool) → (List Bool) → Option R) (l_8 : (Bool → (List Int) → (List (List Int)) → (List Bool) → (List Bool) → Option R) → Bool → Int → (List Int) → (List (List Int)) → (List Bool) → (List Bool) → Option R) (l_11 : Int → (List Int) → (List (List Int)) → (List Bool) → (Bool → Int → (List Int) → (List (List Int)) → (List Bool) → (List Bool) → Option R) → Bool → Int → (List Bool) → Option R) (Ke2 : Bool → (List Int) → (List (List Int)) → (List Bool) → (List Bool) → Option R) (v10 : Bool) (v11 : Int) (v12 : (List Int)) (v13 : (List (List Int))) (v14 : (List Bool)) (v15 : (List Bool)) : Option R :=
    bif decide (v11 < (v15.length : Int)) then
    (l_11 v11 v12 v13 v14
     (fun (v23 : Bool) (v24 : Int) (v25 : (List Int)) (v26 : (List (List Int))) (v27 : (List Bool)) (v28 : (List Bool)) =>
      l_8 Ke2 v23 (IntKind.i64.wrap (v24 + 1)) v25 v26 v27 v28) v10 0 v15)
    else (Ke2 v10 v12 v13 v14 v15)

def ref11_Live_l11_b {R : Type} (c_ref11_May : (List Int) → (List (List Int)) → (List Bool) → (Bool → Option R) → Option R) (l_5 : ((List Bool) → Option R) → Bool → (List Int) → (List (List Int)) → (List Bool) → (List Bool) → Option R) (l_8 : (Bool → (List Int) → (List (List Int)) → (List Bool) → (List Bool) → Option R) → Bool → Int → (List Int) → (List (List Int)) → (List Bool) → (List Bool) → Option R) (l_11 : Int → (List Int) → (List (List Int)) → (List Bool) → (Bool → Int → (List Int) → (List (List Int)) → (List Bool) → (List Bool) → Option R) → Bool → Int → (List Bool) → Option R) (v17 : Int) (v19 : (List Int)) (v20 : (List (List Int))) (v21 : (List Bool)) (Ke4 : Bool → Int → (List Int) → (List (List Int)) → (List Bool) → (List Bool) → Option R) (v16 : Bool) (v18 : Int) (v22 : (List Bool)) : Option R :=
    gd (decide (0 ≤ v17))
    (gd (decide (v17 < (v20.length : Int)))
     (bif decide (v18 < ((v20.getD (Int.toNat v17) ([] : (List Int))).length : Int)) then
      (gd (decide (0 ≤ v17))
       (gd (decide (v17 < (v22.length : Int)))
        (bif (!(v22.getD (Int.toNat v17) false)) then
         (gd (decide (0 ≤ v17))
          (gd (decide (v17 < (v20.length : Int)))
           (gd (decide (0 ≤ v18))
            (gd (decide (v18 < ((v20.getD (Int.toNat v17) ([] : (List Int))).length : Int)))
             (gd (decide (0 ≤ ((v20.getD (Int.toNat v17) ([] : (List Int))).getD (Int.toNat v18) (0 : Int))))
              (gd (decide (((v20.getD (Int.toNat v17) ([] : (List Int))).getD (Int.toNat v18) (0 : Int)) < (v22.length : Int)))
               (bif (v22.getD (Int.toNat ((v20.getD (Int.toNat v17) ([] : (List Int))).getD (Int.toNat v18) (0 : Int))) false) then
                (gd (decide (0 ≤ v17))
                 (gd (decide (v17 < (v22.length : Int)))
                  (l_11 v17 v19 v20 v21 Ke4 true (IntKind.i64.wrap (v18 + 1)) (v22.set (Int.toNat v17) true))))
                else (l_11 v17 v19 v20 v21 Ke4 v16 (IntKind.i64.wrap (v18 + 1)) v22))))))))
         else (Ke4 v16 v17 v19 v20 v21 v22))))
      else (Ke4 v16 v17 v19 v20 v21 v22)))

def ref11_Live_b {R : Type} (c_ref11_May : (List Int) → (List (List Int)) → (List Bool) → (Bool → Option R) → Option R) (l_5 : ((List Bool) → Option R) → Bool → (List Int) → (List (List Int)) → (List Bool) → (List Bool) → Option R) (l_8 : (Bool → (List Int) → (List (List Int)) → (List Bool) → (List Bool) → Option R) → Bool → Int → (List Int) → (List (List Int)) → (List Bool) → (List Bool) → Option R) (l_11 : Int → (List Int) → (List (List Int)) → (List Bool) → (Bool → Int → (List Int) → (List (List Int)) → (List Bool) → (List Bool) → Option R) → Bool → Int → (List Bool) → Option R) (v1 : (List Int)) (v2 : (List (List Int))) (v3 : (List Bool)) (K : (List Bool) → Option R) : Option R :=
    c_ref11_May v1 v2 v3 (fun (v4 : Bool) =>
     bif (!v4) then
     (K ([] : List Bool))
     else (gd (decide (([] : List Bool).length + v3.length < SMALL))
      (l_5
       (fun (v34 : (List Bool)) =>
        K v34) true v1 v2 v3 (([] : List Bool) ++ v3))))

def ref11_Live_l11 {R : Type} (kf : Nat) : Nat → Int → (List Int) → (List (List Int)) → (List Bool) → (Bool → Int → (List Int) → (List (List Int)) → (List Bool) → (List Bool) → Option R) → Bool → Int → (List Bool) → Option R
  | 0, _, _, _, _, _, _, _, _ => none
  | k + 1, y0, y1, y2, y3, y4, y5, y6, y7 => ref11_Live_l11_b (ref11_May kf) (fun _ _ _ _ _ _ => none) (fun _ _ _ _ _ _ _ => none) (ref11_Live_l11 kf k) y0 y1 y2 y3 y4 y5 y6 y7

def ref11_Live_l8 {R : Type} (kf : Nat) : Nat → (Bool → (List Int) → (List (List Int)) → (List Bool) → (List Bool) → Option R) → Bool → Int → (List Int) → (List (List Int)) → (List Bool) → (List Bool) → Option R
  | 0, _, _, _, _, _, _, _ => none
  | k + 1, y0, y1, y2, y3, y4, y5, y6 => ref11_Live_l8_b (ref11_May kf) (fun _ _ _ _ _ _ => none) (ref11_Live_l8 kf k) (ref11_Live_l11 kf k) y0 y1 y2 y3 y4 y5 y6

def ref11_Live_l5 {R : Type} (kf : Nat) : Nat → ((List Bool) → Option R) → Bool → (List Int) → (List (List Int)) → (List Bool) → (List Bool) → Option R
  | 0, _, _, _, _, _, _ => none
  | k + 1, y0, y1, y2, y3, y4, y5 => ref11_Live_l5_b (ref11_May kf) (ref11_Live_l5 kf k) (ref11_Live_l8 kf k) (ref11_Live_l11 kf k) y0 y1 y2 y3 y4 y5

def ref11_Live {R : Type} (kf : Nat) (v1 : (List Int)) (v2 : (List (List Int))) (v3 : (List Bool)) (K : (List Bool) → Option R) : Option R := ref11_Live_b (ref11_May kf) (ref11_Live_l5 kf kf) (ref11_Live_l8 kf kf) (ref11_Live_l11 kf kf) v1 v2 v3 K

def ref11_To_l4_b {R : Type} (c_ref11_May : (List Int) → (List (List Int)) → (List Bool) → (Bool → Option R) → Option R) (l_4 : (List Int) → (List Int) → (List (List Int)) → (Int → Option R) → Int → Int → Option R) (v8 : (List Int)) (v10 : (List Int)) (v11 : (List (List Int))) (Ke0 : Int → Option R) (v7 : Int) (v9 : Int) : Option R :=
    bif decide (v9 < (v8.length : Int)) then
    (gd (decide (0 ≤ v7))
     (gd (decide (v7 < (v11.length : Int)))
      (gd (decide (0 ≤ v9))
       (gd (decide (v9 < (v8.length : Int)))
        (gd (decide (0 ≤ (v8.getD (Int.toNat v9) (0 : Int))))
         (gd (decide ((v8.getD (Int.toNat v9) (0 : Int)) < 256))
          (gd (decide (0 ≤ (v10.getD (Int.toNat (v8.getD (Int.toNat v9) (0 : Int))) (0 : Int))))
           (gd (decide ((v10.getD (Int.toNat (v8.getD (Int.toNat v9) (0 : Int))) (0 : Int)) < ((v11.getD (Int.toNat v7) ([] : (List Int))).length : Int)))
            (let v13 : Int := ((v11.getD (Int.toNat v7) ([] : (List Int))).getD (Int.toNat (v10.getD (Int.toNat (v8.getD (Int.toNat v9) (0 : Int))) (0 : Int))) (0 : Int))
             l_4 v8 v10 v11 Ke0 v13 (IntKind.i64.wrap (v9 + 1)))))))))))
    else (Ke0 v7)

def ref11_To_b {R : Type} (c_ref11_May : (List Int) → (List (List Int)) → (List Bool) → (Bool → Option R) → Option R) (l_4 : (List Int) → (List Int) → (List (List Int)) → (Int → Option R) → Int → Int → Option R) (v1 : (List Int)) (v2 : (List (List Int))) (v3 : (List Bool)) (v4 : Int) (v5 : (List Int)) (K : Int → Option R) : Option R :=
    let j15 : Bool → Option R := fun v6 =>
    (bif v6 then
     (K (-1))
     else (l_4 v5 v1 v2
      (fun (v14 : Int) =>
       K v14) v4 0))
    (c_ref11_May v1 v2 v3 (fun (v16 : Bool) =>
      bif (!v16) then
      (j15 true)
      else (bif decide (v4 < 0) then
       (j15 true)
       else (j15 (decide ((v2.length : Int) ≤ v4))))))

def ref11_To_l4 {R : Type} (kf : Nat) : Nat → (List Int) → (List Int) → (List (List Int)) → (Int → Option R) → Int → Int → Option R
  | 0, _, _, _, _, _, _ => none
  | k + 1, y0, y1, y2, y3, y4, y5 => ref11_To_l4_b (ref11_May kf) (ref11_To_l4 kf k) y0 y1 y2 y3 y4 y5

def ref11_To {R : Type} (kf : Nat) (v1 : (List Int)) (v2 : (List (List Int))) (v3 : (List Bool)) (v4 : Int) (v5 : (List Int)) (K : Int → Option R) : Option R := ref11_To_b (ref11_May kf) (ref11_To_l4 kf kf) v1 v2 v3 v4 v5 K

def ref11_Run_b {R : Type} (c_ref11_To : (List Int) → (List (List Int)) → (List Bool) → Int → (List Int) → (Int → Option R) → Option R) (v1 : (List Int)) (v2 : (List (List Int))) (v3 : (List Bool)) (v4 : (List Int)) (K : Bool → Option R) : Option R :=
    c_ref11_To v1 v2 v3 0 v4 (fun (v5 : Int) =>
     bif decide (0 ≤ v5) then
     (gd (decide (0 ≤ v5))
      (gd (decide (v5 < (v3.length : Int)))
       (K (v3.getD (Int.toNat v5) false))))
     else (K false))

def ref11_Run {R : Type} (kf : Nat) (v1 : (List Int)) (v2 : (List (List Int))) (v3 : (List Bool)) (v4 : (List Int)) (K : Bool → Option R) : Option R := ref11_Run_b (ref11_To kf) v1 v2 v3 v4 K

def law14_WitnessLeast_l9_b {R : Type} (c_law14_begun : (Bool → Option R) → Option R) (c_play_Dfa : Int → Int → (List Int) → ((List Int) → (List (List Int)) → (List Bool) → Option R) → Option R) (c_witness_Shortest : (List Int) → (List (List Int)) → (List Bool) → (Bool → (List Int) → Option R) → Option R) (c_witness_Count : (List Int) → (List (List Int)) → (List Bool) → Int → (Int → Option R) → Option R) (c_ref11_Live : (List Int) → (List (List Int)) → (List Bool) → ((List Bool) → Option R) → Option R) (c_witness_Words : (List Int) → (List (List Int)) → (List Bool) → Int → Int → ((List (List Int)) → Option R) → Option R) (c_ref11_Run : (List Int) → (List (List Int)) → (List Bool) → (List Int) → (Bool → Option R) → Option R) (l_9 : (List Int) → (List Int) → (List (List Int)) → (List Bool) → (Bool → (List Int) → (List Int) → (List (List Int)) → (List Bool) → Option R) → ((List Int) → (List Int) → (List (List Int)) → (List Bool) → Option R) → Int → Option R) (l_15 : (List Int) → (List Int) → (List (List Int)) → (List Bool) → (Bool → (List Int) → (List Int) → (List (List Int)) → (List Bool) → Option R) → ((List Int) → (List Int) → (List (List Int)) → (List Bool) → Option R) → Int → Option R) (v11 : (List Int)) (v12 : (List Int)) (v13 : (List (List Int))) (v14 : (List Bool)) (Kr : Bool → (List Int) → (List Int) → (List (List Int)) → (List Bool) → Option R) (Ke0 : (List Int) → (List Int) → (List (List Int)) → (List Bool) → Option R) (v10 : Int) : Option R :=
    bif decide (v10 ≤ (v13.length : Int)) then
    (c_witness_Count v11 v13 v14 v10 (fun (v15 : Int) =>
      bif (!(decide (v15 = 0))) then
      (Kr false v11 v12 v13 v14)
      else (l_9 v11 v12 v13 v14 Kr Ke0 (IntKind.i64.wrap (v10 + 1)))))
    else (Ke0 v11 v12 v13 v14)

def law14_WitnessLeast_l15_b {R : Type} (c_law14_begun : (Bool → Option R) → Option R) (c_play_Dfa : Int → Int → (List Int) → ((List Int) → (List (List Int)) → (List Bool) → Option R) → Option R) (c_witness_Shortest : (List Int) → (List (List Int)) → (List Bool) → (Bool → (List Int) → Option R) → Option R) (c_witness_Count : (List Int) → (List (List Int)) → (List Bool) → Int → (Int → Option R) → Option R) (c_ref11_Live : (List Int) → (List (List Int)) → (List Bool) → ((List Bool) → Option R) → Option R) (c_witness_Words : (List Int) → (List (List Int)) → (List Bool) → Int → Int → ((List (List Int)) → Option R) → Option R) (c_ref11_Run : (List Int) → (List (List Int)) → (List Bool) → (List Int) → (Bool → Option R) → Option R) (l_9 : (List Int) → (List Int) → (List (List Int)) → (List Bool) → (Bool → (List Int) → (List Int) → (List (List Int)) → (List Bool) → Option R) → ((List Int) → (List Int) → (List (List Int)) → (List Bool) → Option R) → Int → Option R) (l_15 : (List Int) → (List Int) → (List (List Int)) → (List Bool) → (Bool → (List Int) → (List Int) → (List (List Int)) → (List Bool) → Option R) → ((List Int) → (List Int) → (List (List Int)) → (List Bool) → Option R) → Int → Option R) (v27 : (List Int)) (v28 : (List Int)) (v29 : (List (List Int))) (v30 : (List Bool)) (Kr : Bool → (List Int) → (List Int) → (List (List Int)) → (List Bool) → Option R) (Ke2 : (List Int) → (List Int) → (List (List Int)) → (List Bool) → Option R) (v26 : Int) : Option R :=
    bif decide (v26 < (v28.length : Int)) then
    (c_witness_Words v27 v29 v30 v26 1 (fun (v31 : (List (List Int))) =>
      bif (!(decide ((v31.length : Int) = 0))) then
      (Kr false v27 v28 v29 v30)
      else (l_15 v27 v28 v29 v30 Kr Ke2 (IntKind.i64.wrap (v26 + 1)))))
    else (Ke2 v27 v28 v29 v30)

def law14_WitnessLeast_b {R : Type} (c_law14_begun : (Bool → Option R) → Option R) (c_play_Dfa : Int → Int → (List Int) → ((List Int) → (List (List Int)) → (List Bool) → Option R) → Option R) (c_witness_Shortest : (List Int) → (List (List Int)) → (List Bool) → (Bool → (List Int) → Option R) → Option R) (c_witness_Count : (List Int) → (List (List Int)) → (List Bool) → Int → (Int → Option R) → Option R) (c_ref11_Live : (List Int) → (List (List Int)) → (List Bool) → ((List Bool) → Option R) → Option R) (c_witness_Words : (List Int) → (List (List Int)) → (List Bool) → Int → Int → ((List (List Int)) → Option R) → Option R) (c_ref11_Run : (List Int) → (List (List Int)) → (List Bool) → (List Int) → (Bool → Option R) → Option R) (l_9 : (List Int) → (List Int) → (List (List Int)) → (List Bool) → (Bool → (List Int) → (List Int) → (List (List Int)) → (List Bool) → Option R) → ((List Int) → (List Int) → (List (List Int)) → (List Bool) → Option R) → Int → Option R) (l_15 : (List Int) → (List Int) → (List (List Int)) → (List Bool) → (Bool → (List Int) → (List Int) → (List (List Int)) → (List Bool) → Option R) → ((List Int) → (List Int) → (List (List Int)) → (List Bool) → Option R) → Int → Option R) (v1 : Int) (v2 : Int) (v3 : (List Int)) (K : Bool → Option R) : Option R :=
    c_law14_begun (fun (v4 : Bool) =>
     bif (!v4) then
     (K false)
     else (bif decide (60 < (v3.length : Int)) then
      (K true)
      else (c_play_Dfa v1 v2 v3 (fun (v5 : (List Int)) (v6 : (List (List Int))) (v7 : (List Bool)) =>
        c_witness_Shortest v5 v6 v7 (fun (v8 : Bool) (v9 : (List Int)) =>
         bif (!v8) then
         (l_9 v5 v9 v6 v7
          (fun (v16 : Bool) (v17 : (List Int)) (v18 : (List Int)) (v19 : (List (List Int))) (v20 : (List Bool)) =>
           K v16)
          (fun (v21 : (List Int)) (v22 : (List Int)) (v23 : (List (List Int))) (v24 : (List Bool)) =>
           bif decide ((v22.length : Int) = 0) then
           (c_ref11_Live v21 v23 v24 (fun (v25 : (List Bool)) =>
             gd (decide (0 < (v25.length : Int)))
             (K (!(v25.getD 0 false)))))
           else (K false)) 0)
         else (l_15 v5 v9 v6 v7
          (fun (v32 : Bool) (v33 : (List Int)) (v34 : (List Int)) (v35 : (List (List Int))) (v36 : (List Bool)) =>
           K v32)
          (fun (v37 : (List Int)) (v38 : (List Int)) (v39 : (List (List Int))) (v40 : (List Bool)) =>
           c_witness_Words v37 v39 v40 (v38.length : Int) 1 (fun (v41 : (List (List Int))) =>
            c_ref11_Run v37 v39 v40 v38 (fun (v42 : Bool) =>
             bif v42 then
             (bif decide ((v38.length : Int) < (v39.length : Int)) then
              (bif decide ((v41.length : Int) = 1) then
               (gd (decide (0 < (v41.length : Int)))
                (K (decide ((v41.getD 0 ([] : (List Int))) = v38))))
               else (K false))
              else (K false))
             else (K false)))) 0))))))

def law14_WitnessLeast_l9 {R : Type} (kf : Nat) : Nat → (List Int) → (List Int) → (List (List Int)) → (List Bool) → (Bool → (List Int) → (List Int) → (List (List Int)) → (List Bool) → Option R) → ((List Int) → (List Int) → (List (List Int)) → (List Bool) → Option R) → Int → Option R
  | 0, _, _, _, _, _, _, _ => none
  | k + 1, y0, y1, y2, y3, y4, y5, y6 => law14_WitnessLeast_l9_b (law14_begun kf) (play_Dfa kf) (witness_Shortest kf) (witness_Count kf) (ref11_Live kf) (witness_Words kf) (ref11_Run kf) (law14_WitnessLeast_l9 kf k) (fun _ _ _ _ _ _ _ => none) y0 y1 y2 y3 y4 y5 y6

def law14_WitnessLeast_l15 {R : Type} (kf : Nat) : Nat → (List Int) → (List Int) → (List (List Int)) → (List Bool) → (Bool → (List Int) → (List Int) → (List (List Int)) → (List Bool) → Option R) → ((List Int) → (List Int) → (List (List Int)) → (List Bool) → Option R) → Int → Option R
  | 0, _, _, _, _, _, _, _ => none
  | k + 1, y0, y1, y2, y3, y4, y5, y6 => law14_WitnessLeast_l15_b (law14_begun kf) (play_Dfa kf) (witness_Shortest kf) (witness_Count kf) (ref11_Live kf) (witness_Words kf) (ref11_Run kf) (law14_WitnessLeast_l9 kf k) (law14_WitnessLeast_l15 kf k) y0 y1 y2 y3 y4 y5 y6

def law14_WitnessLeast {R : Type} (kf : Nat) (v1 : Int) (v2 : Int) (v3 : (List Int)) (K : Bool → Option R) : Option R := law14_WitnessLeast_b (law14_begun kf) (play_Dfa kf) (witness_Shortest kf) (witness_Count kf) (ref11_Live kf) (witness_Words kf) (ref11_Run kf) (law14_WitnessLeast_l9 kf kf) (law14_WitnessLeast_l15 kf kf) v1 v2 v3 K

def law14_WitnessWords_l9_b {R : Type} (c_law14_begun : (Bool → Option R) → Option R) (c_play_Dfa : Int → Int → (List Int) → ((List Int) → (List (List Int)) → (List Bool) → Option R) → Option R) (c_witness_Words : (List Int) → (List (List Int)) → (List Bool) → Int → Int → ((List (List Int)) → Option R) → Option R) (c_ref11_Run : (List Int) → (List (List Int)) → (List Bool) → (List Int) → (Bool → Option R) → Option R) (c_witness_Count : (List Int) → (List (List Int)) → (List Bool) → Int → (Int → Option R) → Option R) (l_9 : Int → (List Int) → (List (List Int)) → (List (List Int)) → (List Bool) → (Bool → Int → (List Int) → (List (List Int)) → (List (List Int)) → (List Bool) → Option R) → (Int → (List Int) → (List (List Int)) → (List (List Int)) → (List Bool) → Option R) → Int → Option R) (v10 : Int) (v12 : (List Int)) (v13 : (List (List Int))) (v14 : (List (List Int))) (v15 : (List Bool)) (Kr : Bool → Int → (List Int) → (List (List Int)) → (List (List Int)) → (List Bool) → Option R) (Ke0 : Int → (List Int) → (List (List Int)) → (List (List Int)) → (List Bool) → Option R) (v11 : Int) : Option R :=
    bif decide (v11 < (v13.length : Int)) then
    (let j17 : Bool → Option R := fun v16 =>
     (bif v16 then
      (Kr false v10 v12 v13 v14 v15)
      else (l_9 v10 v12 v13 v14 v15 Kr Ke0 (IntKind.i64.wrap (v11 + 1))))
     (gd (decide (0 ≤ v11))
      (gd (decide (v11 < (v13.length : Int)))
       (bif (!(decide (((v13.getD (Int.toNat v11) ([] : (List Int))).length : Int) = v10))) then
        (j17 true)
        else (gd (decide (0 ≤ v11))
         (gd (decide (v11 < (v13.length : Int)))
          (c_ref11_Run v12 v14 v15 (v13.getD (Int.toNat v11) ([] : (List Int))) (fun (v18 : Bool) =>
            bif (!v18) then
            (j17 true)
            else (bif decide (0 < v11) then
             (gd (decide (0 ≤ (IntKind.i64.wrap (v11 - 1))))
              (gd (decide ((IntKind.i64.wrap (v11 - 1)) < (v13.length : Int)))
               (gd (decide (0 ≤ v11))
                (gd (decide (v11 < (v13.length : Int)))
                 (j17 (!(ltL (v13.getD (Int.toNat (IntKind.i64.wrap (v11 - 1))) ([] : (List Int))) (v13.getD (Int.toNat v11) ([] : (List Int))))))))))
             else (j17 false))))))))))
    else (Ke0 v10 v12 v13 v14 v15)

def law14_WitnessWords_b {R : Type} (c_law14_begun : (Bool → Option R) → Option R) (c_play_Dfa : Int → Int → (List Int) → ((List Int) → (List (List Int)) → (List Bool) → Option R) → Option R) (c_witness_Words : (List Int) → (List (List Int)) → (List Bool) → Int → Int → ((List (List Int)) → Option R) → Option R) (c_ref11_Run : (List Int) → (List (List Int)) → (List Bool) → (List Int) → (Bool → Option R) → Option R) (c_witness_Count : (List Int) → (List (List Int)) → (List Bool) → Int → (Int → Option R) → Option R) (l_9 : Int → (List Int) → (List (List Int)) → (List (List Int)) → (List Bool) → (Bool → Int → (List Int) → (List (List Int)) → (List (List Int)) → (List Bool) → Option R) → (Int → (List Int) → (List (List Int)) → (List (List Int)) → (List Bool) → Option R) → Int → Option R) (v1 : Int) (v2 : Int) (v3 : (List Int)) (v4 : Int) (K : Bool → Option R) : Option R :=
    c_law14_begun (fun (v5 : Bool) =>
     bif (!v5) then
     (K false)
     else (bif decide (60 < (v3.length : Int)) then
      (K true)
      else (c_play_Dfa v1 v2 v3 (fun (v6 : (List Int)) (v7 : (List (List Int))) (v8 : (List Bool)) =>
        c_witness_Words v6 v7 v8 (IntKind.i64.wrap (Int.tmod v4 3)) 600 (fun (v9 : (List (List Int))) =>
         l_9 (IntKind.i64.wrap (Int.tmod v4 3)) v6 v9 v7 v8
         (fun (v19 : Bool) (v20 : Int) (v21 : (List Int)) (v22 : (List (List Int))) (v23 : (List (List Int))) (v24 : (List Bool)) =>
          K v19)
         (fun (v25 : Int) (v26 : (List Int)) (v27 : (List (List Int))) (v28 : (List (List Int))) (v29 : (List Bool)) =>
          c_witness_Count v26 v28 v29 v25 (fun (v30 : Int) =>
           bif decide (v30 = (IntKind.u64.wrap (v27.length : Int))) then
           (K true)
           else (bif decide (600 < v30) then
            (K (decide ((v27.length : Int) = 600)))
            else (K false)))) 0)))))

def law14_WitnessWords_l9 {R : Type} (kf : Nat) : Nat → Int → (List Int) → (List (List Int)) → (List (List Int)) → (List Bool) → (Bool → Int → (List Int) → (List (List Int)) → (List (List Int)) → (List Bool) → Option R) → (Int → (List Int) → (List (List Int)) → (List (List Int)) → (List Bool) → Option R) → Int → Option R
  | 0, _, _, _, _, _, _, _, _ => none
  | k + 1, y0, y1, y2, y3, y4, y5, y6, y7 => law14_WitnessWords_l9_b (law14_begun kf) (play_Dfa kf) (witness_Words kf) (ref11_Run kf) (witness_Count kf) (law14_WitnessWords_l9 kf k) y0 y1 y2 y3 y4 y5 y6 y7

def law14_WitnessWords {R : Type} (kf : Nat) (v1 : Int) (v2 : Int) (v3 : (List Int)) (v4 : Int) (K : Bool → Option R) : Option R := law14_WitnessWords_b (law14_begun kf) (play_Dfa kf) (witness_Words kf) (ref11_Run kf) (witness_Count kf) (law14_WitnessWords_l9 kf kf) v1 v2 v3 v4 K

def ref11_Copy_l3_b {R : Type} (l_3 : (List (List Int)) → (List Int) → (List Int) → (List (List Int)) → (List Bool) → (List Bool) → ((List Int) → (List Int) → (List (List Int)) → (List Bool) → (List (List Int)) → (List Bool) → Option R) → Int → (List (List Int)) → Option R) (v6 : (List (List Int))) (v8 : (List Int)) (v9 : (List Int)) (v10 : (List (List Int))) (v11 : (List Bool)) (v13 : (List Bool)) (Ke0 : (List Int) → (List Int) → (List (List Int)) → (List Bool) → (List (List Int)) → (List Bool) → Option R) (v4 : Int) (v12 : (List (List Int))) : Option R :=
    bif decide (v4 < (v6.length : Int)) then
    (gd (decide (0 ≤ v4))
     (gd (decide (v4 < (v6.length : Int)))
      (gd (decide (([] : List Int).length + (v6.getD (Int.toNat v4) ([] : (List Int))).length < SMALL))
       (gd (decide (v12.length + ([(([] : List Int) ++ (v6.getD (Int.toNat v4) ([] : (List Int))))] : List (List Int)).length < SMALL))
        (l_3 v6 v8 v9 v10 v11 v13 Ke0 (IntKind.i64.wrap (v4 + 1)) (v12 ++ ([(([] : List Int) ++ (v6.getD (Int.toNat v4) ([] : (List Int))))] : List (List Int))))))))
    else (Ke0 v8 v9 v10 v11 v12 v13)

def ref11_Copy_b {R : Type} (l_3 : (List (List Int)) → (List Int) → (List Int) → (List (List Int)) → (List Bool) → (List Bool) → ((List Int) → (List Int) → (List (List Int)) → (List Bool) → (List (List Int)) → (List Bool) → Option R) → Int → (List (List Int)) → Option R) (v1 : (List Int)) (v2 : (List (List Int))) (v3 : (List Bool)) (K : (List Int) → (List (List Int)) → (List Bool) → Option R) : Option R :=
    gd (decide (([] : List Bool).length + v3.length < SMALL))
    (l_3 v2 (List.replicate 256 (0 : Int)) v1 ([] : List (List Int)) ([] : List Bool) (([] : List Bool) ++ v3)
     (fun (v14 : (List Int)) (v15 : (List Int)) (v16 : (List (List Int))) (v17 : (List Bool)) (v18 : (List (List Int))) (v19 : (List Bool)) =>
      K v15 v18 v19) 0 ([] : List (List Int)))

def ref11_Copy_l3 {R : Type} (kf : Nat) : Nat → (List (List Int)) → (List Int) → (List Int) → (List (List Int)) → (List Bool) → (List Bool) → ((List Int) → (List Int) → (List (List Int)) → (List Bool) → (List (List Int)) → (List Bool) → Option R) → Int → (List (List Int)) → Option R
  | 0, _, _, _, _, _, _, _, _, _ => none
  | k + 1, y0, y1, y2, y3, y4, y5, y6, y7, y8 => ref11_Copy_l3_b (ref11_Copy_l3 kf k) y0 y1 y2 y3 y4 y5 y6 y7 y8

def ref11_Copy {R : Type} (kf : Nat) (v1 : (List Int)) (v2 : (List (List Int))) (v3 : (List Bool)) (K : (List Int) → (List (List Int)) → (List Bool) → Option R) : Option R := ref11_Copy_b (ref11_Copy_l3 kf kf) v1 v2 v3 K

def ref11_Flip_l5_b {R : Type} (c_ref11_May : (List Int) → (List (List Int)) → (List Bool) → (Bool → Option R) → Option R) (c_ref11_Copy : (List Int) → (List (List Int)) → (List Bool) → ((List Int) → (List (List Int)) → (List Bool) → Option R) → Option R) (l_5 : (List Int) → (List Int) → (List (List Int)) → (List Bool) → (List (List Int)) → ((List Int) → (List Int) → (List (List Int)) → (List Bool) → (List (List Int)) → (List Bool) → Option R) → Int → (List Bool) → Option R) (v9 : (List Int)) (v10 : (List Int)) (v11 : (List (List Int))) (v12 : (List Bool)) (v13 : (List (List Int))) (Ke0 : (List Int) → (List Int) → (List (List Int)) → (List Bool) → (List (List Int)) → (List Bool) → Option R) (v8 : Int) (v14 : (List Bool)) : Option R :=
    bif decide (v8 < (v14.length : Int)) then
    (gd (decide (0 ≤ v8))
     (gd (decide (v8 < (v14.length : Int)))
      (gd (decide (0 ≤ v8))
       (gd (decide (v8 < (v14.length : Int)))
        (l_5 v9 v10 v11 v12 v13 Ke0 (IntKind.i64.wrap (v8 + 1)) (v14.set (Int.toNat v8) (!(v14.getD (Int.toNat v8) false))))))))
    else (Ke0 v9 v10 v11 v12 v13 v14)

def ref11_Flip_b {R : Type} (c_ref11_May : (List Int) → (List (List Int)) → (List Bool) → (Bool → Option R) → Option R) (c_ref11_Copy : (List Int) → (List (List Int)) → (List Bool) → ((List Int) → (List (List Int)) → (List Bool) → Option R) → Option R) (l_5 : (List Int) → (List Int) → (List (List Int)) → (List Bool) → (List (List Int)) → ((List Int) → (List Int) → (List (List Int)) → (List Bool) → (List (List Int)) → (List Bool) → Option R) → Int → (List Bool) → Option R) (v1 : (List Int)) (v2 : (List (List Int))) (v3 : (List Bool)) (K : (List Int) → (List (List Int)) → (List Bool) → Option R) : Option R :=
    c_ref11_May v1 v2 v3 (fun (v4 : Bool) =>
     bif (!v4) then
     (K (List.replicate 256 (0 : Int)) ([] : List (List Int)) ([] : List Bool))
     else (c_ref11_Copy v1 v2 v3 (fun (v5 : (List Int)) (v6 : (List (List Int))) (v7 : (List Bool)) =>
       l_5 (List.replicate 256 (0 : Int)) v5 ([] : List (List Int)) ([] : List Bool) v6
       (fun (v15 : (List Int)) (v16 : (List Int)) (v17 : (List (List Int))) (v18 : (List Bool)) (v19 : (List (List Int))) (v20 : (List Bool)) =>
        K v16 v19 v20) 0 v7)))

def ref11_Flip_l5 {R : Type} (kf : Nat) : Nat → (List Int) → (List Int) → (List (List Int)) → (List Bool) → (List (List Int)) → ((List Int) → (List Int) → (List (List Int)) → (List Bool) → (List (List Int)) → (List Bool) → Option R) → Int → (List Bool) → Option R
  | 0, _, _, _, _, _, _, _, _ => none
  | k + 1, y0, y1, y2, y3, y4, y5, y6, y7 => ref11_Flip_l5_b (ref11_May kf) (ref11_Copy kf) (ref11_Flip_l5 kf k) y0 y1 y2 y3 y4 y5 y6 y7

def ref11_Flip {R : Type} (kf : Nat) (v1 : (List Int)) (v2 : (List (List Int))) (v3 : (List Bool)) (K : (List Int) → (List (List Int)) → (List Bool) → Option R) : Option R := ref11_Flip_b (ref11_May kf) (ref11_Copy kf) (ref11_Flip_l5 kf kf) v1 v2 v3 K

def law14_WitnessFlip_l9_b {R : Type} (c_law14_begun : (Bool → Option R) → Option R) (c_play_Dfa : Int → Int → (List Int) → ((List Int) → (List (List Int)) → (List Bool) → Option R) → Option R) (c_witness_Count : (List Int) → (List (List Int)) → (List Bool) → Int → (Int → Option R) → Option R) (c_ref11_Flip : (List Int) → (List (List Int)) → (List Bool) → ((List Int) → (List (List Int)) → (List Bool) → Option R) → Option R) (l_9 : Int → (List Int) → (List (List Int)) → (List Bool) → (Int → Int → (List Int) → (List (List Int)) → (List Bool) → Option R) → Int → Int → Option R) (v9 : Int) (v12 : (List Int)) (v13 : (List (List Int))) (v14 : (List Bool)) (Ke0 : Int → Int → (List Int) → (List (List Int)) → (List Bool) → Option R) (v10 : Int) (v11 : Int) : Option R :=
    bif decide (v11 < v9) then
    (l_9 v9 v12 v13 v14 Ke0 (IntKind.u64.wrap (mulZ v10 256)) (IntKind.i64.wrap (v11 + 1)))
    else (Ke0 v9 v10 v12 v13 v14)

def law14_WitnessFlip_b {R : Type} (c_law14_begun : (Bool → Option R) → Option R) (c_play_Dfa : Int → Int → (List Int) → ((List Int) → (List (List Int)) → (List Bool) → Option R) → Option R) (c_witness_Count : (List Int) → (List (List Int)) → (List Bool) → Int → (Int → Option R) → Option R) (c_ref11_Flip : (List Int) → (List (List Int)) → (List Bool) → ((List Int) → (List (List Int)) → (List Bool) → Option R) → Option R) (l_9 : Int → (List Int) → (List (List Int)) → (List Bool) → (Int → Int → (List Int) → (List (List Int)) → (List Bool) → Option R) → Int → Int → Option R) (v1 : Int) (v2 : Int) (v3 : (List Int)) (v4 : Int) (K : Bool → Option R) : Option R :=
    c_law14_begun (fun (v5 : Bool) =>
     bif (!v5) then
     (K false)
     else (bif decide (60 < (v3.length : Int)) then
      (K true)
      else (c_play_Dfa v1 v2 v3 (fun (v6 : (List Int)) (v7 : (List (List Int))) (v8 : (List Bool)) =>
        l_9 (IntKind.i64.wrap (Int.tmod v4 12)) v6 v7 v8
        (fun (v15 : Int) (v16 : Int) (v17 : (List Int)) (v18 : (List (List Int))) (v19 : (List Bool)) =>
         c_witness_Count v17 v18 v19 v15 (fun (v20 : Int) =>
          c_ref11_Flip v17 v18 v19 (fun (v21 : (List Int)) (v22 : (List (List Int))) (v23 : (List Bool)) =>
           c_witness_Count v21 v22 v23 v15 (fun (v24 : Int) =>
            K (decide ((IntKind.u64.wrap (v20 + v24)) = v16)))))) 1 0))))

def law14_WitnessFlip_l9 {R : Type} (kf : Nat) : Nat → Int → (List Int) → (List (List Int)) → (List Bool) → (Int → Int → (List Int) → (List (List Int)) → (List Bool) → Option R) → Int → Int → Option R
  | 0, _, _, _, _, _, _, _ => none
  | k + 1, y0, y1, y2, y3, y4, y5, y6 => law14_WitnessFlip_l9_b (law14_begun kf) (play_Dfa kf) (witness_Count kf) (ref11_Flip kf) (law14_WitnessFlip_l9 kf k) y0 y1 y2 y3 y4 y5 y6

def law14_WitnessFlip {R : Type} (kf : Nat) (v1 : Int) (v2 : Int) (v3 : (List Int)) (v4 : Int) (K : Bool → Option R) : Option R := law14_WitnessFlip_b (law14_begun kf) (play_Dfa kf) (witness_Count kf) (ref11_Flip kf) (law14_WitnessFlip_l9 kf kf) v1 v2 v3 v4 K

def ref11_Product_l8_b {R : Type} (c_ref11_May : (List Int) → (List (List Int)) → (List Bool) → (Bool → Option R) → Option R) (l_8 : (Int → Int → (List Int) → (List (List Int)) → (List Bool) → (List Int) → (List (List Int)) → (List Bool) → (List Int) → (List Int) → (List Int) → (List (List Int)) → (List Bool) → (List (List Int)) → (List Bool) → Option R) → Int → Int → Int → (List Int) → (List (List Int)) → (List Bool) → (List Int) → (List (List Int)) → (List Bool) → (List Int) → (List Int) → (List Int) → (List (List Int)) → (List Bool) → (List (List Int)) → (List Bool) → Option R) (l_11 : Int → Int → Int → (List Int) → (List (List Int)) → (List Bool) → (List Int) → (List (List Int)) → (List Bool) → (List Int) → (List Int) → (List Int) → (List (List Int)) → (List Bool) → (List (List Int)) → (List Bool) → (Int → Int → Int → Int → (List Int) → (List (List Int)) → (List Bool) → (List Int) → (List (List Int)) → (List Bool) → (List Int) → (List Int) → (List Int) → (List (List Int)) → (List Bool) → (List (List Int)) → (List Bool) → Option R) → Int → Option R) (l_18 : (Int → (List Int) → (List Int) → (List (List Int)) → (List (List Int)) → (List Bool) → (List (List Int)) → (List Bool) → Option R) → Int → Int → Int → (List Int) → (List (List Int)) → (List Bool) → (List Int) → (List (List Int)) → (List Bool) → (List Int) → (List Int) → (List Int) → (List (List Int)) → (List (List Int)) → (List Bool) → (List (List Int)) → (List Bool) → Option R) (l_22 : (Int → Int → Int → (List Int) → (List (List Int)) → (List Bool) → (List Int) → (List (List Int)) → (List Bool) → (List Int) → (List Int) → (List Int) → (List (List Int)) → (List Int) → (List (List Int)) → (List Bool) → (List (List Int)) → (List Bool) → Option R) → Int → Int → Int → Int → (List Int) → (List (List Int)) → (List Bool) → (List Int) → (List (List Int)) → (List Bool) → (List Int) → (List Int) → (List Int) → (List (List Int)) → (List Int) → (List (List Int)) → (List Bool) → (List (List Int)) → (List Bool) → Option R) (l_26 : Int → Int → Int → Int → (List Int) → (List (List Int)) → (List Bool) → (List Int) → (List (List Int)) → (List Bool) → (List Int) → (List Int) → (List Int) → (List (List Int)) → (List Int) → (List Int) → (List (List Int)) → (List Bool) → (List (List Int)) → (List Bool) → (Int → Int → Int → Int → Int → (List Int) → (List (List Int)) → (List Bool) → (List Int) → (List (List Int)) → (List Bool) → (List Int) → (List Int) → (List Int) → (List (List Int)) → (List Int) → (List Int) → (List (List Int)) → (List Bool) → (List (List Int)) → (List Bool) → Option R) → Int → Option R) (Ke0 : Int → Int → (List Int) → (List (List Int)) → (List Bool) → (List Int) → (List (List Int)) → (List Bool) → (List Int) → (List Int) → (List Int) → (List (List Int)) → (List Bool) → (List (List Int)) → (List Bool) → Option R) (v11 : Int) (v12 : Int) (v13 : Int) (v14 : (List Int)) (v15 : (List (List Int))) (v16 : (List Bool)) (v17 : (List Int)) (v18 : (List (List Int))) (v19 : (List Bool)) (v20 : (List Int)) (v21 : (List Int)) (v22 : (List Int)) (v23 : (List (List Int))) (v24 : (List Bool)) (v25 : (List (List Int))) (v26 : (List Bool)) : Option R :=
    bif decide (v13 < 256) then
    (l_11 v11 v12 v13 v14 v15 v16 v17 v18 v19 v20 v21 v22 v23 v24 v25 v26
     (fun (v45 : Int) (v46 : Int) (v47 : Int) (v48 : Int) (v49 : (List Int)) (v50 : (List (List Int))) (v51 : (List Bool)) (v52 : (List Int)) (v53 : (List (List Int))) (v54 : (List Bool)) (v55 : (List Int)) (v56 : (List Int)) (v57 : (List Int)) (v58 : (List (List Int))) (v59 : (List Bool)) (v60 : (List (List Int))) (v61 : (List Bool)) =>
      let j63 : (List Int) → Option R := fun v62 =>
      (gd (decide (0 ≤ v47))
       (gd (decide (v47 < 256))
        (l_8 Ke0 v45 v46 (IntKind.i64.wrap (v47 + 1)) v49 v50 v51 v52 v53 v54 v55 (v56.set (Int.toNat v47) (IntKind.u8.wrap v48)) v62 v58 v59 v60 v61)))
      (bif decide (v48 = (v57.length : Int)) then
       (gd (decide (v57.length + ([v47] : List Int).length < SMALL))
        (j63 (v57 ++ ([v47] : List Int))))
       else (j63 v57))) 0)
    else (Ke0 v11 v12 v14 v15 v16 v17 v18 v19 v20 v21 v22 v23 v24 v25 v26)

def ref11_Product_l11_b {R : Type} (c_ref11_May : (List Int) → (List (List Int)) → (List Bool) → (Bool → Option R) → Option R) (l_8 : (Int → Int → (List Int) → (List (List Int)) → (List Bool) → (List Int) → (List (List Int)) → (List Bool) → (List Int) → (List Int) → (List Int) → (List (List Int)) → (List Bool) → (List (List Int)) → (List Bool) → Option R) → Int → Int → Int → (List Int) → (List (List Int)) → (List Bool) → (List Int) → (List (List Int)) → (List Bool) → (List Int) → (List Int) → (List Int) → (List (List Int)) → (List Bool) → (List (List Int)) → (List Bool) → Option R) (l_11 : Int → Int → Int → (List Int) → (List (List Int)) → (List Bool) → (List Int) → (List (List Int)) → (List Bool) → (List Int) → (List Int) → (List Int) → (List (List Int)) → (List Bool) → (List (List Int)) → (List Bool) → (Int → Int → Int → Int → (List Int) → (List (List Int)) → (List Bool) → (List Int) → (List (List Int)) → (List Bool) → (List Int) → (List Int) → (List Int) → (List (List Int)) → (List Bool) → (List (List Int)) → (List Bool) → Option R) → Int → Option R) (l_18 : (Int → (List Int) → (List Int) → (List (List Int)) → (List (List Int)) → (List Bool) → (List (List Int)) → (List Bool) → Option R) → Int → Int → Int → (List Int) → (List (List Int)) → (List Bool) → (List Int) → (List (List Int)) → (List Bool) → (List Int) → (List Int) → (List Int) → (List (List Int)) → (List (List Int)) → (List Bool) → (List (List Int)) → (List Bool) → Option R) (l_22 : (Int → Int → Int → (List Int) → (List (List Int)) → (List Bool) → (List Int) → (List (List Int)) → (List Bool) → (List Int) → (List Int) → (List Int) → (List (List Int)) → (List Int) → (List (List Int)) → (List Bool) → (List (List Int)) → (List Bool) → Option R) → Int → Int → Int → Int → (List Int) → (List (List Int)) → (List Bool) → (List Int) → (List (List Int)) → (List Bool) → (List Int) → (List Int) → (List Int) → (List (List Int)) → (List Int) → (List (List Int)) → (List Bool) → (List (List Int)) → (List Bool) → Option R) (l_26 : Int → Int → Int → Int → (List Int) → (List (List Int)) → (List Bool) → (List Int) → (List (List Int)) → (List Bool) → (List Int) → (List Int) → (List Int) → (List (List Int)) → (List Int) → (List Int) → (List (List Int)) → (List Bool) → (List (List Int)) → (List Bool) → (Int → Int → Int → Int → Int → (List Int) → (List (List Int)) → (List Bool) → (List Int) → (List (List Int)) → (List Bool) → (List Int) → (List Int) → (List Int) → (List (List Int)) → (List Int) → (List Int) → (List (List Int)) → (List Bool) → (List (List Int)) → (List Bool) → Option R) → Int → Option R) (v27 : Int) (v28 : Int) (v29 : Int) (v31 : (List Int)) (v32 : (List (List Int))) (v33 : (List Bool)) (v34 : (List Int)) (v35 : (List (List Int))) (v36 : (List Bool)) (v37 : (List Int)) (v38 : (List Int)) (v39 : (List Int)) (v40 : (List (List Int))) (v41 : (List Bool)) (v42 : (List (List Int))) (v43 : (List Bool)) (Ke2 : Int → Int → Int → Int → (List Int) → (List (List Int)) → (List Bool) → (List Int) → (List (List Int)) → (List Bool) → (List Int) → (List Int) → (List Int) → (List (List Int)) → (List Bool) → (List (List Int)) → (List Bool) → Option R) (v30 : Int) : Option R :=
    let j44 : Option R :=
    (l_11 v27 v28 v29 v31 v32 v33 v34 v35 v36 v37 v38 v39 v40 v41 v42 v43 Ke2 (IntKind.i64.wrap (v30 + 1)))
    (bif decide (v30 < (v39.length : Int)) then
     (gd (decide (0 ≤ v30))
      (gd (decide (v30 < (v39.length : Int)))
       (gd (decide (0 ≤ (v39.getD (Int.toNat v30) (0 : Int))))
        (gd (decide ((v39.getD (Int.toNat v30) (0 : Int)) < 256))
         (gd (decide (0 ≤ v29))
          (gd (decide (v29 < 256))
           (bif (!(decide ((v31.getD (Int.toNat (v39.getD (Int.toNat v30) (0 : Int))) (0 : Int)) = (v31.getD (Int.toNat v29) (0 : Int))))) then
            (j44)
            else (gd (decide (0 ≤ v30))
             (gd (decide (v30 < (v39.length : Int)))
              (gd (decide (0 ≤ (v39.getD (Int.toNat v30) (0 : Int))))
               (gd (decide ((v39.getD (Int.toNat v30) (0 : Int)) < 256))
                (gd (decide (0 ≤ v29))
                 (gd (decide (v29 < 256))
                  (bif (!(decide ((v34.getD (Int.toNat (v39.getD (Int.toNat v30) (0 : Int))) (0 : Int)) = (v34.getD (Int.toNat v29) (0 : Int))))) then
                   (j44)
                   else (Ke2 v27 v28 v29 v30 v31 v32 v33 v34 v35 v36 v37 v38 v39 v40 v41 v42 v43)))))))))))))))
     else (Ke2 v27 v28 v29 v30 v31 v32 v33 v34 v35 v36 v37 v38 v39 v40 v41 v42 v43))

def ref11_Product_l18_b {R : Type} (c_ref11_May : (List Int) → (List (List Int)) → (List Bool) → (Bool → Option R) → Option R) (l_8 : (Int → Int → (List Int) → (List (List Int)) → (List Bool) → (List Int) → (List (List Int)) → (List Bool) → (List Int) → (List Int) → (List Int) → (List (List Int)) → (List Bool) → (List (List Int)) → (List Bool) → Option R) → Int → Int → Int → (List Int) → (List (List Int)) → (List Bool) → (List Int) → (List (List Int)) → (List Bool) → (List Int) → (List Int) → (List Int) → (List (List Int)) → (List Bool) → (List (List Int)) → (List Bool) → Option R) (l_11 : Int → Int → Int → (List Int) → (List (List Int)) → (List Bool) → (List Int) → (List (List Int)) → (List Bool) → (List Int) → (List Int) → (List Int) → (List (List Int)) → (List Bool) → (List (List Int)) → (List Bool) → (Int → Int → Int → Int → (List Int) → (List (List Int)) → (List Bool) → (List Int) → (List (List Int)) → (List Bool) → (List Int) → (List Int) → (List Int) → (List (List Int)) → (List Bool) → (List (List Int)) → (List Bool) → Option R) → Int → Option R) (l_18 : (Int → (List Int) → (List Int) → (List (List Int)) → (List (List Int)) → (List Bool) → (List (List Int)) → (List Bool) → Option R) → Int → Int → Int → (List Int) → (List (List Int)) → (List Bool) → (List Int) → (List (List Int)) → (List Bool) → (List Int) → (List Int) → (List Int) → (List (List Int)) → (List (List Int)) → (List Bool) → (List (List Int)) → (List Bool) → Option R) (l_22 : (Int → Int → Int → (List Int) → (List (List Int)) → (List Bool) → (List Int) → (List (List Int)) → (List Bool) → (List Int) → (List Int) → (List Int) → (List (List Int)) → (List Int) → (List (List Int)) → (List Bool) → (List (List Int)) → (List Bool) → Option R) → Int → Int → Int → Int → (List Int) → (List (List Int)) → (List Bool) → (List Int) → (List (List Int)) → (List Bool) → (List Int) → (List Int) → (List Int) → (List (List Int)) → (List Int) → (List (List Int)) → (List Bool) → (List (List Int)) → (List Bool) → Option R) (l_26 : Int → Int → Int → Int → (List Int) → (List (List Int)) → (List Bool) → (List Int) → (List (List Int)) → (List Bool) → (List Int) → (List Int) → (List Int) → (List (List Int)) → (List Int) → (List Int) → (List (List Int)) → (List Bool) → (List (List Int)) → (List Bool) → (Int → Int → Int → Int → Int → (List Int) → (List (List Int)) → (List Bool) → (List Int) → (List (List Int)) → (List Bool) → (List Int) → (List Int) → (List Int) → (List (List Int)) → (List Int) → (List Int) → (List (List Int)) → (List Bool) → (List (List Int)) → (List Bool) → Option R) → Int → Option R) (Ke4 : Int → (List Int) → (List Int) → (List (List Int)) → (List (List Int)) → (List Bool) → (List (List Int)) → (List Bool) → Option R) (v79 : Int) (v80 : Int) (v81 : Int) (v82 : (List Int)) (v83 : (List (List Int))) (v84 : (List Bool)) (v85 : (List Int)) (v86 : (List (List Int))) (v87 : (List Bool)) (v88 : (List Int)) (v89 : (List Int)) (v90 : (List Int)) (v91 : (List (List Int))) (v92 : (List (List Int))) (v93 : (List Bool)) (v94 : (List (List Int))) (v95 : (List Bool)) : Option R :=
    bif decide (v81 < (v91.length : Int)) then
    (bif decide ((v91.length : Int) ≤ v80) then
     (l_22
      (fun (v159 : Int) (v160 : Int) (v161 : Int) (v162 : (List Int)) (v163 : (List (List Int))) (v164 : (List Bool)) (v165 : (List Int)) (v166 : (List (List Int))) (v167 : (List Bool)) (v168 : (List Int)) (v169 : (List Int)) (v170 : (List Int)) (v171 : (List (List Int))) (v172 : (List Int)) (v173 : (List (List Int))) (v174 : (List Bool)) (v175 : (List (List Int))) (v176 : (List Bool)) =>
       gd (decide (0 ≤ v161))
       (gd (decide (v161 < (v171.length : Int)))
        (gd (decide (0 ≤ ((v171.getD (Int.toNat v161) (List.replicate 2 (0 : Int))).getD 0 (0 : Int))))
         (gd (decide (((v171.getD (Int.toNat v161) (List.replicate 2 (0 : Int))).getD 0 (0 : Int)) < (v164.length : Int)))
          (gd (decide (0 ≤ v161))
           (gd (decide (v161 < (v171.length : Int)))
            (gd (decide (0 ≤ ((v171.getD (Int.toNat v161) (List.replicate 2 (0 : Int))).getD 1 (0 : Int))))
             (gd (decide (((v171.getD (Int.toNat v161) (List.replicate 2 (0 : Int))).getD 1 (0 : Int)) < (v167.length : Int)))
              (gd (decide (v175.length + ([v172] : List (List Int)).length < SMALL))
               (bif (v164.getD (Int.toNat ((v171.getD (Int.toNat v161) (List.replicate 2 (0 : Int))).getD 0 (0 : Int))) false) then
                (bif (v164.getD (Int.toNat ((v171.getD (Int.toNat v161) (List.replicate 2 (0 : Int))).getD 0 (0 : Int))) false) then
                 (bif (v164.getD (Int.toNat ((v171.getD (Int.toNat v161) (List.replicate 2 (0 : Int))).getD 0 (0 : Int))) false) then
                  (gd (decide (0 ≤ (IntKind.i64.wrap (v159 - 1))))
                   (gd (decide ((IntKind.i64.wrap (v159 - 1)) < (([(v167.getD (Int.toNat ((v171.getD (Int.toNat v161) (List.replicate 2 (0 : Int))).getD 1 (0 : Int))) false), true, (!(v167.getD (Int.toNat ((v171.getD (Int.toNat v161) (List.replicate 2 (0 : Int))).getD 1 (0 : Int))) false)), (!(decide ((v164.getD (Int.toNat ((v171.getD (Int.toNat v161) (List.replicate 2 (0 : Int))).getD 0 (0 : Int))) false) = (v167.getD (Int.toNat ((v171.getD (Int.toNat v161) (List.replicate 2 (0 : Int))).getD 1 (0 : Int))) false))))] : List Bool).length : Int)))
                    (gd (decide (v176.length + ([(([(v167.getD (Int.toNat ((v171.getD (Int.toNat v161) (List.replicate 2 (0 : Int))).getD 1 (0 : Int))) false), true, (!(v167.getD (Int.toNat ((v171.getD (Int.toNat v161) (List.replicate 2 (0 : Int))).getD 1 (0 : Int))) false)), (!(decide ((v164.getD (Int.toNat ((v171.getD (Int.toNat v161) (List.replicate 2 (0 : Int))).getD 0 (0 : Int))) false) = (v167.getD (Int.toNat ((v171.getD (Int.toNat v161) (List.replicate 2 (0 : Int))).getD 1 (0 : Int))) false))))] : List Bool).getD (Int.toNat (IntKind.i64.wrap (v159 - 1))) false)] : List Bool).length < SMALL))
                     (l_18 Ke4 v159 v160 (IntKind.i64.wrap (v161 + 1)) v162 v163 v164 v165 v166 v167 v168 v169 v170 v171 v173 v174 (v175 ++ ([v172] : List (List Int))) (v176 ++ ([(([(v167.getD (Int.toNat ((v171.getD (Int.toNat v161) (List.replicate 2 (0 : Int))).getD 1 (0 : Int))) false), true, (!(v167.getD (Int.toNat ((v171.getD (Int.toNat v161) (List.replicate 2 (0 : Int))).getD 1 (0 : Int))) false)), (!(decide ((v164.getD (Int.toNat ((v171.getD (Int.toNat v161) (List.replicate 2 (0 : Int))).getD 0 (0 : Int))) false) = (v167.getD (Int.toNat ((v171.getD (Int.toNat v161) (List.replicate 2 (0 : Int))).getD 1 (0 : Int))) false))))] : List Bool).getD (Int.toNat (IntKind.i64.wrap (v159 - 1))) false)] : List Bool))))))
                  else (gd (decide (0 ≤ (IntKind.i64.wrap (v159 - 1))))
                   (gd (decide ((IntKind.i64.wrap (v159 - 1)) < (([(v167.getD (Int.toNat ((v171.getD (Int.toNat v161) (List.replicate 2 (0 : Int))).getD 1 (0 : Int))) false), true, false, (!(decide ((v164.getD (Int.toNat ((v171.getD (Int.toNat v161) (List.replicate 2 (0 : Int))).getD 0 (0 : Int))) false) = (v167.getD (Int.toNat ((v171.getD (Int.toNat v161) (List.replicate 2 (0 : Int))).getD 1 (0 : Int))) false))))] : List Bool).length : Int)))
                    (gd (decide (v176.length + ([(([(v167.getD (Int.toNat ((v171.getD (Int.toNat v161) (List.replicate 2 (0 : Int))).getD 1 (0 : Int))) false), true, false, (!(decide ((v164.getD (Int.toNat ((v171.getD (Int.toNat v161) (List.replicate 2 (0 : Int))).getD 0 (0 : Int))) false) = (v167.getD (Int.toNat ((v171.getD (Int.toNat v161) (List.replicate 2 (0 : Int))).getD 1 (0 : Int))) false))))] : List Bool).getD (Int.toNat (IntKind.i64.wrap (v159 - 1))) false)] : List Bool).length < SMALL))
                     (l_18 Ke4 v159 v160 (IntKind.i64.wrap (v161 + 1)) v162 v163 v164 v165 v166 v167 v168 v169 v170 v171 v173 v174 (v175 ++ ([v172] : List (List Int))) (v176 ++ ([(([(v167.getD (Int.toNat ((v171.getD (Int.toNat v161) (List.replicate 2 (0 : Int))).getD 1 (0 : Int))) false), true, false, (!(decide ((v164.getD (Int.toNat ((v171.getD (Int.toNat v161) (List.replicate 2 (0 : Int))).getD 0 (0 : Int))) false) = (v167.getD (Int.toNat ((v171.getD (Int.toNat v161) (List.replicate 2 (0 : Int))).getD 1 (0 : Int))) false))))] : List Bool).getD (Int.toNat (IntKind.i64.wrap (v159 - 1))) false)] : List Bool)))))))
                 else (bif (v164.getD (Int.toNat ((v171.getD (Int.toNat v161) (List.replicate 2 (0 : Int))).getD 0 (0 : Int))) false) then
                  (gd (decide (0 ≤ (IntKind.i64.wrap (v159 - 1))))
                   (gd (decide ((IntKind.i64.wrap (v159 - 1)) < (([(v167.getD (Int.toNat ((v171.getD (Int.toNat v161) (List.replicate 2 (0 : Int))).getD 1 (0 : Int))) false), (v167.getD (Int.toNat ((v171.getD (Int.toNat v161) (List.replicate 2 (0 : Int))).getD 1 (0 : Int))) false), (!(v167.getD (Int.toNat ((v171.getD (Int.toNat v161) (List.replicate 2 (0 : Int))).getD 1 (0 : Int))) false)), (!(decide ((v164.getD (Int.toNat ((v171.getD (Int.toNat v161) (List.replicate 2 (0 : Int))).getD 0 (0 : Int))) false) = (v167.getD (Int.toNat ((v171.getD (Int.toNat v161) (List.replicate 2 (0 : Int))).getD 1 (0 : Int))) false))))] : List Bool).length : Int)))
                    (gd (decide (v176.length + ([(([(v167.getD (Int.toNat ((v171.getD (Int.toNat v161) (List.replicate 2 (0 : Int))).getD 1 (0 : Int))) false), (v167.getD (Int.toNat ((v171.getD (Int.toNat v161) (List.replicate 2 (0 : Int))).getD 1 (0 : Int))) false), (!(v167.getD (Int.toNat ((v171.getD (Int.toNat v161) (List.replicate 2 (0 : Int))).getD 1 (0 : Int))) false)), (!(decide ((v164.getD (Int.toNat ((v171.getD (Int.toNat v161) (List.replicate 2 (0 : Int))).getD 0 (0 : Int))) false) = (v167.getD (Int.toNat ((v171.getD (Int.toNat v161) (List.replicate 2 (0 : Int))).getD 1 (0 : Int))) false))))] : List Bool).getD (Int.toNat (IntKind.i64.wrap (v159 - 1))) false)] : List Bool).length < SMALL))
                     (l_18 Ke4 v159 v160 (IntKind.i64.wrap (v161 + 1)) v162 v163 v164 v165 v166 v167 v168 v169 v170 v171 v173 v174 (v175 ++ ([v172] : List (List Int))) (v176 ++ ([(([(v167.getD (Int.toNat ((v171.getD (Int.toNat v161) (List.replicate 2 (0 : Int))).getD 1 (0 : Int))) false), (v167.getD (Int.toNat ((v171.getD (Int.toNat v161) (List.replicate 2 (0 : Int))).getD 1 (0 : Int))) false), (!(v167.getD (Int.toNat ((v171.getD (Int.toNat v161) (List.replicate 2 (0 : Int))).getD 1 (0 : Int))) false)), (!(decide ((v164.getD (Int.toNat ((v171.getD (Int.toNat v161) (List.replicate 2 (0 : Int))).getD 0 (0 : Int))) false) = (v167.getD (Int.toNat ((v171.getD (Int.toNat v161) (List.replicate 2 (0 : Int))).getD 1 (0 : Int))) false))))] : List Bool).getD (Int.toNat (IntKind.i64.wrap (v159 - 1))) false)] : List Bool))))))
                  else (gd (decide (0 ≤ (IntKind.i64.wrap (v159 - 1))))
                   (gd (decide ((IntKind.i64.wrap (v159 - 1)) < (([(v167.getD (Int.toNat ((v171.getD (Int.toNat v161) (List.replicate 2 (0 : Int))).getD 1 (0 : Int))) false), (v167.getD (Int.toNat ((v171.getD (Int.toNat v161) (List.replicate 2 (0 : Int))).getD 1 (0 : Int))) false), false, (!(decide ((v164.getD (Int.toNat ((v171.getD (Int.toNat v161) (List.replicate 2 (0 : Int))).getD 0 (0 : Int))) false) = (v167.getD (Int.toNat ((v171.getD (Int.toNat v161) (List.replicate 2 (0 : Int))).getD 1 (0 : Int))) false))))] : List Bool).length : Int)))
                    (gd (decide (v176.length + ([(([(v167.getD (Int.toNat ((v171.getD (Int.toNat v161) (List.replicate 2 (0 : Int))).getD 1 (0 : Int))) false), (v167.getD (Int.toNat ((v171.getD (Int.toNat v161) (List.replicate 2 (0 : Int))).getD 1 (0 : Int))) false), false, (!(decide ((v164.getD (Int.toNat ((v171.getD (Int.toNat v161) (List.replicate 2 (0 : Int))).getD 0 (0 : Int))) false) = (v167.getD (Int.toNat ((v171.getD (Int.toNat v161) (List.replicate 2 (0 : Int))).getD 1 (0 : Int))) false))))] : List Bool).getD (Int.toNat (IntKind.i64.wrap (v159 - 1))) false)] : List Bool).length < SMALL))
                     (l_18 Ke4 v159 v160 (IntKind.i64.wrap (v161 + 1)) v162 v163 v164 v165 v166 v167 v168 v169 v170 v171 v173 v174 (v175 ++ ([v172] : List (List Int))) (v176 ++ ([(([(v167.getD (Int.toNat ((v171.getD (Int.toNat v161) (List.replicate 2 (0 : Int))).getD 1 (0 : Int))) false), (v167.getD (Int.toNat ((v171.getD (Int.toNat v161) (List.replicate 2 (0 : Int))).getD 1 (0 : Int))) false), false, (!(decide ((v164.getD (Int.toNat ((v171.getD (Int.toNat v161) (List.replicate 2 (0 : Int))).getD 0 (0 : Int))) false) = (v167.getD (Int.toNat ((v171.getD (Int.toNat v161) (List.replicate 2 (0 : Int))).getD 1 (0 : Int))) false))))] : List Bool).getD (Int.toNat (IntKind.i64.wrap (v159 - 1))) false)] : List Bool))))))))
                else (bif (v164.getD (Int.toNat ((v171.getD (Int.toNat v161) (List.replicate 2 (0 : Int))).getD 0 (0 : Int))) false) then
                 (bif (v164.getD (Int.toNat ((v171.getD (Int.toNat v161) (List.replicate 2 (0 : Int))).getD 0 (0 : Int))) false) then
                  (gd (decide (0 ≤ (IntKind.i64.wrap (v159 - 1))))
                   (gd (decide ((IntKind.i64.wrap (v159 - 1)) < (([false, true, (!(v167.getD (Int.toNat ((v171.getD (Int.toNat v161) (List.replicate 2 (0 : Int))).getD 1 (0 : Int))) false)), (!(decide ((v164.getD (Int.toNat ((v171.getD (Int.toNat v161) (List.replicate 2 (0 : Int))).getD 0 (0 : Int))) false) = (v167.getD (Int.toNat ((v171.getD (Int.toNat v161) (List.replicate 2 (0 : Int))).getD 1 (0 : Int))) false))))] : List Bool).length : Int)))
                    (gd (decide (v176.length + ([(([false, true, (!(v167.getD (Int.toNat ((v171.getD (Int.toNat v161) (List.replicate 2 (0 : Int))).getD 1 (0 : Int))) false)), (!(decide ((v164.getD (Int.toNat ((v171.getD (Int.toNat v161) (List.replicate 2 (0 : Int))).getD 0 (0 : Int))) false) = (v167.getD (Int.toNat ((v171.getD (Int.toNat v161) (List.replicate 2 (0 : Int))).getD 1 (0 : Int))) false))))] : List Bool).getD (Int.toNat (IntKind.i64.wrap (v159 - 1))) false)] : List Bool).length < SMALL))
                     (l_18 Ke4 v159 v160 (IntKind.i64.wrap (v161 + 1)) v162 v163 v164 v165 v166 v167 v168 v169 v170 v171 v173 v174 (v175 ++ ([v172] : List (List Int))) (v176 ++ ([(([false, true, (!(v167.getD (Int.toNat ((v171.getD (Int.toNat v161) (List.replicate 2 (0 : Int))).getD 1 (0 : Int))) false)), (!(decide ((v164.getD (Int.toNat ((v171.getD (Int.toNat v161) (List.replicate 2 (0 : Int))).getD 0 (0 : Int))) false) = (v167.getD (Int.toNat ((v171.getD (Int.toNat v161) (List.replicate 2 (0 : Int))).getD 1 (0 : Int))) false))))] : List Bool).getD (Int.toNat (IntKind.i64.wrap (v159 - 1))) false)] : List Bool))))))
                  else (gd (decide (0 ≤ (IntKind.i64.wrap (v159 - 1))))
                   (gd (decide ((IntKind.i64.wrap (v159 - 1)) < (([false, true, false, (!(decide ((v164.getD (Int.toNat ((v171.getD (Int.toNat v161) (List.replicate 2 (0 : Int))).getD 0 (0 : Int))) false) = (v167.getD (Int.toNat ((v171.getD (Int.toNat v161) (List.replicate 2 (0 : Int))).getD 1 (0 : Int))) false))))] : List Bool).length : Int)))
                    (gd (decide (v176.length + ([(([false, true, false, (!(decide ((v164.getD (Int.toNat ((v171.getD (Int.toNat v161) (List.replicate 2 (0 : Int))).getD 0 (0 : Int))) false) = (v167.getD (Int.toNat ((v171.getD (Int.toNat v161) (List.replicate 2 (0 : Int))).getD 1 (0 : Int))) false))))] : List Bool).getD (Int.toNat (IntKind.i64.wrap (v159 - 1))) false)] : List Bool).length < SMALL))
                     (l_18 Ke4 v159 v160 (IntKind.i64.wrap (v161 + 1)) v162 v163 v164 v165 v166 v167 v168 v169 v170 v171 v173 v174 (v175 ++ ([v172] : List (List Int))) (v176 ++ ([(([false, true, false, (!(decide ((v164.getD (Int.toNat ((v171.getD (Int.toNat v161) (List.replicate 2 (0 : Int))).getD 0 (0 : Int))) false) = (v167.getD (Int.toNat ((v171.getD (Int.toNat v161) (List.replicate 2 (0 : Int))).getD 1 (0 : Int))) false))))] : List Bool).getD (Int.toNat (IntKind.i64.wrap (v159 - 1))) false)] : List Bool)))))))
                 else (bif (v164.getD (Int.toNat ((v171.getD (Int.toNat v161) (List.replicate 2 (0 : Int))).getD 0 (0 : Int))) false) then
                  (gd (decide (0 ≤ (IntKind.i64.wrap (v159 - 1))))
                   (gd (decide ((IntKind.i64.wrap (v159 - 1)) < (([false, (v167.getD (Int.toNat ((v171.getD (Int.toNat v161) (List.replicate 2 (0 : Int))).getD 1 (0 : Int))) false), (!(v167.getD (Int.toNat ((v171.getD (Int.toNat v161) (List.replicate 2 (0 : Int))).getD 1 (0 : Int))) false)), (!(decide ((v164.getD (Int.toNat ((v171.getD (Int.toNat v161) (List.replicate 2 (0 : Int))).getD 0 (0 : Int))) false) = (v167.getD (Int.toNat ((v171.getD (Int.toNat v161) (List.replicate 2 (0 : Int))).getD 1 (0 : Int))) false))))] : List Bool).length : Int)))
                    (gd (decide (v176.length + ([(([false, (v167.getD (Int.toNat ((v171.getD (Int.toNat v161) (List.replicate 2 (0 : Int))).getD 1 (0 : Int))) false), (!(v167.getD (Int.toNat ((v171.getD (Int.toNat v161) (List.replicate 2 (0 : Int))).getD 1 (0 : Int))) false)), (!(decide ((v164.getD (Int.toNat ((v171.getD (Int.toNat v161) (List.replicate 2 (0 : Int))).getD 0 (0 : Int))) false) = (v167.getD (Int.toNat ((v171.getD (Int.toNat v161) (List.replicate 2 (0 : Int))).getD 1 (0 : Int))) false))))] : List Bool).getD (Int.toNat (IntKind.i64.wrap (v159 - 1))) false)] : List Bool).length < SMALL))
                     (l_18 Ke4 v159 v160 (IntKind.i64.wrap (v161 + 1)) v162 v163 v164 v165 v166 v167 v168 v169 v170 v171 v173 v174 (v175 ++ ([v172] : List (List Int))) (v176 ++ ([(([false, (v167.getD (Int.toNat ((v171.getD (Int.toNat v161) (List.replicate 2 (0 : Int))).getD 1 (0 : Int))) false), (!(v167.getD (Int.toNat ((v171.getD (Int.toNat v161) (List.replicate 2 (0 : Int))).getD 1 (0 : Int))) false)), (!(decide ((v164.getD (Int.toNat ((v171.getD (Int.toNat v161) (List.replicate 2 (0 : Int))).getD 0 (0 : Int))) false) = (v167.getD (Int.toNat ((v171.getD (Int.toNat v161) (List.replicate 2 (0 : Int))).getD 1 (0 : Int))) false))))] : List Bool).getD (Int.toNat (IntKind.i64.wrap (v159 - 1))) false)] : List Bool))))))
                  else (gd (decide (0 ≤ (IntKind.i64.wrap (v159 - 1))))
                   (gd (decide ((IntKind.i64.wrap (v159 - 1)) < (([false, (v167.getD (Int.toNat ((v171.getD (Int.toNat v161) (List.replicate 2 (0 : Int))).getD 1 (0 : Int))) false), false, (!(decide ((v164.getD (Int.toNat ((v171.getD (Int.toNat v161) (List.replicate 2 (0 : Int))).getD 0 (0 : Int))) false) = (v167.getD (Int.toNat ((v171.getD (Int.toNat v161) (List.replicate 2 (0 : Int))).getD 1 (0 : Int))) false))))] : List Bool).length : Int)))
                    (gd (decide (v176.length + ([(([false, (v167.getD (Int.toNat ((v171.getD (Int.toNat v161) (List.replicate 2 (0 : Int))).getD 1 (0 : Int))) false), false, (!(decide ((v164.getD (Int.toNat ((v171.getD (Int.toNat v161) (List.replicate 2 (0 : Int))).getD 0 (0 : Int))) false) = (v167.getD (Int.toNat ((v171.getD (Int.toNat v161) (List.replicate 2 (0 : Int))).getD 1 (0 : Int))) false))))] : List Bool).getD (Int.toNat (IntKind.i64.wrap (v159 - 1))) false)] : List Bool).length < SMALL))
                     (l_18 Ke4 v159 v160 (IntKind.i64.wrap (v161 + 1)) v162 v163 v164 v165 v166 v167 v168 v169 v170 v171 v173 v174 (v175 ++ ([v172] : List (List Int))) (v176 ++ ([(([false, (v167.getD (Int.toNat ((v171.getD (Int.toNat v161) (List.replicate 2 (0 : Int))).getD 1 (0 : Int))) false), false, (!(decide ((v164.getD (Int.toNat ((v171.getD (Int.toNat v161) (List.replicate 2 (0 : Int))).getD 0 (0 : Int))) false) = (v167.getD (Int.toNat ((v171.getD (Int.toNat v161) (List.replicate 2 (0 : Int))).getD 1 (0 : Int))) false))))] : List Bool).getD (Int.toNat (IntKind.i64.wrap (v159 - 1))) false)] : List Bool)))))))))))))))))) v79 v80 v81 0 v82 v83 v84 v85 v86 v87 v88 v89 v90 v91 ([] : List Int) v92 v93 v94 v95)
     else (Ke4 v80 v88 v89 v91 v92 v93 v94 v95))
    else (Ke4 v80 v88 v89 v91 v92 v93 v94 v95)

def ref11_Product_l22_b {R : Type} (c_ref11_May : (List Int) → (List (List Int)) → (List Bool) → (Bool → Option R) → Option R) (l_8 : (Int → Int → (List Int) → (List (List Int)) → (List Bool) → (List Int) → (List (List Int)) → (List Bool) → (List Int) → (List Int) → (List Int) → (List (List Int)) → (List Bool) → (List (List Int)) → (List Bool) → Option R) → Int → Int → Int → (List Int) → (List (List Int)) → (List Bool) → (List Int) → (List (List Int)) → (List Bool) → (List Int) → (List Int) → (List Int) → (List (List Int)) → (List Bool) → (List (List Int)) → (List Bool) → Option R) (l_11 : Int → Int → Int → (List Int) → (List (List Int)) → (List Bool) → (List Int) → (List (List Int)) → (List Bool) → (List Int) → (List Int) → (List Int) → (List (List Int)) → (List Bool) → (List (List Int)) → (List Bool) → (Int → Int → Int → Int → (List Int) → (List (List Int)) → (List Bool) → (List Int) → (List (List Int)) → (List Bool) → (List Int) → (List Int) → (List Int) → (List (List Int)) → (List Bool) → (List (List Int)) → (List Bool) → Option R) → Int → Option R) (l_18 : (Int → (List Int) → (List Int) → (List (List Int)) → (List (List Int)) → (List Bool) → (List (List Int)) → (List Bool) → Option R) → Int → Int → Int → (List Int) → (List (List Int)) → (List Bool) → (List Int) → (List (List Int)) → (List Bool) → (List Int) → (List Int) → (List Int) → (List (List Int)) → (List (List Int)) → (List Bool) → (List (List Int)) → (List Bool) → Option R) (l_22 : (Int → Int → Int → (List Int) → (List (List Int)) → (List Bool) → (List Int) → (List (List Int)) → (List Bool) → (List Int) → (List Int) → (List Int) → (List (List Int)) → (List Int) → (List (List Int)) → (List Bool) → (List (List Int)) → (List Bool) → Option R) → Int → Int → Int → Int → (List Int) → (List (List Int)) → (List Bool) → (List Int) → (List (List Int)) → (List Bool) → (List Int) → (List Int) → (List Int) → (List (List Int)) → (List Int) → (List (List Int)) → (List Bool) → (List (List Int)) → (List Bool) → Option R) (l_26 : Int → Int → Int → Int → (List Int) → (List (List Int)) → (List Bool) → (List Int) → (List (List Int)) → (List Bool) → (List Int) → (List Int) → (List Int) → (List (List Int)) → (List Int) → (List Int) → (List (List Int)) → (List Bool) → (List (List Int)) → (List Bool) → (Int → Int → Int → Int → Int → (List Int) → (List (List Int)) → (List Bool) → (List Int) → (List (List Int)) → (List Bool) → (List Int) → (List Int) → (List Int) → (List (List Int)) → (List Int) → (List Int) → (List (List Int)) → (List Bool) → (List (List Int)) → (List Bool) → Option R) → Int → Option R) (Ke6 : Int → Int → Int → (List Int) → (List (List Int)) → (List Bool) → (List Int) → (List (List Int)) → (List Bool) → (List Int) → (List Int) → (List Int) → (List (List Int)) → (List Int) → (List (List Int)) → (List Bool) → (List (List Int)) → (List Bool) → Option R) (v96 : Int) (v97 : Int) (v98 : Int) (v99 : Int) (v100 : (List Int)) (v101 : (List (List Int))) (v102 : (List Bool)) (v103 : (List Int)) (v104 : (List (List Int))) (v105 : (List Bool)) (v106 : (List Int)) (v107 : (List Int)) (v108 : (List Int)) (v109 : (List (List Int))) (v110 : (List Int)) (v111 : (List (List Int))) (v112 : (List Bool)) (v113 : (List (List Int))) (v114 : (List Bool)) : Option R :=
    bif decide (v99 < (v108.length : Int)) then
    (bif decide ((v109.length : Int) ≤ v97) then
     (gd (decide (0 ≤ v98))
      (gd (decide (v98 < (v109.length : Int)))
       (gd (decide (0 ≤ ((v109.getD (Int.toNat v98) (List.replicate 2 (0 : Int))).getD 0 (0 : Int))))
        (gd (decide (((v109.getD (Int.toNat v98) (List.replicate 2 (0 : Int))).getD 0 (0 : Int)) < (v101.length : Int)))
         (gd (decide (0 ≤ v99))
          (gd (decide (v99 < (v108.length : Int)))
           (gd (decide (0 ≤ (v108.getD (Int.toNat v99) (0 : Int))))
            (gd (decide ((v108.getD (Int.toNat v99) (0 : Int)) < 256))
             (gd (decide (0 ≤ (v100.getD (Int.toNat (v108.getD (Int.toNat v99) (0 : Int))) (0 : Int))))
              (gd (decide ((v100.getD (Int.toNat (v108.getD (Int.toNat v99) (0 : Int))) (0 : Int)) < ((v101.getD (Int.toNat ((v109.getD (Int.toNat v98) (List.replicate 2 (0 : Int))).getD 0 (0 : Int))) ([] : (List Int))).length : Int)))
               (gd (decide (0 ≤ v98))
                (gd (decide (v98 < (v109.length : Int)))
                 (gd (decide (0 ≤ ((v109.getD (Int.toNat v98) (List.replicate 2 (0 : Int))).getD 1 (0 : Int))))
                  (gd (decide (((v109.getD (Int.toNat v98) (List.replicate 2 (0 : Int))).getD 1 (0 : Int)) < (v104.length : Int)))
                   (gd (decide (0 ≤ v99))
                    (gd (decide (v99 < (v108.length : Int)))
                     (gd (decide (0 ≤ (v108.getD (Int.toNat v99) (0 : Int))))
                      (gd (decide ((v108.getD (Int.toNat v99) (0 : Int)) < 256))
                       (gd (decide (0 ≤ (v103.getD (Int.toNat (v108.getD (Int.toNat v99) (0 : Int))) (0 : Int))))
                        (gd (decide ((v103.getD (Int.toNat (v108.getD (Int.toNat v99) (0 : Int))) (0 : Int)) < ((v104.getD (Int.toNat ((v109.getD (Int.toNat v98) (List.replicate 2 (0 : Int))).getD 1 (0 : Int))) ([] : (List Int))).length : Int)))
                         (l_26 v96 v97 v98 v99 v100 v101 v102 v103 v104 v105 v106 v107 v108 v109 v110 ([((v101.getD (Int.toNat ((v109.getD (Int.toNat v98) (List.replicate 2 (0 : Int))).getD 0 (0 : Int))) ([] : (List Int))).getD (Int.toNat (v100.getD (Int.toNat (v108.getD (Int.toNat v99) (0 : Int))) (0 : Int))) (0 : Int)), ((v104.getD (Int.toNat ((v109.getD (Int.toNat v98) (List.replicate 2 (0 : Int))).getD 1 (0 : Int))) ([] : (List Int))).getD (Int.toNat (v103.getD (Int.toNat (v108.getD (Int.toNat v99) (0 : Int))) (0 : Int))) (0 : Int))] : List Int) v111 v112 v113 v114
                          (fun (v136 : Int) (v137 : Int) (v138 : Int) (v139 : Int) (v140 : Int) (v141 : (List Int)) (v142 : (List (List Int))) (v143 : (List Bool)) (v144 : (List Int)) (v145 : (List (List Int))) (v146 : (List Bool)) (v147 : (List Int)) (v148 : (List Int)) (v149 : (List Int)) (v150 : (List (List Int))) (v151 : (List Int)) (v152 : (List Int)) (v153 : (List (List Int))) (v154 : (List Bool)) (v155 : (List (List Int))) (v156 : (List Bool)) =>
                           let j158 : (List (List Int)) → Option R := fun v157 =>
                           (gd (decide (v151.length + ([v140] : List Int).length < SMALL))
                            (l_22 Ke6 v136 v137 v138 (IntKind.i64.wrap (v139 + 1)) v141 v142 v143 v144 v145 v146 v147 v148 v149 v157 (v151 ++ ([v140] : List Int)) v153 v154 v155 v156))
                           (bif decide (v140 = (v150.length : Int)) then
                            (gd (decide (v150.length + ([v152] : List (List Int)).length < SMALL))
                             (j158 (v150 ++ ([v152] : List (List Int)))))
                            else (j158 v150))) 0)))))))))))))))))))))
     else (Ke6 v96 v97 v98 v100 v101 v102 v103 v104 v105 v106 v107 v108 v109 v110 v111 v112 v113 v114))
    else (Ke6 v96 v97 v98 v100 v101 v102 v103 v104 v105 v106 v107 v108 v109 v110 v111 v112 v113 v114)

def ref11_Product_l26_b {R : Type} (c_ref11_May : (List Int) → (List (List Int)) → (List Bool) → (Bool → Option R) → Option R) (l_8 : (Int → Int → (List Int) → (List (List Int)) → (List Bool) → (List Int) → (List (List Int)) → (List Bool) → (List Int) → (List Int) → (List Int) → (List (List Int)) → (List Bool) → (List (List Int)) → (List Bool) → Option R) → Int → Int → Int → (List Int) → (List (List Int)) → (List Bool) → (List Int) → (List (List Int)) → (List Bool) → (List Int) → (List Int) → (List Int) → (List (List Int)) → (List Bool) → (List (List Int)) → (List Bool) → Option R) (l_11 : Int → Int → Int → (List Int) → (List (List Int)) → (List Bool) → (List Int) → (List (List Int)) → (List Bool) → (List Int) → (List Int) → (List Int) → (List (List Int)) → (List Bool) → (List (List Int)) → (List Bool) → (Int → Int → Int → Int → (List Int) → (List (List Int)) → (List Bool) → (List Int) → (List (List Int)) → (List Bool) → (List Int) → (List Int) → (List Int) → (List (List Int)) → (List Bool) → (List (List Int)) → (List Bool) → Option R) → Int → Option R) (l_18 : (Int → (List Int) → (List Int) → (List (List Int)) → (List (List Int)) → (List Bool) → (List (List Int)) → (List Bool) → Option R) → Int → Int → Int → (List Int) → (List (List Int)) → (List Bool) → (List Int) → (List (List Int)) → (List Bool) → (List Int) → (List Int) → (List Int) → (List (List Int)) → (List (List Int)) → (List Bool) → (List (List Int)) → (List Bool) → Option R) (l_22 : (Int → Int → Int → (List Int) → (List (List Int)) → (List Bool) → (List Int) → (List (List Int)) → (List Bool) → (List Int) → (List Int) → (List Int) → (List (List Int)) → (List Int) → (List (List Int)) → (List Bool) → (List (List Int)) → (List Bool) → Option R) → Int → Int → Int → Int → (List Int) → (List (List Int)) → (List Bool) → (List Int) → (List (List Int)) → (List Bool) → (List Int) → (List Int) → (List Int) → (List (List Int)) → (List Int) → (List (List Int)) → (List Bool) → (List (List Int)) → (List Bool) → Option R) (l_26 : Int → Int → Int → Int → (List Int) → (List (List Int)) → (List Bool) → (List Int) → (List (List Int)) → (List Bool) → (List Int) → (List Int) → (List Int) → (List (List Int)) → (List Int) → (List Int) → (List (List Int)) → (List Bool) → (List (List Int)) → (List Bool) → (Int → Int → Int → Int → Int → (List Int) → (List (List Int)) → (List Bool) → (List Int) → (List (List Int)) → (List Bool) → (List Int) → (List Int) → (List Int) → (List (List Int)) → (List Int) → (List Int) → (List (List Int)) → (List Bool) → (List (List Int)) → (List Bool) → Option R) → Int → Option R) (v115 : Int) (v116 : Int) (v117 : Int) (v118 : Int) (v120 : (List Int)) (v121 : (List (List Int))) (v122 : (List Bool)) (v123 : (List Int)) (v124 : (List (List Int))) (v125 : (List Bool)) (v126 : (List Int)) (v127 : (List Int)) (v128 : (List Int)) (v129 : (List (List Int))) (v130 : (List Int)) (v131 : (List Int)) (v132 : (List (List Int))) (v133 : (List Bool)) (v134 : (List (List Int))) (v135 : (List Bool)) (Ke8 : Int → Int → Int → Int → Int → (List Int) → (List (List Int)) → (List Bool) → (List Int) → (List (List Int)) → (List Bool) → (List Int) → (List Int) → (List Int) → (List (List Int)) → (List Int) → (List Int) → (List (List Int)) → (List Bool) → (List (List Int)) → (List Bool) → Option R) (v119 : Int) : Option R :=
    bif decide (v119 < (v129.length : Int)) then
    (gd (decide (0 ≤ v119))
     (gd (decide (v119 < (v129.length : Int)))
      (bif (!(decide ((v129.getD (Int.toNat v119) (List.replicate 2 (0 : Int))) = v131))) then
       (l_26 v115 v116 v117 v118 v120 v121 v122 v123 v124 v125 v126 v127 v128 v129 v130 v131 v132 v133 v134 v135 Ke8 (IntKind.i64.wrap (v119 + 1)))
       else (Ke8 v115 v116 v117 v118 v119 v120 v121 v122 v123 v124 v125 v126 v127 v128 v129 v130 v131 v132 v133 v134 v135))))
    else (Ke8 v115 v116 v117 v118 v119 v120 v121 v122 v123 v124 v125 v126 v127 v128 v129 v130 v131 v132 v133 v134 v135)

def ref11_Product_b {R : Type} (c_ref11_May : (List Int) → (List (List Int)) → (List Bool) → (Bool → Option R) → Option R) (l_8 : (Int → Int → (List Int) → (List (List Int)) → (List Bool) → (List Int) → (List (List Int)) → (List Bool) → (List Int) → (List Int) → (List Int) → (List (List Int)) → (List Bool) → (List (List Int)) → (List Bool) → Option R) → Int → Int → Int → (List Int) → (List (List Int)) → (List Bool) → (List Int) → (List (List Int)) → (List Bool) → (List Int) → (List Int) → (List Int) → (List (List Int)) → (List Bool) → (List (List Int)) → (List Bool) → Option R) (l_11 : Int → Int → Int → (List Int) → (List (List Int)) → (List Bool) → (List Int) → (List (List Int)) → (List Bool) → (List Int) → (List Int) → (List Int) → (List (List Int)) → (List Bool) → (List (List Int)) → (List Bool) → (Int → Int → Int → Int → (List Int) → (List (List Int)) → (List Bool) → (List Int) → (List (List Int)) → (List Bool) → (List Int) → (List Int) → (List Int) → (List (List Int)) → (List Bool) → (List (List Int)) → (List Bool) → Option R) → Int → Option R) (l_18 : (Int → (List Int) → (List Int) → (List (List Int)) → (List (List Int)) → (List Bool) → (List (List Int)) → (List Bool) → Option R) → Int → Int → Int → (List Int) → (List (List Int)) → (List Bool) → (List Int) → (List (List Int)) → (List Bool) → (List Int) → (List Int) → (List Int) → (List (List Int)) → (List (List Int)) → (List Bool) → (List (List Int)) → (List Bool) → Option R) (l_22 : (Int → Int → Int → (List Int) → (List (List Int)) → (List Bool) → (List Int) → (List (List Int)) → (List Bool) → (List Int) → (List Int) → (List Int) → (List (List Int)) → (List Int) → (List (List Int)) → (List Bool) → (List (List Int)) → (List Bool) → Option R) → Int → Int → Int → Int → (List Int) → (List (List Int)) → (List Bool) → (List Int) → (List (List Int)) → (List Bool) → (List Int) → (List Int) → (List Int) → (List (List Int)) → (List Int) → (List (List Int)) → (List Bool) → (List (List Int)) → (List Bool) → Option R) (l_26 : Int → Int → Int → Int → (List Int) → (List (List Int)) → (List Bool) → (List Int) → (List (List Int)) → (List Bool) → (List Int) → (List Int) → (List Int) → (List (List Int)) → (List Int) → (List Int) → (List (List Int)) → (List Bool) → (List (List Int)) → (List Bool) → (Int → Int → Int → Int → Int → (List Int) → (List (List Int)) → (List Bool) → (List Int) → (List (List Int)) → (List Bool) → (List Int) → (List Int) → (List Int) → (List (List Int)) → (List Int) → (List Int) → (List (List Int)) → (List Bool) → (List (List Int)) → (List Bool) → Option R) → Int → Option R) (v1 : (List Int)) (v2 : (List (List Int))) (v3 : (List Bool)) (v4 : (List Int)) (v5 : (List (List Int))) (v6 : (List Bool)) (v7 : Int) (v8 : Int) (K : (List Int) → Int → (List (List Int)) → (List Bool) → Option R) : Option R :=
    let j188 : Bool → Option R := fun v9 =>
    (bif v9 then
     (K (List.replicate 256 (0 : Int)) 1 ([] : List (List Int)) ([] : List Bool))
     else (let j185 : Bool → Option R := fun v10 =>
      (bif v10 then
       (K (List.replicate 256 (0 : Int)) 3 ([] : List (List Int)) ([] : List Bool))
       else (l_8
        (fun (v64 : Int) (v65 : Int) (v66 : (List Int)) (v67 : (List (List Int))) (v68 : (List Bool)) (v69 : (List Int)) (v70 : (List (List Int))) (v71 : (List Bool)) (v72 : (List Int)) (v73 : (List Int)) (v74 : (List Int)) (v75 : (List (List Int))) (v76 : (List Bool)) (v77 : (List (List Int))) (v78 : (List Bool)) =>
         l_18
         (fun (v177 : Int) (v178 : (List Int)) (v179 : (List Int)) (v180 : (List (List Int))) (v181 : (List (List Int))) (v182 : (List Bool)) (v183 : (List (List Int))) (v184 : (List Bool)) =>
          bif decide (v177 < (v180.length : Int)) then
          (K (List.replicate 256 (0 : Int)) 7 ([] : List (List Int)) ([] : List Bool))
          else (K v179 0 v183 v184)) v64 v65 0 v66 v67 v68 v69 v70 v71 v72 v73 v74 ([([0, 0] : List Int)] : List (List Int)) v75 v76 v77 v78) v7 v8 0 v1 v2 v3 v4 v5 v6 (List.replicate 256 (0 : Int)) (List.replicate 256 (0 : Int)) ([] : List Int) ([] : List (List Int)) ([] : List Bool) ([] : List (List Int)) ([] : List Bool)))
      (c_ref11_May v1 v2 v3 (fun (v186 : Bool) =>
        bif (!v186) then
        (j185 true)
        else (c_ref11_May v4 v5 v6 (fun (v187 : Bool) =>
          j185 (!v187)))))))
    (bif decide (v7 < 1) then
     (j188 true)
     else (j188 (decide (4 < v7))))

def ref11_Product_l11 {R : Type} (kf : Nat) : Nat → Int → Int → Int → (List Int) → (List (List Int)) → (List Bool) → (List Int) → (List (List Int)) → (List Bool) → (List Int) → (List Int) → (List Int) → (List (List Int)) → (List Bool) → (List (List Int)) → (List Bool) → (Int → Int → Int → Int → (List Int) → (List (List Int)) → (List Bool) → (List Int) → (List (List Int)) → (List Bool) → (List Int) → (List Int) → (List Int) → (List (List Int)) → (List Bool) → (List (List Int)) → (List Bool) → Option R) → Int → Option R
  | 0, _, _, _, _, _, _, _, _, _, _, _, _, _, _, _, _, _, _ => none
  | k + 1, y0, y1, y2, y3, y4, y5, y6, y7, y8, y9, y10, y11, y12, y13, y14, y15, y16, y17 => ref11_Product_l11_b (ref11_May kf) (fun _ _ _ _ _ _ _ _ _ _ _ _ _ _ _ _ _ => none) (ref11_Product_l11 kf k) (fun _ _ _ _ _ _ _ _ _ _ _ _ _ _ _ _ _ _ => none) (fun _ _ _ _ _ _ _ _ _ _ _ _ _ _ _ _ _ _ _ _ => none) (fun _ _ _ _ _ _ _ _ _ _ _ _ _ _ _ _ _ _ _ _ _ _ => none) y0 y1 y2 y3 y4 y5 y6 y7 y8 y9 y10 y11 y12 y13 y14 y15 y16 y17

def ref11_Product_l8 {R : Type} (kf : Nat) : Nat → (Int → Int → (List Int) → (List (List Int)) → (List Bool) → (List Int) → (List (List Int)) → (List Bool) → (List Int) → (List Int) → (List Int) → (List (List Int)) → (List Bool) → (List (List Int)) → (List Bool) → Option R) → Int → Int → Int → (List Int) → (List (List Int)) → (List Bool) → (List Int) → (List (List Int)) → (List Bool) → (List Int) → (List Int) → (List Int) → (List (List Int)) → (List Bool) → (List (List Int)) → (List Bool) → Option R
  | 0, _, _, _, _, _, _, _, _, _, _, _, _, _, _, _, _, _ => none
  | k + 1, y0, y1, y2, y3, y4, y5, y6, y7, y8, y9, y10, y11, y12, y13, y14, y15, y16 => ref11_Product_l8_b (ref11_May kf) (ref11_Product_l8 kf k) (ref11_Product_l11 kf k) (fun _ _ _ _ _ _ _ _ _ _ _ _ _ _ _ _ _ _ => none) (fun _ _ _ _ _ _ _ _ _ _ _ _ _ _ _ _ _ _ _ _ => none) (fun _ _ _ _ _ _ _ _ _ _ _ _ _ _ _ _ _ _ _ _ _ _ => none) y0 y1 y2 y3 y4 y5 y6 y7 y8 y9 y10 y11 y12 y13 y14 y15 y16

def ref11_Product_l26 {R : Type} (kf : Nat) : Nat → Int → Int → Int → Int → (List Int) → (List (List Int)) → (List Bool) → (List Int) → (List (List Int)) → (List Bool) → (List Int) → (List Int) → (List Int) → (List (List Int)) → (List Int) → (List Int) → (List (List Int)) → (List Bool) → (List (List Int)) → (List Bool) → (Int → Int → Int → Int → Int → (List Int) → (List (List Int)) → (List Bool) → (List Int) → (List (List Int)) → (List Bool) → (List Int) → (List Int) → (List Int) → (List (List Int)) → (List Int) → (List Int) → (List (List Int)) → (List Bool) → (List (List Int)) → (List Bool) → Option R) → Int → Option R
  | 0, _, _, _, _, _, _, _, _, _, _, _, _, _, _, _, _, _, _, _, _, _, _ => none
  | k + 1, y0, y1, y2, y3, y4, y5, y6, y7, y8, y9, y10, y11, y12, y13, y14, y15, y16, y17, y18, y19, y20, y21 => ref11_Product_l26_b (ref11_May kf) (ref11_Product_l8 kf k) (ref11_Product_l11 kf k) (fun _ _ _ _ _ _ _ _ _ _ _ _ _ _ _ _ _ _ => none) (fun _ _ _ _ _ _ _ _ _ _ _ _ _ _ _ _ _ _ _ _ => none) (ref11_Product_l26 kf k) y0 y1 y2 y3 y4 y5 y6 y7 y8 y9 y10 y11 y12 y13 y14 y15 y16 y17 y18 y19 y20 y21

def ref11_Product_l22 {R : Type} (kf : Nat) : Nat → (Int → Int → Int → (List Int) → (List (List Int)) → (List Bool) → (List Int) → (List (List Int)) → (List Bool) → (List Int) → (List Int) → (List Int) → (List (List Int)) → (List Int) → (List (List Int)) → (List Bool) → (List (List Int)) → (List Bool) → Option R) → Int → Int → Int → Int → (List Int) → (List (List Int)) → (List Bool) → (List Int) → (List (List Int)) → (List Bool) → (List Int) → (List Int) → (List Int) → (List (List Int)) → (List Int) → (List (List Int)) → (List Bool) → (List (List Int)) → (List Bool) → Option R
  | 0, _, _, _, _, _, _, _, _, _, _, _, _, _, _, _, _, _, _, _, _ => none
  | k + 1, y0, y1, y2, y3, y4, y5, y6, y7, y8, y9, y10, y11, y12, y13, y14, y15, y16, y17, y18, y19 => ref11_Product_l22_b (ref11_May kf) (ref11_Product_l8 kf k) (ref11_Product_l11 kf k) (fun _ _ _ _ _ _ _ _ _ _ _ _ _ _ _ _ _ _ => none) (ref11_Product_l22 kf k) (ref11_Product_l26 kf k) y0 y1 y2 y3 y4 y5 y6 y7 y8 y9 y10 y11 y12 y13 y14 y15 y16 y17 y18 y19

def ref11_Product_l18 {R : Type} (kf : Nat) : Nat → (Int → (List Int) → (List Int) → (List (List Int)) → (List (List Int)) → (List Bool) → (List (List Int)) → (List Bool) → Option R) → Int → Int → Int → (List Int) → (List (List Int)) → (List Bool) → (List Int) → (List (List Int)) → (List Bool) → (List Int) → (List Int) → (List Int) → (List (List Int)) → (List (List Int)) → (List Bool) → (List (List Int)) → (List Bool) → Option R
  | 0, _, _, _, _, _, _, _, _, _, _, _, _, _, _, _, _, _, _ => none
  | k + 1, y0, y1, y2, y3, y4, y5, y6, y7, y8, y9, y10, y11, y12, y13, y14, y15, y16, y17 => ref11_Product_l18_b (ref11_May kf) (ref11_Product_l8 kf k) (ref11_Product_l11 kf k) (ref11_Product_l18 kf k) (ref11_Product_l22 kf k) (ref11_Product_l26 kf k) y0 y1 y2 y3 y4 y5 y6 y7 y8 y9 y10 y11 y12 y13 y14 y15 y16 y17

def ref11_Product {R : Type} (kf : Nat) (v1 : (List Int)) (v2 : (List (List Int))) (v3 : (List Bool)) (v4 : (List Int)) (v5 : (List (List Int))) (v6 : (List Bool)) (v7 : Int) (v8 : Int) (K : (List Int) → Int → (List (List Int)) → (List Bool) → Option R) : Option R := ref11_Product_b (ref11_May kf) (ref11_Product_l8 kf kf) (ref11_Product_l11 kf kf) (ref11_Product_l18 kf kf) (ref11_Product_l22 kf kf) (ref11_Product_l26 kf kf) v1 v2 v3 v4 v5 v6 v7 v8 K

def law14_WitnessPairs_b {R : Type} (c_law14_begun : (Bool → Option R) → Option R) (c_play_Dfa : Int → Int → (List Int) → ((List Int) → (List (List Int)) → (List Bool) → Option R) → Option R) (c_ref11_Product : (List Int) → (List (List Int)) → (List Bool) → (List Int) → (List (List Int)) → (List Bool) → Int → Int → ((List Int) → Int → (List (List Int)) → (List Bool) → Option R) → Option R) (c_witness_Count : (List Int) → (List (List Int)) → (List Bool) → Int → (Int → Option R) → Option R) (v1 : Int) (v2 : Int) (v3 : (List Int)) (v4 : Int) (v5 : Int) (v6 : (List Int)) (v7 : Int) (K : Bool → Option R) : Option R :=
    c_law14_begun (fun (v8 : Bool) =>
     bif (!v8) then
     (K false)
     else (let j28 : Bool → Option R := fun v9 =>
      (bif v9 then
       (K true)
       else (c_play_Dfa v1 v2 v3 (fun (v10 : (List Int)) (v11 : (List (List Int))) (v12 : (List Bool)) =>
         c_play_Dfa v4 v5 v6 (fun (v13 : (List Int)) (v14 : (List (List Int))) (v15 : (List Bool)) =>
          c_ref11_Product v10 v11 v12 v13 v14 v15 1 64 (fun (v16 : (List Int)) (v17 : Int) (v18 : (List (List Int))) (v19 : (List Bool)) =>
           c_ref11_Product v10 v11 v12 v13 v14 v15 2 64 (fun (v20 : (List Int)) (v21 : Int) (v22 : (List (List Int))) (v23 : (List Bool)) =>
            c_witness_Count v10 v11 v12 (IntKind.i64.wrap (Int.tmod v7 10)) (fun (v24 : Int) =>
             c_witness_Count v13 v14 v15 (IntKind.i64.wrap (Int.tmod v7 10)) (fun (v25 : Int) =>
              c_witness_Count v16 v18 v19 (IntKind.i64.wrap (Int.tmod v7 10)) (fun (v26 : Int) =>
               c_witness_Count v20 v22 v23 (IntKind.i64.wrap (Int.tmod v7 10)) (fun (v27 : Int) =>
                K (decide ((IntKind.u64.wrap (v24 + v25)) = (IntKind.u64.wrap (v26 + v27))))))))))))))
      (bif decide (60 < (v3.length : Int)) then
       (j28 true)
       else (j28 (decide (60 < (v6.length : Int)))))))

def law14_WitnessPairs {R : Type} (kf : Nat) (v1 : Int) (v2 : Int) (v3 : (List Int)) (v4 : Int) (v5 : Int) (v6 : (List Int)) (v7 : Int) (K : Bool → Option R) : Option R := law14_WitnessPairs_b (law14_begun kf) (play_Dfa kf) (ref11_Product kf) (witness_Count kf) v1 v2 v3 v4 v5 v6 v7 K

def law14_WitnessFirst_l10_b {R : Type} (c_law14_begun : (Bool → Option R) → Option R) (c_play_Dfa : Int → Int → (List Int) → ((List Int) → (List (List Int)) → (List Bool) → Option R) → Option R) (c_witness_Words : (List Int) → (List (List Int)) → (List Bool) → Int → Int → ((List (List Int)) → Option R) → Option R) (c_witness_Count : (List Int) → (List (List Int)) → (List Bool) → Int → (Int → Option R) → Option R) (l_10 : (List Int) → (List (List Int)) → (List (List Int)) → (List (List Int)) → (List Bool) → (Bool → (List Int) → (List (List Int)) → (List Bool) → Option R) → ((List Int) → (List (List Int)) → (List Bool) → Option R) → Int → Option R) (v13 : (List Int)) (v14 : (List (List Int))) (v15 : (List (List Int))) (v16 : (List (List Int))) (v17 : (List Bool)) (Kr : Bool → (List Int) → (List (List Int)) → (List Bool) → Option R) (Ke0 : (List Int) → (List (List Int)) → (List Bool) → Option R) (v12 : Int) : Option R :=
    bif decide (v12 < (v15.length : Int)) then
    (gd (decide (0 ≤ v12))
     (gd (decide (v12 < (v14.length : Int)))
      (gd (decide (0 ≤ v12))
       (gd (decide (v12 < (v15.length : Int)))
        (bif (!(decide ((v14.getD (Int.toNat v12) ([] : (List Int))) = (v15.getD (Int.toNat v12) ([] : (List Int)))))) then
         (Kr false v13 v16 v17)
         else (l_10 v13 v14 v15 v16 v17 Kr Ke0 (IntKind.i64.wrap (v12 + 1))))))))
    else (Ke0 v13 v16 v17)

def law14_WitnessFirst_b {R : Type} (c_law14_begun : (Bool → Option R) → Option R) (c_play_Dfa : Int → Int → (List Int) → ((List Int) → (List (List Int)) → (List Bool) → Option R) → Option R) (c_witness_Words : (List Int) → (List (List Int)) → (List Bool) → Int → Int → ((List (List Int)) → Option R) → Option R) (c_witness_Count : (List Int) → (List (List Int)) → (List Bool) → Int → (Int → Option R) → Option R) (l_10 : (List Int) → (List (List Int)) → (List (List Int)) → (List (List Int)) → (List Bool) → (Bool → (List Int) → (List (List Int)) → (List Bool) → Option R) → ((List Int) → (List (List Int)) → (List Bool) → Option R) → Int → Option R) (v1 : Int) (v2 : Int) (v3 : (List Int)) (v4 : Int) (v5 : Int) (K : Bool → Option R) : Option R :=
    c_law14_begun (fun (v6 : Bool) =>
     bif (!v6) then
     (K false)
     else (bif decide (60 < (v3.length : Int)) then
      (K true)
      else (c_play_Dfa v1 v2 v3 (fun (v7 : (List Int)) (v8 : (List (List Int))) (v9 : (List Bool)) =>
        c_witness_Words v7 v8 v9 (IntKind.i64.wrap (Int.tmod v4 4)) 60 (fun (v10 : (List (List Int))) =>
         c_witness_Words v7 v8 v9 (IntKind.i64.wrap (Int.tmod v4 4)) (IntKind.i64.wrap (Int.tmod v5 60)) (fun (v11 : (List (List Int))) =>
          bif (!(decide ((v11.length : Int) = (mn (v10.length : Int) (IntKind.i64.wrap (Int.tmod v5 60)))))) then
          (K false)
          else (l_10 v7 v10 v11 v8 v9
           (fun (v18 : Bool) (v19 : (List Int)) (v20 : (List (List Int))) (v21 : (List Bool)) =>
            K v18)
           (fun (v22 : (List Int)) (v23 : (List (List Int))) (v24 : (List Bool)) =>
            c_witness_Words v22 v23 v24 (-1) 5 (fun (v25 : (List (List Int))) =>
             c_witness_Words v22 v23 v24 201 5 (fun (v26 : (List (List Int))) =>
              bif decide ((IntKind.i64.wrap ((v25.length : Int) + (v26.length : Int))) = 0) then
              (c_witness_Count v22 v23 v24 (-1) (fun (v27 : Int) =>
                K (decide (v27 = 0))))
              else (K false)))) 0)))))))

def law14_WitnessFirst_l10 {R : Type} (kf : Nat) : Nat → (List Int) → (List (List Int)) → (List (List Int)) → (List (List Int)) → (List Bool) → (Bool → (List Int) → (List (List Int)) → (List Bool) → Option R) → ((List Int) → (List (List Int)) → (List Bool) → Option R) → Int → Option R
  | 0, _, _, _, _, _, _, _, _ => none
  | k + 1, y0, y1, y2, y3, y4, y5, y6, y7 => law14_WitnessFirst_l10_b (law14_begun kf) (play_Dfa kf) (witness_Words kf) (witness_Count kf) (law14_WitnessFirst_l10 kf k) y0 y1 y2 y3 y4 y5 y6 y7

def law14_WitnessFirst {R : Type} (kf : Nat) (v1 : Int) (v2 : Int) (v3 : (List Int)) (v4 : Int) (v5 : Int) (K : Bool → Option R) : Option R := law14_WitnessFirst_b (law14_begun kf) (play_Dfa kf) (witness_Words kf) (witness_Count kf) (law14_WitnessFirst_l10 kf kf) v1 v2 v3 v4 v5 K

def sh4 {R : Type} (c_law14_WitnessLeast : Int → Int → (List Int) → (Bool → Option R) → Option R) (av : List S) (es : List Ent) (K : S → List Ent → Option R) : Option R :=
  match av, es with
  | [.int .u8 v1, .int .u8 v2, .sl (.int .u8) v3], [] => c_law14_WitnessLeast v1 v2 v3 (fun (r0 : Bool) => K (.bool r0) [])
  | _, _ => none

def sh5 {R : Type} (c_law14_WitnessWords : Int → Int → (List Int) → Int → (Bool → Option R) → Option R) (av : List S) (es : List Ent) (K : S → List Ent → Option R) : Option R :=
  match av, es with
  | [.int .u8 v1, .int .u8 v2, .sl (.int .u8) v3, .int .u8 v4], [] => c_law14_WitnessWords v1 v2 v3 v4 (fun (r0 : Bool) => K (.bool r0) [])
  | _, _ => none

def sh6 {R : Type} (c_law14_WitnessFlip : Int → Int → (List Int) → Int → (Bool → Option R) → Option R) (av : List S) (es : List Ent) (K : S → List Ent → Option R) : Option R :=
  match av, es with
  | [.int .u8 v1, .int .u8 v2, .sl (.int .u8) v3, .int .u8 v4], [] => c_law14_WitnessFlip v1 v2 v3 v4 (fun (r0 : Bool) => K (.bool r0) [])
  | _, _ => none

def sh7 {R : Type} (c_law14_WitnessPairs : Int → Int → (List Int) → Int → Int → (List Int) → Int → (Bool → Option R) → Option R) (av : List S) (es : List Ent) (K : S → List Ent → Option R) : Option R :=
  match av, es with
  | [.int .u8 v1, .int .u8 v2, .sl (.int .u8) v3, .int .u8 v4, .int .u8 v5, .sl (.int .u8) v6, .int .u8 v7], [] => c_law14_WitnessPairs v1 v2 v3 v4 v5 v6 v7 (fun (r0 : Bool) => K (.bool r0) [])
  | _, _ => none

def sh8 {R : Type} (c_law14_WitnessFirst : Int → Int → (List Int) → Int → Int → (Bool → Option R) → Option R) (av : List S) (es : List Ent) (K : S → List Ent → Option R) : Option R :=
  match av, es with
  | [.int .u8 v1, .int .u8 v2, .sl (.int .u8) v3, .int .u8 v4, .int .u8 v5], [] => c_law14_WitnessFirst v1 v2 v3 v4 v5 (fun (r0 : Bool) => K (.bool r0) [])
  | _, _ => none

def sh9 {R : Type} (c_law14_begun : (Bool → Option R) → Option R) (av : List S) (es : List Ent) (K : S → List Ent → Option R) : Option R :=
  match av, es with
  | [], [] => c_law14_begun (fun (r0 : Bool) => K (.bool r0) [])
  | _, _ => none

def sh10 {R : Type} (c_play_Dfa : Int → Int → (List Int) → ((List Int) → (List (List Int)) → (List Bool) → Option R) → Option R) (av : List S) (es : List Ent) (K : S → List Ent → Option R) : Option R :=
  match av, es with
  | [.int .u8 v1, .int .u8 v2, .sl (.int .u8) v3], [] => c_play_Dfa v1 v2 v3 (fun (r0 : (List Int)) (r1 : (List (List Int))) (r2 : (List Bool)) => K (.st [.arr 256 (.int .u8) r0, .own (.slice (.int .i64)) 0, .own .bool 1]) [.buf (.slice (.int .i64)) r1 false, .buf .bool r2 false])
  | _, _ => none

def sh11 {R : Type} (c_witness_Shortest : (List Int) → (List (List Int)) → (List Bool) → (Bool → (List Int) → Option R) → Option R) (av : List S) (es : List Ent) (K : S → List Ent → Option R) : Option R :=
  match av, es with
  | [.st [.arr 256 (.int .u8) v1, .sl (.slice (.int .i64)) v2, .sl .bool v3]], [] => c_witness_Shortest v1 v2 v3 (fun (r0 : Bool) (r1 : (List Int)) => K (.tup [.own (.int .u8) 0, .bool r0]) [.buf (.int .u8) r1 false])
  | _, _ => none

def sh13 {R : Type} (c_witness_Count : (List Int) → (List (List Int)) → (List Bool) → Int → (Int → Option R) → Option R) (av : List S) (es : List Ent) (K : S → List Ent → Option R) : Option R :=
  match av, es with
  | [.st [.arr 256 (.int .u8) v1, .sl (.slice (.int .i64)) v2, .sl .bool v3], .int .i64 v4], [] => c_witness_Count v1 v2 v3 v4 (fun (r0 : Int) => K (.int .u64 r0) [])
  | _, _ => none

def sh16 {R : Type} (c_witness_Words : (List Int) → (List (List Int)) → (List Bool) → Int → Int → ((List (List Int)) → Option R) → Option R) (av : List S) (es : List Ent) (K : S → List Ent → Option R) : Option R :=
  match av, es with
  | [.st [.arr 256 (.int .u8) v1, .sl (.slice (.int .i64)) v2, .sl .bool v3], .int .i64 v4, .int .i64 v5], [] => c_witness_Words v1 v2 v3 v4 v5 (fun (r0 : (List (List Int))) => K (.own (.slice (.int .u8)) 0) [.buf (.slice (.int .u8)) r0 false])
  | _, _ => none

def sh18 {R : Type} (c_ref11_Live : (List Int) → (List (List Int)) → (List Bool) → ((List Bool) → Option R) → Option R) (av : List S) (es : List Ent) (K : S → List Ent → Option R) : Option R :=
  match av, es with
  | [.st [.arr 256 (.int .u8) v1, .sl (.slice (.int .i64)) v2, .sl .bool v3]], [] => c_ref11_Live v1 v2 v3 (fun (r0 : (List Bool)) => K (.own .bool 0) [.buf .bool r0 false])
  | _, _ => none

def sh19 {R : Type} (c_ref11_Run : (List Int) → (List (List Int)) → (List Bool) → (List Int) → (Bool → Option R) → Option R) (av : List S) (es : List Ent) (K : S → List Ent → Option R) : Option R :=
  match av, es with
  | [.st [.arr 256 (.int .u8) v1, .sl (.slice (.int .i64)) v2, .sl .bool v3], .sl (.int .u8) v4], [] => c_ref11_Run v1 v2 v3 v4 (fun (r0 : Bool) => K (.bool r0) [])
  | _, _ => none

def sh20 {R : Type} (c_ref11_Flip : (List Int) → (List (List Int)) → (List Bool) → ((List Int) → (List (List Int)) → (List Bool) → Option R) → Option R) (av : List S) (es : List Ent) (K : S → List Ent → Option R) : Option R :=
  match av, es with
  | [.st [.arr 256 (.int .u8) v1, .sl (.slice (.int .i64)) v2, .sl .bool v3]], [] => c_ref11_Flip v1 v2 v3 (fun (r0 : (List Int)) (r1 : (List (List Int))) (r2 : (List Bool)) => K (.st [.arr 256 (.int .u8) r0, .own (.slice (.int .i64)) 0, .own .bool 1]) [.buf (.slice (.int .i64)) r1 false, .buf .bool r2 false])
  | _, _ => none

def sh21 {R : Type} (c_ref11_Product : (List Int) → (List (List Int)) → (List Bool) → (List Int) → (List (List Int)) → (List Bool) → Int → Int → ((List Int) → Int → (List (List Int)) → (List Bool) → Option R) → Option R) (av : List S) (es : List Ent) (K : S → List Ent → Option R) : Option R :=
  match av, es with
  | [.st [.arr 256 (.int .u8) v1, .sl (.slice (.int .i64)) v2, .sl .bool v3], .st [.arr 256 (.int .u8) v4, .sl (.slice (.int .i64)) v5, .sl .bool v6], .int .i64 v7, .int .i64 v8], [] => c_ref11_Product v1 v2 v3 v4 v5 v6 v7 v8 (fun (r0 : (List Int)) (r1 : Int) (r2 : (List (List Int))) (r3 : (List Bool)) => K (.tup [.st [.arr 256 (.int .u8) r0, .own (.slice (.int .i64)) 0, .own .bool 1], .int .i64 r1]) [.buf (.slice (.int .i64)) r2 false, .buf .bool r3 false])
  | _, _ => none

def sh22 {R : Type} (c_play_Made : (List Int) → ((List Int) → Int → Option R) → Option R) (av : List S) (es : List Ent) (K : S → List Ent → Option R) : Option R :=
  match av, es with
  | [.sl (.int .u8) v1], [] => c_play_Made v1 (fun (r0 : (List Int)) (r1 : Int) => K (.ptr 0 []) [.box (.st [.sl (.int .u8) r0, .int .i64 r1]) false])
  | _, _ => none

def sh23 {R : Type} (c_play_Picks_num : Int → (List Int) → Int → (Int → (List Int) → Int → Option R) → Option R) (av : List S) (es : List Ent) (K : S → List Ent → Option R) : Option R :=
  match av, es with
  | [.ptr 0 [], .int .i64 v1], [.box (.st [.sl (.int .u8) v2, .int .i64 v3]) false] => c_play_Picks_num v1 v2 v3 (fun (r0 : Int) (r1 : (List Int)) (r2 : Int) => K (.int .i64 r0) [.box (.st [.sl (.int .u8) r1, .int .i64 r2]) false])
  | _, _ => none

def sh24 {R : Type} (c_machine_May : (List Int) → (List (List Int)) → (List Bool) → (Bool → Option R) → Option R) (av : List S) (es : List Ent) (K : S → List Ent → Option R) : Option R :=
  match av, es with
  | [.st [.arr 256 (.int .u8) v1, .sl (.slice (.int .i64)) v2, .sl .bool v3]], [] => c_machine_May v1 v2 v3 (fun (r0 : Bool) => K (.bool r0) [])
  | _, _ => none

def sh25 {R : Type} (c_witness_firsts : (List Int) → (List (List Int)) → (List Bool) → ((List Int) → Option R) → Option R) (av : List S) (es : List Ent) (K : S → List Ent → Option R) : Option R :=
  match av, es with
  | [.st [.arr 256 (.int .u8) v1, .sl (.slice (.int .i64)) v2, .sl .bool v3]], [] => c_witness_firsts v1 v2 v3 (fun (r0 : (List Int)) => K (.own (.int .u8) 0) [.buf (.int .u8) r0 false])
  | _, _ => none

def sh26 {R : Type} (c_slices_Reverse_byte_byte : (List Int) → ((List Int) → Option R) → Option R) (av : List S) (es : List Ent) (K : S → List Ent → Option R) : Option R :=
  match av, es with
  | [.own (.int .u8) 0], [.buf (.int .u8) v1 false] => c_slices_Reverse_byte_byte v1 (fun (r0 : (List Int)) => K (.tup []) [.buf (.int .u8) r0 false])
  | _, _ => none

def sh27 {R : Type} (c_ref11_May : (List Int) → (List (List Int)) → (List Bool) → (Bool → Option R) → Option R) (av : List S) (es : List Ent) (K : S → List Ent → Option R) : Option R :=
  match av, es with
  | [.st [.arr 256 (.int .u8) v1, .sl (.slice (.int .i64)) v2, .sl .bool v3]], [] => c_ref11_May v1 v2 v3 (fun (r0 : Bool) => K (.bool r0) [])
  | _, _ => none

def sh29 {R : Type} (c_ref11_Classes : (List Int) → (List (List Int)) → (List Bool) → (Int → Option R) → Option R) (av : List S) (es : List Ent) (K : S → List Ent → Option R) : Option R :=
  match av, es with
  | [.st [.arr 256 (.int .u8) v1, .sl (.slice (.int .i64)) v2, .sl .bool v3]], [] => c_ref11_Classes v1 v2 v3 (fun (r0 : Int) => K (.int .i64 r0) [])
  | _, _ => none

def sh30 {R : Type} (c_slices_ContainsFunc_int_int : (List Int) → Int → (Bool → Int → Option R) → Option R) (c_slices_ContainsFunc_int_int_s1 : (List Int) → (List Bool) → (Bool → (List Bool) → Option R) → Option R) (av : List S) (es : List Ent) (K : S → List Ent → Option R) : Option R :=
  match av, es with
  | [.sl (.int .i64) v1, .fn 37 [.ptr 0 []]], [.box (.int .i64 v2) false] => c_slices_ContainsFunc_int_int v1 v2 (fun (r0 : Bool) (r1 : Int) => K (.bool r0) [.box (.int .i64 r1) false])
  | [.sl (.int .i64) v1, .fn 31 [.ptr 0 []]], [.box (.sl .bool v2) false] => c_slices_ContainsFunc_int_int_s1 v1 v2 (fun (r0 : Bool) (r1 : (List Bool)) => K (.bool r0) [.box (.sl .bool r1) false])
  | _, _ => none

def sh31 {R : Type} (c_witness_Words_1 : Int → (List Bool) → (Bool → (List Bool) → Option R) → Option R) (av : List S) (es : List Ent) (K : S → List Ent → Option R) : Option R :=
  match av, es with
  | [.int .i64 v1, .ptr 0 []], [.box (.sl .bool v2) false] => c_witness_Words_1 v1 v2 (fun (r0 : Bool) (r1 : (List Bool)) => K (.bool r0) [.box (.sl .bool r1) false])
  | _, _ => none

def sh32 {R : Type} (c_witness_finder_finds : Int → Int → (List Int) → (List (List Int)) → (List Bool) → Int → (List (List Bool)) → (List Int) → (List (List Int)) → ((List Int) → (List (List Int)) → (List Bool) → Int → (List (List Bool)) → (List Int) → (List (List Int)) → Option R) → Option R) (av : List S) (es : List Ent) (K : S → List Ent → Option R) : Option R :=
  match av, es with
  | [.ptr 0 [], .int .i64 v1, .int .i64 v2], [.box (.st [.st [.arr 256 (.int .u8) v3, .sl (.slice (.int .i64)) v4, .sl .bool v5], .own (.slice .bool) 1, .int .i64 v6, .own (.int .u8) 2, .own (.slice (.int .u8)) 3]) false, .buf (.slice .bool) v7 false, .buf (.int .u8) v8 false, .buf (.slice (.int .u8)) v9 false] => c_witness_finder_finds v1 v2 v3 v4 v5 v6 v7 v8 v9 (fun (r0 : (List Int)) (r1 : (List (List Int))) (r2 : (List Bool)) (r3 : Int) (r4 : (List (List Bool))) (r5 : (List Int)) (r6 : (List (List Int))) => K (.tup []) [.box (.st [.st [.arr 256 (.int .u8) r0, .sl (.slice (.int .i64)) r1, .sl .bool r2], .own (.slice .bool) 1, .int .i64 r3, .own (.int .u8) 2, .own (.slice (.int .u8)) 3]) false, .buf (.slice .bool) r4 false, .buf (.int .u8) r5 false, .buf (.slice (.int .u8)) r6 false])
  | _, _ => none

def sh34 {R : Type} (c_ref11_To : (List Int) → (List (List Int)) → (List Bool) → Int → (List Int) → (Int → Option R) → Option R) (av : List S) (es : List Ent) (K : S → List Ent → Option R) : Option R :=
  match av, es with
  | [.st [.arr 256 (.int .u8) v1, .sl (.slice (.int .i64)) v2, .sl .bool v3], .int .i64 v4, .sl (.int .u8) v5], [] => c_ref11_To v1 v2 v3 v4 v5 (fun (r0 : Int) => K (.int .i64 r0) [])
  | _, _ => none

def sh35 {R : Type} (c_ref11_Copy : (List Int) → (List (List Int)) → (List Bool) → ((List Int) → (List (List Int)) → (List Bool) → Option R) → Option R) (av : List S) (es : List Ent) (K : S → List Ent → Option R) : Option R :=
  match av, es with
  | [.st [.arr 256 (.int .u8) v1, .sl (.slice (.int .i64)) v2, .sl .bool v3]], [] => c_ref11_Copy v1 v2 v3 (fun (r0 : (List Int)) (r1 : (List (List Int))) (r2 : (List Bool)) => K (.st [.arr 256 (.int .u8) r0, .own (.slice (.int .i64)) 0, .own .bool 1]) [.buf (.slice (.int .i64)) r1 false, .buf .bool r2 false])
  | _, _ => none

def sh36 {R : Type} (c_machine_classes : (List Int) → (List (List Int)) → (List Bool) → (Int → Option R) → Option R) (av : List S) (es : List Ent) (K : S → List Ent → Option R) : Option R :=
  match av, es with
  | [.st [.arr 256 (.int .u8) v1, .sl (.slice (.int .i64)) v2, .sl .bool v3]], [] => c_machine_classes v1 v2 v3 (fun (r0 : Int) => K (.int .i64 r0) [])
  | _, _ => none

def sh37 {R : Type} (c_machine_May_1 : Int → Int → (Bool → Int → Option R) → Option R) (av : List S) (es : List Ent) (K : S → List Ent → Option R) : Option R :=
  match av, es with
  | [.int .i64 v1, .ptr 0 []], [.box (.int .i64 v2) false] => c_machine_May_1 v1 v2 (fun (r0 : Bool) (r1 : Int) => K (.bool r0) [.box (.int .i64 r1) false])
  | _, _ => none

def sh38 {R : Type} (c_slices_IndexFunc_int_int : (List Int) → Int → (Int → Int → Option R) → Option R) (c_slices_IndexFunc_int_int_s1 : (List Int) → (List Bool) → (Int → (List Bool) → Option R) → Option R) (av : List S) (es : List Ent) (K : S → List Ent → Option R) : Option R :=
  match av, es with
  | [.sl (.int .i64) v1, .fn 37 [.ptr 0 []]], [.box (.int .i64 v2) false] => c_slices_IndexFunc_int_int v1 v2 (fun (r0 : Int) (r1 : Int) => K (.int .i64 r0) [.box (.int .i64 r1) false])
  | [.sl (.int .i64) v1, .fn 31 [.ptr 0 []]], [.box (.sl .bool v2) false] => c_slices_IndexFunc_int_int_s1 v1 v2 (fun (r0 : Int) (r1 : (List Bool)) => K (.int .i64 r0) [.box (.sl .bool r1) false])
  | _, _ => none

def sh39 {R : Type} (av : List S) (es : List Ent) (K : S → List Ent → Option R) : Option R :=
  match av, es with
  | [.sl (.int .u8) v1], [] => gd (decide (v1.length < SMALL)) (K (.own (.int .u8) 0) [.buf (.int .u8) v1 false])
  | _, _ => none

def sh40 {R : Type} (c_slices_Max_uint8_uint8 : (List Int) → (Int → Option R) → Option R) (av : List S) (es : List Ent) (K : S → List Ent → Option R) : Option R :=
  match av, es with
  | [.sl (.int .u8) v1], [] => c_slices_Max_uint8_uint8 v1 (fun (r0 : Int) => K (.int .u8 r0) [])
  | _, _ => none

end
end Go.Ab.T
