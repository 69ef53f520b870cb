/- MspTA: a part of the proofs of this seat's statements. -/
import Derived.Test.YtepemhpippkmiaaDef
import Derived.Test.YtepemhpippkmiaaRaw7
import Derived.Test.YtepemhpippkmiaaProg
import Derived.KernelRfl




namespace Go.Ab.T

open Go Go.Ab Go.Proofs

set_option maxRecDepth 100000

set_option linter.unusedVariables false

noncomputable section

def glob : Nat → Option S := fun _ => none

def raw : FuncId → Bool := fun f => [].contains f

def slices_Max_uint8_uint8_l5_b {R : Type} (l_5 : (List Int) → (Int → Option R) → Int → Int → Option R) (v2 : (List Int)) (Ke0 : Int → Option R) (v3 : Int) (v4 : Int) : Option R :=
    bif decide (v4 < (v2.length : Int)) then
    (gd (decide (0 ≤ v4))
     (gd (decide (v4 < (v2.length : Int)))
      (l_5 v2 Ke0 (mx v3 (v2.getD (Int.toNat v4) (0 : Int))) (IntKind.i64.wrap (v4 + 1)))))
    else (Ke0 v3)

def slices_Max_uint8_uint8_b {R : Type} (l_5 : (List Int) → (Int → Option R) → Int → Int → Option R) (v1 : (List Int)) (K : Int → Option R) : Option R :=
    bif decide ((v1.length : Int) < 1) then
    (none)
    else (gd (decide (0 < (v1.length : Int)))
     (l_5 v1
      (fun (v5 : Int) =>
       K v5) (v1.getD 0 (0 : Int)) 1))

def slices_Max_uint8_uint8_l5 {R : Type} (kf : Nat) : Nat → (List Int) → (Int → Option R) → Int → Int → Option R
  | 0, _, _, _, _ => none
  | k + 1, y0, y1, y2, y3 => slices_Max_uint8_uint8_l5_b (slices_Max_uint8_uint8_l5 kf k) y0 y1 y2 y3

def slices_Max_uint8_uint8 {R : Type} (kf : Nat) (v1 : (List Int)) (K : Int → Option R) : Option R := slices_Max_uint8_uint8_b (slices_Max_uint8_uint8_l5 kf kf) v1 K

def machine_classes_b {R : Type} (c_slices_Max_uint8_uint8 : (List Int) → (Int → Option R) → Option R) (v1 : (List Int)) (v2 : (List (List Int))) (v3 : (List Bool)) (K : Int → Option R) : Option R :=
    c_slices_Max_uint8_uint8 v1 (fun (v4 : Int) =>
     K (IntKind.i64.wrap ((IntKind.i64.wrap v4) + 1)))

def machine_classes {R : Type} (kf : Nat) (v1 : (List Int)) (v2 : (List (List Int))) (v3 : (List Bool)) (K : Int → Option R) : Option R := machine_classes_b (slices_Max_uint8_uint8 kf) v1 v2 v3 K

def machine_May_1_b {R : Type} (v1 : Int) (v2 : Int) (K : Bool → Int → Option R) : Option R :=
    bif decide (v1 < 0) then
    (K true v2)
    else (K (decide (v2 ≤ v1)) v2)

def machine_May_1 {R : Type} (v1 : Int) (v2 : Int) (K : Bool → Int → Option R) : Option R := machine_May_1_b v1 v2 K

def slices_IndexFunc_int_int_l2_b {R : Type} (c_machine_May_1 : Int → Int → (Bool → Int → Option R) → Option R) (l_2 : (List Int) → Int → (Int → Int → Option R) → (Int → Option R) → Int → Int → Option R) (v3 : (List Int)) (v4 : Int) (Kr : Int → Int → Option R) (Ke0 : Int → Option R) (v5 : Int) (v6 : Int) : Option R :=
    bif decide (v5 < v4) then
    (gd (decide (0 ≤ v5))
     (gd (decide (v5 < (v3.length : Int)))
      (c_machine_May_1 (v3.getD (Int.toNat v5) (0 : Int)) v6 (fun (v7 : Bool) (v8 : Int) =>
        bif v7 then
        (Kr v5 v8)
        else (l_2 v3 v4 Kr Ke0 (IntKind.i64.wrap (v5 + 1)) v8)))))
    else (Ke0 v6)

def slices_IndexFunc_int_int_b {R : Type} (c_machine_May_1 : Int → Int → (Bool → Int → Option R) → Option R) (l_2 : (List Int) → Int → (Int → Int → Option R) → (Int → Option R) → Int → Int → Option R) (v1 : (List Int)) (v2 : Int) (K : Int → Int → Option R) : Option R :=
    l_2 v1 (v1.length : Int)
    (fun (v9 : Int) (v10 : Int) =>
     K v9 v10)
    (fun (v11 : Int) =>
     K (-1) v11) 0 v2

def slices_IndexFunc_int_int_l2 {R : Type} (kf : Nat) : Nat → (List Int) → Int → (Int → Int → Option R) → (Int → Option R) → Int → Int → Option R
  | 0, _, _, _, _, _, _ => none
  | k + 1, y0, y1, y2, y3, y4, y5 => slices_IndexFunc_int_int_l2_b machine_May_1 (slices_IndexFunc_int_int_l2 kf k) y0 y1 y2 y3 y4 y5

def slices_IndexFunc_int_int {R : Type} (kf : Nat) (v1 : (List Int)) (v2 : Int) (K : Int → Int → Option R) : Option R := slices_IndexFunc_int_int_b machine_May_1 (slices_IndexFunc_int_int_l2 kf kf) v1 v2 K

def slices_ContainsFunc_int_int_b {R : Type} (c_slices_IndexFunc_int_int : (List Int) → Int → (Int → Int → Option R) → Option R) (v1 : (List Int)) (v2 : Int) (K : Bool → Int → Option R) : Option R :=
    c_slices_IndexFunc_int_int v1 v2 (fun (v3 : Int) (v4 : Int) =>
     K (decide (0 ≤ v3)) v4)

def slices_ContainsFunc_int_int {R : Type} (kf : Nat) (v1 : (List Int)) (v2 : Int) (K : Bool → Int → Option R) : Option R := slices_ContainsFunc_int_int_b (slices_IndexFunc_int_int kf) v1 v2 K

def machine_May_l6_b {R : Type} (c_machine_classes : (List Int) → (List (List Int)) → (List Bool) → (Int → Option R) → Option R) (c_slices_ContainsFunc_int_int : (List Int) → Int → (Bool → Int → Option R) → Option R) (l_6 : Int → (List (List Int)) → Int → (Bool → Option R) → (Option R) → Int → Int → Option R) (v6 : Int) (v7 : (List (List Int))) (v8 : Int) (Kr : Bool → Option R) (Ke0 : Option R) (v9 : Int) (v10 : Int) : Option R :=
    bif decide (v9 < v8) then
    (gd (decide (0 ≤ v9))
     (gd (decide (v9 < (v7.length : Int)))
      (let j13 : Bool → Int → Option R := fun v11 v12 =>
       (bif v11 then
        (Kr false)
        else (l_6 v6 v7 v8 Kr Ke0 (IntKind.i64.wrap (v9 + 1)) v12))
       (bif (!(decide (((v7.getD (Int.toNat v9) ([] : (List Int))).length : Int) = v6))) then
        (j13 true v10)
        else (c_slices_ContainsFunc_int_int (v7.getD (Int.toNat v9) ([] : (List Int))) v10 (fun (v14 : Bool) (v15 : Int) =>
          j13 v14 v15))))))
    else (Ke0)

def machine_May_b {R : Type} (c_machine_classes : (List Int) → (List (List Int)) → (List Bool) → (Int → Option R) → Option R) (c_slices_ContainsFunc_int_int : (List Int) → Int → (Bool → Int → Option R) → Option R) (l_6 : Int → (List (List Int)) → Int → (Bool → Option R) → (Option R) → Int → Int → Option R) (v1 : (List Int)) (v2 : (List (List Int))) (v3 : (List Bool)) (K : Bool → Option R) : Option R :=
    let j17 : Bool → Option R := fun v4 =>
    (bif v4 then
     (K false)
     else (c_machine_classes v1 v2 v3 (fun (v5 : Int) =>
       l_6 v5 v2 (v2.length : Int)
       (fun (v16 : Bool) =>
        K v16)
       (K true) 0 (v2.length : Int))))
    (bif decide ((v2.length : Int) < 1) then
     (j17 true)
     else (bif decide (2000 < (v2.length : Int)) then
      (j17 true)
      else (j17 (!(decide ((v3.length : Int) = (v2.length : Int)))))))

def machine_May_l6 {R : Type} (kf : Nat) : Nat → Int → (List (List Int)) → Int → (Bool → Option R) → (Option R) → Int → Int → Option R
  | 0, _, _, _, _, _, _, _ => none
  | k + 1, y0, y1, y2, y3, y4, y5, y6 => machine_May_l6_b (machine_classes kf) (slices_ContainsFunc_int_int kf) (machine_May_l6 kf k) y0 y1 y2 y3 y4 y5 y6

def machine_May {R : Type} (kf : Nat) (v1 : (List Int)) (v2 : (List (List Int))) (v3 : (List Bool)) (K : Bool → Option R) : Option R := machine_May_b (machine_classes kf) (slices_ContainsFunc_int_int kf) (machine_May_l6 kf kf) v1 v2 v3 K

def machine_Classes_b {R : Type} (c_machine_May : (List Int) → (List (List Int)) → (List Bool) → (Bool → Option R) → Option R) (c_machine_classes : (List Int) → (List (List Int)) → (List Bool) → (Int → Option R) → Option R) (v1 : (List Int)) (v2 : (List (List Int))) (v3 : (List Bool)) (K : Int → Option R) : Option R :=
    c_machine_May v1 v2 v3 (fun (v4 : Bool) =>
     bif (!v4) then
     (K 0)
     else (c_machine_classes v1 v2 v3 (fun (v5 : Int) =>
       K v5)))

def machine_Classes {R : Type} (kf : Nat) (v1 : (List Int)) (v2 : (List (List Int))) (v3 : (List Bool)) (K : Int → Option R) : Option R := machine_Classes_b (machine_May kf) (machine_classes kf) v1 v2 v3 K

def machine_To_l4_b {R : Type} (c_machine_May : (List Int) → (List (List Int)) → (List Bool) → (Bool → Option R) → Option R) (l_4 : (List Int) → Int → (List Int) → (List (List Int)) → (Int → Option R) → Int → Int → Option R) (v8 : (List Int)) (v9 : Int) (v11 : (List Int)) (v12 : (List (List Int))) (Ke0 : Int → Option R) (v7 : Int) (v10 : Int) : Option R :=
    bif decide (v10 < v9) then
    (gd (decide (0 ≤ v10))
     (gd (decide (v10 < (v8.length : Int)))
      (gd (decide (0 ≤ v7))
       (gd (decide (v7 < (v12.length : Int)))
        (gd (decide (0 ≤ (v8.getD (Int.toNat v10) (0 : Int))))
         (gd (decide ((v8.getD (Int.toNat v10) (0 : Int)) < 256))
          (gd (decide (0 ≤ (v11.getD (Int.toNat (v8.getD (Int.toNat v10) (0 : Int))) (0 : Int))))
           (gd (decide ((v11.getD (Int.toNat (v8.getD (Int.toNat v10) (0 : Int))) (0 : Int)) < ((v12.getD (Int.toNat v7) ([] : (List Int))).length : Int)))
            (let v14 : Int := ((v12.getD (Int.toNat v7) ([] : (List Int))).getD (Int.toNat (v11.getD (Int.toNat (v8.getD (Int.toNat v10) (0 : Int))) (0 : Int))) (0 : Int))
             l_4 v8 v9 v11 v12 Ke0 v14 (IntKind.i64.wrap (v10 + 1)))))))))))
    else (Ke0 v7)

def machine_To_b {R : Type} (c_machine_May : (List Int) → (List (List Int)) → (List Bool) → (Bool → Option R) → Option R) (l_4 : (List Int) → Int → (List Int) → (List (List Int)) → (Int → Option R) → Int → Int → Option R) (v1 : (List Int)) (v2 : (List (List Int))) (v3 : (List Bool)) (v4 : Int) (v5 : (List Int)) (K : Int → Option R) : Option R :=
    let j16 : Bool → Option R := fun v6 =>
    (bif v6 then
     (K (-1))
     else (l_4 v5 (v5.length : Int) v1 v2
      (fun (v15 : Int) =>
       K v15) v4 0))
    (c_machine_May v1 v2 v3 (fun (v17 : Bool) =>
      bif (!v17) then
      (j16 true)
      else (bif decide (v4 < 0) then
       (j16 true)
       else (j16 (decide ((v2.length : Int) ≤ v4))))))

def machine_To_l4 {R : Type} (kf : Nat) : Nat → (List Int) → Int → (List Int) → (List (List Int)) → (Int → Option R) → Int → Int → Option R
  | 0, _, _, _, _, _, _, _ => none
  | k + 1, y0, y1, y2, y3, y4, y5, y6 => machine_To_l4_b (machine_May kf) (machine_To_l4 kf k) y0 y1 y2 y3 y4 y5 y6

def machine_To {R : Type} (kf : Nat) (v1 : (List Int)) (v2 : (List (List Int))) (v3 : (List Bool)) (v4 : Int) (v5 : (List Int)) (K : Int → Option R) : Option R := machine_To_b (machine_May kf) (machine_To_l4 kf kf) v1 v2 v3 v4 v5 K

def machine_Run_b {R : Type} (c_machine_To : (List Int) → (List (List Int)) → (List Bool) → Int → (List Int) → (Int → Option R) → Option R) (v1 : (List Int)) (v2 : (List (List Int))) (v3 : (List Bool)) (v4 : (List Int)) (K : Bool → Option R) : Option R :=
    c_machine_To v1 v2 v3 0 v4 (fun (v5 : Int) =>
     bif decide (0 ≤ v5) then
     (gd (decide (0 ≤ v5))
      (gd (decide (v5 < (v3.length : Int)))
       (K (v3.getD (Int.toNat v5) false))))
     else (K false))

def machine_Run {R : Type} (kf : Nat) (v1 : (List Int)) (v2 : (List (List Int))) (v3 : (List Bool)) (v4 : (List Int)) (K : Bool → Option R) : Option R := machine_Run_b (machine_To kf) v1 v2 v3 v4 K

def machine_Copy_l3_b {R : Type} (l_3 : (List (List Int)) → Int → (List Int) → (List (List Int)) → (List Bool) → (List Int) → (List (List Int)) → (List Bool) → ((List Int) → (List (List Int)) → (List Bool) → (List Int) → (List (List Int)) → (List (List Int)) → (List Bool) → Option R) → Int → (List (List Int)) → Option R) (v4 : (List (List Int))) (v5 : Int) (v7 : (List Int)) (v8 : (List (List Int))) (v9 : (List Bool)) (v10 : (List Int)) (v12 : (List (List Int))) (v13 : (List Bool)) (Ke0 : (List Int) → (List (List Int)) → (List Bool) → (List Int) → (List (List Int)) → (List (List Int)) → (List Bool) → Option R) (v6 : Int) (v11 : (List (List Int))) : Option R :=
    bif decide (v6 < v5) then
    (gd (decide (0 ≤ v6))
     (gd (decide (v6 < (v4.length : Int)))
      (gd (decide ((v4.getD (Int.toNat v6) ([] : (List Int))).length < SMALL))
       (gd (decide (v11.length + ([(v4.getD (Int.toNat v6) ([] : (List Int)))] : List (List Int)).length < SMALL))
        (l_3 v4 v5 v7 v8 v9 v10 v12 v13 Ke0 (IntKind.i64.wrap (v6 + 1)) (v11 ++ ([(v4.getD (Int.toNat v6) ([] : (List Int)))] : List (List Int))))))))
    else (Ke0 v7 v8 v9 v10 v11 v12 v13)

def machine_Copy_b {R : Type} (l_3 : (List (List Int)) → Int → (List Int) → (List (List Int)) → (List Bool) → (List Int) → (List (List Int)) → (List Bool) → ((List Int) → (List (List Int)) → (List Bool) → (List Int) → (List (List Int)) → (List (List Int)) → (List Bool) → Option R) → Int → (List (List Int)) → Option R) (v1 : (List Int)) (v2 : (List (List Int))) (v3 : (List Bool)) (K : (List Int) → (List (List Int)) → (List Bool) → Option R) : Option R :=
    l_3 v2 (v2.length : Int) v1 v2 v3 (List.replicate 256 (0 : Int)) ([] : List (List Int)) ([] : List Bool)
    (fun (v14 : (List Int)) (v15 : (List (List Int))) (v16 : (List Bool)) (v17 : (List Int)) (v18 : (List (List Int))) (v19 : (List (List Int))) (v20 : (List Bool)) =>
     gd (decide (v16.length < SMALL))
     (K v14 v18 v16)) 0 ([] : List (List Int))

def machine_Copy_l3 {R : Type} (kf : Nat) : Nat → (List (List Int)) → Int → (List Int) → (List (List Int)) → (List Bool) → (List Int) → (List (List Int)) → (List Bool) → ((List Int) → (List (List Int)) → (List Bool) → (List Int) → (List (List Int)) → (List (List Int)) → (List Bool) → Option R) → Int → (List (List Int)) → Option R
  | 0, _, _, _, _, _, _, _, _, _, _, _ => none
  | k + 1, y0, y1, y2, y3, y4, y5, y6, y7, y8, y9, y10 => machine_Copy_l3_b (machine_Copy_l3 kf k) y0 y1 y2 y3 y4 y5 y6 y7 y8 y9 y10

def machine_Copy {R : Type} (kf : Nat) (v1 : (List Int)) (v2 : (List (List Int))) (v3 : (List Bool)) (K : (List Int) → (List (List Int)) → (List Bool) → Option R) : Option R := machine_Copy_b (machine_Copy_l3 kf kf) v1 v2 v3 K

def machine_Flip_l5_b {R : Type} (c_machine_May : (List Int) → (List (List Int)) → (List Bool) → (Bool → Option R) → Option R) (c_machine_Copy : (List Int) → (List (List Int)) → (List Bool) → ((List Int) → (List (List Int)) → (List Bool) → Option R) → Option R) (l_5 : Int → (List Int) → (List Int) → (List (List Int)) → (List Bool) → (List (List Int)) → ((List Int) → (List Int) → (List (List Int)) → (List Bool) → (List (List Int)) → (List Bool) → Option R) → Int → (List Bool) → Option R) (v8 : Int) (v10 : (List Int)) (v11 : (List Int)) (v12 : (List (List Int))) (v13 : (List Bool)) (v14 : (List (List Int))) (Ke0 : (List Int) → (List Int) → (List (List Int)) → (List Bool) → (List (List Int)) → (List Bool) → Option R) (v9 : Int) (v15 : (List Bool)) : Option R :=
    bif decide (v9 < v8) then
    (gd (decide (0 ≤ v9))
     (gd (decide (v9 < (v15.length : Int)))
      (gd (decide (0 ≤ v9))
       (gd (decide (v9 < (v15.length : Int)))
        (l_5 v8 v10 v11 v12 v13 v14 Ke0 (IntKind.i64.wrap (v9 + 1)) (v15.set (Int.toNat v9) (!(v15.getD (Int.toNat v9) false))))))))
    else (Ke0 v10 v11 v12 v13 v14 v15)

def machine_Flip_b {R : Type} (c_machine_May : (List Int) → (List (List Int)) → (List Bool) → (Bool → Option R) → Option R) (c_machine_Copy : (List Int) → (List (List Int)) → (List Bool) → ((List Int) → (List (List Int)) → (List Bool) → Option R) → Option R) (l_5 : Int → (List Int) → (List Int) → (List (List Int)) → (List Bool) → (List (List Int)) → ((List Int) → (List Int) → (List (List Int)) → (List Bool) → (List (List Int)) → (List Bool) → Option R) → Int → (List Bool) → Option R) (v1 : (List Int)) (v2 : (List (List Int))) (v3 : (List Bool)) (K : (List Int) → (List (List Int)) → (List Bool) → Option R) : Option R :=
    c_machine_May v1 v2 v3 (fun (v4 : Bool) =>
     bif (!v4) then
     (K (List.replicate 256 (0 : Int)) ([] : List (List Int)) ([] : List Bool))
     else (c_machine_Copy v1 v2 v3 (fun (v5 : (List Int)) (v6 : (List (List Int))) (v7 : (List Bool)) =>
       l_5 (v7.length : Int) (List.replicate 256 (0 : Int)) v5 ([] : List (List Int)) ([] : List Bool) v6
       (fun (v16 : (List Int)) (v17 : (List Int)) (v18 : (List (List Int))) (v19 : (List Bool)) (v20 : (List (List Int))) (v21 : (List Bool)) =>
        K v17 v20 v21) 0 v7)))

def machine_Flip_l5 {R : Type} (kf : Nat) : Nat → Int → (List Int) → (List Int) → (List (List Int)) → (List Bool) → (List (List Int)) → ((List Int) → (List Int) → (List (List Int)) → (List Bool) → (List (List Int)) → (List Bool) → Option R) → Int → (List Bool) → Option R
  | 0, _, _, _, _, _, _, _, _, _ => none
  | k + 1, y0, y1, y2, y3, y4, y5, y6, y7, y8 => machine_Flip_l5_b (machine_May kf) (machine_Copy kf) (machine_Flip_l5 kf k) y0 y1 y2 y3 y4 y5 y6 y7 y8

def machine_Flip {R : Type} (kf : Nat) (v1 : (List Int)) (v2 : (List (List Int))) (v3 : (List Bool)) (K : (List Int) → (List (List Int)) → (List Bool) → Option R) : Option R := machine_Flip_b (machine_May kf) (machine_Copy kf) (machine_Flip_l5 kf kf) v1 v2 v3 K

def machine_Reach_l6_b {R : Type} (c_machine_May : (List Int) → (List (List Int)) → (List Bool) → (Bool → Option R) → Option R) (l_6 : ((List Bool) → Option R) → (List Int) → (List (List Int)) → (List Bool) → (List Bool) → (List Int) → Option R) (l_10 : (List Int) → Int → (List Int) → (List (List Int)) → (List Bool) → ((List Int) → (List (List Int)) → (List Bool) → (List Bool) → (List Int) → Option R) → Int → (List Bool) → (List Int) → Option R) (Ke0 : (List Bool) → Option R) (v5 : (List Int)) (v6 : (List (List Int))) (v7 : (List Bool)) (v8 : (List Bool)) (v9 : (List Int)) : Option R :=
    bif decide (0 < (v9.length : Int)) then
    (gd (decide (0 < (v9.length : Int)))
     (gd (decide (1 ≤ (v9.length : Int)))
      (gd (decide (0 ≤ (v9.getD 0 (0 : Int))))
       (gd (decide ((v9.getD 0 (0 : Int)) < (v6.length : Int)))
        (let v10 : Int := ((v6.getD (Int.toNat (v9.getD 0 (0 : Int))) ([] : (List Int))).length : Int)
         l_10 (v6.getD (Int.toNat (v9.getD 0 (0 : Int))) ([] : (List Int))) v10 v5 v6 v7
         (fun (v19 : (List Int)) (v20 : (List (List Int))) (v21 : (List Bool)) (v22 : (List Bool)) (v23 : (List Int)) =>
          l_6 Ke0 v19 v20 v21 v22 v23) 0 v8 (v9.drop 1))))))
    else (Ke0 v8)

def machine_Reach_l10_b {R : Type} (c_machine_May : (List Int) → (List (List Int)) → (List Bool) → (Bool → Option R) → Option R) (l_6 : ((List Bool) → Option R) → (List Int) → (List (List Int)) → (List Bool) → (List Bool) → (List Int) → Option R) (l_10 : (List Int) → Int → (List Int) → (List (List Int)) → (List Bool) → ((List Int) → (List (List Int)) → (List Bool) → (List Bool) → (List Int) → Option R) → Int → (List Bool) → (List Int) → Option R) (v11 : (List Int)) (v12 : Int) (v14 : (List Int)) (v15 : (List (List Int))) (v16 : (List Bool)) (Ke2 : (List Int) → (List (List Int)) → (List Bool) → (List Bool) → (List Int) → Option R) (v13 : Int) (v17 : (List Bool)) (v18 : (List Int)) : Option R :=
    bif decide (v13 < v12) then
    (gd (decide (0 ≤ v13))
     (gd (decide (v13 < (v11.length : Int)))
      (gd (decide (0 ≤ (v11.getD (Int.toNat v13) (0 : Int))))
       (gd (decide ((v11.getD (Int.toNat v13) (0 : Int)) < (v17.length : Int)))
        (bif (!(v17.getD (Int.toNat (v11.getD (Int.toNat v13) (0 : Int))) false)) then
         (gd (decide (0 ≤ (v11.getD (Int.toNat v13) (0 : Int))))
          (gd (decide ((v11.getD (Int.toNat v13) (0 : Int)) < (v17.length : Int)))
           (gd (decide (v18.length + ([(v11.getD (Int.toNat v13) (0 : Int))] : List Int).length < SMALL))
            (l_10 v11 v12 v14 v15 v16 Ke2 (IntKind.i64.wrap (v13 + 1)) (v17.set (Int.toNat (v11.getD (Int.toNat v13) (0 : Int))) true) (v18 ++ ([(v11.getD (Int.toNat v13) (0 : Int))] : List Int))))))
         else (l_10 v11 v12 v14 v15 v16 Ke2 (IntKind.i64.wrap (v13 + 1)) v17 v18))))))
    else (Ke2 v14 v15 v16 v17 v18)

def machine_Reach_b {R : Type} (c_machine_May : (List Int) → (List (List Int)) → (List Bool) → (Bool → Option R) → Option R) (l_6 : ((List Bool) → Option R) → (List Int) → (List (List Int)) → (List Bool) → (List Bool) → (List Int) → Option R) (l_10 : (List Int) → Int → (List Int) → (List (List Int)) → (List Bool) → ((List Int) → (List (List Int)) → (List Bool) → (List Bool) → (List Int) → Option R) → Int → (List Bool) → (List Int) → Option R) (v1 : (List Int)) (v2 : (List (List Int))) (v3 : (List Bool)) (K : (List Bool) → Option R) : Option R :=
    c_machine_May v1 v2 v3 (fun (v4 : Bool) =>
     bif (!v4) then
     (K ([] : List Bool))
     else (gd (decide (0 ≤ (v2.length : Int)))
      (gd (decide ((v2.length : Int) ≤ (v2.length : Int)))
       (gd (decide ((v2.length : Int) < (SMALL : Int)))
        (gd (decide (0 < ((List.replicate (Int.toNat (v2.length : Int)) false).length : Int)))
         (l_6
          (fun (v24 : (List Bool)) =>
           K v24) v1 v2 v3 ((List.replicate (Int.toNat (v2.length : Int)) false).set 0 true) ([0] : List Int)))))))

def machine_Reach_l10 {R : Type} (kf : Nat) : Nat → (List Int) → Int → (List Int) → (List (List Int)) → (List Bool) → ((List Int) → (List (List Int)) → (List Bool) → (List Bool) → (List Int) → Option R) → Int → (List Bool) → (List Int) → Option R
  | 0, _, _, _, _, _, _, _, _, _ => none
  | k + 1, y0, y1, y2, y3, y4, y5, y6, y7, y8 => machine_Reach_l10_b (machine_May kf) (fun _ _ _ _ _ _ => none) (machine_Reach_l10 kf k) y0 y1 y2 y3 y4 y5 y6 y7 y8

def machine_Reach_l6 {R : Type} (kf : Nat) : Nat → ((List Bool) → Option R) → (List Int) → (List (List Int)) → (List Bool) → (List Bool) → (List Int) → Option R
  | 0, _, _, _, _, _, _ => none
  | k + 1, y0, y1, y2, y3, y4, y5 => machine_Reach_l6_b (machine_May kf) (machine_Reach_l6 kf k) (machine_Reach_l10 kf k) y0 y1 y2 y3 y4 y5

def machine_Reach {R : Type} (kf : Nat) (v1 : (List Int)) (v2 : (List (List Int))) (v3 : (List Bool)) (K : (List Bool) → Option R) : Option R := machine_Reach_b (machine_May kf) (machine_Reach_l6 kf kf) (machine_Reach_l10 kf kf) v1 v2 v3 K

def machine_Live_l16_b {R : Type} (c_machine_May : (List Int) → (List (List Int)) → (List Bool) → (Bool → Option R) → Option R) (l_16 : Int → (List (List Int)) → (List Bool) → ((List (List Int)) → (List Bool) → (List Int) → Option R) → Int → (List Int) → Option R) (l_21 : ((List Bool) → Option R) → (List (List Int)) → (List Bool) → (List Int) → Option R) (l_25 : (List Int) → Int → (List (List Int)) → ((List (List Int)) → (List Bool) → (List Int) → Option R) → Int → (List Bool) → (List Int) → Option R) (v5 : Int) (v7 : (List (List Int))) (v8 : (List Bool)) (Ke4 : (List (List Int)) → (List Bool) → (List Int) → Option R) (v6 : Int) (v9 : (List Int)) : Option R :=
    bif decide (v6 < v5) then
    (gd (decide (0 ≤ v6))
     (gd (decide (v6 < (v8.length : Int)))
      (bif (v8.getD (Int.toNat v6) false) then
       (gd (decide (v9.length + ([v6] : List Int).length < SMALL))
        (l_16 v5 v7 v8 Ke4 (IntKind.i64.wrap (v6 + 1)) (v9 ++ ([v6] : List Int))))
       else (l_16 v5 v7 v8 Ke4 (IntKind.i64.wrap (v6 + 1)) v9))))
    else (Ke4 v7 v8 v9)

def machine_Live_l21_b {R : Type} (c_machine_May : (List Int) → (List (List Int)) → (List Bool) → (Bool → Option R) → Option R) (l_16 : Int → (List (List Int)) → (List Bool) → ((List (List Int)) → (List Bool) → (List Int) → Option R) → Int → (List Int) → Option R) (l_21 : ((List Bool) → Option R) → (List (List Int)) → (List Bool) → (List Int) → Option R) (l_25 : (List Int) → Int → (List (List Int)) → ((List (List Int)) → (List Bool) → (List Int) → Option R) → Int → (List Bool) → (List Int) → Option R) (Ke6 : (List Bool) → Option R) (v13 : (List (List Int))) (v14 : (List Bool)) (v15 : (List Int)) : Option R :=
    bif decide ((v15.length : Int) = 0) then
    (Ke6 v14)
    else (gd (decide (0 < (v15.length : Int)))
     (gd (decide (1 ≤ (v15.length : Int)))
      (gd (decide (0 ≤ (v15.getD 0 (0 : Int))))
       (gd (decide ((v15.getD 0 (0 : Int)) < (v13.length : Int)))
        (let v16 : Int := ((v13.getD (Int.toNat (v15.getD 0 (0 : Int))) ([] : (List Int))).length : Int)
         l_25 (v13.getD (Int.toNat (v15.getD 0 (0 : Int))) ([] : (List Int))) v16 v13
         (fun (v23 : (List (List Int))) (v24 : (List Bool)) (v25 : (List Int)) =>
          l_21 Ke6 v23 v24 v25) 0 v14 (v15.drop 1))))))

def machine_Live_l25_b {R : Type} (c_machine_May : (List Int) → (List (List Int)) → (List Bool) → (Bool → Option R) → Option R) (l_16 : Int → (List (List Int)) → (List Bool) → ((List (List Int)) → (List Bool) → (List Int) → Option R) → Int → (List Int) → Option R) (l_21 : ((List Bool) → Option R) → (List (List Int)) → (List Bool) → (List Int) → Option R) (l_25 : (List Int) → Int → (List (List Int)) → ((List (List Int)) → (List Bool) → (List Int) → Option R) → Int → (List Bool) → (List Int) → Option R) (v17 : (List Int)) (v18 : Int) (v20 : (List (List Int))) (Ke8 : (List (List Int)) → (List Bool) → (List Int) → Option R) (v19 : Int) (v21 : (List Bool)) (v22 : (List Int)) : Option R :=
    bif decide (v19 < v18) then
    (gd (decide (0 ≤ v19))
     (gd (decide (v19 < (v17.length : Int)))
      (gd (decide (0 ≤ (v17.getD (Int.toNat v19) (0 : Int))))
       (gd (decide ((v17.getD (Int.toNat v19) (0 : Int)) < (v21.length : Int)))
        (bif (v21.getD (Int.toNat (v17.getD (Int.toNat v19) (0 : Int))) false) then
         (l_25 v17 v18 v20 Ke8 (IntKind.i64.wrap (v19 + 1)) v21 v22)
         else (gd (decide (0 ≤ (v17.getD (Int.toNat v19) (0 : Int))))
          (gd (decide ((v17.getD (Int.toNat v19) (0 : Int)) < (v21.length : Int)))
           (gd (decide (v22.length + ([(v17.getD (Int.toNat v19) (0 : Int))] : List Int).length < SMALL))
            (l_25 v17 v18 v20 Ke8 (IntKind.i64.wrap (v19 + 1)) (v21.set (Int.toNat (v17.getD (Int.toNat v19) (0 : Int))) true) (v22 ++ ([(v17.getD (Int.toNat v19) (0 : Int))] : List Int)))))))))))
    else (Ke8 v20 v21 v22)

def live3 {R : Type} (c_machine_May : (List Int) → (List (List Int)) → (List Bool) → (Bool → Option R) → Option R) (l_16 : Int → (List (List Int)) → (List Bool) → ((List (List Int)) → (List Bool) → (List Int) → Option R) → Int → (List Int) → Option R) (l_21 : ((List Bool) → Option R) → (List (List Int)) → (List Bool) → (List Int) → Option R) (l_25 : (List Int) → Int → (List (List Int)) → ((List (List Int)) → (List Bool) → (List Int) → Option R) → Int → (List Bool) → (List Int) → Option R) (v1 : (List Int)) (v2 : (List (List Int))) (v3 : (List Bool)) (vf : (List (List Int))) (K : (List Bool) → Option R) : Option R :=
     (gd (decide (v3.length < SMALL))
       (l_16 (v3.length : Int) vf v3
        (fun (v10 : (List (List Int))) (v11 : (List Bool)) (v12 : (List Int)) =>
         l_21
         (fun (v26 : (List Bool)) =>
          K v26) v10 v11 v12) 0 ([] : List Int)))
def live0 {R : Type} (c_machine_May : (List Int) → (List (List Int)) → (List Bool) → (Bool → Option R) → Option R) (l_16 : Int → (List (List Int)) → (List Bool) → ((List (List Int)) → (List Bool) → (List Int) → Option R) → Int → (List Int) → Option R) (l_21 : ((List Bool) → Option R) → (List (List Int)) → (List Bool) → (List Int) → Option R) (l_25 : (List Int) → Int → (List (List Int)) → ((List (List Int)) → (List Bool) → (List Int) → Option R) → Int → (List Bool) → (List Int) → Option R) (v1 : (List Int)) (v2 : (List (List Int))) (v3 : (List Bool)) (K : (List Bool) → Option R) (J : Option R) : Option R :=
    c_machine_May v1 v2 v3 (fun (v4 : Bool) => bif (!v4) then (K ([] : (List Bool))) else J)

def machine_Live_b {R : Type} (c_machine_May : (List Int) → (List (List Int)) → (List Bool) → (Bool → Option R) → Option R) (l_16 : Int → (List (List Int)) → (List Bool) → ((List (List Int)) → (List Bool) → (List Int) → Option R) → Int → (List Int) → Option R) (l_21 : ((List Bool) → Option R) → (List (List Int)) → (List Bool) → (List Int) → Option R) (l_25 : (List Int) → Int → (List (List Int)) → ((List (List Int)) → (List Bool) → (List Int) → Option R) → Int → (List Bool) → (List Int) → Option R) (v1 : (List Int)) (v2 : (List (List Int))) (v3 : (List Bool)) (K : (List Bool) → Option R) : Option R := live0 c_machine_May l_16 l_21 l_25 v1 v2 v3 K (gd (fromG v2) (live3 c_machine_May l_16 l_21 l_25 v1 v2 v3 (fromK v2) K))

def machine_Live_l16 {R : Type} (kf : Nat) : Nat → Int → (List (List Int)) → (List Bool) → ((List (List Int)) → (List Bool) → (List Int) → Option R) → Int → (List Int) → Option R
  | 0, _, _, _, _, _, _ => none
  | k + 1, y0, y1, y2, y3, y4, y5 => machine_Live_l16_b (machine_May kf) (machine_Live_l16 kf k) (fun _ _ _ _ => none) (fun _ _ _ _ _ _ _ => none) y0 y1 y2 y3 y4 y5

def machine_Live_l25 {R : Type} (kf : Nat) : Nat → (List Int) → Int → (List (List Int)) → ((List (List Int)) → (List Bool) → (List Int) → Option R) → Int → (List Bool) → (List Int) → Option R
  | 0, _, _, _, _, _, _, _ => none
  | k + 1, y0, y1, y2, y3, y4, y5, y6 => machine_Live_l25_b (machine_May kf) (machine_Live_l16 kf k) (fun _ _ _ _ => none) (machine_Live_l25 kf k) y0 y1 y2 y3 y4 y5 y6

def machine_Live_l21 {R : Type} (kf : Nat) : Nat → ((List Bool) → Option R) → (List (List Int)) → (List Bool) → (List Int) → Option R
  | 0, _, _, _, _ => none
  | k + 1, y0, y1, y2, y3 => machine_Live_l21_b (machine_May kf) (machine_Live_l16 kf k) (machine_Live_l21 kf k) (machine_Live_l25 kf k) y0 y1 y2 y3

def machine_Live {R : Type} (kf : Nat) (v1 : (List Int)) (v2 : (List (List Int))) (v3 : (List Bool)) (K : (List Bool) → Option R) : Option R := machine_Live_b (machine_May kf) (machine_Live_l16 kf kf) (machine_Live_l21 kf kf) (machine_Live_l25 kf kf) v1 v2 v3 K

def slices_Equal_bool_bool_l4_b {R : Type} (l_4 : (List Bool) → (List Bool) → Int → (Bool → Option R) → (Option R) → Int → Option R) (v3 : (List Bool)) (v4 : (List Bool)) (v5 : Int) (Kr : Bool → Option R) (Ke0 : Option R) (v6 : Int) : Option R :=
    bif decide (v6 < v5) then
    (gd (decide (0 ≤ v6))
     (gd (decide (v6 < (v3.length : Int)))
      (gd (decide (0 ≤ v6))
       (gd (decide (v6 < (v4.length : Int)))
        (bif (!(decide ((v3.getD (Int.toNat v6) false) = (v4.getD (Int.toNat v6) false)))) then
         (Kr false)
         else (l_4 v3 v4 v5 Kr Ke0 (IntKind.i64.wrap (v6 + 1))))))))
    else (Ke0)

def slices_Equal_bool_bool_b {R : Type} (l_4 : (List Bool) → (List Bool) → Int → (Bool → Option R) → (Option R) → Int → Option R) (v1 : (List Bool)) (v2 : (List Bool)) (K : Bool → Option R) : Option R :=
    bif (!(decide ((v1.length : Int) = (v2.length : Int)))) then
    (K false)
    else (l_4 v1 v2 (v1.length : Int)
     (fun (v7 : Bool) =>
      K v7)
     (K true) 0)

def slices_Equal_bool_bool_l4 {R : Type} (kf : Nat) : Nat → (List Bool) → (List Bool) → Int → (Bool → Option R) → (Option R) → Int → Option R
  | 0, _, _, _, _, _, _ => none
  | k + 1, y0, y1, y2, y3, y4, y5 => slices_Equal_bool_bool_l4_b (slices_Equal_bool_bool_l4 kf k) y0 y1 y2 y3 y4 y5

def slices_Equal_bool_bool {R : Type} (kf : Nat) (v1 : (List Bool)) (v2 : (List Bool)) (K : Bool → Option R) : Option R := slices_Equal_bool_bool_b (slices_Equal_bool_bool_l4 kf kf) v1 v2 K

def slices_Equal_int_int_l4_b {R : Type} (l_4 : (List Int) → (List Int) → Int → (Bool → Option R) → (Option R) → Int → Option R) (v3 : (List Int)) (v4 : (List Int)) (v5 : Int) (Kr : Bool → Option R) (Ke0 : Option R) (v6 : Int) : Option R :=
    bif decide (v6 < v5) then
    (gd (decide (0 ≤ v6))
     (gd (decide (v6 < (v3.length : Int)))
      (gd (decide (0 ≤ v6))
       (gd (decide (v6 < (v4.length : Int)))
        (bif (!(decide ((v3.getD (Int.toNat v6) (0 : Int)) = (v4.getD (Int.toNat v6) (0 : Int))))) then
         (Kr false)
         else (l_4 v3 v4 v5 Kr Ke0 (IntKind.i64.wrap (v6 + 1))))))))
    else (Ke0)

def slices_Equal_int_int_b {R : Type} (l_4 : (List Int) → (List Int) → Int → (Bool → Option R) → (Option R) → Int → Option R) (v1 : (List Int)) (v2 : (List Int)) (K : Bool → Option R) : Option R :=
    bif (!(decide ((v1.length : Int) = (v2.length : Int)))) then
    (K false)
    else (l_4 v1 v2 (v1.length : Int)
     (fun (v7 : Bool) =>
      K v7)
     (K true) 0)

def slices_Equal_int_int_l4 {R : Type} (kf : Nat) : Nat → (List Int) → (List Int) → Int → (Bool → Option R) → (Option R) → Int → Option R
  | 0, _, _, _, _, _, _ => none
  | k + 1, y0, y1, y2, y3, y4, y5 => slices_Equal_int_int_l4_b (slices_Equal_int_int_l4 kf k) y0 y1 y2 y3 y4 y5

def slices_Equal_int_int {R : Type} (kf : Nat) (v1 : (List Int)) (v2 : (List Int)) (K : Bool → Option R) : Option R := slices_Equal_int_int_b (slices_Equal_int_int_l4 kf kf) v1 v2 K

def machine_Same_1_b {R : Type} (c_slices_Equal_int_int : (List Int) → (List Int) → (Bool → Option R) → Option R) (v1 : (List Int)) (v2 : (List Int)) (K : Bool → Option R) : Option R :=
    c_slices_Equal_int_int v1 v2 (fun (v3 : Bool) =>
     K v3)

def machine_Same_1 {R : Type} (kf : Nat) (v1 : (List Int)) (v2 : (List Int)) (K : Bool → Option R) : Option R := machine_Same_1_b (slices_Equal_int_int kf) v1 v2 K

def slices_EqualFunc_int_int_int_int_l4_b {R : Type} (c_machine_Same_1 : (List Int) → (List Int) → (Bool → Option R) → Option R) (l_4 : (List (List Int)) → (List (List Int)) → Int → (Bool → Option R) → (Option R) → Int → Option R) (v3 : (List (List Int))) (v4 : (List (List Int))) (v5 : Int) (Kr : Bool → Option R) (Ke0 : Option R) (v6 : Int) : Option R :=
    bif decide (v6 < v5) then
    (gd (decide (0 ≤ v6))
     (gd (decide (v6 < (v4.length : Int)))
      (gd (decide (0 ≤ v6))
       (gd (decide (v6 < (v3.length : Int)))
        (c_machine_Same_1 (v4.getD (Int.toNat v6) ([] : (List Int))) (v3.getD (Int.toNat v6) ([] : (List Int))) (fun (v7 : Bool) =>
          bif (!v7) then
          (Kr false)
          else (l_4 v3 v4 v5 Kr Ke0 (IntKind.i64.wrap (v6 + 1)))))))))
    else (Ke0)

def slices_EqualFunc_int_int_int_int_b {R : Type} (c_machine_Same_1 : (List Int) → (List Int) → (Bool → Option R) → Option R) (l_4 : (List (List Int)) → (List (List Int)) → Int → (Bool → Option R) → (Option R) → Int → Option R) (v1 : (List (List Int))) (v2 : (List (List Int))) (K : Bool → Option R) : Option R :=
    bif (!(decide ((v1.length : Int) = (v2.length : Int)))) then
    (K false)
    else (l_4 v2 v1 (v1.length : Int)
     (fun (v8 : Bool) =>
      K v8)
     (K true) 0)

def slices_EqualFunc_int_int_int_int_l4 {R : Type} (kf : Nat) : Nat → (List (List Int)) → (List (List Int)) → Int → (Bool → Option R) → (Option R) → Int → Option R
  | 0, _, _, _, _, _, _ => none
  | k + 1, y0, y1, y2, y3, y4, y5 => slices_EqualFunc_int_int_int_int_l4_b (machine_Same_1 kf) (slices_EqualFunc_int_int_int_int_l4 kf k) y0 y1 y2 y3 y4 y5

def slices_EqualFunc_int_int_int_int {R : Type} (kf : Nat) (v1 : (List (List Int))) (v2 : (List (List Int))) (K : Bool → Option R) : Option R := slices_EqualFunc_int_int_int_int_b (machine_Same_1 kf) (slices_EqualFunc_int_int_int_int_l4 kf kf) v1 v2 K

def machine_Same_b {R : Type} (c_slices_Equal_bool_bool : (List Bool) → (List Bool) → (Bool → Option R) → Option R) (c_slices_EqualFunc_int_int_int_int : (List (List Int)) → (List (List Int)) → (Bool → Option R) → Option R) (v1 : (List Int)) (v2 : (List (List Int))) (v3 : (List Bool)) (v4 : (List Int)) (v5 : (List (List Int))) (v6 : (List Bool)) (K : Bool → Option R) : Option R :=
    bif decide (v1 = v4) then
    (c_slices_Equal_bool_bool v3 v6 (fun (v7 : Bool) =>
      bif v7 then
      (c_slices_EqualFunc_int_int_int_int v2 v5 (fun (v8 : Bool) =>
        K v8))
      else (K false)))
    else (K false)

def machine_Same {R : Type} (kf : Nat) (v1 : (List Int)) (v2 : (List (List Int))) (v3 : (List Bool)) (v4 : (List Int)) (v5 : (List (List Int))) (v6 : (List Bool)) (K : Bool → Option R) : Option R := machine_Same_b (slices_Equal_bool_bool kf) (slices_EqualFunc_int_int_int_int kf) v1 v2 v3 v4 v5 v6 K

def law11_begun_b {R : Type} (c_machine_May : (List Int) → (List (List Int)) → (List Bool) → (Bool → Option R) → Option R) (c_machine_Classes : (List Int) → (List (List Int)) → (List Bool) → (Int → Option R) → Option R) (c_machine_Run : (List Int) → (List (List Int)) → (List Bool) → (List Int) → (Bool → Option R) → Option R) (c_machine_Flip : (List Int) → (List (List Int)) → (List Bool) → ((List Int) → (List (List Int)) → (List Bool) → Option R) → Option R) (c_machine_To : (List Int) → (List (List Int)) → (List Bool) → Int → (List Int) → (Int → Option R) → Option R) (c_machine_Reach : (List Int) → (List (List Int)) → (List Bool) → ((List Bool) → Option R) → Option R) (c_machine_Live : (List Int) → (List (List Int)) → (List Bool) → ((List Bool) → Option R) → Option R) (c_machine_Copy : (List Int) → (List (List Int)) → (List Bool) → ((List Int) → (List (List Int)) → (List Bool) → Option R) → Option R) (c_machine_Same : (List Int) → (List (List Int)) → (List Bool) → (List Int) → (List (List Int)) → (List Bool) → (Bool → Option R) → Option R) (K : Bool → Option R) : Option R :=
    c_machine_May (List.replicate 256 (0 : Int)) ([([0] : List Int)] : List (List Int)) ([true] : List Bool) (fun (v1 : Bool) =>
     bif v1 then
     (c_machine_Classes (List.replicate 256 (0 : Int)) ([([0] : List Int)] : List (List Int)) ([true] : List Bool) (fun (v2 : Int) =>
       bif decide (v2 = 1) then
       (c_machine_Run (List.replicate 256 (0 : Int)) ([([0] : List Int)] : List (List Int)) ([true] : List Bool) ([] : (List Int)) (fun (v3 : Bool) =>
         bif v3 then
         (c_machine_Flip (List.replicate 256 (0 : Int)) ([([0] : List Int)] : List (List Int)) ([true] : List Bool) (fun (v4 : (List Int)) (v5 : (List (List Int))) (v6 : (List Bool)) =>
           c_machine_Run v4 v5 v6 ([] : (List Int)) (fun (v7 : Bool) =>
            bif (!v7) then
            (gd (decide (0 < ([97] : List Int).length))
             (c_machine_To (List.replicate 256 (0 : Int)) ([([0] : List Int)] : List (List Int)) ([true] : List Bool) 0 ([97] : List Int) (fun (v8 : Int) =>
               bif decide (v8 = 0) then
               (c_machine_Reach (List.replicate 256 (0 : Int)) ([([0] : List Int)] : List (List Int)) ([true] : List Bool) (fun (v9 : (List Bool)) =>
                 bif decide ((v9.length : Int) = 1) then
                 (c_machine_Live (List.replicate 256 (0 : Int)) ([([0] : List Int)] : List (List Int)) ([true] : List Bool) (fun (v10 : (List Bool)) =>
                   bif decide ((v10.length : Int) = 1) then
                   (c_machine_Copy (List.replicate 256 (0 : Int)) ([([0] : List Int)] : List (List Int)) ([true] : List Bool) (fun (v11 : (List Int)) (v12 : (List (List Int))) (v13 : (List Bool)) =>
                     c_machine_Same (List.replicate 256 (0 : Int)) ([([0] : List Int)] : List (List Int)) ([true] : List Bool) v11 v12 v13 (fun (v14 : Bool) =>
                      K v14)))
                   else (K false)))
                 else (K false)))
               else (K false))))
            else (K false))))
         else (K false)))
       else (K false)))
     else (K false))

def law11_begun {R : Type} (kf : Nat) (K : Bool → Option R) : Option R := law11_begun_b (machine_May kf) (machine_Classes kf) (machine_Run kf) (machine_Flip kf) (machine_To kf) (machine_Reach kf) (machine_Live kf) (machine_Copy kf) (machine_Same kf) K

def play_Made_b {R : Type} (v1 : (List Int)) (K : (List Int) → Int → Option R) : Option R :=
    K v1 0

def play_Made {R : Type} (v1 : (List Int)) (K : (List Int) → Int → Option R) : Option R := play_Made_b v1 K

def play_Picks_num_b {R : Type} (v1 : Int) (v2 : (List Int)) (v3 : Int) (K : Int → (List Int) → Int → Option R) : Option R :=
    bif decide ((v2.length : Int) ≤ v3) then
    (K 0 v2 v3)
    else (gd (decide (0 ≤ (IntKind.i64.wrap ((IntKind.i64.wrap (v3 + 1)) - 1))))
     (gd (decide ((IntKind.i64.wrap ((IntKind.i64.wrap (v3 + 1)) - 1)) < (v2.length : Int)))
      (gd (decide (v1 ≠ 0))
       (let v4 : Int := (Int.tmod (IntKind.i64.wrap (v2.getD (Int.toNat (IntKind.i64.wrap ((IntKind.i64.wrap (v3 + 1)) - 1))) (0 : Int))) v1)
        K v4 v2 (IntKind.i64.wrap (v3 + 1))))))

def play_Picks_num {R : Type} (v1 : Int) (v2 : (List Int)) (v3 : Int) (K : Int → (List Int) → Int → Option R) : Option R := play_Picks_num_b v1 v2 v3 K

def play_Dfa_l5_b {R : Type} (c_play_Made : (List Int) → ((List Int) → Int → Option R) → Option R) (c_play_Picks_num : Int → (List Int) → Int → (Int → (List Int) → Int → Option R) → Option R) (l_5 : Int → Int → (List Int) → (List Int) → Int → (List (List Int)) → (List Bool) → (List (List Int)) → (List Bool) → (Int → Int → (List Int) → (List Int) → Int → (List Int) → (List (List Int)) → (List Bool) → (List (List Int)) → (List Bool) → Option R) → Int → (List Int) → Option R) (l_12 : ((List Int) → (List Int) → (List (List Int)) → (List Bool) → (List (List Int)) → (List Bool) → Option R) → Int → Int → Int → (List Int) → (List Int) → Int → (List Int) → (List (List Int)) → (List Bool) → (List (List Int)) → (List Bool) → Option R) (l_16 : Int → Int → Int → (List Int) → (List Int) → (List (List Int)) → (List Bool) → (List (List Int)) → (List Bool) → (Int → Int → Int → (List Int) → (List Int) → Int → (List Int) → (List Int) → (List (List Int)) → (List Bool) → (List (List Int)) → (List Bool) → Option R) → Int → (List Int) → Int → (List Int) → Option R) (v6 : Int) (v7 : Int) (v9 : (List Int)) (v10 : (List Int)) (v11 : Int) (v13 : (List (List Int))) (v14 : (List Bool)) (v15 : (List (List Int))) (v16 : (List Bool)) (Ke0 : Int → Int → (List Int) → (List Int) → Int → (List Int) → (List (List Int)) → (List Bool) → (List (List Int)) → (List Bool) → Option R) (v8 : Int) (v12 : (List Int)) : Option R :=
    bif decide (v8 < 256) then
    (gd (decide (v7 ≠ 0))
     (let j18 : Int → Option R := fun v17 =>
      (gd (decide (0 ≤ v8))
       (gd (decide (v8 < 256))
        (l_5 v6 v7 v9 v10 v11 v13 v14 v15 v16 Ke0 (IntKind.i64.wrap (v8 + 1)) (v12.set (Int.toNat v8) (IntKind.u8.wrap v17)))))
      (let j20 : Bool → Option R := fun v19 =>
       (bif v19 then
        (j18 (IntKind.i64.wrap (v8 - 97)))
        else (j18 (Int.tmod (Int.tmod v8 7) v7)))
       (bif decide (97 ≤ v8) then
        (j20 (decide (v8 < (IntKind.i64.wrap (97 + v7)))))
        else (j20 false)))))
    else (Ke0 v6 v7 v9 v10 v11 v12 v13 v14 v15 v16)

def play_Dfa_l12_b {R : Type} (c_play_Made : (List Int) → ((List Int) → Int → Option R) → Option R) (c_play_Picks_num : Int → (List Int) → Int → (Int → (List Int) → Int → Option R) → Option R) (l_5 : Int → Int → (List Int) → (List Int) → Int → (List (List Int)) → (List Bool) → (List (List Int)) → (List Bool) → (Int → Int → (List Int) → (List Int) → Int → (List Int) → (List (List Int)) → (List Bool) → (List (List Int)) → (List Bool) → Option R) → Int → (List Int) → Option R) (l_12 : ((List Int) → (List Int) → (List (List Int)) → (List Bool) → (List (List Int)) → (List Bool) → Option R) → Int → Int → Int → (List Int) → (List Int) → Int → (List Int) → (List (List Int)) → (List Bool) → (List (List Int)) → (List Bool) → Option R) (l_16 : Int → Int → Int → (List Int) → (List Int) → (List (List Int)) → (List Bool) → (List (List Int)) → (List Bool) → (Int → Int → Int → (List Int) → (List Int) → Int → (List Int) → (List Int) → (List (List Int)) → (List Bool) → (List (List Int)) → (List Bool) → Option R) → Int → (List Int) → Int → (List Int) → Option R) (Ke2 : (List Int) → (List Int) → (List (List Int)) → (List Bool) → (List (List Int)) → (List Bool) → Option R) (v31 : Int) (v32 : Int) (v33 : Int) (v34 : (List Int)) (v35 : (List Int)) (v36 : Int) (v37 : (List Int)) (v38 : (List (List Int))) (v39 : (List Bool)) (v40 : (List (List Int))) (v41 : (List Bool)) : Option R :=
    bif decide (v33 < v31) then
    (l_16 v31 v32 v33 v34 v37 v38 v39 v40 v41
     (fun (v58 : Int) (v59 : Int) (v60 : Int) (v61 : (List Int)) (v62 : (List Int)) (v63 : Int) (v64 : (List Int)) (v65 : (List Int)) (v66 : (List (List Int))) (v67 : (List Bool)) (v68 : (List (List Int))) (v69 : (List Bool)) =>
      gd (decide (v68.length + ([v65] : List (List Int)).length < SMALL))
      (c_play_Picks_num 2 v62 v63 (fun (v70 : Int) (v71 : (List Int)) (v72 : Int) =>
        gd (decide (v69.length + ([decide (v70 = 1)] : List Bool).length < SMALL))
        (l_12 Ke2 v58 v59 (IntKind.i64.wrap (v60 + 1)) v61 v71 v72 v64 v66 v67 (v68 ++ ([v65] : List (List Int))) (v69 ++ ([decide (v70 = 1)] : List Bool)))))) 0 v35 v36 ([] : List Int))
    else (Ke2 v34 v37 v38 v39 v40 v41)

def play_Dfa_l16_b {R : Type} (c_play_Made : (List Int) → ((List Int) → Int → Option R) → Option R) (c_play_Picks_num : Int → (List Int) → Int → (Int → (List Int) → Int → Option R) → Option R) (l_5 : Int → Int → (List Int) → (List Int) → Int → (List (List Int)) → (List Bool) → (List (List Int)) → (List Bool) → (Int → Int → (List Int) → (List Int) → Int → (List Int) → (List (List Int)) → (List Bool) → (List (List Int)) → (List Bool) → Option R) → Int → (List Int) → Option R) (l_12 : ((List Int) → (List Int) → (List (List Int)) → (List Bool) → (List (List Int)) → (List Bool) → Option R) → Int → Int → Int → (List Int) → (List Int) → Int → (List Int) → (List (List Int)) → (List Bool) → (List (List Int)) → (List Bool) → Option R) (l_16 : Int → Int → Int → (List Int) → (List Int) → (List (List Int)) → (List Bool) → (List (List Int)) → (List Bool) → (Int → Int → Int → (List Int) → (List Int) → Int → (List Int) → (List Int) → (List (List Int)) → (List Bool) → (List (List Int)) → (List Bool) → Option R) → Int → (List Int) → Int → (List Int) → Option R) (v42 : Int) (v43 : Int) (v44 : Int) (v46 : (List Int)) (v49 : (List Int)) (v51 : (List (List Int))) (v52 : (List Bool)) (v53 : (List (List Int))) (v54 : (List Bool)) (Ke4 : Int → Int → Int → (List Int) → (List Int) → Int → (List Int) → (List Int) → (List (List Int)) → (List Bool) → (List (List Int)) → (List Bool) → Option R) (v45 : Int) (v47 : (List Int)) (v48 : Int) (v50 : (List Int)) : Option R :=
    bif decide (v45 < v43) then
    (c_play_Picks_num v42 v47 v48 (fun (v55 : Int) (v56 : (List Int)) (v57 : Int) =>
      gd (decide (v50.length + ([v55] : List Int).length < SMALL))
      (l_16 v42 v43 v44 v46 v49 v51 v52 v53 v54 Ke4 (IntKind.i64.wrap (v45 + 1)) v56 v57 (v50 ++ ([v55] : List Int)))))
    else (Ke4 v42 v43 v44 v46 v47 v48 v49 v50 v51 v52 v53 v54)

def play_Dfa_b {R : Type} (c_play_Made : (List Int) → ((List Int) → Int → Option R) → Option R) (c_play_Picks_num : Int → (List Int) → Int → (Int → (List Int) → Int → Option R) → Option R) (l_5 : Int → Int → (List Int) → (List Int) → Int → (List (List Int)) → (List Bool) → (List (List Int)) → (List Bool) → (Int → Int → (List Int) → (List Int) → Int → (List Int) → (List (List Int)) → (List Bool) → (List (List Int)) → (List Bool) → Option R) → Int → (List Int) → Option R) (l_12 : ((List Int) → (List Int) → (List (List Int)) → (List Bool) → (List (List Int)) → (List Bool) → Option R) → Int → Int → Int → (List Int) → (List Int) → Int → (List Int) → (List (List Int)) → (List Bool) → (List (List Int)) → (List Bool) → Option R) (l_16 : Int → Int → Int → (List Int) → (List Int) → (List (List Int)) → (List Bool) → (List (List Int)) → (List Bool) → (Int → Int → Int → (List Int) → (List Int) → Int → (List Int) → (List Int) → (List (List Int)) → (List Bool) → (List (List Int)) → (List Bool) → Option R) → Int → (List Int) → Int → (List Int) → Option R) (v1 : Int) (v2 : Int) (v3 : (List Int)) (K : (List Int) → (List (List Int)) → (List Bool) → Option R) : Option R :=
    c_play_Made v3 (fun (v4 : (List Int)) (v5 : Int) =>
     l_5 (IntKind.i64.wrap (1 + (IntKind.i64.wrap (Int.tmod v1 8)))) (IntKind.i64.wrap (1 + (IntKind.i64.wrap (Int.tmod v2 4)))) (List.replicate 256 (0 : Int)) v4 v5 ([] : List (List Int)) ([] : List Bool) ([] : List (List Int)) ([] : List Bool)
     (fun (v21 : Int) (v22 : Int) (v23 : (List Int)) (v24 : (List Int)) (v25 : Int) (v26 : (List Int)) (v27 : (List (List Int))) (v28 : (List Bool)) (v29 : (List (List Int))) (v30 : (List Bool)) =>
      l_12
      (fun (v73 : (List Int)) (v74 : (List Int)) (v75 : (List (List Int))) (v76 : (List Bool)) (v77 : (List (List Int))) (v78 : (List Bool)) =>
       K v74 v77 v78) v21 v22 0 v23 v24 v25 v26 v27 v28 v29 v30) 0 (List.replicate 256 (0 : Int)))

def play_Dfa_l5 {R : Type} (kf : Nat) : Nat → Int → Int → (List Int) → (List Int) → Int → (List (List Int)) → (List Bool) → (List (List Int)) → (List Bool) → (Int → Int → (List Int) → (List Int) → Int → (List Int) → (List (List Int)) → (List Bool) → (List (List Int)) → (List Bool) → Option R) → Int → (List Int) → Option R
  | 0, _, _, _, _, _, _, _, _, _, _, _, _ => none
  | k + 1, y0, y1, y2, y3, y4, y5, y6, y7, y8, y9, y10, y11 => play_Dfa_l5_b play_Made play_Picks_num (play_Dfa_l5 kf k) (fun _ _ _ _ _ _ _ _ _ _ _ _ => none) (fun _ _ _ _ _ _ _ _ _ _ _ _ _ _ => none) y0 y1 y2 y3 y4 y5 y6 y7 y8 y9 y10 y11

def play_Dfa_l16 {R : Type} (kf : Nat) : Nat → Int → Int → Int → (List Int) → (List Int) → (List (List Int)) → (List Bool) → (List (List Int)) → (List Bool) → (Int → Int → Int → (List Int) → (List Int) → Int → (List Int) → (List Int) → (List (List Int)) → (List Bool) → (List (List Int)) → (List Bool) → Option R) → Int → (List Int) → Int → (List Int) → Option R
  | 0, _, _, _, _, _, _, _, _, _, _, _, _, _, _ => none
  | k + 1, y0, y1, y2, y3, y4, y5, y6, y7, y8, y9, y10, y11, y12, y13 => play_Dfa_l16_b play_Made play_Picks_num (play_Dfa_l5 kf k) (fun _ _ _ _ _ _ _ _ _ _ _ _ => none) (play_Dfa_l16 kf k) y0 y1 y2 y3 y4 y5 y6 y7 y8 y9 y10 y11 y12 y13

def play_Dfa_l12 {R : Type} (kf : Nat) : Nat → ((List Int) → (List Int) → (List (List Int)) → (List Bool) → (List (List Int)) → (List Bool) → Option R) → Int → Int → Int → (List Int) → (List Int) → Int → (List Int) → (List (List Int)) → (List Bool) → (List (List Int)) → (List Bool) → Option R
  | 0, _, _, _, _, _, _, _, _, _, _, _, _ => none
  | k + 1, y0, y1, y2, y3, y4, y5, y6, y7, y8, y9, y10, y11 => play_Dfa_l12_b play_Made play_Picks_num (play_Dfa_l5 kf k) (play_Dfa_l12 kf k) (play_Dfa_l16 kf k) y0 y1 y2 y3 y4 y5 y6 y7 y8 y9 y10 y11

def play_Dfa {R : Type} (kf : Nat) (v1 : Int) (v2 : Int) (v3 : (List Int)) (K : (List Int) → (List (List Int)) → (List Bool) → Option R) : Option R := play_Dfa_b play_Made play_Picks_num (play_Dfa_l5 kf kf) (play_Dfa_l12 kf kf) (play_Dfa_l16 kf kf) v1 v2 v3 K

def ref11_Same_l4_b {R : Type} (l_4 : (List Int) → (List (List Int)) → (List Bool) → (List Int) → (List (List Int)) → (List Bool) → (Bool → (List Int) → (List (List Int)) → (List Bool) → (List Int) → (List (List Int)) → (List Bool) → Option R) → ((List Int) → (List (List Int)) → (List Bool) → (List Int) → (List (List Int)) → (List Bool) → Option R) → Int → Option R) (l_9 : (Bool → Option R) → (Option R) → Int → (List Int) → (List (List Int)) → (List Bool) → (List Int) → (List (List Int)) → (List Bool) → Option R) (l_14 : Int → (List Int) → (List (List Int)) → (List Bool) → (List Int) → (List (List Int)) → (List Bool) → (Bool → Int → (List Int) → (List (List Int)) → (List Bool) → (List Int) → (List (List Int)) → (List Bool) → Option R) → (Int → (List Int) → (List (List Int)) → (List Bool) → (List Int) → (List (List Int)) → (List Bool) → Option R) → Int → Option R) (v9 : (List Int)) (v10 : (List (List Int))) (v11 : (List Bool)) (v12 : (List Int)) (v13 : (List (List Int))) (v14 : (List Bool)) (Kr : Bool → (List Int) → (List (List Int)) → (List Bool) → (List Int) → (List (List Int)) → (List Bool) → Option R) (Ke0 : (List Int) → (List (List Int)) → (List Bool) → (List Int) → (List (List Int)) → (List Bool) → Option R) (v8 : Int) : Option R :=
    bif decide (v8 < (v11.length : Int)) then
    (gd (decide (0 ≤ v8))
     (gd (decide (v8 < (v11.length : Int)))
      (gd (decide (0 ≤ v8))
       (gd (decide (v8 < (v14.length : Int)))
        (bif (!(decide ((v11.getD (Int.toNat v8) false) = (v14.getD (Int.toNat v8) false)))) then
         (Kr false v9 v10 v11 v12 v13 v14)
         else (l_4 v9 v10 v11 v12 v13 v14 Kr Ke0 (IntKind.i64.wrap (v8 + 1))))))))
    else (Ke0 v9 v10 v11 v12 v13 v14)

def ref11_Same_l9_b {R : Type} (l_4 : (List Int) → (List (List Int)) → (List Bool) → (List Int) → (List (List Int)) → (List Bool) → (Bool → (List Int) → (List (List Int)) → (List Bool) → (List Int) → (List (List Int)) → (List Bool) → Option R) → ((List Int) → (List (List Int)) → (List Bool) → (List Int) → (List (List Int)) → (List Bool) → Option R) → Int → Option R) (l_9 : (Bool → Option R) → (Option R) → Int → (List Int) → (List (List Int)) → (List Bool) → (List Int) → (List (List Int)) → (List Bool) → Option R) (l_14 : Int → (List Int) → (List (List Int)) → (List Bool) → (List Int) → (List (List Int)) → (List Bool) → (Bool → Int → (List Int) → (List (List Int)) → (List Bool) → (List Int) → (List (List Int)) → (List Bool) → Option R) → (Int → (List Int) → (List (List Int)) → (List Bool) → (List Int) → (List (List Int)) → (List Bool) → Option R) → Int → Option R) (Kr : Bool → Option R) (Ke2 : Option R) (v28 : Int) (v29 : (List Int)) (v30 : (List (List Int))) (v31 : (List Bool)) (v32 : (List Int)) (v33 : (List (List Int))) (v34 : (List Bool)) : Option R :=
    bif decide (v28 < (v30.length : Int)) then
    (gd (decide (0 ≤ v28))
     (gd (decide (v28 < (v30.length : Int)))
      (gd (decide (0 ≤ v28))
       (gd (decide (v28 < (v33.length : Int)))
        (bif (!(decide (((v30.getD (Int.toNat v28) ([] : (List Int))).length : Int) = ((v33.getD (Int.toNat v28) ([] : (List Int))).length : Int)))) then
         (Kr false)
         else (l_14 v28 v29 v30 v31 v32 v33 v34
          (fun (v43 : Bool) (v44 : Int) (v45 : (List Int)) (v46 : (List (List Int))) (v47 : (List Bool)) (v48 : (List Int)) (v49 : (List (List Int))) (v50 : (List Bool)) =>
           Kr v43)
          (fun (v51 : Int) (v52 : (List Int)) (v53 : (List (List Int))) (v54 : (List Bool)) (v55 : (List Int)) (v56 : (List (List Int))) (v57 : (List Bool)) =>
           l_9 Kr Ke2 (IntKind.i64.wrap (v51 + 1)) v52 v53 v54 v55 v56 v57) 0))))))
    else (Ke2)

def ref11_Same_l14_b {R : Type} (l_4 : (List Int) → (List (List Int)) → (List Bool) → (List Int) → (List (List Int)) → (List Bool) → (Bool → (List Int) → (List (List Int)) → (List Bool) → (List Int) → (List (List Int)) → (List Bool) → Option R) → ((List Int) → (List (List Int)) → (List Bool) → (List Int) → (List (List Int)) → (List Bool) → Option R) → Int → Option R) (l_9 : (Bool → Option R) → (Option R) → Int → (List Int) → (List (List Int)) → (List Bool) → (List Int) → (List (List Int)) → (List Bool) → Option R) (l_14 : Int → (List Int) → (List (List Int)) → (List Bool) → (List Int) → (List (List Int)) → (List Bool) → (Bool → Int → (List Int) → (List (List Int)) → (List Bool) → (List Int) → (List (List Int)) → (List Bool) → Option R) → (Int → (List Int) → (List (List Int)) → (List Bool) → (List Int) → (List (List Int)) → (List Bool) → Option R) → Int → Option R) (v35 : Int) (v37 : (List Int)) (v38 : (List (List Int))) (v39 : (List Bool)) (v40 : (List Int)) (v41 : (List (List Int))) (v42 : (List Bool)) (Kr : Bool → Int → (List Int) → (List (List Int)) → (List Bool) → (List Int) → (List (List Int)) → (List Bool) → Option R) (Ke4 : Int → (List Int) → (List (List Int)) → (List Bool) → (List Int) → (List (List Int)) → (List Bool) → Option R) (v36 : Int) : Option R :=
    gd (decide (0 ≤ v35))
    (gd (decide (v35 < (v38.length : Int)))
     (bif decide (v36 < ((v38.getD (Int.toNat v35) ([] : (List Int))).length : Int)) then
      (gd (decide (0 ≤ v35))
       (gd (decide (v35 < (v38.length : Int)))
        (gd (decide (0 ≤ v36))
         (gd (decide (v36 < ((v38.getD (Int.toNat v35) ([] : (List Int))).length : Int)))
          (gd (decide (0 ≤ v35))
           (gd (decide (v35 < (v41.length : Int)))
            (gd (decide (0 ≤ v36))
             (gd (decide (v36 < ((v41.getD (Int.toNat v35) ([] : (List Int))).length : Int)))
              (bif (!(decide (((v38.getD (Int.toNat v35) ([] : (List Int))).getD (Int.toNat v36) (0 : Int)) = ((v41.getD (Int.toNat v35) ([] : (List Int))).getD (Int.toNat v36) (0 : Int))))) then
               (Kr false v35 v37 v38 v39 v40 v41 v42)
               else (l_14 v35 v37 v38 v39 v40 v41 v42 Kr Ke4 (IntKind.i64.wrap (v36 + 1))))))))))))
      else (Ke4 v35 v37 v38 v39 v40 v41 v42)))

def ref11_Same_b {R : Type} (l_4 : (List Int) → (List (List Int)) → (List Bool) → (List Int) → (List (List Int)) → (List Bool) → (Bool → (List Int) → (List (List Int)) → (List Bool) → (List Int) → (List (List Int)) → (List Bool) → Option R) → ((List Int) → (List (List Int)) → (List Bool) → (List Int) → (List (List Int)) → (List Bool) → Option R) → Int → Option R) (l_9 : (Bool → Option R) → (Option R) → Int → (List Int) → (List (List Int)) → (List Bool) → (List Int) → (List (List Int)) → (List Bool) → Option R) (l_14 : Int → (List Int) → (List (List Int)) → (List Bool) → (List Int) → (List (List Int)) → (List Bool) → (Bool → Int → (List Int) → (List (List Int)) → (List Bool) → (List Int) → (List (List Int)) → (List Bool) → Option R) → (Int → (List Int) → (List (List Int)) → (List Bool) → (List Int) → (List (List Int)) → (List Bool) → Option R) → Int → Option R) (v1 : (List Int)) (v2 : (List (List Int))) (v3 : (List Bool)) (v4 : (List Int)) (v5 : (List (List Int))) (v6 : (List Bool)) (K : Bool → Option R) : Option R :=
    let j59 : Bool → Option R := fun v7 =>
    (bif v7 then
     (K false)
     else (l_4 v1 v2 v3 v4 v5 v6
      (fun (v15 : Bool) (v16 : (List Int)) (v17 : (List (List Int))) (v18 : (List Bool)) (v19 : (List Int)) (v20 : (List (List Int))) (v21 : (List Bool)) =>
       K v15)
      (fun (v22 : (List Int)) (v23 : (List (List Int))) (v24 : (List Bool)) (v25 : (List Int)) (v26 : (List (List Int))) (v27 : (List Bool)) =>
       l_9
       (fun (v58 : Bool) =>
        K v58)
       (K true) 0 v22 v23 v24 v25 v26 v27) 0))
    (bif (!(decide (v1 = v4))) then
     (j59 true)
     else (bif (!(decide ((v2.length : Int) = (v5.length : Int)))) then
      (j59 true)
      else (j59 (!(decide ((v3.length : Int) = (v6.length : Int)))))))

def ref11_Same_l4 {R : Type} (kf : Nat) : Nat → (List Int) → (List (List Int)) → (List Bool) → (List Int) → (List (List Int)) → (List Bool) → (Bool → (List Int) → (List (List Int)) → (List Bool) → (List Int) → (List (List Int)) → (List Bool) → Option R) → ((List Int) → (List (List Int)) → (List Bool) → (List Int) → (List (List Int)) → (List Bool) → Option R) → Int → Option R
  | 0, _, _, _, _, _, _, _, _, _ => none
  | k + 1, y0, y1, y2, y3, y4, y5, y6, y7, y8 => ref11_Same_l4_b (ref11_Same_l4 kf k) (fun _ _ _ _ _ _ _ _ _ => none) (fun _ _ _ _ _ _ _ _ _ _ => none) y0 y1 y2 y3 y4 y5 y6 y7 y8

def ref11_Same_l14 {R : Type} (kf : Nat) : Nat → Int → (List Int) → (List (List Int)) → (List Bool) → (List Int) → (List (List Int)) → (List Bool) → (Bool → Int → (List Int) → (List (List Int)) → (List Bool) → (List Int) → (List (List Int)) → (List Bool) → Option R) → (Int → (List Int) → (List (List Int)) → (List Bool) → (List Int) → (List (List Int)) → (List Bool) → Option R) → Int → Option R
  | 0, _, _, _, _, _, _, _, _, _, _ => none
  | k + 1, y0, y1, y2, y3, y4, y5, y6, y7, y8, y9 => ref11_Same_l14_b (ref11_Same_l4 kf k) (fun _ _ _ _ _ _ _ _ _ => none) (ref11_Same_l14 kf k) y0 y1 y2 y3 y4 y5 y6 y7 y8 y9

def ref11_Same_l9 {R : Type} (kf : Nat) : Nat → (Bool → Option R) → (Option R) → Int → (List Int) → (List (List Int)) → (List Bool) → (List Int) → (List (List Int)) → (List Bool) → Option R
  | 0, _, _, _, _, _, _, _, _, _ => none
  | k + 1, y0, y1, y2, y3, y4, y5, y6, y7, y8 => ref11_Same_l9_b (ref11_Same_l4 kf k) (ref11_Same_l9 kf k) (ref11_Same_l14 kf k) y0 y1 y2 y3 y4 y5 y6 y7 y8

def ref11_Same {R : Type} (kf : Nat) (v1 : (List Int)) (v2 : (List (List Int))) (v3 : (List Bool)) (v4 : (List Int)) (v5 : (List (List Int))) (v6 : (List Bool)) (K : Bool → Option R) : Option R := ref11_Same_b (ref11_Same_l4 kf kf) (ref11_Same_l9 kf kf) (ref11_Same_l14 kf kf) v1 v2 v3 v4 v5 v6 K

def spF {R : Type} (c_machine_May : (List Int) → (List (List Int)) → (List Bool) → (Bool → Option R) → Option R) (c_machine_Run : (List Int) → (List (List Int)) → (List Bool) → (List Int) → (Bool → Option R) → Option R) (c_machine_To : (List Int) → (List (List Int)) → (List Bool) → Int → (List Int) → (Int → Option R) → Option R) (c_machine_Reach : (List Int) → (List (List Int)) → (List Bool) → ((List Bool) → Option R) → Option R) (c_machine_Live : (List Int) → (List (List Int)) → (List Bool) → ((List Bool) → Option R) → Option R) (c_machine_Classes : (List Int) → (List (List Int)) → (List Bool) → (Int → Option R) → Option R) (c_machine_Flip : (List Int) → (List (List Int)) → (List Bool) → ((List Int) → (List (List Int)) → (List Bool) → Option R) → Option R) (c_ref11_Same : (List Int) → (List (List Int)) → (List Bool) → (List Int) → (List (List Int)) → (List Bool) → (Bool → Option R) → Option R) (v5 : (List Int)) (K : Bool → Option R) (v11 : (List Int)) (v12 : (List (List Int))) (v13 : (List Bool)) : Option R :=
         (c_machine_May v11 v12 v13 (fun (v14 : Bool) =>
           bif (!v14) then
           (c_machine_Run v11 v12 v13 v5 (fun (v15 : Bool) =>
             bif (!v15) then
             (c_machine_To v11 v12 v13 0 v5 (fun (v16 : Int) =>
               bif decide (v16 = (-1)) then
               (c_machine_Reach v11 v12 v13 (fun (v17 : (List Bool)) =>
                 c_machine_Live v11 v12 v13 (fun (v18 : (List Bool)) =>
                  c_machine_Classes v11 v12 v13 (fun (v19 : Int) =>
                   bif decide ((IntKind.i64.wrap ((IntKind.i64.wrap ((v17.length : Int) + (v18.length : Int))) + v19)) = 0) then
                   (c_machine_Flip v11 v12 v13 (fun (v20 : (List Int)) (v21 : (List (List Int))) (v22 : (List Bool)) =>
                     c_ref11_Same v20 v21 v22 (List.replicate 256 (0 : Int)) ([] : List (List Int)) ([] : List Bool) (fun (v23 : Bool) =>
                      K v23)))
                   else (K false)))))
               else (K false)))
             else (K false)))
           else (K false)))
def spX {R : Type} (v4 kk : Int) (v8 : (List Int)) (v9 : (List (List Int))) (v10 : (List Bool)) (J : (List Int) → (List (List Int)) → (List Bool) → Option R) : Option R :=
(bif decide ((Int.tmod v4 5) = 0) then
          (gd (decide (0 ≤ kk))
           (gd (decide (kk ≤ (v10.length : Int)))
            (J v8 v9 (v10.take (Int.toNat kk)))))
          else (bif decide ((Int.tmod v4 5) = 1) then
           (gd (decide (0 ≤ kk))
            (gd (decide (kk < (v9.length : Int)))
             (gd (decide (0 < ((v9.getD (Int.toNat kk) ([] : (List Int))).length : Int)))
              (none))))
           else (bif decide ((Int.tmod v4 5) = 2) then
            (gd (decide (0 < (v9.length : Int)))
             (gd (decide (0 < ((v9.getD 0 ([] : (List Int))).length : Int)))
              (none)))
            else (bif decide ((Int.tmod v4 5) = 3) then
             (gd (decide (0 ≤ kk))
              (gd (decide (kk < (v9.length : Int)))
               (gd (decide (0 ≤ kk))
                (gd (decide (kk < (v9.length : Int)))
                 (let v25 : Int := ((v9.getD (Int.toNat kk) ([] : (List Int))).length : Int)
                  gd (decide (0 ≤ (IntKind.i64.wrap (v25 - 1))))
                  (gd (decide ((IntKind.i64.wrap (v25 - 1)) ≤ ((v9.getD (Int.toNat kk) ([] : (List Int))).length : Int)))
                   (gd (decide (0 ≤ kk))
                    (gd (decide (kk < (v9.length : Int)))
                     (J v8 (v9.set (Int.toNat kk) ((v9.getD (Int.toNat kk) ([] : (List Int))).take (Int.toNat (IntKind.i64.wrap (v25 - 1))))) v10)))))))))
             else (J (v8.set 122 255) v9 v10)))))
def spA {R : Type} (c_law11_begun : (Bool → Option R) → Option R) (c_play_Dfa : Int → Int → (List Int) → ((List Int) → (List (List Int)) → (List Bool) → Option R) → Option R) (v1 : Int) (v2 : Int) (v3 : (List Int)) (v4 : Int) (v5 : (List Int)) (K : Bool → Option R) (J : Int → (List Int) → Int → (List Int) → (List (List Int)) → (List Bool) → Option R) : Option R :=
    c_law11_begun (fun (v6 : Bool) =>
     bif (!v6) then
     (K false)
     else (let j26 : Bool → Option R := fun v7 =>
      (bif v7 then
       (K true)
       else (c_play_Dfa v1 v2 v3 (fun (v8 : (List Int)) (v9 : (List (List Int))) (v10 : (List Bool)) =>
         J v4 v5 (IntKind.i64.wrap ((v9.length : Int) - 1)) v8 v9 v10)))
      (bif decide (60 < (v3.length : Int)) then
       (j26 true)
       else (j26 (decide (20 < (v5.length : Int)))))))

def sh7 {R : Type} (c_law11_begun : (Bool → Option R) → Option R) (av : List S) (es : List Ent) (K : S → List Ent → Option R) : Option R :=
  match av, es with
  | [], [] => c_law11_begun (fun (r0 : Bool) => K (.bool r0) [])
  | _, _ => none

def sh8 {R : Type} (c_play_Dfa : Int → Int → (List Int) → ((List Int) → (List (List Int)) → (List Bool) → Option R) → Option R) (av : List S) (es : List Ent) (K : S → List Ent → Option R) : Option R :=
  match av, es with
  | [.int .u8 v1, .int .u8 v2, .sl (.int .u8) v3], [] => c_play_Dfa v1 v2 v3 (fun (r0 : (List Int)) (r1 : (List (List Int))) (r2 : (List Bool)) => K (.st [.arr 256 (.int .u8) r0, .own (.slice (.int .i64)) 0, .own .bool 1]) [.buf (.slice (.int .i64)) r1 false, .buf .bool r2 false])
  | _, _ => none

def sh9 {R : Type} (c_machine_May : (List Int) → (List (List Int)) → (List Bool) → (Bool → Option R) → Option R) (av : List S) (es : List Ent) (K : S → List Ent → Option R) : Option R :=
  match av, es with
  | [.st [.arr 256 (.int .u8) v1, .sl (.slice (.int .i64)) v2, .sl .bool v3]], [] => c_machine_May v1 v2 v3 (fun (r0 : Bool) => K (.bool r0) [])
  | _, _ => none

def sh10 {R : Type} (c_machine_Run : (List Int) → (List (List Int)) → (List Bool) → (List Int) → (Bool → Option R) → Option R) (av : List S) (es : List Ent) (K : S → List Ent → Option R) : Option R :=
  match av, es with
  | [.st [.arr 256 (.int .u8) v1, .sl (.slice (.int .i64)) v2, .sl .bool v3], .sl (.int .u8) v4], [] => c_machine_Run v1 v2 v3 v4 (fun (r0 : Bool) => K (.bool r0) [])
  | _, _ => none

def sh12 {R : Type} (c_machine_Flip : (List Int) → (List (List Int)) → (List Bool) → ((List Int) → (List (List Int)) → (List Bool) → Option R) → Option R) (av : List S) (es : List Ent) (K : S → List Ent → Option R) : Option R :=
  match av, es with
  | [.st [.arr 256 (.int .u8) v1, .sl (.slice (.int .i64)) v2, .sl .bool v3]], [] => c_machine_Flip v1 v2 v3 (fun (r0 : (List Int)) (r1 : (List (List Int))) (r2 : (List Bool)) => K (.st [.arr 256 (.int .u8) r0, .own (.slice (.int .i64)) 0, .own .bool 1]) [.buf (.slice (.int .i64)) r1 false, .buf .bool r2 false])
  | _, _ => none

def sh14 {R : Type} (c_machine_Reach : (List Int) → (List (List Int)) → (List Bool) → ((List Bool) → Option R) → Option R) (av : List S) (es : List Ent) (K : S → List Ent → Option R) : Option R :=
  match av, es with
  | [.st [.arr 256 (.int .u8) v1, .sl (.slice (.int .i64)) v2, .sl .bool v3]], [] => c_machine_Reach v1 v2 v3 (fun (r0 : (List Bool)) => K (.own .bool 0) [.buf .bool r0 false])
  | _, _ => none

def sh16 {R : Type} (c_machine_Live : (List Int) → (List (List Int)) → (List Bool) → ((List Bool) → Option R) → Option R) (av : List S) (es : List Ent) (K : S → List Ent → Option R) : Option R :=
  match av, es with
  | [.st [.arr 256 (.int .u8) v1, .sl (.slice (.int .i64)) v2, .sl .bool v3]], [] => c_machine_Live v1 v2 v3 (fun (r0 : (List Bool)) => K (.own .bool 0) [.buf .bool r0 false])
  | _, _ => none

def sh18 {R : Type} (c_machine_To : (List Int) → (List (List Int)) → (List Bool) → Int → (List Int) → (Int → Option R) → Option R) (av : List S) (es : List Ent) (K : S → List Ent → Option R) : Option R :=
  match av, es with
  | [.st [.arr 256 (.int .u8) v1, .sl (.slice (.int .i64)) v2, .sl .bool v3], .int .i64 v4, .sl (.int .u8) v5], [] => c_machine_To v1 v2 v3 v4 v5 (fun (r0 : Int) => K (.int .i64 r0) [])
  | _, _ => none

def sh19 {R : Type} (c_machine_Same : (List Int) → (List (List Int)) → (List Bool) → (List Int) → (List (List Int)) → (List Bool) → (Bool → Option R) → Option R) (av : List S) (es : List Ent) (K : S → List Ent → Option R) : Option R :=
  match av, es with
  | [.st [.arr 256 (.int .u8) v1, .sl (.slice (.int .i64)) v2, .sl .bool v3], .st [.arr 256 (.int .u8) v4, .sl (.slice (.int .i64)) v5, .sl .bool v6]], [] => c_machine_Same v1 v2 v3 v4 v5 v6 (fun (r0 : Bool) => K (.bool r0) [])
  | _, _ => none

def sh20 {R : Type} (c_machine_Classes : (List Int) → (List (List Int)) → (List Bool) → (Int → Option R) → Option R) (av : List S) (es : List Ent) (K : S → List Ent → Option R) : Option R :=
  match av, es with
  | [.st [.arr 256 (.int .u8) v1, .sl (.slice (.int .i64)) v2, .sl .bool v3]], [] => c_machine_Classes v1 v2 v3 (fun (r0 : Int) => K (.int .i64 r0) [])
  | _, _ => none

def sh21 {R : Type} (c_ref11_Same : (List Int) → (List (List Int)) → (List Bool) → (List Int) → (List (List Int)) → (List Bool) → (Bool → Option R) → Option R) (av : List S) (es : List Ent) (K : S → List Ent → Option R) : Option R :=
  match av, es with
  | [.st [.arr 256 (.int .u8) v1, .sl (.slice (.int .i64)) v2, .sl .bool v3], .st [.arr 256 (.int .u8) v4, .sl (.slice (.int .i64)) v5, .sl .bool v6]], [] => c_ref11_Same v1 v2 v3 v4 v5 v6 (fun (r0 : Bool) => K (.bool r0) [])
  | _, _ => none

def sh22 {R : Type} (c_machine_Copy : (List Int) → (List (List Int)) → (List Bool) → ((List Int) → (List (List Int)) → (List Bool) → Option R) → Option R) (av : List S) (es : List Ent) (K : S → List Ent → Option R) : Option R :=
  match av, es with
  | [.st [.arr 256 (.int .u8) v1, .sl (.slice (.int .i64)) v2, .sl .bool v3]], [] => c_machine_Copy v1 v2 v3 (fun (r0 : (List Int)) (r1 : (List (List Int))) (r2 : (List Bool)) => K (.st [.arr 256 (.int .u8) r0, .own (.slice (.int .i64)) 0, .own .bool 1]) [.buf (.slice (.int .i64)) r1 false, .buf .bool r2 false])
  | _, _ => none

def sh23 {R : Type} (c_play_Made : (List Int) → ((List Int) → Int → Option R) → Option R) (av : List S) (es : List Ent) (K : S → List Ent → Option R) : Option R :=
  match av, es with
  | [.sl (.int .u8) v1], [] => c_play_Made v1 (fun (r0 : (List Int)) (r1 : Int) => K (.ptr 0 []) [.box (.st [.sl (.int .u8) r0, .int .i64 r1]) false])
  | _, _ => none

def sh24 {R : Type} (c_play_Picks_num : Int → (List Int) → Int → (Int → (List Int) → Int → Option R) → Option R) (av : List S) (es : List Ent) (K : S → List Ent → Option R) : Option R :=
  match av, es with
  | [.ptr 0 [], .int .i64 v1], [.box (.st [.sl (.int .u8) v2, .int .i64 v3]) false] => c_play_Picks_num v1 v2 v3 (fun (r0 : Int) (r1 : (List Int)) (r2 : Int) => K (.int .i64 r0) [.box (.st [.sl (.int .u8) r1, .int .i64 r2]) false])
  | _, _ => none

def sh25 {R : Type} (c_machine_classes : (List Int) → (List (List Int)) → (List Bool) → (Int → Option R) → Option R) (av : List S) (es : List Ent) (K : S → List Ent → Option R) : Option R :=
  match av, es with
  | [.st [.arr 256 (.int .u8) v1, .sl (.slice (.int .i64)) v2, .sl .bool v3]], [] => c_machine_classes v1 v2 v3 (fun (r0 : Int) => K (.int .i64 r0) [])
  | _, _ => none

def sh26 {R : Type} (c_slices_ContainsFunc_int_int : (List Int) → Int → (Bool → Int → Option R) → Option R) (av : List S) (es : List Ent) (K : S → List Ent → Option R) : Option R :=
  match av, es with
  | [.sl (.int .i64) v1, .fn 27 [.ptr 0 []]], [.box (.int .i64 v2) false] => c_slices_ContainsFunc_int_int v1 v2 (fun (r0 : Bool) (r1 : Int) => K (.bool r0) [.box (.int .i64 r1) false])
  | _, _ => none

def sh27 {R : Type} (c_machine_May_1 : Int → Int → (Bool → Int → Option R) → Option R) (av : List S) (es : List Ent) (K : S → List Ent → Option R) : Option R :=
  match av, es with
  | [.int .i64 v1, .ptr 0 []], [.box (.int .i64 v2) false] => c_machine_May_1 v1 v2 (fun (r0 : Bool) (r1 : Int) => K (.bool r0) [.box (.int .i64 r1) false])
  | _, _ => none

def sh30 {R : Type} (av : List S) (es : List Ent) (K : S → List Ent → Option R) : Option R :=
  match av, es with
  | [.sl .bool v1], [] => gd (decide (v1.length < SMALL)) (K (.own .bool 0) [.buf .bool v1 false])
  | _, _ => none

def sh31 {R : Type} (c_slices_Equal_bool_bool : (List Bool) → (List Bool) → (Bool → Option R) → Option R) (av : List S) (es : List Ent) (K : S → List Ent → Option R) : Option R :=
  match av, es with
  | [.sl .bool v1, .sl .bool v2], [] => c_slices_Equal_bool_bool v1 v2 (fun (r0 : Bool) => K (.bool r0) [])
  | _, _ => none

def sh32 {R : Type} (c_slices_EqualFunc_int_int_int_int : (List (List Int)) → (List (List Int)) → (Bool → Option R) → Option R) (av : List S) (es : List Ent) (K : S → List Ent → Option R) : Option R :=
  match av, es with
  | [.sl (.slice (.int .i64)) v1, .sl (.slice (.int .i64)) v2, .fn 33 []], [] => c_slices_EqualFunc_int_int_int_int v1 v2 (fun (r0 : Bool) => K (.bool r0) [])
  | _, _ => none

def sh33 {R : Type} (c_machine_Same_1 : (List Int) → (List Int) → (Bool → Option R) → Option R) (av : List S) (es : List Ent) (K : S → List Ent → Option R) : Option R :=
  match av, es with
  | [.sl (.int .i64) v1, .sl (.int .i64) v2], [] => c_machine_Same_1 v1 v2 (fun (r0 : Bool) => K (.bool r0) [])
  | _, _ => none

def sh34 {R : Type} (c_slices_Equal_int_int : (List Int) → (List Int) → (Bool → Option R) → Option R) (av : List S) (es : List Ent) (K : S → List Ent → Option R) : Option R :=
  match av, es with
  | [.sl (.int .i64) v1, .sl (.int .i64) v2], [] => c_slices_Equal_int_int v1 v2 (fun (r0 : Bool) => K (.bool r0) [])
  | _, _ => none

def sh35 {R : Type} (av : List S) (es : List Ent) (K : S → List Ent → Option R) : Option R :=
  match av, es with
  | [.sl (.int .i64) v1], [] => gd (decide (v1.length < SMALL)) (K (.own (.int .i64) 0) [.buf (.int .i64) v1 false])
  | _, _ => none

def sh36 {R : Type} (c_slices_Max_uint8_uint8 : (List Int) → (Int → Option R) → Option R) (av : List S) (es : List Ent) (K : S → List Ent → Option R) : Option R :=
  match av, es with
  | [.sl (.int .u8) v1], [] => c_slices_Max_uint8_uint8 v1 (fun (r0 : Int) => K (.int .u8 r0) [])
  | _, _ => none

def sh37 {R : Type} (c_slices_IndexFunc_int_int : (List Int) → Int → (Int → Int → Option R) → Option R) (av : List S) (es : List Ent) (K : S → List Ent → Option R) : Option R :=
  match av, es with
  | [.sl (.int .i64) v1, .fn 27 [.ptr 0 []]], [.box (.int .i64 v2) false] => c_slices_IndexFunc_int_int v1 v2 (fun (r0 : Int) (r1 : Int) => K (.int .i64 r0) [.box (.int .i64 r1) false])
  | _, _ => none

end
end Go.Ab.T
