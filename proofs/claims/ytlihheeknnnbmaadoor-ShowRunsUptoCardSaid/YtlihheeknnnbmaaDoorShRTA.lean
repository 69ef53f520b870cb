/- ShRTA: a part of the proofs of this seat's statements. -/
import Derived.Test.YtlihheeknnnbmaaDoorDef
import Derived.Test.YtlihheeknnnbmaaDoorPrimX
import Derived.Test.YtlihheeknnnbmaaDoorProg
import Derived.KernelRfl




namespace Go.Ab.T

open Go Go.Ab Go.Proofs

set_option maxRecDepth 100000

set_option linter.unusedVariables false

noncomputable section

def deBruijn : List Int := [0, 1, 56, 2, 57, 49, 28, 3, 61, 58, 42, 50, 38, 29, 17, 4, 62, 47, 59, 36, 45, 43, 51, 22, 53, 39, 33, 30, 24, 18, 12, 5, 63, 55, 48, 27, 60, 41, 37, 16, 46, 35, 44, 21, 52, 32, 23, 11, 54, 26, 40, 15, 34, 20, 31, 10, 25, 14, 19, 9, 13, 8, 7, 6]

def glob : Nat → Option S := fun g => if g = 0 then some (.arr 64 (.int .u8) deBruijn) else none

def raw : FuncId → Bool := fun f => [].contains f

def ref1_Of_l3_b {R : Type} (l_3 : (List Int) → (List Int) → ((List Int) → (List Int) → Option R) → Int → (List Int) → Option R) (v2 : (List Int)) (v4 : (List Int)) (Ke0 : (List Int) → (List Int) → Option R) (v3 : Int) (v5 : (List Int)) : Option R :=
    bif decide (v3 < (v2.length : Int)) then
    (gd (decide (0 ≤ v3))
     (gd (decide (v3 < (v2.length : Int)))
      (gd (decide (0 ≤ (IntKind.u8.wrap (Int.tdiv (v2.getD (Int.toNat v3) (0 : Int)) 64))))
       (gd (decide ((IntKind.u8.wrap (Int.tdiv (v2.getD (Int.toNat v3) (0 : Int)) 64)) < 4))
        (gd (decide (0 ≤ v3))
         (gd (decide (v3 < (v2.length : Int)))
          (gd (decide (0 ≤ (Int.tmod (v2.getD (Int.toNat v3) (0 : Int)) 64)))
           (gd (decide (0 ≤ (IntKind.u8.wrap (Int.tdiv (v2.getD (Int.toNat v3) (0 : Int)) 64))))
            (gd (decide ((IntKind.u8.wrap (Int.tdiv (v2.getD (Int.toNat v3) (0 : Int)) 64)) < 4))
             (l_3 v2 v4 Ke0 (IntKind.i64.wrap (v3 + 1)) (v5.set (Int.toNat (IntKind.u8.wrap (Int.tdiv (v2.getD (Int.toNat v3) (0 : Int)) 64))) (bvop .u64 .or (v5.getD (Int.toNat (IntKind.u8.wrap (Int.tdiv (v2.getD (Int.toNat v3) (0 : Int)) 64))) (0 : Int)) (shl .u64 1 (Int.tmod (v2.getD (Int.toNat v3) (0 : Int)) 64))))))))))))))
    else (Ke0 v4 v5)

def ref1_Of_b {R : Type} (l_3 : (List Int) → (List Int) → ((List Int) → (List Int) → Option R) → Int → (List Int) → Option R) (v1 : (List Int)) (K : (List Int) → Option R) : Option R :=
    l_3 v1 (List.replicate 4 (0 : Int))
    (fun (v6 : (List Int)) (v7 : (List Int)) =>
     K v7) 0 (List.replicate 4 (0 : Int))

def ref1_Of_l3 {R : Type} (kf : Nat) : Nat → (List Int) → (List Int) → ((List Int) → (List Int) → Option R) → Int → (List Int) → Option R
  | 0, _, _, _, _, _ => none
  | k + 1, y0, y1, y2, y3, y4 => ref1_Of_l3_b (ref1_Of_l3 kf k) y0 y1 y2 y3 y4

def ref1_Of {R : Type} (kf : Nat) (v1 : (List Int)) (K : (List Int) → Option R) : Option R := ref1_Of_b (ref1_Of_l3 kf kf) v1 K

def ref5_None_b {R : Type} (K : Int → (List Int) → (List (Rose (Int × ((List Int) × Unit)))) → Option R) : Option R :=
    K 1 (List.replicate 4 (0 : Int)) ([] : List (Rose (Int × ((List Int) × Unit))))

def ref5_None {R : Type} (K : Int → (List Int) → (List (Rose (Int × ((List Int) × Unit)))) → Option R) : Option R := ref5_None_b K

def ref5_Bytes_b {R : Type} (c_ref5_None : (Int → (List Int) → (List (Rose (Int × ((List Int) × Unit)))) → Option R) → Option R) (v1 : (List Int)) (K : Int → (List Int) → (List (Rose (Int × ((List Int) × Unit)))) → Option R) : Option R :=
    bif decide (v1 = (List.replicate 4 (0 : Int))) then
    (c_ref5_None (fun (v2 : Int) (v3 : (List Int)) (v4 : (List (Rose (Int × ((List Int) × Unit))))) =>
      K v2 v3 v4))
    else (K 3 v1 ([] : List (Rose (Int × ((List Int) × Unit)))))

def ref5_Bytes {R : Type} (v1 : (List Int)) (K : Int → (List Int) → (List (Rose (Int × ((List Int) × Unit)))) → Option R) : Option R := ref5_Bytes_b ref5_None v1 K

def ref5_Copy_l3_b {R : Type} (c_ref5_Copy : Int → (List Int) → (List (Rose (Int × ((List Int) × Unit)))) → (Int → (List Int) → (List (Rose (Int × ((List Int) × Unit)))) → Option R) → Option R) (l_3 : Int → (List Int) → (List (Rose (Int × ((List Int) × Unit)))) → Int → (List Int) → (List (Rose (Int × ((List Int) × Unit)))) → (Int → (List Int) → (List (Rose (Int × ((List Int) × Unit)))) → Int → (List Int) → (List (Rose (Int × ((List Int) × Unit)))) → (List (Rose (Int × ((List Int) × Unit)))) → Option R) → Int → (List (Rose (Int × ((List Int) × Unit)))) → Option R) (v5 : Int) (v6 : (List Int)) (v7 : (List (Rose (Int × ((List Int) × Unit))))) (v8 : Int) (v9 : (List Int)) (v11 : (List (Rose (Int × ((List Int) × Unit))))) (Ke0 : Int → (List Int) → (List (Rose (Int × ((List Int) × Unit)))) → Int → (List Int) → (List (Rose (Int × ((List Int) × Unit)))) → (List (Rose (Int × ((List Int) × Unit)))) → Option R) (v4 : Int) (v10 : (List (Rose (Int × ((List Int) × Unit))))) : Option R :=
    bif decide (v4 < (v7.length : Int)) then
    (gd (decide (0 ≤ v4))
     (gd (decide (v4 < (v7.length : Int)))
      (c_ref5_Copy ((Rose.lab (v7.getD (Int.toNat v4) (Rose.node ((0 : Int), ((List.replicate 4 (0 : Int)), ())) [] : (Rose (Int × ((List Int) × Unit)))))).1) ((Rose.lab (v7.getD (Int.toNat v4) (Rose.node ((0 : Int), ((List.replicate 4 (0 : Int)), ())) [] : (Rose (Int × ((List Int) × Unit)))))).2.1) (Rose.kids (v7.getD (Int.toNat v4) (Rose.node ((0 : Int), ((List.replicate 4 (0 : Int)), ())) [] : (Rose (Int × ((List Int) × Unit)))))) (fun (v12 : Int) (v13 : (List Int)) (v14 : (List (Rose (Int × ((List Int) × Unit))))) =>
        gd (decide (v10.length + ([(Rose.node (v12, v13, ()) v14)] : List (Rose (Int × ((List Int) × Unit)))).length < SMALL))
        (l_3 v5 v6 v7 v8 v9 v11 Ke0 (IntKind.i64.wrap (v4 + 1)) (v10 ++ ([(Rose.node (v12, v13, ()) v14)] : List (Rose (Int × ((List Int) × Unit))))))))))
    else (Ke0 v5 v6 v7 v8 v9 v10 v11)

def ref5_Copy_b {R : Type} (c_ref5_Copy : Int → (List Int) → (List (Rose (Int × ((List Int) × Unit)))) → (Int → (List Int) → (List (Rose (Int × ((List Int) × Unit)))) → Option R) → Option R) (l_3 : Int → (List Int) → (List (Rose (Int × ((List Int) × Unit)))) → Int → (List Int) → (List (Rose (Int × ((List Int) × Unit)))) → (Int → (List Int) → (List (Rose (Int × ((List Int) × Unit)))) → Int → (List Int) → (List (Rose (Int × ((List Int) × Unit)))) → (List (Rose (Int × ((List Int) × Unit)))) → Option R) → Int → (List (Rose (Int × ((List Int) × Unit)))) → Option R) (v1 : Int) (v2 : (List Int)) (v3 : (List (Rose (Int × ((List Int) × Unit))))) (K : Int → (List Int) → (List (Rose (Int × ((List Int) × Unit)))) → Option R) : Option R :=
    l_3 v1 v2 v3 0 (List.replicate 4 (0 : Int)) ([] : List (Rose (Int × ((List Int) × Unit))))
    (fun (v15 : Int) (v16 : (List Int)) (v17 : (List (Rose (Int × ((List Int) × Unit))))) (v18 : Int) (v19 : (List Int)) (v20 : (List (Rose (Int × ((List Int) × Unit))))) (v21 : (List (Rose (Int × ((List Int) × Unit))))) =>
     K v15 v16 v20) 0 ([] : List (Rose (Int × ((List Int) × Unit))))

def ref5_Copy_l3 {R : Type} (c_self : Int → (List Int) → (List (Rose (Int × ((List Int) × Unit)))) → (Int → (List Int) → (List (Rose (Int × ((List Int) × Unit)))) → Option R) → Option R) (kf : Nat) : Nat → Int → (List Int) → (List (Rose (Int × ((List Int) × Unit)))) → Int → (List Int) → (List (Rose (Int × ((List Int) × Unit)))) → (Int → (List Int) → (List (Rose (Int × ((List Int) × Unit)))) → Int → (List Int) → (List (Rose (Int × ((List Int) × Unit)))) → (List (Rose (Int × ((List Int) × Unit)))) → Option R) → Int → (List (Rose (Int × ((List Int) × Unit)))) → Option R
  | 0, _, _, _, _, _, _, _, _, _ => none
  | k + 1, y0, y1, y2, y3, y4, y5, y6, y7, y8 => ref5_Copy_l3_b c_self (ref5_Copy_l3 c_self kf k) y0 y1 y2 y3 y4 y5 y6 y7 y8

def ref5_Copy {R : Type} : Nat → Int → (List Int) → (List (Rose (Int × ((List Int) × Unit)))) → (Int → (List Int) → (List (Rose (Int × ((List Int) × Unit)))) → Option R) → Option R
  | 0, _, _, _, _ => none
  | kf + 1, y0, y1, y2, y3 => ref5_Copy_b (ref5_Copy kf) (ref5_Copy_l3 (ref5_Copy kf) kf kf) y0 y1 y2 y3

def ref5_Empty_b {R : Type} (K : Int → (List Int) → (List (Rose (Int × ((List Int) × Unit)))) → Option R) : Option R :=
    K 2 (List.replicate 4 (0 : Int)) ([] : List (Rose (Int × ((List Int) × Unit))))

def ref5_Empty {R : Type} (K : Int → (List Int) → (List (Rose (Int × ((List Int) × Unit)))) → Option R) : Option R := ref5_Empty_b K

def ref5_flat_l3_b {R : Type} (l_3 : Int → (List (Rose (Int × ((List Int) × Unit)))) → ((List (Rose (Int × ((List Int) × Unit)))) → Option R) → Int → (List (Rose (Int × ((List Int) × Unit)))) → Option R) (v3 : Int) (v4 : (List (Rose (Int × ((List Int) × Unit))))) (Ke0 : (List (Rose (Int × ((List Int) × Unit)))) → Option R) (v5 : Int) (v6 : (List (Rose (Int × ((List Int) × Unit))))) : Option R :=
    bif decide (v5 < (v4.length : Int)) then
    (gd (decide (0 ≤ v5))
     (gd (decide (v5 < (v4.length : Int)))
      (bif decide ((Rose.lab (v4.getD (Int.toNat v5) (Rose.node ((0 : Int), ((List.replicate 4 (0 : Int)), ())) [] : (Rose (Int × ((List Int) × Unit)))))).1 = v3) then
       (gd (decide (0 ≤ v5))
        (gd (decide (v5 < (v4.length : Int)))
         (gd (decide (v6.length + (Rose.kids (v4.getD (Int.toNat v5) (Rose.node ((0 : Int), ((List.replicate 4 (0 : Int)), ())) [] : (Rose (Int × ((List Int) × Unit)))))).length < SMALL))
          (l_3 v3 v4 Ke0 (IntKind.i64.wrap (v5 + 1)) (v6 ++ (Rose.kids (v4.getD (Int.toNat v5) (Rose.node ((0 : Int), ((List.replicate 4 (0 : Int)), ())) [] : (Rose (Int × ((List Int) × Unit)))))))))))
       else (gd (decide (0 ≤ v5))
        (gd (decide (v5 < (v4.length : Int)))
         (gd (decide (v6.length + ([(Rose.node ((Rose.lab (v4.getD (Int.toNat v5) (Rose.node ((0 : Int), ((List.replicate 4 (0 : Int)), ())) [] : (Rose (Int × ((List Int) × Unit)))))).1, (Rose.lab (v4.getD (Int.toNat v5) (Rose.node ((0 : Int), ((List.replicate 4 (0 : Int)), ())) [] : (Rose (Int × ((List Int) × Unit)))))).2.1, ()) (Rose.kids (v4.getD (Int.toNat v5) (Rose.node ((0 : Int), ((List.replicate 4 (0 : Int)), ())) [] : (Rose (Int × ((List Int) × Unit)))))))] : List (Rose (Int × ((List Int) × Unit)))).length < SMALL))
          (l_3 v3 v4 Ke0 (IntKind.i64.wrap (v5 + 1)) (v6 ++ ([(Rose.node ((Rose.lab (v4.getD (Int.toNat v5) (Rose.node ((0 : Int), ((List.replicate 4 (0 : Int)), ())) [] : (Rose (Int × ((List Int) × Unit)))))).1, (Rose.lab (v4.getD (Int.toNat v5) (Rose.node ((0 : Int), ((List.replicate 4 (0 : Int)), ())) [] : (Rose (Int × ((List Int) × Unit)))))).2.1, ()) (Rose.kids (v4.getD (Int.toNat v5) (Rose.node ((0 : Int), ((List.replicate 4 (0 : Int)), ())) [] : (Rose (Int × ((List Int) × Unit)))))))] : List (Rose (Int × ((List Int) × Unit))))))))))))
    else (Ke0 v6)

def ref5_flat_b {R : Type} (l_3 : Int → (List (Rose (Int × ((List Int) × Unit)))) → ((List (Rose (Int × ((List Int) × Unit)))) → Option R) → Int → (List (Rose (Int × ((List Int) × Unit)))) → Option R) (v1 : Int) (v2 : (List (Rose (Int × ((List Int) × Unit))))) (K : (List (Rose (Int × ((List Int) × Unit)))) → Option R) : Option R :=
    l_3 v1 v2
    (fun (v7 : (List (Rose (Int × ((List Int) × Unit))))) =>
     K v7) 0 ([] : List (Rose (Int × ((List Int) × Unit))))

def ref5_flat_l3 {R : Type} (kf : Nat) : Nat → Int → (List (Rose (Int × ((List Int) × Unit)))) → ((List (Rose (Int × ((List Int) × Unit)))) → Option R) → Int → (List (Rose (Int × ((List Int) × Unit)))) → Option R
  | 0, _, _, _, _, _ => none
  | k + 1, y0, y1, y2, y3, y4 => ref5_flat_l3_b (ref5_flat_l3 kf k) y0 y1 y2 y3 y4

def ref5_flat {R : Type} (kf : Nat) (v1 : Int) (v2 : (List (Rose (Int × ((List Int) × Unit))))) (K : (List (Rose (Int × ((List Int) × Unit)))) → Option R) : Option R := ref5_flat_b (ref5_flat_l3 kf kf) v1 v2 K

def ref1_Has_b {R : Type} (v1 : (List Int)) (v2 : Int) (K : Bool → Option R) : Option R :=
    gd (decide (0 ≤ (IntKind.u8.wrap (Int.tdiv v2 64))))
    (gd (decide ((IntKind.u8.wrap (Int.tdiv v2 64)) < 4))
     (gd (decide (0 ≤ (Int.tmod v2 64)))
      (K (decide ((Int.tmod (shr .u64 (v1.getD (Int.toNat (IntKind.u8.wrap (Int.tdiv v2 64))) (0 : Int)) (Int.tmod v2 64)) 2) = 1)))))

def ref1_Has {R : Type} (v1 : (List Int)) (v2 : Int) (K : Bool → Option R) : Option R := ref1_Has_b v1 v2 K

def ref1_List_l3_b {R : Type} (c_ref1_Has : (List Int) → Int → (Bool → Option R) → Option R) (l_3 : (List Int) → ((List Int) → Option R) → Int → (List Int) → Option R) (v3 : (List Int)) (Ke0 : (List Int) → Option R) (v2 : Int) (v4 : (List Int)) : Option R :=
    bif decide (v2 < 256) then
    (c_ref1_Has v3 (IntKind.u8.wrap v2) (fun (v5 : Bool) =>
      bif v5 then
      (gd (decide (v4.length + ([(IntKind.u8.wrap v2)] : List Int).length < SMALL))
       (l_3 v3 Ke0 (IntKind.i64.wrap (v2 + 1)) (v4 ++ ([(IntKind.u8.wrap v2)] : List Int))))
      else (l_3 v3 Ke0 (IntKind.i64.wrap (v2 + 1)) v4)))
    else (Ke0 v4)

def ref1_List_b {R : Type} (c_ref1_Has : (List Int) → Int → (Bool → Option R) → Option R) (l_3 : (List Int) → ((List Int) → Option R) → Int → (List Int) → Option R) (v1 : (List Int)) (K : (List Int) → Option R) : Option R :=
    l_3 v1
    (fun (v6 : (List Int)) =>
     K v6) 0 ([] : List Int)

def ref1_List_l3 {R : Type} (kf : Nat) : Nat → (List Int) → ((List Int) → Option R) → Int → (List Int) → Option R
  | 0, _, _, _, _ => none
  | k + 1, y0, y1, y2, y3 => ref1_List_l3_b ref1_Has (ref1_List_l3 kf k) y0 y1 y2 y3

def ref1_List {R : Type} (kf : Nat) (v1 : (List Int)) (K : (List Int) → Option R) : Option R := ref1_List_b ref1_Has (ref1_List_l3 kf kf) v1 K

def ref1_Or_b {R : Type} (c_ref1_List : (List Int) → ((List Int) → Option R) → Option R) (c_ref1_Of : (List Int) → ((List Int) → Option R) → Option R) (v1 : (List Int)) (v2 : (List Int)) (K : (List Int) → Option R) : Option R :=
    c_ref1_List v1 (fun (v3 : (List Int)) =>
     c_ref1_List v2 (fun (v4 : (List Int)) =>
      gd (decide (v3.length + v4.length < SMALL))
      (c_ref1_Of (v3 ++ v4) (fun (v5 : (List Int)) =>
        K v5))))

def ref1_Or {R : Type} (kf : Nat) (v1 : (List Int)) (v2 : (List Int)) (K : (List Int) → Option R) : Option R := ref1_Or_b (ref1_List kf) (ref1_Of kf) v1 v2 K

def ref1_SetLess_l2_b {R : Type} (c_ref1_Has : (List Int) → Int → (Bool → Option R) → Option R) (l_2 : (List Int) → (List Int) → (Bool → Option R) → (Option R) → Int → Option R) (v4 : (List Int)) (v5 : (List Int)) (Kr : Bool → Option R) (Ke0 : Option R) (v3 : Int) : Option R :=
    bif decide (v3 < 256) then
    (c_ref1_Has v4 (IntKind.u8.wrap v3) (fun (v6 : Bool) =>
      c_ref1_Has v5 (IntKind.u8.wrap v3) (fun (v7 : Bool) =>
       bif (!(decide (v6 = v7))) then
       (c_ref1_Has v4 (IntKind.u8.wrap v3) (fun (v8 : Bool) =>
         Kr v8))
       else (l_2 v4 v5 Kr Ke0 (IntKind.i64.wrap (v3 + 1))))))
    else (Ke0)

def ref1_SetLess_b {R : Type} (c_ref1_Has : (List Int) → Int → (Bool → Option R) → Option R) (l_2 : (List Int) → (List Int) → (Bool → Option R) → (Option R) → Int → Option R) (v1 : (List Int)) (v2 : (List Int)) (K : Bool → Option R) : Option R :=
    l_2 v1 v2
    (fun (v9 : Bool) =>
     K v9)
    (K false) 0

def ref1_SetLess_l2 {R : Type} (kf : Nat) : Nat → (List Int) → (List Int) → (Bool → Option R) → (Option R) → Int → Option R
  | 0, _, _, _, _, _ => none
  | k + 1, y0, y1, y2, y3, y4 => ref1_SetLess_l2_b ref1_Has (ref1_SetLess_l2 kf k) y0 y1 y2 y3 y4

def ref1_SetLess {R : Type} (kf : Nat) (v1 : (List Int)) (v2 : (List Int)) (K : Bool → Option R) : Option R := ref1_SetLess_b ref1_Has (ref1_SetLess_l2 kf kf) v1 v2 K

def ref5_Compare_l10_b {R : Type} (c_ref1_SetLess : (List Int) → (List Int) → (Bool → Option R) → Option R) (c_ref5_Compare : Int → (List Int) → (List (Rose (Int × ((List Int) × Unit)))) → Int → (List Int) → (List (Rose (Int × ((List Int) × Unit)))) → (Int → Option R) → Option R) (l_10 : Int → (List Int) → (List (Rose (Int × ((List Int) × Unit)))) → Int → (List Int) → (List (Rose (Int × ((List Int) × Unit)))) → (Int → Int → (List Int) → (List (Rose (Int × ((List Int) × Unit)))) → Int → (List Int) → (List (Rose (Int × ((List Int) × Unit)))) → Option R) → (Int → (List Int) → (List (Rose (Int × ((List Int) × Unit)))) → Int → (List Int) → (List (Rose (Int × ((List Int) × Unit)))) → Option R) → Int → Option R) (v10 : Int) (v11 : (List Int)) (v12 : (List (Rose (Int × ((List Int) × Unit))))) (v13 : Int) (v14 : (List Int)) (v15 : (List (Rose (Int × ((List Int) × Unit))))) (Kr : Int → Int → (List Int) → (List (Rose (Int × ((List Int) × Unit)))) → Int → (List Int) → (List (Rose (Int × ((List Int) × Unit)))) → Option R) (Ke0 : Int → (List Int) → (List (Rose (Int × ((List Int) × Unit)))) → Int → (List Int) → (List (Rose (Int × ((List Int) × Unit)))) → Option R) (v9 : Int) : Option R :=
    bif decide (v9 < (v12.length : Int)) then
    (bif decide (v9 < (v15.length : Int)) then
     (gd (decide (0 ≤ v9))
      (gd (decide (v9 < (v12.length : Int)))
       (gd (decide (0 ≤ v9))
        (gd (decide (v9 < (v15.length : Int)))
         (c_ref5_Compare ((Rose.lab (v12.getD (Int.toNat v9) (Rose.node ((0 : Int), ((List.replicate 4 (0 : Int)), ())) [] : (Rose (Int × ((List Int) × Unit)))))).1) ((Rose.lab (v12.getD (Int.toNat v9) (Rose.node ((0 : Int), ((List.replicate 4 (0 : Int)), ())) [] : (Rose (Int × ((List Int) × Unit)))))).2.1) (Rose.kids (v12.getD (Int.toNat v9) (Rose.node ((0 : Int), ((List.replicate 4 (0 : Int)), ())) [] : (Rose (Int × ((List Int) × Unit)))))) ((Rose.lab (v15.getD (Int.toNat v9) (Rose.node ((0 : Int), ((List.replicate 4 (0 : Int)), ())) [] : (Rose (Int × ((List Int) × Unit)))))).1) ((Rose.lab (v15.getD (Int.toNat v9) (Rose.node ((0 : Int), ((List.replicate 4 (0 : Int)), ())) [] : (Rose (Int × ((List Int) × Unit)))))).2.1) (Rose.kids (v15.getD (Int.toNat v9) (Rose.node ((0 : Int), ((List.replicate 4 (0 : Int)), ())) [] : (Rose (Int × ((List Int) × Unit)))))) (fun (v16 : Int) =>
           bif (!(decide (v16 = 0))) then
           (Kr v16 v10 v11 v12 v13 v14 v15)
           else (l_10 v10 v11 v12 v13 v14 v15 Kr Ke0 (IntKind.i64.wrap (v9 + 1)))))))))
     else (Ke0 v10 v11 v12 v13 v14 v15))
    else (Ke0 v10 v11 v12 v13 v14 v15)

def ref5_Compare_b {R : Type} (c_ref1_SetLess : (List Int) → (List Int) → (Bool → Option R) → Option R) (c_ref5_Compare : Int → (List Int) → (List (Rose (Int × ((List Int) × Unit)))) → Int → (List Int) → (List (Rose (Int × ((List Int) × Unit)))) → (Int → Option R) → Option R) (l_10 : Int → (List Int) → (List (Rose (Int × ((List Int) × Unit)))) → Int → (List Int) → (List (Rose (Int × ((List Int) × Unit)))) → (Int → Int → (List Int) → (List (Rose (Int × ((List Int) × Unit)))) → Int → (List Int) → (List (Rose (Int × ((List Int) × Unit)))) → Option R) → (Int → (List Int) → (List (Rose (Int × ((List Int) × Unit)))) → Int → (List Int) → (List (Rose (Int × ((List Int) × Unit)))) → Option R) → Int → Option R) (v1 : Int) (v2 : (List Int)) (v3 : (List (Rose (Int × ((List Int) × Unit))))) (v4 : Int) (v5 : (List Int)) (v6 : (List (Rose (Int × ((List Int) × Unit))))) (K : Int → Option R) : Option R :=
    bif (!(decide (v1 = v4))) then
    (bif decide (v1 < v4) then
     (K (-1))
     else (K 1))
    else (let j30 : Bool → Option R := fun v7 =>
     (bif v7 then
      (c_ref1_SetLess v2 v5 (fun (v8 : Bool) =>
        bif v8 then
        (K (-1))
        else (K 1)))
      else (l_10 v1 v2 v3 v4 v5 v6
       (fun (v17 : Int) (v18 : Int) (v19 : (List Int)) (v20 : (List (Rose (Int × ((List Int) × Unit))))) (v21 : Int) (v22 : (List Int)) (v23 : (List (Rose (Int × ((List Int) × Unit))))) =>
        K v17)
       (fun (v24 : Int) (v25 : (List Int)) (v26 : (List (Rose (Int × ((List Int) × Unit))))) (v27 : Int) (v28 : (List Int)) (v29 : (List (Rose (Int × ((List Int) × Unit))))) =>
        bif decide ((v26.length : Int) < (v29.length : Int)) then
        (K (-1))
        else (bif decide ((v29.length : Int) < (v26.length : Int)) then
         (K 1)
         else (K 0))) 0))
     (bif decide (v1 = 3) then
      (j30 (!(decide (v2 = v5))))
      else (j30 false)))

def ref5_Compare_l10 {R : Type} (c_self : Int → (List Int) → (List (Rose (Int × ((List Int) × Unit)))) → Int → (List Int) → (List (Rose (Int × ((List Int) × Unit)))) → (Int → Option R) → Option R) (kf : Nat) : Nat → Int → (List Int) → (List (Rose (Int × ((List Int) × Unit)))) → Int → (List Int) → (List (Rose (Int × ((List Int) × Unit)))) → (Int → Int → (List Int) → (List (Rose (Int × ((List Int) × Unit)))) → Int → (List Int) → (List (Rose (Int × ((List Int) × Unit)))) → Option R) → (Int → (List Int) → (List (Rose (Int × ((List Int) × Unit)))) → Int → (List Int) → (List (Rose (Int × ((List Int) × Unit)))) → Option R) → Int → Option R
  | 0, _, _, _, _, _, _, _, _, _ => none
  | k + 1, y0, y1, y2, y3, y4, y5, y6, y7, y8 => ref5_Compare_l10_b (ref1_SetLess kf) c_self (ref5_Compare_l10 c_self kf k) y0 y1 y2 y3 y4 y5 y6 y7 y8

def ref5_Compare {R : Type} : Nat → Int → (List Int) → (List (Rose (Int × ((List Int) × Unit)))) → Int → (List Int) → (List (Rose (Int × ((List Int) × Unit)))) → (Int → Option R) → Option R
  | 0, _, _, _, _, _, _, _ => none
  | kf + 1, y0, y1, y2, y3, y4, y5, y6 => ref5_Compare_b (ref1_SetLess kf) (ref5_Compare kf) (ref5_Compare_l10 (ref5_Compare kf) kf kf) y0 y1 y2 y3 y4 y5 y6

def ref5_Equal_b {R : Type} (c_ref5_Compare : Int → (List Int) → (List (Rose (Int × ((List Int) × Unit)))) → Int → (List Int) → (List (Rose (Int × ((List Int) × Unit)))) → (Int → Option R) → Option R) (v1 : Int) (v2 : (List Int)) (v3 : (List (Rose (Int × ((List Int) × Unit))))) (v4 : Int) (v5 : (List Int)) (v6 : (List (Rose (Int × ((List Int) × Unit))))) (K : Bool → Option R) : Option R :=
    c_ref5_Compare v1 v2 v3 v4 v5 v6 (fun (v7 : Int) =>
     K (decide (v7 = 0)))

def ref5_Equal {R : Type} (kf : Nat) (v1 : Int) (v2 : (List Int)) (v3 : (List (Rose (Int × ((List Int) × Unit))))) (v4 : Int) (v5 : (List Int)) (v6 : (List (Rose (Int × ((List Int) × Unit))))) (K : Bool → Option R) : Option R := ref5_Equal_b (ref5_Compare kf) v1 v2 v3 v4 v5 v6 K

def ref5_insert_l2_b {R : Type} (c_ref5_Compare : Int → (List Int) → (List (Rose (Int × ((List Int) × Unit)))) → Int → (List Int) → (List (Rose (Int × ((List Int) × Unit)))) → (Int → Option R) → Option R) (c_ref5_Equal : Int → (List Int) → (List (Rose (Int × ((List Int) × Unit)))) → Int → (List Int) → (List (Rose (Int × ((List Int) × Unit)))) → (Bool → Option R) → Option R) (l_2 : (List (Rose (Int × ((List Int) × Unit)))) → Int → (List Int) → (List (Rose (Int × ((List Int) × Unit)))) → ((List (Rose (Int × ((List Int) × Unit)))) → Int → Int → (List Int) → (List (Rose (Int × ((List Int) × Unit)))) → Option R) → Int → Option R) (v5 : (List (Rose (Int × ((List Int) × Unit))))) (v7 : Int) (v8 : (List Int)) (v9 : (List (Rose (Int × ((List Int) × Unit))))) (Ke0 : (List (Rose (Int × ((List Int) × Unit)))) → Int → Int → (List Int) → (List (Rose (Int × ((List Int) × Unit)))) → Option R) (v6 : Int) : Option R :=
    bif decide (v6 < (v5.length : Int)) then
    (gd (decide (0 ≤ v6))
     (gd (decide (v6 < (v5.length : Int)))
      (c_ref5_Compare ((Rose.lab (v5.getD (Int.toNat v6) (Rose.node ((0 : Int), ((List.replicate 4 (0 : Int)), ())) [] : (Rose (Int × ((List Int) × Unit)))))).1) ((Rose.lab (v5.getD (Int.toNat v6) (Rose.node ((0 : Int), ((List.replicate 4 (0 : Int)), ())) [] : (Rose (Int × ((List Int) × Unit)))))).2.1) (Rose.kids (v5.getD (Int.toNat v6) (Rose.node ((0 : Int), ((List.replicate 4 (0 : Int)), ())) [] : (Rose (Int × ((List Int) × Unit)))))) v7 v8 v9 (fun (v10 : Int) =>
        bif decide (v10 < 0) then
        (l_2 v5 v7 v8 v9 Ke0 (IntKind.i64.wrap (v6 + 1)))
        else (Ke0 v5 v6 v7 v8 v9)))))
    else (Ke0 v5 v6 v7 v8 v9)

def ref5_insert_b {R : Type} (c_ref5_Compare : Int → (List Int) → (List (Rose (Int × ((List Int) × Unit)))) → Int → (List Int) → (List (Rose (Int × ((List Int) × Unit)))) → (Int → Option R) → Option R) (c_ref5_Equal : Int → (List Int) → (List (Rose (Int × ((List Int) × Unit)))) → Int → (List Int) → (List (Rose (Int × ((List Int) × Unit)))) → (Bool → Option R) → Option R) (l_2 : (List (Rose (Int × ((List Int) × Unit)))) → Int → (List Int) → (List (Rose (Int × ((List Int) × Unit)))) → ((List (Rose (Int × ((List Int) × Unit)))) → Int → Int → (List Int) → (List (Rose (Int × ((List Int) × Unit)))) → Option R) → Int → Option R) (v1 : (List (Rose (Int × ((List Int) × Unit))))) (v2 : Int) (v3 : (List Int)) (v4 : (List (Rose (Int × ((List Int) × Unit))))) (K : (List (Rose (Int × ((List Int) × Unit)))) → Option R) : Option R :=
    l_2 v1 v2 v3 v4
    (fun (v11 : (List (Rose (Int × ((List Int) × Unit))))) (v12 : Int) (v13 : Int) (v14 : (List Int)) (v15 : (List (Rose (Int × ((List Int) × Unit))))) =>
     let j17 : Bool → Option R := fun v16 =>
     (bif v16 then
      (K v11)
      else (gd (decide (0 ≤ v12))
       (gd (decide (v12 ≤ (v11.length : Int)))
        (gd (decide (([] : List (Rose (Int × ((List Int) × Unit)))).length + (v11.take (Int.toNat v12)).length < SMALL))
         (gd (decide ((([] : List (Rose (Int × ((List Int) × Unit)))) ++ (v11.take (Int.toNat v12))).length + ([(Rose.node (v13, v14, ()) v15)] : List (Rose (Int × ((List Int) × Unit)))).length < SMALL))
          (gd (decide (0 ≤ v12))
           (gd (decide (v12 ≤ (v11.length : Int)))
            (gd (decide (((([] : List (Rose (Int × ((List Int) × Unit)))) ++ (v11.take (Int.toNat v12))) ++ ([(Rose.node (v13, v14, ()) v15)] : List (Rose (Int × ((List Int) × Unit))))).length + (v11.drop (Int.toNat v12)).length < SMALL))
             (K (((([] : List (Rose (Int × ((List Int) × Unit)))) ++ (v11.take (Int.toNat v12))) ++ ([(Rose.node (v13, v14, ()) v15)] : List (Rose (Int × ((List Int) × Unit))))) ++ (v11.drop (Int.toNat v12))))))))))))
     (bif decide (v12 < (v11.length : Int)) then
      (gd (decide (0 ≤ v12))
       (gd (decide (v12 < (v11.length : Int)))
        (c_ref5_Equal ((Rose.lab (v11.getD (Int.toNat v12) (Rose.node ((0 : Int), ((List.replicate 4 (0 : Int)), ())) [] : (Rose (Int × ((List Int) × Unit)))))).1) ((Rose.lab (v11.getD (Int.toNat v12) (Rose.node ((0 : Int), ((List.replicate 4 (0 : Int)), ())) [] : (Rose (Int × ((List Int) × Unit)))))).2.1) (Rose.kids (v11.getD (Int.toNat v12) (Rose.node ((0 : Int), ((List.replicate 4 (0 : Int)), ())) [] : (Rose (Int × ((List Int) × Unit)))))) v13 v14 v15 (fun (v18 : Bool) =>
          j17 v18))))
      else (j17 false))) 0

def ref5_insert_l2 {R : Type} (kf : Nat) : Nat → (List (Rose (Int × ((List Int) × Unit)))) → Int → (List Int) → (List (Rose (Int × ((List Int) × Unit)))) → ((List (Rose (Int × ((List Int) × Unit)))) → Int → Int → (List Int) → (List (Rose (Int × ((List Int) × Unit)))) → Option R) → Int → Option R
  | 0, _, _, _, _, _, _ => none
  | k + 1, y0, y1, y2, y3, y4, y5 => ref5_insert_l2_b (ref5_Compare kf) (ref5_Equal kf) (ref5_insert_l2 kf k) y0 y1 y2 y3 y4 y5

def ref5_insert {R : Type} (kf : Nat) (v1 : (List (Rose (Int × ((List Int) × Unit))))) (v2 : Int) (v3 : (List Int)) (v4 : (List (Rose (Int × ((List Int) × Unit))))) (K : (List (Rose (Int × ((List Int) × Unit)))) → Option R) : Option R := ref5_insert_b (ref5_Compare kf) (ref5_Equal kf) (ref5_insert_l2 kf kf) v1 v2 v3 v4 K

def ref5_Alt_l5_b {R : Type} (c_ref5_flat : Int → (List (Rose (Int × ((List Int) × Unit)))) → ((List (Rose (Int × ((List Int) × Unit)))) → Option R) → Option R) (c_ref1_Or : (List Int) → (List Int) → ((List Int) → Option R) → Option R) (c_ref5_Copy : Int → (List Int) → (List (Rose (Int × ((List Int) × Unit)))) → (Int → (List Int) → (List (Rose (Int × ((List Int) × Unit)))) → Option R) → Option R) (c_ref5_insert : (List (Rose (Int × ((List Int) × Unit)))) → Int → (List Int) → (List (Rose (Int × ((List Int) × Unit)))) → ((List (Rose (Int × ((List Int) × Unit)))) → Option R) → Option R) (c_ref5_Bytes : (List Int) → (Int → (List Int) → (List (Rose (Int × ((List Int) × Unit)))) → Option R) → Option R) (c_ref5_None : (Int → (List Int) → (List (Rose (Int × ((List Int) × Unit)))) → Option R) → Option R) (l_5 : Int → (List Int) → (List (Rose (Int × ((List Int) × Unit)))) → (List (Rose (Int × ((List Int) × Unit)))) → ((List (Rose (Int × ((List Int) × Unit)))) → Int → (List Int) → (List Int) → (List (Rose (Int × ((List Int) × Unit)))) → Option R) → (List (Rose (Int × ((List Int) × Unit)))) → Int → (List Int) → Option R) (v5 : Int) (v6 : (List Int)) (v8 : (List (Rose (Int × ((List Int) × Unit))))) (v9 : (List (Rose (Int × ((List Int) × Unit))))) (Ke0 : (List (Rose (Int × ((List Int) × Unit)))) → Int → (List Int) → (List Int) → (List (Rose (Int × ((List Int) × Unit)))) → Option R) (v3 : (List (Rose (Int × ((List Int) × Unit))))) (v4 : Int) (v7 : (List Int)) : Option R :=
    bif decide (v4 < (v8.length : Int)) then
    (gd (decide (0 ≤ v4))
     (gd (decide (v4 < (v8.length : Int)))
      (bif decide ((Rose.lab (v8.getD (Int.toNat v4) (Rose.node ((0 : Int), ((List.replicate 4 (0 : Int)), ())) [] : (Rose (Int × ((List Int) × Unit)))))).1 = 1) then
       (l_5 v5 v6 v8 v9 Ke0 v3 (IntKind.i64.wrap (v4 + 1)) v7)
       else (bif decide ((Rose.lab (v8.getD (Int.toNat v4) (Rose.node ((0 : Int), ((List.replicate 4 (0 : Int)), ())) [] : (Rose (Int × ((List Int) × Unit)))))).1 = 3) then
        (gd (decide (0 ≤ v4))
         (gd (decide (v4 < (v8.length : Int)))
          (c_ref1_Or v7 ((Rose.lab (v8.getD (Int.toNat v4) (Rose.node ((0 : Int), ((List.replicate 4 (0 : Int)), ())) [] : (Rose (Int × ((List Int) × Unit)))))).2.1) (fun (v10 : (List Int)) =>
            l_5 v5 v6 v8 v9 Ke0 v3 (IntKind.i64.wrap (v4 + 1)) v10))))
        else (gd (decide (0 ≤ v4))
         (gd (decide (v4 < (v8.length : Int)))
          (c_ref5_Copy ((Rose.lab (v8.getD (Int.toNat v4) (Rose.node ((0 : Int), ((List.replicate 4 (0 : Int)), ())) [] : (Rose (Int × ((List Int) × Unit)))))).1) ((Rose.lab (v8.getD (Int.toNat v4) (Rose.node ((0 : Int), ((List.replicate 4 (0 : Int)), ())) [] : (Rose (Int × ((List Int) × Unit)))))).2.1) (Rose.kids (v8.getD (Int.toNat v4) (Rose.node ((0 : Int), ((List.replicate 4 (0 : Int)), ())) [] : (Rose (Int × ((List Int) × Unit)))))) (fun (v11 : Int) (v12 : (List Int)) (v13 : (List (Rose (Int × ((List Int) × Unit))))) =>
            c_ref5_insert v3 v11 v12 v13 (fun (v14 : (List (Rose (Int × ((List Int) × Unit))))) =>
             l_5 v5 v6 v8 v9 Ke0 v14 (IntKind.i64.wrap (v4 + 1)) v7)))))))))
    else (Ke0 v3 v5 v6 v7 v9)

def ref5_Alt_b {R : Type} (c_ref5_flat : Int → (List (Rose (Int × ((List Int) × Unit)))) → ((List (Rose (Int × ((List Int) × Unit)))) → Option R) → Option R) (c_ref1_Or : (List Int) → (List Int) → ((List Int) → Option R) → Option R) (c_ref5_Copy : Int → (List Int) → (List (Rose (Int × ((List Int) × Unit)))) → (Int → (List Int) → (List (Rose (Int × ((List Int) × Unit)))) → Option R) → Option R) (c_ref5_insert : (List (Rose (Int × ((List Int) × Unit)))) → Int → (List Int) → (List (Rose (Int × ((List Int) × Unit)))) → ((List (Rose (Int × ((List Int) × Unit)))) → Option R) → Option R) (c_ref5_Bytes : (List Int) → (Int → (List Int) → (List (Rose (Int × ((List Int) × Unit)))) → Option R) → Option R) (c_ref5_None : (Int → (List Int) → (List (Rose (Int × ((List Int) × Unit)))) → Option R) → Option R) (l_5 : Int → (List Int) → (List (Rose (Int × ((List Int) × Unit)))) → (List (Rose (Int × ((List Int) × Unit)))) → ((List (Rose (Int × ((List Int) × Unit)))) → Int → (List Int) → (List Int) → (List (Rose (Int × ((List Int) × Unit)))) → Option R) → (List (Rose (Int × ((List Int) × Unit)))) → Int → (List Int) → Option R) (v1 : (List (Rose (Int × ((List Int) × Unit))))) (K : Int → (List Int) → (List (Rose (Int × ((List Int) × Unit)))) → Option R) : Option R :=
    c_ref5_flat 5 v1 (fun (v2 : (List (Rose (Int × ((List Int) × Unit))))) =>
     l_5 0 (List.replicate 4 (0 : Int)) v2 ([] : List (Rose (Int × ((List Int) × Unit))))
     (fun (v15 : (List (Rose (Int × ((List Int) × Unit))))) (v16 : Int) (v17 : (List Int)) (v18 : (List Int)) (v19 : (List (Rose (Int × ((List Int) × Unit))))) =>
      let j24 : (List (Rose (Int × ((List Int) × Unit)))) → Option R := fun v20 =>
      (bif decide ((v20.length : Int) = 0) then
       (c_ref5_None (fun (v21 : Int) (v22 : (List Int)) (v23 : (List (Rose (Int × ((List Int) × Unit))))) =>
         K v21 v22 v23))
       else (bif decide ((v20.length : Int) = 1) then
        (gd (decide (0 < (v20.length : Int)))
         (K ((Rose.lab (v20.getD 0 (Rose.node ((0 : Int), ((List.replicate 4 (0 : Int)), ())) [] : (Rose (Int × ((List Int) × Unit)))))).1) ((Rose.lab (v20.getD 0 (Rose.node ((0 : Int), ((List.replicate 4 (0 : Int)), ())) [] : (Rose (Int × ((List Int) × Unit)))))).2.1) (Rose.kids (v20.getD 0 (Rose.node ((0 : Int), ((List.replicate 4 (0 : Int)), ())) [] : (Rose (Int × ((List Int) × Unit))))))))
        else (K 5 (List.replicate 4 (0 : Int)) v20)))
      (bif (!(decide (v18 = (List.replicate 4 (0 : Int))))) then
       (c_ref5_Bytes v18 (fun (v25 : Int) (v26 : (List Int)) (v27 : (List (Rose (Int × ((List Int) × Unit))))) =>
         c_ref5_insert v15 v25 v26 v27 (fun (v28 : (List (Rose (Int × ((List Int) × Unit))))) =>
          j24 v28)))
       else (j24 v15))) ([] : (List (Rose (Int × ((List Int) × Unit))))) 0 (List.replicate 4 (0 : Int)))

def ref5_Alt_l5 {R : Type} (kf : Nat) : Nat → Int → (List Int) → (List (Rose (Int × ((List Int) × Unit)))) → (List (Rose (Int × ((List Int) × Unit)))) → ((List (Rose (Int × ((List Int) × Unit)))) → Int → (List Int) → (List Int) → (List (Rose (Int × ((List Int) × Unit)))) → Option R) → (List (Rose (Int × ((List Int) × Unit)))) → Int → (List Int) → Option R
  | 0, _, _, _, _, _, _, _, _ => none
  | k + 1, y0, y1, y2, y3, y4, y5, y6, y7 => ref5_Alt_l5_b (ref5_flat kf) (ref1_Or kf) (ref5_Copy kf) (ref5_insert kf) ref5_Bytes ref5_None (ref5_Alt_l5 kf k) y0 y1 y2 y3 y4 y5 y6 y7

def ref5_Alt {R : Type} (kf : Nat) (v1 : (List (Rose (Int × ((List Int) × Unit))))) (K : Int → (List Int) → (List (Rose (Int × ((List Int) × Unit)))) → Option R) : Option R := ref5_Alt_b (ref5_flat kf) (ref1_Or kf) (ref5_Copy kf) (ref5_insert kf) ref5_Bytes ref5_None (ref5_Alt_l5 kf kf) v1 K

def ref5_Star_l10_b {R : Type} (c_ref5_Copy : Int → (List Int) → (List (Rose (Int × ((List Int) × Unit)))) → (Int → (List Int) → (List (Rose (Int × ((List Int) × Unit)))) → Option R) → Option R) (c_ref5_Empty : (Int → (List Int) → (List (Rose (Int × ((List Int) × Unit)))) → Option R) → Option R) (c_ref5_Alt : (List (Rose (Int × ((List Int) × Unit)))) → (Int → (List Int) → (List (Rose (Int × ((List Int) × Unit)))) → Option R) → Option R) (c_ref5_Star : Int → (List Int) → (List (Rose (Int × ((List Int) × Unit)))) → (Int → (List Int) → (List (Rose (Int × ((List Int) × Unit)))) → Option R) → Option R) (l_10 : Int → (List Int) → (List (Rose (Int × ((List Int) × Unit)))) → Int → (List Int) → (List (Rose (Int × ((List Int) × Unit)))) → (Int → (List Int) → (List (Rose (Int × ((List Int) × Unit)))) → Int → (List Int) → (List (Rose (Int × ((List Int) × Unit)))) → (List (Rose (Int × ((List Int) × Unit)))) → Option R) → Int → (List (Rose (Int × ((List Int) × Unit)))) → Option R) (v12 : Int) (v13 : (List Int)) (v14 : (List (Rose (Int × ((List Int) × Unit))))) (v15 : Int) (v16 : (List Int)) (v18 : (List (Rose (Int × ((List Int) × Unit))))) (Ke1 : Int → (List Int) → (List (Rose (Int × ((List Int) × Unit)))) → Int → (List Int) → (List (Rose (Int × ((List Int) × Unit)))) → (List (Rose (Int × ((List Int) × Unit)))) → Option R) (v11 : Int) (v17 : (List (Rose (Int × ((List Int) × Unit))))) : Option R :=
    bif decide (v11 < (v14.length : Int)) then
    (gd (decide (0 ≤ v11))
     (gd (decide (v11 < (v14.length : Int)))
      (bif (!(decide ((Rose.lab (v14.getD (Int.toNat v11) (Rose.node ((0 : Int), ((List.replicate 4 (0 : Int)), ())) [] : (Rose (Int × ((List Int) × Unit)))))).1 = 2))) then
       (gd (decide (0 ≤ v11))
        (gd (decide (v11 < (v14.length : Int)))
         (gd (decide (v17.length + ([(Rose.node ((Rose.lab (v14.getD (Int.toNat v11) (Rose.node ((0 : Int), ((List.replicate 4 (0 : Int)), ())) [] : (Rose (Int × ((List Int) × Unit)))))).1, (Rose.lab (v14.getD (Int.toNat v11) (Rose.node ((0 : Int), ((List.replicate 4 (0 : Int)), ())) [] : (Rose (Int × ((List Int) × Unit)))))).2.1, ()) (Rose.kids (v14.getD (Int.toNat v11) (Rose.node ((0 : Int), ((List.replicate 4 (0 : Int)), ())) [] : (Rose (Int × ((List Int) × Unit)))))))] : List (Rose (Int × ((List Int) × Unit)))).length < SMALL))
          (l_10 v12 v13 v14 v15 v16 v18 Ke1 (IntKind.i64.wrap (v11 + 1)) (v17 ++ ([(Rose.node ((Rose.lab (v14.getD (Int.toNat v11) (Rose.node ((0 : Int), ((List.replicate 4 (0 : Int)), ())) [] : (Rose (Int × ((List Int) × Unit)))))).1, (Rose.lab (v14.getD (Int.toNat v11) (Rose.node ((0 : Int), ((List.replicate 4 (0 : Int)), ())) [] : (Rose (Int × ((List Int) × Unit)))))).2.1, ()) (Rose.kids (v14.getD (Int.toNat v11) (Rose.node ((0 : Int), ((List.replicate 4 (0 : Int)), ())) [] : (Rose (Int × ((List Int) × Unit)))))))] : List (Rose (Int × ((List Int) × Unit)))))))))
       else (l_10 v12 v13 v14 v15 v16 v18 Ke1 (IntKind.i64.wrap (v11 + 1)) v17))))
    else (Ke1 v12 v13 v14 v15 v16 v17 v18)

def ref5_Star_b {R : Type} (c_ref5_Copy : Int → (List Int) → (List (Rose (Int × ((List Int) × Unit)))) → (Int → (List Int) → (List (Rose (Int × ((List Int) × Unit)))) → Option R) → Option R) (c_ref5_Empty : (Int → (List Int) → (List (Rose (Int × ((List Int) × Unit)))) → Option R) → Option R) (c_ref5_Alt : (List (Rose (Int × ((List Int) × Unit)))) → (Int → (List Int) → (List (Rose (Int × ((List Int) × Unit)))) → Option R) → Option R) (c_ref5_Star : Int → (List Int) → (List (Rose (Int × ((List Int) × Unit)))) → (Int → (List Int) → (List (Rose (Int × ((List Int) × Unit)))) → Option R) → Option R) (l_10 : Int → (List Int) → (List (Rose (Int × ((List Int) × Unit)))) → Int → (List Int) → (List (Rose (Int × ((List Int) × Unit)))) → (Int → (List Int) → (List (Rose (Int × ((List Int) × Unit)))) → Int → (List Int) → (List (Rose (Int × ((List Int) × Unit)))) → (List (Rose (Int × ((List Int) × Unit)))) → Option R) → Int → (List (Rose (Int × ((List Int) × Unit)))) → Option R) (v1 : Int) (v2 : (List Int)) (v3 : (List (Rose (Int × ((List Int) × Unit))))) (K : Int → (List Int) → (List (Rose (Int × ((List Int) × Unit)))) → Option R) : Option R :=
    bif decide (v1 = 6) then
    (c_ref5_Copy v1 v2 v3 (fun (v4 : Int) (v5 : (List Int)) (v6 : (List (Rose (Int × ((List Int) × Unit))))) =>
      K v4 v5 v6))
    else (let j38 : Bool → Option R := fun v7 =>
     (bif v7 then
      (c_ref5_Empty (fun (v8 : Int) (v9 : (List Int)) (v10 : (List (Rose (Int × ((List Int) × Unit))))) =>
        K v8 v9 v10))
      else (bif decide (v1 = 5) then
       (l_10 v1 v2 v3 0 (List.replicate 4 (0 : Int)) ([] : List (Rose (Int × ((List Int) × Unit))))
        (fun (v19 : Int) (v20 : (List Int)) (v21 : (List (Rose (Int × ((List Int) × Unit))))) (v22 : Int) (v23 : (List Int)) (v24 : (List (Rose (Int × ((List Int) × Unit))))) (v25 : (List (Rose (Int × ((List Int) × Unit))))) =>
         bif decide ((v24.length : Int) < (v21.length : Int)) then
         (c_ref5_Alt v24 (fun (v26 : Int) (v27 : (List Int)) (v28 : (List (Rose (Int × ((List Int) × Unit))))) =>
           c_ref5_Star v26 v27 v28 (fun (v29 : Int) (v30 : (List Int)) (v31 : (List (Rose (Int × ((List Int) × Unit))))) =>
            K v29 v30 v31)))
         else (c_ref5_Copy v19 v20 v21 (fun (v32 : Int) (v33 : (List Int)) (v34 : (List (Rose (Int × ((List Int) × Unit))))) =>
           K 6 (List.replicate 4 (0 : Int)) ([(Rose.node (v32, v33, ()) v34)] : List (Rose (Int × ((List Int) × Unit))))))) 0 ([] : List (Rose (Int × ((List Int) × Unit)))))
       else (c_ref5_Copy v1 v2 v3 (fun (v35 : Int) (v36 : (List Int)) (v37 : (List (Rose (Int × ((List Int) × Unit))))) =>
         K 6 (List.replicate 4 (0 : Int)) ([(Rose.node (v35, v36, ()) v37)] : List (Rose (Int × ((List Int) × Unit))))))))
     (bif decide (v1 = 1) then
      (j38 (decide (v1 = 1)))
      else (j38 (decide (v1 = 2)))))

def ref5_Star_l10 {R : Type} (c_self : Int → (List Int) → (List (Rose (Int × ((List Int) × Unit)))) → (Int → (List Int) → (List (Rose (Int × ((List Int) × Unit)))) → Option R) → Option R) (kf : Nat) : Nat → Int → (List Int) → (List (Rose (Int × ((List Int) × Unit)))) → Int → (List Int) → (List (Rose (Int × ((List Int) × Unit)))) → (Int → (List Int) → (List (Rose (Int × ((List Int) × Unit)))) → Int → (List Int) → (List (Rose (Int × ((List Int) × Unit)))) → (List (Rose (Int × ((List Int) × Unit)))) → Option R) → Int → (List (Rose (Int × ((List Int) × Unit)))) → Option R
  | 0, _, _, _, _, _, _, _, _, _ => none
  | k + 1, y0, y1, y2, y3, y4, y5, y6, y7, y8 => ref5_Star_l10_b (ref5_Copy kf) ref5_Empty (ref5_Alt kf) c_self (ref5_Star_l10 c_self kf k) y0 y1 y2 y3 y4 y5 y6 y7 y8

def ref5_Star {R : Type} : Nat → Int → (List Int) → (List (Rose (Int × ((List Int) × Unit)))) → (Int → (List Int) → (List (Rose (Int × ((List Int) × Unit)))) → Option R) → Option R
  | 0, _, _, _, _ => none
  | kf + 1, y0, y1, y2, y3 => ref5_Star_b (ref5_Copy kf) ref5_Empty (ref5_Alt kf) (ref5_Star kf) (ref5_Star_l10 (ref5_Star kf) kf kf) y0 y1 y2 y3

def slices_Index_int_int_l2_b {R : Type} (l_2 : (List Int) → Int → Int → (Int → Option R) → (Option R) → Int → Option R) (v3 : (List Int)) (v4 : Int) (v5 : Int) (Kr : Int → Option R) (Ke0 : Option R) (v6 : Int) : Option R :=
    bif decide (v6 < v5) then
    (gd (decide (0 ≤ v6))
     (gd (decide (v6 < (v3.length : Int)))
      (bif decide (v4 = (v3.getD (Int.toNat v6) (0 : Int))) then
       (Kr v6)
       else (l_2 v3 v4 v5 Kr Ke0 (IntKind.i64.wrap (v6 + 1))))))
    else (Ke0)

def slices_Index_int_int_b {R : Type} (l_2 : (List Int) → Int → Int → (Int → Option R) → (Option R) → Int → Option R) (v1 : (List Int)) (v2 : Int) (K : Int → Option R) : Option R :=
    l_2 v1 v2 (v1.length : Int)
    (fun (v7 : Int) =>
     K v7)
    (K (-1)) 0

def slices_Index_int_int_l2 {R : Type} (kf : Nat) : Nat → (List Int) → Int → Int → (Int → Option R) → (Option R) → Int → Option R
  | 0, _, _, _, _, _, _ => none
  | k + 1, y0, y1, y2, y3, y4, y5 => slices_Index_int_int_l2_b (slices_Index_int_int_l2 kf k) y0 y1 y2 y3 y4 y5

def slices_Index_int_int {R : Type} (kf : Nat) (v1 : (List Int)) (v2 : Int) (K : Int → Option R) : Option R := slices_Index_int_int_b (slices_Index_int_int_l2 kf kf) v1 v2 K

def slices_Contains_int_int_b {R : Type} (c_slices_Index_int_int : (List Int) → Int → (Int → Option R) → Option R) (v1 : (List Int)) (v2 : Int) (K : Bool → Option R) : Option R :=
    c_slices_Index_int_int v1 v2 (fun (v3 : Int) =>
     K (decide (0 ≤ v3)))

def slices_Contains_int_int {R : Type} (kf : Nat) (v1 : (List Int)) (v2 : Int) (K : Bool → Option R) : Option R := slices_Contains_int_int_b (slices_Index_int_int kf) v1 v2 K

def rx_bad_1_b {R : Type} (c_slices_Contains_int_int : (List Int) → Int → (Bool → Option R) → Option R) (v1 : Int) (v2 : (List Int)) (v3 : (List (Rose (Int × ((List Int) × Unit))))) (v4 : (List Int)) (K : Bool → (List Int) → Option R) : Option R :=
    c_slices_Contains_int_int v4 v1 (fun (v5 : Bool) =>
     K v5 v4)

def rx_bad_1 {R : Type} (kf : Nat) (v1 : Int) (v2 : (List Int)) (v3 : (List (Rose (Int × ((List Int) × Unit))))) (v4 : (List Int)) (K : Bool → (List Int) → Option R) : Option R := rx_bad_1_b (slices_Contains_int_int kf) v1 v2 v3 v4 K

def slices_IndexFunc_api_Rx_api_Rx_l2_b {R : Type} (c_rx_bad_1 : Int → (List Int) → (List (Rose (Int × ((List Int) × Unit)))) → (List Int) → (Bool → (List Int) → Option R) → Option R) (l_2 : (List (Rose (Int × ((List Int) × Unit)))) → Int → (Int → (List Int) → Option R) → ((List Int) → Option R) → Int → (List Int) → Option R) (v3 : (List (Rose (Int × ((List Int) × Unit))))) (v4 : Int) (Kr : Int → (List Int) → Option R) (Ke0 : (List Int) → Option R) (v5 : Int) (v6 : (List Int)) : Option R :=
    bif decide (v5 < v4) then
    (gd (decide (0 ≤ v5))
     (gd (decide (v5 < (v3.length : Int)))
      (c_rx_bad_1 ((Rose.lab (v3.getD (Int.toNat v5) (Rose.node ((0 : Int), ((List.replicate 4 (0 : Int)), ())) [] : (Rose (Int × ((List Int) × Unit)))))).1) ((Rose.lab (v3.getD (Int.toNat v5) (Rose.node ((0 : Int), ((List.replicate 4 (0 : Int)), ())) [] : (Rose (Int × ((List Int) × Unit)))))).2.1) (Rose.kids (v3.getD (Int.toNat v5) (Rose.node ((0 : Int), ((List.replicate 4 (0 : Int)), ())) [] : (Rose (Int × ((List Int) × Unit)))))) v6 (fun (v7 : Bool) (v8 : (List Int)) =>
        bif v7 then
        (Kr v5 v8)
        else (l_2 v3 v4 Kr Ke0 (IntKind.i64.wrap (v5 + 1)) v8)))))
    else (Ke0 v6)

def slices_IndexFunc_api_Rx_api_Rx_b {R : Type} (c_rx_bad_1 : Int → (List Int) → (List (Rose (Int × ((List Int) × Unit)))) → (List Int) → (Bool → (List Int) → Option R) → Option R) (l_2 : (List (Rose (Int × ((List Int) × Unit)))) → Int → (Int → (List Int) → Option R) → ((List Int) → Option R) → Int → (List Int) → Option R) (v1 : (List (Rose (Int × ((List Int) × Unit))))) (v2 : (List Int)) (K : Int → (List Int) → Option R) : Option R :=
    l_2 v1 (v1.length : Int)
    (fun (v9 : Int) (v10 : (List Int)) =>
     K v9 v10)
    (fun (v11 : (List Int)) =>
     K (-1) v11) 0 v2

def slices_IndexFunc_api_Rx_api_Rx_l2 {R : Type} (kf : Nat) : Nat → (List (Rose (Int × ((List Int) × Unit)))) → Int → (Int → (List Int) → Option R) → ((List Int) → Option R) → Int → (List Int) → Option R
  | 0, _, _, _, _, _, _ => none
  | k + 1, y0, y1, y2, y3, y4, y5 => slices_IndexFunc_api_Rx_api_Rx_l2_b (rx_bad_1 kf) (slices_IndexFunc_api_Rx_api_Rx_l2 kf k) y0 y1 y2 y3 y4 y5

def slices_IndexFunc_api_Rx_api_Rx {R : Type} (kf : Nat) (v1 : (List (Rose (Int × ((List Int) × Unit))))) (v2 : (List Int)) (K : Int → (List Int) → Option R) : Option R := slices_IndexFunc_api_Rx_api_Rx_b (rx_bad_1 kf) (slices_IndexFunc_api_Rx_api_Rx_l2 kf kf) v1 v2 K

def slices_ContainsFunc_api_Rx_api_Rx_b {R : Type} (c_slices_IndexFunc_api_Rx_api_Rx : (List (Rose (Int × ((List Int) × Unit)))) → (List Int) → (Int → (List Int) → Option R) → Option R) (v1 : (List (Rose (Int × ((List Int) × Unit))))) (v2 : (List Int)) (K : Bool → (List Int) → Option R) : Option R :=
    c_slices_IndexFunc_api_Rx_api_Rx v1 v2 (fun (v3 : Int) (v4 : (List Int)) =>
     K (decide (0 ≤ v3)) v4)

def slices_ContainsFunc_api_Rx_api_Rx {R : Type} (kf : Nat) (v1 : (List (Rose (Int × ((List Int) × Unit))))) (v2 : (List Int)) (K : Bool → (List Int) → Option R) : Option R := slices_ContainsFunc_api_Rx_api_Rx_b (slices_IndexFunc_api_Rx_api_Rx kf) v1 v2 K

def rx_bad_b {R : Type} (c_slices_ContainsFunc_api_Rx_api_Rx : (List (Rose (Int × ((List Int) × Unit)))) → (List Int) → (Bool → (List Int) → Option R) → Option R) (v1 : (List (Rose (Int × ((List Int) × Unit))))) (v2 : (List Int)) (K : Bool → Option R) : Option R :=
    c_slices_ContainsFunc_api_Rx_api_Rx v1 v2 (fun (v3 : Bool) (v4 : (List Int)) =>
     K v3)

def rx_bad {R : Type} (kf : Nat) (v1 : (List (Rose (Int × ((List Int) × Unit))))) (v2 : (List Int)) (K : Bool → Option R) : Option R := rx_bad_b (slices_ContainsFunc_api_Rx_api_Rx kf) v1 v2 K

def rx_isSet_b {R : Type} (v1 : Int) (v2 : (List Int)) (v3 : (List (Rose (Int × ((List Int) × Unit))))) (K : Bool → Option R) : Option R :=
    K (decide (v1 = 3))

def rx_isSet {R : Type} (v1 : Int) (v2 : (List Int)) (v3 : (List (Rose (Int × ((List Int) × Unit))))) (K : Bool → Option R) : Option R := rx_isSet_b v1 v2 v3 K

def cmp_isNaN_int_b {R : Type} (v1 : Int) (K : Bool → Option R) : Option R :=
    K (!(decide (v1 = v1)))

def cmp_isNaN_int {R : Type} (v1 : Int) (K : Bool → Option R) : Option R := cmp_isNaN_int_b v1 K

def cmp_Compare_int_b {R : Type} (c_cmp_isNaN_int : Int → (Bool → Option R) → Option R) (v1 : Int) (v2 : Int) (K : Int → Option R) : Option R :=
    c_cmp_isNaN_int v1 (fun (v3 : Bool) =>
     c_cmp_isNaN_int v2 (fun (v4 : Bool) =>
      bif v3 then
      (bif v4 then
       (K 0)
       else (K (-1)))
      else (bif v4 then
       (K 1)
       else (bif decide (v1 < v2) then
        (K (-1))
        else (bif decide (v2 < v1) then
         (K 1)
         else (K 0))))))

def cmp_Compare_int {R : Type} (v1 : Int) (v2 : Int) (K : Int → Option R) : Option R := cmp_Compare_int_b cmp_isNaN_int v1 v2 K

def math_bits_TrailingZeros64_b {R : Type} (v1 : Int) (K : Int → Option R) : Option R :=
    bif decide (v1 = 0) then
    (K 64)
    else (gd (decide (0 ≤ (shr .u64 (IntKind.u64.wrap (mulZ (bvop .u64 .and v1 (IntKind.u64.wrap (0 - v1))) 285870213051353865)) 58)))
     (gd (decide ((shr .u64 (IntKind.u64.wrap (mulZ (bvop .u64 .and v1 (IntKind.u64.wrap (0 - v1))) 285870213051353865)) 58) < 64))
      (let v2 : Int := (IntKind.i64.wrap (deBruijn.getD (Int.toNat (shr .u64 (IntKind.u64.wrap (mulZ (bvop .u64 .and v1 (IntKind.u64.wrap (0 - v1))) 285870213051353865)) 58)) (0 : Int)))
       K v2)))

def math_bits_TrailingZeros64 {R : Type} (v1 : Int) (K : Int → Option R) : Option R := math_bits_TrailingZeros64_b v1 K

def byteset_Less_l2_b {R : Type} (c_math_bits_TrailingZeros64 : Int → (Int → Option R) → Option R) (l_2 : (List Int) → (List Int) → (Bool → Option R) → (Option R) → Int → Option R) (v4 : (List Int)) (v5 : (List Int)) (Kr : Bool → Option R) (Ke0 : Option R) (v3 : Int) : Option R :=
    bif decide (v3 < 4) then
    (gd (decide (0 ≤ v3))
     (gd (decide (v3 < 4))
      (gd (decide (0 ≤ v3))
       (gd (decide (v3 < 4))
        (let v6 : Int := (bvop .u64 .xor (v4.getD (Int.toNat v3) (0 : Int)) (v5.getD (Int.toNat v3) (0 : Int)))
         bif (!(decide (v6 = 0))) then
         (gd (decide (0 ≤ v3))
          (gd (decide (v3 < 4))
           (c_math_bits_TrailingZeros64 v6 (fun (v7 : Int) =>
             gd (decide (0 ≤ v7))
             (Kr (decide ((bvop .u64 .and (shr .u64 (v4.getD (Int.toNat v3) (0 : Int)) v7) 1) = 1)))))))
         else (l_2 v4 v5 Kr Ke0 (IntKind.i64.wrap (v3 + 1))))))))
    else (Ke0)

def byteset_Less_b {R : Type} (c_math_bits_TrailingZeros64 : Int → (Int → Option R) → Option R) (l_2 : (List Int) → (List Int) → (Bool → Option R) → (Option R) → Int → Option R) (v1 : (List Int)) (v2 : (List Int)) (K : Bool → Option R) : Option R :=
    l_2 v1 v2
    (fun (v8 : Bool) =>
     K v8)
    (K false) 0

def byteset_Less_l2 {R : Type} (kf : Nat) : Nat → (List Int) → (List Int) → (Bool → Option R) → (Option R) → Int → Option R
  | 0, _, _, _, _, _ => none
  | k + 1, y0, y1, y2, y3, y4 => byteset_Less_l2_b math_bits_TrailingZeros64 (byteset_Less_l2 kf k) y0 y1 y2 y3 y4

def byteset_Less {R : Type} (kf : Nat) (v1 : (List Int)) (v2 : (List Int)) (K : Bool → Option R) : Option R := byteset_Less_b math_bits_TrailingZeros64 (byteset_Less_l2 kf kf) v1 v2 K

def slices_CompareFunc_api_Rx_api_Rx_api_Rx_api_Rx_l2_b {R : Type} (c_rx_Compare : Int → (List Int) → (List (Rose (Int × ((List Int) × Unit)))) → Int → (List Int) → (List (Rose (Int × ((List Int) × Unit)))) → (Int → Option R) → Option R) (l_2 : (List (Rose (Int × ((List Int) × Unit)))) → (List (Rose (Int × ((List Int) × Unit)))) → (List (Rose (Int × ((List Int) × Unit)))) → Int → ((List (Rose (Int × ((List Int) × Unit)))) → (List (Rose (Int × ((List Int) × Unit)))) → Int → Option R) → ((List (Rose (Int × ((List Int) × Unit)))) → (List (Rose (Int × ((List Int) × Unit)))) → Option R) → Int → Option R) (v3 : (List (Rose (Int × ((List Int) × Unit))))) (v4 : (List (Rose (Int × ((List Int) × Unit))))) (v5 : (List (Rose (Int × ((List Int) × Unit))))) (v6 : Int) (Kr : (List (Rose (Int × ((List Int) × Unit)))) → (List (Rose (Int × ((List Int) × Unit)))) → Int → Option R) (Ke0 : (List (Rose (Int × ((List Int) × Unit)))) → (List (Rose (Int × ((List Int) × Unit)))) → Option R) (v7 : Int) : Option R :=
    bif decide (v7 < v6) then
    (gd (decide (0 ≤ v7))
     (gd (decide (v7 < (v5.length : Int)))
      (bif decide ((v4.length : Int) ≤ v7) then
       (Kr v3 v4 1)
       else (gd (decide (0 ≤ v7))
        (gd (decide (v7 < (v4.length : Int)))
         (c_rx_Compare ((Rose.lab (v5.getD (Int.toNat v7) (Rose.node ((0 : Int), ((List.replicate 4 (0 : Int)), ())) [] : (Rose (Int × ((List Int) × Unit)))))).1) ((Rose.lab (v5.getD (Int.toNat v7) (Rose.node ((0 : Int), ((List.replicate 4 (0 : Int)), ())) [] : (Rose (Int × ((List Int) × Unit)))))).2.1) (Rose.kids (v5.getD (Int.toNat v7) (Rose.node ((0 : Int), ((List.replicate 4 (0 : Int)), ())) [] : (Rose (Int × ((List Int) × Unit)))))) ((Rose.lab (v4.getD (Int.toNat v7) (Rose.node ((0 : Int), ((List.replicate 4 (0 : Int)), ())) [] : (Rose (Int × ((List Int) × Unit)))))).1) ((Rose.lab (v4.getD (Int.toNat v7) (Rose.node ((0 : Int), ((List.replicate 4 (0 : Int)), ())) [] : (Rose (Int × ((List Int) × Unit)))))).2.1) (Rose.kids (v4.getD (Int.toNat v7) (Rose.node ((0 : Int), ((List.replicate 4 (0 : Int)), ())) [] : (Rose (Int × ((List Int) × Unit)))))) (fun (v8 : Int) =>
           bif (!(decide (v8 = 0))) then
           (Kr v3 v4 v8)
           else (l_2 v3 v4 v5 v6 Kr Ke0 (IntKind.i64.wrap (v7 + 1))))))))))
    else (Ke0 v3 v4)

def slices_CompareFunc_api_Rx_api_Rx_api_Rx_api_Rx_b {R : Type} (c_rx_Compare : Int → (List Int) → (List (Rose (Int × ((List Int) × Unit)))) → Int → (List Int) → (List (Rose (Int × ((List Int) × Unit)))) → (Int → Option R) → Option R) (l_2 : (List (Rose (Int × ((List Int) × Unit)))) → (List (Rose (Int × ((List Int) × Unit)))) → (List (Rose (Int × ((List Int) × Unit)))) → Int → ((List (Rose (Int × ((List Int) × Unit)))) → (List (Rose (Int × ((List Int) × Unit)))) → Int → Option R) → ((List (Rose (Int × ((List Int) × Unit)))) → (List (Rose (Int × ((List Int) × Unit)))) → Option R) → Int → Option R) (v1 : (List (Rose (Int × ((List Int) × Unit))))) (v2 : (List (Rose (Int × ((List Int) × Unit))))) (K : Int → Option R) : Option R :=
    l_2 v1 v2 v1 (v1.length : Int)
    (fun (v9 : (List (Rose (Int × ((List Int) × Unit))))) (v10 : (List (Rose (Int × ((List Int) × Unit))))) (v11 : Int) =>
     K v11)
    (fun (v12 : (List (Rose (Int × ((List Int) × Unit))))) (v13 : (List (Rose (Int × ((List Int) × Unit))))) =>
     bif decide ((v12.length : Int) < (v13.length : Int)) then
     (K (-1))
     else (K 0)) 0

def slices_CompareFunc_api_Rx_api_Rx_api_Rx_api_Rx_l2 {R : Type} (c_rx_Compare : Int → (List Int) → (List (Rose (Int × ((List Int) × Unit)))) → Int → (List Int) → (List (Rose (Int × ((List Int) × Unit)))) → (Int → Option R) → Option R) (kf : Nat) : Nat → (List (Rose (Int × ((List Int) × Unit)))) → (List (Rose (Int × ((List Int) × Unit)))) → (List (Rose (Int × ((List Int) × Unit)))) → Int → ((List (Rose (Int × ((List Int) × Unit)))) → (List (Rose (Int × ((List Int) × Unit)))) → Int → Option R) → ((List (Rose (Int × ((List Int) × Unit)))) → (List (Rose (Int × ((List Int) × Unit)))) → Option R) → Int → Option R
  | 0, _, _, _, _, _, _, _ => none
  | k + 1, y0, y1, y2, y3, y4, y5, y6 => slices_CompareFunc_api_Rx_api_Rx_api_Rx_api_Rx_l2_b c_rx_Compare (slices_CompareFunc_api_Rx_api_Rx_api_Rx_api_Rx_l2 c_rx_Compare kf k) y0 y1 y2 y3 y4 y5 y6

def slices_CompareFunc_api_Rx_api_Rx_api_Rx_api_Rx {R : Type} (c_rx_Compare : Int → (List Int) → (List (Rose (Int × ((List Int) × Unit)))) → Int → (List Int) → (List (Rose (Int × ((List Int) × Unit)))) → (Int → Option R) → Option R) (kf : Nat) (v1 : (List (Rose (Int × ((List Int) × Unit))))) (v2 : (List (Rose (Int × ((List Int) × Unit))))) (K : Int → Option R) : Option R := slices_CompareFunc_api_Rx_api_Rx_api_Rx_api_Rx_b c_rx_Compare (slices_CompareFunc_api_Rx_api_Rx_api_Rx_api_Rx_l2 c_rx_Compare kf kf) v1 v2 K

def rx_Compare_b {R : Type} (c_cmp_Compare_int : Int → Int → (Int → Option R) → Option R) (c_byteset_Less : (List Int) → (List Int) → (Bool → Option R) → Option R) (c_slices_CompareFunc_api_Rx_api_Rx_api_Rx_api_Rx : (List (Rose (Int × ((List Int) × Unit)))) → (List (Rose (Int × ((List Int) × Unit)))) → (Int → Option R) → Option R) (v1 : Int) (v2 : (List Int)) (v3 : (List (Rose (Int × ((List Int) × Unit))))) (v4 : Int) (v5 : (List Int)) (v6 : (List (Rose (Int × ((List Int) × Unit))))) (K : Int → Option R) : Option R :=
    c_cmp_Compare_int v1 v4 (fun (v7 : Int) =>
     bif (!(decide (v7 = 0))) then
     (K v7)
     else (let j11 : Bool → Option R := fun v8 =>
      (bif v8 then
       (c_byteset_Less v2 v5 (fun (v9 : Bool) =>
         bif v9 then
         (K (-1))
         else (K 1)))
       else (c_slices_CompareFunc_api_Rx_api_Rx_api_Rx_api_Rx v3 v6 (fun (v10 : Int) =>
         K v10)))
      (bif decide (v1 = 3) then
       (j11 (!(decide (v2 = v5))))
       else (j11 false))))

def rx_Compare {R : Type} : Nat → Int → (List Int) → (List (Rose (Int × ((List Int) × Unit)))) → Int → (List Int) → (List (Rose (Int × ((List Int) × Unit)))) → (Int → Option R) → Option R
  | 0, _, _, _, _, _, _, _ => none
  | kf + 1, y0, y1, y2, y3, y4, y5, y6 => rx_Compare_b cmp_Compare_int (byteset_Less kf) (slices_CompareFunc_api_Rx_api_Rx_api_Rx_api_Rx (rx_Compare kf) kf) y0 y1 y2 y3 y4 y5 y6

def rx_rising_l3_b {R : Type} (c_rx_isSet : Int → (List Int) → (List (Rose (Int × ((List Int) × Unit)))) → (Bool → Option R) → Option R) (c_rx_Compare : Int → (List Int) → (List (Rose (Int × ((List Int) × Unit)))) → Int → (List Int) → (List (Rose (Int × ((List Int) × Unit)))) → (Int → Option R) → Option R) (l_3 : (List (Rose (Int × ((List Int) × Unit)))) → (List (Rose (Int × ((List Int) × Unit)))) → Int → (Bool → Int → Option R) → (Int → Option R) → Int → Int → Option R) (v2 : (List (Rose (Int × ((List Int) × Unit))))) (v4 : (List (Rose (Int × ((List Int) × Unit))))) (v5 : Int) (Kr : Bool → Int → Option R) (Ke0 : Int → Option R) (v3 : Int) (v6 : Int) : Option R :=
    bif decide (v6 < v5) then
    (gd (decide (0 ≤ v6))
     (gd (decide (v6 < (v4.length : Int)))
      (let j11 : Int → Option R := fun v7 =>
       (let j9 : Bool → Option R := fun v8 =>
        (bif v8 then
         (Kr false v7)
         else (l_3 v2 v4 v5 Kr Ke0 v7 (IntKind.i64.wrap (v6 + 1))))
        (bif decide (0 < v6) then
         (gd (decide (0 ≤ (IntKind.i64.wrap (v6 - 1))))
          (gd (decide ((IntKind.i64.wrap (v6 - 1)) < (v2.length : Int)))
           (c_rx_Compare ((Rose.lab (v2.getD (Int.toNat (IntKind.i64.wrap (v6 - 1))) (Rose.node ((0 : Int), ((List.replicate 4 (0 : Int)), ())) [] : (Rose (Int × ((List Int) × Unit)))))).1) ((Rose.lab (v2.getD (Int.toNat (IntKind.i64.wrap (v6 - 1))) (Rose.node ((0 : Int), ((List.replicate 4 (0 : Int)), ())) [] : (Rose (Int × ((List Int) × Unit)))))).2.1) (Rose.kids (v2.getD (Int.toNat (IntKind.i64.wrap (v6 - 1))) (Rose.node ((0 : Int), ((List.replicate 4 (0 : Int)), ())) [] : (Rose (Int × ((List Int) × Unit)))))) ((Rose.lab (v4.getD (Int.toNat v6) (Rose.node ((0 : Int), ((List.replicate 4 (0 : Int)), ())) [] : (Rose (Int × ((List Int) × Unit)))))).1) ((Rose.lab (v4.getD (Int.toNat v6) (Rose.node ((0 : Int), ((List.replicate 4 (0 : Int)), ())) [] : (Rose (Int × ((List Int) × Unit)))))).2.1) (Rose.kids (v4.getD (Int.toNat v6) (Rose.node ((0 : Int), ((List.replicate 4 (0 : Int)), ())) [] : (Rose (Int × ((List Int) × Unit)))))) (fun (v10 : Int) =>
             j9 (decide (0 ≤ v10))))))
         else (j9 false)))
       (c_rx_isSet ((Rose.lab (v4.getD (Int.toNat v6) (Rose.node ((0 : Int), ((List.replicate 4 (0 : Int)), ())) [] : (Rose (Int × ((List Int) × Unit)))))).1) ((Rose.lab (v4.getD (Int.toNat v6) (Rose.node ((0 : Int), ((List.replicate 4 (0 : Int)), ())) [] : (Rose (Int × ((List Int) × Unit)))))).2.1) (Rose.kids (v4.getD (Int.toNat v6) (Rose.node ((0 : Int), ((List.replicate 4 (0 : Int)), ())) [] : (Rose (Int × ((List Int) × Unit)))))) (fun (v12 : Bool) =>
         bif v12 then
         (j11 (IntKind.i64.wrap (v3 + 1)))
         else (j11 v3))))))
    else (Ke0 v3)

def rx_rising_b {R : Type} (c_rx_isSet : Int → (List Int) → (List (Rose (Int × ((List Int) × Unit)))) → (Bool → Option R) → Option R) (c_rx_Compare : Int → (List Int) → (List (Rose (Int × ((List Int) × Unit)))) → Int → (List Int) → (List (Rose (Int × ((List Int) × Unit)))) → (Int → Option R) → Option R) (l_3 : (List (Rose (Int × ((List Int) × Unit)))) → (List (Rose (Int × ((List Int) × Unit)))) → Int → (Bool → Int → Option R) → (Int → Option R) → Int → Int → Option R) (v1 : (List (Rose (Int × ((List Int) × Unit))))) (K : Bool → Option R) : Option R :=
    l_3 v1 v1 (v1.length : Int)
    (fun (v13 : Bool) (v14 : Int) =>
     K v13)
    (fun (v15 : Int) =>
     K (decide (v15 ≤ 1))) 0 0

def rx_rising_l3 {R : Type} (kf : Nat) : Nat → (List (Rose (Int × ((List Int) × Unit)))) → (List (Rose (Int × ((List Int) × Unit)))) → Int → (Bool → Int → Option R) → (Int → Option R) → Int → Int → Option R
  | 0, _, _, _, _, _, _, _ => none
  | k + 1, y0, y1, y2, y3, y4, y5, y6 => rx_rising_l3_b rx_isSet (rx_Compare kf) (rx_rising_l3 kf k) y0 y1 y2 y3 y4 y5 y6

def rx_rising {R : Type} (kf : Nat) (v1 : (List (Rose (Int × ((List Int) × Unit))))) (K : Bool → Option R) : Option R := rx_rising_b rx_isSet (rx_Compare kf) (rx_rising_l3 kf kf) v1 K

def rx_Plain_1_b {R : Type} (c_rx_Plain : Int → (List Int) → (List (Rose (Int × ((List Int) × Unit)))) → (Bool → Option R) → Option R) (v1 : Int) (v2 : (List Int)) (v3 : (List (Rose (Int × ((List Int) × Unit))))) (K : Bool → Option R) : Option R :=
    c_rx_Plain v1 v2 v3 (fun (v4 : Bool) =>
     K (!v4))

def rx_Plain_1 {R : Type} (c_rx_Plain : Int → (List Int) → (List (Rose (Int × ((List Int) × Unit)))) → (Bool → Option R) → Option R) (kf : Nat) (v1 : Int) (v2 : (List Int)) (v3 : (List (Rose (Int × ((List Int) × Unit))))) (K : Bool → Option R) : Option R := rx_Plain_1_b c_rx_Plain v1 v2 v3 K

def slices_IndexFunc_api_Rx_api_Rx_s1_l2_b {R : Type} (c_rx_Plain_1 : Int → (List Int) → (List (Rose (Int × ((List Int) × Unit)))) → (Bool → Option R) → Option R) (l_2 : (List (Rose (Int × ((List Int) × Unit)))) → Int → (Int → Option R) → (Option R) → Int → Option R) (v2 : (List (Rose (Int × ((List Int) × Unit))))) (v3 : Int) (Kr : Int → Option R) (Ke0 : Option R) (v4 : Int) : Option R :=
    bif decide (v4 < v3) then
    (gd (decide (0 ≤ v4))
     (gd (decide (v4 < (v2.length : Int)))
      (c_rx_Plain_1 ((Rose.lab (v2.getD (Int.toNat v4) (Rose.node ((0 : Int), ((List.replicate 4 (0 : Int)), ())) [] : (Rose (Int × ((List Int) × Unit)))))).1) ((Rose.lab (v2.getD (Int.toNat v4) (Rose.node ((0 : Int), ((List.replicate 4 (0 : Int)), ())) [] : (Rose (Int × ((List Int) × Unit)))))).2.1) (Rose.kids (v2.getD (Int.toNat v4) (Rose.node ((0 : Int), ((List.replicate 4 (0 : Int)), ())) [] : (Rose (Int × ((List Int) × Unit)))))) (fun (v5 : Bool) =>
        bif v5 then
        (Kr v4)
        else (l_2 v2 v3 Kr Ke0 (IntKind.i64.wrap (v4 + 1)))))))
    else (Ke0)

def slices_IndexFunc_api_Rx_api_Rx_s1_b {R : Type} (c_rx_Plain_1 : Int → (List Int) → (List (Rose (Int × ((List Int) × Unit)))) → (Bool → Option R) → Option R) (l_2 : (List (Rose (Int × ((List Int) × Unit)))) → Int → (Int → Option R) → (Option R) → Int → Option R) (v1 : (List (Rose (Int × ((List Int) × Unit))))) (K : Int → Option R) : Option R :=
    l_2 v1 (v1.length : Int)
    (fun (v6 : Int) =>
     K v6)
    (K (-1)) 0

def slices_IndexFunc_api_Rx_api_Rx_s1_l2 {R : Type} (c_rx_Plain : Int → (List Int) → (List (Rose (Int × ((List Int) × Unit)))) → (Bool → Option R) → Option R) (kf : Nat) : Nat → (List (Rose (Int × ((List Int) × Unit)))) → Int → (Int → Option R) → (Option R) → Int → Option R
  | 0, _, _, _, _, _ => none
  | k + 1, y0, y1, y2, y3, y4 => slices_IndexFunc_api_Rx_api_Rx_s1_l2_b (rx_Plain_1 c_rx_Plain kf) (slices_IndexFunc_api_Rx_api_Rx_s1_l2 c_rx_Plain kf k) y0 y1 y2 y3 y4

def slices_IndexFunc_api_Rx_api_Rx_s1 {R : Type} (c_rx_Plain : Int → (List Int) → (List (Rose (Int × ((List Int) × Unit)))) → (Bool → Option R) → Option R) (kf : Nat) (v1 : (List (Rose (Int × ((List Int) × Unit))))) (K : Int → Option R) : Option R := slices_IndexFunc_api_Rx_api_Rx_s1_b (rx_Plain_1 c_rx_Plain kf) (slices_IndexFunc_api_Rx_api_Rx_s1_l2 c_rx_Plain kf kf) v1 K

def slices_ContainsFunc_api_Rx_api_Rx_s1_b {R : Type} (c_slices_IndexFunc_api_Rx_api_Rx_s1 : (List (Rose (Int × ((List Int) × Unit)))) → (Int → Option R) → Option R) (v1 : (List (Rose (Int × ((List Int) × Unit))))) (K : Bool → Option R) : Option R :=
    c_slices_IndexFunc_api_Rx_api_Rx_s1 v1 (fun (v2 : Int) =>
     K (decide (0 ≤ v2)))

def slices_ContainsFunc_api_Rx_api_Rx_s1 {R : Type} (c_rx_Plain : Int → (List Int) → (List (Rose (Int × ((List Int) × Unit)))) → (Bool → Option R) → Option R) (kf : Nat) (v1 : (List (Rose (Int × ((List Int) × Unit))))) (K : Bool → Option R) : Option R := slices_ContainsFunc_api_Rx_api_Rx_s1_b (slices_IndexFunc_api_Rx_api_Rx_s1 c_rx_Plain kf) v1 K

def rx_Plain_b {R : Type} (c_rx_bad : (List (Rose (Int × ((List Int) × Unit)))) → (List Int) → (Bool → Option R) → Option R) (c_rx_rising : (List (Rose (Int × ((List Int) × Unit)))) → (Bool → Option R) → Option R) (c_slices_ContainsFunc_api_Rx_api_Rx_s1 : (List (Rose (Int × ((List Int) × Unit)))) → (Bool → Option R) → Option R) (v1 : Int) (v2 : (List Int)) (v3 : (List (Rose (Int × ((List Int) × Unit))))) (K : Bool → Option R) : Option R :=
    let j6 : Bool → Option R := fun v4 =>
    (bif v4 then
     (c_slices_ContainsFunc_api_Rx_api_Rx_s1 v3 (fun (v5 : Bool) =>
       K (!v5)))
     else (K false))
    (let j12 : Bool → Option R := fun v7 =>
     (bif v7 then
      (bif decide (v2 = (List.replicate 4 (0 : Int))) then
       (j6 (decide ((v3.length : Int) = 0)))
       else (j6 false))
      else (bif decide (v1 = 3) then
       (bif (!(decide (v2 = (List.replicate 4 (0 : Int))))) then
        (j6 (decide ((v3.length : Int) = 0)))
        else (j6 false))
       else (bif decide (v1 = 4) then
        (bif decide (v2 = (List.replicate 4 (0 : Int))) then
         (bif decide (1 < (v3.length : Int)) then
          (c_rx_bad v3 ([4, 1, 2] : List Int) (fun (v8 : Bool) =>
            j6 (!v8)))
          else (j6 false))
         else (j6 false))
        else (bif decide (v1 = 5) then
         (bif decide (v2 = (List.replicate 4 (0 : Int))) then
          (bif decide (1 < (v3.length : Int)) then
           (c_rx_bad v3 ([5, 1] : List Int) (fun (v9 : Bool) =>
             bif (!v9) then
             (c_rx_rising v3 (fun (v10 : Bool) =>
               j6 v10))
             else (j6 false)))
           else (j6 false))
          else (j6 false))
         else (bif decide (v1 = 6) then
          (bif decide (v2 = (List.replicate 4 (0 : Int))) then
           (bif decide ((v3.length : Int) = 1) then
            (c_rx_bad v3 ([6, 1, 2] : List Int) (fun (v11 : Bool) =>
              j6 (!v11)))
            else (j6 false))
           else (j6 false))
          else (j6 false))))))
     (bif decide (v1 = 1) then
      (j12 (decide (v1 = 1)))
      else (j12 (decide (v1 = 2)))))

def rx_Plain {R : Type} : Nat → Int → (List Int) → (List (Rose (Int × ((List Int) × Unit)))) → (Bool → Option R) → Option R
  | 0, _, _, _, _ => none
  | kf + 1, y0, y1, y2, y3 => rx_Plain_b (rx_bad kf) (rx_rising kf) (slices_ContainsFunc_api_Rx_api_Rx_s1 (rx_Plain kf) kf) y0 y1 y2 y3

def show_writer_put_b {R : Type} (v1 : (List Int)) (v2 : Bool) (v3 : (List Int)) (K : Bool → (List Int) → Option R) : Option R :=
    gd (decide (v3.length + v1.length < SMALL))
    (bif decide (4000 < ((v3 ++ v1).length : Int)) then
     (K true (v3 ++ v1))
     else (K v2 (v3 ++ v1)))

def show_writer_put {R : Type} (v1 : (List Int)) (v2 : Bool) (v3 : (List Int)) (K : Bool → (List Int) → Option R) : Option R := show_writer_put_b v1 v2 v3 K

def byteset_Has_b {R : Type} (v1 : (List Int)) (v2 : Int) (K : Bool → Option R) : Option R :=
    gd (decide (0 ≤ (IntKind.u8.wrap (Int.tdiv v2 64))))
    (gd (decide ((IntKind.u8.wrap (Int.tdiv v2 64)) < 4))
     (gd (decide (0 ≤ (Int.tmod v2 64)))
      (K (decide ((bvop .u64 .and (shr .u64 (v1.getD (Int.toNat (IntKind.u8.wrap (Int.tdiv v2 64))) (0 : Int)) (Int.tmod v2 64)) 1) = 1)))))

def byteset_Has {R : Type} (v1 : (List Int)) (v2 : Int) (K : Bool → Option R) : Option R := byteset_Has_b v1 v2 K

def byteset_List_l3_b {R : Type} (c_byteset_Has : (List Int) → Int → (Bool → Option R) → Option R) (l_3 : (List Int) → ((List Int) → Option R) → Int → (List Int) → Option R) (v3 : (List Int)) (Ke0 : (List Int) → Option R) (v2 : Int) (v4 : (List Int)) : Option R :=
    bif decide (v2 < 256) then
    (c_byteset_Has v3 (IntKind.u8.wrap v2) (fun (v5 : Bool) =>
      bif v5 then
      (gd (decide (v4.length + ([(IntKind.u8.wrap v2)] : List Int).length < SMALL))
       (l_3 v3 Ke0 (IntKind.i64.wrap (v2 + 1)) (v4 ++ ([(IntKind.u8.wrap v2)] : List Int))))
      else (l_3 v3 Ke0 (IntKind.i64.wrap (v2 + 1)) v4)))
    else (Ke0 v4)

def byteset_List_b {R : Type} (c_byteset_Has : (List Int) → Int → (Bool → Option R) → Option R) (l_3 : (List Int) → ((List Int) → Option R) → Int → (List Int) → Option R) (v1 : (List Int)) (K : (List Int) → Option R) : Option R :=
    l_3 v1
    (fun (v6 : (List Int)) =>
     K v6) 0 ([] : List Int)

def byteset_List_l3 {R : Type} (kf : Nat) : Nat → (List Int) → ((List Int) → Option R) → Int → (List Int) → Option R
  | 0, _, _, _, _ => none
  | k + 1, y0, y1, y2, y3 => byteset_List_l3_b byteset_Has (byteset_List_l3 kf k) y0 y1 y2 y3

def byteset_List {R : Type} (kf : Nat) (v1 : (List Int)) (K : (List Int) → Option R) : Option R := byteset_List_b byteset_Has (byteset_List_l3 kf kf) v1 K

def show_sign_b {R : Type} (v1 : Int) (K : (List Int) → Option R) : Option R :=
    let j2 : Option R :=
    (gd (decide (0 ≤ (shr .u8 v1 4)))
     (gd (decide ((shr .u8 v1 4) < ([48, 49, 50, 51, 52, 53, 54, 55, 56, 57, 97, 98, 99, 100, 101, 102].length : Int)))
      (gd (decide (0 ≤ (bvop .u8 .and v1 15)))
       (gd (decide ((bvop .u8 .and v1 15) < ([48, 49, 50, 51, 52, 53, 54, 55, 56, 57, 97, 98, 99, 100, 101, 102].length : Int)))
        (gd (decide ([92, 120].length + ([([48, 49, 50, 51, 52, 53, 54, 55, 56, 57, 97, 98, 99, 100, 101, 102].getD (Int.toNat (shr .u8 v1 4)) 0), ([48, 49, 50, 51, 52, 53, 54, 55, 56, 57, 97, 98, 99, 100, 101, 102].getD (Int.toNat (bvop .u8 .and v1 15)) 0)] : List Int).length < SMALL))
         (K ([92, 120] ++ ([([48, 49, 50, 51, 52, 53, 54, 55, 56, 57, 97, 98, 99, 100, 101, 102].getD (Int.toNat (shr .u8 v1 4)) 0), ([48, 49, 50, 51, 52, 53, 54, 55, 56, 57, 97, 98, 99, 100, 101, 102].getD (Int.toNat (bvop .u8 .and v1 15)) 0)] : List Int))))))))
    (bif decide (0 ≤ (idxB [92, 124, 42, 43, 63, 40, 41, 91, 93, 94, 45, 46] v1)) then
     (gd (decide ([92].length + ([v1] : List Int).length < SMALL))
      (K ([92] ++ ([v1] : List Int))))
     else (bif decide (v1 < 32) then
      (j2)
      else (bif decide (126 < v1) then
       (j2)
       else (K ([v1] : List Int)))))

def show_sign {R : Type} (v1 : Int) (K : (List Int) → Option R) : Option R := show_sign_b v1 K

def show_writer_set_l9_b {R : Type} (c_byteset_List : (List Int) → ((List Int) → Option R) → Option R) (c_show_writer_put : (List Int) → Bool → (List Int) → (Bool → (List Int) → Option R) → Option R) (c_show_sign : Int → ((List Int) → Option R) → Option R) (l_9 : (Bool → (List Int) → Option R) → Int → Bool → (List Int) → (List Int) → Option R) (l_11 : Int → Bool → (List Int) → (List Int) → (Int → Int → Bool → (List Int) → (List Int) → Option R) → Int → Option R) (Ke1 : Bool → (List Int) → Option R) (v12 : Int) (v13 : Bool) (v14 : (List Int)) (v15 : (List Int)) : Option R :=
    bif decide (v12 < (v14.length : Int)) then
    (l_11 v12 v13 v14 v15
     (fun (v21 : Int) (v22 : Int) (v23 : Bool) (v24 : (List Int)) (v25 : (List Int)) =>
      gd (decide (0 ≤ v21))
      (gd (decide (v21 < (v24.length : Int)))
       (c_show_sign (v24.getD (Int.toNat v21) (0 : Int)) (fun (v26 : (List Int)) =>
         c_show_writer_put v26 v23 v25 (fun (v27 : Bool) (v28 : (List Int)) =>
          let j34 : Bool → (List Int) → Option R := fun v29 v30 =>
          (bif decide (v21 < v22) then
           (gd (decide (0 ≤ v22))
            (gd (decide (v22 < (v24.length : Int)))
             (c_show_sign (v24.getD (Int.toNat v22) (0 : Int)) (fun (v31 : (List Int)) =>
               c_show_writer_put v31 v29 v30 (fun (v32 : Bool) (v33 : (List Int)) =>
                l_9 Ke1 (IntKind.i64.wrap (v22 + 1)) v32 v24 v33)))))
           else (l_9 Ke1 (IntKind.i64.wrap (v22 + 1)) v29 v24 v30))
          (bif decide ((IntKind.i64.wrap (v21 + 1)) < v22) then
           (c_show_writer_put ([45]) v27 v28 (fun (v35 : Bool) (v36 : (List Int)) =>
             j34 v35 v36))
           else (j34 v27 v28))))))) v12)
    else (Ke1 v13 v15)

def show_writer_set_l11_b {R : Type} (c_byteset_List : (List Int) → ((List Int) → Option R) → Option R) (c_show_writer_put : (List Int) → Bool → (List Int) → (Bool → (List Int) → Option R) → Option R) (c_show_sign : Int → ((List Int) → Option R) → Option R) (l_9 : (Bool → (List Int) → Option R) → Int → Bool → (List Int) → (List Int) → Option R) (l_11 : Int → Bool → (List Int) → (List Int) → (Int → Int → Bool → (List Int) → (List Int) → Option R) → Int → Option R) (v16 : Int) (v18 : Bool) (v19 : (List Int)) (v20 : (List Int)) (Ke3 : Int → Int → Bool → (List Int) → (List Int) → Option R) (v17 : Int) : Option R :=
    bif decide ((IntKind.i64.wrap (v17 + 1)) < (v19.length : Int)) then
    (gd (decide (0 ≤ (IntKind.i64.wrap (v17 + 1))))
     (gd (decide ((IntKind.i64.wrap (v17 + 1)) < (v19.length : Int)))
      (gd (decide (0 ≤ v17))
       (gd (decide (v17 < (v19.length : Int)))
        (bif decide ((v19.getD (Int.toNat (IntKind.i64.wrap (v17 + 1))) (0 : Int)) = (IntKind.u8.wrap ((v19.getD (Int.toNat v17) (0 : Int)) + 1))) then
         (l_11 v16 v18 v19 v20 Ke3 (IntKind.i64.wrap (v17 + 1)))
         else (Ke3 v16 v17 v18 v19 v20))))))
    else (Ke3 v16 v17 v18 v19 v20)

def show_writer_set_b {R : Type} (c_byteset_List : (List Int) → ((List Int) → Option R) → Option R) (c_show_writer_put : (List Int) → Bool → (List Int) → (Bool → (List Int) → Option R) → Option R) (c_show_sign : Int → ((List Int) → Option R) → Option R) (l_9 : (Bool → (List Int) → Option R) → Int → Bool → (List Int) → (List Int) → Option R) (l_11 : Int → Bool → (List Int) → (List Int) → (Int → Int → Bool → (List Int) → (List Int) → Option R) → Int → Option R) (v1 : (List Int)) (v2 : Bool) (v3 : (List Int)) (K : Bool → (List Int) → Option R) : Option R :=
    c_byteset_List v1 (fun (v4 : (List Int)) =>
     bif decide ((v4.length : Int) = 256) then
     (c_show_writer_put ([46]) v2 v3 (fun (v5 : Bool) (v6 : (List Int)) =>
       K v5 v6))
     else (bif decide ((v4.length : Int) = 1) then
      (gd (decide (0 < (v4.length : Int)))
       (c_show_sign (v4.getD 0 (0 : Int)) (fun (v7 : (List Int)) =>
         c_show_writer_put v7 v2 v3 (fun (v8 : Bool) (v9 : (List Int)) =>
          K v8 v9))))
      else (c_show_writer_put ([91]) v2 v3 (fun (v10 : Bool) (v11 : (List Int)) =>
        l_9
        (fun (v37 : Bool) (v38 : (List Int)) =>
         c_show_writer_put ([93]) v37 v38 (fun (v39 : Bool) (v40 : (List Int)) =>
          K v39 v40)) 0 v10 v4 v11))))

def show_writer_set_l11 {R : Type} (kf : Nat) : Nat → Int → Bool → (List Int) → (List Int) → (Int → Int → Bool → (List Int) → (List Int) → Option R) → Int → Option R
  | 0, _, _, _, _, _, _ => none
  | k + 1, y0, y1, y2, y3, y4, y5 => show_writer_set_l11_b (byteset_List kf) show_writer_put show_sign (fun _ _ _ _ _ => none) (show_writer_set_l11 kf k) y0 y1 y2 y3 y4 y5

def show_writer_set_l9 {R : Type} (kf : Nat) : Nat → (Bool → (List Int) → Option R) → Int → Bool → (List Int) → (List Int) → Option R
  | 0, _, _, _, _, _ => none
  | k + 1, y0, y1, y2, y3, y4 => show_writer_set_l9_b (byteset_List kf) show_writer_put show_sign (show_writer_set_l9 kf k) (show_writer_set_l11 kf k) y0 y1 y2 y3 y4

def show_writer_set {R : Type} (kf : Nat) (v1 : (List Int)) (v2 : Bool) (v3 : (List Int)) (K : Bool → (List Int) → Option R) : Option R := show_writer_set_b (byteset_List kf) show_writer_put show_sign (show_writer_set_l9 kf kf) (show_writer_set_l11 kf kf) v1 v2 v3 K

def show_writer_within_b {R : Type} (c_slices_Contains_int_int : (List Int) → Int → (Bool → Option R) → Option R) (c_show_writer_rx : Int → (List Int) → (List (Rose (Int × ((List Int) × Unit)))) → Bool → (List Int) → (Bool → (List Int) → Option R) → Option R) (c_show_writer_put : (List Int) → Bool → (List Int) → (Bool → (List Int) → Option R) → Option R) (v1 : Int) (v2 : (List Int)) (v3 : (List (Rose (Int × ((List Int) × Unit))))) (v4 : (List Int)) (v5 : Bool) (v6 : (List Int)) (K : Bool → (List Int) → Option R) : Option R :=
    c_slices_Contains_int_int v4 v1 (fun (v7 : Bool) =>
     bif (!v7) then
     (c_show_writer_rx v1 v2 v3 v5 v6 (fun (v8 : Bool) (v9 : (List Int)) =>
       K v8 v9))
     else (c_show_writer_put ([40]) v5 v6 (fun (v10 : Bool) (v11 : (List Int)) =>
       c_show_writer_rx v1 v2 v3 v10 v11 (fun (v12 : Bool) (v13 : (List Int)) =>
        c_show_writer_put ([41]) v12 v13 (fun (v14 : Bool) (v15 : (List Int)) =>
         K v14 v15)))))

def show_writer_within {R : Type} (c_show_writer_rx : Int → (List Int) → (List (Rose (Int × ((List Int) × Unit)))) → Bool → (List Int) → (Bool → (List Int) → Option R) → Option R) (kf : Nat) (v1 : Int) (v2 : (List Int)) (v3 : (List (Rose (Int × ((List Int) × Unit))))) (v4 : (List Int)) (v5 : Bool) (v6 : (List Int)) (K : Bool → (List Int) → Option R) : Option R := show_writer_within_b (slices_Contains_int_int kf) c_show_writer_rx show_writer_put v1 v2 v3 v4 v5 v6 K

def show_writer_rx_l11_b {R : Type} (c_show_writer_put : (List Int) → Bool → (List Int) → (Bool → (List Int) → Option R) → Option R) (c_show_writer_set : (List Int) → Bool → (List Int) → (Bool → (List Int) → Option R) → Option R) (c_show_writer_within : Int → (List Int) → (List (Rose (Int × ((List Int) × Unit)))) → (List Int) → Bool → (List Int) → (Bool → (List Int) → Option R) → Option R) (c_show_writer_rx : Int → (List Int) → (List (Rose (Int × ((List Int) × Unit)))) → Bool → (List Int) → (Bool → (List Int) → Option R) → Option R) (l_11 : (List (Rose (Int × ((List Int) × Unit)))) → Int → (Bool → (List Int) → Option R) → Int → Bool → (List Int) → Option R) (l_17 : (List (Rose (Int × ((List Int) × Unit)))) → Int → (Bool → (List Int) → Option R) → Int → Bool → (List Int) → Option R) (v12 : (List (Rose (Int × ((List Int) × Unit))))) (v13 : Int) (Ke1 : Bool → (List Int) → Option R) (v14 : Int) (v15 : Bool) (v16 : (List Int)) : Option R :=
    bif decide (v14 < v13) then
    (gd (decide (0 ≤ v14))
     (gd (decide (v14 < (v12.length : Int)))
      (c_show_writer_within ((Rose.lab (v12.getD (Int.toNat v14) (Rose.node ((0 : Int), ((List.replicate 4 (0 : Int)), ())) [] : (Rose (Int × ((List Int) × Unit)))))).1) ((Rose.lab (v12.getD (Int.toNat v14) (Rose.node ((0 : Int), ((List.replicate 4 (0 : Int)), ())) [] : (Rose (Int × ((List Int) × Unit)))))).2.1) (Rose.kids (v12.getD (Int.toNat v14) (Rose.node ((0 : Int), ((List.replicate 4 (0 : Int)), ())) [] : (Rose (Int × ((List Int) × Unit)))))) ([5] : List Int) v15 v16 (fun (v17 : Bool) (v18 : (List Int)) =>
        l_11 v12 v13 Ke1 (IntKind.i64.wrap (v14 + 1)) v17 v18))))
    else (Ke1 v15 v16)

def show_writer_rx_l17_b {R : Type} (c_show_writer_put : (List Int) → Bool → (List Int) → (Bool → (List Int) → Option R) → Option R) (c_show_writer_set : (List Int) → Bool → (List Int) → (Bool → (List Int) → Option R) → Option R) (c_show_writer_within : Int → (List Int) → (List (Rose (Int × ((List Int) × Unit)))) → (List Int) → Bool → (List Int) → (Bool → (List Int) → Option R) → Option R) (c_show_writer_rx : Int → (List Int) → (List (Rose (Int × ((List Int) × Unit)))) → Bool → (List Int) → (Bool → (List Int) → Option R) → Option R) (l_11 : (List (Rose (Int × ((List Int) × Unit)))) → Int → (Bool → (List Int) → Option R) → Int → Bool → (List Int) → Option R) (l_17 : (List (Rose (Int × ((List Int) × Unit)))) → Int → (Bool → (List Int) → Option R) → Int → Bool → (List Int) → Option R) (v21 : (List (Rose (Int × ((List Int) × Unit))))) (v22 : Int) (Ke3 : Bool → (List Int) → Option R) (v23 : Int) (v24 : Bool) (v25 : (List Int)) : Option R :=
    bif decide (v23 < v22) then
    (gd (decide (0 ≤ v23))
     (gd (decide (v23 < (v21.length : Int)))
      (let j30 : Bool → (List Int) → Option R := fun v26 v27 =>
       (bif (!(decide ((Rose.lab (v21.getD (Int.toNat v23) (Rose.node ((0 : Int), ((List.replicate 4 (0 : Int)), ())) [] : (Rose (Int × ((List Int) × Unit)))))).1 = 2))) then
        (c_show_writer_rx ((Rose.lab (v21.getD (Int.toNat v23) (Rose.node ((0 : Int), ((List.replicate 4 (0 : Int)), ())) [] : (Rose (Int × ((List Int) × Unit)))))).1) ((Rose.lab (v21.getD (Int.toNat v23) (Rose.node ((0 : Int), ((List.replicate 4 (0 : Int)), ())) [] : (Rose (Int × ((List Int) × Unit)))))).2.1) (Rose.kids (v21.getD (Int.toNat v23) (Rose.node ((0 : Int), ((List.replicate 4 (0 : Int)), ())) [] : (Rose (Int × ((List Int) × Unit)))))) v26 v27 (fun (v28 : Bool) (v29 : (List Int)) =>
          l_17 v21 v22 Ke3 (IntKind.i64.wrap (v23 + 1)) v28 v29))
        else (l_17 v21 v22 Ke3 (IntKind.i64.wrap (v23 + 1)) v26 v27))
       (bif decide (0 < v23) then
        (c_show_writer_put ([124]) v24 v25 (fun (v31 : Bool) (v32 : (List Int)) =>
          j30 v31 v32))
        else (j30 v24 v25)))))
    else (Ke3 v24 v25)

def show_writer_rx_b {R : Type} (c_show_writer_put : (List Int) → Bool → (List Int) → (Bool → (List Int) → Option R) → Option R) (c_show_writer_set : (List Int) → Bool → (List Int) → (Bool → (List Int) → Option R) → Option R) (c_show_writer_within : Int → (List Int) → (List (Rose (Int × ((List Int) × Unit)))) → (List Int) → Bool → (List Int) → (Bool → (List Int) → Option R) → Option R) (c_show_writer_rx : Int → (List Int) → (List (Rose (Int × ((List Int) × Unit)))) → Bool → (List Int) → (Bool → (List Int) → Option R) → Option R) (l_11 : (List (Rose (Int × ((List Int) × Unit)))) → Int → (Bool → (List Int) → Option R) → Int → Bool → (List Int) → Option R) (l_17 : (List (Rose (Int × ((List Int) × Unit)))) → Int → (Bool → (List Int) → Option R) → Int → Bool → (List Int) → Option R) (v1 : Int) (v2 : (List Int)) (v3 : (List (Rose (Int × ((List Int) × Unit))))) (v4 : Bool) (v5 : (List Int)) (K : Bool → (List Int) → Option R) : Option R :=
    bif v4 then
    (K v4 v5)
    else (bif decide (v1 = 1) then
     (c_show_writer_put ([91, 93]) v4 v5 (fun (v6 : Bool) (v7 : (List Int)) =>
       K v6 v7))
     else (bif decide (v1 = 2) then
      (c_show_writer_put ([40, 41]) v4 v5 (fun (v8 : Bool) (v9 : (List Int)) =>
        K v8 v9))
      else (bif decide (v1 = 3) then
       (c_show_writer_set v2 v4 v5 (fun (v10 : Bool) (v11 : (List Int)) =>
         K v10 v11))
       else (bif decide (v1 = 4) then
        (l_11 v3 (v3.length : Int)
         (fun (v19 : Bool) (v20 : (List Int)) =>
          K v19 v20) 0 v4 v5)
        else (bif decide (v1 = 5) then
         (l_17 v3 (v3.length : Int)
          (fun (v33 : Bool) (v34 : (List Int)) =>
           K v33 v34) 0 v4 v5)
         else (bif decide (v1 = 6) then
          (gd (decide (0 < (v3.length : Int)))
           (c_show_writer_within ((Rose.lab (v3.getD 0 (Rose.node ((0 : Int), ((List.replicate 4 (0 : Int)), ())) [] : (Rose (Int × ((List Int) × Unit)))))).1) ((Rose.lab (v3.getD 0 (Rose.node ((0 : Int), ((List.replicate 4 (0 : Int)), ())) [] : (Rose (Int × ((List Int) × Unit)))))).2.1) (Rose.kids (v3.getD 0 (Rose.node ((0 : Int), ((List.replicate 4 (0 : Int)), ())) [] : (Rose (Int × ((List Int) × Unit)))))) ([4, 5] : List Int) v4 v5 (fun (v35 : Bool) (v36 : (List Int)) =>
             c_show_writer_put ([42]) v35 v36 (fun (v37 : Bool) (v38 : (List Int)) =>
              K v37 v38))))
          else (K v4 v5)))))))

def show_writer_rx_l11 {R : Type} (c_self : Int → (List Int) → (List (Rose (Int × ((List Int) × Unit)))) → Bool → (List Int) → (Bool → (List Int) → Option R) → Option R) (kf : Nat) : Nat → (List (Rose (Int × ((List Int) × Unit)))) → Int → (Bool → (List Int) → Option R) → Int → Bool → (List Int) → Option R
  | 0, _, _, _, _, _, _ => none
  | k + 1, y0, y1, y2, y3, y4, y5 => show_writer_rx_l11_b show_writer_put (show_writer_set kf) (show_writer_within c_self kf) c_self (show_writer_rx_l11 c_self kf k) (fun _ _ _ _ _ _ => none) y0 y1 y2 y3 y4 y5

def show_writer_rx_l17 {R : Type} (c_self : Int → (List Int) → (List (Rose (Int × ((List Int) × Unit)))) → Bool → (List Int) → (Bool → (List Int) → Option R) → Option R) (kf : Nat) : Nat → (List (Rose (Int × ((List Int) × Unit)))) → Int → (Bool → (List Int) → Option R) → Int → Bool → (List Int) → Option R
  | 0, _, _, _, _, _, _ => none
  | k + 1, y0, y1, y2, y3, y4, y5 => show_writer_rx_l17_b show_writer_put (show_writer_set kf) (show_writer_within c_self kf) c_self (show_writer_rx_l11 c_self kf k) (show_writer_rx_l17 c_self kf k) y0 y1 y2 y3 y4 y5

def show_writer_rx {R : Type} : Nat → Int → (List Int) → (List (Rose (Int × ((List Int) × Unit)))) → Bool → (List Int) → (Bool → (List Int) → Option R) → Option R
  | 0, _, _, _, _, _, _ => none
  | kf + 1, y0, y1, y2, y3, y4, y5 => show_writer_rx_b show_writer_put (show_writer_set kf) (show_writer_within (show_writer_rx kf) kf) (show_writer_rx kf) (show_writer_rx_l11 (show_writer_rx kf) kf kf) (show_writer_rx_l17 (show_writer_rx kf) kf kf) y0 y1 y2 y3 y4 y5

def show_Show_b {R : Type} (c_rx_Plain : Int → (List Int) → (List (Rose (Int × ((List Int) × Unit)))) → (Bool → Option R) → Option R) (c_show_writer_rx : Int → (List Int) → (List (Rose (Int × ((List Int) × Unit)))) → Bool → (List Int) → (Bool → (List Int) → Option R) → Option R) (v1 : Int) (v2 : (List Int)) (v3 : (List (Rose (Int × ((List Int) × Unit))))) (K : (List Int) → Option R) : Option R :=
    c_rx_Plain v1 v2 v3 (fun (v4 : Bool) =>
     bif (!v4) then
     (K ([]))
     else (c_show_writer_rx v1 v2 v3 false ([] : List Int) (fun (v5 : Bool) (v6 : (List Int)) =>
       bif v5 then
       (K ([]))
       else (K v6))))

def show_Show {R : Type} (kf : Nat) (v1 : Int) (v2 : (List Int)) (v3 : (List (Rose (Int × ((List Int) × Unit))))) (K : (List Int) → Option R) : Option R := show_Show_b (rx_Plain kf) (show_writer_rx kf) v1 v2 v3 K

def law7_begun_b {R : Type} (c_ref1_Of : (List Int) → ((List Int) → Option R) → Option R) (c_ref5_Bytes : (List Int) → (Int → (List Int) → (List (Rose (Int × ((List Int) × Unit)))) → Option R) → Option R) (c_ref5_Star : Int → (List Int) → (List (Rose (Int × ((List Int) × Unit)))) → (Int → (List Int) → (List (Rose (Int × ((List Int) × Unit)))) → Option R) → Option R) (c_show_Show : Int → (List Int) → (List (Rose (Int × ((List Int) × Unit)))) → ((List Int) → Option R) → Option R) (c_ref5_Empty : (Int → (List Int) → (List (Rose (Int × ((List Int) × Unit)))) → Option R) → Option R) (K : Bool → Option R) : Option R :=
    gd (decide (0 < ([97, 98, 99] : List Int).length))
    (c_ref1_Of ([97, 98, 99] : List Int) (fun (v1 : (List Int)) =>
      c_ref5_Bytes v1 (fun (v2 : Int) (v3 : (List Int)) (v4 : (List (Rose (Int × ((List Int) × Unit))))) =>
       c_ref5_Star v2 v3 v4 (fun (v5 : Int) (v6 : (List Int)) (v7 : (List (Rose (Int × ((List Int) × Unit))))) =>
        c_show_Show v5 v6 v7 (fun (v8 : (List Int)) =>
         bif decide (v8 = [91, 97, 45, 99, 93, 42]) then
         (c_ref5_Empty (fun (v9 : Int) (v10 : (List Int)) (v11 : (List (Rose (Int × ((List Int) × Unit))))) =>
           c_show_Show v9 v10 v11 (fun (v12 : (List Int)) =>
            K (decide (v12 = [40, 41])))))
         else (K false))))))

def law7_begun {R : Type} (kf : Nat) (K : Bool → Option R) : Option R := law7_begun_b (ref1_Of kf) ref5_Bytes (ref5_Star kf) (show_Show kf) ref5_Empty K

def ref1_Where_l3_b {R : Type} (c_ref1_Of : (List Int) → ((List Int) → Option R) → Option R) (l_3 : (List Bool) → (List Int) → ((List Int) → (List Int) → Option R) → Int → (List Int) → Option R) (v3 : (List Bool)) (v4 : (List Int)) (Ke0 : (List Int) → (List Int) → Option R) (v2 : Int) (v5 : (List Int)) : Option R :=
    bif decide (v2 < 256) then
    (gd (decide (0 ≤ v2))
     (gd (decide (v2 < 256))
      (bif (v3.getD (Int.toNat v2) false) then
       (gd (decide (v5.length + ([(IntKind.u8.wrap v2)] : List Int).length < SMALL))
        (l_3 v3 v4 Ke0 (IntKind.i64.wrap (v2 + 1)) (v5 ++ ([(IntKind.u8.wrap v2)] : List Int))))
       else (l_3 v3 v4 Ke0 (IntKind.i64.wrap (v2 + 1)) v5))))
    else (Ke0 v4 v5)

def ref1_Where_b {R : Type} (c_ref1_Of : (List Int) → ((List Int) → Option R) → Option R) (l_3 : (List Bool) → (List Int) → ((List Int) → (List Int) → Option R) → Int → (List Int) → Option R) (v1 : (List Bool)) (K : (List Int) → Option R) : Option R :=
    l_3 v1 (List.replicate 4 (0 : Int))
    (fun (v6 : (List Int)) (v7 : (List Int)) =>
     c_ref1_Of v7 (fun (v8 : (List Int)) =>
      K v8)) 0 ([] : List Int)

def ref1_Where_l3 {R : Type} (kf : Nat) : Nat → (List Bool) → (List Int) → ((List Int) → (List Int) → Option R) → Int → (List Int) → Option R
  | 0, _, _, _, _, _ => none
  | k + 1, y0, y1, y2, y3, y4 => ref1_Where_l3_b (ref1_Of kf) (ref1_Where_l3 kf k) y0 y1 y2 y3 y4

def ref1_Where {R : Type} (kf : Nat) (v1 : (List Bool)) (K : (List Int) → Option R) : Option R := ref1_Where_b (ref1_Of kf) (ref1_Where_l3 kf kf) v1 K

def ref1_Range_l3_b {R : Type} (c_ref1_Where : (List Bool) → ((List Int) → Option R) → Option R) (l_3 : Int → (List Int) → ((List Int) → (List Bool) → Option R) → Int → (List Bool) → Option R) (v3 : Int) (v5 : (List Int)) (Ke0 : (List Int) → (List Bool) → Option R) (v4 : Int) (v6 : (List Bool)) : Option R :=
    bif decide (v4 ≤ (IntKind.i64.wrap v3)) then
    (gd (decide (0 ≤ v4))
     (gd (decide (v4 < 256))
      (l_3 v3 v5 Ke0 (IntKind.i64.wrap (v4 + 1)) (v6.set (Int.toNat v4) true))))
    else (Ke0 v5 v6)

def ref1_Range_b {R : Type} (c_ref1_Where : (List Bool) → ((List Int) → Option R) → Option R) (l_3 : Int → (List Int) → ((List Int) → (List Bool) → Option R) → Int → (List Bool) → Option R) (v1 : Int) (v2 : Int) (K : (List Int) → Option R) : Option R :=
    l_3 v2 (List.replicate 4 (0 : Int))
    (fun (v7 : (List Int)) (v8 : (List Bool)) =>
     c_ref1_Where v8 (fun (v9 : (List Int)) =>
      K v9)) (IntKind.i64.wrap v1) (List.replicate 256 false)

def ref1_Range_l3 {R : Type} (kf : Nat) : Nat → Int → (List Int) → ((List Int) → (List Bool) → Option R) → Int → (List Bool) → Option R
  | 0, _, _, _, _, _ => none
  | k + 1, y0, y1, y2, y3, y4 => ref1_Range_l3_b (ref1_Where kf) (ref1_Range_l3 kf k) y0 y1 y2 y3 y4

def ref1_Range {R : Type} (kf : Nat) (v1 : Int) (v2 : Int) (K : (List Int) → Option R) : Option R := ref1_Range_b (ref1_Where kf) (ref1_Range_l3 kf kf) v1 v2 K

def law7_ShowRuns_b {R : Type} (c_law7_begun : (Bool → Option R) → Option R) (c_ref1_Range : Int → Int → ((List Int) → Option R) → Option R) (c_ref5_Bytes : (List Int) → (Int → (List Int) → (List (Rose (Int × ((List Int) × Unit)))) → Option R) → Option R) (c_show_Show : Int → (List Int) → (List (Rose (Int × ((List Int) × Unit)))) → ((List Int) → Option R) → Option R) (v1 : Int) (v2 : Int) (K : Bool → Option R) : Option R :=
    c_law7_begun (fun (v3 : Bool) =>
     bif (!v3) then
     (K false)
     else (let j10 : Bool → Option R := fun v4 =>
      (bif v4 then
       (K true)
       else (c_ref1_Range v1 v2 (fun (v5 : (List Int)) =>
         c_ref5_Bytes v5 (fun (v6 : Int) (v7 : (List Int)) (v8 : (List (Rose (Int × ((List Int) × Unit))))) =>
          c_show_Show v6 v7 v8 (fun (v9 : (List Int)) =>
           bif decide ((IntKind.u8.wrap (v2 - v1)) = 0) then
           (K (decide (v9 = ([v1] : List Int))))
           else (bif decide ((IntKind.u8.wrap (v2 - v1)) = 1) then
            (K (decide (v9 = ([91, v1, v2, 93] : List Int))))
            else (K (decide (v9 = ([91, v1, 45, v2, 93] : List Int))))))))))
      (bif decide (v1 < 97) then
       (j10 true)
       else (bif decide (122 < v1) then
        (j10 true)
        else (bif decide (v2 < 97) then
         (j10 true)
         else (bif decide (122 < v2) then
          (j10 true)
          else (j10 (decide (v2 < v1)))))))))

def law7_ShowRuns {R : Type} (kf : Nat) (v1 : Int) (v2 : Int) (K : Bool → Option R) : Option R := law7_ShowRuns_b (law7_begun kf) (ref1_Range kf) ref5_Bytes (show_Show kf) v1 v2 K

def sh7 {R : Type} (c_law7_ShowRuns : Int → Int → (Bool → Option R) → Option R) (av : List S) (es : List Ent) (K : S → List Ent → Option R) : Option R :=
  match av, es with
  | [.int .u8 v1, .int .u8 v2], [] => c_law7_ShowRuns v1 v2 (fun (r0 : Bool) => K (.bool r0) [])
  | _, _ => none

def sh9 {R : Type} (c_law7_begun : (Bool → Option R) → Option R) (av : List S) (es : List Ent) (K : S → List Ent → Option R) : Option R :=
  match av, es with
  | [], [] => c_law7_begun (fun (r0 : Bool) => K (.bool r0) [])
  | _, _ => none

def sh11 {R : Type} (c_ref5_Copy : Int → (List Int) → (List (Rose (Int × ((List Int) × Unit)))) → (Int → (List Int) → (List (Rose (Int × ((List Int) × Unit)))) → Option R) → Option R) (av : List S) (es : List Ent) (K : S → List Ent → Option R) : Option R :=
  match av, es with
  | [.st [.int .i64 v1, .arr 4 (.int .u64) v2, .sl (.rose (.pair (.int .i64) (.pair (.arr 4 (.int .u64)) .unit))) v3]], [] => c_ref5_Copy v1 v2 v3 (fun (r0 : Int) (r1 : (List Int)) (r2 : (List (Rose (Int × ((List Int) × Unit))))) => K (.st [.int .i64 r0, .arr 4 (.int .u64) r1, .own (.rose (.pair (.int .i64) (.pair (.arr 4 (.int .u64)) .unit))) 0]) [.buf (.rose (.pair (.int .i64) (.pair (.arr 4 (.int .u64)) .unit))) r2 false])
  | _, _ => none

def sh12 {R : Type} (c_show_Show : Int → (List Int) → (List (Rose (Int × ((List Int) × Unit)))) → ((List Int) → Option R) → Option R) (av : List S) (es : List Ent) (K : S → List Ent → Option R) : Option R :=
  match av, es with
  | [.st [.int .i64 v1, .arr 4 (.int .u64) v2, .sl (.rose (.pair (.int .i64) (.pair (.arr 4 (.int .u64)) .unit))) v3]], [] => c_show_Show v1 v2 v3 (fun (r0 : (List Int)) => K (.str r0) [])
  | _, _ => none

def sh18 {R : Type} (c_ref5_Bytes : (List Int) → (Int → (List Int) → (List (Rose (Int × ((List Int) × Unit)))) → Option R) → Option R) (av : List S) (es : List Ent) (K : S → List Ent → Option R) : Option R :=
  match av, es with
  | [.arr 4 (.int .u64) v1], [] => c_ref5_Bytes v1 (fun (r0 : Int) (r1 : (List Int)) (r2 : (List (Rose (Int × ((List Int) × Unit))))) => K (.st [.int .i64 r0, .arr 4 (.int .u64) r1, .own (.rose (.pair (.int .i64) (.pair (.arr 4 (.int .u64)) .unit))) 0]) [.buf (.rose (.pair (.int .i64) (.pair (.arr 4 (.int .u64)) .unit))) r2 false])
  | _, _ => none

def sh19 {R : Type} (c_ref1_Range : Int → Int → ((List Int) → Option R) → Option R) (av : List S) (es : List Ent) (K : S → List Ent → Option R) : Option R :=
  match av, es with
  | [.int .u8 v1, .int .u8 v2], [] => c_ref1_Range v1 v2 (fun (r0 : (List Int)) => K (.arr 4 (.int .u64) r0) [])
  | _, _ => none

def sh20 {R : Type} (c_ref1_Of : (List Int) → ((List Int) → Option R) → Option R) (av : List S) (es : List Ent) (K : S → List Ent → Option R) : Option R :=
  match av, es with
  | [.sl (.int .u8) v1], [] => c_ref1_Of v1 (fun (r0 : (List Int)) => K (.arr 4 (.int .u64) r0) [])
  | _, _ => none

def sh21 {R : Type} (c_ref5_Star : Int → (List Int) → (List (Rose (Int × ((List Int) × Unit)))) → (Int → (List Int) → (List (Rose (Int × ((List Int) × Unit)))) → Option R) → Option R) (av : List S) (es : List Ent) (K : S → List Ent → Option R) : Option R :=
  match av, es with
  | [.st [.int .i64 v1, .arr 4 (.int .u64) v2, .sl (.rose (.pair (.int .i64) (.pair (.arr 4 (.int .u64)) .unit))) v3]], [] => c_ref5_Star v1 v2 v3 (fun (r0 : Int) (r1 : (List Int)) (r2 : (List (Rose (Int × ((List Int) × Unit))))) => K (.st [.int .i64 r0, .arr 4 (.int .u64) r1, .own (.rose (.pair (.int .i64) (.pair (.arr 4 (.int .u64)) .unit))) 0]) [.buf (.rose (.pair (.int .i64) (.pair (.arr 4 (.int .u64)) .unit))) r2 false])
  | _, _ => none

def sh22 {R : Type} (c_ref5_Empty : (Int → (List Int) → (List (Rose (Int × ((List Int) × Unit)))) → Option R) → Option R) (av : List S) (es : List Ent) (K : S → List Ent → Option R) : Option R :=
  match av, es with
  | [], [] => c_ref5_Empty (fun (r0 : Int) (r1 : (List Int)) (r2 : (List (Rose (Int × ((List Int) × Unit))))) => K (.st [.int .i64 r0, .arr 4 (.int .u64) r1, .own (.rose (.pair (.int .i64) (.pair (.arr 4 (.int .u64)) .unit))) 0]) [.buf (.rose (.pair (.int .i64) (.pair (.arr 4 (.int .u64)) .unit))) r2 false])
  | _, _ => none

def sh25 {R : Type} (c_rx_Plain : Int → (List Int) → (List (Rose (Int × ((List Int) × Unit)))) → (Bool → Option R) → Option R) (av : List S) (es : List Ent) (K : S → List Ent → Option R) : Option R :=
  match av, es with
  | [.st [.int .i64 v1, .arr 4 (.int .u64) v2, .sl (.rose (.pair (.int .i64) (.pair (.arr 4 (.int .u64)) .unit))) v3]], [] => c_rx_Plain v1 v2 v3 (fun (r0 : Bool) => K (.bool r0) [])
  | _, _ => none

def sh26 {R : Type} (c_show_writer_rx : Int → (List Int) → (List (Rose (Int × ((List Int) × Unit)))) → Bool → (List Int) → (Bool → (List Int) → Option R) → Option R) (av : List S) (es : List Ent) (K : S → List Ent → Option R) : Option R :=
  match av, es with
  | [.ptr 0 [], .st [.int .i64 v1, .arr 4 (.int .u64) v2, .sl (.rose (.pair (.int .i64) (.pair (.arr 4 (.int .u64)) .unit))) v3]], [.box (.st [.own (.int .u8) 1, .bool v4]) false, .buf (.int .u8) v5 false] => c_show_writer_rx v1 v2 v3 v4 v5 (fun (r0 : Bool) (r1 : (List Int)) => K (.tup []) [.box (.st [.own (.int .u8) 1, .bool r0]) false, .buf (.int .u8) r1 false])
  | _, _ => none

def sh33 {R : Type} (c_ref5_None : (Int → (List Int) → (List (Rose (Int × ((List Int) × Unit)))) → Option R) → Option R) (av : List S) (es : List Ent) (K : S → List Ent → Option R) : Option R :=
  match av, es with
  | [], [] => c_ref5_None (fun (r0 : Int) (r1 : (List Int)) (r2 : (List (Rose (Int × ((List Int) × Unit))))) => K (.st [.int .i64 r0, .arr 4 (.int .u64) r1, .own (.rose (.pair (.int .i64) (.pair (.arr 4 (.int .u64)) .unit))) 0]) [.buf (.rose (.pair (.int .i64) (.pair (.arr 4 (.int .u64)) .unit))) r2 false])
  | _, _ => none

def sh34 {R : Type} (c_ref1_Where : (List Bool) → ((List Int) → Option R) → Option R) (av : List S) (es : List Ent) (K : S → List Ent → Option R) : Option R :=
  match av, es with
  | [.arr 256 .bool v1], [] => c_ref1_Where v1 (fun (r0 : (List Int)) => K (.arr 4 (.int .u64) r0) [])
  | _, _ => none

def sh35 {R : Type} (c_ref5_Alt : (List (Rose (Int × ((List Int) × Unit)))) → (Int → (List Int) → (List (Rose (Int × ((List Int) × Unit)))) → Option R) → Option R) (av : List S) (es : List Ent) (K : S → List Ent → Option R) : Option R :=
  match av, es with
  | [.sl (.rose (.pair (.int .i64) (.pair (.arr 4 (.int .u64)) .unit))) v1], [] => c_ref5_Alt v1 (fun (r0 : Int) (r1 : (List Int)) (r2 : (List (Rose (Int × ((List Int) × Unit))))) => K (.st [.int .i64 r0, .arr 4 (.int .u64) r1, .sl (.rose (.pair (.int .i64) (.pair (.arr 4 (.int .u64)) .unit))) r2]) [])
  | _, _ => none

def sh36 {R : Type} (c_rx_bad : (List (Rose (Int × ((List Int) × Unit)))) → (List Int) → (Bool → Option R) → Option R) (av : List S) (es : List Ent) (K : S → List Ent → Option R) : Option R :=
  match av, es with
  | [.sl (.rose (.pair (.int .i64) (.pair (.arr 4 (.int .u64)) .unit))) v1, .sl (.int .i64) v2], [] => c_rx_bad v1 v2 (fun (r0 : Bool) => K (.bool r0) [])
  | _, _ => none

def sh37 {R : Type} (c_rx_rising : (List (Rose (Int × ((List Int) × Unit)))) → (Bool → Option R) → Option R) (av : List S) (es : List Ent) (K : S → List Ent → Option R) : Option R :=
  match av, es with
  | [.sl (.rose (.pair (.int .i64) (.pair (.arr 4 (.int .u64)) .unit))) v1], [] => c_rx_rising v1 (fun (r0 : Bool) => K (.bool r0) [])
  | _, _ => none

def sh38 {R : Type} (c_slices_ContainsFunc_api_Rx_api_Rx : (List (Rose (Int × ((List Int) × Unit)))) → (List Int) → (Bool → (List Int) → Option R) → Option R) (c_slices_ContainsFunc_api_Rx_api_Rx_s1 : (List (Rose (Int × ((List Int) × Unit)))) → (Bool → Option R) → Option R) (av : List S) (es : List Ent) (K : S → List Ent → Option R) : Option R :=
  match av, es with
  | [.sl (.rose (.pair (.int .i64) (.pair (.arr 4 (.int .u64)) .unit))) v1, .fn 54 [.ptr 0 []]], [.box (.sl (.int .i64) v2) false] => c_slices_ContainsFunc_api_Rx_api_Rx v1 v2 (fun (r0 : Bool) (r1 : (List Int)) => K (.bool r0) [.box (.sl (.int .i64) r1) false])
  | [.sl (.rose (.pair (.int .i64) (.pair (.arr 4 (.int .u64)) .unit))) v1, .fn 39 []], [] => c_slices_ContainsFunc_api_Rx_api_Rx_s1 v1 (fun (r0 : Bool) => K (.bool r0) [])
  | _, _ => none

def sh39 {R : Type} (c_rx_Plain_1 : Int → (List Int) → (List (Rose (Int × ((List Int) × Unit)))) → (Bool → Option R) → Option R) (av : List S) (es : List Ent) (K : S → List Ent → Option R) : Option R :=
  match av, es with
  | [.st [.int .i64 v1, .arr 4 (.int .u64) v2, .sl (.rose (.pair (.int .i64) (.pair (.arr 4 (.int .u64)) .unit))) v3]], [] => c_rx_Plain_1 v1 v2 v3 (fun (r0 : Bool) => K (.bool r0) [])
  | _, _ => none

def sh40 {R : Type} (c_show_writer_put : (List Int) → Bool → (List Int) → (Bool → (List Int) → Option R) → Option R) (av : List S) (es : List Ent) (K : S → List Ent → Option R) : Option R :=
  match av, es with
  | [.ptr 0 [], .str v1], [.box (.st [.own (.int .u8) 1, .bool v2]) false, .buf (.int .u8) v3 false] => c_show_writer_put v1 v2 v3 (fun (r0 : Bool) (r1 : (List Int)) => K (.tup []) [.box (.st [.own (.int .u8) 1, .bool r0]) false, .buf (.int .u8) r1 false])
  | _, _ => none

def sh41 {R : Type} (c_show_writer_set : (List Int) → Bool → (List Int) → (Bool → (List Int) → Option R) → Option R) (av : List S) (es : List Ent) (K : S → List Ent → Option R) : Option R :=
  match av, es with
  | [.ptr 0 [], .arr 4 (.int .u64) v1], [.box (.st [.own (.int .u8) 1, .bool v2]) false, .buf (.int .u8) v3 false] => c_show_writer_set v1 v2 v3 (fun (r0 : Bool) (r1 : (List Int)) => K (.tup []) [.box (.st [.own (.int .u8) 1, .bool r0]) false, .buf (.int .u8) r1 false])
  | _, _ => none

def sh42 {R : Type} (c_show_writer_within : Int → (List Int) → (List (Rose (Int × ((List Int) × Unit)))) → (List Int) → Bool → (List Int) → (Bool → (List Int) → Option R) → Option R) (av : List S) (es : List Ent) (K : S → List Ent → Option R) : Option R :=
  match av, es with
  | [.ptr 0 [], .st [.int .i64 v1, .arr 4 (.int .u64) v2, .sl (.rose (.pair (.int .i64) (.pair (.arr 4 (.int .u64)) .unit))) v3], .sl (.int .i64) v4], [.box (.st [.own (.int .u8) 1, .bool v5]) false, .buf (.int .u8) v6 false] => c_show_writer_within v1 v2 v3 v4 v5 v6 (fun (r0 : Bool) (r1 : (List Int)) => K (.tup []) [.box (.st [.own (.int .u8) 1, .bool r0]) false, .buf (.int .u8) r1 false])
  | _, _ => none

def sh51 {R : Type} (c_ref5_flat : Int → (List (Rose (Int × ((List Int) × Unit)))) → ((List (Rose (Int × ((List Int) × Unit)))) → Option R) → Option R) (av : List S) (es : List Ent) (K : S → List Ent → Option R) : Option R :=
  match av, es with
  | [.int .i64 v1, .sl (.rose (.pair (.int .i64) (.pair (.arr 4 (.int .u64)) .unit))) v2], [] => c_ref5_flat v1 v2 (fun (r0 : (List (Rose (Int × ((List Int) × Unit))))) => K (.own (.rose (.pair (.int .i64) (.pair (.arr 4 (.int .u64)) .unit))) 0) [.buf (.rose (.pair (.int .i64) (.pair (.arr 4 (.int .u64)) .unit))) r0 false])
  | _, _ => none

def sh52 {R : Type} (c_ref1_Or : (List Int) → (List Int) → ((List Int) → Option R) → Option R) (av : List S) (es : List Ent) (K : S → List Ent → Option R) : Option R :=
  match av, es with
  | [.arr 4 (.int .u64) v1, .arr 4 (.int .u64) v2], [] => c_ref1_Or v1 v2 (fun (r0 : (List Int)) => K (.arr 4 (.int .u64) r0) [])
  | _, _ => none

def sh53 {R : Type} (c_ref5_insert : (List (Rose (Int × ((List Int) × Unit)))) → Int → (List Int) → (List (Rose (Int × ((List Int) × Unit)))) → ((List (Rose (Int × ((List Int) × Unit)))) → Option R) → Option R) (av : List S) (es : List Ent) (K : S → List Ent → Option R) : Option R :=
  match av, es with
  | [.sl (.rose (.pair (.int .i64) (.pair (.arr 4 (.int .u64)) .unit))) v1, .st [.int .i64 v2, .arr 4 (.int .u64) v3, .sl (.rose (.pair (.int .i64) (.pair (.arr 4 (.int .u64)) .unit))) v4]], [] => c_ref5_insert v1 v2 v3 v4 (fun (r0 : (List (Rose (Int × ((List Int) × Unit))))) => K (.sl (.rose (.pair (.int .i64) (.pair (.arr 4 (.int .u64)) .unit))) r0) [])
  | _, _ => none

def sh54 {R : Type} (c_rx_bad_1 : Int → (List Int) → (List (Rose (Int × ((List Int) × Unit)))) → (List Int) → (Bool → (List Int) → Option R) → Option R) (av : List S) (es : List Ent) (K : S → List Ent → Option R) : Option R :=
  match av, es with
  | [.st [.int .i64 v1, .arr 4 (.int .u64) v2, .sl (.rose (.pair (.int .i64) (.pair (.arr 4 (.int .u64)) .unit))) v3], .ptr 0 []], [.box (.sl (.int .i64) v4) false] => c_rx_bad_1 v1 v2 v3 v4 (fun (r0 : Bool) (r1 : (List Int)) => K (.bool r0) [.box (.sl (.int .i64) r1) false])
  | _, _ => none

def sh55 {R : Type} (c_slices_Contains_int_int : (List Int) → Int → (Bool → Option R) → Option R) (av : List S) (es : List Ent) (K : S → List Ent → Option R) : Option R :=
  match av, es with
  | [.sl (.int .i64) v1, .int .i64 v2], [] => c_slices_Contains_int_int v1 v2 (fun (r0 : Bool) => K (.bool r0) [])
  | _, _ => none

def sh56 {R : Type} (c_rx_isSet : Int → (List Int) → (List (Rose (Int × ((List Int) × Unit)))) → (Bool → Option R) → Option R) (av : List S) (es : List Ent) (K : S → List Ent → Option R) : Option R :=
  match av, es with
  | [.st [.int .i64 v1, .arr 4 (.int .u64) v2, .sl (.rose (.pair (.int .i64) (.pair (.arr 4 (.int .u64)) .unit))) v3]], [] => c_rx_isSet v1 v2 v3 (fun (r0 : Bool) => K (.bool r0) [])
  | _, _ => none

def sh57 {R : Type} (c_rx_Compare : Int → (List Int) → (List (Rose (Int × ((List Int) × Unit)))) → Int → (List Int) → (List (Rose (Int × ((List Int) × Unit)))) → (Int → Option R) → Option R) (av : List S) (es : List Ent) (K : S → List Ent → Option R) : Option R :=
  match av, es with
  | [.st [.int .i64 v1, .arr 4 (.int .u64) v2, .sl (.rose (.pair (.int .i64) (.pair (.arr 4 (.int .u64)) .unit))) v3], .st [.int .i64 v4, .arr 4 (.int .u64) v5, .sl (.rose (.pair (.int .i64) (.pair (.arr 4 (.int .u64)) .unit))) v6]], [] => c_rx_Compare v1 v2 v3 v4 v5 v6 (fun (r0 : Int) => K (.int .i64 r0) [])
  | _, _ => none

def sh58 {R : Type} (c_slices_IndexFunc_api_Rx_api_Rx : (List (Rose (Int × ((List Int) × Unit)))) → (List Int) → (Int → (List Int) → Option R) → Option R) (c_slices_IndexFunc_api_Rx_api_Rx_s1 : (List (Rose (Int × ((List Int) × Unit)))) → (Int → Option R) → Option R) (av : List S) (es : List Ent) (K : S → List Ent → Option R) : Option R :=
  match av, es with
  | [.sl (.rose (.pair (.int .i64) (.pair (.arr 4 (.int .u64)) .unit))) v1, .fn 54 [.ptr 0 []]], [.box (.sl (.int .i64) v2) false] => c_slices_IndexFunc_api_Rx_api_Rx v1 v2 (fun (r0 : Int) (r1 : (List Int)) => K (.int .i64 r0) [.box (.sl (.int .i64) r1) false])
  | [.sl (.rose (.pair (.int .i64) (.pair (.arr 4 (.int .u64)) .unit))) v1, .fn 39 []], [] => c_slices_IndexFunc_api_Rx_api_Rx_s1 v1 (fun (r0 : Int) => K (.int .i64 r0) [])
  | _, _ => none

def sh59 {R : Type} (c_byteset_List : (List Int) → ((List Int) → Option R) → Option R) (av : List S) (es : List Ent) (K : S → List Ent → Option R) : Option R :=
  match av, es with
  | [.arr 4 (.int .u64) v1], [] => c_byteset_List v1 (fun (r0 : (List Int)) => K (.own (.int .u8) 0) [.buf (.int .u8) r0 false])
  | _, _ => none

def sh60 {R : Type} (c_show_sign : Int → ((List Int) → Option R) → Option R) (av : List S) (es : List Ent) (K : S → List Ent → Option R) : Option R :=
  match av, es with
  | [.int .u8 v1], [] => c_show_sign v1 (fun (r0 : (List Int)) => K (.str r0) [])
  | _, _ => none

def sh61 {R : Type} (c_ref1_List : (List Int) → ((List Int) → Option R) → Option R) (av : List S) (es : List Ent) (K : S → List Ent → Option R) : Option R :=
  match av, es with
  | [.arr 4 (.int .u64) v1], [] => c_ref1_List v1 (fun (r0 : (List Int)) => K (.own (.int .u8) 0) [.buf (.int .u8) r0 false])
  | _, _ => none

def sh67 {R : Type} (c_ref5_Compare : Int → (List Int) → (List (Rose (Int × ((List Int) × Unit)))) → Int → (List Int) → (List (Rose (Int × ((List Int) × Unit)))) → (Int → Option R) → Option R) (av : List S) (es : List Ent) (K : S → List Ent → Option R) : Option R :=
  match av, es with
  | [.st [.int .i64 v1, .arr 4 (.int .u64) v2, .sl (.rose (.pair (.int .i64) (.pair (.arr 4 (.int .u64)) .unit))) v3], .st [.int .i64 v4, .arr 4 (.int .u64) v5, .sl (.rose (.pair (.int .i64) (.pair (.arr 4 (.int .u64)) .unit))) v6]], [] => c_ref5_Compare v1 v2 v3 v4 v5 v6 (fun (r0 : Int) => K (.int .i64 r0) [])
  | _, _ => none

def sh68 {R : Type} (c_ref5_Equal : Int → (List Int) → (List (Rose (Int × ((List Int) × Unit)))) → Int → (List Int) → (List (Rose (Int × ((List Int) × Unit)))) → (Bool → Option R) → Option R) (av : List S) (es : List Ent) (K : S → List Ent → Option R) : Option R :=
  match av, es with
  | [.st [.int .i64 v1, .arr 4 (.int .u64) v2, .sl (.rose (.pair (.int .i64) (.pair (.arr 4 (.int .u64)) .unit))) v3], .st [.int .i64 v4, .arr 4 (.int .u64) v5, .sl (.rose (.pair (.int .i64) (.pair (.arr 4 (.int .u64)) .unit))) v6]], [] => c_ref5_Equal v1 v2 v3 v4 v5 v6 (fun (r0 : Bool) => K (.bool r0) [])
  | _, _ => none

def sh69 {R : Type} (c_slices_Index_int_int : (List Int) → Int → (Int → Option R) → Option R) (av : List S) (es : List Ent) (K : S → List Ent → Option R) : Option R :=
  match av, es with
  | [.sl (.int .i64) v1, .int .i64 v2], [] => c_slices_Index_int_int v1 v2 (fun (r0 : Int) => K (.int .i64 r0) [])
  | _, _ => none

def sh70 {R : Type} (c_cmp_Compare_int : Int → Int → (Int → Option R) → Option R) (av : List S) (es : List Ent) (K : S → List Ent → Option R) : Option R :=
  match av, es with
  | [.int .i64 v1, .int .i64 v2], [] => c_cmp_Compare_int v1 v2 (fun (r0 : Int) => K (.int .i64 r0) [])
  | _, _ => none

def sh71 {R : Type} (c_byteset_Less : (List Int) → (List Int) → (Bool → Option R) → Option R) (av : List S) (es : List Ent) (K : S → List Ent → Option R) : Option R :=
  match av, es with
  | [.arr 4 (.int .u64) v1, .arr 4 (.int .u64) v2], [] => c_byteset_Less v1 v2 (fun (r0 : Bool) => K (.bool r0) [])
  | _, _ => none

def sh72 {R : Type} (c_slices_CompareFunc_api_Rx_api_Rx_api_Rx_api_Rx : (List (Rose (Int × ((List Int) × Unit)))) → (List (Rose (Int × ((List Int) × Unit)))) → (Int → Option R) → Option R) (av : List S) (es : List Ent) (K : S → List Ent → Option R) : Option R :=
  match av, es with
  | [.sl (.rose (.pair (.int .i64) (.pair (.arr 4 (.int .u64)) .unit))) v1, .sl (.rose (.pair (.int .i64) (.pair (.arr 4 (.int .u64)) .unit))) v2, .fn 57 []], [] => c_slices_CompareFunc_api_Rx_api_Rx_api_Rx_api_Rx v1 v2 (fun (r0 : Int) => K (.int .i64 r0) [])
  | _, _ => none

def sh73 {R : Type} (c_byteset_Has : (List Int) → Int → (Bool → Option R) → Option R) (av : List S) (es : List Ent) (K : S → List Ent → Option R) : Option R :=
  match av, es with
  | [.arr 4 (.int .u64) v1, .int .u8 v2], [] => c_byteset_Has v1 v2 (fun (r0 : Bool) => K (.bool r0) [])
  | _, _ => none

def sh74 {R : Type} (av : List S) (es : List Ent) (K : S → List Ent → Option R) : Option R :=
  match av, es with
  | [.str v1, .int .u8 v2], [] => K (.int .i64 (idxB v1 v2)) []
  | _, _ => none

def sh75 {R : Type} (c_ref1_Has : (List Int) → Int → (Bool → Option R) → Option R) (av : List S) (es : List Ent) (K : S → List Ent → Option R) : Option R :=
  match av, es with
  | [.arr 4 (.int .u64) v1, .int .u8 v2], [] => c_ref1_Has v1 v2 (fun (r0 : Bool) => K (.bool r0) [])
  | _, _ => none

def sh79 {R : Type} (c_ref1_SetLess : (List Int) → (List Int) → (Bool → Option R) → Option R) (av : List S) (es : List Ent) (K : S → List Ent → Option R) : Option R :=
  match av, es with
  | [.arr 4 (.int .u64) v1, .arr 4 (.int .u64) v2], [] => c_ref1_SetLess v1 v2 (fun (r0 : Bool) => K (.bool r0) [])
  | _, _ => none

def sh80 {R : Type} (c_cmp_isNaN_int : Int → (Bool → Option R) → Option R) (av : List S) (es : List Ent) (K : S → List Ent → Option R) : Option R :=
  match av, es with
  | [.int .i64 v1], [] => c_cmp_isNaN_int v1 (fun (r0 : Bool) => K (.bool r0) [])
  | _, _ => none

def sh81 {R : Type} (c_math_bits_TrailingZeros64 : Int → (Int → Option R) → Option R) (av : List S) (es : List Ent) (K : S → List Ent → Option R) : Option R :=
  match av, es with
  | [.int .u64 v1], [] => c_math_bits_TrailingZeros64 v1 (fun (r0 : Int) => K (.int .i64 r0) [])
  | _, _ => none

end
end Go.Ab.T
