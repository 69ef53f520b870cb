/- ShoTA: a part of the proofs of this seat's statements. -/
import Derived.Test.YtlihheeknnnbmaaDoorDef
import Derived.Test.YtlihheeknnnbmaaDoorPrimX
import Derived.Test.YtlihheeknnnbmaaDoorProg
import Derived.KernelRfl
namespace Go.Ab.T
abbrev LI := List Int
abbrev LL := List (List Int)
abbrev LB := List Bool
abbrev T0 (R : Type) : Type := Int → LI → (List (Rose (Int × (LI × Unit)))) → (Bool → Option R) → Option R
abbrev T1 (R : Type) : Type := Int → LI → (List (Rose (Int × (LI × Unit)))) → (Int → LI → (List (Rose (Int × (LI × Unit)))) → Option R) → Option R
abbrev T2 (R : Type) : Type := LI → Int → (Bool → Option R) → Option R
abbrev T3 (R : Type) : Type := Int → LI → (List (Rose (Int × (LI × Unit)))) → Int → LI → (List (Rose (Int × (LI × Unit)))) → (Int → Option R) → Option R
abbrev T4 (R : Type) : Type := (Int → LI → (List (Rose (Int × (LI × Unit)))) → Option R) → Option R
abbrev T5 (R : Type) : Type := LI → Bool → LI → (Bool → LI → Option R) → Option R
abbrev T6 (R : Type) : Type := Int → LI → (List (Rose (Int × (LI × Unit)))) → (LI → Option R) → Option R
abbrev T7 (R : Type) : Type := Int → LI → (List (Rose (Int × (LI × Unit)))) → Int → LI → (List (Rose (Int × (LI × Unit)))) → (Bool → Option R) → Option R
abbrev T8 (R : Type) : Type := Int → LI → (List (Rose (Int × (LI × Unit)))) → (Int → Option R) → Option R
abbrev T9 (R : Type) : Type := Int → LI → (List (Rose (Int × (LI × Unit)))) → Bool → LI → (Bool → LI → Option R) → Option R
abbrev T10 (R : Type) : Type := (List (Rose (Int × (LI × Unit)))) → (Int → LI → (List (Rose (Int × (LI × Unit)))) → Option R) → Option R
abbrev T11 (R : Type) : Type := (List (Rose (Int × (LI × Unit)))) → Int → (Bool → LI → Option R) → Int → Bool → LI → Option R
abbrev T12 (R : Type) : Type := LI → LI → (Bool → Option R) → Option R
abbrev T13 (R : Type) : Type := Int → (List (Rose (Int × (LI × Unit)))) → ((List (Rose (Int × (LI × Unit)))) → Option R) → Option R
abbrev T14 (R : Type) : Type := Int → LI → (List (Rose (Int × (LI × Unit)))) → Int → LI → (List (Rose (Int × (LI × Unit)))) → (Int → LI → (List (Rose (Int × (LI × Unit)))) → Int → LI → (List (Rose (Int × (LI × Unit)))) → (List (Rose (Int × (LI × Unit)))) → Option R) → Int → (List (Rose (Int × (LI × Unit)))) → Option R
abbrev T15 (R : Type) : Type := LI → (LI → Option R) → Int → LI → Option R
abbrev T16 (R : Type) : Type := LI → LI → (Bool → Option R) → (Option R) → Int → Option R
abbrev T17 (R : Type) : Type := (List (Rose (Int × (LI × Unit)))) → (Bool → Option R) → Option R
abbrev T18 (R : Type) : Type := (List (Rose (Int × (LI × Unit)))) → (Int → Option R) → Int → Int → Option R
abbrev T19 (R : Type) : Type := LI → (Int → LI → (List (Rose (Int × (LI × Unit)))) → Option R) → Option R
abbrev T20 (R : Type) : Type := Int → LI → (List (Rose (Int × (LI × Unit)))) → Option R
abbrev T21 (R : Type) : Type := Int → LI → (List (Rose (Int × (LI × Unit)))) → LI → Bool → LI → (Bool → LI → Option R) → Option R
abbrev T22 (R : Type) : Type := LI → LI → (LI → Option R) → Option R
abbrev T23 (R : Type) : Type := (List (Rose (Int × (LI × Unit)))) → Int → LI → (List (Rose (Int × (LI × Unit)))) → ((List (Rose (Int × (LI × Unit)))) → Option R) → Option R
abbrev T24 (R : Type) : Type := Int → LI → (List (Rose (Int × (LI × Unit)))) → LI → (Bool → LI → Option R) → Option R
abbrev T25 (R : Type) : Type := (Bool → LI → Option R) → Int → Bool → LI → LI → Option R
abbrev T26 (R : Type) : Type := Int → Bool → LI → LI → (Int → Int → Bool → LI → LI → Option R) → Int → Option R
abbrev T27 (R : Type) : Type := (LI → Option R) → LI → Int → LI → Option R
abbrev T28 (R : Type) : Type := LI → Int → LI → (LI → Int → Int → LI → Option R) → Int → Option R
abbrev T29 (R : Type) : Type := LI → LI → (LI → LI → Option R) → Int → LI → Option R
abbrev T30 (R : Type) : Type := Int → (List (Rose (Int × (LI × Unit)))) → ((List (Rose (Int × (LI × Unit)))) → Option R) → Int → (List (Rose (Int × (LI × Unit)))) → Option R
abbrev T31 (R : Type) : Type := Int → LI → (List (Rose (Int × (LI × Unit)))) → Int → LI → (List (Rose (Int × (LI × Unit)))) → (Int → Int → LI → (List (Rose (Int × (LI × Unit)))) → Int → LI → (List (Rose (Int × (LI × Unit)))) → Option R) → (Int → LI → (List (Rose (Int × (LI × Unit)))) → Int → LI → (List (Rose (Int × (LI × Unit)))) → Option R) → Int → Option R
abbrev T32 (R : Type) : Type := (List (Rose (Int × (LI × Unit)))) → Int → LI → (List (Rose (Int × (LI × Unit)))) → ((List (Rose (Int × (LI × Unit)))) → Int → Int → LI → (List (Rose (Int × (LI × Unit)))) → Option R) → Int → Option R
abbrev T33 (R : Type) : Type := Int → LI → (List (Rose (Int × (LI × Unit)))) → (List (Rose (Int × (LI × Unit)))) → ((List (Rose (Int × (LI × Unit)))) → Int → LI → LI → (List (Rose (Int × (LI × Unit)))) → Option R) → (List (Rose (Int × (LI × Unit)))) → Int → LI → Option R
abbrev T34 (R : Type) : Type := LI → Int → Int → (Int → Option R) → (Option R) → Int → Option R
abbrev T35 (R : Type) : Type := LI → Int → (Int → Option R) → Option R
abbrev T36 (R : Type) : Type := (List (Rose (Int × (LI × Unit)))) → Int → (Int → LI → Option R) → (LI → Option R) → Int → LI → Option R
abbrev T37 (R : Type) : Type := (List (Rose (Int × (LI × Unit)))) → LI → (Int → LI → Option R) → Option R
abbrev T38 (R : Type) : Type := (List (Rose (Int × (LI × Unit)))) → LI → (Bool → LI → Option R) → Option R
abbrev T39 (R : Type) : Type := (List (Rose (Int × (LI × Unit)))) → (List (Rose (Int × (LI × Unit)))) → (List (Rose (Int × (LI × Unit)))) → Int → ((List (Rose (Int × (LI × Unit)))) → (List (Rose (Int × (LI × Unit)))) → Int → Option R) → ((List (Rose (Int × (LI × Unit)))) → (List (Rose (Int × (LI × Unit)))) → Option R) → Int → Option R
abbrev T40 (R : Type) : Type := Int → Int → (Int → Option R) → Option R
abbrev T41 (R : Type) : Type := (List (Rose (Int × (LI × Unit)))) → (List (Rose (Int × (LI × Unit)))) → (Int → Option R) → Option R
abbrev T42 (R : Type) : Type := (List (Rose (Int × (LI × Unit)))) → (List (Rose (Int × (LI × Unit)))) → Int → (Bool → Int → Option R) → (Int → Option R) → Int → Int → Option R
abbrev T43 (R : Type) : Type := (List (Rose (Int × (LI × Unit)))) → Int → (Int → Option R) → (Option R) → Int → Option R
abbrev T44 (R : Type) : Type := (List (Rose (Int × (LI × Unit)))) → (Int → Option R) → Option R
abbrev T45 (R : Type) : Type := (List (Rose (Int × (LI × Unit)))) → LI → (Bool → Option R) → Option R
abbrev T46 (R : Type) : Type := Int → LI → (List (Rose (Int × (LI × Unit)))) → (List (Rose (Int × (LI × Unit)))) → (Int → LI → (List (Rose (Int × (LI × Unit)))) → (List (Rose (Int × (LI × Unit)))) → Option R) → (Int → LI → (List (Rose (Int × (LI × Unit)))) → (List (Rose (Int × (LI × Unit)))) → Option R) → Int → (List (Rose (Int × (LI × Unit)))) → Option R
abbrev T47 (R : Type) : Type := (List (Rose (Int × (LI × Unit)))) → (List (Rose (Int × (LI × Unit)))) → (Bool → Option R) → (Option R) → Int → Option R
abbrev T48 (R : Type) : Type := Int → LI → (List (Rose (Int × (LI × Unit)))) → (Bool → Int → LI → (List (Rose (Int × (LI × Unit)))) → Option R) → (Int → LI → (List (Rose (Int × (LI × Unit)))) → Option R) → Int → Option R
abbrev T49 (R : Type) : Type := LI → Int → (Bool → Option R) → (Option R) → Int → Option R
abbrev T50 (R : Type) : Type := Int → (List (Rose (Int × (LI × Unit)))) → (LI → Option R) → LI → Int → Option R
abbrev T51 (R : Type) : Type := Int → LI → (List (Rose (Int × (LI × Unit)))) → Int → (Bool → Option R) → Option R
abbrev T52 (R : Type) : Type := (List (Rose (Int × (LI × Unit)))) → Option R
open Go Go.Ab Go.Proofs
set_option maxRecDepth 100000
set_option linter.unusedVariables false
noncomputable section
def deBruijn : List Int := [0, 1, 56, 2, 57, 49, 28, 3, 61, 58, 42, 50, 38, 29, 17, 4, 62, 47, 59, 36, 45, 43, 51, 22, 53, 39, 33, 30, 24, 18, 12, 5, 63, 55, 48, 27, 60, 41, 37, 16, 46, 35, 44, 21, 52, 32, 23, 11, 54, 26, 40, 15, 34, 20, 31, 10, 25, 14, 19, 9, 13, 8, 7, 6]
def glob : Nat → Option S := fun g => if g = 0 then some (.arr 64 (.int .u8) deBruijn) else none
def raw : FuncId → Bool := fun f => [].contains f
def ref1_Of_l3_b {R : Type} (l_3 : T29 R) (v2 : LI) (v4 : LI) (Ke0 : LI → LI → Option R) (v3 : Int) (v5 : LI) : Option R :=
    bif decide (v3 < (v2.length : Int)) then
    (gd (decide (0 ≤ v3))
     (gd (decide (v3 < (v2.length : Int)))
      (gd (decide (0 ≤ (IntKind.u8.wrap (Int.tdiv (v2.getD (Int.toNat v3) (0 : Int)) 64))))
       (gd (decide ((IntKind.u8.wrap (Int.tdiv (v2.getD (Int.toNat v3) (0 : Int)) 64)) < 4))
        (gd (decide (0 ≤ v3))
         (gd (decide (v3 < (v2.length : Int)))
          (gd (decide (0 ≤ (Int.tmod (v2.getD (Int.toNat v3) (0 : Int)) 64)))
           (gd (decide (0 ≤ (IntKind.u8.wrap (Int.tdiv (v2.getD (Int.toNat v3) (0 : Int)) 64))))
            (gd (decide ((IntKind.u8.wrap (Int.tdiv (v2.getD (Int.toNat v3) (0 : Int)) 64)) < 4))
             (l_3 v2 v4 Ke0 (IntKind.i64.wrap (v3 + 1)) (v5.set (Int.toNat (IntKind.u8.wrap (Int.tdiv (v2.getD (Int.toNat v3) (0 : Int)) 64))) (bvop .u64 .or (v5.getD (Int.toNat (IntKind.u8.wrap (Int.tdiv (v2.getD (Int.toNat v3) (0 : Int)) 64))) (0 : Int)) (shl .u64 1 (Int.tmod (v2.getD (Int.toNat v3) (0 : Int)) 64))))))))))))))
    else (Ke0 v4 v5)
def ref1_Of_b {R : Type} (l_3 : T29 R) (v1 : LI) (K : LI → Option R) : Option R :=
    l_3 v1 (List.replicate 4 (0 : Int))
    (fun v6 v7 =>
     K v7) 0 (List.replicate 4 (0 : Int))
def ref1_Of_l3 {R : Type} (kf : Nat) : Nat → LI → LI → (LI → LI → Option R) → Int → LI → Option R
  | 0, _, _, _, _, _ => none
  | k + 1, y0, y1, y2, y3, y4 => ref1_Of_l3_b (ref1_Of_l3 kf k) y0 y1 y2 y3 y4
def ref1_Of {R : Type} (kf : Nat) (v1 : LI) (K : LI → Option R) : Option R := ref1_Of_b (ref1_Of_l3 kf kf) v1 K
def ref5_None_b {R : Type} (K : T20 R) : Option R :=
    K 1 (List.replicate 4 (0 : Int)) ([] : List (Rose (Int × (LI × Unit))))
def ref5_None {R : Type} (K : T20 R) : Option R := ref5_None_b K
def ref5_Bytes_b {R : Type} (c_ref5_None : T4 R) (v1 : LI) (K : T20 R) : Option R :=
    bif decide (v1 = (List.replicate 4 (0 : Int))) then
    (c_ref5_None (fun v2 v3 v4 =>
      K v2 v3 v4))
    else (K 3 v1 ([] : List (Rose (Int × (LI × Unit)))))
def ref5_Bytes {R : Type} (v1 : LI) (K : T20 R) : Option R := ref5_Bytes_b ref5_None v1 K
def ref5_Copy_l3_b {R : Type} (c_ref5_Copy : T1 R) (l_3 : T14 R) (v5 : Int) (v6 : LI) (v7 : (List (Rose (Int × (LI × Unit))))) (v8 : Int) (v9 : LI) (v11 : (List (Rose (Int × (LI × Unit))))) (Ke0 : Int → LI → (List (Rose (Int × (LI × Unit)))) → Int → LI → (List (Rose (Int × (LI × Unit)))) → (List (Rose (Int × (LI × Unit)))) → Option R) (v4 : Int) (v10 : (List (Rose (Int × (LI × Unit))))) : Option R :=
    bif decide (v4 < (v7.length : Int)) then
    (gd (decide (0 ≤ v4))
     (gd (decide (v4 < (v7.length : Int)))
      (c_ref5_Copy ((Rose.lab (v7.getD (Int.toNat v4) (Rose.node ((0 : Int), ((List.replicate 4 (0 : Int)), ())) [] : (Rose (Int × (LI × Unit)))))).1) ((Rose.lab (v7.getD (Int.toNat v4) (Rose.node ((0 : Int), ((List.replicate 4 (0 : Int)), ())) [] : (Rose (Int × (LI × Unit)))))).2.1) (Rose.kids (v7.getD (Int.toNat v4) (Rose.node ((0 : Int), ((List.replicate 4 (0 : Int)), ())) [] : (Rose (Int × (LI × Unit)))))) (fun v12 v13 v14 =>
        gd (decide (v10.length + ([(Rose.node (v12, v13, ()) v14)] : List (Rose (Int × (LI × Unit)))).length < SMALL))
        (l_3 v5 v6 v7 v8 v9 v11 Ke0 (IntKind.i64.wrap (v4 + 1)) (v10 ++ ([(Rose.node (v12, v13, ()) v14)] : List (Rose (Int × (LI × Unit))))))))))
    else (Ke0 v5 v6 v7 v8 v9 v10 v11)
def ref5_Copy_b {R : Type} (c_ref5_Copy : T1 R) (l_3 : T14 R) (v1 : Int) (v2 : LI) (v3 : (List (Rose (Int × (LI × Unit))))) (K : T20 R) : Option R :=
    l_3 v1 v2 v3 0 (List.replicate 4 (0 : Int)) ([] : List (Rose (Int × (LI × Unit))))
    (fun v15 v16 v17 v18 v19 v20 v21 =>
     K v15 v16 v20) 0 ([] : List (Rose (Int × (LI × Unit))))
def ref5_Copy_l3 {R : Type} (c_self : T1 R) (kf : Nat) : Nat → Int → LI → (List (Rose (Int × (LI × Unit)))) → Int → LI → (List (Rose (Int × (LI × Unit)))) → (Int → LI → (List (Rose (Int × (LI × Unit)))) → Int → LI → (List (Rose (Int × (LI × Unit)))) → (List (Rose (Int × (LI × Unit)))) → Option R) → Int → (List (Rose (Int × (LI × Unit)))) → Option R
  | 0, _, _, _, _, _, _, _, _, _ => none
  | k + 1, y0, y1, y2, y3, y4, y5, y6, y7, y8 => ref5_Copy_l3_b c_self (ref5_Copy_l3 c_self kf k) y0 y1 y2 y3 y4 y5 y6 y7 y8
def ref5_Copy {R : Type} : Nat → Int → LI → (List (Rose (Int × (LI × Unit)))) → (Int → LI → (List (Rose (Int × (LI × Unit)))) → Option R) → Option R
  | 0, _, _, _, _ => none
  | kf + 1, y0, y1, y2, y3 => ref5_Copy_b (ref5_Copy kf) (ref5_Copy_l3 (ref5_Copy kf) kf kf) y0 y1 y2 y3
def ref5_Empty_b {R : Type} (K : T20 R) : Option R :=
    K 2 (List.replicate 4 (0 : Int)) ([] : List (Rose (Int × (LI × Unit))))
def ref5_Empty {R : Type} (K : T20 R) : Option R := ref5_Empty_b K
def ref5_flat_l3_b {R : Type} (l_3 : T30 R) (v3 : Int) (v4 : (List (Rose (Int × (LI × Unit))))) (Ke0 : (List (Rose (Int × (LI × Unit)))) → Option R) (v5 : Int) (v6 : (List (Rose (Int × (LI × Unit))))) : Option R :=
    bif decide (v5 < (v4.length : Int)) then
    (gd (decide (0 ≤ v5))
     (gd (decide (v5 < (v4.length : Int)))
      (bif decide ((Rose.lab (v4.getD (Int.toNat v5) (Rose.node ((0 : Int), ((List.replicate 4 (0 : Int)), ())) [] : (Rose (Int × (LI × Unit)))))).1 = v3) then
       (gd (decide (0 ≤ v5))
        (gd (decide (v5 < (v4.length : Int)))
         (gd (decide (v6.length + (Rose.kids (v4.getD (Int.toNat v5) (Rose.node ((0 : Int), ((List.replicate 4 (0 : Int)), ())) [] : (Rose (Int × (LI × Unit)))))).length < SMALL))
          (l_3 v3 v4 Ke0 (IntKind.i64.wrap (v5 + 1)) (v6 ++ (Rose.kids (v4.getD (Int.toNat v5) (Rose.node ((0 : Int), ((List.replicate 4 (0 : Int)), ())) [] : (Rose (Int × (LI × Unit)))))))))))
       else (gd (decide (0 ≤ v5))
        (gd (decide (v5 < (v4.length : Int)))
         (gd (decide (v6.length + ([(Rose.node ((Rose.lab (v4.getD (Int.toNat v5) (Rose.node ((0 : Int), ((List.replicate 4 (0 : Int)), ())) [] : (Rose (Int × (LI × Unit)))))).1, (Rose.lab (v4.getD (Int.toNat v5) (Rose.node ((0 : Int), ((List.replicate 4 (0 : Int)), ())) [] : (Rose (Int × (LI × Unit)))))).2.1, ()) (Rose.kids (v4.getD (Int.toNat v5) (Rose.node ((0 : Int), ((List.replicate 4 (0 : Int)), ())) [] : (Rose (Int × (LI × Unit)))))))] : List (Rose (Int × (LI × Unit)))).length < SMALL))
          (l_3 v3 v4 Ke0 (IntKind.i64.wrap (v5 + 1)) (v6 ++ ([(Rose.node ((Rose.lab (v4.getD (Int.toNat v5) (Rose.node ((0 : Int), ((List.replicate 4 (0 : Int)), ())) [] : (Rose (Int × (LI × Unit)))))).1, (Rose.lab (v4.getD (Int.toNat v5) (Rose.node ((0 : Int), ((List.replicate 4 (0 : Int)), ())) [] : (Rose (Int × (LI × Unit)))))).2.1, ()) (Rose.kids (v4.getD (Int.toNat v5) (Rose.node ((0 : Int), ((List.replicate 4 (0 : Int)), ())) [] : (Rose (Int × (LI × Unit)))))))] : List (Rose (Int × (LI × Unit))))))))))))
    else (Ke0 v6)
def ref5_flat_b {R : Type} (l_3 : T30 R) (v1 : Int) (v2 : (List (Rose (Int × (LI × Unit))))) (K : T52 R) : Option R :=
    l_3 v1 v2
    (fun v7 =>
     K v7) 0 ([] : List (Rose (Int × (LI × Unit))))
def ref5_flat_l3 {R : Type} (kf : Nat) : Nat → Int → (List (Rose (Int × (LI × Unit)))) → ((List (Rose (Int × (LI × Unit)))) → Option R) → Int → (List (Rose (Int × (LI × Unit)))) → Option R
  | 0, _, _, _, _, _ => none
  | k + 1, y0, y1, y2, y3, y4 => ref5_flat_l3_b (ref5_flat_l3 kf k) y0 y1 y2 y3 y4
def ref5_flat {R : Type} (kf : Nat) (v1 : Int) (v2 : (List (Rose (Int × (LI × Unit))))) (K : T52 R) : Option R := ref5_flat_b (ref5_flat_l3 kf kf) v1 v2 K
def ref1_Has_b {R : Type} (v1 : LI) (v2 : Int) (K : Bool → Option R) : Option R :=
    gd (decide (0 ≤ (IntKind.u8.wrap (Int.tdiv v2 64))))
    (gd (decide ((IntKind.u8.wrap (Int.tdiv v2 64)) < 4))
     (gd (decide (0 ≤ (Int.tmod v2 64)))
      (K (decide ((Int.tmod (shr .u64 (v1.getD (Int.toNat (IntKind.u8.wrap (Int.tdiv v2 64))) (0 : Int)) (Int.tmod v2 64)) 2) = 1)))))
def ref1_Has {R : Type} (v1 : LI) (v2 : Int) (K : Bool → Option R) : Option R := ref1_Has_b v1 v2 K
def ref1_List_l3_b {R : Type} (c_ref1_Has : T2 R) (l_3 : T15 R) (v3 : LI) (Ke0 : LI → Option R) (v2 : Int) (v4 : LI) : Option R :=
    bif decide (v2 < 256) then
    (c_ref1_Has v3 (IntKind.u8.wrap v2) (fun v5 =>
      bif v5 then
      (gd (decide (v4.length + ([(IntKind.u8.wrap v2)] : List Int).length < SMALL))
       (l_3 v3 Ke0 (IntKind.i64.wrap (v2 + 1)) (v4 ++ ([(IntKind.u8.wrap v2)] : List Int))))
      else (l_3 v3 Ke0 (IntKind.i64.wrap (v2 + 1)) v4)))
    else (Ke0 v4)
def ref1_List_b {R : Type} (c_ref1_Has : T2 R) (l_3 : T15 R) (v1 : LI) (K : LI → Option R) : Option R :=
    l_3 v1
    (fun v6 =>
     K v6) 0 ([] : List Int)
def ref1_List_l3 {R : Type} (kf : Nat) : Nat → LI → (LI → Option R) → Int → LI → Option R
  | 0, _, _, _, _ => none
  | k + 1, y0, y1, y2, y3 => ref1_List_l3_b ref1_Has (ref1_List_l3 kf k) y0 y1 y2 y3
def ref1_List {R : Type} (kf : Nat) (v1 : LI) (K : LI → Option R) : Option R := ref1_List_b ref1_Has (ref1_List_l3 kf kf) v1 K
def ref1_Or_b {R : Type} (c_ref1_List : LI → (LI → Option R) → Option R) (c_ref1_Of : LI → (LI → Option R) → Option R) (v1 : LI) (v2 : LI) (K : LI → Option R) : Option R :=
    c_ref1_List v1 (fun v3 =>
     c_ref1_List v2 (fun v4 =>
      gd (decide (v3.length + v4.length < SMALL))
      (c_ref1_Of (v3 ++ v4) (fun v5 =>
        K v5))))
def ref1_Or {R : Type} (kf : Nat) (v1 : LI) (v2 : LI) (K : LI → Option R) : Option R := ref1_Or_b (ref1_List kf) (ref1_Of kf) v1 v2 K
def ref1_SetLess_l2_b {R : Type} (c_ref1_Has : T2 R) (l_2 : T16 R) (v4 : LI) (v5 : LI) (Kr : Bool → Option R) (Ke0 : Option R) (v3 : Int) : Option R :=
    bif decide (v3 < 256) then
    (c_ref1_Has v4 (IntKind.u8.wrap v3) (fun v6 =>
      c_ref1_Has v5 (IntKind.u8.wrap v3) (fun v7 =>
       bif (!(decide (v6 = v7))) then
       (c_ref1_Has v4 (IntKind.u8.wrap v3) (fun v8 =>
         Kr v8))
       else (l_2 v4 v5 Kr Ke0 (IntKind.i64.wrap (v3 + 1))))))
    else (Ke0)
def ref1_SetLess_b {R : Type} (c_ref1_Has : T2 R) (l_2 : T16 R) (v1 : LI) (v2 : LI) (K : Bool → Option R) : Option R :=
    l_2 v1 v2
    (fun v9 =>
     K v9)
    (K false) 0
def ref1_SetLess_l2 {R : Type} (kf : Nat) : Nat → LI → LI → (Bool → Option R) → (Option R) → Int → Option R
  | 0, _, _, _, _, _ => none
  | k + 1, y0, y1, y2, y3, y4 => ref1_SetLess_l2_b ref1_Has (ref1_SetLess_l2 kf k) y0 y1 y2 y3 y4
def ref1_SetLess {R : Type} (kf : Nat) (v1 : LI) (v2 : LI) (K : Bool → Option R) : Option R := ref1_SetLess_b ref1_Has (ref1_SetLess_l2 kf kf) v1 v2 K
def ref5_Compare_l10_b {R : Type} (c_ref1_SetLess : T12 R) (c_ref5_Compare : T3 R) (l_10 : T31 R) (v10 : Int) (v11 : LI) (v12 : (List (Rose (Int × (LI × Unit))))) (v13 : Int) (v14 : LI) (v15 : (List (Rose (Int × (LI × Unit))))) (Kr : Int → Int → LI → (List (Rose (Int × (LI × Unit)))) → Int → LI → (List (Rose (Int × (LI × Unit)))) → Option R) (Ke0 : Int → LI → (List (Rose (Int × (LI × Unit)))) → Int → LI → (List (Rose (Int × (LI × Unit)))) → Option R) (v9 : Int) : Option R :=
    bif decide (v9 < (v12.length : Int)) then
    (bif decide (v9 < (v15.length : Int)) then
     (gd (decide (0 ≤ v9))
      (gd (decide (v9 < (v12.length : Int)))
       (gd (decide (0 ≤ v9))
        (gd (decide (v9 < (v15.length : Int)))
         (c_ref5_Compare ((Rose.lab (v12.getD (Int.toNat v9) (Rose.node ((0 : Int), ((List.replicate 4 (0 : Int)), ())) [] : (Rose (Int × (LI × Unit)))))).1) ((Rose.lab (v12.getD (Int.toNat v9) (Rose.node ((0 : Int), ((List.replicate 4 (0 : Int)), ())) [] : (Rose (Int × (LI × Unit)))))).2.1) (Rose.kids (v12.getD (Int.toNat v9) (Rose.node ((0 : Int), ((List.replicate 4 (0 : Int)), ())) [] : (Rose (Int × (LI × Unit)))))) ((Rose.lab (v15.getD (Int.toNat v9) (Rose.node ((0 : Int), ((List.replicate 4 (0 : Int)), ())) [] : (Rose (Int × (LI × Unit)))))).1) ((Rose.lab (v15.getD (Int.toNat v9) (Rose.node ((0 : Int), ((List.replicate 4 (0 : Int)), ())) [] : (Rose (Int × (LI × Unit)))))).2.1) (Rose.kids (v15.getD (Int.toNat v9) (Rose.node ((0 : Int), ((List.replicate 4 (0 : Int)), ())) [] : (Rose (Int × (LI × Unit)))))) (fun v16 =>
           bif (!(decide (v16 = 0))) then
           (Kr v16 v10 v11 v12 v13 v14 v15)
           else (l_10 v10 v11 v12 v13 v14 v15 Kr Ke0 (IntKind.i64.wrap (v9 + 1)))))))))
     else (Ke0 v10 v11 v12 v13 v14 v15))
    else (Ke0 v10 v11 v12 v13 v14 v15)
def ref5_Compare_b {R : Type} (c_ref1_SetLess : T12 R) (c_ref5_Compare : T3 R) (l_10 : T31 R) (v1 : Int) (v2 : LI) (v3 : (List (Rose (Int × (LI × Unit))))) (v4 : Int) (v5 : LI) (v6 : (List (Rose (Int × (LI × Unit))))) (K : Int → Option R) : Option R :=
    bif (!(decide (v1 = v4))) then
    (bif decide (v1 < v4) then
     (K (-1))
     else (K 1))
    else (let j30 : Bool → Option R := fun v7 =>
     (bif v7 then
      (c_ref1_SetLess v2 v5 (fun v8 =>
        bif v8 then
        (K (-1))
        else (K 1)))
      else (l_10 v1 v2 v3 v4 v5 v6
       (fun v17 v18 v19 v20 v21 v22 v23 =>
        K v17)
       (fun v24 v25 v26 v27 v28 v29 =>
        bif decide ((v26.length : Int) < (v29.length : Int)) then
        (K (-1))
        else (bif decide ((v29.length : Int) < (v26.length : Int)) then
         (K 1)
         else (K 0))) 0))
     (bif decide (v1 = 3) then
      (j30 (!(decide (v2 = v5))))
      else (j30 false)))
def ref5_Compare_l10 {R : Type} (c_self : T3 R) (kf : Nat) : Nat → Int → LI → (List (Rose (Int × (LI × Unit)))) → Int → LI → (List (Rose (Int × (LI × Unit)))) → (Int → Int → LI → (List (Rose (Int × (LI × Unit)))) → Int → LI → (List (Rose (Int × (LI × Unit)))) → Option R) → (Int → LI → (List (Rose (Int × (LI × Unit)))) → Int → LI → (List (Rose (Int × (LI × Unit)))) → Option R) → Int → Option R
  | 0, _, _, _, _, _, _, _, _, _ => none
  | k + 1, y0, y1, y2, y3, y4, y5, y6, y7, y8 => ref5_Compare_l10_b (ref1_SetLess kf) c_self (ref5_Compare_l10 c_self kf k) y0 y1 y2 y3 y4 y5 y6 y7 y8
def ref5_Compare {R : Type} : Nat → Int → LI → (List (Rose (Int × (LI × Unit)))) → Int → LI → (List (Rose (Int × (LI × Unit)))) → (Int → Option R) → Option R
  | 0, _, _, _, _, _, _, _ => none
  | kf + 1, y0, y1, y2, y3, y4, y5, y6 => ref5_Compare_b (ref1_SetLess kf) (ref5_Compare kf) (ref5_Compare_l10 (ref5_Compare kf) kf kf) y0 y1 y2 y3 y4 y5 y6
def ref5_Equal_b {R : Type} (c_ref5_Compare : T3 R) (v1 : Int) (v2 : LI) (v3 : (List (Rose (Int × (LI × Unit))))) (v4 : Int) (v5 : LI) (v6 : (List (Rose (Int × (LI × Unit))))) (K : Bool → Option R) : Option R :=
    c_ref5_Compare v1 v2 v3 v4 v5 v6 (fun v7 =>
     K (decide (v7 = 0)))
def ref5_Equal {R : Type} (kf : Nat) (v1 : Int) (v2 : LI) (v3 : (List (Rose (Int × (LI × Unit))))) (v4 : Int) (v5 : LI) (v6 : (List (Rose (Int × (LI × Unit))))) (K : Bool → Option R) : Option R := ref5_Equal_b (ref5_Compare kf) v1 v2 v3 v4 v5 v6 K
def ref5_insert_l2_b {R : Type} (c_ref5_Compare : T3 R) (c_ref5_Equal : T7 R) (l_2 : T32 R) (v5 : (List (Rose (Int × (LI × Unit))))) (v7 : Int) (v8 : LI) (v9 : (List (Rose (Int × (LI × Unit))))) (Ke0 : (List (Rose (Int × (LI × Unit)))) → Int → Int → LI → (List (Rose (Int × (LI × Unit)))) → Option R) (v6 : Int) : Option R :=
    bif decide (v6 < (v5.length : Int)) then
    (gd (decide (0 ≤ v6))
     (gd (decide (v6 < (v5.length : Int)))
      (c_ref5_Compare ((Rose.lab (v5.getD (Int.toNat v6) (Rose.node ((0 : Int), ((List.replicate 4 (0 : Int)), ())) [] : (Rose (Int × (LI × Unit)))))).1) ((Rose.lab (v5.getD (Int.toNat v6) (Rose.node ((0 : Int), ((List.replicate 4 (0 : Int)), ())) [] : (Rose (Int × (LI × Unit)))))).2.1) (Rose.kids (v5.getD (Int.toNat v6) (Rose.node ((0 : Int), ((List.replicate 4 (0 : Int)), ())) [] : (Rose (Int × (LI × Unit)))))) v7 v8 v9 (fun v10 =>
        bif decide (v10 < 0) then
        (l_2 v5 v7 v8 v9 Ke0 (IntKind.i64.wrap (v6 + 1)))
        else (Ke0 v5 v6 v7 v8 v9)))))
    else (Ke0 v5 v6 v7 v8 v9)
def ref5_insert_b {R : Type} (c_ref5_Compare : T3 R) (c_ref5_Equal : T7 R) (l_2 : T32 R) (v1 : (List (Rose (Int × (LI × Unit))))) (v2 : Int) (v3 : LI) (v4 : (List (Rose (Int × (LI × Unit))))) (K : T52 R) : Option R :=
    l_2 v1 v2 v3 v4
    (fun v11 v12 v13 v14 v15 =>
     let j17 : Bool → Option R := fun v16 =>
     (bif v16 then
      (K v11)
      else (gd (decide (0 ≤ v12))
       (gd (decide (v12 ≤ (v11.length : Int)))
        (gd (decide (([] : List (Rose (Int × (LI × Unit)))).length + (v11.take (Int.toNat v12)).length < SMALL))
         (gd (decide ((([] : List (Rose (Int × (LI × Unit)))) ++ (v11.take (Int.toNat v12))).length + ([(Rose.node (v13, v14, ()) v15)] : List (Rose (Int × (LI × Unit)))).length < SMALL))
          (gd (decide (0 ≤ v12))
           (gd (decide (v12 ≤ (v11.length : Int)))
            (gd (decide (((([] : List (Rose (Int × (LI × Unit)))) ++ (v11.take (Int.toNat v12))) ++ ([(Rose.node (v13, v14, ()) v15)] : List (Rose (Int × (LI × Unit))))).length + (v11.drop (Int.toNat v12)).length < SMALL))
             (K (((([] : List (Rose (Int × (LI × Unit)))) ++ (v11.take (Int.toNat v12))) ++ ([(Rose.node (v13, v14, ()) v15)] : List (Rose (Int × (LI × Unit))))) ++ (v11.drop (Int.toNat v12))))))))))))
     (bif decide (v12 < (v11.length : Int)) then
      (gd (decide (0 ≤ v12))
       (gd (decide (v12 < (v11.length : Int)))
        (c_ref5_Equal ((Rose.lab (v11.getD (Int.toNat v12) (Rose.node ((0 : Int), ((List.replicate 4 (0 : Int)), ())) [] : (Rose (Int × (LI × Unit)))))).1) ((Rose.lab (v11.getD (Int.toNat v12) (Rose.node ((0 : Int), ((List.replicate 4 (0 : Int)), ())) [] : (Rose (Int × (LI × Unit)))))).2.1) (Rose.kids (v11.getD (Int.toNat v12) (Rose.node ((0 : Int), ((List.replicate 4 (0 : Int)), ())) [] : (Rose (Int × (LI × Unit)))))) v13 v14 v15 (fun v18 =>
          j17 v18))))
      else (j17 false))) 0
def ref5_insert_l2 {R : Type} (kf : Nat) : Nat → (List (Rose (Int × (LI × Unit)))) → Int → LI → (List (Rose (Int × (LI × Unit)))) → ((List (Rose (Int × (LI × Unit)))) → Int → Int → LI → (List (Rose (Int × (LI × Unit)))) → Option R) → Int → Option R
  | 0, _, _, _, _, _, _ => none
  | k + 1, y0, y1, y2, y3, y4, y5 => ref5_insert_l2_b (ref5_Compare kf) (ref5_Equal kf) (ref5_insert_l2 kf k) y0 y1 y2 y3 y4 y5
def ref5_insert {R : Type} (kf : Nat) (v1 : (List (Rose (Int × (LI × Unit))))) (v2 : Int) (v3 : LI) (v4 : (List (Rose (Int × (LI × Unit))))) (K : T52 R) : Option R := ref5_insert_b (ref5_Compare kf) (ref5_Equal kf) (ref5_insert_l2 kf kf) v1 v2 v3 v4 K
def ref5_Alt_l5_b {R : Type} (c_ref5_flat : T13 R) (c_ref1_Or : T22 R) (c_ref5_Copy : T1 R) (c_ref5_insert : T23 R) (c_ref5_Bytes : T19 R) (c_ref5_None : T4 R) (l_5 : T33 R) (v5 : Int) (v6 : LI) (v8 : (List (Rose (Int × (LI × Unit))))) (v9 : (List (Rose (Int × (LI × Unit))))) (Ke0 : (List (Rose (Int × (LI × Unit)))) → Int → LI → LI → (List (Rose (Int × (LI × Unit)))) → Option R) (v3 : (List (Rose (Int × (LI × Unit))))) (v4 : Int) (v7 : LI) : Option R :=
    bif decide (v4 < (v8.length : Int)) then
    (gd (decide (0 ≤ v4))
     (gd (decide (v4 < (v8.length : Int)))
      (bif decide ((Rose.lab (v8.getD (Int.toNat v4) (Rose.node ((0 : Int), ((List.replicate 4 (0 : Int)), ())) [] : (Rose (Int × (LI × Unit)))))).1 = 1) then
       (l_5 v5 v6 v8 v9 Ke0 v3 (IntKind.i64.wrap (v4 + 1)) v7)
       else (bif decide ((Rose.lab (v8.getD (Int.toNat v4) (Rose.node ((0 : Int), ((List.replicate 4 (0 : Int)), ())) [] : (Rose (Int × (LI × Unit)))))).1 = 3) then
        (gd (decide (0 ≤ v4))
         (gd (decide (v4 < (v8.length : Int)))
          (c_ref1_Or v7 ((Rose.lab (v8.getD (Int.toNat v4) (Rose.node ((0 : Int), ((List.replicate 4 (0 : Int)), ())) [] : (Rose (Int × (LI × Unit)))))).2.1) (fun v10 =>
            l_5 v5 v6 v8 v9 Ke0 v3 (IntKind.i64.wrap (v4 + 1)) v10))))
        else (gd (decide (0 ≤ v4))
         (gd (decide (v4 < (v8.length : Int)))
          (c_ref5_Copy ((Rose.lab (v8.getD (Int.toNat v4) (Rose.node ((0 : Int), ((List.replicate 4 (0 : Int)), ())) [] : (Rose (Int × (LI × Unit)))))).1) ((Rose.lab (v8.getD (Int.toNat v4) (Rose.node ((0 : Int), ((List.replicate 4 (0 : Int)), ())) [] : (Rose (Int × (LI × Unit)))))).2.1) (Rose.kids (v8.getD (Int.toNat v4) (Rose.node ((0 : Int), ((List.replicate 4 (0 : Int)), ())) [] : (Rose (Int × (LI × Unit)))))) (fun v11 v12 v13 =>
            c_ref5_insert v3 v11 v12 v13 (fun v14 =>
             l_5 v5 v6 v8 v9 Ke0 v14 (IntKind.i64.wrap (v4 + 1)) v7)))))))))
    else (Ke0 v3 v5 v6 v7 v9)
def ref5_Alt_b {R : Type} (c_ref5_flat : T13 R) (c_ref1_Or : T22 R) (c_ref5_Copy : T1 R) (c_ref5_insert : T23 R) (c_ref5_Bytes : T19 R) (c_ref5_None : T4 R) (l_5 : T33 R) (v1 : (List (Rose (Int × (LI × Unit))))) (K : T20 R) : Option R :=
    c_ref5_flat 5 v1 (fun v2 =>
     l_5 0 (List.replicate 4 (0 : Int)) v2 ([] : List (Rose (Int × (LI × Unit))))
     (fun v15 v16 v17 v18 v19 =>
      let j24 : (List (Rose (Int × (LI × Unit)))) → Option R := fun v20 =>
      (bif decide ((v20.length : Int) = 0) then
       (c_ref5_None (fun v21 v22 v23 =>
         K v21 v22 v23))
       else (bif decide ((v20.length : Int) = 1) then
        (gd (decide (0 < (v20.length : Int)))
         (K ((Rose.lab (v20.getD 0 (Rose.node ((0 : Int), ((List.replicate 4 (0 : Int)), ())) [] : (Rose (Int × (LI × Unit)))))).1) ((Rose.lab (v20.getD 0 (Rose.node ((0 : Int), ((List.replicate 4 (0 : Int)), ())) [] : (Rose (Int × (LI × Unit)))))).2.1) (Rose.kids (v20.getD 0 (Rose.node ((0 : Int), ((List.replicate 4 (0 : Int)), ())) [] : (Rose (Int × (LI × Unit))))))))
        else (K 5 (List.replicate 4 (0 : Int)) v20)))
      (bif (!(decide (v18 = (List.replicate 4 (0 : Int))))) then
       (c_ref5_Bytes v18 (fun v25 v26 v27 =>
         c_ref5_insert v15 v25 v26 v27 (fun v28 =>
          j24 v28)))
       else (j24 v15))) ([] : (List (Rose (Int × (LI × Unit))))) 0 (List.replicate 4 (0 : Int)))
def ref5_Alt_l5 {R : Type} (kf : Nat) : Nat → Int → LI → (List (Rose (Int × (LI × Unit)))) → (List (Rose (Int × (LI × Unit)))) → ((List (Rose (Int × (LI × Unit)))) → Int → LI → LI → (List (Rose (Int × (LI × Unit)))) → Option R) → (List (Rose (Int × (LI × Unit)))) → Int → LI → Option R
  | 0, _, _, _, _, _, _, _, _ => none
  | k + 1, y0, y1, y2, y3, y4, y5, y6, y7 => ref5_Alt_l5_b (ref5_flat kf) (ref1_Or kf) (ref5_Copy kf) (ref5_insert kf) ref5_Bytes ref5_None (ref5_Alt_l5 kf k) y0 y1 y2 y3 y4 y5 y6 y7
def ref5_Alt {R : Type} (kf : Nat) (v1 : (List (Rose (Int × (LI × Unit))))) (K : T20 R) : Option R := ref5_Alt_b (ref5_flat kf) (ref1_Or kf) (ref5_Copy kf) (ref5_insert kf) ref5_Bytes ref5_None (ref5_Alt_l5 kf kf) v1 K
def ref5_Star_l10_b {R : Type} (c_ref5_Copy : T1 R) (c_ref5_Empty : T4 R) (c_ref5_Alt : T10 R) (c_ref5_Star : T1 R) (l_10 : T14 R) (v12 : Int) (v13 : LI) (v14 : (List (Rose (Int × (LI × Unit))))) (v15 : Int) (v16 : LI) (v18 : (List (Rose (Int × (LI × Unit))))) (Ke1 : Int → LI → (List (Rose (Int × (LI × Unit)))) → Int → LI → (List (Rose (Int × (LI × Unit)))) → (List (Rose (Int × (LI × Unit)))) → Option R) (v11 : Int) (v17 : (List (Rose (Int × (LI × Unit))))) : Option R :=
    bif decide (v11 < (v14.length : Int)) then
    (gd (decide (0 ≤ v11))
     (gd (decide (v11 < (v14.length : Int)))
      (bif (!(decide ((Rose.lab (v14.getD (Int.toNat v11) (Rose.node ((0 : Int), ((List.replicate 4 (0 : Int)), ())) [] : (Rose (Int × (LI × Unit)))))).1 = 2))) then
       (gd (decide (0 ≤ v11))
        (gd (decide (v11 < (v14.length : Int)))
         (gd (decide (v17.length + ([(Rose.node ((Rose.lab (v14.getD (Int.toNat v11) (Rose.node ((0 : Int), ((List.replicate 4 (0 : Int)), ())) [] : (Rose (Int × (LI × Unit)))))).1, (Rose.lab (v14.getD (Int.toNat v11) (Rose.node ((0 : Int), ((List.replicate 4 (0 : Int)), ())) [] : (Rose (Int × (LI × Unit)))))).2.1, ()) (Rose.kids (v14.getD (Int.toNat v11) (Rose.node ((0 : Int), ((List.replicate 4 (0 : Int)), ())) [] : (Rose (Int × (LI × Unit)))))))] : List (Rose (Int × (LI × Unit)))).length < SMALL))
          (l_10 v12 v13 v14 v15 v16 v18 Ke1 (IntKind.i64.wrap (v11 + 1)) (v17 ++ ([(Rose.node ((Rose.lab (v14.getD (Int.toNat v11) (Rose.node ((0 : Int), ((List.replicate 4 (0 : Int)), ())) [] : (Rose (Int × (LI × Unit)))))).1, (Rose.lab (v14.getD (Int.toNat v11) (Rose.node ((0 : Int), ((List.replicate 4 (0 : Int)), ())) [] : (Rose (Int × (LI × Unit)))))).2.1, ()) (Rose.kids (v14.getD (Int.toNat v11) (Rose.node ((0 : Int), ((List.replicate 4 (0 : Int)), ())) [] : (Rose (Int × (LI × Unit)))))))] : List (Rose (Int × (LI × Unit)))))))))
       else (l_10 v12 v13 v14 v15 v16 v18 Ke1 (IntKind.i64.wrap (v11 + 1)) v17))))
    else (Ke1 v12 v13 v14 v15 v16 v17 v18)
def ref5_Star_b {R : Type} (c_ref5_Copy : T1 R) (c_ref5_Empty : T4 R) (c_ref5_Alt : T10 R) (c_ref5_Star : T1 R) (l_10 : T14 R) (v1 : Int) (v2 : LI) (v3 : (List (Rose (Int × (LI × Unit))))) (K : T20 R) : Option R :=
    bif decide (v1 = 6) then
    (c_ref5_Copy v1 v2 v3 (fun v4 v5 v6 =>
      K v4 v5 v6))
    else (let j38 : Bool → Option R := fun v7 =>
     (bif v7 then
      (c_ref5_Empty (fun v8 v9 v10 =>
        K v8 v9 v10))
      else (bif decide (v1 = 5) then
       (l_10 v1 v2 v3 0 (List.replicate 4 (0 : Int)) ([] : List (Rose (Int × (LI × Unit))))
        (fun v19 v20 v21 v22 v23 v24 v25 =>
         bif decide ((v24.length : Int) < (v21.length : Int)) then
         (c_ref5_Alt v24 (fun v26 v27 v28 =>
           c_ref5_Star v26 v27 v28 (fun v29 v30 v31 =>
            K v29 v30 v31)))
         else (c_ref5_Copy v19 v20 v21 (fun v32 v33 v34 =>
           K 6 (List.replicate 4 (0 : Int)) ([(Rose.node (v32, v33, ()) v34)] : List (Rose (Int × (LI × Unit))))))) 0 ([] : List (Rose (Int × (LI × Unit)))))
       else (c_ref5_Copy v1 v2 v3 (fun v35 v36 v37 =>
         K 6 (List.replicate 4 (0 : Int)) ([(Rose.node (v35, v36, ()) v37)] : List (Rose (Int × (LI × Unit))))))))
     (bif decide (v1 = 1) then
      (j38 (decide (v1 = 1)))
      else (j38 (decide (v1 = 2)))))
def ref5_Star_l10 {R : Type} (c_self : T1 R) (kf : Nat) : Nat → Int → LI → (List (Rose (Int × (LI × Unit)))) → Int → LI → (List (Rose (Int × (LI × Unit)))) → (Int → LI → (List (Rose (Int × (LI × Unit)))) → Int → LI → (List (Rose (Int × (LI × Unit)))) → (List (Rose (Int × (LI × Unit)))) → Option R) → Int → (List (Rose (Int × (LI × Unit)))) → Option R
  | 0, _, _, _, _, _, _, _, _, _ => none
  | k + 1, y0, y1, y2, y3, y4, y5, y6, y7, y8 => ref5_Star_l10_b (ref5_Copy kf) ref5_Empty (ref5_Alt kf) c_self (ref5_Star_l10 c_self kf k) y0 y1 y2 y3 y4 y5 y6 y7 y8
def ref5_Star {R : Type} : Nat → Int → LI → (List (Rose (Int × (LI × Unit)))) → (Int → LI → (List (Rose (Int × (LI × Unit)))) → Option R) → Option R
  | 0, _, _, _, _ => none
  | kf + 1, y0, y1, y2, y3 => ref5_Star_b (ref5_Copy kf) ref5_Empty (ref5_Alt kf) (ref5_Star kf) (ref5_Star_l10 (ref5_Star kf) kf kf) y0 y1 y2 y3
def slices_Index_int_int_l2_b {R : Type} (l_2 : T34 R) (v3 : LI) (v4 : Int) (v5 : Int) (Kr : Int → Option R) (Ke0 : Option R) (v6 : Int) : Option R :=
    bif decide (v6 < v5) then
    (gd (decide (0 ≤ v6))
     (gd (decide (v6 < (v3.length : Int)))
      (bif decide (v4 = (v3.getD (Int.toNat v6) (0 : Int))) then
       (Kr v6)
       else (l_2 v3 v4 v5 Kr Ke0 (IntKind.i64.wrap (v6 + 1))))))
    else (Ke0)
def slices_Index_int_int_b {R : Type} (l_2 : T34 R) (v1 : LI) (v2 : Int) (K : Int → Option R) : Option R :=
    l_2 v1 v2 (v1.length : Int)
    (fun v7 =>
     K v7)
    (K (-1)) 0
def slices_Index_int_int_l2 {R : Type} (kf : Nat) : Nat → LI → Int → Int → (Int → Option R) → (Option R) → Int → Option R
  | 0, _, _, _, _, _, _ => none
  | k + 1, y0, y1, y2, y3, y4, y5 => slices_Index_int_int_l2_b (slices_Index_int_int_l2 kf k) y0 y1 y2 y3 y4 y5
def slices_Index_int_int {R : Type} (kf : Nat) (v1 : LI) (v2 : Int) (K : Int → Option R) : Option R := slices_Index_int_int_b (slices_Index_int_int_l2 kf kf) v1 v2 K
def slices_Contains_int_int_b {R : Type} (c_slices_Index_int_int : T35 R) (v1 : LI) (v2 : Int) (K : Bool → Option R) : Option R :=
    c_slices_Index_int_int v1 v2 (fun v3 =>
     K (decide (0 ≤ v3)))
def slices_Contains_int_int {R : Type} (kf : Nat) (v1 : LI) (v2 : Int) (K : Bool → Option R) : Option R := slices_Contains_int_int_b (slices_Index_int_int kf) v1 v2 K
def rx_bad_1_b {R : Type} (c_slices_Contains_int_int : T2 R) (v1 : Int) (v2 : LI) (v3 : (List (Rose (Int × (LI × Unit))))) (v4 : LI) (K : Bool → LI → Option R) : Option R :=
    c_slices_Contains_int_int v4 v1 (fun v5 =>
     K v5 v4)
def rx_bad_1 {R : Type} (kf : Nat) (v1 : Int) (v2 : LI) (v3 : (List (Rose (Int × (LI × Unit))))) (v4 : LI) (K : Bool → LI → Option R) : Option R := rx_bad_1_b (slices_Contains_int_int kf) v1 v2 v3 v4 K
def slices_IndexFunc_api_Rx_api_Rx_l2_b {R : Type} (c_rx_bad_1 : T24 R) (l_2 : T36 R) (v3 : (List (Rose (Int × (LI × Unit))))) (v4 : Int) (Kr : Int → LI → Option R) (Ke0 : LI → Option R) (v5 : Int) (v6 : LI) : Option R :=
    bif decide (v5 < v4) then
    (gd (decide (0 ≤ v5))
     (gd (decide (v5 < (v3.length : Int)))
      (c_rx_bad_1 ((Rose.lab (v3.getD (Int.toNat v5) (Rose.node ((0 : Int), ((List.replicate 4 (0 : Int)), ())) [] : (Rose (Int × (LI × Unit)))))).1) ((Rose.lab (v3.getD (Int.toNat v5) (Rose.node ((0 : Int), ((List.replicate 4 (0 : Int)), ())) [] : (Rose (Int × (LI × Unit)))))).2.1) (Rose.kids (v3.getD (Int.toNat v5) (Rose.node ((0 : Int), ((List.replicate 4 (0 : Int)), ())) [] : (Rose (Int × (LI × Unit)))))) v6 (fun v7 v8 =>
        bif v7 then
        (Kr v5 v8)
        else (l_2 v3 v4 Kr Ke0 (IntKind.i64.wrap (v5 + 1)) v8)))))
    else (Ke0 v6)
def slices_IndexFunc_api_Rx_api_Rx_b {R : Type} (c_rx_bad_1 : T24 R) (l_2 : T36 R) (v1 : (List (Rose (Int × (LI × Unit))))) (v2 : LI) (K : Int → LI → Option R) : Option R :=
    l_2 v1 (v1.length : Int)
    (fun v9 v10 =>
     K v9 v10)
    (fun v11 =>
     K (-1) v11) 0 v2
def slices_IndexFunc_api_Rx_api_Rx_l2 {R : Type} (kf : Nat) : Nat → (List (Rose (Int × (LI × Unit)))) → Int → (Int → LI → Option R) → (LI → Option R) → Int → LI → Option R
  | 0, _, _, _, _, _, _ => none
  | k + 1, y0, y1, y2, y3, y4, y5 => slices_IndexFunc_api_Rx_api_Rx_l2_b (rx_bad_1 kf) (slices_IndexFunc_api_Rx_api_Rx_l2 kf k) y0 y1 y2 y3 y4 y5
def slices_IndexFunc_api_Rx_api_Rx {R : Type} (kf : Nat) (v1 : (List (Rose (Int × (LI × Unit))))) (v2 : LI) (K : Int → LI → Option R) : Option R := slices_IndexFunc_api_Rx_api_Rx_b (rx_bad_1 kf) (slices_IndexFunc_api_Rx_api_Rx_l2 kf kf) v1 v2 K
def slices_ContainsFunc_api_Rx_api_Rx_b {R : Type} (c_slices_IndexFunc_api_Rx_api_Rx : T37 R) (v1 : (List (Rose (Int × (LI × Unit))))) (v2 : LI) (K : Bool → LI → Option R) : Option R :=
    c_slices_IndexFunc_api_Rx_api_Rx v1 v2 (fun v3 v4 =>
     K (decide (0 ≤ v3)) v4)
def slices_ContainsFunc_api_Rx_api_Rx {R : Type} (kf : Nat) (v1 : (List (Rose (Int × (LI × Unit))))) (v2 : LI) (K : Bool → LI → Option R) : Option R := slices_ContainsFunc_api_Rx_api_Rx_b (slices_IndexFunc_api_Rx_api_Rx kf) v1 v2 K
def rx_bad_b {R : Type} (c_slices_ContainsFunc_api_Rx_api_Rx : T38 R) (v1 : (List (Rose (Int × (LI × Unit))))) (v2 : LI) (K : Bool → Option R) : Option R :=
    c_slices_ContainsFunc_api_Rx_api_Rx v1 v2 (fun v3 v4 =>
     K v3)
def rx_bad {R : Type} (kf : Nat) (v1 : (List (Rose (Int × (LI × Unit))))) (v2 : LI) (K : Bool → Option R) : Option R := rx_bad_b (slices_ContainsFunc_api_Rx_api_Rx kf) v1 v2 K
def rx_isSet_b {R : Type} (v1 : Int) (v2 : LI) (v3 : (List (Rose (Int × (LI × Unit))))) (K : Bool → Option R) : Option R :=
    K (decide (v1 = 3))
def rx_isSet {R : Type} (v1 : Int) (v2 : LI) (v3 : (List (Rose (Int × (LI × Unit))))) (K : Bool → Option R) : Option R := rx_isSet_b v1 v2 v3 K
def cmp_isNaN_int_b {R : Type} (v1 : Int) (K : Bool → Option R) : Option R :=
    K (!(decide (v1 = v1)))
def cmp_isNaN_int {R : Type} (v1 : Int) (K : Bool → Option R) : Option R := cmp_isNaN_int_b v1 K
def cmp_Compare_int_b {R : Type} (c_cmp_isNaN_int : Int → (Bool → Option R) → Option R) (v1 : Int) (v2 : Int) (K : Int → Option R) : Option R :=
    c_cmp_isNaN_int v1 (fun v3 =>
     c_cmp_isNaN_int v2 (fun v4 =>
      bif v3 then
      (bif v4 then
       (K 0)
       else (K (-1)))
      else (bif v4 then
       (K 1)
       else (bif decide (v1 < v2) then
        (K (-1))
        else (bif decide (v2 < v1) then
         (K 1)
         else (K 0))))))
def cmp_Compare_int {R : Type} (v1 : Int) (v2 : Int) (K : Int → Option R) : Option R := cmp_Compare_int_b cmp_isNaN_int v1 v2 K
def math_bits_TrailingZeros64_b {R : Type} (v1 : Int) (K : Int → Option R) : Option R :=
    bif decide (v1 = 0) then
    (K 64)
    else (gd (decide (0 ≤ (shr .u64 (IntKind.u64.wrap (mulZ (bvop .u64 .and v1 (IntKind.u64.wrap (0 - v1))) 285870213051353865)) 58)))
     (gd (decide ((shr .u64 (IntKind.u64.wrap (mulZ (bvop .u64 .and v1 (IntKind.u64.wrap (0 - v1))) 285870213051353865)) 58) < 64))
      (let v2 : Int := (IntKind.i64.wrap (deBruijn.getD (Int.toNat (shr .u64 (IntKind.u64.wrap (mulZ (bvop .u64 .and v1 (IntKind.u64.wrap (0 - v1))) 285870213051353865)) 58)) (0 : Int)))
       K v2)))
def math_bits_TrailingZeros64 {R : Type} (v1 : Int) (K : Int → Option R) : Option R := math_bits_TrailingZeros64_b v1 K
def byteset_Less_l2_b {R : Type} (c_math_bits_TrailingZeros64 : Int → (Int → Option R) → Option R) (l_2 : T16 R) (v4 : LI) (v5 : LI) (Kr : Bool → Option R) (Ke0 : Option R) (v3 : Int) : Option R :=
    bif decide (v3 < 4) then
    (gd (decide (0 ≤ v3))
     (gd (decide (v3 < 4))
      (gd (decide (0 ≤ v3))
       (gd (decide (v3 < 4))
        (let v6 : Int := (bvop .u64 .xor (v4.getD (Int.toNat v3) (0 : Int)) (v5.getD (Int.toNat v3) (0 : Int)))
         bif (!(decide (v6 = 0))) then
         (gd (decide (0 ≤ v3))
          (gd (decide (v3 < 4))
           (c_math_bits_TrailingZeros64 v6 (fun v7 =>
             gd (decide (0 ≤ v7))
             (Kr (decide ((bvop .u64 .and (shr .u64 (v4.getD (Int.toNat v3) (0 : Int)) v7) 1) = 1)))))))
         else (l_2 v4 v5 Kr Ke0 (IntKind.i64.wrap (v3 + 1))))))))
    else (Ke0)
def byteset_Less_b {R : Type} (c_math_bits_TrailingZeros64 : Int → (Int → Option R) → Option R) (l_2 : T16 R) (v1 : LI) (v2 : LI) (K : Bool → Option R) : Option R :=
    l_2 v1 v2
    (fun v8 =>
     K v8)
    (K false) 0
def byteset_Less_l2 {R : Type} (kf : Nat) : Nat → LI → LI → (Bool → Option R) → (Option R) → Int → Option R
  | 0, _, _, _, _, _ => none
  | k + 1, y0, y1, y2, y3, y4 => byteset_Less_l2_b math_bits_TrailingZeros64 (byteset_Less_l2 kf k) y0 y1 y2 y3 y4
def byteset_Less {R : Type} (kf : Nat) (v1 : LI) (v2 : LI) (K : Bool → Option R) : Option R := byteset_Less_b math_bits_TrailingZeros64 (byteset_Less_l2 kf kf) v1 v2 K
def slices_CompareFunc_api_Rx_api_Rx_api_Rx_api_Rx_l2_b {R : Type} (c_rx_Compare : T3 R) (l_2 : T39 R) (v3 : (List (Rose (Int × (LI × Unit))))) (v4 : (List (Rose (Int × (LI × Unit))))) (v5 : (List (Rose (Int × (LI × Unit))))) (v6 : Int) (Kr : (List (Rose (Int × (LI × Unit)))) → (List (Rose (Int × (LI × Unit)))) → Int → Option R) (Ke0 : (List (Rose (Int × (LI × Unit)))) → (List (Rose (Int × (LI × Unit)))) → Option R) (v7 : Int) : Option R :=
    bif decide (v7 < v6) then
    (gd (decide (0 ≤ v7))
     (gd (decide (v7 < (v5.length : Int)))
      (bif decide ((v4.length : Int) ≤ v7) then
       (Kr v3 v4 1)
       else (gd (decide (0 ≤ v7))
        (gd (decide (v7 < (v4.length : Int)))
         (c_rx_Compare ((Rose.lab (v5.getD (Int.toNat v7) (Rose.node ((0 : Int), ((List.replicate 4 (0 : Int)), ())) [] : (Rose (Int × (LI × Unit)))))).1) ((Rose.lab (v5.getD (Int.toNat v7) (Rose.node ((0 : Int), ((List.replicate 4 (0 : Int)), ())) [] : (Rose (Int × (LI × Unit)))))).2.1) (Rose.kids (v5.getD (Int.toNat v7) (Rose.node ((0 : Int), ((List.replicate 4 (0 : Int)), ())) [] : (Rose (Int × (LI × Unit)))))) ((Rose.lab (v4.getD (Int.toNat v7) (Rose.node ((0 : Int), ((List.replicate 4 (0 : Int)), ())) [] : (Rose (Int × (LI × Unit)))))).1) ((Rose.lab (v4.getD (Int.toNat v7) (Rose.node ((0 : Int), ((List.replicate 4 (0 : Int)), ())) [] : (Rose (Int × (LI × Unit)))))).2.1) (Rose.kids (v4.getD (Int.toNat v7) (Rose.node ((0 : Int), ((List.replicate 4 (0 : Int)), ())) [] : (Rose (Int × (LI × Unit)))))) (fun v8 =>
           bif (!(decide (v8 = 0))) then
           (Kr v3 v4 v8)
           else (l_2 v3 v4 v5 v6 Kr Ke0 (IntKind.i64.wrap (v7 + 1))))))))))
    else (Ke0 v3 v4)
def slices_CompareFunc_api_Rx_api_Rx_api_Rx_api_Rx_b {R : Type} (c_rx_Compare : T3 R) (l_2 : T39 R) (v1 : (List (Rose (Int × (LI × Unit))))) (v2 : (List (Rose (Int × (LI × Unit))))) (K : Int → Option R) : Option R :=
    l_2 v1 v2 v1 (v1.length : Int)
    (fun v9 v10 v11 =>
     K v11)
    (fun v12 v13 =>
     bif decide ((v12.length : Int) < (v13.length : Int)) then
     (K (-1))
     else (K 0)) 0
def slices_CompareFunc_api_Rx_api_Rx_api_Rx_api_Rx_l2 {R : Type} (c_rx_Compare : T3 R) (kf : Nat) : Nat → (List (Rose (Int × (LI × Unit)))) → (List (Rose (Int × (LI × Unit)))) → (List (Rose (Int × (LI × Unit)))) → Int → ((List (Rose (Int × (LI × Unit)))) → (List (Rose (Int × (LI × Unit)))) → Int → Option R) → ((List (Rose (Int × (LI × Unit)))) → (List (Rose (Int × (LI × Unit)))) → Option R) → Int → Option R
  | 0, _, _, _, _, _, _, _ => none
  | k + 1, y0, y1, y2, y3, y4, y5, y6 => slices_CompareFunc_api_Rx_api_Rx_api_Rx_api_Rx_l2_b c_rx_Compare (slices_CompareFunc_api_Rx_api_Rx_api_Rx_api_Rx_l2 c_rx_Compare kf k) y0 y1 y2 y3 y4 y5 y6
def slices_CompareFunc_api_Rx_api_Rx_api_Rx_api_Rx {R : Type} (c_rx_Compare : T3 R) (kf : Nat) (v1 : (List (Rose (Int × (LI × Unit))))) (v2 : (List (Rose (Int × (LI × Unit))))) (K : Int → Option R) : Option R := slices_CompareFunc_api_Rx_api_Rx_api_Rx_api_Rx_b c_rx_Compare (slices_CompareFunc_api_Rx_api_Rx_api_Rx_api_Rx_l2 c_rx_Compare kf kf) v1 v2 K
def rx_Compare_b {R : Type} (c_cmp_Compare_int : T40 R) (c_byteset_Less : T12 R) (c_slices_CompareFunc_api_Rx_api_Rx_api_Rx_api_Rx : T41 R) (v1 : Int) (v2 : LI) (v3 : (List (Rose (Int × (LI × Unit))))) (v4 : Int) (v5 : LI) (v6 : (List (Rose (Int × (LI × Unit))))) (K : Int → Option R) : Option R :=
    c_cmp_Compare_int v1 v4 (fun v7 =>
     bif (!(decide (v7 = 0))) then
     (K v7)
     else (let j11 : Bool → Option R := fun v8 =>
      (bif v8 then
       (c_byteset_Less v2 v5 (fun v9 =>
         bif v9 then
         (K (-1))
         else (K 1)))
       else (c_slices_CompareFunc_api_Rx_api_Rx_api_Rx_api_Rx v3 v6 (fun v10 =>
         K v10)))
      (bif decide (v1 = 3) then
       (j11 (!(decide (v2 = v5))))
       else (j11 false))))
def rx_Compare {R : Type} : Nat → Int → LI → (List (Rose (Int × (LI × Unit)))) → Int → LI → (List (Rose (Int × (LI × Unit)))) → (Int → Option R) → Option R
  | 0, _, _, _, _, _, _, _ => none
  | kf + 1, y0, y1, y2, y3, y4, y5, y6 => rx_Compare_b cmp_Compare_int (byteset_Less kf) (slices_CompareFunc_api_Rx_api_Rx_api_Rx_api_Rx (rx_Compare kf) kf) y0 y1 y2 y3 y4 y5 y6
def rx_rising_l3_b {R : Type} (c_rx_isSet : T0 R) (c_rx_Compare : T3 R) (l_3 : T42 R) (v2 : (List (Rose (Int × (LI × Unit))))) (v4 : (List (Rose (Int × (LI × Unit))))) (v5 : Int) (Kr : Bool → Int → Option R) (Ke0 : Int → Option R) (v3 : Int) (v6 : Int) : Option R :=
    bif decide (v6 < v5) then
    (gd (decide (0 ≤ v6))
     (gd (decide (v6 < (v4.length : Int)))
      (let j11 : Int → Option R := fun v7 =>
       (let j9 : Bool → Option R := fun v8 =>
        (bif v8 then
         (Kr false v7)
         else (l_3 v2 v4 v5 Kr Ke0 v7 (IntKind.i64.wrap (v6 + 1))))
        (bif decide (0 < v6) then
         (gd (decide (0 ≤ (IntKind.i64.wrap (v6 - 1))))
          (gd (decide ((IntKind.i64.wrap (v6 - 1)) < (v2.length : Int)))
           (c_rx_Compare ((Rose.lab (v2.getD (Int.toNat (IntKind.i64.wrap (v6 - 1))) (Rose.node ((0 : Int), ((List.replicate 4 (0 : Int)), ())) [] : (Rose (Int × (LI × Unit)))))).1) ((Rose.lab (v2.getD (Int.toNat (IntKind.i64.wrap (v6 - 1))) (Rose.node ((0 : Int), ((List.replicate 4 (0 : Int)), ())) [] : (Rose (Int × (LI × Unit)))))).2.1) (Rose.kids (v2.getD (Int.toNat (IntKind.i64.wrap (v6 - 1))) (Rose.node ((0 : Int), ((List.replicate 4 (0 : Int)), ())) [] : (Rose (Int × (LI × Unit)))))) ((Rose.lab (v4.getD (Int.toNat v6) (Rose.node ((0 : Int), ((List.replicate 4 (0 : Int)), ())) [] : (Rose (Int × (LI × Unit)))))).1) ((Rose.lab (v4.getD (Int.toNat v6) (Rose.node ((0 : Int), ((List.replicate 4 (0 : Int)), ())) [] : (Rose (Int × (LI × Unit)))))).2.1) (Rose.kids (v4.getD (Int.toNat v6) (Rose.node ((0 : Int), ((List.replicate 4 (0 : Int)), ())) [] : (Rose (Int × (LI × Unit)))))) (fun v10 =>
             j9 (decide (0 ≤ v10))))))
         else (j9 false)))
       (c_rx_isSet ((Rose.lab (v4.getD (Int.toNat v6) (Rose.node ((0 : Int), ((List.replicate 4 (0 : Int)), ())) [] : (Rose (Int × (LI × Unit)))))).1) ((Rose.lab (v4.getD (Int.toNat v6) (Rose.node ((0 : Int), ((List.replicate 4 (0 : Int)), ())) [] : (Rose (Int × (LI × Unit)))))).2.1) (Rose.kids (v4.getD (Int.toNat v6) (Rose.node ((0 : Int), ((List.replicate 4 (0 : Int)), ())) [] : (Rose (Int × (LI × Unit)))))) (fun v12 =>
         bif v12 then
         (j11 (IntKind.i64.wrap (v3 + 1)))
         else (j11 v3))))))
    else (Ke0 v3)
def rx_rising_b {R : Type} (c_rx_isSet : T0 R) (c_rx_Compare : T3 R) (l_3 : T42 R) (v1 : (List (Rose (Int × (LI × Unit))))) (K : Bool → Option R) : Option R :=
    l_3 v1 v1 (v1.length : Int)
    (fun v13 v14 =>
     K v13)
    (fun v15 =>
     K (decide (v15 ≤ 1))) 0 0
def rx_rising_l3 {R : Type} (kf : Nat) : Nat → (List (Rose (Int × (LI × Unit)))) → (List (Rose (Int × (LI × Unit)))) → Int → (Bool → Int → Option R) → (Int → Option R) → Int → Int → Option R
  | 0, _, _, _, _, _, _, _ => none
  | k + 1, y0, y1, y2, y3, y4, y5, y6 => rx_rising_l3_b rx_isSet (rx_Compare kf) (rx_rising_l3 kf k) y0 y1 y2 y3 y4 y5 y6
def rx_rising {R : Type} (kf : Nat) (v1 : (List (Rose (Int × (LI × Unit))))) (K : Bool → Option R) : Option R := rx_rising_b rx_isSet (rx_Compare kf) (rx_rising_l3 kf kf) v1 K
def rx_Plain_1_b {R : Type} (c_rx_Plain : T0 R) (v1 : Int) (v2 : LI) (v3 : (List (Rose (Int × (LI × Unit))))) (K : Bool → Option R) : Option R :=
    c_rx_Plain v1 v2 v3 (fun v4 =>
     K (!v4))
def rx_Plain_1 {R : Type} (c_rx_Plain : T0 R) (kf : Nat) (v1 : Int) (v2 : LI) (v3 : (List (Rose (Int × (LI × Unit))))) (K : Bool → Option R) : Option R := rx_Plain_1_b c_rx_Plain v1 v2 v3 K
def slices_IndexFunc_api_Rx_api_Rx_s1_l2_b {R : Type} (c_rx_Plain_1 : T0 R) (l_2 : T43 R) (v2 : (List (Rose (Int × (LI × Unit))))) (v3 : Int) (Kr : Int → Option R) (Ke0 : Option R) (v4 : Int) : Option R :=
    bif decide (v4 < v3) then
    (gd (decide (0 ≤ v4))
     (gd (decide (v4 < (v2.length : Int)))
      (c_rx_Plain_1 ((Rose.lab (v2.getD (Int.toNat v4) (Rose.node ((0 : Int), ((List.replicate 4 (0 : Int)), ())) [] : (Rose (Int × (LI × Unit)))))).1) ((Rose.lab (v2.getD (Int.toNat v4) (Rose.node ((0 : Int), ((List.replicate 4 (0 : Int)), ())) [] : (Rose (Int × (LI × Unit)))))).2.1) (Rose.kids (v2.getD (Int.toNat v4) (Rose.node ((0 : Int), ((List.replicate 4 (0 : Int)), ())) [] : (Rose (Int × (LI × Unit)))))) (fun v5 =>
        bif v5 then
        (Kr v4)
        else (l_2 v2 v3 Kr Ke0 (IntKind.i64.wrap (v4 + 1)))))))
    else (Ke0)
def slices_IndexFunc_api_Rx_api_Rx_s1_b {R : Type} (c_rx_Plain_1 : T0 R) (l_2 : T43 R) (v1 : (List (Rose (Int × (LI × Unit))))) (K : Int → Option R) : Option R :=
    l_2 v1 (v1.length : Int)
    (fun v6 =>
     K v6)
    (K (-1)) 0
def slices_IndexFunc_api_Rx_api_Rx_s1_l2 {R : Type} (c_rx_Plain : T0 R) (kf : Nat) : Nat → (List (Rose (Int × (LI × Unit)))) → Int → (Int → Option R) → (Option R) → Int → Option R
  | 0, _, _, _, _, _ => none
  | k + 1, y0, y1, y2, y3, y4 => slices_IndexFunc_api_Rx_api_Rx_s1_l2_b (rx_Plain_1 c_rx_Plain kf) (slices_IndexFunc_api_Rx_api_Rx_s1_l2 c_rx_Plain kf k) y0 y1 y2 y3 y4
def slices_IndexFunc_api_Rx_api_Rx_s1 {R : Type} (c_rx_Plain : T0 R) (kf : Nat) (v1 : (List (Rose (Int × (LI × Unit))))) (K : Int → Option R) : Option R := slices_IndexFunc_api_Rx_api_Rx_s1_b (rx_Plain_1 c_rx_Plain kf) (slices_IndexFunc_api_Rx_api_Rx_s1_l2 c_rx_Plain kf kf) v1 K
def slices_ContainsFunc_api_Rx_api_Rx_s1_b {R : Type} (c_slices_IndexFunc_api_Rx_api_Rx_s1 : T44 R) (v1 : (List (Rose (Int × (LI × Unit))))) (K : Bool → Option R) : Option R :=
    c_slices_IndexFunc_api_Rx_api_Rx_s1 v1 (fun v2 =>
     K (decide (0 ≤ v2)))
def slices_ContainsFunc_api_Rx_api_Rx_s1 {R : Type} (c_rx_Plain : T0 R) (kf : Nat) (v1 : (List (Rose (Int × (LI × Unit))))) (K : Bool → Option R) : Option R := slices_ContainsFunc_api_Rx_api_Rx_s1_b (slices_IndexFunc_api_Rx_api_Rx_s1 c_rx_Plain kf) v1 K
def rx_Plain_b {R : Type} (c_rx_bad : T45 R) (c_rx_rising : T17 R) (c_slices_ContainsFunc_api_Rx_api_Rx_s1 : T17 R) (v1 : Int) (v2 : LI) (v3 : (List (Rose (Int × (LI × Unit))))) (K : Bool → Option R) : Option R :=
    let j6 : Bool → Option R := fun v4 =>
    (bif v4 then
     (c_slices_ContainsFunc_api_Rx_api_Rx_s1 v3 (fun v5 =>
       K (!v5)))
     else (K false))
    (let j12 : Bool → Option R := fun v7 =>
     (bif v7 then
      (bif decide (v2 = (List.replicate 4 (0 : Int))) then
       (j6 (decide ((v3.length : Int) = 0)))
       else (j6 false))
      else (bif decide (v1 = 3) then
       (bif (!(decide (v2 = (List.replicate 4 (0 : Int))))) then
        (j6 (decide ((v3.length : Int) = 0)))
        else (j6 false))
       else (bif decide (v1 = 4) then
        (bif decide (v2 = (List.replicate 4 (0 : Int))) then
         (bif decide (1 < (v3.length : Int)) then
          (c_rx_bad v3 ([4, 1, 2] : List Int) (fun v8 =>
            j6 (!v8)))
          else (j6 false))
         else (j6 false))
        else (bif decide (v1 = 5) then
         (bif decide (v2 = (List.replicate 4 (0 : Int))) then
          (bif decide (1 < (v3.length : Int)) then
           (c_rx_bad v3 ([5, 1] : List Int) (fun v9 =>
             bif (!v9) then
             (c_rx_rising v3 (fun v10 =>
               j6 v10))
             else (j6 false)))
           else (j6 false))
          else (j6 false))
         else (bif decide (v1 = 6) then
          (bif decide (v2 = (List.replicate 4 (0 : Int))) then
           (bif decide ((v3.length : Int) = 1) then
            (c_rx_bad v3 ([6, 1, 2] : List Int) (fun v11 =>
              j6 (!v11)))
            else (j6 false))
           else (j6 false))
          else (j6 false))))))
     (bif decide (v1 = 1) then
      (j12 (decide (v1 = 1)))
      else (j12 (decide (v1 = 2)))))
def rx_Plain {R : Type} : Nat → Int → LI → (List (Rose (Int × (LI × Unit)))) → (Bool → Option R) → Option R
  | 0, _, _, _, _ => none
  | kf + 1, y0, y1, y2, y3 => rx_Plain_b (rx_bad kf) (rx_rising kf) (slices_ContainsFunc_api_Rx_api_Rx_s1 (rx_Plain kf) kf) y0 y1 y2 y3
def show_writer_put_b {R : Type} (v1 : LI) (v2 : Bool) (v3 : LI) (K : Bool → LI → Option R) : Option R :=
    gd (decide (v3.length + v1.length < SMALL))
    (bif decide (4000 < ((v3 ++ v1).length : Int)) then
     (K true (v3 ++ v1))
     else (K v2 (v3 ++ v1)))
def show_writer_put {R : Type} (v1 : LI) (v2 : Bool) (v3 : LI) (K : Bool → LI → Option R) : Option R := show_writer_put_b v1 v2 v3 K
def byteset_Has_b {R : Type} (v1 : LI) (v2 : Int) (K : Bool → Option R) : Option R :=
    gd (decide (0 ≤ (IntKind.u8.wrap (Int.tdiv v2 64))))
    (gd (decide ((IntKind.u8.wrap (Int.tdiv v2 64)) < 4))
     (gd (decide (0 ≤ (Int.tmod v2 64)))
      (K (decide ((bvop .u64 .and (shr .u64 (v1.getD (Int.toNat (IntKind.u8.wrap (Int.tdiv v2 64))) (0 : Int)) (Int.tmod v2 64)) 1) = 1)))))
def byteset_Has {R : Type} (v1 : LI) (v2 : Int) (K : Bool → Option R) : Option R := byteset_Has_b v1 v2 K
def byteset_List_l3_b {R : Type} (c_byteset_Has : T2 R) (l_3 : T15 R) (v3 : LI) (Ke0 : LI → Option R) (v2 : Int) (v4 : LI) : Option R :=
    bif decide (v2 < 256) then
    (c_byteset_Has v3 (IntKind.u8.wrap v2) (fun v5 =>
      bif v5 then
      (gd (decide (v4.length + ([(IntKind.u8.wrap v2)] : List Int).length < SMALL))
       (l_3 v3 Ke0 (IntKind.i64.wrap (v2 + 1)) (v4 ++ ([(IntKind.u8.wrap v2)] : List Int))))
      else (l_3 v3 Ke0 (IntKind.i64.wrap (v2 + 1)) v4)))
    else (Ke0 v4)
def byteset_List_b {R : Type} (c_byteset_Has : T2 R) (l_3 : T15 R) (v1 : LI) (K : LI → Option R) : Option R :=
    l_3 v1
    (fun v6 =>
     K v6) 0 ([] : List Int)
def byteset_List_l3 {R : Type} (kf : Nat) : Nat → LI → (LI → Option R) → Int → LI → Option R
  | 0, _, _, _, _ => none
  | k + 1, y0, y1, y2, y3 => byteset_List_l3_b byteset_Has (byteset_List_l3 kf k) y0 y1 y2 y3
def byteset_List {R : Type} (kf : Nat) (v1 : LI) (K : LI → Option R) : Option R := byteset_List_b byteset_Has (byteset_List_l3 kf kf) v1 K
def show_sign_b {R : Type} (v1 : Int) (K : LI → Option R) : Option R :=
    let j2 : Option R :=
    (gd (decide (0 ≤ (shr .u8 v1 4)))
     (gd (decide ((shr .u8 v1 4) < ([48, 49, 50, 51, 52, 53, 54, 55, 56, 57, 97, 98, 99, 100, 101, 102].length : Int)))
      (gd (decide (0 ≤ (bvop .u8 .and v1 15)))
       (gd (decide ((bvop .u8 .and v1 15) < ([48, 49, 50, 51, 52, 53, 54, 55, 56, 57, 97, 98, 99, 100, 101, 102].length : Int)))
        (gd (decide ([92, 120].length + ([([48, 49, 50, 51, 52, 53, 54, 55, 56, 57, 97, 98, 99, 100, 101, 102].getD (Int.toNat (shr .u8 v1 4)) 0), ([48, 49, 50, 51, 52, 53, 54, 55, 56, 57, 97, 98, 99, 100, 101, 102].getD (Int.toNat (bvop .u8 .and v1 15)) 0)] : List Int).length < SMALL))
         (K ([92, 120] ++ ([([48, 49, 50, 51, 52, 53, 54, 55, 56, 57, 97, 98, 99, 100, 101, 102].getD (Int.toNat (shr .u8 v1 4)) 0), ([48, 49, 50, 51, 52, 53, 54, 55, 56, 57, 97, 98, 99, 100, 101, 102].getD (Int.toNat (bvop .u8 .and v1 15)) 0)] : List Int))))))))
    (bif decide (0 ≤ (idxB [92, 124, 42, 43, 63, 40, 41, 91, 93, 94, 45, 46] v1)) then
     (gd (decide ([92].length + ([v1] : List Int).length < SMALL))
      (K ([92] ++ ([v1] : List Int))))
     else (bif decide (v1 < 32) then
      (j2)
      else (bif decide (126 < v1) then
       (j2)
       else (K ([v1] : List Int)))))
def show_sign {R : Type} (v1 : Int) (K : LI → Option R) : Option R := show_sign_b v1 K
def show_writer_set_l9_b {R : Type} (c_byteset_List : LI → (LI → Option R) → Option R) (c_show_writer_put : T5 R) (c_show_sign : Int → (LI → Option R) → Option R) (l_9 : T25 R) (l_11 : T26 R) (Ke1 : Bool → LI → Option R) (v12 : Int) (v13 : Bool) (v14 : LI) (v15 : LI) : Option R :=
    bif decide (v12 < (v14.length : Int)) then
    (l_11 v12 v13 v14 v15
     (fun v21 v22 v23 v24 v25 =>
      gd (decide (0 ≤ v21))
      (gd (decide (v21 < (v24.length : Int)))
       (c_show_sign (v24.getD (Int.toNat v21) (0 : Int)) (fun v26 =>
         c_show_writer_put v26 v23 v25 (fun v27 v28 =>
          let j34 : Bool → LI → Option R := fun v29 v30 =>
          (bif decide (v21 < v22) then
           (gd (decide (0 ≤ v22))
            (gd (decide (v22 < (v24.length : Int)))
             (c_show_sign (v24.getD (Int.toNat v22) (0 : Int)) (fun v31 =>
               c_show_writer_put v31 v29 v30 (fun v32 v33 =>
                l_9 Ke1 (IntKind.i64.wrap (v22 + 1)) v32 v24 v33)))))
           else (l_9 Ke1 (IntKind.i64.wrap (v22 + 1)) v29 v24 v30))
          (bif decide ((IntKind.i64.wrap (v21 + 1)) < v22) then
           (c_show_writer_put ([45]) v27 v28 (fun v35 v36 =>
             j34 v35 v36))
           else (j34 v27 v28))))))) v12)
    else (Ke1 v13 v15)
def show_writer_set_l11_b {R : Type} (c_byteset_List : LI → (LI → Option R) → Option R) (c_show_writer_put : T5 R) (c_show_sign : Int → (LI → Option R) → Option R) (l_9 : T25 R) (l_11 : T26 R) (v16 : Int) (v18 : Bool) (v19 : LI) (v20 : LI) (Ke3 : Int → Int → Bool → LI → LI → Option R) (v17 : Int) : Option R :=
    bif decide ((IntKind.i64.wrap (v17 + 1)) < (v19.length : Int)) then
    (gd (decide (0 ≤ (IntKind.i64.wrap (v17 + 1))))
     (gd (decide ((IntKind.i64.wrap (v17 + 1)) < (v19.length : Int)))
      (gd (decide (0 ≤ v17))
       (gd (decide (v17 < (v19.length : Int)))
        (bif decide ((v19.getD (Int.toNat (IntKind.i64.wrap (v17 + 1))) (0 : Int)) = (IntKind.u8.wrap ((v19.getD (Int.toNat v17) (0 : Int)) + 1))) then
         (l_11 v16 v18 v19 v20 Ke3 (IntKind.i64.wrap (v17 + 1)))
         else (Ke3 v16 v17 v18 v19 v20))))))
    else (Ke3 v16 v17 v18 v19 v20)
def show_writer_set_b {R : Type} (c_byteset_List : LI → (LI → Option R) → Option R) (c_show_writer_put : T5 R) (c_show_sign : Int → (LI → Option R) → Option R) (l_9 : T25 R) (l_11 : T26 R) (v1 : LI) (v2 : Bool) (v3 : LI) (K : Bool → LI → Option R) : Option R :=
    c_byteset_List v1 (fun v4 =>
     bif decide ((v4.length : Int) = 256) then
     (c_show_writer_put ([46]) v2 v3 (fun v5 v6 =>
       K v5 v6))
     else (bif decide ((v4.length : Int) = 1) then
      (gd (decide (0 < (v4.length : Int)))
       (c_show_sign (v4.getD 0 (0 : Int)) (fun v7 =>
         c_show_writer_put v7 v2 v3 (fun v8 v9 =>
          K v8 v9))))
      else (c_show_writer_put ([91]) v2 v3 (fun v10 v11 =>
        l_9
        (fun v37 v38 =>
         c_show_writer_put ([93]) v37 v38 (fun v39 v40 =>
          K v39 v40)) 0 v10 v4 v11))))
def show_writer_set_l11 {R : Type} (kf : Nat) : Nat → Int → Bool → LI → LI → (Int → Int → Bool → LI → LI → Option R) → Int → Option R
  | 0, _, _, _, _, _, _ => none
  | k + 1, y0, y1, y2, y3, y4, y5 => show_writer_set_l11_b (byteset_List kf) show_writer_put show_sign (fun _ _ _ _ _ => none) (show_writer_set_l11 kf k) y0 y1 y2 y3 y4 y5
def show_writer_set_l9 {R : Type} (kf : Nat) : Nat → (Bool → LI → Option R) → Int → Bool → LI → LI → Option R
  | 0, _, _, _, _, _ => none
  | k + 1, y0, y1, y2, y3, y4 => show_writer_set_l9_b (byteset_List kf) show_writer_put show_sign (show_writer_set_l9 kf k) (show_writer_set_l11 kf k) y0 y1 y2 y3 y4
def show_writer_set {R : Type} (kf : Nat) (v1 : LI) (v2 : Bool) (v3 : LI) (K : Bool → LI → Option R) : Option R := show_writer_set_b (byteset_List kf) show_writer_put show_sign (show_writer_set_l9 kf kf) (show_writer_set_l11 kf kf) v1 v2 v3 K
def show_writer_within_b {R : Type} (c_slices_Contains_int_int : T2 R) (c_show_writer_rx : T9 R) (c_show_writer_put : T5 R) (v1 : Int) (v2 : LI) (v3 : (List (Rose (Int × (LI × Unit))))) (v4 : LI) (v5 : Bool) (v6 : LI) (K : Bool → LI → Option R) : Option R :=
    c_slices_Contains_int_int v4 v1 (fun v7 =>
     bif (!v7) then
     (c_show_writer_rx v1 v2 v3 v5 v6 (fun v8 v9 =>
       K v8 v9))
     else (c_show_writer_put ([40]) v5 v6 (fun v10 v11 =>
       c_show_writer_rx v1 v2 v3 v10 v11 (fun v12 v13 =>
        c_show_writer_put ([41]) v12 v13 (fun v14 v15 =>
         K v14 v15)))))
def show_writer_within {R : Type} (c_show_writer_rx : T9 R) (kf : Nat) (v1 : Int) (v2 : LI) (v3 : (List (Rose (Int × (LI × Unit))))) (v4 : LI) (v5 : Bool) (v6 : LI) (K : Bool → LI → Option R) : Option R := show_writer_within_b (slices_Contains_int_int kf) c_show_writer_rx show_writer_put v1 v2 v3 v4 v5 v6 K
def show_writer_rx_l11_b {R : Type} (c_show_writer_put : T5 R) (c_show_writer_set : T5 R) (c_show_writer_within : T21 R) (c_show_writer_rx : T9 R) (l_11 : T11 R) (l_17 : T11 R) (v12 : (List (Rose (Int × (LI × Unit))))) (v13 : Int) (Ke1 : Bool → LI → Option R) (v14 : Int) (v15 : Bool) (v16 : LI) : Option R :=
    bif decide (v14 < v13) then
    (gd (decide (0 ≤ v14))
     (gd (decide (v14 < (v12.length : Int)))
      (c_show_writer_within ((Rose.lab (v12.getD (Int.toNat v14) (Rose.node ((0 : Int), ((List.replicate 4 (0 : Int)), ())) [] : (Rose (Int × (LI × Unit)))))).1) ((Rose.lab (v12.getD (Int.toNat v14) (Rose.node ((0 : Int), ((List.replicate 4 (0 : Int)), ())) [] : (Rose (Int × (LI × Unit)))))).2.1) (Rose.kids (v12.getD (Int.toNat v14) (Rose.node ((0 : Int), ((List.replicate 4 (0 : Int)), ())) [] : (Rose (Int × (LI × Unit)))))) ([5] : List Int) v15 v16 (fun v17 v18 =>
        l_11 v12 v13 Ke1 (IntKind.i64.wrap (v14 + 1)) v17 v18))))
    else (Ke1 v15 v16)
def show_writer_rx_l17_b {R : Type} (c_show_writer_put : T5 R) (c_show_writer_set : T5 R) (c_show_writer_within : T21 R) (c_show_writer_rx : T9 R) (l_11 : T11 R) (l_17 : T11 R) (v21 : (List (Rose (Int × (LI × Unit))))) (v22 : Int) (Ke3 : Bool → LI → Option R) (v23 : Int) (v24 : Bool) (v25 : LI) : Option R :=
    bif decide (v23 < v22) then
    (gd (decide (0 ≤ v23))
     (gd (decide (v23 < (v21.length : Int)))
      (let j30 : Bool → LI → Option R := fun v26 v27 =>
       (bif (!(decide ((Rose.lab (v21.getD (Int.toNat v23) (Rose.node ((0 : Int), ((List.replicate 4 (0 : Int)), ())) [] : (Rose (Int × (LI × Unit)))))).1 = 2))) then
        (c_show_writer_rx ((Rose.lab (v21.getD (Int.toNat v23) (Rose.node ((0 : Int), ((List.replicate 4 (0 : Int)), ())) [] : (Rose (Int × (LI × Unit)))))).1) ((Rose.lab (v21.getD (Int.toNat v23) (Rose.node ((0 : Int), ((List.replicate 4 (0 : Int)), ())) [] : (Rose (Int × (LI × Unit)))))).2.1) (Rose.kids (v21.getD (Int.toNat v23) (Rose.node ((0 : Int), ((List.replicate 4 (0 : Int)), ())) [] : (Rose (Int × (LI × Unit)))))) v26 v27 (fun v28 v29 =>
          l_17 v21 v22 Ke3 (IntKind.i64.wrap (v23 + 1)) v28 v29))
        else (l_17 v21 v22 Ke3 (IntKind.i64.wrap (v23 + 1)) v26 v27))
       (bif decide (0 < v23) then
        (c_show_writer_put ([124]) v24 v25 (fun v31 v32 =>
          j30 v31 v32))
        else (j30 v24 v25)))))
    else (Ke3 v24 v25)
def show_writer_rx_b {R : Type} (c_show_writer_put : T5 R) (c_show_writer_set : T5 R) (c_show_writer_within : T21 R) (c_show_writer_rx : T9 R) (l_11 : T11 R) (l_17 : T11 R) (v1 : Int) (v2 : LI) (v3 : (List (Rose (Int × (LI × Unit))))) (v4 : Bool) (v5 : LI) (K : Bool → LI → Option R) : Option R :=
    bif v4 then
    (K v4 v5)
    else (bif decide (v1 = 1) then
     (c_show_writer_put ([91, 93]) v4 v5 (fun v6 v7 =>
       K v6 v7))
     else (bif decide (v1 = 2) then
      (c_show_writer_put ([40, 41]) v4 v5 (fun v8 v9 =>
        K v8 v9))
      else (bif decide (v1 = 3) then
       (c_show_writer_set v2 v4 v5 (fun v10 v11 =>
         K v10 v11))
       else (bif decide (v1 = 4) then
        (l_11 v3 (v3.length : Int)
         (fun v19 v20 =>
          K v19 v20) 0 v4 v5)
        else (bif decide (v1 = 5) then
         (l_17 v3 (v3.length : Int)
          (fun v33 v34 =>
           K v33 v34) 0 v4 v5)
         else (bif decide (v1 = 6) then
          (gd (decide (0 < (v3.length : Int)))
           (c_show_writer_within ((Rose.lab (v3.getD 0 (Rose.node ((0 : Int), ((List.replicate 4 (0 : Int)), ())) [] : (Rose (Int × (LI × Unit)))))).1) ((Rose.lab (v3.getD 0 (Rose.node ((0 : Int), ((List.replicate 4 (0 : Int)), ())) [] : (Rose (Int × (LI × Unit)))))).2.1) (Rose.kids (v3.getD 0 (Rose.node ((0 : Int), ((List.replicate 4 (0 : Int)), ())) [] : (Rose (Int × (LI × Unit)))))) ([4, 5] : List Int) v4 v5 (fun v35 v36 =>
             c_show_writer_put ([42]) v35 v36 (fun v37 v38 =>
              K v37 v38))))
          else (K v4 v5)))))))
def show_writer_rx_l11 {R : Type} (c_self : T9 R) (kf : Nat) : Nat → (List (Rose (Int × (LI × Unit)))) → Int → (Bool → LI → Option R) → Int → Bool → LI → Option R
  | 0, _, _, _, _, _, _ => none
  | k + 1, y0, y1, y2, y3, y4, y5 => show_writer_rx_l11_b show_writer_put (show_writer_set kf) (show_writer_within c_self kf) c_self (show_writer_rx_l11 c_self kf k) (fun _ _ _ _ _ _ => none) y0 y1 y2 y3 y4 y5
def show_writer_rx_l17 {R : Type} (c_self : T9 R) (kf : Nat) : Nat → (List (Rose (Int × (LI × Unit)))) → Int → (Bool → LI → Option R) → Int → Bool → LI → Option R
  | 0, _, _, _, _, _, _ => none
  | k + 1, y0, y1, y2, y3, y4, y5 => show_writer_rx_l17_b show_writer_put (show_writer_set kf) (show_writer_within c_self kf) c_self (show_writer_rx_l11 c_self kf k) (show_writer_rx_l17 c_self kf k) y0 y1 y2 y3 y4 y5
def show_writer_rx {R : Type} : Nat → Int → LI → (List (Rose (Int × (LI × Unit)))) → Bool → LI → (Bool → LI → Option R) → Option R
  | 0, _, _, _, _, _, _ => none
  | kf + 1, y0, y1, y2, y3, y4, y5 => show_writer_rx_b show_writer_put (show_writer_set kf) (show_writer_within (show_writer_rx kf) kf) (show_writer_rx kf) (show_writer_rx_l11 (show_writer_rx kf) kf kf) (show_writer_rx_l17 (show_writer_rx kf) kf kf) y0 y1 y2 y3 y4 y5
def show_Show_b {R : Type} (c_rx_Plain : T0 R) (c_show_writer_rx : T9 R) (v1 : Int) (v2 : LI) (v3 : (List (Rose (Int × (LI × Unit))))) (K : LI → Option R) : Option R :=
    c_rx_Plain v1 v2 v3 (fun v4 =>
     bif (!v4) then
     (K ([]))
     else (c_show_writer_rx v1 v2 v3 false ([] : List Int) (fun v5 v6 =>
       bif v5 then
       (K ([]))
       else (K v6))))
def show_Show {R : Type} (kf : Nat) (v1 : Int) (v2 : LI) (v3 : (List (Rose (Int × (LI × Unit))))) (K : LI → Option R) : Option R := show_Show_b (rx_Plain kf) (show_writer_rx kf) v1 v2 v3 K
def law7_begun_b {R : Type} (c_ref1_Of : LI → (LI → Option R) → Option R) (c_ref5_Bytes : T19 R) (c_ref5_Star : T1 R) (c_show_Show : T6 R) (c_ref5_Empty : T4 R) (K : Bool → Option R) : Option R :=
    gd (decide (0 < ([97, 98, 99] : List Int).length))
    (c_ref1_Of ([97, 98, 99] : List Int) (fun v1 =>
      c_ref5_Bytes v1 (fun v2 v3 v4 =>
       c_ref5_Star v2 v3 v4 (fun v5 v6 v7 =>
        c_show_Show v5 v6 v7 (fun v8 =>
         bif decide (v8 = [91, 97, 45, 99, 93, 42]) then
         (c_ref5_Empty (fun v9 v10 v11 =>
           c_show_Show v9 v10 v11 (fun v12 =>
            K (decide (v12 = [40, 41])))))
         else (K false))))))
def law7_begun {R : Type} (kf : Nat) (K : Bool → Option R) : Option R := law7_begun_b (ref1_Of kf) ref5_Bytes (ref5_Star kf) (show_Show kf) ref5_Empty K
def ref5_Nodes_l3_b {R : Type} (c_ref5_Nodes : T8 R) (l_3 : T18 R) (v8 : (List (Rose (Int × (LI × Unit))))) (Ke0 : Int → Option R) (v4 : Int) (v5 : Int) : Option R :=
    bif decide (v5 < (v8.length : Int)) then
    (gd (decide (0 ≤ v5))
     (gd (decide (v5 < (v8.length : Int)))
      (c_ref5_Nodes ((Rose.lab (v8.getD (Int.toNat v5) (Rose.node ((0 : Int), ((List.replicate 4 (0 : Int)), ())) [] : (Rose (Int × (LI × Unit)))))).1) ((Rose.lab (v8.getD (Int.toNat v5) (Rose.node ((0 : Int), ((List.replicate 4 (0 : Int)), ())) [] : (Rose (Int × (LI × Unit)))))).2.1) (Rose.kids (v8.getD (Int.toNat v5) (Rose.node ((0 : Int), ((List.replicate 4 (0 : Int)), ())) [] : (Rose (Int × (LI × Unit)))))) (fun v9 =>
        l_3 v8 Ke0 (IntKind.i64.wrap (v4 + v9)) (IntKind.i64.wrap (v5 + 1))))))
    else (Ke0 v4)
def ref5_Nodes_b {R : Type} (c_ref5_Nodes : T8 R) (l_3 : T18 R) (v1 : Int) (v2 : LI) (v3 : (List (Rose (Int × (LI × Unit))))) (K : Int → Option R) : Option R :=
    l_3 v3
    (fun v10 =>
     K v10) 1 0
def ref5_Nodes_l3 {R : Type} (c_self : T8 R) (kf : Nat) : Nat → (List (Rose (Int × (LI × Unit)))) → (Int → Option R) → Int → Int → Option R
  | 0, _, _, _, _ => none
  | k + 1, y0, y1, y2, y3 => ref5_Nodes_l3_b c_self (ref5_Nodes_l3 c_self kf k) y0 y1 y2 y3
def ref5_Nodes {R : Type} : Nat → Int → LI → (List (Rose (Int × (LI × Unit)))) → (Int → Option R) → Option R
  | 0, _, _, _, _ => none
  | kf + 1, y0, y1, y2, y3 => ref5_Nodes_b (ref5_Nodes kf) (ref5_Nodes_l3 (ref5_Nodes kf) kf kf) y0 y1 y2 y3
def ref5_Depth_l3_b {R : Type} (c_ref5_Depth : T8 R) (l_3 : T18 R) (v8 : (List (Rose (Int × (LI × Unit))))) (Ke0 : Int → Option R) (v4 : Int) (v5 : Int) : Option R :=
    bif decide (v5 < (v8.length : Int)) then
    (gd (decide (0 ≤ v5))
     (gd (decide (v5 < (v8.length : Int)))
      (c_ref5_Depth ((Rose.lab (v8.getD (Int.toNat v5) (Rose.node ((0 : Int), ((List.replicate 4 (0 : Int)), ())) [] : (Rose (Int × (LI × Unit)))))).1) ((Rose.lab (v8.getD (Int.toNat v5) (Rose.node ((0 : Int), ((List.replicate 4 (0 : Int)), ())) [] : (Rose (Int × (LI × Unit)))))).2.1) (Rose.kids (v8.getD (Int.toNat v5) (Rose.node ((0 : Int), ((List.replicate 4 (0 : Int)), ())) [] : (Rose (Int × (LI × Unit)))))) (fun v9 =>
        l_3 v8 Ke0 (mx v4 v9) (IntKind.i64.wrap (v5 + 1))))))
    else (Ke0 v4)
def ref5_Depth_b {R : Type} (c_ref5_Depth : T8 R) (l_3 : T18 R) (v1 : Int) (v2 : LI) (v3 : (List (Rose (Int × (LI × Unit))))) (K : Int → Option R) : Option R :=
    l_3 v3
    (fun v10 =>
     K (IntKind.i64.wrap (v10 + 1))) 0 0
def ref5_Depth_l3 {R : Type} (c_self : T8 R) (kf : Nat) : Nat → (List (Rose (Int × (LI × Unit)))) → (Int → Option R) → Int → Int → Option R
  | 0, _, _, _, _ => none
  | k + 1, y0, y1, y2, y3 => ref5_Depth_l3_b c_self (ref5_Depth_l3 c_self kf k) y0 y1 y2 y3
def ref5_Depth {R : Type} : Nat → Int → LI → (List (Rose (Int × (LI × Unit)))) → (Int → Option R) → Option R
  | 0, _, _, _, _ => none
  | kf + 1, y0, y1, y2, y3 => ref5_Depth_b (ref5_Depth kf) (ref5_Depth_l3 (ref5_Depth kf) kf kf) y0 y1 y2 y3
def law5_Light_b {R : Type} (c_ref5_Nodes : T8 R) (c_ref5_Depth : T8 R) (v1 : Int) (v2 : LI) (v3 : (List (Rose (Int × (LI × Unit))))) (v4 : Int) (K : Bool → Option R) : Option R :=
    c_ref5_Nodes v1 v2 v3 (fun v5 =>
     bif decide (v5 ≤ v4) then
     (c_ref5_Depth v1 v2 v3 (fun v6 =>
       K (decide (v6 ≤ 60))))
     else (K false))
def law5_Light {R : Type} (kf : Nat) (v1 : Int) (v2 : LI) (v3 : (List (Rose (Int × (LI × Unit))))) (v4 : Int) (K : Bool → Option R) : Option R := law5_Light_b (ref5_Nodes kf) (ref5_Depth kf) v1 v2 v3 v4 K
def ref5_Cat_l4_b {R : Type} (c_ref5_flat : T13 R) (c_ref5_None : T4 R) (c_ref5_Copy : T1 R) (c_ref5_Empty : T4 R) (l_4 : T46 R) (v4 : Int) (v5 : LI) (v7 : (List (Rose (Int × (LI × Unit))))) (v8 : (List (Rose (Int × (LI × Unit))))) (Kr : Int → LI → (List (Rose (Int × (LI × Unit)))) → (List (Rose (Int × (LI × Unit)))) → Option R) (Ke0 : Int → LI → (List (Rose (Int × (LI × Unit)))) → (List (Rose (Int × (LI × Unit)))) → Option R) (v3 : Int) (v6 : (List (Rose (Int × (LI × Unit))))) : Option R :=
    bif decide (v3 < (v7.length : Int)) then
    (gd (decide (0 ≤ v3))
     (gd (decide (v3 < (v7.length : Int)))
      (bif decide ((Rose.lab (v7.getD (Int.toNat v3) (Rose.node ((0 : Int), ((List.replicate 4 (0 : Int)), ())) [] : (Rose (Int × (LI × Unit)))))).1 = 1) then
       (c_ref5_None (fun v9 v10 v11 =>
         Kr v9 v10 v11 v6))
       else (gd (decide (0 ≤ v3))
        (gd (decide (v3 < (v7.length : Int)))
         (bif (!(decide ((Rose.lab (v7.getD (Int.toNat v3) (Rose.node ((0 : Int), ((List.replicate 4 (0 : Int)), ())) [] : (Rose (Int × (LI × Unit)))))).1 = 2))) then
          (gd (decide (0 ≤ v3))
           (gd (decide (v3 < (v7.length : Int)))
            (c_ref5_Copy ((Rose.lab (v7.getD (Int.toNat v3) (Rose.node ((0 : Int), ((List.replicate 4 (0 : Int)), ())) [] : (Rose (Int × (LI × Unit)))))).1) ((Rose.lab (v7.getD (Int.toNat v3) (Rose.node ((0 : Int), ((List.replicate 4 (0 : Int)), ())) [] : (Rose (Int × (LI × Unit)))))).2.1) (Rose.kids (v7.getD (Int.toNat v3) (Rose.node ((0 : Int), ((List.replicate 4 (0 : Int)), ())) [] : (Rose (Int × (LI × Unit)))))) (fun v12 v13 v14 =>
              gd (decide (v6.length + ([(Rose.node (v12, v13, ()) v14)] : List (Rose (Int × (LI × Unit)))).length < SMALL))
              (l_4 v4 v5 v7 v8 Kr Ke0 (IntKind.i64.wrap (v3 + 1)) (v6 ++ ([(Rose.node (v12, v13, ()) v14)] : List (Rose (Int × (LI × Unit))))))))))
          else (l_4 v4 v5 v7 v8 Kr Ke0 (IntKind.i64.wrap (v3 + 1)) v6)))))))
    else (Ke0 v4 v5 v6 v8)
def ref5_Cat_b {R : Type} (c_ref5_flat : T13 R) (c_ref5_None : T4 R) (c_ref5_Copy : T1 R) (c_ref5_Empty : T4 R) (l_4 : T46 R) (v1 : (List (Rose (Int × (LI × Unit))))) (K : T20 R) : Option R :=
    c_ref5_flat 4 v1 (fun v2 =>
     l_4 0 (List.replicate 4 (0 : Int)) v2 ([] : List (Rose (Int × (LI × Unit))))
     (fun v15 v16 v17 v18 =>
      K v15 v16 v17)
     (fun v19 v20 v21 v22 =>
      bif decide ((v21.length : Int) = 0) then
      (c_ref5_Empty (fun v23 v24 v25 =>
        K v23 v24 v25))
      else (bif decide ((v21.length : Int) = 1) then
       (gd (decide (0 < (v21.length : Int)))
        (K ((Rose.lab (v21.getD 0 (Rose.node ((0 : Int), ((List.replicate 4 (0 : Int)), ())) [] : (Rose (Int × (LI × Unit)))))).1) ((Rose.lab (v21.getD 0 (Rose.node ((0 : Int), ((List.replicate 4 (0 : Int)), ())) [] : (Rose (Int × (LI × Unit)))))).2.1) (Rose.kids (v21.getD 0 (Rose.node ((0 : Int), ((List.replicate 4 (0 : Int)), ())) [] : (Rose (Int × (LI × Unit))))))))
       else (K 4 (List.replicate 4 (0 : Int)) v21))) 0 ([] : List (Rose (Int × (LI × Unit)))))
def ref5_Cat_l4 {R : Type} (kf : Nat) : Nat → Int → LI → (List (Rose (Int × (LI × Unit)))) → (List (Rose (Int × (LI × Unit)))) → (Int → LI → (List (Rose (Int × (LI × Unit)))) → (List (Rose (Int × (LI × Unit)))) → Option R) → (Int → LI → (List (Rose (Int × (LI × Unit)))) → (List (Rose (Int × (LI × Unit)))) → Option R) → Int → (List (Rose (Int × (LI × Unit)))) → Option R
  | 0, _, _, _, _, _, _, _, _ => none
  | k + 1, y0, y1, y2, y3, y4, y5, y6, y7 => ref5_Cat_l4_b (ref5_flat kf) ref5_None (ref5_Copy kf) ref5_Empty (ref5_Cat_l4 kf k) y0 y1 y2 y3 y4 y5 y6 y7
def ref5_Cat {R : Type} (kf : Nat) (v1 : (List (Rose (Int × (LI × Unit))))) (K : T20 R) : Option R := ref5_Cat_b (ref5_flat kf) ref5_None (ref5_Copy kf) ref5_Empty (ref5_Cat_l4 kf kf) v1 K
def ref5_Same_l4_b {R : Type} (c_ref5_Same : T7 R) (l_4 : T47 R) (v11 : (List (Rose (Int × (LI × Unit))))) (v14 : (List (Rose (Int × (LI × Unit))))) (Kr : Bool → Option R) (Ke0 : Option R) (v8 : Int) : Option R :=
    bif decide (v8 < (v11.length : Int)) then
    (gd (decide (0 ≤ v8))
     (gd (decide (v8 < (v11.length : Int)))
      (gd (decide (0 ≤ v8))
       (gd (decide (v8 < (v14.length : Int)))
        (c_ref5_Same ((Rose.lab (v11.getD (Int.toNat v8) (Rose.node ((0 : Int), ((List.replicate 4 (0 : Int)), ())) [] : (Rose (Int × (LI × Unit)))))).1) ((Rose.lab (v11.getD (Int.toNat v8) (Rose.node ((0 : Int), ((List.replicate 4 (0 : Int)), ())) [] : (Rose (Int × (LI × Unit)))))).2.1) (Rose.kids (v11.getD (Int.toNat v8) (Rose.node ((0 : Int), ((List.replicate 4 (0 : Int)), ())) [] : (Rose (Int × (LI × Unit)))))) ((Rose.lab (v14.getD (Int.toNat v8) (Rose.node ((0 : Int), ((List.replicate 4 (0 : Int)), ())) [] : (Rose (Int × (LI × Unit)))))).1) ((Rose.lab (v14.getD (Int.toNat v8) (Rose.node ((0 : Int), ((List.replicate 4 (0 : Int)), ())) [] : (Rose (Int × (LI × Unit)))))).2.1) (Rose.kids (v14.getD (Int.toNat v8) (Rose.node ((0 : Int), ((List.replicate 4 (0 : Int)), ())) [] : (Rose (Int × (LI × Unit)))))) (fun v15 =>
          bif (!v15) then
          (Kr false)
          else (l_4 v11 v14 Kr Ke0 (IntKind.i64.wrap (v8 + 1)))))))))
    else (Ke0)
def ref5_Same_b {R : Type} (c_ref5_Same : T7 R) (l_4 : T47 R) (v1 : Int) (v2 : LI) (v3 : (List (Rose (Int × (LI × Unit))))) (v4 : Int) (v5 : LI) (v6 : (List (Rose (Int × (LI × Unit))))) (K : Bool → Option R) : Option R :=
    let j17 : Bool → Option R := fun v7 =>
    (bif v7 then
     (K false)
     else (l_4 v3 v6
      (fun v16 =>
       K v16)
      (K true) 0))
    (bif (!(decide (v1 = v4))) then
     (j17 true)
     else (bif (!(decide (v2 = v5))) then
      (j17 true)
      else (j17 (!(decide ((v3.length : Int) = (v6.length : Int)))))))
def ref5_Same_l4 {R : Type} (c_self : T7 R) (kf : Nat) : Nat → (List (Rose (Int × (LI × Unit)))) → (List (Rose (Int × (LI × Unit)))) → (Bool → Option R) → (Option R) → Int → Option R
  | 0, _, _, _, _, _ => none
  | k + 1, y0, y1, y2, y3, y4 => ref5_Same_l4_b c_self (ref5_Same_l4 c_self kf k) y0 y1 y2 y3 y4
def ref5_Same {R : Type} : Nat → Int → LI → (List (Rose (Int × (LI × Unit)))) → Int → LI → (List (Rose (Int × (LI × Unit)))) → (Bool → Option R) → Option R
  | 0, _, _, _, _, _, _, _ => none
  | kf + 1, y0, y1, y2, y3, y4, y5, y6 => ref5_Same_b (ref5_Same kf) (ref5_Same_l4 (ref5_Same kf) kf kf) y0 y1 y2 y3 y4 y5 y6
def ref5_Plain_l2_b {R : Type} (c_ref5_Plain : T0 R) (c_ref5_Cat : T10 R) (c_ref5_Same : T7 R) (c_ref5_Alt : T10 R) (l_2 : T48 R) (v5 : Int) (v6 : LI) (v7 : (List (Rose (Int × (LI × Unit))))) (Kr : Bool → Int → LI → (List (Rose (Int × (LI × Unit)))) → Option R) (Ke0 : Int → LI → (List (Rose (Int × (LI × Unit)))) → Option R) (v4 : Int) : Option R :=
    bif decide (v4 < (v7.length : Int)) then
    (gd (decide (0 ≤ v4))
     (gd (decide (v4 < (v7.length : Int)))
      (c_ref5_Plain ((Rose.lab (v7.getD (Int.toNat v4) (Rose.node ((0 : Int), ((List.replicate 4 (0 : Int)), ())) [] : (Rose (Int × (LI × Unit)))))).1) ((Rose.lab (v7.getD (Int.toNat v4) (Rose.node ((0 : Int), ((List.replicate 4 (0 : Int)), ())) [] : (Rose (Int × (LI × Unit)))))).2.1) (Rose.kids (v7.getD (Int.toNat v4) (Rose.node ((0 : Int), ((List.replicate 4 (0 : Int)), ())) [] : (Rose (Int × (LI × Unit)))))) (fun v8 =>
        bif (!v8) then
        (Kr false v5 v6 v7)
        else (l_2 v5 v6 v7 Kr Ke0 (IntKind.i64.wrap (v4 + 1)))))))
    else (Ke0 v5 v6 v7)
def ref5_Plain_b {R : Type} (c_ref5_Plain : T0 R) (c_ref5_Cat : T10 R) (c_ref5_Same : T7 R) (c_ref5_Alt : T10 R) (l_2 : T48 R) (v1 : Int) (v2 : LI) (v3 : (List (Rose (Int × (LI × Unit))))) (K : Bool → Option R) : Option R :=
    l_2 v1 v2 v3
    (fun v9 v10 v11 v12 =>
     K v9)
    (fun v13 v14 v15 =>
     let j25 : Bool → Option R := fun v16 =>
     (bif v16 then
      (bif decide ((v15.length : Int) = 0) then
       (K (decide (v14 = (List.replicate 4 (0 : Int)))))
       else (K false))
      else (bif decide (v13 = 3) then
       (bif decide ((v15.length : Int) = 0) then
        (K (!(decide (v14 = (List.replicate 4 (0 : Int))))))
        else (K false))
       else (bif decide (v13 = 4) then
        (bif decide (v14 = (List.replicate 4 (0 : Int))) then
         (bif decide (1 < (v15.length : Int)) then
          (c_ref5_Cat v15 (fun v17 v18 v19 =>
            c_ref5_Same v17 v18 v19 v13 v14 v15 (fun v20 =>
             K v20)))
          else (K false))
         else (K false))
        else (bif decide (v13 = 5) then
         (bif decide (v14 = (List.replicate 4 (0 : Int))) then
          (bif decide (1 < (v15.length : Int)) then
           (c_ref5_Alt v15 (fun v21 v22 v23 =>
             c_ref5_Same v21 v22 v23 v13 v14 v15 (fun v24 =>
              K v24)))
           else (K false))
          else (K false))
         else (bif decide (v13 = 6) then
          (bif decide (v14 = (List.replicate 4 (0 : Int))) then
           (bif decide ((v15.length : Int) = 1) then
            (gd (decide (0 < (v15.length : Int)))
             (bif (!(decide ((Rose.lab (v15.getD 0 (Rose.node ((0 : Int), ((List.replicate 4 (0 : Int)), ())) [] : (Rose (Int × (LI × Unit)))))).1 = 6))) then
              (gd (decide (0 < (v15.length : Int)))
               (bif (!(decide ((Rose.lab (v15.getD 0 (Rose.node ((0 : Int), ((List.replicate 4 (0 : Int)), ())) [] : (Rose (Int × (LI × Unit)))))).1 = 2))) then
                (gd (decide (0 < (v15.length : Int)))
                 (K (!(decide ((Rose.lab (v15.getD 0 (Rose.node ((0 : Int), ((List.replicate 4 (0 : Int)), ())) [] : (Rose (Int × (LI × Unit)))))).1 = 1)))))
                else (K false)))
              else (K false)))
            else (K false))
           else (K false))
          else (K false))))))
     (bif decide (v13 = 1) then
      (j25 (decide (v13 = 1)))
      else (j25 (decide (v13 = 2))))) 0
def ref5_Plain_l2 {R : Type} (c_self : T0 R) (kf : Nat) : Nat → Int → LI → (List (Rose (Int × (LI × Unit)))) → (Bool → Int → LI → (List (Rose (Int × (LI × Unit)))) → Option R) → (Int → LI → (List (Rose (Int × (LI × Unit)))) → Option R) → Int → Option R
  | 0, _, _, _, _, _, _ => none
  | k + 1, y0, y1, y2, y3, y4, y5 => ref5_Plain_l2_b c_self (ref5_Cat kf) (ref5_Same kf) (ref5_Alt kf) (ref5_Plain_l2 c_self kf k) y0 y1 y2 y3 y4 y5
def ref5_Plain {R : Type} : Nat → Int → LI → (List (Rose (Int × (LI × Unit)))) → (Bool → Option R) → Option R
  | 0, _, _, _, _ => none
  | kf + 1, y0, y1, y2, y3 => ref5_Plain_b (ref5_Plain kf) (ref5_Cat kf) (ref5_Same kf) (ref5_Alt kf) (ref5_Plain_l2 (ref5_Plain kf) kf kf) y0 y1 y2 y3
def ref6_in_l2_b {R : Type} (l_2 : T49 R) (v3 : LI) (v4 : Int) (Kr : Bool → Option R) (Ke0 : Option R) (v5 : Int) : Option R :=
    bif decide (v5 < (v3.length : Int)) then
    (gd (decide (0 ≤ v5))
     (gd (decide (v5 < (v3.length : Int)))
      (bif decide ((v3.getD (Int.toNat v5) 0) = v4) then
       (Kr true)
       else (l_2 v3 v4 Kr Ke0 (IntKind.i64.wrap (v5 + 1))))))
    else (Ke0)
def ref6_in_b {R : Type} (l_2 : T49 R) (v1 : LI) (v2 : Int) (K : Bool → Option R) : Option R :=
    l_2 v1 v2
    (fun v6 =>
     K v6)
    (K false) 0
def ref6_in_l2 {R : Type} (kf : Nat) : Nat → LI → Int → (Bool → Option R) → (Option R) → Int → Option R
  | 0, _, _, _, _, _ => none
  | k + 1, y0, y1, y2, y3, y4 => ref6_in_l2_b (ref6_in_l2 kf k) y0 y1 y2 y3 y4
def ref6_in {R : Type} (kf : Nat) (v1 : LI) (v2 : Int) (K : Bool → Option R) : Option R := ref6_in_b (ref6_in_l2 kf kf) v1 v2 K
def ref6_sign_b {R : Type} (c_ref6_in : T2 R) (v1 : Int) (K : LI → Option R) : Option R :=
    c_ref6_in ([92, 124, 42, 43, 63, 40, 41, 91, 93, 94, 45, 46]) v1 (fun v2 =>
     bif v2 then
     (K ([92, v1] : List Int))
     else (let j4 : Bool → Option R := fun v3 =>
      (bif v3 then
       (K ([v1] : List Int))
       else (gd (decide (0 ≤ (IntKind.u8.wrap (Int.tdiv v1 16))))
        (gd (decide ((IntKind.u8.wrap (Int.tdiv v1 16)) < ([48, 49, 50, 51, 52, 53, 54, 55, 56, 57, 97, 98, 99, 100, 101, 102].length : Int)))
         (gd (decide (0 ≤ (Int.tmod v1 16)))
          (gd (decide ((Int.tmod v1 16) < ([48, 49, 50, 51, 52, 53, 54, 55, 56, 57, 97, 98, 99, 100, 101, 102].length : Int)))
           (K ([92, 120, ([48, 49, 50, 51, 52, 53, 54, 55, 56, 57, 97, 98, 99, 100, 101, 102].getD (Int.toNat (IntKind.u8.wrap (Int.tdiv v1 16))) 0), ([48, 49, 50, 51, 52, 53, 54, 55, 56, 57, 97, 98, 99, 100, 101, 102].getD (Int.toNat (Int.tmod v1 16)) 0)] : List Int)))))))
      (bif decide (32 ≤ v1) then
       (j4 (decide (v1 ≤ 126)))
       else (j4 false))))
def ref6_sign {R : Type} (kf : Nat) (v1 : Int) (K : LI → Option R) : Option R := ref6_sign_b (ref6_in kf) v1 K
def ref6_set_l8_b {R : Type} (c_ref1_List : LI → (LI → Option R) → Option R) (c_ref6_sign : Int → (LI → Option R) → Option R) (l_8 : T27 R) (l_10 : T28 R) (Ke0 : LI → Option R) (v4 : LI) (v5 : Int) (v6 : LI) : Option R :=
    bif decide (v5 < (v6.length : Int)) then
    (l_10 v4 v5 v6
     (fun v11 v12 v13 v14 =>
      bif decide ((IntKind.i64.wrap (v13 - v12)) = 0) then
      (gd (decide (0 ≤ v12))
       (gd (decide (v12 < (v14.length : Int)))
        (c_ref6_sign (v14.getD (Int.toNat v12) (0 : Int)) (fun v15 =>
          gd (decide (v11.length + v15.length < SMALL))
          (l_8 Ke0 (v11 ++ v15) (IntKind.i64.wrap (v13 + 1)) v14)))))
      else (bif decide ((IntKind.i64.wrap (v13 - v12)) = 1) then
       (gd (decide (0 ≤ v12))
        (gd (decide (v12 < (v14.length : Int)))
         (c_ref6_sign (v14.getD (Int.toNat v12) (0 : Int)) (fun v16 =>
           gd (decide (v11.length + v16.length < SMALL))
           (gd (decide (0 ≤ v13))
            (gd (decide (v13 < (v14.length : Int)))
             (c_ref6_sign (v14.getD (Int.toNat v13) (0 : Int)) (fun v17 =>
               gd (decide ((v11 ++ v16).length + v17.length < SMALL))
               (l_8 Ke0 ((v11 ++ v16) ++ v17) (IntKind.i64.wrap (v13 + 1)) v14)))))))))
       else (gd (decide (0 ≤ v12))
        (gd (decide (v12 < (v14.length : Int)))
         (c_ref6_sign (v14.getD (Int.toNat v12) (0 : Int)) (fun v18 =>
           gd (decide (v11.length + v18.length < SMALL))
           (gd (decide ((v11 ++ v18).length + [45].length < SMALL))
            (gd (decide (0 ≤ v13))
             (gd (decide (v13 < (v14.length : Int)))
              (c_ref6_sign (v14.getD (Int.toNat v13) (0 : Int)) (fun v19 =>
                gd (decide (((v11 ++ v18) ++ [45]).length + v19.length < SMALL))
                (l_8 Ke0 (((v11 ++ v18) ++ [45]) ++ v19) (IntKind.i64.wrap (v13 + 1)) v14)))))))))))) v5)
    else (Ke0 v4)
def ref6_set_l10_b {R : Type} (c_ref1_List : LI → (LI → Option R) → Option R) (c_ref6_sign : Int → (LI → Option R) → Option R) (l_8 : T27 R) (l_10 : T28 R) (v7 : LI) (v8 : Int) (v10 : LI) (Ke2 : LI → Int → Int → LI → Option R) (v9 : Int) : Option R :=
    bif decide ((IntKind.i64.wrap (v9 + 1)) < (v10.length : Int)) then
    (gd (decide (0 ≤ (IntKind.i64.wrap (v9 + 1))))
     (gd (decide ((IntKind.i64.wrap (v9 + 1)) < (v10.length : Int)))
      (gd (decide (0 ≤ v9))
       (gd (decide (v9 < (v10.length : Int)))
        (bif decide ((v10.getD (Int.toNat (IntKind.i64.wrap (v9 + 1))) (0 : Int)) = (IntKind.u8.wrap ((v10.getD (Int.toNat v9) (0 : Int)) + 1))) then
         (l_10 v7 v8 v10 Ke2 (IntKind.i64.wrap (v9 + 1)))
         else (Ke2 v7 v8 v9 v10))))))
    else (Ke2 v7 v8 v9 v10)
def ref6_set_b {R : Type} (c_ref1_List : LI → (LI → Option R) → Option R) (c_ref6_sign : Int → (LI → Option R) → Option R) (l_8 : T27 R) (l_10 : T28 R) (v1 : LI) (K : LI → Option R) : Option R :=
    c_ref1_List v1 (fun v2 =>
     bif decide ((v2.length : Int) = 256) then
     (K ([46]))
     else (bif decide ((v2.length : Int) = 1) then
      (gd (decide (0 < (v2.length : Int)))
       (c_ref6_sign (v2.getD 0 (0 : Int)) (fun v3 =>
         K v3)))
      else (l_8
       (fun v20 =>
        gd (decide (v20.length + [93].length < SMALL))
        (K (v20 ++ [93]))) ([91]) 0 v2)))
def ref6_set_l10 {R : Type} (kf : Nat) : Nat → LI → Int → LI → (LI → Int → Int → LI → Option R) → Int → Option R
  | 0, _, _, _, _, _ => none
  | k + 1, y0, y1, y2, y3, y4 => ref6_set_l10_b (ref1_List kf) (ref6_sign kf) (fun _ _ _ _ => none) (ref6_set_l10 kf k) y0 y1 y2 y3 y4
def ref6_set_l8 {R : Type} (kf : Nat) : Nat → (LI → Option R) → LI → Int → LI → Option R
  | 0, _, _, _, _ => none
  | k + 1, y0, y1, y2, y3 => ref6_set_l8_b (ref1_List kf) (ref6_sign kf) (ref6_set_l8 kf k) (ref6_set_l10 kf k) y0 y1 y2 y3
def ref6_set {R : Type} (kf : Nat) (v1 : LI) (K : LI → Option R) : Option R := ref6_set_b (ref1_List kf) (ref6_sign kf) (ref6_set_l8 kf kf) (ref6_set_l10 kf kf) v1 K
def ref6_text_l15_b {R : Type} (c_ref6_set : LI → (LI → Option R) → Option R) (c_ref6_text : T6 R) (l_15 : T50 R) (v11 : Int) (v13 : (List (Rose (Int × (LI × Unit))))) (Ke1 : LI → Option R) (v9 : LI) (v10 : Int) : Option R :=
    bif decide (v10 < (v13.length : Int)) then
    (gd (decide (0 ≤ v10))
     (gd (decide (v10 < (v13.length : Int)))
      (let j20 : Bool → Option R := fun v14 =>
       (bif v14 then
        (gd (decide (v9.length + [40].length < SMALL))
         (c_ref6_text ((Rose.lab (v13.getD (Int.toNat v10) (Rose.node ((0 : Int), ((List.replicate 4 (0 : Int)), ())) [] : (Rose (Int × (LI × Unit)))))).1) ((Rose.lab (v13.getD (Int.toNat v10) (Rose.node ((0 : Int), ((List.replicate 4 (0 : Int)), ())) [] : (Rose (Int × (LI × Unit)))))).2.1) (Rose.kids (v13.getD (Int.toNat v10) (Rose.node ((0 : Int), ((List.replicate 4 (0 : Int)), ())) [] : (Rose (Int × (LI × Unit)))))) (fun v15 =>
           gd (decide ((v9 ++ [40]).length + v15.length < SMALL))
           (gd (decide (((v9 ++ [40]) ++ v15).length + [41].length < SMALL))
            (l_15 v11 v13 Ke1 (((v9 ++ [40]) ++ v15) ++ [41]) (IntKind.i64.wrap (v10 + 1)))))))
        else (bif decide (v11 = 4) then
         (c_ref6_text ((Rose.lab (v13.getD (Int.toNat v10) (Rose.node ((0 : Int), ((List.replicate 4 (0 : Int)), ())) [] : (Rose (Int × (LI × Unit)))))).1) ((Rose.lab (v13.getD (Int.toNat v10) (Rose.node ((0 : Int), ((List.replicate 4 (0 : Int)), ())) [] : (Rose (Int × (LI × Unit)))))).2.1) (Rose.kids (v13.getD (Int.toNat v10) (Rose.node ((0 : Int), ((List.replicate 4 (0 : Int)), ())) [] : (Rose (Int × (LI × Unit)))))) (fun v16 =>
           gd (decide (v9.length + v16.length < SMALL))
           (l_15 v11 v13 Ke1 (v9 ++ v16) (IntKind.i64.wrap (v10 + 1)))))
         else (let j19 : LI → Option R := fun v17 =>
          (bif (!(decide ((Rose.lab (v13.getD (Int.toNat v10) (Rose.node ((0 : Int), ((List.replicate 4 (0 : Int)), ())) [] : (Rose (Int × (LI × Unit)))))).1 = 2))) then
           (c_ref6_text ((Rose.lab (v13.getD (Int.toNat v10) (Rose.node ((0 : Int), ((List.replicate 4 (0 : Int)), ())) [] : (Rose (Int × (LI × Unit)))))).1) ((Rose.lab (v13.getD (Int.toNat v10) (Rose.node ((0 : Int), ((List.replicate 4 (0 : Int)), ())) [] : (Rose (Int × (LI × Unit)))))).2.1) (Rose.kids (v13.getD (Int.toNat v10) (Rose.node ((0 : Int), ((List.replicate 4 (0 : Int)), ())) [] : (Rose (Int × (LI × Unit)))))) (fun v18 =>
             gd (decide (v17.length + v18.length < SMALL))
             (l_15 v11 v13 Ke1 (v17 ++ v18) (IntKind.i64.wrap (v10 + 1)))))
           else (l_15 v11 v13 Ke1 v17 (IntKind.i64.wrap (v10 + 1))))
          (bif decide (0 < v10) then
           (gd (decide (v9.length + [124].length < SMALL))
            (j19 (v9 ++ [124])))
           else (j19 v9)))))
       (bif decide (v11 = 4) then
        (j20 (decide ((Rose.lab (v13.getD (Int.toNat v10) (Rose.node ((0 : Int), ((List.replicate 4 (0 : Int)), ())) [] : (Rose (Int × (LI × Unit)))))).1 = 5)))
        else (j20 false)))))
    else (Ke1 v9)
def ref6_text_b {R : Type} (c_ref6_set : LI → (LI → Option R) → Option R) (c_ref6_text : T6 R) (l_15 : T50 R) (v1 : Int) (v2 : LI) (v3 : (List (Rose (Int × (LI × Unit))))) (K : LI → Option R) : Option R :=
    bif decide (v1 = 1) then
    (K ([91, 93]))
    else (bif decide (v1 = 2) then
     (K ([40, 41]))
     else (bif decide (v1 = 3) then
      (c_ref6_set v2 (fun v4 =>
        K v4))
      else (bif decide (v1 = 6) then
       (gd (decide (0 < (v3.length : Int)))
        (let j8 : Bool → Option R := fun v5 =>
         (bif v5 then
          (c_ref6_text ((Rose.lab (v3.getD 0 (Rose.node ((0 : Int), ((List.replicate 4 (0 : Int)), ())) [] : (Rose (Int × (LI × Unit)))))).1) ((Rose.lab (v3.getD 0 (Rose.node ((0 : Int), ((List.replicate 4 (0 : Int)), ())) [] : (Rose (Int × (LI × Unit)))))).2.1) (Rose.kids (v3.getD 0 (Rose.node ((0 : Int), ((List.replicate 4 (0 : Int)), ())) [] : (Rose (Int × (LI × Unit)))))) (fun v6 =>
            gd (decide ([40].length + v6.length < SMALL))
            (gd (decide (([40] ++ v6).length + [41, 42].length < SMALL))
             (K (([40] ++ v6) ++ [41, 42])))))
          else (c_ref6_text ((Rose.lab (v3.getD 0 (Rose.node ((0 : Int), ((List.replicate 4 (0 : Int)), ())) [] : (Rose (Int × (LI × Unit)))))).1) ((Rose.lab (v3.getD 0 (Rose.node ((0 : Int), ((List.replicate 4 (0 : Int)), ())) [] : (Rose (Int × (LI × Unit)))))).2.1) (Rose.kids (v3.getD 0 (Rose.node ((0 : Int), ((List.replicate 4 (0 : Int)), ())) [] : (Rose (Int × (LI × Unit)))))) (fun v7 =>
            gd (decide (v7.length + [42].length < SMALL))
            (K (v7 ++ [42])))))
         (bif decide ((Rose.lab (v3.getD 0 (Rose.node ((0 : Int), ((List.replicate 4 (0 : Int)), ())) [] : (Rose (Int × (LI × Unit)))))).1 = 4) then
          (j8 true)
          else (j8 (decide ((Rose.lab (v3.getD 0 (Rose.node ((0 : Int), ((List.replicate 4 (0 : Int)), ())) [] : (Rose (Int × (LI × Unit)))))).1 = 5))))))
       else (l_15 v1 v3
        (fun v21 =>
         K v21) ([]) 0))))
def ref6_text_l15 {R : Type} (c_self : T6 R) (kf : Nat) : Nat → Int → (List (Rose (Int × (LI × Unit)))) → (LI → Option R) → LI → Int → Option R
  | 0, _, _, _, _, _ => none
  | k + 1, y0, y1, y2, y3, y4 => ref6_text_l15_b (ref6_set kf) c_self (ref6_text_l15 c_self kf k) y0 y1 y2 y3 y4
def ref6_text {R : Type} : Nat → Int → LI → (List (Rose (Int × (LI × Unit)))) → (LI → Option R) → Option R
  | 0, _, _, _, _ => none
  | kf + 1, y0, y1, y2, y3 => ref6_text_b (ref6_set kf) (ref6_text kf) (ref6_text_l15 (ref6_text kf) kf kf) y0 y1 y2 y3
def ref6_Show_b {R : Type} (c_ref5_Plain : T0 R) (c_ref6_text : T6 R) (v1 : Int) (v2 : LI) (v3 : (List (Rose (Int × (LI × Unit))))) (K : LI → Option R) : Option R :=
    c_ref5_Plain v1 v2 v3 (fun v4 =>
     bif (!v4) then
     (K ([]))
     else (c_ref6_text v1 v2 v3 (fun v5 =>
       bif decide (4000 < (v5.length : Int)) then
       (K ([]))
       else (K v5))))
def ref6_Show {R : Type} (kf : Nat) (v1 : Int) (v2 : LI) (v3 : (List (Rose (Int × (LI × Unit))))) (K : LI → Option R) : Option R := ref6_Show_b (ref5_Plain kf) (ref6_text kf) v1 v2 v3 K
def law7_ShowAll_b {R : Type} (c_law7_begun : (Bool → Option R) → Option R) (c_law5_Light : T51 R) (c_ref5_Copy : T1 R) (c_show_Show : T6 R) (c_ref6_Show : T6 R) (c_ref5_Same : T7 R) (v1 : Int) (v2 : LI) (v3 : (List (Rose (Int × (LI × Unit))))) (K : Bool → Option R) : Option R :=
    c_law7_begun (fun v4 =>
     bif (!v4) then
     (K false)
     else (c_law5_Light v1 v2 v3 600 (fun v5 =>
       bif (!v5) then
       (K true)
       else (c_ref5_Copy v1 v2 v3 (fun v6 v7 v8 =>
         c_show_Show v1 v2 v3 (fun v9 =>
          c_ref6_Show v6 v7 v8 (fun v10 =>
           bif decide (v9 = v10) then
           (c_ref5_Same v1 v2 v3 v6 v7 v8 (fun v11 =>
             K v11))
           else (K false))))))))
def law7_ShowAll {R : Type} (kf : Nat) (v1 : Int) (v2 : LI) (v3 : (List (Rose (Int × (LI × Unit))))) (K : Bool → Option R) : Option R := law7_ShowAll_b (law7_begun kf) (law5_Light kf) (ref5_Copy kf) (show_Show kf) (ref6_Show kf) (ref5_Same kf) v1 v2 v3 K
def sh3 {R : Type} (c_law7_ShowAll : T0 R) (av : List S) (es : List Ent) (K : S → List Ent → Option R) : Option R :=
  match av, es with
  | [.st [.int .i64 v1, .arr 4 (.int .u64) v2, .sl (.rose (.pair (.int .i64) (.pair (.arr 4 (.int .u64)) .unit))) v3]], [] => c_law7_ShowAll v1 v2 v3 (fun r0 => K (.bool r0) [])
  | _, _ => none
def sh9 {R : Type} (c_law7_begun : (Bool → Option R) → Option R) (av : List S) (es : List Ent) (K : S → List Ent → Option R) : Option R :=
  match av, es with
  | [], [] => c_law7_begun (fun r0 => K (.bool r0) [])
  | _, _ => none
def sh10 {R : Type} (c_law5_Light : T51 R) (av : List S) (es : List Ent) (K : S → List Ent → Option R) : Option R :=
  match av, es with
  | [.st [.int .i64 v1, .arr 4 (.int .u64) v2, .sl (.rose (.pair (.int .i64) (.pair (.arr 4 (.int .u64)) .unit))) v3], .int .i64 v4], [] => c_law5_Light v1 v2 v3 v4 (fun r0 => K (.bool r0) [])
  | _, _ => none
def sh11 {R : Type} (c_ref5_Copy : T1 R) (av : List S) (es : List Ent) (K : S → List Ent → Option R) : Option R :=
  match av, es with
  | [.st [.int .i64 v1, .arr 4 (.int .u64) v2, .sl (.rose (.pair (.int .i64) (.pair (.arr 4 (.int .u64)) .unit))) v3]], [] => c_ref5_Copy v1 v2 v3 (fun r0 r1 r2 => K (.st [.int .i64 r0, .arr 4 (.int .u64) r1, .own (.rose (.pair (.int .i64) (.pair (.arr 4 (.int .u64)) .unit))) 0]) [.buf (.rose (.pair (.int .i64) (.pair (.arr 4 (.int .u64)) .unit))) r2 false])
  | _, _ => none
def sh12 {R : Type} (c_show_Show : T6 R) (av : List S) (es : List Ent) (K : S → List Ent → Option R) : Option R :=
  match av, es with
  | [.st [.int .i64 v1, .arr 4 (.int .u64) v2, .sl (.rose (.pair (.int .i64) (.pair (.arr 4 (.int .u64)) .unit))) v3]], [] => c_show_Show v1 v2 v3 (fun r0 => K (.str r0) [])
  | _, _ => none
def sh13 {R : Type} (c_ref6_Show : T6 R) (av : List S) (es : List Ent) (K : S → List Ent → Option R) : Option R :=
  match av, es with
  | [.st [.int .i64 v1, .arr 4 (.int .u64) v2, .sl (.rose (.pair (.int .i64) (.pair (.arr 4 (.int .u64)) .unit))) v3]], [] => c_ref6_Show v1 v2 v3 (fun r0 => K (.str r0) [])
  | _, _ => none
def sh14 {R : Type} (c_ref5_Same : T7 R) (av : List S) (es : List Ent) (K : S → List Ent → Option R) : Option R :=
  match av, es with
  | [.st [.int .i64 v1, .arr 4 (.int .u64) v2, .sl (.rose (.pair (.int .i64) (.pair (.arr 4 (.int .u64)) .unit))) v3], .st [.int .i64 v4, .arr 4 (.int .u64) v5, .sl (.rose (.pair (.int .i64) (.pair (.arr 4 (.int .u64)) .unit))) v6]], [] => c_ref5_Same v1 v2 v3 v4 v5 v6 (fun r0 => K (.bool r0) [])
  | _, _ => none
def sh18 {R : Type} (c_ref5_Bytes : T19 R) (av : List S) (es : List Ent) (K : S → List Ent → Option R) : Option R :=
  match av, es with
  | [.arr 4 (.int .u64) v1], [] => c_ref5_Bytes v1 (fun r0 r1 r2 => K (.st [.int .i64 r0, .arr 4 (.int .u64) r1, .own (.rose (.pair (.int .i64) (.pair (.arr 4 (.int .u64)) .unit))) 0]) [.buf (.rose (.pair (.int .i64) (.pair (.arr 4 (.int .u64)) .unit))) r2 false])
  | _, _ => none
def sh20 {R : Type} (c_ref1_Of : LI → (LI → Option R) → Option R) (av : List S) (es : List Ent) (K : S → List Ent → Option R) : Option R :=
  match av, es with
  | [.sl (.int .u8) v1], [] => c_ref1_Of v1 (fun r0 => K (.arr 4 (.int .u64) r0) [])
  | _, _ => none
def sh21 {R : Type} (c_ref5_Star : T1 R) (av : List S) (es : List Ent) (K : S → List Ent → Option R) : Option R :=
  match av, es with
  | [.st [.int .i64 v1, .arr 4 (.int .u64) v2, .sl (.rose (.pair (.int .i64) (.pair (.arr 4 (.int .u64)) .unit))) v3]], [] => c_ref5_Star v1 v2 v3 (fun r0 r1 r2 => K (.st [.int .i64 r0, .arr 4 (.int .u64) r1, .own (.rose (.pair (.int .i64) (.pair (.arr 4 (.int .u64)) .unit))) 0]) [.buf (.rose (.pair (.int .i64) (.pair (.arr 4 (.int .u64)) .unit))) r2 false])
  | _, _ => none
def sh22 {R : Type} (c_ref5_Empty : T4 R) (av : List S) (es : List Ent) (K : S → List Ent → Option R) : Option R :=
  match av, es with
  | [], [] => c_ref5_Empty (fun r0 r1 r2 => K (.st [.int .i64 r0, .arr 4 (.int .u64) r1, .own (.rose (.pair (.int .i64) (.pair (.arr 4 (.int .u64)) .unit))) 0]) [.buf (.rose (.pair (.int .i64) (.pair (.arr 4 (.int .u64)) .unit))) r2 false])
  | _, _ => none
def sh23 {R : Type} (c_ref5_Nodes : T8 R) (av : List S) (es : List Ent) (K : S → List Ent → Option R) : Option R :=
  match av, es with
  | [.st [.int .i64 v1, .arr 4 (.int .u64) v2, .sl (.rose (.pair (.int .i64) (.pair (.arr 4 (.int .u64)) .unit))) v3]], [] => c_ref5_Nodes v1 v2 v3 (fun r0 => K (.int .i64 r0) [])
  | _, _ => none
def sh24 {R : Type} (c_ref5_Depth : T8 R) (av : List S) (es : List Ent) (K : S → List Ent → Option R) : Option R :=
  match av, es with
  | [.st [.int .i64 v1, .arr 4 (.int .u64) v2, .sl (.rose (.pair (.int .i64) (.pair (.arr 4 (.int .u64)) .unit))) v3]], [] => c_ref5_Depth v1 v2 v3 (fun r0 => K (.int .i64 r0) [])
  | _, _ => none
def sh25 {R : Type} (c_rx_Plain : T0 R) (av : List S) (es : List Ent) (K : S → List Ent → Option R) : Option R :=
  match av, es with
  | [.st [.int .i64 v1, .arr 4 (.int .u64) v2, .sl (.rose (.pair (.int .i64) (.pair (.arr 4 (.int .u64)) .unit))) v3]], [] => c_rx_Plain v1 v2 v3 (fun r0 => K (.bool r0) [])
  | _, _ => none
def sh26 {R : Type} (c_show_writer_rx : T9 R) (av : List S) (es : List Ent) (K : S → List Ent → Option R) : Option R :=
  match av, es with
  | [.ptr 0 [], .st [.int .i64 v1, .arr 4 (.int .u64) v2, .sl (.rose (.pair (.int .i64) (.pair (.arr 4 (.int .u64)) .unit))) v3]], [.box (.st [.own (.int .u8) 1, .bool v4]) false, .buf (.int .u8) v5 false] => c_show_writer_rx v1 v2 v3 v4 v5 (fun r0 r1 => K (.tup []) [.box (.st [.own (.int .u8) 1, .bool r0]) false, .buf (.int .u8) r1 false])
  | _, _ => none
def sh27 {R : Type} (c_ref5_Plain : T0 R) (av : List S) (es : List Ent) (K : S → List Ent → Option R) : Option R :=
  match av, es with
  | [.st [.int .i64 v1, .arr 4 (.int .u64) v2, .sl (.rose (.pair (.int .i64) (.pair (.arr 4 (.int .u64)) .unit))) v3]], [] => c_ref5_Plain v1 v2 v3 (fun r0 => K (.bool r0) [])
  | _, _ => none
def sh28 {R : Type} (c_ref6_text : T6 R) (av : List S) (es : List Ent) (K : S → List Ent → Option R) : Option R :=
  match av, es with
  | [.st [.int .i64 v1, .arr 4 (.int .u64) v2, .sl (.rose (.pair (.int .i64) (.pair (.arr 4 (.int .u64)) .unit))) v3]], [] => c_ref6_text v1 v2 v3 (fun r0 => K (.str r0) [])
  | _, _ => none
def sh33 {R : Type} (c_ref5_None : T4 R) (av : List S) (es : List Ent) (K : S → List Ent → Option R) : Option R :=
  match av, es with
  | [], [] => c_ref5_None (fun r0 r1 r2 => K (.st [.int .i64 r0, .arr 4 (.int .u64) r1, .own (.rose (.pair (.int .i64) (.pair (.arr 4 (.int .u64)) .unit))) 0]) [.buf (.rose (.pair (.int .i64) (.pair (.arr 4 (.int .u64)) .unit))) r2 false])
  | _, _ => none
def sh35 {R : Type} (c_ref5_Alt : T10 R) (av : List S) (es : List Ent) (K : S → List Ent → Option R) : Option R :=
  match av, es with
  | [.sl (.rose (.pair (.int .i64) (.pair (.arr 4 (.int .u64)) .unit))) v1], [] => c_ref5_Alt v1 (fun r0 r1 r2 => K (.st [.int .i64 r0, .arr 4 (.int .u64) r1, .sl (.rose (.pair (.int .i64) (.pair (.arr 4 (.int .u64)) .unit))) r2]) [])
  | _, _ => none
def sh36 {R : Type} (c_rx_bad : T45 R) (av : List S) (es : List Ent) (K : S → List Ent → Option R) : Option R :=
  match av, es with
  | [.sl (.rose (.pair (.int .i64) (.pair (.arr 4 (.int .u64)) .unit))) v1, .sl (.int .i64) v2], [] => c_rx_bad v1 v2 (fun r0 => K (.bool r0) [])
  | _, _ => none
def sh37 {R : Type} (c_rx_rising : T17 R) (av : List S) (es : List Ent) (K : S → List Ent → Option R) : Option R :=
  match av, es with
  | [.sl (.rose (.pair (.int .i64) (.pair (.arr 4 (.int .u64)) .unit))) v1], [] => c_rx_rising v1 (fun r0 => K (.bool r0) [])
  | _, _ => none
def sh38 {R : Type} (c_slices_ContainsFunc_api_Rx_api_Rx : T38 R) (c_slices_ContainsFunc_api_Rx_api_Rx_s1 : T17 R) (av : List S) (es : List Ent) (K : S → List Ent → Option R) : Option R :=
  match av, es with
  | [.sl (.rose (.pair (.int .i64) (.pair (.arr 4 (.int .u64)) .unit))) v1, .fn 54 [.ptr 0 []]], [.box (.sl (.int .i64) v2) false] => c_slices_ContainsFunc_api_Rx_api_Rx v1 v2 (fun r0 r1 => K (.bool r0) [.box (.sl (.int .i64) r1) false])
  | [.sl (.rose (.pair (.int .i64) (.pair (.arr 4 (.int .u64)) .unit))) v1, .fn 39 []], [] => c_slices_ContainsFunc_api_Rx_api_Rx_s1 v1 (fun r0 => K (.bool r0) [])
  | _, _ => none
def sh39 {R : Type} (c_rx_Plain_1 : T0 R) (av : List S) (es : List Ent) (K : S → List Ent → Option R) : Option R :=
  match av, es with
  | [.st [.int .i64 v1, .arr 4 (.int .u64) v2, .sl (.rose (.pair (.int .i64) (.pair (.arr 4 (.int .u64)) .unit))) v3]], [] => c_rx_Plain_1 v1 v2 v3 (fun r0 => K (.bool r0) [])
  | _, _ => none
def sh40 {R : Type} (c_show_writer_put : T5 R) (av : List S) (es : List Ent) (K : S → List Ent → Option R) : Option R :=
  match av, es with
  | [.ptr 0 [], .str v1], [.box (.st [.own (.int .u8) 1, .bool v2]) false, .buf (.int .u8) v3 false] => c_show_writer_put v1 v2 v3 (fun r0 r1 => K (.tup []) [.box (.st [.own (.int .u8) 1, .bool r0]) false, .buf (.int .u8) r1 false])
  | _, _ => none
def sh41 {R : Type} (c_show_writer_set : T5 R) (av : List S) (es : List Ent) (K : S → List Ent → Option R) : Option R :=
  match av, es with
  | [.ptr 0 [], .arr 4 (.int .u64) v1], [.box (.st [.own (.int .u8) 1, .bool v2]) false, .buf (.int .u8) v3 false] => c_show_writer_set v1 v2 v3 (fun r0 r1 => K (.tup []) [.box (.st [.own (.int .u8) 1, .bool r0]) false, .buf (.int .u8) r1 false])
  | _, _ => none
def sh42 {R : Type} (c_show_writer_within : T21 R) (av : List S) (es : List Ent) (K : S → List Ent → Option R) : Option R :=
  match av, es with
  | [.ptr 0 [], .st [.int .i64 v1, .arr 4 (.int .u64) v2, .sl (.rose (.pair (.int .i64) (.pair (.arr 4 (.int .u64)) .unit))) v3], .sl (.int .i64) v4], [.box (.st [.own (.int .u8) 1, .bool v5]) false, .buf (.int .u8) v6 false] => c_show_writer_within v1 v2 v3 v4 v5 v6 (fun r0 r1 => K (.tup []) [.box (.st [.own (.int .u8) 1, .bool r0]) false, .buf (.int .u8) r1 false])
  | _, _ => none
def sh43 {R : Type} (c_ref5_Cat : T10 R) (av : List S) (es : List Ent) (K : S → List Ent → Option R) : Option R :=
  match av, es with
  | [.sl (.rose (.pair (.int .i64) (.pair (.arr 4 (.int .u64)) .unit))) v1], [] => c_ref5_Cat v1 (fun r0 r1 r2 => K (.st [.int .i64 r0, .arr 4 (.int .u64) r1, .sl (.rose (.pair (.int .i64) (.pair (.arr 4 (.int .u64)) .unit))) r2]) [])
  | _, _ => none
def sh44 {R : Type} (c_ref6_set : LI → (LI → Option R) → Option R) (av : List S) (es : List Ent) (K : S → List Ent → Option R) : Option R :=
  match av, es with
  | [.arr 4 (.int .u64) v1], [] => c_ref6_set v1 (fun r0 => K (.str r0) [])
  | _, _ => none
def sh51 {R : Type} (c_ref5_flat : T13 R) (av : List S) (es : List Ent) (K : S → List Ent → Option R) : Option R :=
  match av, es with
  | [.int .i64 v1, .sl (.rose (.pair (.int .i64) (.pair (.arr 4 (.int .u64)) .unit))) v2], [] => c_ref5_flat v1 v2 (fun r0 => K (.own (.rose (.pair (.int .i64) (.pair (.arr 4 (.int .u64)) .unit))) 0) [.buf (.rose (.pair (.int .i64) (.pair (.arr 4 (.int .u64)) .unit))) r0 false])
  | _, _ => none
def sh52 {R : Type} (c_ref1_Or : T22 R) (av : List S) (es : List Ent) (K : S → List Ent → Option R) : Option R :=
  match av, es with
  | [.arr 4 (.int .u64) v1, .arr 4 (.int .u64) v2], [] => c_ref1_Or v1 v2 (fun r0 => K (.arr 4 (.int .u64) r0) [])
  | _, _ => none
def sh53 {R : Type} (c_ref5_insert : T23 R) (av : List S) (es : List Ent) (K : S → List Ent → Option R) : Option R :=
  match av, es with
  | [.sl (.rose (.pair (.int .i64) (.pair (.arr 4 (.int .u64)) .unit))) v1, .st [.int .i64 v2, .arr 4 (.int .u64) v3, .sl (.rose (.pair (.int .i64) (.pair (.arr 4 (.int .u64)) .unit))) v4]], [] => c_ref5_insert v1 v2 v3 v4 (fun r0 => K (.sl (.rose (.pair (.int .i64) (.pair (.arr 4 (.int .u64)) .unit))) r0) [])
  | _, _ => none
def sh54 {R : Type} (c_rx_bad_1 : T24 R) (av : List S) (es : List Ent) (K : S → List Ent → Option R) : Option R :=
  match av, es with
  | [.st [.int .i64 v1, .arr 4 (.int .u64) v2, .sl (.rose (.pair (.int .i64) (.pair (.arr 4 (.int .u64)) .unit))) v3], .ptr 0 []], [.box (.sl (.int .i64) v4) false] => c_rx_bad_1 v1 v2 v3 v4 (fun r0 r1 => K (.bool r0) [.box (.sl (.int .i64) r1) false])
  | _, _ => none
def sh55 {R : Type} (c_slices_Contains_int_int : T2 R) (av : List S) (es : List Ent) (K : S → List Ent → Option R) : Option R :=
  match av, es with
  | [.sl (.int .i64) v1, .int .i64 v2], [] => c_slices_Contains_int_int v1 v2 (fun r0 => K (.bool r0) [])
  | _, _ => none
def sh56 {R : Type} (c_rx_isSet : T0 R) (av : List S) (es : List Ent) (K : S → List Ent → Option R) : Option R :=
  match av, es with
  | [.st [.int .i64 v1, .arr 4 (.int .u64) v2, .sl (.rose (.pair (.int .i64) (.pair (.arr 4 (.int .u64)) .unit))) v3]], [] => c_rx_isSet v1 v2 v3 (fun r0 => K (.bool r0) [])
  | _, _ => none
def sh57 {R : Type} (c_rx_Compare : T3 R) (av : List S) (es : List Ent) (K : S → List Ent → Option R) : Option R :=
  match av, es with
  | [.st [.int .i64 v1, .arr 4 (.int .u64) v2, .sl (.rose (.pair (.int .i64) (.pair (.arr 4 (.int .u64)) .unit))) v3], .st [.int .i64 v4, .arr 4 (.int .u64) v5, .sl (.rose (.pair (.int .i64) (.pair (.arr 4 (.int .u64)) .unit))) v6]], [] => c_rx_Compare v1 v2 v3 v4 v5 v6 (fun r0 => K (.int .i64 r0) [])
  | _, _ => none
def sh58 {R : Type} (c_slices_IndexFunc_api_Rx_api_Rx : T37 R) (c_slices_IndexFunc_api_Rx_api_Rx_s1 : T44 R) (av : List S) (es : List Ent) (K : S → List Ent → Option R) : Option R :=
  match av, es with
  | [.sl (.rose (.pair (.int .i64) (.pair (.arr 4 (.int .u64)) .unit))) v1, .fn 54 [.ptr 0 []]], [.box (.sl (.int .i64) v2) false] => c_slices_IndexFunc_api_Rx_api_Rx v1 v2 (fun r0 r1 => K (.int .i64 r0) [.box (.sl (.int .i64) r1) false])
  | [.sl (.rose (.pair (.int .i64) (.pair (.arr 4 (.int .u64)) .unit))) v1, .fn 39 []], [] => c_slices_IndexFunc_api_Rx_api_Rx_s1 v1 (fun r0 => K (.int .i64 r0) [])
  | _, _ => none
def sh59 {R : Type} (c_byteset_List : LI → (LI → Option R) → Option R) (av : List S) (es : List Ent) (K : S → List Ent → Option R) : Option R :=
  match av, es with
  | [.arr 4 (.int .u64) v1], [] => c_byteset_List v1 (fun r0 => K (.own (.int .u8) 0) [.buf (.int .u8) r0 false])
  | _, _ => none
def sh60 {R : Type} (c_show_sign : Int → (LI → Option R) → Option R) (av : List S) (es : List Ent) (K : S → List Ent → Option R) : Option R :=
  match av, es with
  | [.int .u8 v1], [] => c_show_sign v1 (fun r0 => K (.str r0) [])
  | _, _ => none
def sh61 {R : Type} (c_ref1_List : LI → (LI → Option R) → Option R) (av : List S) (es : List Ent) (K : S → List Ent → Option R) : Option R :=
  match av, es with
  | [.arr 4 (.int .u64) v1], [] => c_ref1_List v1 (fun r0 => K (.own (.int .u8) 0) [.buf (.int .u8) r0 false])
  | _, _ => none
def sh62 {R : Type} (c_ref6_sign : Int → (LI → Option R) → Option R) (av : List S) (es : List Ent) (K : S → List Ent → Option R) : Option R :=
  match av, es with
  | [.int .u8 v1], [] => c_ref6_sign v1 (fun r0 => K (.str r0) [])
  | _, _ => none
def sh67 {R : Type} (c_ref5_Compare : T3 R) (av : List S) (es : List Ent) (K : S → List Ent → Option R) : Option R :=
  match av, es with
  | [.st [.int .i64 v1, .arr 4 (.int .u64) v2, .sl (.rose (.pair (.int .i64) (.pair (.arr 4 (.int .u64)) .unit))) v3], .st [.int .i64 v4, .arr 4 (.int .u64) v5, .sl (.rose (.pair (.int .i64) (.pair (.arr 4 (.int .u64)) .unit))) v6]], [] => c_ref5_Compare v1 v2 v3 v4 v5 v6 (fun r0 => K (.int .i64 r0) [])
  | _, _ => none
def sh68 {R : Type} (c_ref5_Equal : T7 R) (av : List S) (es : List Ent) (K : S → List Ent → Option R) : Option R :=
  match av, es with
  | [.st [.int .i64 v1, .arr 4 (.int .u64) v2, .sl (.rose (.pair (.int .i64) (.pair (.arr 4 (.int .u64)) .unit))) v3], .st [.int .i64 v4, .arr 4 (.int .u64) v5, .sl (.rose (.pair (.int .i64) (.pair (.arr 4 (.int .u64)) .unit))) v6]], [] => c_ref5_Equal v1 v2 v3 v4 v5 v6 (fun r0 => K (.bool r0) [])
  | _, _ => none
def sh69 {R : Type} (c_slices_Index_int_int : T35 R) (av : List S) (es : List Ent) (K : S → List Ent → Option R) : Option R :=
  match av, es with
  | [.sl (.int .i64) v1, .int .i64 v2], [] => c_slices_Index_int_int v1 v2 (fun r0 => K (.int .i64 r0) [])
  | _, _ => none
def sh70 {R : Type} (c_cmp_Compare_int : T40 R) (av : List S) (es : List Ent) (K : S → List Ent → Option R) : Option R :=
  match av, es with
  | [.int .i64 v1, .int .i64 v2], [] => c_cmp_Compare_int v1 v2 (fun r0 => K (.int .i64 r0) [])
  | _, _ => none
def sh71 {R : Type} (c_byteset_Less : T12 R) (av : List S) (es : List Ent) (K : S → List Ent → Option R) : Option R :=
  match av, es with
  | [.arr 4 (.int .u64) v1, .arr 4 (.int .u64) v2], [] => c_byteset_Less v1 v2 (fun r0 => K (.bool r0) [])
  | _, _ => none
def sh72 {R : Type} (c_slices_CompareFunc_api_Rx_api_Rx_api_Rx_api_Rx : T41 R) (av : List S) (es : List Ent) (K : S → List Ent → Option R) : Option R :=
  match av, es with
  | [.sl (.rose (.pair (.int .i64) (.pair (.arr 4 (.int .u64)) .unit))) v1, .sl (.rose (.pair (.int .i64) (.pair (.arr 4 (.int .u64)) .unit))) v2, .fn 57 []], [] => c_slices_CompareFunc_api_Rx_api_Rx_api_Rx_api_Rx v1 v2 (fun r0 => K (.int .i64 r0) [])
  | _, _ => none
def sh73 {R : Type} (c_byteset_Has : T2 R) (av : List S) (es : List Ent) (K : S → List Ent → Option R) : Option R :=
  match av, es with
  | [.arr 4 (.int .u64) v1, .int .u8 v2], [] => c_byteset_Has v1 v2 (fun r0 => K (.bool r0) [])
  | _, _ => none
def sh74 {R : Type} (av : List S) (es : List Ent) (K : S → List Ent → Option R) : Option R :=
  match av, es with
  | [.str v1, .int .u8 v2], [] => K (.int .i64 (idxB v1 v2)) []
  | _, _ => none
def sh75 {R : Type} (c_ref1_Has : T2 R) (av : List S) (es : List Ent) (K : S → List Ent → Option R) : Option R :=
  match av, es with
  | [.arr 4 (.int .u64) v1, .int .u8 v2], [] => c_ref1_Has v1 v2 (fun r0 => K (.bool r0) [])
  | _, _ => none
def sh76 {R : Type} (c_ref6_in : T2 R) (av : List S) (es : List Ent) (K : S → List Ent → Option R) : Option R :=
  match av, es with
  | [.str v1, .int .u8 v2], [] => c_ref6_in v1 v2 (fun r0 => K (.bool r0) [])
  | _, _ => none
def sh79 {R : Type} (c_ref1_SetLess : T12 R) (av : List S) (es : List Ent) (K : S → List Ent → Option R) : Option R :=
  match av, es with
  | [.arr 4 (.int .u64) v1, .arr 4 (.int .u64) v2], [] => c_ref1_SetLess v1 v2 (fun r0 => K (.bool r0) [])
  | _, _ => none
def sh80 {R : Type} (c_cmp_isNaN_int : Int → (Bool → Option R) → Option R) (av : List S) (es : List Ent) (K : S → List Ent → Option R) : Option R :=
  match av, es with
  | [.int .i64 v1], [] => c_cmp_isNaN_int v1 (fun r0 => K (.bool r0) [])
  | _, _ => none
def sh81 {R : Type} (c_math_bits_TrailingZeros64 : Int → (Int → Option R) → Option R) (av : List S) (es : List Ent) (K : S → List Ent → Option R) : Option R :=
  match av, es with
  | [.int .u64 v1], [] => c_math_bits_TrailingZeros64 v1 (fun r0 => K (.int .i64 r0) [])
  | _, _ => none
end
end Go.Ab.T
