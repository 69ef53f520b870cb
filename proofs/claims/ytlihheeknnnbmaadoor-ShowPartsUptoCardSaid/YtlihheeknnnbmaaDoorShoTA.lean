/- ShoTA: a part of the proofs of this seat's statements. -/
import Derived.Test.YtlihheeknnnbmaaDoorDef
import Derived.Test.YtlihheeknnnbmaaDoorPrimX
import Derived.Test.YtlihheeknnnbmaaDoorProg
import Derived.KernelRfl
namespace Go.Ab.T
abbrev LI := List Int
abbrev LL := List (List Int)
abbrev LB := List Bool
abbrev T0 (R : Type) : Type := Int → LI → (List (Rose (Int × (LI × Unit)))) → (Int → LI → (List (Rose (Int × (LI × Unit)))) → Option R) → Option R
abbrev T1 (R : Type) : Type := (Int → LI → (List (Rose (Int × (LI × Unit)))) → Option R) → Option R
abbrev T2 (R : Type) : Type := LI → Int → (Bool → Option R) → Option R
abbrev T3 (R : Type) : Type := Int → LI → (List (Rose (Int × (LI × Unit)))) → Int → LI → (List (Rose (Int × (LI × Unit)))) → (Int → Option R) → Option R
abbrev T4 (R : Type) : Type := Int → LI → (List (Rose (Int × (LI × Unit)))) → (Bool → Option R) → Option R
abbrev T5 (R : Type) : Type := LI → Bool → LI → (Bool → LI → Option R) → Option R
abbrev T6 (R : Type) : Type := Int → LI → (List (Rose (Int × (LI × Unit)))) → Bool → LI → (Bool → LI → Option R) → Option R
abbrev T7 (R : Type) : Type := (List (Rose (Int × (LI × Unit)))) → (Int → LI → (List (Rose (Int × (LI × Unit)))) → Option R) → Option R
abbrev T8 (R : Type) : Type := (List (Rose (Int × (LI × Unit)))) → Int → (Bool → LI → Option R) → Int → Bool → LI → Option R
abbrev T9 (R : Type) : Type := Int → LI → (List (Rose (Int × (LI × Unit)))) → (LI → Int → LI → (List (Rose (Int × (LI × Unit)))) → Option R) → LI → Int → Option R
abbrev T10 (R : Type) : Type := LI → (Int → LI → (List (Rose (Int × (LI × Unit)))) → Option R) → Option R
abbrev T11 (R : Type) : Type := LI → LI → (Bool → Option R) → Option R
abbrev T12 (R : Type) : Type := Int → (List (Rose (Int × (LI × Unit)))) → ((List (Rose (Int × (LI × Unit)))) → Option R) → Option R
abbrev T13 (R : Type) : Type := Int → LI → (List (Rose (Int × (LI × Unit)))) → (LI → Option R) → Option R
abbrev T14 (R : Type) : Type := Int → LI → (List (Rose (Int × (LI × Unit)))) → Int → LI → (List (Rose (Int × (LI × Unit)))) → (Int → LI → (List (Rose (Int × (LI × Unit)))) → Int → LI → (List (Rose (Int × (LI × Unit)))) → (List (Rose (Int × (LI × Unit)))) → Option R) → Int → (List (Rose (Int × (LI × Unit)))) → Option R
abbrev T15 (R : Type) : Type := LI → (LI → Option R) → Int → LI → Option R
abbrev T16 (R : Type) : Type := LI → LI → (Bool → Option R) → (Option R) → Int → Option R
abbrev T17 (R : Type) : Type := (List (Rose (Int × (LI × Unit)))) → (Bool → Option R) → Option R
abbrev T18 (R : Type) : Type := Int → LI → (List (Rose (Int × (LI × Unit)))) → Option R
abbrev T19 (R : Type) : Type := Int → LI → (List (Rose (Int × (LI × Unit)))) → LI → Bool → LI → (Bool → LI → Option R) → Option R
abbrev T20 (R : Type) : Type := Int → LI → Int → (Int → LI → Int → Option R) → Option R
abbrev T21 (R : Type) : Type := Int → LI → Int → (Int → LI → (List (Rose (Int × (LI × Unit)))) → LI → Int → Option R) → Option R
abbrev T22 (R : Type) : Type := LI → (LI → Int → Option R) → Option R
abbrev T23 (R : Type) : Type := LI → Int → (Int → LI → (List (Rose (Int × (LI × Unit)))) → LI → Int → Option R) → Option R
abbrev T24 (R : Type) : Type := Int → LI → (List (Rose (Int × (LI × Unit)))) → Int → LI → (List (Rose (Int × (LI × Unit)))) → (Bool → Option R) → Option R
abbrev T25 (R : Type) : Type := LI → LI → (LI → Option R) → Option R
abbrev T26 (R : Type) : Type := (List (Rose (Int × (LI × Unit)))) → Int → LI → (List (Rose (Int × (LI × Unit)))) → ((List (Rose (Int × (LI × Unit)))) → Option R) → Option R
abbrev T27 (R : Type) : Type := Int → LI → (List (Rose (Int × (LI × Unit)))) → LI → (Bool → LI → Option R) → Option R
abbrev T28 (R : Type) : Type := (Bool → LI → Option R) → Int → Bool → LI → LI → Option R
abbrev T29 (R : Type) : Type := Int → Bool → LI → LI → (Int → Int → Bool → LI → LI → Option R) → Int → Option R
abbrev T30 (R : Type) : Type := LI → LI → (LI → LI → Option R) → Int → LI → Option R
abbrev T31 (R : Type) : Type := Int → (List (Rose (Int × (LI × Unit)))) → ((List (Rose (Int × (LI × Unit)))) → Option R) → Int → (List (Rose (Int × (LI × Unit)))) → Option R
abbrev T32 (R : Type) : Type := Int → LI → (List (Rose (Int × (LI × Unit)))) → Int → LI → (List (Rose (Int × (LI × Unit)))) → (Int → Int → LI → (List (Rose (Int × (LI × Unit)))) → Int → LI → (List (Rose (Int × (LI × Unit)))) → Option R) → (Int → LI → (List (Rose (Int × (LI × Unit)))) → Int → LI → (List (Rose (Int × (LI × Unit)))) → Option R) → Int → Option R
abbrev T33 (R : Type) : Type := (List (Rose (Int × (LI × Unit)))) → Int → LI → (List (Rose (Int × (LI × Unit)))) → ((List (Rose (Int × (LI × Unit)))) → Int → Int → LI → (List (Rose (Int × (LI × Unit)))) → Option R) → Int → Option R
abbrev T34 (R : Type) : Type := Int → LI → (List (Rose (Int × (LI × Unit)))) → (List (Rose (Int × (LI × Unit)))) → ((List (Rose (Int × (LI × Unit)))) → Int → LI → LI → (List (Rose (Int × (LI × Unit)))) → Option R) → (List (Rose (Int × (LI × Unit)))) → Int → LI → Option R
abbrev T35 (R : Type) : Type := LI → Int → Int → (Int → Option R) → (Option R) → Int → Option R
abbrev T36 (R : Type) : Type := LI → Int → (Int → Option R) → Option R
abbrev T37 (R : Type) : Type := (List (Rose (Int × (LI × Unit)))) → Int → (Int → LI → Option R) → (LI → Option R) → Int → LI → Option R
abbrev T38 (R : Type) : Type := (List (Rose (Int × (LI × Unit)))) → LI → (Int → LI → Option R) → Option R
abbrev T39 (R : Type) : Type := (List (Rose (Int × (LI × Unit)))) → LI → (Bool → LI → Option R) → Option R
abbrev T40 (R : Type) : Type := (List (Rose (Int × (LI × Unit)))) → (List (Rose (Int × (LI × Unit)))) → (List (Rose (Int × (LI × Unit)))) → Int → ((List (Rose (Int × (LI × Unit)))) → (List (Rose (Int × (LI × Unit)))) → Int → Option R) → ((List (Rose (Int × (LI × Unit)))) → (List (Rose (Int × (LI × Unit)))) → Option R) → Int → Option R
abbrev T41 (R : Type) : Type := Int → Int → (Int → Option R) → Option R
abbrev T42 (R : Type) : Type := (List (Rose (Int × (LI × Unit)))) → (List (Rose (Int × (LI × Unit)))) → (Int → Option R) → Option R
abbrev T43 (R : Type) : Type := (List (Rose (Int × (LI × Unit)))) → (List (Rose (Int × (LI × Unit)))) → Int → (Bool → Int → Option R) → (Int → Option R) → Int → Int → Option R
abbrev T44 (R : Type) : Type := (List (Rose (Int × (LI × Unit)))) → Int → (Int → Option R) → (Option R) → Int → Option R
abbrev T45 (R : Type) : Type := (List (Rose (Int × (LI × Unit)))) → (Int → Option R) → Option R
abbrev T46 (R : Type) : Type := (List (Rose (Int × (LI × Unit)))) → LI → (Bool → Option R) → Option R
abbrev T47 (R : Type) : Type := LB → LI → (LI → LI → Option R) → Int → LI → Option R
abbrev T48 (R : Type) : Type := Int → LI → (LI → LB → Option R) → Int → LB → Option R
abbrev T49 (R : Type) : Type := LI → LI → (LI → LB → Option R) → Int → LB → Option R
abbrev T50 (R : Type) : Type := Int → Int → (LI → Option R) → Option R
abbrev T51 (R : Type) : Type := Int → LI → (List (Rose (Int × (LI × Unit)))) → (List (Rose (Int × (LI × Unit)))) → (Int → LI → (List (Rose (Int × (LI × Unit)))) → (List (Rose (Int × (LI × Unit)))) → Option R) → (Int → LI → (List (Rose (Int × (LI × Unit)))) → (List (Rose (Int × (LI × Unit)))) → Option R) → Int → (List (Rose (Int × (LI × Unit)))) → Option R
abbrev T52 (R : Type) : Type := LI → Int → (Bool → LI → Int → Option R) → Option R
abbrev T53 (R : Type) : Type := LI → Int → (LI → LI → Int → Option R) → Option R
abbrev T54 (R : Type) : Type := (List (Rose (Int × (LI × Unit)))) → Option R
abbrev T55 (R : Type) : Type := Int → LI → (List (Rose (Int × (LI × Unit)))) → LI → Int → Option R
open Go Go.Ab Go.Proofs
set_option maxRecDepth 100000
set_option linter.unusedVariables false
noncomputable section
def deBruijn : List Int := [0, 1, 56, 2, 57, 49, 28, 3, 61, 58, 42, 50, 38, 29, 17, 4, 62, 47, 59, 36, 45, 43, 51, 22, 53, 39, 33, 30, 24, 18, 12, 5, 63, 55, 48, 27, 60, 41, 37, 16, 46, 35, 44, 21, 52, 32, 23, 11, 54, 26, 40, 15, 34, 20, 31, 10, 25, 14, 19, 9, 13, 8, 7, 6]
def glob : Nat → Option S := fun g => if g = 0 then some (.arr 64 (.int .u8) deBruijn) else none
def raw : FuncId → Bool := fun f => [].contains f
def yy17_l3_b {R : Type} (l_3 : T30 R) (v2 : LI) (v4 : LI) (Ke0 : LI → LI → Option R) (v3 : Int) (v5 : LI) : Option R :=
    bif decide (v3 < (v2.length : Int)) then
    (gd (decide (0 ≤ v3))
     (gd (decide (v3 < (v2.length : Int)))
      (gd (decide (0 ≤ (IntKind.u8.wrap (Int.tdiv (v2.getD (Int.toNat v3) (0 : Int)) 64))))
       (gd (decide ((IntKind.u8.wrap (Int.tdiv (v2.getD (Int.toNat v3) (0 : Int)) 64)) < 4))
        (gd (decide (0 ≤ v3))
         (gd (decide (v3 < (v2.length : Int)))
          (gd (decide (0 ≤ (Int.tmod (v2.getD (Int.toNat v3) (0 : Int)) 64)))
           (gd (decide (0 ≤ (IntKind.u8.wrap (Int.tdiv (v2.getD (Int.toNat v3) (0 : Int)) 64))))
            (gd (decide ((IntKind.u8.wrap (Int.tdiv (v2.getD (Int.toNat v3) (0 : Int)) 64)) < 4))
             (l_3 v2 v4 Ke0 (IntKind.i64.wrap (v3 + 1)) (v5.set (Int.toNat (IntKind.u8.wrap (Int.tdiv (v2.getD (Int.toNat v3) (0 : Int)) 64))) (bvop .u64 .or (v5.getD (Int.toNat (IntKind.u8.wrap (Int.tdiv (v2.getD (Int.toNat v3) (0 : Int)) 64))) (0 : Int)) (shl .u64 1 (Int.tmod (v2.getD (Int.toNat v3) (0 : Int)) 64))))))))))))))
    else (Ke0 v4 v5)
def yy17_b {R : Type} (l_3 : T30 R) (v1 : LI) (K : LI → Option R) : Option R :=
    l_3 v1 (List.replicate 4 (0 : Int))
    (fun v6 v7 =>
     K v7) 0 (List.replicate 4 (0 : Int))
def yy17_l3 {R : Type} (kf : Nat) : Nat → LI → LI → (LI → LI → Option R) → Int → LI → Option R
  | 0, _, _, _, _, _ => none
  | k + 1, y0, y1, y2, y3, y4 => yy17_l3_b (yy17_l3 kf k) y0 y1 y2 y3 y4
def yy17 {R : Type} (kf : Nat) (v1 : LI) (K : LI → Option R) : Option R := yy17_b (yy17_l3 kf kf) v1 K
def yy29_b {R : Type} (K : T18 R) : Option R :=
    K 1 (List.replicate 4 (0 : Int)) ([] : List (Rose (Int × (LI × Unit))))
def yy29 {R : Type} (K : T18 R) : Option R := yy29_b K
def yy23_b {R : Type} (c_yy29 : T1 R) (v1 : LI) (K : T18 R) : Option R :=
    bif decide (v1 = (List.replicate 4 (0 : Int))) then
    (c_yy29 (fun v2 v3 v4 =>
      K v2 v3 v4))
    else (K 3 v1 ([] : List (Rose (Int × (LI × Unit)))))
def yy23 {R : Type} (v1 : LI) (K : T18 R) : Option R := yy23_b yy29 v1 K
def yy26_l3_b {R : Type} (c_yy26 : T0 R) (l_3 : T14 R) (v5 : Int) (v6 : LI) (v7 : (List (Rose (Int × (LI × Unit))))) (v8 : Int) (v9 : LI) (v11 : (List (Rose (Int × (LI × Unit))))) (Ke0 : Int → LI → (List (Rose (Int × (LI × Unit)))) → Int → LI → (List (Rose (Int × (LI × Unit)))) → (List (Rose (Int × (LI × Unit)))) → Option R) (v4 : Int) (v10 : (List (Rose (Int × (LI × Unit))))) : Option R :=
    bif decide (v4 < (v7.length : Int)) then
    (gd (decide (0 ≤ v4))
     (gd (decide (v4 < (v7.length : Int)))
      (c_yy26 ((Rose.lab (v7.getD (Int.toNat v4) (Rose.node ((0 : Int), ((List.replicate 4 (0 : Int)), ())) [] : (Rose (Int × (LI × Unit)))))).1) ((Rose.lab (v7.getD (Int.toNat v4) (Rose.node ((0 : Int), ((List.replicate 4 (0 : Int)), ())) [] : (Rose (Int × (LI × Unit)))))).2.1) (Rose.kids (v7.getD (Int.toNat v4) (Rose.node ((0 : Int), ((List.replicate 4 (0 : Int)), ())) [] : (Rose (Int × (LI × Unit)))))) (fun v12 v13 v14 =>
        gd (decide (v10.length + ([(Rose.node (v12, v13, ()) v14)] : List (Rose (Int × (LI × Unit)))).length < SMALL))
        (l_3 v5 v6 v7 v8 v9 v11 Ke0 (IntKind.i64.wrap (v4 + 1)) (v10 ++ ([(Rose.node (v12, v13, ()) v14)] : List (Rose (Int × (LI × Unit))))))))))
    else (Ke0 v5 v6 v7 v8 v9 v10 v11)
def yy26_b {R : Type} (c_yy26 : T0 R) (l_3 : T14 R) (v1 : Int) (v2 : LI) (v3 : (List (Rose (Int × (LI × Unit))))) (K : T18 R) : Option R :=
    l_3 v1 v2 v3 0 (List.replicate 4 (0 : Int)) ([] : List (Rose (Int × (LI × Unit))))
    (fun v15 v16 v17 v18 v19 v20 v21 =>
     K v15 v16 v20) 0 ([] : List (Rose (Int × (LI × Unit))))
def yy26_l3 {R : Type} (c_self : T0 R) (kf : Nat) : Nat → Int → LI → (List (Rose (Int × (LI × Unit)))) → Int → LI → (List (Rose (Int × (LI × Unit)))) → (Int → LI → (List (Rose (Int × (LI × Unit)))) → Int → LI → (List (Rose (Int × (LI × Unit)))) → (List (Rose (Int × (LI × Unit)))) → Option R) → Int → (List (Rose (Int × (LI × Unit)))) → Option R
  | 0, _, _, _, _, _, _, _, _, _ => none
  | k + 1, y0, y1, y2, y3, y4, y5, y6, y7, y8 => yy26_l3_b c_self (yy26_l3 c_self kf k) y0 y1 y2 y3 y4 y5 y6 y7 y8
def yy26 {R : Type} : Nat → Int → LI → (List (Rose (Int × (LI × Unit)))) → (Int → LI → (List (Rose (Int × (LI × Unit)))) → Option R) → Option R
  | 0, _, _, _, _ => none
  | kf + 1, y0, y1, y2, y3 => yy26_b (yy26 kf) (yy26_l3 (yy26 kf) kf kf) y0 y1 y2 y3
def yy27_b {R : Type} (K : T18 R) : Option R :=
    K 2 (List.replicate 4 (0 : Int)) ([] : List (Rose (Int × (LI × Unit))))
def yy27 {R : Type} (K : T18 R) : Option R := yy27_b K
def yy31_l3_b {R : Type} (l_3 : T31 R) (v3 : Int) (v4 : (List (Rose (Int × (LI × Unit))))) (Ke0 : (List (Rose (Int × (LI × Unit)))) → Option R) (v5 : Int) (v6 : (List (Rose (Int × (LI × Unit))))) : Option R :=
    bif decide (v5 < (v4.length : Int)) then
    (gd (decide (0 ≤ v5))
     (gd (decide (v5 < (v4.length : Int)))
      (bif decide ((Rose.lab (v4.getD (Int.toNat v5) (Rose.node ((0 : Int), ((List.replicate 4 (0 : Int)), ())) [] : (Rose (Int × (LI × Unit)))))).1 = v3) then
       (gd (decide (0 ≤ v5))
        (gd (decide (v5 < (v4.length : Int)))
         (gd (decide (v6.length + (Rose.kids (v4.getD (Int.toNat v5) (Rose.node ((0 : Int), ((List.replicate 4 (0 : Int)), ())) [] : (Rose (Int × (LI × Unit)))))).length < SMALL))
          (l_3 v3 v4 Ke0 (IntKind.i64.wrap (v5 + 1)) (v6 ++ (Rose.kids (v4.getD (Int.toNat v5) (Rose.node ((0 : Int), ((List.replicate 4 (0 : Int)), ())) [] : (Rose (Int × (LI × Unit)))))))))))
       else (gd (decide (0 ≤ v5))
        (gd (decide (v5 < (v4.length : Int)))
         (gd (decide (v6.length + ([(Rose.node ((Rose.lab (v4.getD (Int.toNat v5) (Rose.node ((0 : Int), ((List.replicate 4 (0 : Int)), ())) [] : (Rose (Int × (LI × Unit)))))).1, (Rose.lab (v4.getD (Int.toNat v5) (Rose.node ((0 : Int), ((List.replicate 4 (0 : Int)), ())) [] : (Rose (Int × (LI × Unit)))))).2.1, ()) (Rose.kids (v4.getD (Int.toNat v5) (Rose.node ((0 : Int), ((List.replicate 4 (0 : Int)), ())) [] : (Rose (Int × (LI × Unit)))))))] : List (Rose (Int × (LI × Unit)))).length < SMALL))
          (l_3 v3 v4 Ke0 (IntKind.i64.wrap (v5 + 1)) (v6 ++ ([(Rose.node ((Rose.lab (v4.getD (Int.toNat v5) (Rose.node ((0 : Int), ((List.replicate 4 (0 : Int)), ())) [] : (Rose (Int × (LI × Unit)))))).1, (Rose.lab (v4.getD (Int.toNat v5) (Rose.node ((0 : Int), ((List.replicate 4 (0 : Int)), ())) [] : (Rose (Int × (LI × Unit)))))).2.1, ()) (Rose.kids (v4.getD (Int.toNat v5) (Rose.node ((0 : Int), ((List.replicate 4 (0 : Int)), ())) [] : (Rose (Int × (LI × Unit)))))))] : List (Rose (Int × (LI × Unit))))))))))))
    else (Ke0 v6)
def yy31_b {R : Type} (l_3 : T31 R) (v1 : Int) (v2 : (List (Rose (Int × (LI × Unit))))) (K : T54 R) : Option R :=
    l_3 v1 v2
    (fun v7 =>
     K v7) 0 ([] : List (Rose (Int × (LI × Unit))))
def yy31_l3 {R : Type} (kf : Nat) : Nat → Int → (List (Rose (Int × (LI × Unit)))) → ((List (Rose (Int × (LI × Unit)))) → Option R) → Int → (List (Rose (Int × (LI × Unit)))) → Option R
  | 0, _, _, _, _, _ => none
  | k + 1, y0, y1, y2, y3, y4 => yy31_l3_b (yy31_l3 kf k) y0 y1 y2 y3 y4
def yy31 {R : Type} (kf : Nat) (v1 : Int) (v2 : (List (Rose (Int × (LI × Unit))))) (K : T54 R) : Option R := yy31_b (yy31_l3 kf kf) v1 v2 K
def yy14_b {R : Type} (v1 : LI) (v2 : Int) (K : Bool → Option R) : Option R :=
    gd (decide (0 ≤ (IntKind.u8.wrap (Int.tdiv v2 64))))
    (gd (decide ((IntKind.u8.wrap (Int.tdiv v2 64)) < 4))
     (gd (decide (0 ≤ (Int.tmod v2 64)))
      (K (decide ((Int.tmod (shr .u64 (v1.getD (Int.toNat (IntKind.u8.wrap (Int.tdiv v2 64))) (0 : Int)) (Int.tmod v2 64)) 2) = 1)))))
def yy14 {R : Type} (v1 : LI) (v2 : Int) (K : Bool → Option R) : Option R := yy14_b v1 v2 K
def yy15_l3_b {R : Type} (c_yy14 : T2 R) (l_3 : T15 R) (v3 : LI) (Ke0 : LI → Option R) (v2 : Int) (v4 : LI) : Option R :=
    bif decide (v2 < 256) then
    (c_yy14 v3 (IntKind.u8.wrap v2) (fun v5 =>
      bif v5 then
      (gd (decide (v4.length + ([(IntKind.u8.wrap v2)] : List Int).length < SMALL))
       (l_3 v3 Ke0 (IntKind.i64.wrap (v2 + 1)) (v4 ++ ([(IntKind.u8.wrap v2)] : List Int))))
      else (l_3 v3 Ke0 (IntKind.i64.wrap (v2 + 1)) v4)))
    else (Ke0 v4)
def yy15_b {R : Type} (c_yy14 : T2 R) (l_3 : T15 R) (v1 : LI) (K : LI → Option R) : Option R :=
    l_3 v1
    (fun v6 =>
     K v6) 0 ([] : List Int)
def yy15_l3 {R : Type} (kf : Nat) : Nat → LI → (LI → Option R) → Int → LI → Option R
  | 0, _, _, _, _ => none
  | k + 1, y0, y1, y2, y3 => yy15_l3_b yy14 (yy15_l3 kf k) y0 y1 y2 y3
def yy15 {R : Type} (kf : Nat) (v1 : LI) (K : LI → Option R) : Option R := yy15_b yy14 (yy15_l3 kf kf) v1 K
def yy18_b {R : Type} (c_yy15 : LI → (LI → Option R) → Option R) (c_yy17 : LI → (LI → Option R) → Option R) (v1 : LI) (v2 : LI) (K : LI → Option R) : Option R :=
    c_yy15 v1 (fun v3 =>
     c_yy15 v2 (fun v4 =>
      gd (decide (v3.length + v4.length < SMALL))
      (c_yy17 (v3 ++ v4) (fun v5 =>
        K v5))))
def yy18 {R : Type} (kf : Nat) (v1 : LI) (v2 : LI) (K : LI → Option R) : Option R := yy18_b (yy15 kf) (yy17 kf) v1 v2 K
def yy20_l2_b {R : Type} (c_yy14 : T2 R) (l_2 : T16 R) (v4 : LI) (v5 : LI) (Kr : Bool → Option R) (Ke0 : Option R) (v3 : Int) : Option R :=
    bif decide (v3 < 256) then
    (c_yy14 v4 (IntKind.u8.wrap v3) (fun v6 =>
      c_yy14 v5 (IntKind.u8.wrap v3) (fun v7 =>
       bif (!(decide (v6 = v7))) then
       (c_yy14 v4 (IntKind.u8.wrap v3) (fun v8 =>
         Kr v8))
       else (l_2 v4 v5 Kr Ke0 (IntKind.i64.wrap (v3 + 1))))))
    else (Ke0)
def yy20_b {R : Type} (c_yy14 : T2 R) (l_2 : T16 R) (v1 : LI) (v2 : LI) (K : Bool → Option R) : Option R :=
    l_2 v1 v2
    (fun v9 =>
     K v9)
    (K false) 0
def yy20_l2 {R : Type} (kf : Nat) : Nat → LI → LI → (Bool → Option R) → (Option R) → Int → Option R
  | 0, _, _, _, _, _ => none
  | k + 1, y0, y1, y2, y3, y4 => yy20_l2_b yy14 (yy20_l2 kf k) y0 y1 y2 y3 y4
def yy20 {R : Type} (kf : Nat) (v1 : LI) (v2 : LI) (K : Bool → Option R) : Option R := yy20_b yy14 (yy20_l2 kf kf) v1 v2 K
def yy25_l10_b {R : Type} (c_yy20 : T11 R) (c_yy25 : T3 R) (l_10 : T32 R) (v10 : Int) (v11 : LI) (v12 : (List (Rose (Int × (LI × Unit))))) (v13 : Int) (v14 : LI) (v15 : (List (Rose (Int × (LI × Unit))))) (Kr : Int → Int → LI → (List (Rose (Int × (LI × Unit)))) → Int → LI → (List (Rose (Int × (LI × Unit)))) → Option R) (Ke0 : Int → LI → (List (Rose (Int × (LI × Unit)))) → Int → LI → (List (Rose (Int × (LI × Unit)))) → Option R) (v9 : Int) : Option R :=
    bif decide (v9 < (v12.length : Int)) then
    (bif decide (v9 < (v15.length : Int)) then
     (gd (decide (0 ≤ v9))
      (gd (decide (v9 < (v12.length : Int)))
       (gd (decide (0 ≤ v9))
        (gd (decide (v9 < (v15.length : Int)))
         (c_yy25 ((Rose.lab (v12.getD (Int.toNat v9) (Rose.node ((0 : Int), ((List.replicate 4 (0 : Int)), ())) [] : (Rose (Int × (LI × Unit)))))).1) ((Rose.lab (v12.getD (Int.toNat v9) (Rose.node ((0 : Int), ((List.replicate 4 (0 : Int)), ())) [] : (Rose (Int × (LI × Unit)))))).2.1) (Rose.kids (v12.getD (Int.toNat v9) (Rose.node ((0 : Int), ((List.replicate 4 (0 : Int)), ())) [] : (Rose (Int × (LI × Unit)))))) ((Rose.lab (v15.getD (Int.toNat v9) (Rose.node ((0 : Int), ((List.replicate 4 (0 : Int)), ())) [] : (Rose (Int × (LI × Unit)))))).1) ((Rose.lab (v15.getD (Int.toNat v9) (Rose.node ((0 : Int), ((List.replicate 4 (0 : Int)), ())) [] : (Rose (Int × (LI × Unit)))))).2.1) (Rose.kids (v15.getD (Int.toNat v9) (Rose.node ((0 : Int), ((List.replicate 4 (0 : Int)), ())) [] : (Rose (Int × (LI × Unit)))))) (fun v16 =>
           bif (!(decide (v16 = 0))) then
           (Kr v16 v10 v11 v12 v13 v14 v15)
           else (l_10 v10 v11 v12 v13 v14 v15 Kr Ke0 (IntKind.i64.wrap (v9 + 1)))))))))
     else (Ke0 v10 v11 v12 v13 v14 v15))
    else (Ke0 v10 v11 v12 v13 v14 v15)
def yy25_b {R : Type} (c_yy20 : T11 R) (c_yy25 : T3 R) (l_10 : T32 R) (v1 : Int) (v2 : LI) (v3 : (List (Rose (Int × (LI × Unit))))) (v4 : Int) (v5 : LI) (v6 : (List (Rose (Int × (LI × Unit))))) (K : Int → Option R) : Option R :=
    bif (!(decide (v1 = v4))) then
    (bif decide (v1 < v4) then
     (K (-1))
     else (K 1))
    else (let j30 : Bool → Option R := fun v7 =>
     (bif v7 then
      (c_yy20 v2 v5 (fun v8 =>
        bif v8 then
        (K (-1))
        else (K 1)))
      else (l_10 v1 v2 v3 v4 v5 v6
       (fun v17 v18 v19 v20 v21 v22 v23 =>
        K v17)
       (fun v24 v25 v26 v27 v28 v29 =>
        bif decide ((v26.length : Int) < (v29.length : Int)) then
        (K (-1))
        else (bif decide ((v29.length : Int) < (v26.length : Int)) then
         (K 1)
         else (K 0))) 0))
     (bif decide (v1 = 3) then
      (j30 (!(decide (v2 = v5))))
      else (j30 false)))
def yy25_l10 {R : Type} (c_self : T3 R) (kf : Nat) : Nat → Int → LI → (List (Rose (Int × (LI × Unit)))) → Int → LI → (List (Rose (Int × (LI × Unit)))) → (Int → Int → LI → (List (Rose (Int × (LI × Unit)))) → Int → LI → (List (Rose (Int × (LI × Unit)))) → Option R) → (Int → LI → (List (Rose (Int × (LI × Unit)))) → Int → LI → (List (Rose (Int × (LI × Unit)))) → Option R) → Int → Option R
  | 0, _, _, _, _, _, _, _, _, _ => none
  | k + 1, y0, y1, y2, y3, y4, y5, y6, y7, y8 => yy25_l10_b (yy20 kf) c_self (yy25_l10 c_self kf k) y0 y1 y2 y3 y4 y5 y6 y7 y8
def yy25 {R : Type} : Nat → Int → LI → (List (Rose (Int × (LI × Unit)))) → Int → LI → (List (Rose (Int × (LI × Unit)))) → (Int → Option R) → Option R
  | 0, _, _, _, _, _, _, _ => none
  | kf + 1, y0, y1, y2, y3, y4, y5, y6 => yy25_b (yy20 kf) (yy25 kf) (yy25_l10 (yy25 kf) kf kf) y0 y1 y2 y3 y4 y5 y6
def yy28_b {R : Type} (c_yy25 : T3 R) (v1 : Int) (v2 : LI) (v3 : (List (Rose (Int × (LI × Unit))))) (v4 : Int) (v5 : LI) (v6 : (List (Rose (Int × (LI × Unit))))) (K : Bool → Option R) : Option R :=
    c_yy25 v1 v2 v3 v4 v5 v6 (fun v7 =>
     K (decide (v7 = 0)))
def yy28 {R : Type} (kf : Nat) (v1 : Int) (v2 : LI) (v3 : (List (Rose (Int × (LI × Unit))))) (v4 : Int) (v5 : LI) (v6 : (List (Rose (Int × (LI × Unit))))) (K : Bool → Option R) : Option R := yy28_b (yy25 kf) v1 v2 v3 v4 v5 v6 K
def yy32_l2_b {R : Type} (c_yy25 : T3 R) (c_yy28 : T24 R) (l_2 : T33 R) (v5 : (List (Rose (Int × (LI × Unit))))) (v7 : Int) (v8 : LI) (v9 : (List (Rose (Int × (LI × Unit))))) (Ke0 : (List (Rose (Int × (LI × Unit)))) → Int → Int → LI → (List (Rose (Int × (LI × Unit)))) → Option R) (v6 : Int) : Option R :=
    bif decide (v6 < (v5.length : Int)) then
    (gd (decide (0 ≤ v6))
     (gd (decide (v6 < (v5.length : Int)))
      (c_yy25 ((Rose.lab (v5.getD (Int.toNat v6) (Rose.node ((0 : Int), ((List.replicate 4 (0 : Int)), ())) [] : (Rose (Int × (LI × Unit)))))).1) ((Rose.lab (v5.getD (Int.toNat v6) (Rose.node ((0 : Int), ((List.replicate 4 (0 : Int)), ())) [] : (Rose (Int × (LI × Unit)))))).2.1) (Rose.kids (v5.getD (Int.toNat v6) (Rose.node ((0 : Int), ((List.replicate 4 (0 : Int)), ())) [] : (Rose (Int × (LI × Unit)))))) v7 v8 v9 (fun v10 =>
        bif decide (v10 < 0) then
        (l_2 v5 v7 v8 v9 Ke0 (IntKind.i64.wrap (v6 + 1)))
        else (Ke0 v5 v6 v7 v8 v9)))))
    else (Ke0 v5 v6 v7 v8 v9)
def yy32_b {R : Type} (c_yy25 : T3 R) (c_yy28 : T24 R) (l_2 : T33 R) (v1 : (List (Rose (Int × (LI × Unit))))) (v2 : Int) (v3 : LI) (v4 : (List (Rose (Int × (LI × Unit))))) (K : T54 R) : Option R :=
    l_2 v1 v2 v3 v4
    (fun v11 v12 v13 v14 v15 =>
     let j17 : Bool → Option R := fun v16 =>
     (bif v16 then
      (K v11)
      else (gd (decide (0 ≤ v12))
       (gd (decide (v12 ≤ (v11.length : Int)))
        (gd (decide (([] : List (Rose (Int × (LI × Unit)))).length + (v11.take (Int.toNat v12)).length < SMALL))
         (gd (decide ((([] : List (Rose (Int × (LI × Unit)))) ++ (v11.take (Int.toNat v12))).length + ([(Rose.node (v13, v14, ()) v15)] : List (Rose (Int × (LI × Unit)))).length < SMALL))
          (gd (decide (0 ≤ v12))
           (gd (decide (v12 ≤ (v11.length : Int)))
            (gd (decide (((([] : List (Rose (Int × (LI × Unit)))) ++ (v11.take (Int.toNat v12))) ++ ([(Rose.node (v13, v14, ()) v15)] : List (Rose (Int × (LI × Unit))))).length + (v11.drop (Int.toNat v12)).length < SMALL))
             (K (((([] : List (Rose (Int × (LI × Unit)))) ++ (v11.take (Int.toNat v12))) ++ ([(Rose.node (v13, v14, ()) v15)] : List (Rose (Int × (LI × Unit))))) ++ (v11.drop (Int.toNat v12))))))))))))
     (bif decide (v12 < (v11.length : Int)) then
      (gd (decide (0 ≤ v12))
       (gd (decide (v12 < (v11.length : Int)))
        (c_yy28 ((Rose.lab (v11.getD (Int.toNat v12) (Rose.node ((0 : Int), ((List.replicate 4 (0 : Int)), ())) [] : (Rose (Int × (LI × Unit)))))).1) ((Rose.lab (v11.getD (Int.toNat v12) (Rose.node ((0 : Int), ((List.replicate 4 (0 : Int)), ())) [] : (Rose (Int × (LI × Unit)))))).2.1) (Rose.kids (v11.getD (Int.toNat v12) (Rose.node ((0 : Int), ((List.replicate 4 (0 : Int)), ())) [] : (Rose (Int × (LI × Unit)))))) v13 v14 v15 (fun v18 =>
          j17 v18))))
      else (j17 false))) 0
def yy32_l2 {R : Type} (kf : Nat) : Nat → (List (Rose (Int × (LI × Unit)))) → Int → LI → (List (Rose (Int × (LI × Unit)))) → ((List (Rose (Int × (LI × Unit)))) → Int → Int → LI → (List (Rose (Int × (LI × Unit)))) → Option R) → Int → Option R
  | 0, _, _, _, _, _, _ => none
  | k + 1, y0, y1, y2, y3, y4, y5 => yy32_l2_b (yy25 kf) (yy28 kf) (yy32_l2 kf k) y0 y1 y2 y3 y4 y5
def yy32 {R : Type} (kf : Nat) (v1 : (List (Rose (Int × (LI × Unit))))) (v2 : Int) (v3 : LI) (v4 : (List (Rose (Int × (LI × Unit))))) (K : T54 R) : Option R := yy32_b (yy25 kf) (yy28 kf) (yy32_l2 kf kf) v1 v2 v3 v4 K
def yy22_l5_b {R : Type} (c_yy31 : T12 R) (c_yy18 : T25 R) (c_yy26 : T0 R) (c_yy32 : T26 R) (c_yy23 : T10 R) (c_yy29 : T1 R) (l_5 : T34 R) (v5 : Int) (v6 : LI) (v8 : (List (Rose (Int × (LI × Unit))))) (v9 : (List (Rose (Int × (LI × Unit))))) (Ke0 : (List (Rose (Int × (LI × Unit)))) → Int → LI → LI → (List (Rose (Int × (LI × Unit)))) → Option R) (v3 : (List (Rose (Int × (LI × Unit))))) (v4 : Int) (v7 : LI) : Option R :=
    bif decide (v4 < (v8.length : Int)) then
    (gd (decide (0 ≤ v4))
     (gd (decide (v4 < (v8.length : Int)))
      (bif decide ((Rose.lab (v8.getD (Int.toNat v4) (Rose.node ((0 : Int), ((List.replicate 4 (0 : Int)), ())) [] : (Rose (Int × (LI × Unit)))))).1 = 1) then
       (l_5 v5 v6 v8 v9 Ke0 v3 (IntKind.i64.wrap (v4 + 1)) v7)
       else (bif decide ((Rose.lab (v8.getD (Int.toNat v4) (Rose.node ((0 : Int), ((List.replicate 4 (0 : Int)), ())) [] : (Rose (Int × (LI × Unit)))))).1 = 3) then
        (gd (decide (0 ≤ v4))
         (gd (decide (v4 < (v8.length : Int)))
          (c_yy18 v7 ((Rose.lab (v8.getD (Int.toNat v4) (Rose.node ((0 : Int), ((List.replicate 4 (0 : Int)), ())) [] : (Rose (Int × (LI × Unit)))))).2.1) (fun v10 =>
            l_5 v5 v6 v8 v9 Ke0 v3 (IntKind.i64.wrap (v4 + 1)) v10))))
        else (gd (decide (0 ≤ v4))
         (gd (decide (v4 < (v8.length : Int)))
          (c_yy26 ((Rose.lab (v8.getD (Int.toNat v4) (Rose.node ((0 : Int), ((List.replicate 4 (0 : Int)), ())) [] : (Rose (Int × (LI × Unit)))))).1) ((Rose.lab (v8.getD (Int.toNat v4) (Rose.node ((0 : Int), ((List.replicate 4 (0 : Int)), ())) [] : (Rose (Int × (LI × Unit)))))).2.1) (Rose.kids (v8.getD (Int.toNat v4) (Rose.node ((0 : Int), ((List.replicate 4 (0 : Int)), ())) [] : (Rose (Int × (LI × Unit)))))) (fun v11 v12 v13 =>
            c_yy32 v3 v11 v12 v13 (fun v14 =>
             l_5 v5 v6 v8 v9 Ke0 v14 (IntKind.i64.wrap (v4 + 1)) v7)))))))))
    else (Ke0 v3 v5 v6 v7 v9)
def yy22_b {R : Type} (c_yy31 : T12 R) (c_yy18 : T25 R) (c_yy26 : T0 R) (c_yy32 : T26 R) (c_yy23 : T10 R) (c_yy29 : T1 R) (l_5 : T34 R) (v1 : (List (Rose (Int × (LI × Unit))))) (K : T18 R) : Option R :=
    c_yy31 5 v1 (fun v2 =>
     l_5 0 (List.replicate 4 (0 : Int)) v2 ([] : List (Rose (Int × (LI × Unit))))
     (fun v15 v16 v17 v18 v19 =>
      let j24 : (List (Rose (Int × (LI × Unit)))) → Option R := fun v20 =>
      (bif decide ((v20.length : Int) = 0) then
       (c_yy29 (fun v21 v22 v23 =>
         K v21 v22 v23))
       else (bif decide ((v20.length : Int) = 1) then
        (gd (decide (0 < (v20.length : Int)))
         (K ((Rose.lab (v20.getD 0 (Rose.node ((0 : Int), ((List.replicate 4 (0 : Int)), ())) [] : (Rose (Int × (LI × Unit)))))).1) ((Rose.lab (v20.getD 0 (Rose.node ((0 : Int), ((List.replicate 4 (0 : Int)), ())) [] : (Rose (Int × (LI × Unit)))))).2.1) (Rose.kids (v20.getD 0 (Rose.node ((0 : Int), ((List.replicate 4 (0 : Int)), ())) [] : (Rose (Int × (LI × Unit))))))))
        else (K 5 (List.replicate 4 (0 : Int)) v20)))
      (bif (!(decide (v18 = (List.replicate 4 (0 : Int))))) then
       (c_yy23 v18 (fun v25 v26 v27 =>
         c_yy32 v15 v25 v26 v27 (fun v28 =>
          j24 v28)))
       else (j24 v15))) ([] : (List (Rose (Int × (LI × Unit))))) 0 (List.replicate 4 (0 : Int)))
def yy22_l5 {R : Type} (kf : Nat) : Nat → Int → LI → (List (Rose (Int × (LI × Unit)))) → (List (Rose (Int × (LI × Unit)))) → ((List (Rose (Int × (LI × Unit)))) → Int → LI → LI → (List (Rose (Int × (LI × Unit)))) → Option R) → (List (Rose (Int × (LI × Unit)))) → Int → LI → Option R
  | 0, _, _, _, _, _, _, _, _ => none
  | k + 1, y0, y1, y2, y3, y4, y5, y6, y7 => yy22_l5_b (yy31 kf) (yy18 kf) (yy26 kf) (yy32 kf) yy23 yy29 (yy22_l5 kf k) y0 y1 y2 y3 y4 y5 y6 y7
def yy22 {R : Type} (kf : Nat) (v1 : (List (Rose (Int × (LI × Unit))))) (K : T18 R) : Option R := yy22_b (yy31 kf) (yy18 kf) (yy26 kf) (yy32 kf) yy23 yy29 (yy22_l5 kf kf) v1 K
def yy30_l10_b {R : Type} (c_yy26 : T0 R) (c_yy27 : T1 R) (c_yy22 : T7 R) (c_yy30 : T0 R) (l_10 : T14 R) (v12 : Int) (v13 : LI) (v14 : (List (Rose (Int × (LI × Unit))))) (v15 : Int) (v16 : LI) (v18 : (List (Rose (Int × (LI × Unit))))) (Ke1 : Int → LI → (List (Rose (Int × (LI × Unit)))) → Int → LI → (List (Rose (Int × (LI × Unit)))) → (List (Rose (Int × (LI × Unit)))) → Option R) (v11 : Int) (v17 : (List (Rose (Int × (LI × Unit))))) : Option R :=
    bif decide (v11 < (v14.length : Int)) then
    (gd (decide (0 ≤ v11))
     (gd (decide (v11 < (v14.length : Int)))
      (bif (!(decide ((Rose.lab (v14.getD (Int.toNat v11) (Rose.node ((0 : Int), ((List.replicate 4 (0 : Int)), ())) [] : (Rose (Int × (LI × Unit)))))).1 = 2))) then
       (gd (decide (0 ≤ v11))
        (gd (decide (v11 < (v14.length : Int)))
         (gd (decide (v17.length + ([(Rose.node ((Rose.lab (v14.getD (Int.toNat v11) (Rose.node ((0 : Int), ((List.replicate 4 (0 : Int)), ())) [] : (Rose (Int × (LI × Unit)))))).1, (Rose.lab (v14.getD (Int.toNat v11) (Rose.node ((0 : Int), ((List.replicate 4 (0 : Int)), ())) [] : (Rose (Int × (LI × Unit)))))).2.1, ()) (Rose.kids (v14.getD (Int.toNat v11) (Rose.node ((0 : Int), ((List.replicate 4 (0 : Int)), ())) [] : (Rose (Int × (LI × Unit)))))))] : List (Rose (Int × (LI × Unit)))).length < SMALL))
          (l_10 v12 v13 v14 v15 v16 v18 Ke1 (IntKind.i64.wrap (v11 + 1)) (v17 ++ ([(Rose.node ((Rose.lab (v14.getD (Int.toNat v11) (Rose.node ((0 : Int), ((List.replicate 4 (0 : Int)), ())) [] : (Rose (Int × (LI × Unit)))))).1, (Rose.lab (v14.getD (Int.toNat v11) (Rose.node ((0 : Int), ((List.replicate 4 (0 : Int)), ())) [] : (Rose (Int × (LI × Unit)))))).2.1, ()) (Rose.kids (v14.getD (Int.toNat v11) (Rose.node ((0 : Int), ((List.replicate 4 (0 : Int)), ())) [] : (Rose (Int × (LI × Unit)))))))] : List (Rose (Int × (LI × Unit)))))))))
       else (l_10 v12 v13 v14 v15 v16 v18 Ke1 (IntKind.i64.wrap (v11 + 1)) v17))))
    else (Ke1 v12 v13 v14 v15 v16 v17 v18)
def yy30_b {R : Type} (c_yy26 : T0 R) (c_yy27 : T1 R) (c_yy22 : T7 R) (c_yy30 : T0 R) (l_10 : T14 R) (v1 : Int) (v2 : LI) (v3 : (List (Rose (Int × (LI × Unit))))) (K : T18 R) : Option R :=
    bif decide (v1 = 6) then
    (c_yy26 v1 v2 v3 (fun v4 v5 v6 =>
      K v4 v5 v6))
    else (let j38 : Bool → Option R := fun v7 =>
     (bif v7 then
      (c_yy27 (fun v8 v9 v10 =>
        K v8 v9 v10))
      else (bif decide (v1 = 5) then
       (l_10 v1 v2 v3 0 (List.replicate 4 (0 : Int)) ([] : List (Rose (Int × (LI × Unit))))
        (fun v19 v20 v21 v22 v23 v24 v25 =>
         bif decide ((v24.length : Int) < (v21.length : Int)) then
         (c_yy22 v24 (fun v26 v27 v28 =>
           c_yy30 v26 v27 v28 (fun v29 v30 v31 =>
            K v29 v30 v31)))
         else (c_yy26 v19 v20 v21 (fun v32 v33 v34 =>
           K 6 (List.replicate 4 (0 : Int)) ([(Rose.node (v32, v33, ()) v34)] : List (Rose (Int × (LI × Unit))))))) 0 ([] : List (Rose (Int × (LI × Unit)))))
       else (c_yy26 v1 v2 v3 (fun v35 v36 v37 =>
         K 6 (List.replicate 4 (0 : Int)) ([(Rose.node (v35, v36, ()) v37)] : List (Rose (Int × (LI × Unit))))))))
     (bif decide (v1 = 1) then
      (j38 (decide (v1 = 1)))
      else (j38 (decide (v1 = 2)))))
def yy30_l10 {R : Type} (c_self : T0 R) (kf : Nat) : Nat → Int → LI → (List (Rose (Int × (LI × Unit)))) → Int → LI → (List (Rose (Int × (LI × Unit)))) → (Int → LI → (List (Rose (Int × (LI × Unit)))) → Int → LI → (List (Rose (Int × (LI × Unit)))) → (List (Rose (Int × (LI × Unit)))) → Option R) → Int → (List (Rose (Int × (LI × Unit)))) → Option R
  | 0, _, _, _, _, _, _, _, _, _ => none
  | k + 1, y0, y1, y2, y3, y4, y5, y6, y7, y8 => yy30_l10_b (yy26 kf) yy27 (yy22 kf) c_self (yy30_l10 c_self kf k) y0 y1 y2 y3 y4 y5 y6 y7 y8
def yy30 {R : Type} : Nat → Int → LI → (List (Rose (Int × (LI × Unit)))) → (Int → LI → (List (Rose (Int × (LI × Unit)))) → Option R) → Option R
  | 0, _, _, _, _ => none
  | kf + 1, y0, y1, y2, y3 => yy30_b (yy26 kf) yy27 (yy22 kf) (yy30 kf) (yy30_l10 (yy30 kf) kf kf) y0 y1 y2 y3
def yy52_l2_b {R : Type} (l_2 : T35 R) (v3 : LI) (v4 : Int) (v5 : Int) (Kr : Int → Option R) (Ke0 : Option R) (v6 : Int) : Option R :=
    bif decide (v6 < v5) then
    (gd (decide (0 ≤ v6))
     (gd (decide (v6 < (v3.length : Int)))
      (bif decide (v4 = (v3.getD (Int.toNat v6) (0 : Int))) then
       (Kr v6)
       else (l_2 v3 v4 v5 Kr Ke0 (IntKind.i64.wrap (v6 + 1))))))
    else (Ke0)
def yy52_b {R : Type} (l_2 : T35 R) (v1 : LI) (v2 : Int) (K : Int → Option R) : Option R :=
    l_2 v1 v2 (v1.length : Int)
    (fun v7 =>
     K v7)
    (K (-1)) 0
def yy52_l2 {R : Type} (kf : Nat) : Nat → LI → Int → Int → (Int → Option R) → (Option R) → Int → Option R
  | 0, _, _, _, _, _, _ => none
  | k + 1, y0, y1, y2, y3, y4, y5 => yy52_l2_b (yy52_l2 kf k) y0 y1 y2 y3 y4 y5
def yy52 {R : Type} (kf : Nat) (v1 : LI) (v2 : Int) (K : Int → Option R) : Option R := yy52_b (yy52_l2 kf kf) v1 v2 K
def yy49_b {R : Type} (c_yy52 : T36 R) (v1 : LI) (v2 : Int) (K : Bool → Option R) : Option R :=
    c_yy52 v1 v2 (fun v3 =>
     K (decide (0 ≤ v3)))
def yy49 {R : Type} (kf : Nat) (v1 : LI) (v2 : Int) (K : Bool → Option R) : Option R := yy49_b (yy52 kf) v1 v2 K
def yy37_b {R : Type} (c_yy49 : T2 R) (v1 : Int) (v2 : LI) (v3 : (List (Rose (Int × (LI × Unit))))) (v4 : LI) (K : Bool → LI → Option R) : Option R :=
    c_yy49 v4 v1 (fun v5 =>
     K v5 v4)
def yy37 {R : Type} (kf : Nat) (v1 : Int) (v2 : LI) (v3 : (List (Rose (Int × (LI × Unit))))) (v4 : LI) (K : Bool → LI → Option R) : Option R := yy37_b (yy49 kf) v1 v2 v3 v4 K
def yy50_l2_b {R : Type} (c_yy37 : T27 R) (l_2 : T37 R) (v3 : (List (Rose (Int × (LI × Unit))))) (v4 : Int) (Kr : Int → LI → Option R) (Ke0 : LI → Option R) (v5 : Int) (v6 : LI) : Option R :=
    bif decide (v5 < v4) then
    (gd (decide (0 ≤ v5))
     (gd (decide (v5 < (v3.length : Int)))
      (c_yy37 ((Rose.lab (v3.getD (Int.toNat v5) (Rose.node ((0 : Int), ((List.replicate 4 (0 : Int)), ())) [] : (Rose (Int × (LI × Unit)))))).1) ((Rose.lab (v3.getD (Int.toNat v5) (Rose.node ((0 : Int), ((List.replicate 4 (0 : Int)), ())) [] : (Rose (Int × (LI × Unit)))))).2.1) (Rose.kids (v3.getD (Int.toNat v5) (Rose.node ((0 : Int), ((List.replicate 4 (0 : Int)), ())) [] : (Rose (Int × (LI × Unit)))))) v6 (fun v7 v8 =>
        bif v7 then
        (Kr v5 v8)
        else (l_2 v3 v4 Kr Ke0 (IntKind.i64.wrap (v5 + 1)) v8)))))
    else (Ke0 v6)
def yy50_b {R : Type} (c_yy37 : T27 R) (l_2 : T37 R) (v1 : (List (Rose (Int × (LI × Unit))))) (v2 : LI) (K : Int → LI → Option R) : Option R :=
    l_2 v1 (v1.length : Int)
    (fun v9 v10 =>
     K v9 v10)
    (fun v11 =>
     K (-1) v11) 0 v2
def yy50_l2 {R : Type} (kf : Nat) : Nat → (List (Rose (Int × (LI × Unit)))) → Int → (Int → LI → Option R) → (LI → Option R) → Int → LI → Option R
  | 0, _, _, _, _, _, _ => none
  | k + 1, y0, y1, y2, y3, y4, y5 => yy50_l2_b (yy37 kf) (yy50_l2 kf k) y0 y1 y2 y3 y4 y5
def yy50 {R : Type} (kf : Nat) (v1 : (List (Rose (Int × (LI × Unit))))) (v2 : LI) (K : Int → LI → Option R) : Option R := yy50_b (yy37 kf) (yy50_l2 kf kf) v1 v2 K
def yy47_b {R : Type} (c_yy50 : T38 R) (v1 : (List (Rose (Int × (LI × Unit))))) (v2 : LI) (K : Bool → LI → Option R) : Option R :=
    c_yy50 v1 v2 (fun v3 v4 =>
     K (decide (0 ≤ v3)) v4)
def yy47 {R : Type} (kf : Nat) (v1 : (List (Rose (Int × (LI × Unit))))) (v2 : LI) (K : Bool → LI → Option R) : Option R := yy47_b (yy50 kf) v1 v2 K
def yy36_b {R : Type} (c_yy47 : T39 R) (v1 : (List (Rose (Int × (LI × Unit))))) (v2 : LI) (K : Bool → Option R) : Option R :=
    c_yy47 v1 v2 (fun v3 v4 =>
     K v3)
def yy36 {R : Type} (kf : Nat) (v1 : (List (Rose (Int × (LI × Unit))))) (v2 : LI) (K : Bool → Option R) : Option R := yy36_b (yy47 kf) v1 v2 K
def yy38_b {R : Type} (v1 : Int) (v2 : LI) (v3 : (List (Rose (Int × (LI × Unit))))) (K : Bool → Option R) : Option R :=
    K (decide (v1 = 3))
def yy38 {R : Type} (v1 : Int) (v2 : LI) (v3 : (List (Rose (Int × (LI × Unit))))) (K : Bool → Option R) : Option R := yy38_b v1 v2 v3 K
def yy4_b {R : Type} (v1 : Int) (K : Bool → Option R) : Option R :=
    K (!(decide (v1 = v1)))
def yy4 {R : Type} (v1 : Int) (K : Bool → Option R) : Option R := yy4_b v1 K
def yy3_b {R : Type} (c_yy4 : Int → (Bool → Option R) → Option R) (v1 : Int) (v2 : Int) (K : Int → Option R) : Option R :=
    c_yy4 v1 (fun v3 =>
     c_yy4 v2 (fun v4 =>
      bif v3 then
      (bif v4 then
       (K 0)
       else (K (-1)))
      else (bif v4 then
       (K 1)
       else (bif decide (v1 < v2) then
        (K (-1))
        else (bif decide (v2 < v1) then
         (K 1)
         else (K 0))))))
def yy3 {R : Type} (v1 : Int) (v2 : Int) (K : Int → Option R) : Option R := yy3_b yy4 v1 v2 K
def yy7_b {R : Type} (v1 : Int) (K : Int → Option R) : Option R :=
    bif decide (v1 = 0) then
    (K 64)
    else (gd (decide (0 ≤ (shr .u64 (IntKind.u64.wrap (mulZ (bvop .u64 .and v1 (IntKind.u64.wrap (0 - v1))) 285870213051353865)) 58)))
     (gd (decide ((shr .u64 (IntKind.u64.wrap (mulZ (bvop .u64 .and v1 (IntKind.u64.wrap (0 - v1))) 285870213051353865)) 58) < 64))
      (let v2 : Int := (IntKind.i64.wrap (deBruijn.getD (Int.toNat (shr .u64 (IntKind.u64.wrap (mulZ (bvop .u64 .and v1 (IntKind.u64.wrap (0 - v1))) 285870213051353865)) 58)) (0 : Int)))
       K v2)))
def yy7 {R : Type} (v1 : Int) (K : Int → Option R) : Option R := yy7_b v1 K
def yy1_l2_b {R : Type} (c_yy7 : Int → (Int → Option R) → Option R) (l_2 : T16 R) (v4 : LI) (v5 : LI) (Kr : Bool → Option R) (Ke0 : Option R) (v3 : Int) : Option R :=
    bif decide (v3 < 4) then
    (gd (decide (0 ≤ v3))
     (gd (decide (v3 < 4))
      (gd (decide (0 ≤ v3))
       (gd (decide (v3 < 4))
        (let v6 : Int := (bvop .u64 .xor (v4.getD (Int.toNat v3) (0 : Int)) (v5.getD (Int.toNat v3) (0 : Int)))
         bif (!(decide (v6 = 0))) then
         (gd (decide (0 ≤ v3))
          (gd (decide (v3 < 4))
           (c_yy7 v6 (fun v7 =>
             gd (decide (0 ≤ v7))
             (Kr (decide ((bvop .u64 .and (shr .u64 (v4.getD (Int.toNat v3) (0 : Int)) v7) 1) = 1)))))))
         else (l_2 v4 v5 Kr Ke0 (IntKind.i64.wrap (v3 + 1))))))))
    else (Ke0)
def yy1_b {R : Type} (c_yy7 : Int → (Int → Option R) → Option R) (l_2 : T16 R) (v1 : LI) (v2 : LI) (K : Bool → Option R) : Option R :=
    l_2 v1 v2
    (fun v8 =>
     K v8)
    (K false) 0
def yy1_l2 {R : Type} (kf : Nat) : Nat → LI → LI → (Bool → Option R) → (Option R) → Int → Option R
  | 0, _, _, _, _, _ => none
  | k + 1, y0, y1, y2, y3, y4 => yy1_l2_b yy7 (yy1_l2 kf k) y0 y1 y2 y3 y4
def yy1 {R : Type} (kf : Nat) (v1 : LI) (v2 : LI) (K : Bool → Option R) : Option R := yy1_b yy7 (yy1_l2 kf kf) v1 v2 K
def yy46_l2_b {R : Type} (c_yy33 : T3 R) (l_2 : T40 R) (v3 : (List (Rose (Int × (LI × Unit))))) (v4 : (List (Rose (Int × (LI × Unit))))) (v5 : (List (Rose (Int × (LI × Unit))))) (v6 : Int) (Kr : (List (Rose (Int × (LI × Unit)))) → (List (Rose (Int × (LI × Unit)))) → Int → Option R) (Ke0 : (List (Rose (Int × (LI × Unit)))) → (List (Rose (Int × (LI × Unit)))) → Option R) (v7 : Int) : Option R :=
    bif decide (v7 < v6) then
    (gd (decide (0 ≤ v7))
     (gd (decide (v7 < (v5.length : Int)))
      (bif decide ((v4.length : Int) ≤ v7) then
       (Kr v3 v4 1)
       else (gd (decide (0 ≤ v7))
        (gd (decide (v7 < (v4.length : Int)))
         (c_yy33 ((Rose.lab (v5.getD (Int.toNat v7) (Rose.node ((0 : Int), ((List.replicate 4 (0 : Int)), ())) [] : (Rose (Int × (LI × Unit)))))).1) ((Rose.lab (v5.getD (Int.toNat v7) (Rose.node ((0 : Int), ((List.replicate 4 (0 : Int)), ())) [] : (Rose (Int × (LI × Unit)))))).2.1) (Rose.kids (v5.getD (Int.toNat v7) (Rose.node ((0 : Int), ((List.replicate 4 (0 : Int)), ())) [] : (Rose (Int × (LI × Unit)))))) ((Rose.lab (v4.getD (Int.toNat v7) (Rose.node ((0 : Int), ((List.replicate 4 (0 : Int)), ())) [] : (Rose (Int × (LI × Unit)))))).1) ((Rose.lab (v4.getD (Int.toNat v7) (Rose.node ((0 : Int), ((List.replicate 4 (0 : Int)), ())) [] : (Rose (Int × (LI × Unit)))))).2.1) (Rose.kids (v4.getD (Int.toNat v7) (Rose.node ((0 : Int), ((List.replicate 4 (0 : Int)), ())) [] : (Rose (Int × (LI × Unit)))))) (fun v8 =>
           bif (!(decide (v8 = 0))) then
           (Kr v3 v4 v8)
           else (l_2 v3 v4 v5 v6 Kr Ke0 (IntKind.i64.wrap (v7 + 1))))))))))
    else (Ke0 v3 v4)
def yy46_b {R : Type} (c_yy33 : T3 R) (l_2 : T40 R) (v1 : (List (Rose (Int × (LI × Unit))))) (v2 : (List (Rose (Int × (LI × Unit))))) (K : Int → Option R) : Option R :=
    l_2 v1 v2 v1 (v1.length : Int)
    (fun v9 v10 v11 =>
     K v11)
    (fun v12 v13 =>
     bif decide ((v12.length : Int) < (v13.length : Int)) then
     (K (-1))
     else (K 0)) 0
def yy46_l2 {R : Type} (c_yy33 : T3 R) (kf : Nat) : Nat → (List (Rose (Int × (LI × Unit)))) → (List (Rose (Int × (LI × Unit)))) → (List (Rose (Int × (LI × Unit)))) → Int → ((List (Rose (Int × (LI × Unit)))) → (List (Rose (Int × (LI × Unit)))) → Int → Option R) → ((List (Rose (Int × (LI × Unit)))) → (List (Rose (Int × (LI × Unit)))) → Option R) → Int → Option R
  | 0, _, _, _, _, _, _, _ => none
  | k + 1, y0, y1, y2, y3, y4, y5, y6 => yy46_l2_b c_yy33 (yy46_l2 c_yy33 kf k) y0 y1 y2 y3 y4 y5 y6
def yy46 {R : Type} (c_yy33 : T3 R) (kf : Nat) (v1 : (List (Rose (Int × (LI × Unit))))) (v2 : (List (Rose (Int × (LI × Unit))))) (K : Int → Option R) : Option R := yy46_b c_yy33 (yy46_l2 c_yy33 kf kf) v1 v2 K
def yy33_b {R : Type} (c_yy3 : T41 R) (c_yy1 : T11 R) (c_yy46 : T42 R) (v1 : Int) (v2 : LI) (v3 : (List (Rose (Int × (LI × Unit))))) (v4 : Int) (v5 : LI) (v6 : (List (Rose (Int × (LI × Unit))))) (K : Int → Option R) : Option R :=
    c_yy3 v1 v4 (fun v7 =>
     bif (!(decide (v7 = 0))) then
     (K v7)
     else (let j11 : Bool → Option R := fun v8 =>
      (bif v8 then
       (c_yy1 v2 v5 (fun v9 =>
         bif v9 then
         (K (-1))
         else (K 1)))
       else (c_yy46 v3 v6 (fun v10 =>
         K v10)))
      (bif decide (v1 = 3) then
       (j11 (!(decide (v2 = v5))))
       else (j11 false))))
def yy33 {R : Type} : Nat → Int → LI → (List (Rose (Int × (LI × Unit)))) → Int → LI → (List (Rose (Int × (LI × Unit)))) → (Int → Option R) → Option R
  | 0, _, _, _, _, _, _, _ => none
  | kf + 1, y0, y1, y2, y3, y4, y5, y6 => yy33_b yy3 (yy1 kf) (yy46 (yy33 kf) kf) y0 y1 y2 y3 y4 y5 y6
def yy39_l3_b {R : Type} (c_yy38 : T4 R) (c_yy33 : T3 R) (l_3 : T43 R) (v2 : (List (Rose (Int × (LI × Unit))))) (v4 : (List (Rose (Int × (LI × Unit))))) (v5 : Int) (Kr : Bool → Int → Option R) (Ke0 : Int → Option R) (v3 : Int) (v6 : Int) : Option R :=
    bif decide (v6 < v5) then
    (gd (decide (0 ≤ v6))
     (gd (decide (v6 < (v4.length : Int)))
      (let j11 : Int → Option R := fun v7 =>
       (let j9 : Bool → Option R := fun v8 =>
        (bif v8 then
         (Kr false v7)
         else (l_3 v2 v4 v5 Kr Ke0 v7 (IntKind.i64.wrap (v6 + 1))))
        (bif decide (0 < v6) then
         (gd (decide (0 ≤ (IntKind.i64.wrap (v6 - 1))))
          (gd (decide ((IntKind.i64.wrap (v6 - 1)) < (v2.length : Int)))
           (c_yy33 ((Rose.lab (v2.getD (Int.toNat (IntKind.i64.wrap (v6 - 1))) (Rose.node ((0 : Int), ((List.replicate 4 (0 : Int)), ())) [] : (Rose (Int × (LI × Unit)))))).1) ((Rose.lab (v2.getD (Int.toNat (IntKind.i64.wrap (v6 - 1))) (Rose.node ((0 : Int), ((List.replicate 4 (0 : Int)), ())) [] : (Rose (Int × (LI × Unit)))))).2.1) (Rose.kids (v2.getD (Int.toNat (IntKind.i64.wrap (v6 - 1))) (Rose.node ((0 : Int), ((List.replicate 4 (0 : Int)), ())) [] : (Rose (Int × (LI × Unit)))))) ((Rose.lab (v4.getD (Int.toNat v6) (Rose.node ((0 : Int), ((List.replicate 4 (0 : Int)), ())) [] : (Rose (Int × (LI × Unit)))))).1) ((Rose.lab (v4.getD (Int.toNat v6) (Rose.node ((0 : Int), ((List.replicate 4 (0 : Int)), ())) [] : (Rose (Int × (LI × Unit)))))).2.1) (Rose.kids (v4.getD (Int.toNat v6) (Rose.node ((0 : Int), ((List.replicate 4 (0 : Int)), ())) [] : (Rose (Int × (LI × Unit)))))) (fun v10 =>
             j9 (decide (0 ≤ v10))))))
         else (j9 false)))
       (c_yy38 ((Rose.lab (v4.getD (Int.toNat v6) (Rose.node ((0 : Int), ((List.replicate 4 (0 : Int)), ())) [] : (Rose (Int × (LI × Unit)))))).1) ((Rose.lab (v4.getD (Int.toNat v6) (Rose.node ((0 : Int), ((List.replicate 4 (0 : Int)), ())) [] : (Rose (Int × (LI × Unit)))))).2.1) (Rose.kids (v4.getD (Int.toNat v6) (Rose.node ((0 : Int), ((List.replicate 4 (0 : Int)), ())) [] : (Rose (Int × (LI × Unit)))))) (fun v12 =>
         bif v12 then
         (j11 (IntKind.i64.wrap (v3 + 1)))
         else (j11 v3))))))
    else (Ke0 v3)
def yy39_b {R : Type} (c_yy38 : T4 R) (c_yy33 : T3 R) (l_3 : T43 R) (v1 : (List (Rose (Int × (LI × Unit))))) (K : Bool → Option R) : Option R :=
    l_3 v1 v1 (v1.length : Int)
    (fun v13 v14 =>
     K v13)
    (fun v15 =>
     K (decide (v15 ≤ 1))) 0 0
def yy39_l3 {R : Type} (kf : Nat) : Nat → (List (Rose (Int × (LI × Unit)))) → (List (Rose (Int × (LI × Unit)))) → Int → (Bool → Int → Option R) → (Int → Option R) → Int → Int → Option R
  | 0, _, _, _, _, _, _, _ => none
  | k + 1, y0, y1, y2, y3, y4, y5, y6 => yy39_l3_b yy38 (yy33 kf) (yy39_l3 kf k) y0 y1 y2 y3 y4 y5 y6
def yy39 {R : Type} (kf : Nat) (v1 : (List (Rose (Int × (LI × Unit))))) (K : Bool → Option R) : Option R := yy39_b yy38 (yy33 kf) (yy39_l3 kf kf) v1 K
def yy35_b {R : Type} (c_yy34 : T4 R) (v1 : Int) (v2 : LI) (v3 : (List (Rose (Int × (LI × Unit))))) (K : Bool → Option R) : Option R :=
    c_yy34 v1 v2 v3 (fun v4 =>
     K (!v4))
def yy35 {R : Type} (c_yy34 : T4 R) (kf : Nat) (v1 : Int) (v2 : LI) (v3 : (List (Rose (Int × (LI × Unit))))) (K : Bool → Option R) : Option R := yy35_b c_yy34 v1 v2 v3 K
def yy51_l2_b {R : Type} (c_yy35 : T4 R) (l_2 : T44 R) (v2 : (List (Rose (Int × (LI × Unit))))) (v3 : Int) (Kr : Int → Option R) (Ke0 : Option R) (v4 : Int) : Option R :=
    bif decide (v4 < v3) then
    (gd (decide (0 ≤ v4))
     (gd (decide (v4 < (v2.length : Int)))
      (c_yy35 ((Rose.lab (v2.getD (Int.toNat v4) (Rose.node ((0 : Int), ((List.replicate 4 (0 : Int)), ())) [] : (Rose (Int × (LI × Unit)))))).1) ((Rose.lab (v2.getD (Int.toNat v4) (Rose.node ((0 : Int), ((List.replicate 4 (0 : Int)), ())) [] : (Rose (Int × (LI × Unit)))))).2.1) (Rose.kids (v2.getD (Int.toNat v4) (Rose.node ((0 : Int), ((List.replicate 4 (0 : Int)), ())) [] : (Rose (Int × (LI × Unit)))))) (fun v5 =>
        bif v5 then
        (Kr v4)
        else (l_2 v2 v3 Kr Ke0 (IntKind.i64.wrap (v4 + 1)))))))
    else (Ke0)
def yy51_b {R : Type} (c_yy35 : T4 R) (l_2 : T44 R) (v1 : (List (Rose (Int × (LI × Unit))))) (K : Int → Option R) : Option R :=
    l_2 v1 (v1.length : Int)
    (fun v6 =>
     K v6)
    (K (-1)) 0
def yy51_l2 {R : Type} (c_yy34 : T4 R) (kf : Nat) : Nat → (List (Rose (Int × (LI × Unit)))) → Int → (Int → Option R) → (Option R) → Int → Option R
  | 0, _, _, _, _, _ => none
  | k + 1, y0, y1, y2, y3, y4 => yy51_l2_b (yy35 c_yy34 kf) (yy51_l2 c_yy34 kf k) y0 y1 y2 y3 y4
def yy51 {R : Type} (c_yy34 : T4 R) (kf : Nat) (v1 : (List (Rose (Int × (LI × Unit))))) (K : Int → Option R) : Option R := yy51_b (yy35 c_yy34 kf) (yy51_l2 c_yy34 kf kf) v1 K
def yy48_b {R : Type} (c_yy51 : T45 R) (v1 : (List (Rose (Int × (LI × Unit))))) (K : Bool → Option R) : Option R :=
    c_yy51 v1 (fun v2 =>
     K (decide (0 ≤ v2)))
def yy48 {R : Type} (c_yy34 : T4 R) (kf : Nat) (v1 : (List (Rose (Int × (LI × Unit))))) (K : Bool → Option R) : Option R := yy48_b (yy51 c_yy34 kf) v1 K
def yy34_b {R : Type} (c_yy36 : T46 R) (c_yy39 : T17 R) (c_yy48 : T17 R) (v1 : Int) (v2 : LI) (v3 : (List (Rose (Int × (LI × Unit))))) (K : Bool → Option R) : Option R :=
    let j6 : Bool → Option R := fun v4 =>
    (bif v4 then
     (c_yy48 v3 (fun v5 =>
       K (!v5)))
     else (K false))
    (let j12 : Bool → Option R := fun v7 =>
     (bif v7 then
      (bif decide (v2 = (List.replicate 4 (0 : Int))) then
       (j6 (decide ((v3.length : Int) = 0)))
       else (j6 false))
      else (bif decide (v1 = 3) then
       (bif (!(decide (v2 = (List.replicate 4 (0 : Int))))) then
        (j6 (decide ((v3.length : Int) = 0)))
        else (j6 false))
       else (bif decide (v1 = 4) then
        (bif decide (v2 = (List.replicate 4 (0 : Int))) then
         (bif decide (1 < (v3.length : Int)) then
          (c_yy36 v3 ([4, 1, 2] : List Int) (fun v8 =>
            j6 (!v8)))
          else (j6 false))
         else (j6 false))
        else (bif decide (v1 = 5) then
         (bif decide (v2 = (List.replicate 4 (0 : Int))) then
          (bif decide (1 < (v3.length : Int)) then
           (c_yy36 v3 ([5, 1] : List Int) (fun v9 =>
             bif (!v9) then
             (c_yy39 v3 (fun v10 =>
               j6 v10))
             else (j6 false)))
           else (j6 false))
          else (j6 false))
         else (bif decide (v1 = 6) then
          (bif decide (v2 = (List.replicate 4 (0 : Int))) then
           (bif decide ((v3.length : Int) = 1) then
            (c_yy36 v3 ([6, 1, 2] : List Int) (fun v11 =>
              j6 (!v11)))
            else (j6 false))
           else (j6 false))
          else (j6 false))))))
     (bif decide (v1 = 1) then
      (j12 (decide (v1 = 1)))
      else (j12 (decide (v1 = 2)))))
def yy34 {R : Type} : Nat → Int → LI → (List (Rose (Int × (LI × Unit)))) → (Bool → Option R) → Option R
  | 0, _, _, _, _ => none
  | kf + 1, y0, y1, y2, y3 => yy34_b (yy36 kf) (yy39 kf) (yy48 (yy34 kf) kf) y0 y1 y2 y3
def yy42_b {R : Type} (v1 : LI) (v2 : Bool) (v3 : LI) (K : Bool → LI → Option R) : Option R :=
    gd (decide (v3.length + v1.length < SMALL))
    (bif decide (4000 < ((v3 ++ v1).length : Int)) then
     (K true (v3 ++ v1))
     else (K v2 (v3 ++ v1)))
def yy42 {R : Type} (v1 : LI) (v2 : Bool) (v3 : LI) (K : Bool → LI → Option R) : Option R := yy42_b v1 v2 v3 K
def yy0_b {R : Type} (v1 : LI) (v2 : Int) (K : Bool → Option R) : Option R :=
    gd (decide (0 ≤ (IntKind.u8.wrap (Int.tdiv v2 64))))
    (gd (decide ((IntKind.u8.wrap (Int.tdiv v2 64)) < 4))
     (gd (decide (0 ≤ (Int.tmod v2 64)))
      (K (decide ((bvop .u64 .and (shr .u64 (v1.getD (Int.toNat (IntKind.u8.wrap (Int.tdiv v2 64))) (0 : Int)) (Int.tmod v2 64)) 1) = 1)))))
def yy0 {R : Type} (v1 : LI) (v2 : Int) (K : Bool → Option R) : Option R := yy0_b v1 v2 K
def yy2_l3_b {R : Type} (c_yy0 : T2 R) (l_3 : T15 R) (v3 : LI) (Ke0 : LI → Option R) (v2 : Int) (v4 : LI) : Option R :=
    bif decide (v2 < 256) then
    (c_yy0 v3 (IntKind.u8.wrap v2) (fun v5 =>
      bif v5 then
      (gd (decide (v4.length + ([(IntKind.u8.wrap v2)] : List Int).length < SMALL))
       (l_3 v3 Ke0 (IntKind.i64.wrap (v2 + 1)) (v4 ++ ([(IntKind.u8.wrap v2)] : List Int))))
      else (l_3 v3 Ke0 (IntKind.i64.wrap (v2 + 1)) v4)))
    else (Ke0 v4)
def yy2_b {R : Type} (c_yy0 : T2 R) (l_3 : T15 R) (v1 : LI) (K : LI → Option R) : Option R :=
    l_3 v1
    (fun v6 =>
     K v6) 0 ([] : List Int)
def yy2_l3 {R : Type} (kf : Nat) : Nat → LI → (LI → Option R) → Int → LI → Option R
  | 0, _, _, _, _ => none
  | k + 1, y0, y1, y2, y3 => yy2_l3_b yy0 (yy2_l3 kf k) y0 y1 y2 y3
def yy2 {R : Type} (kf : Nat) (v1 : LI) (K : LI → Option R) : Option R := yy2_b yy0 (yy2_l3 kf kf) v1 K
def yy41_b {R : Type} (v1 : Int) (K : LI → Option R) : Option R :=
    let j2 : Option R :=
    (gd (decide (0 ≤ (shr .u8 v1 4)))
     (gd (decide ((shr .u8 v1 4) < ([48, 49, 50, 51, 52, 53, 54, 55, 56, 57, 97, 98, 99, 100, 101, 102].length : Int)))
      (gd (decide (0 ≤ (bvop .u8 .and v1 15)))
       (gd (decide ((bvop .u8 .and v1 15) < ([48, 49, 50, 51, 52, 53, 54, 55, 56, 57, 97, 98, 99, 100, 101, 102].length : Int)))
        (gd (decide ([92, 120].length + ([([48, 49, 50, 51, 52, 53, 54, 55, 56, 57, 97, 98, 99, 100, 101, 102].getD (Int.toNat (shr .u8 v1 4)) 0), ([48, 49, 50, 51, 52, 53, 54, 55, 56, 57, 97, 98, 99, 100, 101, 102].getD (Int.toNat (bvop .u8 .and v1 15)) 0)] : List Int).length < SMALL))
         (K ([92, 120] ++ ([([48, 49, 50, 51, 52, 53, 54, 55, 56, 57, 97, 98, 99, 100, 101, 102].getD (Int.toNat (shr .u8 v1 4)) 0), ([48, 49, 50, 51, 52, 53, 54, 55, 56, 57, 97, 98, 99, 100, 101, 102].getD (Int.toNat (bvop .u8 .and v1 15)) 0)] : List Int))))))))
    (bif decide (0 ≤ (idxB [92, 124, 42, 43, 63, 40, 41, 91, 93, 94, 45, 46] v1)) then
     (gd (decide ([92].length + ([v1] : List Int).length < SMALL))
      (K ([92] ++ ([v1] : List Int))))
     else (bif decide (v1 < 32) then
      (j2)
      else (bif decide (126 < v1) then
       (j2)
       else (K ([v1] : List Int)))))
def yy41 {R : Type} (v1 : Int) (K : LI → Option R) : Option R := yy41_b v1 K
def yy44_l9_b {R : Type} (c_yy2 : LI → (LI → Option R) → Option R) (c_yy42 : T5 R) (c_yy41 : Int → (LI → Option R) → Option R) (l_9 : T28 R) (l_11 : T29 R) (Ke1 : Bool → LI → Option R) (v12 : Int) (v13 : Bool) (v14 : LI) (v15 : LI) : Option R :=
    bif decide (v12 < (v14.length : Int)) then
    (l_11 v12 v13 v14 v15
     (fun v21 v22 v23 v24 v25 =>
      gd (decide (0 ≤ v21))
      (gd (decide (v21 < (v24.length : Int)))
       (c_yy41 (v24.getD (Int.toNat v21) (0 : Int)) (fun v26 =>
         c_yy42 v26 v23 v25 (fun v27 v28 =>
          let j34 : Bool → LI → Option R := fun v29 v30 =>
          (bif decide (v21 < v22) then
           (gd (decide (0 ≤ v22))
            (gd (decide (v22 < (v24.length : Int)))
             (c_yy41 (v24.getD (Int.toNat v22) (0 : Int)) (fun v31 =>
               c_yy42 v31 v29 v30 (fun v32 v33 =>
                l_9 Ke1 (IntKind.i64.wrap (v22 + 1)) v32 v24 v33)))))
           else (l_9 Ke1 (IntKind.i64.wrap (v22 + 1)) v29 v24 v30))
          (bif decide ((IntKind.i64.wrap (v21 + 1)) < v22) then
           (c_yy42 ([45]) v27 v28 (fun v35 v36 =>
             j34 v35 v36))
           else (j34 v27 v28))))))) v12)
    else (Ke1 v13 v15)
def yy44_l11_b {R : Type} (c_yy2 : LI → (LI → Option R) → Option R) (c_yy42 : T5 R) (c_yy41 : Int → (LI → Option R) → Option R) (l_9 : T28 R) (l_11 : T29 R) (v16 : Int) (v18 : Bool) (v19 : LI) (v20 : LI) (Ke3 : Int → Int → Bool → LI → LI → Option R) (v17 : Int) : Option R :=
    bif decide ((IntKind.i64.wrap (v17 + 1)) < (v19.length : Int)) then
    (gd (decide (0 ≤ (IntKind.i64.wrap (v17 + 1))))
     (gd (decide ((IntKind.i64.wrap (v17 + 1)) < (v19.length : Int)))
      (gd (decide (0 ≤ v17))
       (gd (decide (v17 < (v19.length : Int)))
        (bif decide ((v19.getD (Int.toNat (IntKind.i64.wrap (v17 + 1))) (0 : Int)) = (IntKind.u8.wrap ((v19.getD (Int.toNat v17) (0 : Int)) + 1))) then
         (l_11 v16 v18 v19 v20 Ke3 (IntKind.i64.wrap (v17 + 1)))
         else (Ke3 v16 v17 v18 v19 v20))))))
    else (Ke3 v16 v17 v18 v19 v20)
def yy44_b {R : Type} (c_yy2 : LI → (LI → Option R) → Option R) (c_yy42 : T5 R) (c_yy41 : Int → (LI → Option R) → Option R) (l_9 : T28 R) (l_11 : T29 R) (v1 : LI) (v2 : Bool) (v3 : LI) (K : Bool → LI → Option R) : Option R :=
    c_yy2 v1 (fun v4 =>
     bif decide ((v4.length : Int) = 256) then
     (c_yy42 ([46]) v2 v3 (fun v5 v6 =>
       K v5 v6))
     else (bif decide ((v4.length : Int) = 1) then
      (gd (decide (0 < (v4.length : Int)))
       (c_yy41 (v4.getD 0 (0 : Int)) (fun v7 =>
         c_yy42 v7 v2 v3 (fun v8 v9 =>
          K v8 v9))))
      else (c_yy42 ([91]) v2 v3 (fun v10 v11 =>
        l_9
        (fun v37 v38 =>
         c_yy42 ([93]) v37 v38 (fun v39 v40 =>
          K v39 v40)) 0 v10 v4 v11))))
def yy44_l11 {R : Type} (kf : Nat) : Nat → Int → Bool → LI → LI → (Int → Int → Bool → LI → LI → Option R) → Int → Option R
  | 0, _, _, _, _, _, _ => none
  | k + 1, y0, y1, y2, y3, y4, y5 => yy44_l11_b (yy2 kf) yy42 yy41 (fun _ _ _ _ _ => none) (yy44_l11 kf k) y0 y1 y2 y3 y4 y5
def yy44_l9 {R : Type} (kf : Nat) : Nat → (Bool → LI → Option R) → Int → Bool → LI → LI → Option R
  | 0, _, _, _, _, _ => none
  | k + 1, y0, y1, y2, y3, y4 => yy44_l9_b (yy2 kf) yy42 yy41 (yy44_l9 kf k) (yy44_l11 kf k) y0 y1 y2 y3 y4
def yy44 {R : Type} (kf : Nat) (v1 : LI) (v2 : Bool) (v3 : LI) (K : Bool → LI → Option R) : Option R := yy44_b (yy2 kf) yy42 yy41 (yy44_l9 kf kf) (yy44_l11 kf kf) v1 v2 v3 K
def yy45_b {R : Type} (c_yy49 : T2 R) (c_yy43 : T6 R) (c_yy42 : T5 R) (v1 : Int) (v2 : LI) (v3 : (List (Rose (Int × (LI × Unit))))) (v4 : LI) (v5 : Bool) (v6 : LI) (K : Bool → LI → Option R) : Option R :=
    c_yy49 v4 v1 (fun v7 =>
     bif (!v7) then
     (c_yy43 v1 v2 v3 v5 v6 (fun v8 v9 =>
       K v8 v9))
     else (c_yy42 ([40]) v5 v6 (fun v10 v11 =>
       c_yy43 v1 v2 v3 v10 v11 (fun v12 v13 =>
        c_yy42 ([41]) v12 v13 (fun v14 v15 =>
         K v14 v15)))))
def yy45 {R : Type} (c_yy43 : T6 R) (kf : Nat) (v1 : Int) (v2 : LI) (v3 : (List (Rose (Int × (LI × Unit))))) (v4 : LI) (v5 : Bool) (v6 : LI) (K : Bool → LI → Option R) : Option R := yy45_b (yy49 kf) c_yy43 yy42 v1 v2 v3 v4 v5 v6 K
def yy43_l11_b {R : Type} (c_yy42 : T5 R) (c_yy44 : T5 R) (c_yy45 : T19 R) (c_yy43 : T6 R) (l_11 : T8 R) (l_17 : T8 R) (v12 : (List (Rose (Int × (LI × Unit))))) (v13 : Int) (Ke1 : Bool → LI → Option R) (v14 : Int) (v15 : Bool) (v16 : LI) : Option R :=
    bif decide (v14 < v13) then
    (gd (decide (0 ≤ v14))
     (gd (decide (v14 < (v12.length : Int)))
      (c_yy45 ((Rose.lab (v12.getD (Int.toNat v14) (Rose.node ((0 : Int), ((List.replicate 4 (0 : Int)), ())) [] : (Rose (Int × (LI × Unit)))))).1) ((Rose.lab (v12.getD (Int.toNat v14) (Rose.node ((0 : Int), ((List.replicate 4 (0 : Int)), ())) [] : (Rose (Int × (LI × Unit)))))).2.1) (Rose.kids (v12.getD (Int.toNat v14) (Rose.node ((0 : Int), ((List.replicate 4 (0 : Int)), ())) [] : (Rose (Int × (LI × Unit)))))) ([5] : List Int) v15 v16 (fun v17 v18 =>
        l_11 v12 v13 Ke1 (IntKind.i64.wrap (v14 + 1)) v17 v18))))
    else (Ke1 v15 v16)
def yy43_l17_b {R : Type} (c_yy42 : T5 R) (c_yy44 : T5 R) (c_yy45 : T19 R) (c_yy43 : T6 R) (l_11 : T8 R) (l_17 : T8 R) (v21 : (List (Rose (Int × (LI × Unit))))) (v22 : Int) (Ke3 : Bool → LI → Option R) (v23 : Int) (v24 : Bool) (v25 : LI) : Option R :=
    bif decide (v23 < v22) then
    (gd (decide (0 ≤ v23))
     (gd (decide (v23 < (v21.length : Int)))
      (let j30 : Bool → LI → Option R := fun v26 v27 =>
       (bif (!(decide ((Rose.lab (v21.getD (Int.toNat v23) (Rose.node ((0 : Int), ((List.replicate 4 (0 : Int)), ())) [] : (Rose (Int × (LI × Unit)))))).1 = 2))) then
        (c_yy43 ((Rose.lab (v21.getD (Int.toNat v23) (Rose.node ((0 : Int), ((List.replicate 4 (0 : Int)), ())) [] : (Rose (Int × (LI × Unit)))))).1) ((Rose.lab (v21.getD (Int.toNat v23) (Rose.node ((0 : Int), ((List.replicate 4 (0 : Int)), ())) [] : (Rose (Int × (LI × Unit)))))).2.1) (Rose.kids (v21.getD (Int.toNat v23) (Rose.node ((0 : Int), ((List.replicate 4 (0 : Int)), ())) [] : (Rose (Int × (LI × Unit)))))) v26 v27 (fun v28 v29 =>
          l_17 v21 v22 Ke3 (IntKind.i64.wrap (v23 + 1)) v28 v29))
        else (l_17 v21 v22 Ke3 (IntKind.i64.wrap (v23 + 1)) v26 v27))
       (bif decide (0 < v23) then
        (c_yy42 ([124]) v24 v25 (fun v31 v32 =>
          j30 v31 v32))
        else (j30 v24 v25)))))
    else (Ke3 v24 v25)
def yy43_b {R : Type} (c_yy42 : T5 R) (c_yy44 : T5 R) (c_yy45 : T19 R) (c_yy43 : T6 R) (l_11 : T8 R) (l_17 : T8 R) (v1 : Int) (v2 : LI) (v3 : (List (Rose (Int × (LI × Unit))))) (v4 : Bool) (v5 : LI) (K : Bool → LI → Option R) : Option R :=
    bif v4 then
    (K v4 v5)
    else (bif decide (v1 = 1) then
     (c_yy42 ([91, 93]) v4 v5 (fun v6 v7 =>
       K v6 v7))
     else (bif decide (v1 = 2) then
      (c_yy42 ([40, 41]) v4 v5 (fun v8 v9 =>
        K v8 v9))
      else (bif decide (v1 = 3) then
       (c_yy44 v2 v4 v5 (fun v10 v11 =>
         K v10 v11))
       else (bif decide (v1 = 4) then
        (l_11 v3 (v3.length : Int)
         (fun v19 v20 =>
          K v19 v20) 0 v4 v5)
        else (bif decide (v1 = 5) then
         (l_17 v3 (v3.length : Int)
          (fun v33 v34 =>
           K v33 v34) 0 v4 v5)
         else (bif decide (v1 = 6) then
          (gd (decide (0 < (v3.length : Int)))
           (c_yy45 ((Rose.lab (v3.getD 0 (Rose.node ((0 : Int), ((List.replicate 4 (0 : Int)), ())) [] : (Rose (Int × (LI × Unit)))))).1) ((Rose.lab (v3.getD 0 (Rose.node ((0 : Int), ((List.replicate 4 (0 : Int)), ())) [] : (Rose (Int × (LI × Unit)))))).2.1) (Rose.kids (v3.getD 0 (Rose.node ((0 : Int), ((List.replicate 4 (0 : Int)), ())) [] : (Rose (Int × (LI × Unit)))))) ([4, 5] : List Int) v4 v5 (fun v35 v36 =>
             c_yy42 ([42]) v35 v36 (fun v37 v38 =>
              K v37 v38))))
          else (K v4 v5)))))))
def yy43_l11 {R : Type} (c_self : T6 R) (kf : Nat) : Nat → (List (Rose (Int × (LI × Unit)))) → Int → (Bool → LI → Option R) → Int → Bool → LI → Option R
  | 0, _, _, _, _, _, _ => none
  | k + 1, y0, y1, y2, y3, y4, y5 => yy43_l11_b yy42 (yy44 kf) (yy45 c_self kf) c_self (yy43_l11 c_self kf k) (fun _ _ _ _ _ _ => none) y0 y1 y2 y3 y4 y5
def yy43_l17 {R : Type} (c_self : T6 R) (kf : Nat) : Nat → (List (Rose (Int × (LI × Unit)))) → Int → (Bool → LI → Option R) → Int → Bool → LI → Option R
  | 0, _, _, _, _, _, _ => none
  | k + 1, y0, y1, y2, y3, y4, y5 => yy43_l17_b yy42 (yy44 kf) (yy45 c_self kf) c_self (yy43_l11 c_self kf k) (yy43_l17 c_self kf k) y0 y1 y2 y3 y4 y5
def yy43 {R : Type} : Nat → Int → LI → (List (Rose (Int × (LI × Unit)))) → Bool → LI → (Bool → LI → Option R) → Option R
  | 0, _, _, _, _, _, _ => none
  | kf + 1, y0, y1, y2, y3, y4, y5 => yy43_b yy42 (yy44 kf) (yy45 (yy43 kf) kf) (yy43 kf) (yy43_l11 (yy43 kf) kf kf) (yy43_l17 (yy43 kf) kf kf) y0 y1 y2 y3 y4 y5
def yy40_b {R : Type} (c_yy34 : T4 R) (c_yy43 : T6 R) (v1 : Int) (v2 : LI) (v3 : (List (Rose (Int × (LI × Unit))))) (K : LI → Option R) : Option R :=
    c_yy34 v1 v2 v3 (fun v4 =>
     bif (!v4) then
     (K ([]))
     else (c_yy43 v1 v2 v3 false ([] : List Int) (fun v5 v6 =>
       bif v5 then
       (K ([]))
       else (K v6))))
def yy40 {R : Type} (kf : Nat) (v1 : Int) (v2 : LI) (v3 : (List (Rose (Int × (LI × Unit))))) (K : LI → Option R) : Option R := yy40_b (yy34 kf) (yy43 kf) v1 v2 v3 K
def yy6_b {R : Type} (c_yy17 : LI → (LI → Option R) → Option R) (c_yy23 : T10 R) (c_yy30 : T0 R) (c_yy40 : T13 R) (c_yy27 : T1 R) (K : Bool → Option R) : Option R :=
    gd (decide (0 < ([97, 98, 99] : List Int).length))
    (c_yy17 ([97, 98, 99] : List Int) (fun v1 =>
      c_yy23 v1 (fun v2 v3 v4 =>
       c_yy30 v2 v3 v4 (fun v5 v6 v7 =>
        c_yy40 v5 v6 v7 (fun v8 =>
         bif decide (v8 = [91, 97, 45, 99, 93, 42]) then
         (c_yy27 (fun v9 v10 v11 =>
           c_yy40 v9 v10 v11 (fun v12 =>
            K (decide (v12 = [40, 41])))))
         else (K false))))))
def yy6 {R : Type} (kf : Nat) (K : Bool → Option R) : Option R := yy6_b (yy17 kf) yy23 (yy30 kf) (yy40 kf) yy27 K
def yy8_b {R : Type} (v1 : LI) (K : LI → Int → Option R) : Option R :=
    K v1 0
def yy8 {R : Type} (v1 : LI) (K : LI → Int → Option R) : Option R := yy8_b v1 K
def yy11_b {R : Type} (v1 : Int) (v2 : LI) (v3 : Int) (K : Int → LI → Int → Option R) : Option R :=
    bif decide ((v2.length : Int) ≤ v3) then
    (K 0 v2 v3)
    else (gd (decide (0 ≤ (IntKind.i64.wrap ((IntKind.i64.wrap (v3 + 1)) - 1))))
     (gd (decide ((IntKind.i64.wrap ((IntKind.i64.wrap (v3 + 1)) - 1)) < (v2.length : Int)))
      (gd (decide (v1 ≠ 0))
       (let v4 : Int := (Int.tmod (IntKind.i64.wrap (v2.getD (Int.toNat (IntKind.i64.wrap ((IntKind.i64.wrap (v3 + 1)) - 1))) (0 : Int))) v1)
        K v4 v2 (IntKind.i64.wrap (v3 + 1))))))
def yy11 {R : Type} (v1 : Int) (v2 : LI) (v3 : Int) (K : Int → LI → Int → Option R) : Option R := yy11_b v1 v2 v3 K
def yy12_b {R : Type} (v1 : LI) (v2 : Int) (K : Bool → LI → Int → Option R) : Option R :=
    K (decide ((v1.length : Int) ≤ v2)) v1 v2
def yy12 {R : Type} (v1 : LI) (v2 : Int) (K : Bool → LI → Int → Option R) : Option R := yy12_b v1 v2 K
def yy21_l3_b {R : Type} (c_yy17 : LI → (LI → Option R) → Option R) (l_3 : T47 R) (v3 : LB) (v4 : LI) (Ke0 : LI → LI → Option R) (v2 : Int) (v5 : LI) : Option R :=
    bif decide (v2 < 256) then
    (gd (decide (0 ≤ v2))
     (gd (decide (v2 < 256))
      (bif (v3.getD (Int.toNat v2) false) then
       (gd (decide (v5.length + ([(IntKind.u8.wrap v2)] : List Int).length < SMALL))
        (l_3 v3 v4 Ke0 (IntKind.i64.wrap (v2 + 1)) (v5 ++ ([(IntKind.u8.wrap v2)] : List Int))))
       else (l_3 v3 v4 Ke0 (IntKind.i64.wrap (v2 + 1)) v5))))
    else (Ke0 v4 v5)
def yy21_b {R : Type} (c_yy17 : LI → (LI → Option R) → Option R) (l_3 : T47 R) (v1 : LB) (K : LI → Option R) : Option R :=
    l_3 v1 (List.replicate 4 (0 : Int))
    (fun v6 v7 =>
     c_yy17 v7 (fun v8 =>
      K v8)) 0 ([] : List Int)
def yy21_l3 {R : Type} (kf : Nat) : Nat → LB → LI → (LI → LI → Option R) → Int → LI → Option R
  | 0, _, _, _, _, _ => none
  | k + 1, y0, y1, y2, y3, y4 => yy21_l3_b (yy17 kf) (yy21_l3 kf k) y0 y1 y2 y3 y4
def yy21 {R : Type} (kf : Nat) (v1 : LB) (K : LI → Option R) : Option R := yy21_b (yy17 kf) (yy21_l3 kf kf) v1 K
def yy19_l3_b {R : Type} (c_yy21 : LB → (LI → Option R) → Option R) (l_3 : T48 R) (v3 : Int) (v5 : LI) (Ke0 : LI → LB → Option R) (v4 : Int) (v6 : LB) : Option R :=
    bif decide (v4 ≤ (IntKind.i64.wrap v3)) then
    (gd (decide (0 ≤ v4))
     (gd (decide (v4 < 256))
      (l_3 v3 v5 Ke0 (IntKind.i64.wrap (v4 + 1)) (v6.set (Int.toNat v4) true))))
    else (Ke0 v5 v6)
def yy19_b {R : Type} (c_yy21 : LB → (LI → Option R) → Option R) (l_3 : T48 R) (v1 : Int) (v2 : Int) (K : LI → Option R) : Option R :=
    l_3 v2 (List.replicate 4 (0 : Int))
    (fun v7 v8 =>
     c_yy21 v8 (fun v9 =>
      K v9)) (IntKind.i64.wrap v1) (List.replicate 256 false)
def yy19_l3 {R : Type} (kf : Nat) : Nat → Int → LI → (LI → LB → Option R) → Int → LB → Option R
  | 0, _, _, _, _, _ => none
  | k + 1, y0, y1, y2, y3, y4 => yy19_l3_b (yy21 kf) (yy19_l3 kf k) y0 y1 y2 y3 y4
def yy19 {R : Type} (kf : Nat) (v1 : Int) (v2 : Int) (K : LI → Option R) : Option R := yy19_b (yy21 kf) (yy19_l3 kf kf) v1 v2 K
def yy16_l3_b {R : Type} (c_yy14 : T2 R) (c_yy21 : LB → (LI → Option R) → Option R) (l_3 : T49 R) (v3 : LI) (v4 : LI) (Ke0 : LI → LB → Option R) (v2 : Int) (v5 : LB) : Option R :=
    bif decide (v2 < 256) then
    (c_yy14 v3 (IntKind.u8.wrap v2) (fun v6 =>
      gd (decide (0 ≤ v2))
      (gd (decide (v2 < 256))
       (l_3 v3 v4 Ke0 (IntKind.i64.wrap (v2 + 1)) (v5.set (Int.toNat v2) (!v6))))))
    else (Ke0 v4 v5)
def yy16_b {R : Type} (c_yy14 : T2 R) (c_yy21 : LB → (LI → Option R) → Option R) (l_3 : T49 R) (v1 : LI) (K : LI → Option R) : Option R :=
    l_3 v1 (List.replicate 4 (0 : Int))
    (fun v7 v8 =>
     c_yy21 v8 (fun v9 =>
      K v9)) 0 (List.replicate 256 false)
def yy16_l3 {R : Type} (kf : Nat) : Nat → LI → LI → (LI → LB → Option R) → Int → LB → Option R
  | 0, _, _, _, _, _ => none
  | k + 1, y0, y1, y2, y3, y4 => yy16_l3_b yy14 (yy21 kf) (yy16_l3 kf k) y0 y1 y2 y3 y4
def yy16 {R : Type} (kf : Nat) (v1 : LI) (K : LI → Option R) : Option R := yy16_b yy14 (yy21 kf) (yy16_l3 kf kf) v1 K
def yy10_b {R : Type} (c_yy11 : T20 R) (c_yy19 : T50 R) (c_yy17 : LI → (LI → Option R) → Option R) (c_yy16 : LI → (LI → Option R) → Option R) (v1 : LI) (v2 : Int) (K : LI → LI → Int → Option R) : Option R :=
    c_yy11 8 v1 v2 (fun v3 v4 v5 =>
     bif decide (v3 = 0) then
     (c_yy19 97 100 (fun v6 =>
       K v6 v4 v5))
     else (bif decide (v3 = 1) then
      (c_yy11 256 v4 v5 (fun v7 v8 v9 =>
        c_yy11 256 v8 v9 (fun v10 v11 v12 =>
         c_yy19 (IntKind.u8.wrap v7) (IntKind.u8.wrap v10) (fun v13 =>
          K v13 v11 v12))))
      else (bif decide (v3 = 2) then
       (c_yy11 4 v4 v5 (fun v14 v15 v16 =>
         c_yy17 ([(IntKind.u8.wrap (IntKind.i64.wrap (97 + v14)))] : List Int) (fun v17 =>
          c_yy16 v17 (fun v18 =>
           K v18 v15 v16))))
       else (bif decide (v3 = 3) then
        (c_yy11 4 v4 v5 (fun v19 v20 v21 =>
          c_yy11 4 v20 v21 (fun v22 v23 v24 =>
           c_yy11 256 v23 v24 (fun v25 v26 v27 =>
            c_yy17 ([(IntKind.u8.wrap (IntKind.i64.wrap (97 + v19))), (IntKind.u8.wrap (IntKind.i64.wrap (97 + v22))), (IntKind.u8.wrap v25)] : List Int) (fun v28 =>
             K v28 v26 v27)))))
        else (bif decide (v3 = 4) then
         (c_yy19 0 255 (fun v29 =>
           K v29 v4 v5))
         else (c_yy11 4 v4 v5 (fun v30 v31 v32 =>
           c_yy17 ([(IntKind.u8.wrap (IntKind.i64.wrap (97 + v30)))] : List Int) (fun v33 =>
            K v33 v31 v32))))))))
def yy10 {R : Type} (kf : Nat) (v1 : LI) (v2 : Int) (K : LI → LI → Int → Option R) : Option R := yy10_b yy11 (yy19 kf) (yy17 kf) (yy16 kf) v1 v2 K
def yy24_l4_b {R : Type} (c_yy31 : T12 R) (c_yy29 : T1 R) (c_yy26 : T0 R) (c_yy27 : T1 R) (l_4 : T51 R) (v4 : Int) (v5 : LI) (v7 : (List (Rose (Int × (LI × Unit))))) (v8 : (List (Rose (Int × (LI × Unit))))) (Kr : Int → LI → (List (Rose (Int × (LI × Unit)))) → (List (Rose (Int × (LI × Unit)))) → Option R) (Ke0 : Int → LI → (List (Rose (Int × (LI × Unit)))) → (List (Rose (Int × (LI × Unit)))) → Option R) (v3 : Int) (v6 : (List (Rose (Int × (LI × Unit))))) : Option R :=
    bif decide (v3 < (v7.length : Int)) then
    (gd (decide (0 ≤ v3))
     (gd (decide (v3 < (v7.length : Int)))
      (bif decide ((Rose.lab (v7.getD (Int.toNat v3) (Rose.node ((0 : Int), ((List.replicate 4 (0 : Int)), ())) [] : (Rose (Int × (LI × Unit)))))).1 = 1) then
       (c_yy29 (fun v9 v10 v11 =>
         Kr v9 v10 v11 v6))
       else (gd (decide (0 ≤ v3))
        (gd (decide (v3 < (v7.length : Int)))
         (bif (!(decide ((Rose.lab (v7.getD (Int.toNat v3) (Rose.node ((0 : Int), ((List.replicate 4 (0 : Int)), ())) [] : (Rose (Int × (LI × Unit)))))).1 = 2))) then
          (gd (decide (0 ≤ v3))
           (gd (decide (v3 < (v7.length : Int)))
            (c_yy26 ((Rose.lab (v7.getD (Int.toNat v3) (Rose.node ((0 : Int), ((List.replicate 4 (0 : Int)), ())) [] : (Rose (Int × (LI × Unit)))))).1) ((Rose.lab (v7.getD (Int.toNat v3) (Rose.node ((0 : Int), ((List.replicate 4 (0 : Int)), ())) [] : (Rose (Int × (LI × Unit)))))).2.1) (Rose.kids (v7.getD (Int.toNat v3) (Rose.node ((0 : Int), ((List.replicate 4 (0 : Int)), ())) [] : (Rose (Int × (LI × Unit)))))) (fun v12 v13 v14 =>
              gd (decide (v6.length + ([(Rose.node (v12, v13, ()) v14)] : List (Rose (Int × (LI × Unit)))).length < SMALL))
              (l_4 v4 v5 v7 v8 Kr Ke0 (IntKind.i64.wrap (v3 + 1)) (v6 ++ ([(Rose.node (v12, v13, ()) v14)] : List (Rose (Int × (LI × Unit))))))))))
          else (l_4 v4 v5 v7 v8 Kr Ke0 (IntKind.i64.wrap (v3 + 1)) v6)))))))
    else (Ke0 v4 v5 v6 v8)
def yy24_b {R : Type} (c_yy31 : T12 R) (c_yy29 : T1 R) (c_yy26 : T0 R) (c_yy27 : T1 R) (l_4 : T51 R) (v1 : (List (Rose (Int × (LI × Unit))))) (K : T18 R) : Option R :=
    c_yy31 4 v1 (fun v2 =>
     l_4 0 (List.replicate 4 (0 : Int)) v2 ([] : List (Rose (Int × (LI × Unit))))
     (fun v15 v16 v17 v18 =>
      K v15 v16 v17)
     (fun v19 v20 v21 v22 =>
      bif decide ((v21.length : Int) = 0) then
      (c_yy27 (fun v23 v24 v25 =>
        K v23 v24 v25))
      else (bif decide ((v21.length : Int) = 1) then
       (gd (decide (0 < (v21.length : Int)))
        (K ((Rose.lab (v21.getD 0 (Rose.node ((0 : Int), ((List.replicate 4 (0 : Int)), ())) [] : (Rose (Int × (LI × Unit)))))).1) ((Rose.lab (v21.getD 0 (Rose.node ((0 : Int), ((List.replicate 4 (0 : Int)), ())) [] : (Rose (Int × (LI × Unit)))))).2.1) (Rose.kids (v21.getD 0 (Rose.node ((0 : Int), ((List.replicate 4 (0 : Int)), ())) [] : (Rose (Int × (LI × Unit))))))))
       else (K 4 (List.replicate 4 (0 : Int)) v21))) 0 ([] : List (Rose (Int × (LI × Unit)))))
def yy24_l4 {R : Type} (kf : Nat) : Nat → Int → LI → (List (Rose (Int × (LI × Unit)))) → (List (Rose (Int × (LI × Unit)))) → (Int → LI → (List (Rose (Int × (LI × Unit)))) → (List (Rose (Int × (LI × Unit)))) → Option R) → (Int → LI → (List (Rose (Int × (LI × Unit)))) → (List (Rose (Int × (LI × Unit)))) → Option R) → Int → (List (Rose (Int × (LI × Unit)))) → Option R
  | 0, _, _, _, _, _, _, _, _ => none
  | k + 1, y0, y1, y2, y3, y4, y5, y6, y7 => yy24_l4_b (yy31 kf) yy29 (yy26 kf) yy27 (yy24_l4 kf k) y0 y1 y2 y3 y4 y5 y6 y7
def yy24 {R : Type} (kf : Nat) (v1 : (List (Rose (Int × (LI × Unit))))) (K : T18 R) : Option R := yy24_b (yy31 kf) yy29 (yy26 kf) yy27 (yy24_l4 kf kf) v1 K
def yy13_b {R : Type} (c_yy11 : T20 R) (c_yy12 : T52 R) (c_yy10 : T53 R) (c_yy23 : T10 R) (c_yy29 : T1 R) (c_yy27 : T1 R) (c_yy13 : T21 R) (c_yy24 : T7 R) (c_yy22 : T7 R) (c_yy30 : T0 R) (v1 : Int) (v2 : LI) (v3 : Int) (K : T55 R) : Option R :=
    c_yy11 9 v2 v3 (fun v4 v5 v6 =>
     let j60 : Bool → LI → Int → Option R := fun v7 v8 v9 =>
     (bif v7 then
      (let j28 : Bool → LI → Int → Option R := fun v10 v11 v12 =>
       (bif v10 then
        (c_yy10 v11 v12 (fun v13 v14 v15 =>
          c_yy23 v13 (fun v16 v17 v18 =>
           K v16 v17 v18 v14 v15)))
        else (c_yy11 3 v11 v12 (fun v19 v20 v21 =>
          bif decide (v19 = 0) then
          (c_yy29 (fun v22 v23 v24 =>
            K v22 v23 v24 v20 v21))
          else (c_yy27 (fun v25 v26 v27 =>
            K v25 v26 v27 v20 v21)))))
       (c_yy12 v8 v9 (fun v29 v30 v31 =>
         bif v29 then
         (j28 true v30 v31)
         else (j28 (decide (0 < v4)) v30 v31))))
      else (c_yy13 (IntKind.i64.wrap (v1 + 1)) v8 v9 (fun v32 v33 v34 v35 v36 =>
        let j59 : Bool → Option R := fun v37 =>
        (bif v37 then
         (c_yy13 (IntKind.i64.wrap (v1 + 1)) v35 v36 (fun v38 v39 v40 v41 v42 =>
           c_yy24 ([(Rose.node (v32, v33, ()) v34), (Rose.node (v38, v39, ()) v40)] : List (Rose (Int × (LI × Unit)))) (fun v43 v44 v45 =>
            K v43 v44 v45 v41 v42)))
         else (let j58 : Bool → Option R := fun v46 =>
          (bif v46 then
           (c_yy13 (IntKind.i64.wrap (v1 + 1)) v35 v36 (fun v47 v48 v49 v50 v51 =>
             c_yy22 ([(Rose.node (v32, v33, ()) v34), (Rose.node (v47, v48, ()) v49)] : List (Rose (Int × (LI × Unit)))) (fun v52 v53 v54 =>
              K v52 v53 v54 v50 v51)))
           else (c_yy30 v32 v33 v34 (fun v55 v56 v57 =>
             K v55 v56 v57 v35 v36)))
          (bif decide (v4 = 6) then
           (j58 (decide (v4 = 6)))
           else (j58 (decide (v4 = 7))))))
        (bif decide (v4 = 3) then
         (j59 (decide (v4 = 3)))
         else (bif decide (v4 = 4) then
          (j59 (decide (v4 = 4)))
          else (j59 (decide (v4 = 5))))))))
     (c_yy12 v5 v6 (fun v61 v62 v63 =>
       bif v61 then
       (j60 true v62 v63)
       else (bif decide (8 < v1) then
        (j60 true v62 v63)
        else (j60 (decide (v4 < 3)) v62 v63)))))
def yy13 {R : Type} : Nat → Int → LI → Int → (Int → LI → (List (Rose (Int × (LI × Unit)))) → LI → Int → Option R) → Option R
  | 0, _, _, _, _ => none
  | kf + 1, y0, y1, y2, y3 => yy13_b yy11 yy12 (yy10 kf) yy23 yy29 yy27 (yy13 kf) (yy24 kf) (yy22 kf) (yy30 kf) y0 y1 y2 y3
def yy9_b {R : Type} (c_yy13 : T21 R) (v1 : LI) (v2 : Int) (K : T55 R) : Option R :=
    c_yy13 0 v1 v2 (fun v3 v4 v5 v6 v7 =>
     K v3 v4 v5 v6 v7)
def yy9 {R : Type} (kf : Nat) (v1 : LI) (v2 : Int) (K : T55 R) : Option R := yy9_b (yy13 kf) v1 v2 K
def yy5_l11_b {R : Type} (c_yy6 : (Bool → Option R) → Option R) (c_yy8 : T22 R) (c_yy9 : T23 R) (c_yy40 : T13 R) (l_11 : T9 R) (l_19 : T9 R) (v12 : Int) (v13 : LI) (v14 : (List (Rose (Int × (LI × Unit))))) (Ke1 : LI → Int → LI → (List (Rose (Int × (LI × Unit)))) → Option R) (v10 : LI) (v11 : Int) : Option R :=
    bif decide (v11 < (v14.length : Int)) then
    (gd (decide (0 ≤ v11))
     (gd (decide (v11 < (v14.length : Int)))
      (c_yy40 ((Rose.lab (v14.getD (Int.toNat v11) (Rose.node ((0 : Int), ((List.replicate 4 (0 : Int)), ())) [] : (Rose (Int × (LI × Unit)))))).1) ((Rose.lab (v14.getD (Int.toNat v11) (Rose.node ((0 : Int), ((List.replicate 4 (0 : Int)), ())) [] : (Rose (Int × (LI × Unit)))))).2.1) (Rose.kids (v14.getD (Int.toNat v11) (Rose.node ((0 : Int), ((List.replicate 4 (0 : Int)), ())) [] : (Rose (Int × (LI × Unit)))))) (fun v15 =>
        let j17 : LI → Option R := fun v16 =>
        (gd (decide (v10.length + v16.length < SMALL))
         (l_11 v12 v13 v14 Ke1 (v10 ++ v16) (IntKind.i64.wrap (v11 + 1))))
        (gd (decide (0 ≤ v11))
         (gd (decide (v11 < (v14.length : Int)))
          (bif decide ((Rose.lab (v14.getD (Int.toNat v11) (Rose.node ((0 : Int), ((List.replicate 4 (0 : Int)), ())) [] : (Rose (Int × (LI × Unit)))))).1 = 5) then
           (gd (decide ([40].length + v15.length < SMALL))
            (gd (decide (([40] ++ v15).length + [41].length < SMALL))
             (j17 (([40] ++ v15) ++ [41]))))
           else (j17 v15))))))))
    else (Ke1 v10 v12 v13 v14)
def yy5_l19_b {R : Type} (c_yy6 : (Bool → Option R) → Option R) (c_yy8 : T22 R) (c_yy9 : T23 R) (c_yy40 : T13 R) (l_11 : T9 R) (l_19 : T9 R) (v25 : Int) (v26 : LI) (v27 : (List (Rose (Int × (LI × Unit))))) (Ke3 : LI → Int → LI → (List (Rose (Int × (LI × Unit)))) → Option R) (v23 : LI) (v24 : Int) : Option R :=
    bif decide (v24 < (v27.length : Int)) then
    (let j30 : LI → Option R := fun v28 =>
     (gd (decide (0 ≤ v24))
      (gd (decide (v24 < (v27.length : Int)))
       (bif (!(decide ((Rose.lab (v27.getD (Int.toNat v24) (Rose.node ((0 : Int), ((List.replicate 4 (0 : Int)), ())) [] : (Rose (Int × (LI × Unit)))))).1 = 2))) then
        (gd (decide (0 ≤ v24))
         (gd (decide (v24 < (v27.length : Int)))
          (c_yy40 ((Rose.lab (v27.getD (Int.toNat v24) (Rose.node ((0 : Int), ((List.replicate 4 (0 : Int)), ())) [] : (Rose (Int × (LI × Unit)))))).1) ((Rose.lab (v27.getD (Int.toNat v24) (Rose.node ((0 : Int), ((List.replicate 4 (0 : Int)), ())) [] : (Rose (Int × (LI × Unit)))))).2.1) (Rose.kids (v27.getD (Int.toNat v24) (Rose.node ((0 : Int), ((List.replicate 4 (0 : Int)), ())) [] : (Rose (Int × (LI × Unit)))))) (fun v29 =>
            gd (decide (v28.length + v29.length < SMALL))
            (l_19 v25 v26 v27 Ke3 (v28 ++ v29) (IntKind.i64.wrap (v24 + 1)))))))
        else (l_19 v25 v26 v27 Ke3 v28 (IntKind.i64.wrap (v24 + 1))))))
     (bif decide (0 < v24) then
      (gd (decide (v23.length + [124].length < SMALL))
       (j30 (v23 ++ [124])))
      else (j30 v23)))
    else (Ke3 v23 v25 v26 v27)
def yy5_b {R : Type} (c_yy6 : (Bool → Option R) → Option R) (c_yy8 : T22 R) (c_yy9 : T23 R) (c_yy40 : T13 R) (l_11 : T9 R) (l_19 : T9 R) (v1 : LI) (K : Bool → Option R) : Option R :=
    c_yy6 (fun v2 =>
     bif (!v2) then
     (K false)
     else (bif decide (60 < (v1.length : Int)) then
      (K true)
      else (c_yy8 v1 (fun v3 v4 =>
        c_yy9 v3 v4 (fun v5 v6 v7 v8 v9 =>
         bif decide (v5 = 4) then
         (l_11 v5 v6 v7
          (fun v18 v19 v20 v21 =>
           c_yy40 v19 v20 v21 (fun v22 =>
            K (decide (v22 = v18)))) ([]) 0)
         else (bif decide (v5 = 5) then
          (l_19 v5 v6 v7
           (fun v31 v32 v33 v34 =>
            c_yy40 v32 v33 v34 (fun v35 =>
             K (decide (v35 = v31)))) ([]) 0)
          else (bif decide (v5 = 6) then
           (gd (decide (0 < (v7.length : Int)))
            (c_yy40 ((Rose.lab (v7.getD 0 (Rose.node ((0 : Int), ((List.replicate 4 (0 : Int)), ())) [] : (Rose (Int × (LI × Unit)))))).1) ((Rose.lab (v7.getD 0 (Rose.node ((0 : Int), ((List.replicate 4 (0 : Int)), ())) [] : (Rose (Int × (LI × Unit)))))).2.1) (Rose.kids (v7.getD 0 (Rose.node ((0 : Int), ((List.replicate 4 (0 : Int)), ())) [] : (Rose (Int × (LI × Unit)))))) (fun v36 =>
              let j40 : Bool → Option R := fun v37 =>
              (bif v37 then
               (gd (decide ([40].length + v36.length < SMALL))
                (gd (decide (([40] ++ v36).length + [41].length < SMALL))
                 (gd (decide ((([40] ++ v36) ++ [41]).length + [42].length < SMALL))
                  (c_yy40 v5 v6 v7 (fun v38 =>
                    K (decide (v38 = ((([40] ++ v36) ++ [41]) ++ [42]))))))))
               else (gd (decide (v36.length + [42].length < SMALL))
                (c_yy40 v5 v6 v7 (fun v39 =>
                  K (decide (v39 = (v36 ++ [42])))))))
              (gd (decide (0 < (v7.length : Int)))
               (bif decide ((Rose.lab (v7.getD 0 (Rose.node ((0 : Int), ((List.replicate 4 (0 : Int)), ())) [] : (Rose (Int × (LI × Unit)))))).1 = 4) then
                (j40 true)
                else (gd (decide (0 < (v7.length : Int)))
                 (j40 (decide ((Rose.lab (v7.getD 0 (Rose.node ((0 : Int), ((List.replicate 4 (0 : Int)), ())) [] : (Rose (Int × (LI × Unit)))))).1 = 5)))))))))
           else (c_yy40 v5 v6 v7 (fun v41 =>
             K (!(decide (v41 = []))))))))))))
def yy5_l11 {R : Type} (kf : Nat) : Nat → Int → LI → (List (Rose (Int × (LI × Unit)))) → (LI → Int → LI → (List (Rose (Int × (LI × Unit)))) → Option R) → LI → Int → Option R
  | 0, _, _, _, _, _, _ => none
  | k + 1, y0, y1, y2, y3, y4, y5 => yy5_l11_b (yy6 kf) yy8 (yy9 kf) (yy40 kf) (yy5_l11 kf k) (fun _ _ _ _ _ _ => none) y0 y1 y2 y3 y4 y5
def yy5_l19 {R : Type} (kf : Nat) : Nat → Int → LI → (List (Rose (Int × (LI × Unit)))) → (LI → Int → LI → (List (Rose (Int × (LI × Unit)))) → Option R) → LI → Int → Option R
  | 0, _, _, _, _, _, _ => none
  | k + 1, y0, y1, y2, y3, y4, y5 => yy5_l19_b (yy6 kf) yy8 (yy9 kf) (yy40 kf) (yy5_l11 kf k) (yy5_l19 kf k) y0 y1 y2 y3 y4 y5
def yy5 {R : Type} (kf : Nat) (v1 : LI) (K : Bool → Option R) : Option R := yy5_b (yy6 kf) yy8 (yy9 kf) (yy40 kf) (yy5_l11 kf kf) (yy5_l19 kf kf) v1 K
def sh8 {R : Type} (c_yy5 : LI → (Bool → Option R) → Option R) (av : List S) (es : List Ent) (K : S → List Ent → Option R) : Option R :=
  match av, es with
  | [.sl (.int .u8) v1], [] => c_yy5 v1 (fun r0 => K (.bool r0) [])
  | _, _ => none
def sh9 {R : Type} (c_yy6 : (Bool → Option R) → Option R) (av : List S) (es : List Ent) (K : S → List Ent → Option R) : Option R :=
  match av, es with
  | [], [] => c_yy6 (fun r0 => K (.bool r0) [])
  | _, _ => none
def sh11 {R : Type} (c_yy26 : T0 R) (av : List S) (es : List Ent) (K : S → List Ent → Option R) : Option R :=
  match av, es with
  | [.st [.int .i64 v1, .arr 4 (.int .u64) v2, .sl (.rose (.pair (.int .i64) (.pair (.arr 4 (.int .u64)) .unit))) v3]], [] => c_yy26 v1 v2 v3 (fun r0 r1 r2 => K (.st [.int .i64 r0, .arr 4 (.int .u64) r1, .own (.rose (.pair (.int .i64) (.pair (.arr 4 (.int .u64)) .unit))) 0]) [.buf (.rose (.pair (.int .i64) (.pair (.arr 4 (.int .u64)) .unit))) r2 false])
  | _, _ => none
def sh12 {R : Type} (c_yy40 : T13 R) (av : List S) (es : List Ent) (K : S → List Ent → Option R) : Option R :=
  match av, es with
  | [.st [.int .i64 v1, .arr 4 (.int .u64) v2, .sl (.rose (.pair (.int .i64) (.pair (.arr 4 (.int .u64)) .unit))) v3]], [] => c_yy40 v1 v2 v3 (fun r0 => K (.str r0) [])
  | _, _ => none
def sh15 {R : Type} (c_yy8 : T22 R) (av : List S) (es : List Ent) (K : S → List Ent → Option R) : Option R :=
  match av, es with
  | [.sl (.int .u8) v1], [] => c_yy8 v1 (fun r0 r1 => K (.ptr 0 []) [.box (.st [.sl (.int .u8) r0, .int .i64 r1]) false])
  | _, _ => none
def sh16 {R : Type} (c_yy9 : T23 R) (av : List S) (es : List Ent) (K : S → List Ent → Option R) : Option R :=
  match av, es with
  | [.ptr 0 []], [.box (.st [.sl (.int .u8) v1, .int .i64 v2]) false] => c_yy9 v1 v2 (fun r0 r1 r2 r3 r4 => K (.st [.int .i64 r0, .arr 4 (.int .u64) r1, .sl (.rose (.pair (.int .i64) (.pair (.arr 4 (.int .u64)) .unit))) r2]) [.box (.st [.sl (.int .u8) r3, .int .i64 r4]) false])
  | _, _ => none
def sh18 {R : Type} (c_yy23 : T10 R) (av : List S) (es : List Ent) (K : S → List Ent → Option R) : Option R :=
  match av, es with
  | [.arr 4 (.int .u64) v1], [] => c_yy23 v1 (fun r0 r1 r2 => K (.st [.int .i64 r0, .arr 4 (.int .u64) r1, .own (.rose (.pair (.int .i64) (.pair (.arr 4 (.int .u64)) .unit))) 0]) [.buf (.rose (.pair (.int .i64) (.pair (.arr 4 (.int .u64)) .unit))) r2 false])
  | _, _ => none
def sh19 {R : Type} (c_yy19 : T50 R) (av : List S) (es : List Ent) (K : S → List Ent → Option R) : Option R :=
  match av, es with
  | [.int .u8 v1, .int .u8 v2], [] => c_yy19 v1 v2 (fun r0 => K (.arr 4 (.int .u64) r0) [])
  | _, _ => none
def sh20 {R : Type} (c_yy17 : LI → (LI → Option R) → Option R) (av : List S) (es : List Ent) (K : S → List Ent → Option R) : Option R :=
  match av, es with
  | [.sl (.int .u8) v1], [] => c_yy17 v1 (fun r0 => K (.arr 4 (.int .u64) r0) [])
  | _, _ => none
def sh21 {R : Type} (c_yy30 : T0 R) (av : List S) (es : List Ent) (K : S → List Ent → Option R) : Option R :=
  match av, es with
  | [.st [.int .i64 v1, .arr 4 (.int .u64) v2, .sl (.rose (.pair (.int .i64) (.pair (.arr 4 (.int .u64)) .unit))) v3]], [] => c_yy30 v1 v2 v3 (fun r0 r1 r2 => K (.st [.int .i64 r0, .arr 4 (.int .u64) r1, .own (.rose (.pair (.int .i64) (.pair (.arr 4 (.int .u64)) .unit))) 0]) [.buf (.rose (.pair (.int .i64) (.pair (.arr 4 (.int .u64)) .unit))) r2 false])
  | _, _ => none
def sh22 {R : Type} (c_yy27 : T1 R) (av : List S) (es : List Ent) (K : S → List Ent → Option R) : Option R :=
  match av, es with
  | [], [] => c_yy27 (fun r0 r1 r2 => K (.st [.int .i64 r0, .arr 4 (.int .u64) r1, .own (.rose (.pair (.int .i64) (.pair (.arr 4 (.int .u64)) .unit))) 0]) [.buf (.rose (.pair (.int .i64) (.pair (.arr 4 (.int .u64)) .unit))) r2 false])
  | _, _ => none
def sh25 {R : Type} (c_yy34 : T4 R) (av : List S) (es : List Ent) (K : S → List Ent → Option R) : Option R :=
  match av, es with
  | [.st [.int .i64 v1, .arr 4 (.int .u64) v2, .sl (.rose (.pair (.int .i64) (.pair (.arr 4 (.int .u64)) .unit))) v3]], [] => c_yy34 v1 v2 v3 (fun r0 => K (.bool r0) [])
  | _, _ => none
def sh26 {R : Type} (c_yy43 : T6 R) (av : List S) (es : List Ent) (K : S → List Ent → Option R) : Option R :=
  match av, es with
  | [.ptr 0 [], .st [.int .i64 v1, .arr 4 (.int .u64) v2, .sl (.rose (.pair (.int .i64) (.pair (.arr 4 (.int .u64)) .unit))) v3]], [.box (.st [.own (.int .u8) 1, .bool v4]) false, .buf (.int .u8) v5 false] => c_yy43 v1 v2 v3 v4 v5 (fun r0 r1 => K (.tup []) [.box (.st [.own (.int .u8) 1, .bool r0]) false, .buf (.int .u8) r1 false])
  | _, _ => none
def sh29 {R : Type} (c_yy13 : T21 R) (av : List S) (es : List Ent) (K : S → List Ent → Option R) : Option R :=
  match av, es with
  | [.ptr 0 [], .int .i64 v1], [.box (.st [.sl (.int .u8) v2, .int .i64 v3]) false] => c_yy13 v1 v2 v3 (fun r0 r1 r2 r3 r4 => K (.st [.int .i64 r0, .arr 4 (.int .u64) r1, .sl (.rose (.pair (.int .i64) (.pair (.arr 4 (.int .u64)) .unit))) r2]) [.box (.st [.sl (.int .u8) r3, .int .i64 r4]) false])
  | _, _ => none
def sh33 {R : Type} (c_yy29 : T1 R) (av : List S) (es : List Ent) (K : S → List Ent → Option R) : Option R :=
  match av, es with
  | [], [] => c_yy29 (fun r0 r1 r2 => K (.st [.int .i64 r0, .arr 4 (.int .u64) r1, .own (.rose (.pair (.int .i64) (.pair (.arr 4 (.int .u64)) .unit))) 0]) [.buf (.rose (.pair (.int .i64) (.pair (.arr 4 (.int .u64)) .unit))) r2 false])
  | _, _ => none
def sh34 {R : Type} (c_yy21 : LB → (LI → Option R) → Option R) (av : List S) (es : List Ent) (K : S → List Ent → Option R) : Option R :=
  match av, es with
  | [.arr 256 .bool v1], [] => c_yy21 v1 (fun r0 => K (.arr 4 (.int .u64) r0) [])
  | _, _ => none
def sh35 {R : Type} (c_yy22 : T7 R) (av : List S) (es : List Ent) (K : S → List Ent → Option R) : Option R :=
  match av, es with
  | [.sl (.rose (.pair (.int .i64) (.pair (.arr 4 (.int .u64)) .unit))) v1], [] => c_yy22 v1 (fun r0 r1 r2 => K (.st [.int .i64 r0, .arr 4 (.int .u64) r1, .sl (.rose (.pair (.int .i64) (.pair (.arr 4 (.int .u64)) .unit))) r2]) [])
  | _, _ => none
def sh36 {R : Type} (c_yy36 : T46 R) (av : List S) (es : List Ent) (K : S → List Ent → Option R) : Option R :=
  match av, es with
  | [.sl (.rose (.pair (.int .i64) (.pair (.arr 4 (.int .u64)) .unit))) v1, .sl (.int .i64) v2], [] => c_yy36 v1 v2 (fun r0 => K (.bool r0) [])
  | _, _ => none
def sh37 {R : Type} (c_yy39 : T17 R) (av : List S) (es : List Ent) (K : S → List Ent → Option R) : Option R :=
  match av, es with
  | [.sl (.rose (.pair (.int .i64) (.pair (.arr 4 (.int .u64)) .unit))) v1], [] => c_yy39 v1 (fun r0 => K (.bool r0) [])
  | _, _ => none
def sh38 {R : Type} (c_yy47 : T39 R) (c_yy48 : T17 R) (av : List S) (es : List Ent) (K : S → List Ent → Option R) : Option R :=
  match av, es with
  | [.sl (.rose (.pair (.int .i64) (.pair (.arr 4 (.int .u64)) .unit))) v1, .fn 54 [.ptr 0 []]], [.box (.sl (.int .i64) v2) false] => c_yy47 v1 v2 (fun r0 r1 => K (.bool r0) [.box (.sl (.int .i64) r1) false])
  | [.sl (.rose (.pair (.int .i64) (.pair (.arr 4 (.int .u64)) .unit))) v1, .fn 39 []], [] => c_yy48 v1 (fun r0 => K (.bool r0) [])
  | _, _ => none
def sh39 {R : Type} (c_yy35 : T4 R) (av : List S) (es : List Ent) (K : S → List Ent → Option R) : Option R :=
  match av, es with
  | [.st [.int .i64 v1, .arr 4 (.int .u64) v2, .sl (.rose (.pair (.int .i64) (.pair (.arr 4 (.int .u64)) .unit))) v3]], [] => c_yy35 v1 v2 v3 (fun r0 => K (.bool r0) [])
  | _, _ => none
def sh40 {R : Type} (c_yy42 : T5 R) (av : List S) (es : List Ent) (K : S → List Ent → Option R) : Option R :=
  match av, es with
  | [.ptr 0 [], .str v1], [.box (.st [.own (.int .u8) 1, .bool v2]) false, .buf (.int .u8) v3 false] => c_yy42 v1 v2 v3 (fun r0 r1 => K (.tup []) [.box (.st [.own (.int .u8) 1, .bool r0]) false, .buf (.int .u8) r1 false])
  | _, _ => none
def sh41 {R : Type} (c_yy44 : T5 R) (av : List S) (es : List Ent) (K : S → List Ent → Option R) : Option R :=
  match av, es with
  | [.ptr 0 [], .arr 4 (.int .u64) v1], [.box (.st [.own (.int .u8) 1, .bool v2]) false, .buf (.int .u8) v3 false] => c_yy44 v1 v2 v3 (fun r0 r1 => K (.tup []) [.box (.st [.own (.int .u8) 1, .bool r0]) false, .buf (.int .u8) r1 false])
  | _, _ => none
def sh42 {R : Type} (c_yy45 : T19 R) (av : List S) (es : List Ent) (K : S → List Ent → Option R) : Option R :=
  match av, es with
  | [.ptr 0 [], .st [.int .i64 v1, .arr 4 (.int .u64) v2, .sl (.rose (.pair (.int .i64) (.pair (.arr 4 (.int .u64)) .unit))) v3], .sl (.int .i64) v4], [.box (.st [.own (.int .u8) 1, .bool v5]) false, .buf (.int .u8) v6 false] => c_yy45 v1 v2 v3 v4 v5 v6 (fun r0 r1 => K (.tup []) [.box (.st [.own (.int .u8) 1, .bool r0]) false, .buf (.int .u8) r1 false])
  | _, _ => none
def sh43 {R : Type} (c_yy24 : T7 R) (av : List S) (es : List Ent) (K : S → List Ent → Option R) : Option R :=
  match av, es with
  | [.sl (.rose (.pair (.int .i64) (.pair (.arr 4 (.int .u64)) .unit))) v1], [] => c_yy24 v1 (fun r0 r1 r2 => K (.st [.int .i64 r0, .arr 4 (.int .u64) r1, .sl (.rose (.pair (.int .i64) (.pair (.arr 4 (.int .u64)) .unit))) r2]) [])
  | _, _ => none
def sh45 {R : Type} (c_yy11 : T20 R) (av : List S) (es : List Ent) (K : S → List Ent → Option R) : Option R :=
  match av, es with
  | [.ptr 0 [], .int .i64 v1], [.box (.st [.sl (.int .u8) v2, .int .i64 v3]) false] => c_yy11 v1 v2 v3 (fun r0 r1 r2 => K (.int .i64 r0) [.box (.st [.sl (.int .u8) r1, .int .i64 r2]) false])
  | _, _ => none
def sh46 {R : Type} (c_yy12 : T52 R) (av : List S) (es : List Ent) (K : S → List Ent → Option R) : Option R :=
  match av, es with
  | [.ptr 0 []], [.box (.st [.sl (.int .u8) v1, .int .i64 v2]) false] => c_yy12 v1 v2 (fun r0 r1 r2 => K (.bool r0) [.box (.st [.sl (.int .u8) r1, .int .i64 r2]) false])
  | _, _ => none
def sh47 {R : Type} (c_yy10 : T53 R) (av : List S) (es : List Ent) (K : S → List Ent → Option R) : Option R :=
  match av, es with
  | [.ptr 0 []], [.box (.st [.sl (.int .u8) v1, .int .i64 v2]) false] => c_yy10 v1 v2 (fun r0 r1 r2 => K (.arr 4 (.int .u64) r0) [.box (.st [.sl (.int .u8) r1, .int .i64 r2]) false])
  | _, _ => none
def sh51 {R : Type} (c_yy31 : T12 R) (av : List S) (es : List Ent) (K : S → List Ent → Option R) : Option R :=
  match av, es with
  | [.int .i64 v1, .sl (.rose (.pair (.int .i64) (.pair (.arr 4 (.int .u64)) .unit))) v2], [] => c_yy31 v1 v2 (fun r0 => K (.own (.rose (.pair (.int .i64) (.pair (.arr 4 (.int .u64)) .unit))) 0) [.buf (.rose (.pair (.int .i64) (.pair (.arr 4 (.int .u64)) .unit))) r0 false])
  | _, _ => none
def sh52 {R : Type} (c_yy18 : T25 R) (av : List S) (es : List Ent) (K : S → List Ent → Option R) : Option R :=
  match av, es with
  | [.arr 4 (.int .u64) v1, .arr 4 (.int .u64) v2], [] => c_yy18 v1 v2 (fun r0 => K (.arr 4 (.int .u64) r0) [])
  | _, _ => none
def sh53 {R : Type} (c_yy32 : T26 R) (av : List S) (es : List Ent) (K : S → List Ent → Option R) : Option R :=
  match av, es with
  | [.sl (.rose (.pair (.int .i64) (.pair (.arr 4 (.int .u64)) .unit))) v1, .st [.int .i64 v2, .arr 4 (.int .u64) v3, .sl (.rose (.pair (.int .i64) (.pair (.arr 4 (.int .u64)) .unit))) v4]], [] => c_yy32 v1 v2 v3 v4 (fun r0 => K (.sl (.rose (.pair (.int .i64) (.pair (.arr 4 (.int .u64)) .unit))) r0) [])
  | _, _ => none
def sh54 {R : Type} (c_yy37 : T27 R) (av : List S) (es : List Ent) (K : S → List Ent → Option R) : Option R :=
  match av, es with
  | [.st [.int .i64 v1, .arr 4 (.int .u64) v2, .sl (.rose (.pair (.int .i64) (.pair (.arr 4 (.int .u64)) .unit))) v3], .ptr 0 []], [.box (.sl (.int .i64) v4) false] => c_yy37 v1 v2 v3 v4 (fun r0 r1 => K (.bool r0) [.box (.sl (.int .i64) r1) false])
  | _, _ => none
def sh55 {R : Type} (c_yy49 : T2 R) (av : List S) (es : List Ent) (K : S → List Ent → Option R) : Option R :=
  match av, es with
  | [.sl (.int .i64) v1, .int .i64 v2], [] => c_yy49 v1 v2 (fun r0 => K (.bool r0) [])
  | _, _ => none
def sh56 {R : Type} (c_yy38 : T4 R) (av : List S) (es : List Ent) (K : S → List Ent → Option R) : Option R :=
  match av, es with
  | [.st [.int .i64 v1, .arr 4 (.int .u64) v2, .sl (.rose (.pair (.int .i64) (.pair (.arr 4 (.int .u64)) .unit))) v3]], [] => c_yy38 v1 v2 v3 (fun r0 => K (.bool r0) [])
  | _, _ => none
def sh57 {R : Type} (c_yy33 : T3 R) (av : List S) (es : List Ent) (K : S → List Ent → Option R) : Option R :=
  match av, es with
  | [.st [.int .i64 v1, .arr 4 (.int .u64) v2, .sl (.rose (.pair (.int .i64) (.pair (.arr 4 (.int .u64)) .unit))) v3], .st [.int .i64 v4, .arr 4 (.int .u64) v5, .sl (.rose (.pair (.int .i64) (.pair (.arr 4 (.int .u64)) .unit))) v6]], [] => c_yy33 v1 v2 v3 v4 v5 v6 (fun r0 => K (.int .i64 r0) [])
  | _, _ => none
def sh58 {R : Type} (c_yy50 : T38 R) (c_yy51 : T45 R) (av : List S) (es : List Ent) (K : S → List Ent → Option R) : Option R :=
  match av, es with
  | [.sl (.rose (.pair (.int .i64) (.pair (.arr 4 (.int .u64)) .unit))) v1, .fn 54 [.ptr 0 []]], [.box (.sl (.int .i64) v2) false] => c_yy50 v1 v2 (fun r0 r1 => K (.int .i64 r0) [.box (.sl (.int .i64) r1) false])
  | [.sl (.rose (.pair (.int .i64) (.pair (.arr 4 (.int .u64)) .unit))) v1, .fn 39 []], [] => c_yy51 v1 (fun r0 => K (.int .i64 r0) [])
  | _, _ => none
def sh59 {R : Type} (c_yy2 : LI → (LI → Option R) → Option R) (av : List S) (es : List Ent) (K : S → List Ent → Option R) : Option R :=
  match av, es with
  | [.arr 4 (.int .u64) v1], [] => c_yy2 v1 (fun r0 => K (.own (.int .u8) 0) [.buf (.int .u8) r0 false])
  | _, _ => none
def sh60 {R : Type} (c_yy41 : Int → (LI → Option R) → Option R) (av : List S) (es : List Ent) (K : S → List Ent → Option R) : Option R :=
  match av, es with
  | [.int .u8 v1], [] => c_yy41 v1 (fun r0 => K (.str r0) [])
  | _, _ => none
def sh61 {R : Type} (c_yy15 : LI → (LI → Option R) → Option R) (av : List S) (es : List Ent) (K : S → List Ent → Option R) : Option R :=
  match av, es with
  | [.arr 4 (.int .u64) v1], [] => c_yy15 v1 (fun r0 => K (.own (.int .u8) 0) [.buf (.int .u8) r0 false])
  | _, _ => none
def sh63 {R : Type} (c_yy16 : LI → (LI → Option R) → Option R) (av : List S) (es : List Ent) (K : S → List Ent → Option R) : Option R :=
  match av, es with
  | [.arr 4 (.int .u64) v1], [] => c_yy16 v1 (fun r0 => K (.arr 4 (.int .u64) r0) [])
  | _, _ => none
def sh67 {R : Type} (c_yy25 : T3 R) (av : List S) (es : List Ent) (K : S → List Ent → Option R) : Option R :=
  match av, es with
  | [.st [.int .i64 v1, .arr 4 (.int .u64) v2, .sl (.rose (.pair (.int .i64) (.pair (.arr 4 (.int .u64)) .unit))) v3], .st [.int .i64 v4, .arr 4 (.int .u64) v5, .sl (.rose (.pair (.int .i64) (.pair (.arr 4 (.int .u64)) .unit))) v6]], [] => c_yy25 v1 v2 v3 v4 v5 v6 (fun r0 => K (.int .i64 r0) [])
  | _, _ => none
def sh68 {R : Type} (c_yy28 : T24 R) (av : List S) (es : List Ent) (K : S → List Ent → Option R) : Option R :=
  match av, es with
  | [.st [.int .i64 v1, .arr 4 (.int .u64) v2, .sl (.rose (.pair (.int .i64) (.pair (.arr 4 (.int .u64)) .unit))) v3], .st [.int .i64 v4, .arr 4 (.int .u64) v5, .sl (.rose (.pair (.int .i64) (.pair (.arr 4 (.int .u64)) .unit))) v6]], [] => c_yy28 v1 v2 v3 v4 v5 v6 (fun r0 => K (.bool r0) [])
  | _, _ => none
def sh69 {R : Type} (c_yy52 : T36 R) (av : List S) (es : List Ent) (K : S → List Ent → Option R) : Option R :=
  match av, es with
  | [.sl (.int .i64) v1, .int .i64 v2], [] => c_yy52 v1 v2 (fun r0 => K (.int .i64 r0) [])
  | _, _ => none
def sh70 {R : Type} (c_yy3 : T41 R) (av : List S) (es : List Ent) (K : S → List Ent → Option R) : Option R :=
  match av, es with
  | [.int .i64 v1, .int .i64 v2], [] => c_yy3 v1 v2 (fun r0 => K (.int .i64 r0) [])
  | _, _ => none
def sh71 {R : Type} (c_yy1 : T11 R) (av : List S) (es : List Ent) (K : S → List Ent → Option R) : Option R :=
  match av, es with
  | [.arr 4 (.int .u64) v1, .arr 4 (.int .u64) v2], [] => c_yy1 v1 v2 (fun r0 => K (.bool r0) [])
  | _, _ => none
def sh72 {R : Type} (c_yy46 : T42 R) (av : List S) (es : List Ent) (K : S → List Ent → Option R) : Option R :=
  match av, es with
  | [.sl (.rose (.pair (.int .i64) (.pair (.arr 4 (.int .u64)) .unit))) v1, .sl (.rose (.pair (.int .i64) (.pair (.arr 4 (.int .u64)) .unit))) v2, .fn 57 []], [] => c_yy46 v1 v2 (fun r0 => K (.int .i64 r0) [])
  | _, _ => none
def sh73 {R : Type} (c_yy0 : T2 R) (av : List S) (es : List Ent) (K : S → List Ent → Option R) : Option R :=
  match av, es with
  | [.arr 4 (.int .u64) v1, .int .u8 v2], [] => c_yy0 v1 v2 (fun r0 => K (.bool r0) [])
  | _, _ => none
def sh74 {R : Type} (av : List S) (es : List Ent) (K : S → List Ent → Option R) : Option R :=
  match av, es with
  | [.str v1, .int .u8 v2], [] => K (.int .i64 (idxB v1 v2)) []
  | _, _ => none
def sh75 {R : Type} (c_yy14 : T2 R) (av : List S) (es : List Ent) (K : S → List Ent → Option R) : Option R :=
  match av, es with
  | [.arr 4 (.int .u64) v1, .int .u8 v2], [] => c_yy14 v1 v2 (fun r0 => K (.bool r0) [])
  | _, _ => none
def sh79 {R : Type} (c_yy20 : T11 R) (av : List S) (es : List Ent) (K : S → List Ent → Option R) : Option R :=
  match av, es with
  | [.arr 4 (.int .u64) v1, .arr 4 (.int .u64) v2], [] => c_yy20 v1 v2 (fun r0 => K (.bool r0) [])
  | _, _ => none
def sh80 {R : Type} (c_yy4 : Int → (Bool → Option R) → Option R) (av : List S) (es : List Ent) (K : S → List Ent → Option R) : Option R :=
  match av, es with
  | [.int .i64 v1], [] => c_yy4 v1 (fun r0 => K (.bool r0) [])
  | _, _ => none
def sh81 {R : Type} (c_yy7 : Int → (Int → Option R) → Option R) (av : List S) (es : List Ent) (K : S → List Ent → Option R) : Option R :=
  match av, es with
  | [.int .u64 v1], [] => c_yy7 v1 (fun r0 => K (.int .i64 r0) [])
  | _, _ => none
end
end Go.Ab.T
