/- ShoTA: a part of the proofs of this seat's statements. -/
import Derived.Test.YtlihheeknnnbmaaDoorDef
import Derived.Test.YtlihheeknnnbmaaDoorPrimX
import Derived.Test.YtlihheeknnnbmaaDoorProg
import Derived.KernelRfl
namespace Go.Ab.T
abbrev LI := List Int
abbrev LL := List (List Int)
abbrev LB := List Bool
abbrev T0 (R : Type) : Type := (Int → LI → (List (Rose (Int × (LI × Unit)))) → Option R) → Option R
abbrev T1 (R : Type) : Type := (List (Rose (Int × (LI × Unit)))) → (Int → LI → (List (Rose (Int × (LI × Unit)))) → Option R) → Option R
abbrev T2 (R : Type) : Type := Int → LI → (List (Rose (Int × (LI × Unit)))) → (Int → LI → (List (Rose (Int × (LI × Unit)))) → Option R) → Option R
abbrev T3 (R : Type) : Type := LI → Int → (Bool → Option R) → Option R
abbrev T4 (R : Type) : Type := Int → LI → (List (Rose (Int × (LI × Unit)))) → (Bool → Option R) → Option R
abbrev T5 (R : Type) : Type := LI → Int → Int → Int → Bool → (Int → LI → (List (Rose (Int × (LI × Unit)))) → LI → Int → Int → Int → Bool → Option R) → Option R
abbrev T6 (R : Type) : Type := Int → LI → (List (Rose (Int × (LI × Unit)))) → Int → LI → (List (Rose (Int × (LI × Unit)))) → (Int → Option R) → Option R
abbrev T7 (R : Type) : Type := LI → Int → Int → Int → Bool → (Bool → LI → Int → Int → Int → Bool → Option R) → Option R
abbrev T8 (R : Type) : Type := Int → LI → (List (Rose (Int × (LI × Unit)))) → (Int → Option R) → Option R
abbrev T9 (R : Type) : Type := LI → Bool → LI → (Bool → LI → Option R) → Option R
abbrev T10 (R : Type) : Type := Int → LI → (List (Rose (Int × (LI × Unit)))) → Int → LI → (List (Rose (Int × (LI × Unit)))) → (Bool → Option R) → Option R
abbrev T11 (R : Type) : Type := LI → (Int → LI → (List (Rose (Int × (LI × Unit)))) → Option R) → Option R
abbrev T12 (R : Type) : Type := LI → Int → Int → Int → Bool → (Int → Bool → LI → Int → Int → Int → Bool → Option R) → Option R
abbrev T13 (R : Type) : Type := Int → LI → Int → Int → Int → Bool → (LI → Int → Int → Int → Bool → Option R) → Option R
abbrev T14 (R : Type) : Type := Int → LI → Int → Int → Int → Bool → (Bool → LI → Int → Int → Int → Bool → Option R) → Option R
abbrev T15 (R : Type) : Type := Int → LI → (List (Rose (Int × (LI × Unit)))) → Bool → LI → (Bool → LI → Option R) → Option R
abbrev T16 (R : Type) : Type := LI → LI → (Bool → Option R) → Option R
abbrev T17 (R : Type) : Type := (List (Rose (Int × (LI × Unit)))) → Int → (Bool → LI → Option R) → Int → Bool → LI → Option R
abbrev T18 (R : Type) : Type := Int → Int → (LI → Option R) → Option R
abbrev T19 (R : Type) : Type := Int → LI → (List (Rose (Int × (LI × Unit)))) → LI → Int → Int → Int → Bool → (Int → LI → (List (Rose (Int × (LI × Unit)))) → LI → Int → Int → Int → Bool → Option R) → Option R
abbrev T20 (R : Type) : Type := Int → (List (Rose (Int × (LI × Unit)))) → ((List (Rose (Int × (LI × Unit)))) → Option R) → Option R
abbrev T21 (R : Type) : Type := LI → LI → (LI → Option R) → Option R
abbrev T22 (R : Type) : Type := Int → LI → (List (Rose (Int × (LI × Unit)))) → Int → LI → (List (Rose (Int × (LI × Unit)))) → (Int → LI → (List (Rose (Int × (LI × Unit)))) → Int → LI → (List (Rose (Int × (LI × Unit)))) → (List (Rose (Int × (LI × Unit)))) → Option R) → Int → (List (Rose (Int × (LI × Unit)))) → Option R
abbrev T23 (R : Type) : Type := LI → (LI → Option R) → Int → LI → Option R
abbrev T24 (R : Type) : Type := LI → LI → (Bool → Option R) → (Option R) → Int → Option R
abbrev T25 (R : Type) : Type := (List (Rose (Int × (LI × Unit)))) → (Bool → Option R) → Option R
abbrev T26 (R : Type) : Type := (List (Rose (Int × (LI × Unit)))) → (Int → Option R) → Int → Int → Option R
abbrev T27 (R : Type) : Type := Bool → LI → Int → Int → Int → Bool → (Int → LI → Int → Int → Int → Bool → Option R) → Option R
abbrev T28 (R : Type) : Type := Int → LI → (List (Rose (Int × (LI × Unit)))) → Option R
abbrev T29 (R : Type) : Type := Int → LI → (List (Rose (Int × (LI × Unit)))) → LI → Bool → LI → (Bool → LI → Option R) → Option R
abbrev T30 (R : Type) : Type := Int → LI → (List (Rose (Int × (LI × Unit)))) → (LI → Option R) → Option R
abbrev T31 (R : Type) : Type := Int → LI → Int → (Int → LI → Int → Option R) → Option R
abbrev T32 (R : Type) : Type := Int → LI → Int → (Int → LI → (List (Rose (Int × (LI × Unit)))) → LI → Int → Option R) → Option R
abbrev T33 (R : Type) : Type := (List (Rose (Int × (LI × Unit)))) → Int → LI → (List (Rose (Int × (LI × Unit)))) → ((List (Rose (Int × (LI × Unit)))) → Option R) → Option R
abbrev T34 (R : Type) : Type := Int → LI → (List (Rose (Int × (LI × Unit)))) → LI → (Bool → LI → Option R) → Option R
abbrev T35 (R : Type) : Type := (Bool → LI → Option R) → Int → Bool → LI → LI → Option R
abbrev T36 (R : Type) : Type := Int → Bool → LI → LI → (Int → Int → Bool → LI → LI → Option R) → Int → Option R
abbrev T37 (R : Type) : Type := (LI → Int → Int → Int → Bool → Int → LI → (List (Rose (Int × (LI × Unit)))) → (List (Rose (Int × (LI × Unit)))) → Option R) → (LI → Int → Int → Int → Bool → Int → LI → (List (Rose (Int × (LI × Unit)))) → (List (Rose (Int × (LI × Unit)))) → Option R) → LI → Int → Int → Int → Bool → Int → LI → (List (Rose (Int × (LI × Unit)))) → (List (Rose (Int × (LI × Unit)))) → Option R
abbrev T38 (R : Type) : Type := Int → LI → (List (Rose (Int × (LI × Unit)))) → (List (Rose (Int × (LI × Unit)))) → (LI → Int → Int → Int → Bool → Int → LI → (List (Rose (Int × (LI × Unit)))) → (List (Rose (Int × (LI × Unit)))) → (List (Rose (Int × (LI × Unit)))) → Option R) → LI → Int → Int → Int → Bool → (List (Rose (Int × (LI × Unit)))) → Option R
abbrev T39 (R : Type) : Type := LI → LI → (LI → LI → Option R) → Int → LI → Option R
abbrev T40 (R : Type) : Type := Int → (List (Rose (Int × (LI × Unit)))) → ((List (Rose (Int × (LI × Unit)))) → Option R) → Int → (List (Rose (Int × (LI × Unit)))) → Option R
abbrev T41 (R : Type) : Type := Int → LI → (List (Rose (Int × (LI × Unit)))) → Int → LI → (List (Rose (Int × (LI × Unit)))) → (Int → Int → LI → (List (Rose (Int × (LI × Unit)))) → Int → LI → (List (Rose (Int × (LI × Unit)))) → Option R) → (Int → LI → (List (Rose (Int × (LI × Unit)))) → Int → LI → (List (Rose (Int × (LI × Unit)))) → Option R) → Int → Option R
abbrev T42 (R : Type) : Type := (List (Rose (Int × (LI × Unit)))) → Int → LI → (List (Rose (Int × (LI × Unit)))) → ((List (Rose (Int × (LI × Unit)))) → Int → Int → LI → (List (Rose (Int × (LI × Unit)))) → Option R) → Int → Option R
abbrev T43 (R : Type) : Type := Int → LI → (List (Rose (Int × (LI × Unit)))) → (List (Rose (Int × (LI × Unit)))) → ((List (Rose (Int × (LI × Unit)))) → Int → LI → LI → (List (Rose (Int × (LI × Unit)))) → Option R) → (List (Rose (Int × (LI × Unit)))) → Int → LI → Option R
abbrev T44 (R : Type) : Type := LI → Int → Int → (Int → Option R) → (Option R) → Int → Option R
abbrev T45 (R : Type) : Type := LI → Int → (Int → Option R) → Option R
abbrev T46 (R : Type) : Type := (List (Rose (Int × (LI × Unit)))) → Int → (Int → LI → Option R) → (LI → Option R) → Int → LI → Option R
abbrev T47 (R : Type) : Type := (List (Rose (Int × (LI × Unit)))) → LI → (Int → LI → Option R) → Option R
abbrev T48 (R : Type) : Type := (List (Rose (Int × (LI × Unit)))) → LI → (Bool → LI → Option R) → Option R
abbrev T49 (R : Type) : Type := (List (Rose (Int × (LI × Unit)))) → (List (Rose (Int × (LI × Unit)))) → (List (Rose (Int × (LI × Unit)))) → Int → ((List (Rose (Int × (LI × Unit)))) → (List (Rose (Int × (LI × Unit)))) → Int → Option R) → ((List (Rose (Int × (LI × Unit)))) → (List (Rose (Int × (LI × Unit)))) → Option R) → Int → Option R
abbrev T50 (R : Type) : Type := Int → Int → (Int → Option R) → Option R
abbrev T51 (R : Type) : Type := (List (Rose (Int × (LI × Unit)))) → (List (Rose (Int × (LI × Unit)))) → (Int → Option R) → Option R
abbrev T52 (R : Type) : Type := (List (Rose (Int × (LI × Unit)))) → (List (Rose (Int × (LI × Unit)))) → Int → (Bool → Int → Option R) → (Int → Option R) → Int → Int → Option R
abbrev T53 (R : Type) : Type := (List (Rose (Int × (LI × Unit)))) → Int → (Int → Option R) → (Option R) → Int → Option R
abbrev T54 (R : Type) : Type := (List (Rose (Int × (LI × Unit)))) → (Int → Option R) → Option R
abbrev T55 (R : Type) : Type := (List (Rose (Int × (LI × Unit)))) → LI → (Bool → Option R) → Option R
abbrev T56 (R : Type) : Type := LB → LI → (LI → LI → Option R) → Int → LI → Option R
abbrev T57 (R : Type) : Type := Int → LI → (LI → LB → Option R) → Int → LB → Option R
abbrev T58 (R : Type) : Type := LI → LI → (LI → LB → Option R) → Int → LB → Option R
abbrev T59 (R : Type) : Type := Int → LI → (List (Rose (Int × (LI × Unit)))) → (List (Rose (Int × (LI × Unit)))) → (Int → LI → (List (Rose (Int × (LI × Unit)))) → (List (Rose (Int × (LI × Unit)))) → Option R) → (Int → LI → (List (Rose (Int × (LI × Unit)))) → (List (Rose (Int × (LI × Unit)))) → Option R) → Int → (List (Rose (Int × (LI × Unit)))) → Option R
abbrev T60 (R : Type) : Type := LI → Int → (Bool → LI → Int → Option R) → Option R
abbrev T61 (R : Type) : Type := LI → Int → (LI → LI → Int → Option R) → Option R
abbrev T62 (R : Type) : Type := LI → Int → (Bool → Option R) → (Option R) → Int → Option R
abbrev T63 (R : Type) : Type := (Int → Int → LI → Int → Int → Int → Bool → Option R) → (Int → LI → Int → Int → Int → Bool → Option R) → Int → Int → LI → Int → Int → Int → Bool → Option R
abbrev T64 (R : Type) : Type := LI → Int → Int → Int → Bool → (Int → LI → Int → Int → Int → Bool → Option R) → Option R
abbrev T65 (R : Type) : Type := Bool → Int → LI → (List (Rose (Int × (LI × Unit)))) → (Bool → LI → Int → Int → Int → Bool → Int → LI → LI → (List (Rose (Int × (LI × Unit)))) → Option R) → LI → Int → Int → Int → Bool → LI → Option R
abbrev T66 (R : Type) : Type := LI → Int → Int → Int → Bool → (Int → LI → LI → Int → Int → Int → Bool → (List (Rose (Int × (LI × Unit)))) → Option R) → Option R
abbrev T67 (R : Type) : Type := Int → LI → (List (Rose (Int × (LI × Unit)))) → LI → Int → Int → Int → Bool → Option R
abbrev T68 (R : Type) : Type := (List (Rose (Int × (LI × Unit)))) → (List (Rose (Int × (LI × Unit)))) → (Bool → Option R) → (Option R) → Int → Option R
abbrev T69 (R : Type) : Type := Int → LI → (List (Rose (Int × (LI × Unit)))) → (Bool → Int → LI → (List (Rose (Int × (LI × Unit)))) → Option R) → (Int → LI → (List (Rose (Int × (LI × Unit)))) → Option R) → Int → Option R
abbrev T70 (R : Type) : Type := Int → LI → (List (Rose (Int × (LI × Unit)))) → (LI → Int → Int → Int → Bool → Int → LI → Int → LI → (List (Rose (Int × (LI × Unit)))) → (List (Rose (Int × (LI × Unit)))) → Option R) → LI → Int → Int → Int → Bool → Int → LI → (List (Rose (Int × (LI × Unit)))) → Option R
abbrev T71 (R : Type) : Type := LI → (LI → Int → Option R) → Option R
abbrev T72 (R : Type) : Type := LI → Int → (Int → LI → (List (Rose (Int × (LI × Unit)))) → LI → Int → Option R) → Option R
abbrev T73 (R : Type) : Type := LI → (Int → LI → (List (Rose (Int × (LI × Unit)))) → Int → Int → Option R) → Option R
abbrev T74 (R : Type) : Type := (List (Rose (Int × (LI × Unit)))) → Option R
abbrev T75 (R : Type) : Type := Bool → LI → Int → Int → Int → Bool → Option R
abbrev T76 (R : Type) : Type := Int → LI → Int → Int → Int → Bool → Option R
abbrev T77 (R : Type) : Type := Int → LI → (List (Rose (Int × (LI × Unit)))) → LI → Int → Option R
open Go Go.Ab Go.Proofs
set_option maxRecDepth 100000
set_option linter.unusedVariables false
noncomputable section
def deBruijn : List Int := [0, 1, 56, 2, 57, 49, 28, 3, 61, 58, 42, 50, 38, 29, 17, 4, 62, 47, 59, 36, 45, 43, 51, 22, 53, 39, 33, 30, 24, 18, 12, 5, 63, 55, 48, 27, 60, 41, 37, 16, 46, 35, 44, 21, 52, 32, 23, 11, 54, 26, 40, 15, 34, 20, 31, 10, 25, 14, 19, 9, 13, 8, 7, 6]
def glob : Nat → Option S := fun g => if g = 0 then some (.arr 64 (.int .u8) deBruijn) else none
def raw : FuncId → Bool := fun f => [].contains f
def yy17_l3_b {R : Type} (l_3 : T39 R) (v2 : LI) (v4 : LI) (Ke0 : LI → LI → Option R) (v3 : Int) (v5 : LI) : Option R :=
    bif decide (v3 < (v2.length : Int)) then
    (gd (decide (0 ≤ v3))
     (gd (decide (v3 < (v2.length : Int)))
      (gd (decide (0 ≤ (IntKind.u8.wrap (Int.tdiv (v2.getD (Int.toNat v3) (0 : Int)) 64))))
       (gd (decide ((IntKind.u8.wrap (Int.tdiv (v2.getD (Int.toNat v3) (0 : Int)) 64)) < 4))
        (gd (decide (0 ≤ v3))
         (gd (decide (v3 < (v2.length : Int)))
          (gd (decide (0 ≤ (Int.tmod (v2.getD (Int.toNat v3) (0 : Int)) 64)))
           (gd (decide (0 ≤ (IntKind.u8.wrap (Int.tdiv (v2.getD (Int.toNat v3) (0 : Int)) 64))))
            (gd (decide ((IntKind.u8.wrap (Int.tdiv (v2.getD (Int.toNat v3) (0 : Int)) 64)) < 4))
             (l_3 v2 v4 Ke0 (IntKind.i64.wrap (v3 + 1)) (v5.set (Int.toNat (IntKind.u8.wrap (Int.tdiv (v2.getD (Int.toNat v3) (0 : Int)) 64))) (bvop .u64 .or (v5.getD (Int.toNat (IntKind.u8.wrap (Int.tdiv (v2.getD (Int.toNat v3) (0 : Int)) 64))) (0 : Int)) (shl .u64 1 (Int.tmod (v2.getD (Int.toNat v3) (0 : Int)) 64))))))))))))))
    else (Ke0 v4 v5)
def yy17_b {R : Type} (l_3 : T39 R) (v1 : LI) (K : LI → Option R) : Option R :=
    l_3 v1 (List.replicate 4 (0 : Int))
    (fun v6 v7 =>
     K v7) 0 (List.replicate 4 (0 : Int))
def yy17_l3 {R : Type} (kf : Nat) : Nat → LI → LI → (LI → LI → Option R) → Int → LI → Option R
  | 0, _, _, _, _, _ => none
  | k + 1, y0, y1, y2, y3, y4 => yy17_l3_b (yy17_l3 kf k) y0 y1 y2 y3 y4
def yy17 {R : Type} (kf : Nat) (v1 : LI) (K : LI → Option R) : Option R := yy17_b (yy17_l3 kf kf) v1 K
def yy32_b {R : Type} (K : T28 R) : Option R :=
    K 1 (List.replicate 4 (0 : Int)) ([] : List (Rose (Int × (LI × Unit))))
def yy32 {R : Type} (K : T28 R) : Option R := yy32_b K
def yy23_b {R : Type} (c_yy32 : T0 R) (v1 : LI) (K : T28 R) : Option R :=
    bif decide (v1 = (List.replicate 4 (0 : Int))) then
    (c_yy32 (fun v2 v3 v4 =>
      K v2 v3 v4))
    else (K 3 v1 ([] : List (Rose (Int × (LI × Unit)))))
def yy23 {R : Type} (v1 : LI) (K : T28 R) : Option R := yy23_b yy32 v1 K
def yy26_l3_b {R : Type} (c_yy26 : T2 R) (l_3 : T22 R) (v5 : Int) (v6 : LI) (v7 : (List (Rose (Int × (LI × Unit))))) (v8 : Int) (v9 : LI) (v11 : (List (Rose (Int × (LI × Unit))))) (Ke0 : Int → LI → (List (Rose (Int × (LI × Unit)))) → Int → LI → (List (Rose (Int × (LI × Unit)))) → (List (Rose (Int × (LI × Unit)))) → Option R) (v4 : Int) (v10 : (List (Rose (Int × (LI × Unit))))) : Option R :=
    bif decide (v4 < (v7.length : Int)) then
    (gd (decide (0 ≤ v4))
     (gd (decide (v4 < (v7.length : Int)))
      (c_yy26 ((Rose.lab (v7.getD (Int.toNat v4) (Rose.node ((0 : Int), ((List.replicate 4 (0 : Int)), ())) [] : (Rose (Int × (LI × Unit)))))).1) ((Rose.lab (v7.getD (Int.toNat v4) (Rose.node ((0 : Int), ((List.replicate 4 (0 : Int)), ())) [] : (Rose (Int × (LI × Unit)))))).2.1) (Rose.kids (v7.getD (Int.toNat v4) (Rose.node ((0 : Int), ((List.replicate 4 (0 : Int)), ())) [] : (Rose (Int × (LI × Unit)))))) (fun v12 v13 v14 =>
        gd (decide (v10.length + ([(Rose.node (v12, v13, ()) v14)] : List (Rose (Int × (LI × Unit)))).length < SMALL))
        (l_3 v5 v6 v7 v8 v9 v11 Ke0 (IntKind.i64.wrap (v4 + 1)) (v10 ++ ([(Rose.node (v12, v13, ()) v14)] : List (Rose (Int × (LI × Unit))))))))))
    else (Ke0 v5 v6 v7 v8 v9 v10 v11)
def yy26_b {R : Type} (c_yy26 : T2 R) (l_3 : T22 R) (v1 : Int) (v2 : LI) (v3 : (List (Rose (Int × (LI × Unit))))) (K : T28 R) : Option R :=
    l_3 v1 v2 v3 0 (List.replicate 4 (0 : Int)) ([] : List (Rose (Int × (LI × Unit))))
    (fun v15 v16 v17 v18 v19 v20 v21 =>
     K v15 v16 v20) 0 ([] : List (Rose (Int × (LI × Unit))))
def yy26_l3 {R : Type} (c_self : T2 R) (kf : Nat) : Nat → Int → LI → (List (Rose (Int × (LI × Unit)))) → Int → LI → (List (Rose (Int × (LI × Unit)))) → (Int → LI → (List (Rose (Int × (LI × Unit)))) → Int → LI → (List (Rose (Int × (LI × Unit)))) → (List (Rose (Int × (LI × Unit)))) → Option R) → Int → (List (Rose (Int × (LI × Unit)))) → Option R
  | 0, _, _, _, _, _, _, _, _, _ => none
  | k + 1, y0, y1, y2, y3, y4, y5, y6, y7, y8 => yy26_l3_b c_self (yy26_l3 c_self kf k) y0 y1 y2 y3 y4 y5 y6 y7 y8
def yy26 {R : Type} : Nat → Int → LI → (List (Rose (Int × (LI × Unit)))) → (Int → LI → (List (Rose (Int × (LI × Unit)))) → Option R) → Option R
  | 0, _, _, _, _ => none
  | kf + 1, y0, y1, y2, y3 => yy26_b (yy26 kf) (yy26_l3 (yy26 kf) kf kf) y0 y1 y2 y3
def yy28_b {R : Type} (K : T28 R) : Option R :=
    K 2 (List.replicate 4 (0 : Int)) ([] : List (Rose (Int × (LI × Unit))))
def yy28 {R : Type} (K : T28 R) : Option R := yy28_b K
def yy36_l3_b {R : Type} (l_3 : T40 R) (v3 : Int) (v4 : (List (Rose (Int × (LI × Unit))))) (Ke0 : (List (Rose (Int × (LI × Unit)))) → Option R) (v5 : Int) (v6 : (List (Rose (Int × (LI × Unit))))) : Option R :=
    bif decide (v5 < (v4.length : Int)) then
    (gd (decide (0 ≤ v5))
     (gd (decide (v5 < (v4.length : Int)))
      (bif decide ((Rose.lab (v4.getD (Int.toNat v5) (Rose.node ((0 : Int), ((List.replicate 4 (0 : Int)), ())) [] : (Rose (Int × (LI × Unit)))))).1 = v3) then
       (gd (decide (0 ≤ v5))
        (gd (decide (v5 < (v4.length : Int)))
         (gd (decide (v6.length + (Rose.kids (v4.getD (Int.toNat v5) (Rose.node ((0 : Int), ((List.replicate 4 (0 : Int)), ())) [] : (Rose (Int × (LI × Unit)))))).length < SMALL))
          (l_3 v3 v4 Ke0 (IntKind.i64.wrap (v5 + 1)) (v6 ++ (Rose.kids (v4.getD (Int.toNat v5) (Rose.node ((0 : Int), ((List.replicate 4 (0 : Int)), ())) [] : (Rose (Int × (LI × Unit)))))))))))
       else (gd (decide (0 ≤ v5))
        (gd (decide (v5 < (v4.length : Int)))
         (gd (decide (v6.length + ([(Rose.node ((Rose.lab (v4.getD (Int.toNat v5) (Rose.node ((0 : Int), ((List.replicate 4 (0 : Int)), ())) [] : (Rose (Int × (LI × Unit)))))).1, (Rose.lab (v4.getD (Int.toNat v5) (Rose.node ((0 : Int), ((List.replicate 4 (0 : Int)), ())) [] : (Rose (Int × (LI × Unit)))))).2.1, ()) (Rose.kids (v4.getD (Int.toNat v5) (Rose.node ((0 : Int), ((List.replicate 4 (0 : Int)), ())) [] : (Rose (Int × (LI × Unit)))))))] : List (Rose (Int × (LI × Unit)))).length < SMALL))
          (l_3 v3 v4 Ke0 (IntKind.i64.wrap (v5 + 1)) (v6 ++ ([(Rose.node ((Rose.lab (v4.getD (Int.toNat v5) (Rose.node ((0 : Int), ((List.replicate 4 (0 : Int)), ())) [] : (Rose (Int × (LI × Unit)))))).1, (Rose.lab (v4.getD (Int.toNat v5) (Rose.node ((0 : Int), ((List.replicate 4 (0 : Int)), ())) [] : (Rose (Int × (LI × Unit)))))).2.1, ()) (Rose.kids (v4.getD (Int.toNat v5) (Rose.node ((0 : Int), ((List.replicate 4 (0 : Int)), ())) [] : (Rose (Int × (LI × Unit)))))))] : List (Rose (Int × (LI × Unit))))))))))))
    else (Ke0 v6)
def yy36_b {R : Type} (l_3 : T40 R) (v1 : Int) (v2 : (List (Rose (Int × (LI × Unit))))) (K : T74 R) : Option R :=
    l_3 v1 v2
    (fun v7 =>
     K v7) 0 ([] : List (Rose (Int × (LI × Unit))))
def yy36_l3 {R : Type} (kf : Nat) : Nat → Int → (List (Rose (Int × (LI × Unit)))) → ((List (Rose (Int × (LI × Unit)))) → Option R) → Int → (List (Rose (Int × (LI × Unit)))) → Option R
  | 0, _, _, _, _, _ => none
  | k + 1, y0, y1, y2, y3, y4 => yy36_l3_b (yy36_l3 kf k) y0 y1 y2 y3 y4
def yy36 {R : Type} (kf : Nat) (v1 : Int) (v2 : (List (Rose (Int × (LI × Unit))))) (K : T74 R) : Option R := yy36_b (yy36_l3 kf kf) v1 v2 K
def yy14_b {R : Type} (v1 : LI) (v2 : Int) (K : Bool → Option R) : Option R :=
    gd (decide (0 ≤ (IntKind.u8.wrap (Int.tdiv v2 64))))
    (gd (decide ((IntKind.u8.wrap (Int.tdiv v2 64)) < 4))
     (gd (decide (0 ≤ (Int.tmod v2 64)))
      (K (decide ((Int.tmod (shr .u64 (v1.getD (Int.toNat (IntKind.u8.wrap (Int.tdiv v2 64))) (0 : Int)) (Int.tmod v2 64)) 2) = 1)))))
def yy14 {R : Type} (v1 : LI) (v2 : Int) (K : Bool → Option R) : Option R := yy14_b v1 v2 K
def yy15_l3_b {R : Type} (c_yy14 : T3 R) (l_3 : T23 R) (v3 : LI) (Ke0 : LI → Option R) (v2 : Int) (v4 : LI) : Option R :=
    bif decide (v2 < 256) then
    (c_yy14 v3 (IntKind.u8.wrap v2) (fun v5 =>
      bif v5 then
      (gd (decide (v4.length + ([(IntKind.u8.wrap v2)] : List Int).length < SMALL))
       (l_3 v3 Ke0 (IntKind.i64.wrap (v2 + 1)) (v4 ++ ([(IntKind.u8.wrap v2)] : List Int))))
      else (l_3 v3 Ke0 (IntKind.i64.wrap (v2 + 1)) v4)))
    else (Ke0 v4)
def yy15_b {R : Type} (c_yy14 : T3 R) (l_3 : T23 R) (v1 : LI) (K : LI → Option R) : Option R :=
    l_3 v1
    (fun v6 =>
     K v6) 0 ([] : List Int)
def yy15_l3 {R : Type} (kf : Nat) : Nat → LI → (LI → Option R) → Int → LI → Option R
  | 0, _, _, _, _ => none
  | k + 1, y0, y1, y2, y3 => yy15_l3_b yy14 (yy15_l3 kf k) y0 y1 y2 y3
def yy15 {R : Type} (kf : Nat) (v1 : LI) (K : LI → Option R) : Option R := yy15_b yy14 (yy15_l3 kf kf) v1 K
def yy18_b {R : Type} (c_yy15 : LI → (LI → Option R) → Option R) (c_yy17 : LI → (LI → Option R) → Option R) (v1 : LI) (v2 : LI) (K : LI → Option R) : Option R :=
    c_yy15 v1 (fun v3 =>
     c_yy15 v2 (fun v4 =>
      gd (decide (v3.length + v4.length < SMALL))
      (c_yy17 (v3 ++ v4) (fun v5 =>
        K v5))))
def yy18 {R : Type} (kf : Nat) (v1 : LI) (v2 : LI) (K : LI → Option R) : Option R := yy18_b (yy15 kf) (yy17 kf) v1 v2 K
def yy20_l2_b {R : Type} (c_yy14 : T3 R) (l_2 : T24 R) (v4 : LI) (v5 : LI) (Kr : Bool → Option R) (Ke0 : Option R) (v3 : Int) : Option R :=
    bif decide (v3 < 256) then
    (c_yy14 v4 (IntKind.u8.wrap v3) (fun v6 =>
      c_yy14 v5 (IntKind.u8.wrap v3) (fun v7 =>
       bif (!(decide (v6 = v7))) then
       (c_yy14 v4 (IntKind.u8.wrap v3) (fun v8 =>
         Kr v8))
       else (l_2 v4 v5 Kr Ke0 (IntKind.i64.wrap (v3 + 1))))))
    else (Ke0)
def yy20_b {R : Type} (c_yy14 : T3 R) (l_2 : T24 R) (v1 : LI) (v2 : LI) (K : Bool → Option R) : Option R :=
    l_2 v1 v2
    (fun v9 =>
     K v9)
    (K false) 0
def yy20_l2 {R : Type} (kf : Nat) : Nat → LI → LI → (Bool → Option R) → (Option R) → Int → Option R
  | 0, _, _, _, _, _ => none
  | k + 1, y0, y1, y2, y3, y4 => yy20_l2_b yy14 (yy20_l2 kf k) y0 y1 y2 y3 y4
def yy20 {R : Type} (kf : Nat) (v1 : LI) (v2 : LI) (K : Bool → Option R) : Option R := yy20_b yy14 (yy20_l2 kf kf) v1 v2 K
def yy25_l10_b {R : Type} (c_yy20 : T16 R) (c_yy25 : T6 R) (l_10 : T41 R) (v10 : Int) (v11 : LI) (v12 : (List (Rose (Int × (LI × Unit))))) (v13 : Int) (v14 : LI) (v15 : (List (Rose (Int × (LI × Unit))))) (Kr : Int → Int → LI → (List (Rose (Int × (LI × Unit)))) → Int → LI → (List (Rose (Int × (LI × Unit)))) → Option R) (Ke0 : Int → LI → (List (Rose (Int × (LI × Unit)))) → Int → LI → (List (Rose (Int × (LI × Unit)))) → Option R) (v9 : Int) : Option R :=
    bif decide (v9 < (v12.length : Int)) then
    (bif decide (v9 < (v15.length : Int)) then
     (gd (decide (0 ≤ v9))
      (gd (decide (v9 < (v12.length : Int)))
       (gd (decide (0 ≤ v9))
        (gd (decide (v9 < (v15.length : Int)))
         (c_yy25 ((Rose.lab (v12.getD (Int.toNat v9) (Rose.node ((0 : Int), ((List.replicate 4 (0 : Int)), ())) [] : (Rose (Int × (LI × Unit)))))).1) ((Rose.lab (v12.getD (Int.toNat v9) (Rose.node ((0 : Int), ((List.replicate 4 (0 : Int)), ())) [] : (Rose (Int × (LI × Unit)))))).2.1) (Rose.kids (v12.getD (Int.toNat v9) (Rose.node ((0 : Int), ((List.replicate 4 (0 : Int)), ())) [] : (Rose (Int × (LI × Unit)))))) ((Rose.lab (v15.getD (Int.toNat v9) (Rose.node ((0 : Int), ((List.replicate 4 (0 : Int)), ())) [] : (Rose (Int × (LI × Unit)))))).1) ((Rose.lab (v15.getD (Int.toNat v9) (Rose.node ((0 : Int), ((List.replicate 4 (0 : Int)), ())) [] : (Rose (Int × (LI × Unit)))))).2.1) (Rose.kids (v15.getD (Int.toNat v9) (Rose.node ((0 : Int), ((List.replicate 4 (0 : Int)), ())) [] : (Rose (Int × (LI × Unit)))))) (fun v16 =>
           bif (!(decide (v16 = 0))) then
           (Kr v16 v10 v11 v12 v13 v14 v15)
           else (l_10 v10 v11 v12 v13 v14 v15 Kr Ke0 (IntKind.i64.wrap (v9 + 1)))))))))
     else (Ke0 v10 v11 v12 v13 v14 v15))
    else (Ke0 v10 v11 v12 v13 v14 v15)
def yy25_b {R : Type} (c_yy20 : T16 R) (c_yy25 : T6 R) (l_10 : T41 R) (v1 : Int) (v2 : LI) (v3 : (List (Rose (Int × (LI × Unit))))) (v4 : Int) (v5 : LI) (v6 : (List (Rose (Int × (LI × Unit))))) (K : Int → Option R) : Option R :=
    bif (!(decide (v1 = v4))) then
    (bif decide (v1 < v4) then
     (K (-1))
     else (K 1))
    else (let j30 : Bool → Option R := fun v7 =>
     (bif v7 then
      (c_yy20 v2 v5 (fun v8 =>
        bif v8 then
        (K (-1))
        else (K 1)))
      else (l_10 v1 v2 v3 v4 v5 v6
       (fun v17 v18 v19 v20 v21 v22 v23 =>
        K v17)
       (fun v24 v25 v26 v27 v28 v29 =>
        bif decide ((v26.length : Int) < (v29.length : Int)) then
        (K (-1))
        else (bif decide ((v29.length : Int) < (v26.length : Int)) then
         (K 1)
         else (K 0))) 0))
     (bif decide (v1 = 3) then
      (j30 (!(decide (v2 = v5))))
      else (j30 false)))
def yy25_l10 {R : Type} (c_self : T6 R) (kf : Nat) : Nat → Int → LI → (List (Rose (Int × (LI × Unit)))) → Int → LI → (List (Rose (Int × (LI × Unit)))) → (Int → Int → LI → (List (Rose (Int × (LI × Unit)))) → Int → LI → (List (Rose (Int × (LI × Unit)))) → Option R) → (Int → LI → (List (Rose (Int × (LI × Unit)))) → Int → LI → (List (Rose (Int × (LI × Unit)))) → Option R) → Int → Option R
  | 0, _, _, _, _, _, _, _, _, _ => none
  | k + 1, y0, y1, y2, y3, y4, y5, y6, y7, y8 => yy25_l10_b (yy20 kf) c_self (yy25_l10 c_self kf k) y0 y1 y2 y3 y4 y5 y6 y7 y8
def yy25 {R : Type} : Nat → Int → LI → (List (Rose (Int × (LI × Unit)))) → Int → LI → (List (Rose (Int × (LI × Unit)))) → (Int → Option R) → Option R
  | 0, _, _, _, _, _, _, _ => none
  | kf + 1, y0, y1, y2, y3, y4, y5, y6 => yy25_b (yy20 kf) (yy25 kf) (yy25_l10 (yy25 kf) kf kf) y0 y1 y2 y3 y4 y5 y6
def yy29_b {R : Type} (c_yy25 : T6 R) (v1 : Int) (v2 : LI) (v3 : (List (Rose (Int × (LI × Unit))))) (v4 : Int) (v5 : LI) (v6 : (List (Rose (Int × (LI × Unit))))) (K : Bool → Option R) : Option R :=
    c_yy25 v1 v2 v3 v4 v5 v6 (fun v7 =>
     K (decide (v7 = 0)))
def yy29 {R : Type} (kf : Nat) (v1 : Int) (v2 : LI) (v3 : (List (Rose (Int × (LI × Unit))))) (v4 : Int) (v5 : LI) (v6 : (List (Rose (Int × (LI × Unit))))) (K : Bool → Option R) : Option R := yy29_b (yy25 kf) v1 v2 v3 v4 v5 v6 K
def yy37_l2_b {R : Type} (c_yy25 : T6 R) (c_yy29 : T10 R) (l_2 : T42 R) (v5 : (List (Rose (Int × (LI × Unit))))) (v7 : Int) (v8 : LI) (v9 : (List (Rose (Int × (LI × Unit))))) (Ke0 : (List (Rose (Int × (LI × Unit)))) → Int → Int → LI → (List (Rose (Int × (LI × Unit)))) → Option R) (v6 : Int) : Option R :=
    bif decide (v6 < (v5.length : Int)) then
    (gd (decide (0 ≤ v6))
     (gd (decide (v6 < (v5.length : Int)))
      (c_yy25 ((Rose.lab (v5.getD (Int.toNat v6) (Rose.node ((0 : Int), ((List.replicate 4 (0 : Int)), ())) [] : (Rose (Int × (LI × Unit)))))).1) ((Rose.lab (v5.getD (Int.toNat v6) (Rose.node ((0 : Int), ((List.replicate 4 (0 : Int)), ())) [] : (Rose (Int × (LI × Unit)))))).2.1) (Rose.kids (v5.getD (Int.toNat v6) (Rose.node ((0 : Int), ((List.replicate 4 (0 : Int)), ())) [] : (Rose (Int × (LI × Unit)))))) v7 v8 v9 (fun v10 =>
        bif decide (v10 < 0) then
        (l_2 v5 v7 v8 v9 Ke0 (IntKind.i64.wrap (v6 + 1)))
        else (Ke0 v5 v6 v7 v8 v9)))))
    else (Ke0 v5 v6 v7 v8 v9)
def yy37_b {R : Type} (c_yy25 : T6 R) (c_yy29 : T10 R) (l_2 : T42 R) (v1 : (List (Rose (Int × (LI × Unit))))) (v2 : Int) (v3 : LI) (v4 : (List (Rose (Int × (LI × Unit))))) (K : T74 R) : Option R :=
    l_2 v1 v2 v3 v4
    (fun v11 v12 v13 v14 v15 =>
     let j17 : Bool → Option R := fun v16 =>
     (bif v16 then
      (K v11)
      else (gd (decide (0 ≤ v12))
       (gd (decide (v12 ≤ (v11.length : Int)))
        (gd (decide (([] : List (Rose (Int × (LI × Unit)))).length + (v11.take (Int.toNat v12)).length < SMALL))
         (gd (decide ((([] : List (Rose (Int × (LI × Unit)))) ++ (v11.take (Int.toNat v12))).length + ([(Rose.node (v13, v14, ()) v15)] : List (Rose (Int × (LI × Unit)))).length < SMALL))
          (gd (decide (0 ≤ v12))
           (gd (decide (v12 ≤ (v11.length : Int)))
            (gd (decide (((([] : List (Rose (Int × (LI × Unit)))) ++ (v11.take (Int.toNat v12))) ++ ([(Rose.node (v13, v14, ()) v15)] : List (Rose (Int × (LI × Unit))))).length + (v11.drop (Int.toNat v12)).length < SMALL))
             (K (((([] : List (Rose (Int × (LI × Unit)))) ++ (v11.take (Int.toNat v12))) ++ ([(Rose.node (v13, v14, ()) v15)] : List (Rose (Int × (LI × Unit))))) ++ (v11.drop (Int.toNat v12))))))))))))
     (bif decide (v12 < (v11.length : Int)) then
      (gd (decide (0 ≤ v12))
       (gd (decide (v12 < (v11.length : Int)))
        (c_yy29 ((Rose.lab (v11.getD (Int.toNat v12) (Rose.node ((0 : Int), ((List.replicate 4 (0 : Int)), ())) [] : (Rose (Int × (LI × Unit)))))).1) ((Rose.lab (v11.getD (Int.toNat v12) (Rose.node ((0 : Int), ((List.replicate 4 (0 : Int)), ())) [] : (Rose (Int × (LI × Unit)))))).2.1) (Rose.kids (v11.getD (Int.toNat v12) (Rose.node ((0 : Int), ((List.replicate 4 (0 : Int)), ())) [] : (Rose (Int × (LI × Unit)))))) v13 v14 v15 (fun v18 =>
          j17 v18))))
      else (j17 false))) 0
def yy37_l2 {R : Type} (kf : Nat) : Nat → (List (Rose (Int × (LI × Unit)))) → Int → LI → (List (Rose (Int × (LI × Unit)))) → ((List (Rose (Int × (LI × Unit)))) → Int → Int → LI → (List (Rose (Int × (LI × Unit)))) → Option R) → Int → Option R
  | 0, _, _, _, _, _, _ => none
  | k + 1, y0, y1, y2, y3, y4, y5 => yy37_l2_b (yy25 kf) (yy29 kf) (yy37_l2 kf k) y0 y1 y2 y3 y4 y5
def yy37 {R : Type} (kf : Nat) (v1 : (List (Rose (Int × (LI × Unit))))) (v2 : Int) (v3 : LI) (v4 : (List (Rose (Int × (LI × Unit))))) (K : T74 R) : Option R := yy37_b (yy25 kf) (yy29 kf) (yy37_l2 kf kf) v1 v2 v3 v4 K
def yy22_l5_b {R : Type} (c_yy36 : T20 R) (c_yy18 : T21 R) (c_yy26 : T2 R) (c_yy37 : T33 R) (c_yy23 : T11 R) (c_yy32 : T0 R) (l_5 : T43 R) (v5 : Int) (v6 : LI) (v8 : (List (Rose (Int × (LI × Unit))))) (v9 : (List (Rose (Int × (LI × Unit))))) (Ke0 : (List (Rose (Int × (LI × Unit)))) → Int → LI → LI → (List (Rose (Int × (LI × Unit)))) → Option R) (v3 : (List (Rose (Int × (LI × Unit))))) (v4 : Int) (v7 : LI) : Option R :=
    bif decide (v4 < (v8.length : Int)) then
    (gd (decide (0 ≤ v4))
     (gd (decide (v4 < (v8.length : Int)))
      (bif decide ((Rose.lab (v8.getD (Int.toNat v4) (Rose.node ((0 : Int), ((List.replicate 4 (0 : Int)), ())) [] : (Rose (Int × (LI × Unit)))))).1 = 1) then
       (l_5 v5 v6 v8 v9 Ke0 v3 (IntKind.i64.wrap (v4 + 1)) v7)
       else (bif decide ((Rose.lab (v8.getD (Int.toNat v4) (Rose.node ((0 : Int), ((List.replicate 4 (0 : Int)), ())) [] : (Rose (Int × (LI × Unit)))))).1 = 3) then
        (gd (decide (0 ≤ v4))
         (gd (decide (v4 < (v8.length : Int)))
          (c_yy18 v7 ((Rose.lab (v8.getD (Int.toNat v4) (Rose.node ((0 : Int), ((List.replicate 4 (0 : Int)), ())) [] : (Rose (Int × (LI × Unit)))))).2.1) (fun v10 =>
            l_5 v5 v6 v8 v9 Ke0 v3 (IntKind.i64.wrap (v4 + 1)) v10))))
        else (gd (decide (0 ≤ v4))
         (gd (decide (v4 < (v8.length : Int)))
          (c_yy26 ((Rose.lab (v8.getD (Int.toNat v4) (Rose.node ((0 : Int), ((List.replicate 4 (0 : Int)), ())) [] : (Rose (Int × (LI × Unit)))))).1) ((Rose.lab (v8.getD (Int.toNat v4) (Rose.node ((0 : Int), ((List.replicate 4 (0 : Int)), ())) [] : (Rose (Int × (LI × Unit)))))).2.1) (Rose.kids (v8.getD (Int.toNat v4) (Rose.node ((0 : Int), ((List.replicate 4 (0 : Int)), ())) [] : (Rose (Int × (LI × Unit)))))) (fun v11 v12 v13 =>
            c_yy37 v3 v11 v12 v13 (fun v14 =>
             l_5 v5 v6 v8 v9 Ke0 v14 (IntKind.i64.wrap (v4 + 1)) v7)))))))))
    else (Ke0 v3 v5 v6 v7 v9)
def yy22_b {R : Type} (c_yy36 : T20 R) (c_yy18 : T21 R) (c_yy26 : T2 R) (c_yy37 : T33 R) (c_yy23 : T11 R) (c_yy32 : T0 R) (l_5 : T43 R) (v1 : (List (Rose (Int × (LI × Unit))))) (K : T28 R) : Option R :=
    c_yy36 5 v1 (fun v2 =>
     l_5 0 (List.replicate 4 (0 : Int)) v2 ([] : List (Rose (Int × (LI × Unit))))
     (fun v15 v16 v17 v18 v19 =>
      let j24 : (List (Rose (Int × (LI × Unit)))) → Option R := fun v20 =>
      (bif decide ((v20.length : Int) = 0) then
       (c_yy32 (fun v21 v22 v23 =>
         K v21 v22 v23))
       else (bif decide ((v20.length : Int) = 1) then
        (gd (decide (0 < (v20.length : Int)))
         (K ((Rose.lab (v20.getD 0 (Rose.node ((0 : Int), ((List.replicate 4 (0 : Int)), ())) [] : (Rose (Int × (LI × Unit)))))).1) ((Rose.lab (v20.getD 0 (Rose.node ((0 : Int), ((List.replicate 4 (0 : Int)), ())) [] : (Rose (Int × (LI × Unit)))))).2.1) (Rose.kids (v20.getD 0 (Rose.node ((0 : Int), ((List.replicate 4 (0 : Int)), ())) [] : (Rose (Int × (LI × Unit))))))))
        else (K 5 (List.replicate 4 (0 : Int)) v20)))
      (bif (!(decide (v18 = (List.replicate 4 (0 : Int))))) then
       (c_yy23 v18 (fun v25 v26 v27 =>
         c_yy37 v15 v25 v26 v27 (fun v28 =>
          j24 v28)))
       else (j24 v15))) ([] : (List (Rose (Int × (LI × Unit))))) 0 (List.replicate 4 (0 : Int)))
def yy22_l5 {R : Type} (kf : Nat) : Nat → Int → LI → (List (Rose (Int × (LI × Unit)))) → (List (Rose (Int × (LI × Unit)))) → ((List (Rose (Int × (LI × Unit)))) → Int → LI → LI → (List (Rose (Int × (LI × Unit)))) → Option R) → (List (Rose (Int × (LI × Unit)))) → Int → LI → Option R
  | 0, _, _, _, _, _, _, _, _ => none
  | k + 1, y0, y1, y2, y3, y4, y5, y6, y7 => yy22_l5_b (yy36 kf) (yy18 kf) (yy26 kf) (yy37 kf) yy23 yy32 (yy22_l5 kf k) y0 y1 y2 y3 y4 y5 y6 y7
def yy22 {R : Type} (kf : Nat) (v1 : (List (Rose (Int × (LI × Unit))))) (K : T28 R) : Option R := yy22_b (yy36 kf) (yy18 kf) (yy26 kf) (yy37 kf) yy23 yy32 (yy22_l5 kf kf) v1 K
def yy35_l10_b {R : Type} (c_yy26 : T2 R) (c_yy28 : T0 R) (c_yy22 : T1 R) (c_yy35 : T2 R) (l_10 : T22 R) (v12 : Int) (v13 : LI) (v14 : (List (Rose (Int × (LI × Unit))))) (v15 : Int) (v16 : LI) (v18 : (List (Rose (Int × (LI × Unit))))) (Ke1 : Int → LI → (List (Rose (Int × (LI × Unit)))) → Int → LI → (List (Rose (Int × (LI × Unit)))) → (List (Rose (Int × (LI × Unit)))) → Option R) (v11 : Int) (v17 : (List (Rose (Int × (LI × Unit))))) : Option R :=
    bif decide (v11 < (v14.length : Int)) then
    (gd (decide (0 ≤ v11))
     (gd (decide (v11 < (v14.length : Int)))
      (bif (!(decide ((Rose.lab (v14.getD (Int.toNat v11) (Rose.node ((0 : Int), ((List.replicate 4 (0 : Int)), ())) [] : (Rose (Int × (LI × Unit)))))).1 = 2))) then
       (gd (decide (0 ≤ v11))
        (gd (decide (v11 < (v14.length : Int)))
         (gd (decide (v17.length + ([(Rose.node ((Rose.lab (v14.getD (Int.toNat v11) (Rose.node ((0 : Int), ((List.replicate 4 (0 : Int)), ())) [] : (Rose (Int × (LI × Unit)))))).1, (Rose.lab (v14.getD (Int.toNat v11) (Rose.node ((0 : Int), ((List.replicate 4 (0 : Int)), ())) [] : (Rose (Int × (LI × Unit)))))).2.1, ()) (Rose.kids (v14.getD (Int.toNat v11) (Rose.node ((0 : Int), ((List.replicate 4 (0 : Int)), ())) [] : (Rose (Int × (LI × Unit)))))))] : List (Rose (Int × (LI × Unit)))).length < SMALL))
          (l_10 v12 v13 v14 v15 v16 v18 Ke1 (IntKind.i64.wrap (v11 + 1)) (v17 ++ ([(Rose.node ((Rose.lab (v14.getD (Int.toNat v11) (Rose.node ((0 : Int), ((List.replicate 4 (0 : Int)), ())) [] : (Rose (Int × (LI × Unit)))))).1, (Rose.lab (v14.getD (Int.toNat v11) (Rose.node ((0 : Int), ((List.replicate 4 (0 : Int)), ())) [] : (Rose (Int × (LI × Unit)))))).2.1, ()) (Rose.kids (v14.getD (Int.toNat v11) (Rose.node ((0 : Int), ((List.replicate 4 (0 : Int)), ())) [] : (Rose (Int × (LI × Unit)))))))] : List (Rose (Int × (LI × Unit)))))))))
       else (l_10 v12 v13 v14 v15 v16 v18 Ke1 (IntKind.i64.wrap (v11 + 1)) v17))))
    else (Ke1 v12 v13 v14 v15 v16 v17 v18)
def yy35_b {R : Type} (c_yy26 : T2 R) (c_yy28 : T0 R) (c_yy22 : T1 R) (c_yy35 : T2 R) (l_10 : T22 R) (v1 : Int) (v2 : LI) (v3 : (List (Rose (Int × (LI × Unit))))) (K : T28 R) : Option R :=
    bif decide (v1 = 6) then
    (c_yy26 v1 v2 v3 (fun v4 v5 v6 =>
      K v4 v5 v6))
    else (let j38 : Bool → Option R := fun v7 =>
     (bif v7 then
      (c_yy28 (fun v8 v9 v10 =>
        K v8 v9 v10))
      else (bif decide (v1 = 5) then
       (l_10 v1 v2 v3 0 (List.replicate 4 (0 : Int)) ([] : List (Rose (Int × (LI × Unit))))
        (fun v19 v20 v21 v22 v23 v24 v25 =>
         bif decide ((v24.length : Int) < (v21.length : Int)) then
         (c_yy22 v24 (fun v26 v27 v28 =>
           c_yy35 v26 v27 v28 (fun v29 v30 v31 =>
            K v29 v30 v31)))
         else (c_yy26 v19 v20 v21 (fun v32 v33 v34 =>
           K 6 (List.replicate 4 (0 : Int)) ([(Rose.node (v32, v33, ()) v34)] : List (Rose (Int × (LI × Unit))))))) 0 ([] : List (Rose (Int × (LI × Unit)))))
       else (c_yy26 v1 v2 v3 (fun v35 v36 v37 =>
         K 6 (List.replicate 4 (0 : Int)) ([(Rose.node (v35, v36, ()) v37)] : List (Rose (Int × (LI × Unit))))))))
     (bif decide (v1 = 1) then
      (j38 (decide (v1 = 1)))
      else (j38 (decide (v1 = 2)))))
def yy35_l10 {R : Type} (c_self : T2 R) (kf : Nat) : Nat → Int → LI → (List (Rose (Int × (LI × Unit)))) → Int → LI → (List (Rose (Int × (LI × Unit)))) → (Int → LI → (List (Rose (Int × (LI × Unit)))) → Int → LI → (List (Rose (Int × (LI × Unit)))) → (List (Rose (Int × (LI × Unit)))) → Option R) → Int → (List (Rose (Int × (LI × Unit)))) → Option R
  | 0, _, _, _, _, _, _, _, _, _ => none
  | k + 1, y0, y1, y2, y3, y4, y5, y6, y7, y8 => yy35_l10_b (yy26 kf) yy28 (yy22 kf) c_self (yy35_l10 c_self kf k) y0 y1 y2 y3 y4 y5 y6 y7 y8
def yy35 {R : Type} : Nat → Int → LI → (List (Rose (Int × (LI × Unit)))) → (Int → LI → (List (Rose (Int × (LI × Unit)))) → Option R) → Option R
  | 0, _, _, _, _ => none
  | kf + 1, y0, y1, y2, y3 => yy35_b (yy26 kf) yy28 (yy22 kf) (yy35 kf) (yy35_l10 (yy35 kf) kf kf) y0 y1 y2 y3
def yy71_l2_b {R : Type} (l_2 : T44 R) (v3 : LI) (v4 : Int) (v5 : Int) (Kr : Int → Option R) (Ke0 : Option R) (v6 : Int) : Option R :=
    bif decide (v6 < v5) then
    (gd (decide (0 ≤ v6))
     (gd (decide (v6 < (v3.length : Int)))
      (bif decide (v4 = (v3.getD (Int.toNat v6) (0 : Int))) then
       (Kr v6)
       else (l_2 v3 v4 v5 Kr Ke0 (IntKind.i64.wrap (v6 + 1))))))
    else (Ke0)
def yy71_b {R : Type} (l_2 : T44 R) (v1 : LI) (v2 : Int) (K : Int → Option R) : Option R :=
    l_2 v1 v2 (v1.length : Int)
    (fun v7 =>
     K v7)
    (K (-1)) 0
def yy71_l2 {R : Type} (kf : Nat) : Nat → LI → Int → Int → (Int → Option R) → (Option R) → Int → Option R
  | 0, _, _, _, _, _, _ => none
  | k + 1, y0, y1, y2, y3, y4, y5 => yy71_l2_b (yy71_l2 kf k) y0 y1 y2 y3 y4 y5
def yy71 {R : Type} (kf : Nat) (v1 : LI) (v2 : Int) (K : Int → Option R) : Option R := yy71_b (yy71_l2 kf kf) v1 v2 K
def yy68_b {R : Type} (c_yy71 : T45 R) (v1 : LI) (v2 : Int) (K : Bool → Option R) : Option R :=
    c_yy71 v1 v2 (fun v3 =>
     K (decide (0 ≤ v3)))
def yy68 {R : Type} (kf : Nat) (v1 : LI) (v2 : Int) (K : Bool → Option R) : Option R := yy68_b (yy71 kf) v1 v2 K
def yy56_b {R : Type} (c_yy68 : T3 R) (v1 : Int) (v2 : LI) (v3 : (List (Rose (Int × (LI × Unit))))) (v4 : LI) (K : Bool → LI → Option R) : Option R :=
    c_yy68 v4 v1 (fun v5 =>
     K v5 v4)
def yy56 {R : Type} (kf : Nat) (v1 : Int) (v2 : LI) (v3 : (List (Rose (Int × (LI × Unit))))) (v4 : LI) (K : Bool → LI → Option R) : Option R := yy56_b (yy68 kf) v1 v2 v3 v4 K
def yy69_l2_b {R : Type} (c_yy56 : T34 R) (l_2 : T46 R) (v3 : (List (Rose (Int × (LI × Unit))))) (v4 : Int) (Kr : Int → LI → Option R) (Ke0 : LI → Option R) (v5 : Int) (v6 : LI) : Option R :=
    bif decide (v5 < v4) then
    (gd (decide (0 ≤ v5))
     (gd (decide (v5 < (v3.length : Int)))
      (c_yy56 ((Rose.lab (v3.getD (Int.toNat v5) (Rose.node ((0 : Int), ((List.replicate 4 (0 : Int)), ())) [] : (Rose (Int × (LI × Unit)))))).1) ((Rose.lab (v3.getD (Int.toNat v5) (Rose.node ((0 : Int), ((List.replicate 4 (0 : Int)), ())) [] : (Rose (Int × (LI × Unit)))))).2.1) (Rose.kids (v3.getD (Int.toNat v5) (Rose.node ((0 : Int), ((List.replicate 4 (0 : Int)), ())) [] : (Rose (Int × (LI × Unit)))))) v6 (fun v7 v8 =>
        bif v7 then
        (Kr v5 v8)
        else (l_2 v3 v4 Kr Ke0 (IntKind.i64.wrap (v5 + 1)) v8)))))
    else (Ke0 v6)
def yy69_b {R : Type} (c_yy56 : T34 R) (l_2 : T46 R) (v1 : (List (Rose (Int × (LI × Unit))))) (v2 : LI) (K : Int → LI → Option R) : Option R :=
    l_2 v1 (v1.length : Int)
    (fun v9 v10 =>
     K v9 v10)
    (fun v11 =>
     K (-1) v11) 0 v2
def yy69_l2 {R : Type} (kf : Nat) : Nat → (List (Rose (Int × (LI × Unit)))) → Int → (Int → LI → Option R) → (LI → Option R) → Int → LI → Option R
  | 0, _, _, _, _, _, _ => none
  | k + 1, y0, y1, y2, y3, y4, y5 => yy69_l2_b (yy56 kf) (yy69_l2 kf k) y0 y1 y2 y3 y4 y5
def yy69 {R : Type} (kf : Nat) (v1 : (List (Rose (Int × (LI × Unit))))) (v2 : LI) (K : Int → LI → Option R) : Option R := yy69_b (yy56 kf) (yy69_l2 kf kf) v1 v2 K
def yy66_b {R : Type} (c_yy69 : T47 R) (v1 : (List (Rose (Int × (LI × Unit))))) (v2 : LI) (K : Bool → LI → Option R) : Option R :=
    c_yy69 v1 v2 (fun v3 v4 =>
     K (decide (0 ≤ v3)) v4)
def yy66 {R : Type} (kf : Nat) (v1 : (List (Rose (Int × (LI × Unit))))) (v2 : LI) (K : Bool → LI → Option R) : Option R := yy66_b (yy69 kf) v1 v2 K
def yy55_b {R : Type} (c_yy66 : T48 R) (v1 : (List (Rose (Int × (LI × Unit))))) (v2 : LI) (K : Bool → Option R) : Option R :=
    c_yy66 v1 v2 (fun v3 v4 =>
     K v3)
def yy55 {R : Type} (kf : Nat) (v1 : (List (Rose (Int × (LI × Unit))))) (v2 : LI) (K : Bool → Option R) : Option R := yy55_b (yy66 kf) v1 v2 K
def yy57_b {R : Type} (v1 : Int) (v2 : LI) (v3 : (List (Rose (Int × (LI × Unit))))) (K : Bool → Option R) : Option R :=
    K (decide (v1 = 3))
def yy57 {R : Type} (v1 : Int) (v2 : LI) (v3 : (List (Rose (Int × (LI × Unit))))) (K : Bool → Option R) : Option R := yy57_b v1 v2 v3 K
def yy4_b {R : Type} (v1 : Int) (K : Bool → Option R) : Option R :=
    K (!(decide (v1 = v1)))
def yy4 {R : Type} (v1 : Int) (K : Bool → Option R) : Option R := yy4_b v1 K
def yy3_b {R : Type} (c_yy4 : Int → (Bool → Option R) → Option R) (v1 : Int) (v2 : Int) (K : Int → Option R) : Option R :=
    c_yy4 v1 (fun v3 =>
     c_yy4 v2 (fun v4 =>
      bif v3 then
      (bif v4 then
       (K 0)
       else (K (-1)))
      else (bif v4 then
       (K 1)
       else (bif decide (v1 < v2) then
        (K (-1))
        else (bif decide (v2 < v1) then
         (K 1)
         else (K 0))))))
def yy3 {R : Type} (v1 : Int) (v2 : Int) (K : Int → Option R) : Option R := yy3_b yy4 v1 v2 K
def yy7_b {R : Type} (v1 : Int) (K : Int → Option R) : Option R :=
    bif decide (v1 = 0) then
    (K 64)
    else (gd (decide (0 ≤ (shr .u64 (IntKind.u64.wrap (mulZ (bvop .u64 .and v1 (IntKind.u64.wrap (0 - v1))) 285870213051353865)) 58)))
     (gd (decide ((shr .u64 (IntKind.u64.wrap (mulZ (bvop .u64 .and v1 (IntKind.u64.wrap (0 - v1))) 285870213051353865)) 58) < 64))
      (let v2 : Int := (IntKind.i64.wrap (deBruijn.getD (Int.toNat (shr .u64 (IntKind.u64.wrap (mulZ (bvop .u64 .and v1 (IntKind.u64.wrap (0 - v1))) 285870213051353865)) 58)) (0 : Int)))
       K v2)))
def yy7 {R : Type} (v1 : Int) (K : Int → Option R) : Option R := yy7_b v1 K
def yy1_l2_b {R : Type} (c_yy7 : Int → (Int → Option R) → Option R) (l_2 : T24 R) (v4 : LI) (v5 : LI) (Kr : Bool → Option R) (Ke0 : Option R) (v3 : Int) : Option R :=
    bif decide (v3 < 4) then
    (gd (decide (0 ≤ v3))
     (gd (decide (v3 < 4))
      (gd (decide (0 ≤ v3))
       (gd (decide (v3 < 4))
        (let v6 : Int := (bvop .u64 .xor (v4.getD (Int.toNat v3) (0 : Int)) (v5.getD (Int.toNat v3) (0 : Int)))
         bif (!(decide (v6 = 0))) then
         (gd (decide (0 ≤ v3))
          (gd (decide (v3 < 4))
           (c_yy7 v6 (fun v7 =>
             gd (decide (0 ≤ v7))
             (Kr (decide ((bvop .u64 .and (shr .u64 (v4.getD (Int.toNat v3) (0 : Int)) v7) 1) = 1)))))))
         else (l_2 v4 v5 Kr Ke0 (IntKind.i64.wrap (v3 + 1))))))))
    else (Ke0)
def yy1_b {R : Type} (c_yy7 : Int → (Int → Option R) → Option R) (l_2 : T24 R) (v1 : LI) (v2 : LI) (K : Bool → Option R) : Option R :=
    l_2 v1 v2
    (fun v8 =>
     K v8)
    (K false) 0
def yy1_l2 {R : Type} (kf : Nat) : Nat → LI → LI → (Bool → Option R) → (Option R) → Int → Option R
  | 0, _, _, _, _, _ => none
  | k + 1, y0, y1, y2, y3, y4 => yy1_l2_b yy7 (yy1_l2 kf k) y0 y1 y2 y3 y4
def yy1 {R : Type} (kf : Nat) (v1 : LI) (v2 : LI) (K : Bool → Option R) : Option R := yy1_b yy7 (yy1_l2 kf kf) v1 v2 K
def yy65_l2_b {R : Type} (c_yy52 : T6 R) (l_2 : T49 R) (v3 : (List (Rose (Int × (LI × Unit))))) (v4 : (List (Rose (Int × (LI × Unit))))) (v5 : (List (Rose (Int × (LI × Unit))))) (v6 : Int) (Kr : (List (Rose (Int × (LI × Unit)))) → (List (Rose (Int × (LI × Unit)))) → Int → Option R) (Ke0 : (List (Rose (Int × (LI × Unit)))) → (List (Rose (Int × (LI × Unit)))) → Option R) (v7 : Int) : Option R :=
    bif decide (v7 < v6) then
    (gd (decide (0 ≤ v7))
     (gd (decide (v7 < (v5.length : Int)))
      (bif decide ((v4.length : Int) ≤ v7) then
       (Kr v3 v4 1)
       else (gd (decide (0 ≤ v7))
        (gd (decide (v7 < (v4.length : Int)))
         (c_yy52 ((Rose.lab (v5.getD (Int.toNat v7) (Rose.node ((0 : Int), ((List.replicate 4 (0 : Int)), ())) [] : (Rose (Int × (LI × Unit)))))).1) ((Rose.lab (v5.getD (Int.toNat v7) (Rose.node ((0 : Int), ((List.replicate 4 (0 : Int)), ())) [] : (Rose (Int × (LI × Unit)))))).2.1) (Rose.kids (v5.getD (Int.toNat v7) (Rose.node ((0 : Int), ((List.replicate 4 (0 : Int)), ())) [] : (Rose (Int × (LI × Unit)))))) ((Rose.lab (v4.getD (Int.toNat v7) (Rose.node ((0 : Int), ((List.replicate 4 (0 : Int)), ())) [] : (Rose (Int × (LI × Unit)))))).1) ((Rose.lab (v4.getD (Int.toNat v7) (Rose.node ((0 : Int), ((List.replicate 4 (0 : Int)), ())) [] : (Rose (Int × (LI × Unit)))))).2.1) (Rose.kids (v4.getD (Int.toNat v7) (Rose.node ((0 : Int), ((List.replicate 4 (0 : Int)), ())) [] : (Rose (Int × (LI × Unit)))))) (fun v8 =>
           bif (!(decide (v8 = 0))) then
           (Kr v3 v4 v8)
           else (l_2 v3 v4 v5 v6 Kr Ke0 (IntKind.i64.wrap (v7 + 1))))))))))
    else (Ke0 v3 v4)
def yy65_b {R : Type} (c_yy52 : T6 R) (l_2 : T49 R) (v1 : (List (Rose (Int × (LI × Unit))))) (v2 : (List (Rose (Int × (LI × Unit))))) (K : Int → Option R) : Option R :=
    l_2 v1 v2 v1 (v1.length : Int)
    (fun v9 v10 v11 =>
     K v11)
    (fun v12 v13 =>
     bif decide ((v12.length : Int) < (v13.length : Int)) then
     (K (-1))
     else (K 0)) 0
def yy65_l2 {R : Type} (c_yy52 : T6 R) (kf : Nat) : Nat → (List (Rose (Int × (LI × Unit)))) → (List (Rose (Int × (LI × Unit)))) → (List (Rose (Int × (LI × Unit)))) → Int → ((List (Rose (Int × (LI × Unit)))) → (List (Rose (Int × (LI × Unit)))) → Int → Option R) → ((List (Rose (Int × (LI × Unit)))) → (List (Rose (Int × (LI × Unit)))) → Option R) → Int → Option R
  | 0, _, _, _, _, _, _, _ => none
  | k + 1, y0, y1, y2, y3, y4, y5, y6 => yy65_l2_b c_yy52 (yy65_l2 c_yy52 kf k) y0 y1 y2 y3 y4 y5 y6
def yy65 {R : Type} (c_yy52 : T6 R) (kf : Nat) (v1 : (List (Rose (Int × (LI × Unit))))) (v2 : (List (Rose (Int × (LI × Unit))))) (K : Int → Option R) : Option R := yy65_b c_yy52 (yy65_l2 c_yy52 kf kf) v1 v2 K
def yy52_b {R : Type} (c_yy3 : T50 R) (c_yy1 : T16 R) (c_yy65 : T51 R) (v1 : Int) (v2 : LI) (v3 : (List (Rose (Int × (LI × Unit))))) (v4 : Int) (v5 : LI) (v6 : (List (Rose (Int × (LI × Unit))))) (K : Int → Option R) : Option R :=
    c_yy3 v1 v4 (fun v7 =>
     bif (!(decide (v7 = 0))) then
     (K v7)
     else (let j11 : Bool → Option R := fun v8 =>
      (bif v8 then
       (c_yy1 v2 v5 (fun v9 =>
         bif v9 then
         (K (-1))
         else (K 1)))
       else (c_yy65 v3 v6 (fun v10 =>
         K v10)))
      (bif decide (v1 = 3) then
       (j11 (!(decide (v2 = v5))))
       else (j11 false))))
def yy52 {R : Type} : Nat → Int → LI → (List (Rose (Int × (LI × Unit)))) → Int → LI → (List (Rose (Int × (LI × Unit)))) → (Int → Option R) → Option R
  | 0, _, _, _, _, _, _, _ => none
  | kf + 1, y0, y1, y2, y3, y4, y5, y6 => yy52_b yy3 (yy1 kf) (yy65 (yy52 kf) kf) y0 y1 y2 y3 y4 y5 y6
def yy58_l3_b {R : Type} (c_yy57 : T4 R) (c_yy52 : T6 R) (l_3 : T52 R) (v2 : (List (Rose (Int × (LI × Unit))))) (v4 : (List (Rose (Int × (LI × Unit))))) (v5 : Int) (Kr : Bool → Int → Option R) (Ke0 : Int → Option R) (v3 : Int) (v6 : Int) : Option R :=
    bif decide (v6 < v5) then
    (gd (decide (0 ≤ v6))
     (gd (decide (v6 < (v4.length : Int)))
      (let j11 : Int → Option R := fun v7 =>
       (let j9 : Bool → Option R := fun v8 =>
        (bif v8 then
         (Kr false v7)
         else (l_3 v2 v4 v5 Kr Ke0 v7 (IntKind.i64.wrap (v6 + 1))))
        (bif decide (0 < v6) then
         (gd (decide (0 ≤ (IntKind.i64.wrap (v6 - 1))))
          (gd (decide ((IntKind.i64.wrap (v6 - 1)) < (v2.length : Int)))
           (c_yy52 ((Rose.lab (v2.getD (Int.toNat (IntKind.i64.wrap (v6 - 1))) (Rose.node ((0 : Int), ((List.replicate 4 (0 : Int)), ())) [] : (Rose (Int × (LI × Unit)))))).1) ((Rose.lab (v2.getD (Int.toNat (IntKind.i64.wrap (v6 - 1))) (Rose.node ((0 : Int), ((List.replicate 4 (0 : Int)), ())) [] : (Rose (Int × (LI × Unit)))))).2.1) (Rose.kids (v2.getD (Int.toNat (IntKind.i64.wrap (v6 - 1))) (Rose.node ((0 : Int), ((List.replicate 4 (0 : Int)), ())) [] : (Rose (Int × (LI × Unit)))))) ((Rose.lab (v4.getD (Int.toNat v6) (Rose.node ((0 : Int), ((List.replicate 4 (0 : Int)), ())) [] : (Rose (Int × (LI × Unit)))))).1) ((Rose.lab (v4.getD (Int.toNat v6) (Rose.node ((0 : Int), ((List.replicate 4 (0 : Int)), ())) [] : (Rose (Int × (LI × Unit)))))).2.1) (Rose.kids (v4.getD (Int.toNat v6) (Rose.node ((0 : Int), ((List.replicate 4 (0 : Int)), ())) [] : (Rose (Int × (LI × Unit)))))) (fun v10 =>
             j9 (decide (0 ≤ v10))))))
         else (j9 false)))
       (c_yy57 ((Rose.lab (v4.getD (Int.toNat v6) (Rose.node ((0 : Int), ((List.replicate 4 (0 : Int)), ())) [] : (Rose (Int × (LI × Unit)))))).1) ((Rose.lab (v4.getD (Int.toNat v6) (Rose.node ((0 : Int), ((List.replicate 4 (0 : Int)), ())) [] : (Rose (Int × (LI × Unit)))))).2.1) (Rose.kids (v4.getD (Int.toNat v6) (Rose.node ((0 : Int), ((List.replicate 4 (0 : Int)), ())) [] : (Rose (Int × (LI × Unit)))))) (fun v12 =>
         bif v12 then
         (j11 (IntKind.i64.wrap (v3 + 1)))
         else (j11 v3))))))
    else (Ke0 v3)
def yy58_b {R : Type} (c_yy57 : T4 R) (c_yy52 : T6 R) (l_3 : T52 R) (v1 : (List (Rose (Int × (LI × Unit))))) (K : Bool → Option R) : Option R :=
    l_3 v1 v1 (v1.length : Int)
    (fun v13 v14 =>
     K v13)
    (fun v15 =>
     K (decide (v15 ≤ 1))) 0 0
def yy58_l3 {R : Type} (kf : Nat) : Nat → (List (Rose (Int × (LI × Unit)))) → (List (Rose (Int × (LI × Unit)))) → Int → (Bool → Int → Option R) → (Int → Option R) → Int → Int → Option R
  | 0, _, _, _, _, _, _, _ => none
  | k + 1, y0, y1, y2, y3, y4, y5, y6 => yy58_l3_b yy57 (yy52 kf) (yy58_l3 kf k) y0 y1 y2 y3 y4 y5 y6
def yy58 {R : Type} (kf : Nat) (v1 : (List (Rose (Int × (LI × Unit))))) (K : Bool → Option R) : Option R := yy58_b yy57 (yy52 kf) (yy58_l3 kf kf) v1 K
def yy54_b {R : Type} (c_yy53 : T4 R) (v1 : Int) (v2 : LI) (v3 : (List (Rose (Int × (LI × Unit))))) (K : Bool → Option R) : Option R :=
    c_yy53 v1 v2 v3 (fun v4 =>
     K (!v4))
def yy54 {R : Type} (c_yy53 : T4 R) (kf : Nat) (v1 : Int) (v2 : LI) (v3 : (List (Rose (Int × (LI × Unit))))) (K : Bool → Option R) : Option R := yy54_b c_yy53 v1 v2 v3 K
def yy70_l2_b {R : Type} (c_yy54 : T4 R) (l_2 : T53 R) (v2 : (List (Rose (Int × (LI × Unit))))) (v3 : Int) (Kr : Int → Option R) (Ke0 : Option R) (v4 : Int) : Option R :=
    bif decide (v4 < v3) then
    (gd (decide (0 ≤ v4))
     (gd (decide (v4 < (v2.length : Int)))
      (c_yy54 ((Rose.lab (v2.getD (Int.toNat v4) (Rose.node ((0 : Int), ((List.replicate 4 (0 : Int)), ())) [] : (Rose (Int × (LI × Unit)))))).1) ((Rose.lab (v2.getD (Int.toNat v4) (Rose.node ((0 : Int), ((List.replicate 4 (0 : Int)), ())) [] : (Rose (Int × (LI × Unit)))))).2.1) (Rose.kids (v2.getD (Int.toNat v4) (Rose.node ((0 : Int), ((List.replicate 4 (0 : Int)), ())) [] : (Rose (Int × (LI × Unit)))))) (fun v5 =>
        bif v5 then
        (Kr v4)
        else (l_2 v2 v3 Kr Ke0 (IntKind.i64.wrap (v4 + 1)))))))
    else (Ke0)
def yy70_b {R : Type} (c_yy54 : T4 R) (l_2 : T53 R) (v1 : (List (Rose (Int × (LI × Unit))))) (K : Int → Option R) : Option R :=
    l_2 v1 (v1.length : Int)
    (fun v6 =>
     K v6)
    (K (-1)) 0
def yy70_l2 {R : Type} (c_yy53 : T4 R) (kf : Nat) : Nat → (List (Rose (Int × (LI × Unit)))) → Int → (Int → Option R) → (Option R) → Int → Option R
  | 0, _, _, _, _, _ => none
  | k + 1, y0, y1, y2, y3, y4 => yy70_l2_b (yy54 c_yy53 kf) (yy70_l2 c_yy53 kf k) y0 y1 y2 y3 y4
def yy70 {R : Type} (c_yy53 : T4 R) (kf : Nat) (v1 : (List (Rose (Int × (LI × Unit))))) (K : Int → Option R) : Option R := yy70_b (yy54 c_yy53 kf) (yy70_l2 c_yy53 kf kf) v1 K
def yy67_b {R : Type} (c_yy70 : T54 R) (v1 : (List (Rose (Int × (LI × Unit))))) (K : Bool → Option R) : Option R :=
    c_yy70 v1 (fun v2 =>
     K (decide (0 ≤ v2)))
def yy67 {R : Type} (c_yy53 : T4 R) (kf : Nat) (v1 : (List (Rose (Int × (LI × Unit))))) (K : Bool → Option R) : Option R := yy67_b (yy70 c_yy53 kf) v1 K
def yy53_b {R : Type} (c_yy55 : T55 R) (c_yy58 : T25 R) (c_yy67 : T25 R) (v1 : Int) (v2 : LI) (v3 : (List (Rose (Int × (LI × Unit))))) (K : Bool → Option R) : Option R :=
    let j6 : Bool → Option R := fun v4 =>
    (bif v4 then
     (c_yy67 v3 (fun v5 =>
       K (!v5)))
     else (K false))
    (let j12 : Bool → Option R := fun v7 =>
     (bif v7 then
      (bif decide (v2 = (List.replicate 4 (0 : Int))) then
       (j6 (decide ((v3.length : Int) = 0)))
       else (j6 false))
      else (bif decide (v1 = 3) then
       (bif (!(decide (v2 = (List.replicate 4 (0 : Int))))) then
        (j6 (decide ((v3.length : Int) = 0)))
        else (j6 false))
       else (bif decide (v1 = 4) then
        (bif decide (v2 = (List.replicate 4 (0 : Int))) then
         (bif decide (1 < (v3.length : Int)) then
          (c_yy55 v3 ([4, 1, 2] : List Int) (fun v8 =>
            j6 (!v8)))
          else (j6 false))
         else (j6 false))
        else (bif decide (v1 = 5) then
         (bif decide (v2 = (List.replicate 4 (0 : Int))) then
          (bif decide (1 < (v3.length : Int)) then
           (c_yy55 v3 ([5, 1] : List Int) (fun v9 =>
             bif (!v9) then
             (c_yy58 v3 (fun v10 =>
               j6 v10))
             else (j6 false)))
           else (j6 false))
          else (j6 false))
         else (bif decide (v1 = 6) then
          (bif decide (v2 = (List.replicate 4 (0 : Int))) then
           (bif decide ((v3.length : Int) = 1) then
            (c_yy55 v3 ([6, 1, 2] : List Int) (fun v11 =>
              j6 (!v11)))
            else (j6 false))
           else (j6 false))
          else (j6 false))))))
     (bif decide (v1 = 1) then
      (j12 (decide (v1 = 1)))
      else (j12 (decide (v1 = 2)))))
def yy53 {R : Type} : Nat → Int → LI → (List (Rose (Int × (LI × Unit)))) → (Bool → Option R) → Option R
  | 0, _, _, _, _ => none
  | kf + 1, y0, y1, y2, y3 => yy53_b (yy55 kf) (yy58 kf) (yy67 (yy53 kf) kf) y0 y1 y2 y3
def yy61_b {R : Type} (v1 : LI) (v2 : Bool) (v3 : LI) (K : Bool → LI → Option R) : Option R :=
    gd (decide (v3.length + v1.length < SMALL))
    (bif decide (4000 < ((v3 ++ v1).length : Int)) then
     (K true (v3 ++ v1))
     else (K v2 (v3 ++ v1)))
def yy61 {R : Type} (v1 : LI) (v2 : Bool) (v3 : LI) (K : Bool → LI → Option R) : Option R := yy61_b v1 v2 v3 K
def yy0_b {R : Type} (v1 : LI) (v2 : Int) (K : Bool → Option R) : Option R :=
    gd (decide (0 ≤ (IntKind.u8.wrap (Int.tdiv v2 64))))
    (gd (decide ((IntKind.u8.wrap (Int.tdiv v2 64)) < 4))
     (gd (decide (0 ≤ (Int.tmod v2 64)))
      (K (decide ((bvop .u64 .and (shr .u64 (v1.getD (Int.toNat (IntKind.u8.wrap (Int.tdiv v2 64))) (0 : Int)) (Int.tmod v2 64)) 1) = 1)))))
def yy0 {R : Type} (v1 : LI) (v2 : Int) (K : Bool → Option R) : Option R := yy0_b v1 v2 K
def yy2_l3_b {R : Type} (c_yy0 : T3 R) (l_3 : T23 R) (v3 : LI) (Ke0 : LI → Option R) (v2 : Int) (v4 : LI) : Option R :=
    bif decide (v2 < 256) then
    (c_yy0 v3 (IntKind.u8.wrap v2) (fun v5 =>
      bif v5 then
      (gd (decide (v4.length + ([(IntKind.u8.wrap v2)] : List Int).length < SMALL))
       (l_3 v3 Ke0 (IntKind.i64.wrap (v2 + 1)) (v4 ++ ([(IntKind.u8.wrap v2)] : List Int))))
      else (l_3 v3 Ke0 (IntKind.i64.wrap (v2 + 1)) v4)))
    else (Ke0 v4)
def yy2_b {R : Type} (c_yy0 : T3 R) (l_3 : T23 R) (v1 : LI) (K : LI → Option R) : Option R :=
    l_3 v1
    (fun v6 =>
     K v6) 0 ([] : List Int)
def yy2_l3 {R : Type} (kf : Nat) : Nat → LI → (LI → Option R) → Int → LI → Option R
  | 0, _, _, _, _ => none
  | k + 1, y0, y1, y2, y3 => yy2_l3_b yy0 (yy2_l3 kf k) y0 y1 y2 y3
def yy2 {R : Type} (kf : Nat) (v1 : LI) (K : LI → Option R) : Option R := yy2_b yy0 (yy2_l3 kf kf) v1 K
def yy60_b {R : Type} (v1 : Int) (K : LI → Option R) : Option R :=
    let j2 : Option R :=
    (gd (decide (0 ≤ (shr .u8 v1 4)))
     (gd (decide ((shr .u8 v1 4) < ([48, 49, 50, 51, 52, 53, 54, 55, 56, 57, 97, 98, 99, 100, 101, 102].length : Int)))
      (gd (decide (0 ≤ (bvop .u8 .and v1 15)))
       (gd (decide ((bvop .u8 .and v1 15) < ([48, 49, 50, 51, 52, 53, 54, 55, 56, 57, 97, 98, 99, 100, 101, 102].length : Int)))
        (gd (decide ([92, 120].length + ([([48, 49, 50, 51, 52, 53, 54, 55, 56, 57, 97, 98, 99, 100, 101, 102].getD (Int.toNat (shr .u8 v1 4)) 0), ([48, 49, 50, 51, 52, 53, 54, 55, 56, 57, 97, 98, 99, 100, 101, 102].getD (Int.toNat (bvop .u8 .and v1 15)) 0)] : List Int).length < SMALL))
         (K ([92, 120] ++ ([([48, 49, 50, 51, 52, 53, 54, 55, 56, 57, 97, 98, 99, 100, 101, 102].getD (Int.toNat (shr .u8 v1 4)) 0), ([48, 49, 50, 51, 52, 53, 54, 55, 56, 57, 97, 98, 99, 100, 101, 102].getD (Int.toNat (bvop .u8 .and v1 15)) 0)] : List Int))))))))
    (bif decide (0 ≤ (idxB [92, 124, 42, 43, 63, 40, 41, 91, 93, 94, 45, 46] v1)) then
     (gd (decide ([92].length + ([v1] : List Int).length < SMALL))
      (K ([92] ++ ([v1] : List Int))))
     else (bif decide (v1 < 32) then
      (j2)
      else (bif decide (126 < v1) then
       (j2)
       else (K ([v1] : List Int)))))
def yy60 {R : Type} (v1 : Int) (K : LI → Option R) : Option R := yy60_b v1 K
def yy63_l9_b {R : Type} (c_yy2 : LI → (LI → Option R) → Option R) (c_yy61 : T9 R) (c_yy60 : Int → (LI → Option R) → Option R) (l_9 : T35 R) (l_11 : T36 R) (Ke1 : Bool → LI → Option R) (v12 : Int) (v13 : Bool) (v14 : LI) (v15 : LI) : Option R :=
    bif decide (v12 < (v14.length : Int)) then
    (l_11 v12 v13 v14 v15
     (fun v21 v22 v23 v24 v25 =>
      gd (decide (0 ≤ v21))
      (gd (decide (v21 < (v24.length : Int)))
       (c_yy60 (v24.getD (Int.toNat v21) (0 : Int)) (fun v26 =>
         c_yy61 v26 v23 v25 (fun v27 v28 =>
          let j34 : Bool → LI → Option R := fun v29 v30 =>
          (bif decide (v21 < v22) then
           (gd (decide (0 ≤ v22))
            (gd (decide (v22 < (v24.length : Int)))
             (c_yy60 (v24.getD (Int.toNat v22) (0 : Int)) (fun v31 =>
               c_yy61 v31 v29 v30 (fun v32 v33 =>
                l_9 Ke1 (IntKind.i64.wrap (v22 + 1)) v32 v24 v33)))))
           else (l_9 Ke1 (IntKind.i64.wrap (v22 + 1)) v29 v24 v30))
          (bif decide ((IntKind.i64.wrap (v21 + 1)) < v22) then
           (c_yy61 ([45]) v27 v28 (fun v35 v36 =>
             j34 v35 v36))
           else (j34 v27 v28))))))) v12)
    else (Ke1 v13 v15)
def yy63_l11_b {R : Type} (c_yy2 : LI → (LI → Option R) → Option R) (c_yy61 : T9 R) (c_yy60 : Int → (LI → Option R) → Option R) (l_9 : T35 R) (l_11 : T36 R) (v16 : Int) (v18 : Bool) (v19 : LI) (v20 : LI) (Ke3 : Int → Int → Bool → LI → LI → Option R) (v17 : Int) : Option R :=
    bif decide ((IntKind.i64.wrap (v17 + 1)) < (v19.length : Int)) then
    (gd (decide (0 ≤ (IntKind.i64.wrap (v17 + 1))))
     (gd (decide ((IntKind.i64.wrap (v17 + 1)) < (v19.length : Int)))
      (gd (decide (0 ≤ v17))
       (gd (decide (v17 < (v19.length : Int)))
        (bif decide ((v19.getD (Int.toNat (IntKind.i64.wrap (v17 + 1))) (0 : Int)) = (IntKind.u8.wrap ((v19.getD (Int.toNat v17) (0 : Int)) + 1))) then
         (l_11 v16 v18 v19 v20 Ke3 (IntKind.i64.wrap (v17 + 1)))
         else (Ke3 v16 v17 v18 v19 v20))))))
    else (Ke3 v16 v17 v18 v19 v20)
def yy63_b {R : Type} (c_yy2 : LI → (LI → Option R) → Option R) (c_yy61 : T9 R) (c_yy60 : Int → (LI → Option R) → Option R) (l_9 : T35 R) (l_11 : T36 R) (v1 : LI) (v2 : Bool) (v3 : LI) (K : Bool → LI → Option R) : Option R :=
    c_yy2 v1 (fun v4 =>
     bif decide ((v4.length : Int) = 256) then
     (c_yy61 ([46]) v2 v3 (fun v5 v6 =>
       K v5 v6))
     else (bif decide ((v4.length : Int) = 1) then
      (gd (decide (0 < (v4.length : Int)))
       (c_yy60 (v4.getD 0 (0 : Int)) (fun v7 =>
         c_yy61 v7 v2 v3 (fun v8 v9 =>
          K v8 v9))))
      else (c_yy61 ([91]) v2 v3 (fun v10 v11 =>
        l_9
        (fun v37 v38 =>
         c_yy61 ([93]) v37 v38 (fun v39 v40 =>
          K v39 v40)) 0 v10 v4 v11))))
def yy63_l11 {R : Type} (kf : Nat) : Nat → Int → Bool → LI → LI → (Int → Int → Bool → LI → LI → Option R) → Int → Option R
  | 0, _, _, _, _, _, _ => none
  | k + 1, y0, y1, y2, y3, y4, y5 => yy63_l11_b (yy2 kf) yy61 yy60 (fun _ _ _ _ _ => none) (yy63_l11 kf k) y0 y1 y2 y3 y4 y5
def yy63_l9 {R : Type} (kf : Nat) : Nat → (Bool → LI → Option R) → Int → Bool → LI → LI → Option R
  | 0, _, _, _, _, _ => none
  | k + 1, y0, y1, y2, y3, y4 => yy63_l9_b (yy2 kf) yy61 yy60 (yy63_l9 kf k) (yy63_l11 kf k) y0 y1 y2 y3 y4
def yy63 {R : Type} (kf : Nat) (v1 : LI) (v2 : Bool) (v3 : LI) (K : Bool → LI → Option R) : Option R := yy63_b (yy2 kf) yy61 yy60 (yy63_l9 kf kf) (yy63_l11 kf kf) v1 v2 v3 K
def yy64_b {R : Type} (c_yy68 : T3 R) (c_yy62 : T15 R) (c_yy61 : T9 R) (v1 : Int) (v2 : LI) (v3 : (List (Rose (Int × (LI × Unit))))) (v4 : LI) (v5 : Bool) (v6 : LI) (K : Bool → LI → Option R) : Option R :=
    c_yy68 v4 v1 (fun v7 =>
     bif (!v7) then
     (c_yy62 v1 v2 v3 v5 v6 (fun v8 v9 =>
       K v8 v9))
     else (c_yy61 ([40]) v5 v6 (fun v10 v11 =>
       c_yy62 v1 v2 v3 v10 v11 (fun v12 v13 =>
        c_yy61 ([41]) v12 v13 (fun v14 v15 =>
         K v14 v15)))))
def yy64 {R : Type} (c_yy62 : T15 R) (kf : Nat) (v1 : Int) (v2 : LI) (v3 : (List (Rose (Int × (LI × Unit))))) (v4 : LI) (v5 : Bool) (v6 : LI) (K : Bool → LI → Option R) : Option R := yy64_b (yy68 kf) c_yy62 yy61 v1 v2 v3 v4 v5 v6 K
def yy62_l11_b {R : Type} (c_yy61 : T9 R) (c_yy63 : T9 R) (c_yy64 : T29 R) (c_yy62 : T15 R) (l_11 : T17 R) (l_17 : T17 R) (v12 : (List (Rose (Int × (LI × Unit))))) (v13 : Int) (Ke1 : Bool → LI → Option R) (v14 : Int) (v15 : Bool) (v16 : LI) : Option R :=
    bif decide (v14 < v13) then
    (gd (decide (0 ≤ v14))
     (gd (decide (v14 < (v12.length : Int)))
      (c_yy64 ((Rose.lab (v12.getD (Int.toNat v14) (Rose.node ((0 : Int), ((List.replicate 4 (0 : Int)), ())) [] : (Rose (Int × (LI × Unit)))))).1) ((Rose.lab (v12.getD (Int.toNat v14) (Rose.node ((0 : Int), ((List.replicate 4 (0 : Int)), ())) [] : (Rose (Int × (LI × Unit)))))).2.1) (Rose.kids (v12.getD (Int.toNat v14) (Rose.node ((0 : Int), ((List.replicate 4 (0 : Int)), ())) [] : (Rose (Int × (LI × Unit)))))) ([5] : List Int) v15 v16 (fun v17 v18 =>
        l_11 v12 v13 Ke1 (IntKind.i64.wrap (v14 + 1)) v17 v18))))
    else (Ke1 v15 v16)
def yy62_l17_b {R : Type} (c_yy61 : T9 R) (c_yy63 : T9 R) (c_yy64 : T29 R) (c_yy62 : T15 R) (l_11 : T17 R) (l_17 : T17 R) (v21 : (List (Rose (Int × (LI × Unit))))) (v22 : Int) (Ke3 : Bool → LI → Option R) (v23 : Int) (v24 : Bool) (v25 : LI) : Option R :=
    bif decide (v23 < v22) then
    (gd (decide (0 ≤ v23))
     (gd (decide (v23 < (v21.length : Int)))
      (let j30 : Bool → LI → Option R := fun v26 v27 =>
       (bif (!(decide ((Rose.lab (v21.getD (Int.toNat v23) (Rose.node ((0 : Int), ((List.replicate 4 (0 : Int)), ())) [] : (Rose (Int × (LI × Unit)))))).1 = 2))) then
        (c_yy62 ((Rose.lab (v21.getD (Int.toNat v23) (Rose.node ((0 : Int), ((List.replicate 4 (0 : Int)), ())) [] : (Rose (Int × (LI × Unit)))))).1) ((Rose.lab (v21.getD (Int.toNat v23) (Rose.node ((0 : Int), ((List.replicate 4 (0 : Int)), ())) [] : (Rose (Int × (LI × Unit)))))).2.1) (Rose.kids (v21.getD (Int.toNat v23) (Rose.node ((0 : Int), ((List.replicate 4 (0 : Int)), ())) [] : (Rose (Int × (LI × Unit)))))) v26 v27 (fun v28 v29 =>
          l_17 v21 v22 Ke3 (IntKind.i64.wrap (v23 + 1)) v28 v29))
        else (l_17 v21 v22 Ke3 (IntKind.i64.wrap (v23 + 1)) v26 v27))
       (bif decide (0 < v23) then
        (c_yy61 ([124]) v24 v25 (fun v31 v32 =>
          j30 v31 v32))
        else (j30 v24 v25)))))
    else (Ke3 v24 v25)
def yy62_b {R : Type} (c_yy61 : T9 R) (c_yy63 : T9 R) (c_yy64 : T29 R) (c_yy62 : T15 R) (l_11 : T17 R) (l_17 : T17 R) (v1 : Int) (v2 : LI) (v3 : (List (Rose (Int × (LI × Unit))))) (v4 : Bool) (v5 : LI) (K : Bool → LI → Option R) : Option R :=
    bif v4 then
    (K v4 v5)
    else (bif decide (v1 = 1) then
     (c_yy61 ([91, 93]) v4 v5 (fun v6 v7 =>
       K v6 v7))
     else (bif decide (v1 = 2) then
      (c_yy61 ([40, 41]) v4 v5 (fun v8 v9 =>
        K v8 v9))
      else (bif decide (v1 = 3) then
       (c_yy63 v2 v4 v5 (fun v10 v11 =>
         K v10 v11))
       else (bif decide (v1 = 4) then
        (l_11 v3 (v3.length : Int)
         (fun v19 v20 =>
          K v19 v20) 0 v4 v5)
        else (bif decide (v1 = 5) then
         (l_17 v3 (v3.length : Int)
          (fun v33 v34 =>
           K v33 v34) 0 v4 v5)
         else (bif decide (v1 = 6) then
          (gd (decide (0 < (v3.length : Int)))
           (c_yy64 ((Rose.lab (v3.getD 0 (Rose.node ((0 : Int), ((List.replicate 4 (0 : Int)), ())) [] : (Rose (Int × (LI × Unit)))))).1) ((Rose.lab (v3.getD 0 (Rose.node ((0 : Int), ((List.replicate 4 (0 : Int)), ())) [] : (Rose (Int × (LI × Unit)))))).2.1) (Rose.kids (v3.getD 0 (Rose.node ((0 : Int), ((List.replicate 4 (0 : Int)), ())) [] : (Rose (Int × (LI × Unit)))))) ([4, 5] : List Int) v4 v5 (fun v35 v36 =>
             c_yy61 ([42]) v35 v36 (fun v37 v38 =>
              K v37 v38))))
          else (K v4 v5)))))))
def yy62_l11 {R : Type} (c_self : T15 R) (kf : Nat) : Nat → (List (Rose (Int × (LI × Unit)))) → Int → (Bool → LI → Option R) → Int → Bool → LI → Option R
  | 0, _, _, _, _, _, _ => none
  | k + 1, y0, y1, y2, y3, y4, y5 => yy62_l11_b yy61 (yy63 kf) (yy64 c_self kf) c_self (yy62_l11 c_self kf k) (fun _ _ _ _ _ _ => none) y0 y1 y2 y3 y4 y5
def yy62_l17 {R : Type} (c_self : T15 R) (kf : Nat) : Nat → (List (Rose (Int × (LI × Unit)))) → Int → (Bool → LI → Option R) → Int → Bool → LI → Option R
  | 0, _, _, _, _, _, _ => none
  | k + 1, y0, y1, y2, y3, y4, y5 => yy62_l17_b yy61 (yy63 kf) (yy64 c_self kf) c_self (yy62_l11 c_self kf k) (yy62_l17 c_self kf k) y0 y1 y2 y3 y4 y5
def yy62 {R : Type} : Nat → Int → LI → (List (Rose (Int × (LI × Unit)))) → Bool → LI → (Bool → LI → Option R) → Option R
  | 0, _, _, _, _, _, _ => none
  | kf + 1, y0, y1, y2, y3, y4, y5 => yy62_b yy61 (yy63 kf) (yy64 (yy62 kf) kf) (yy62 kf) (yy62_l11 (yy62 kf) kf kf) (yy62_l17 (yy62 kf) kf kf) y0 y1 y2 y3 y4 y5
def yy59_b {R : Type} (c_yy53 : T4 R) (c_yy62 : T15 R) (v1 : Int) (v2 : LI) (v3 : (List (Rose (Int × (LI × Unit))))) (K : LI → Option R) : Option R :=
    c_yy53 v1 v2 v3 (fun v4 =>
     bif (!v4) then
     (K ([]))
     else (c_yy62 v1 v2 v3 false ([] : List Int) (fun v5 v6 =>
       bif v5 then
       (K ([]))
       else (K v6))))
def yy59 {R : Type} (kf : Nat) (v1 : Int) (v2 : LI) (v3 : (List (Rose (Int × (LI × Unit))))) (K : LI → Option R) : Option R := yy59_b (yy53 kf) (yy62 kf) v1 v2 v3 K
def yy6_b {R : Type} (c_yy17 : LI → (LI → Option R) → Option R) (c_yy23 : T11 R) (c_yy35 : T2 R) (c_yy59 : T30 R) (c_yy28 : T0 R) (K : Bool → Option R) : Option R :=
    gd (decide (0 < ([97, 98, 99] : List Int).length))
    (c_yy17 ([97, 98, 99] : List Int) (fun v1 =>
      c_yy23 v1 (fun v2 v3 v4 =>
       c_yy35 v2 v3 v4 (fun v5 v6 v7 =>
        c_yy59 v5 v6 v7 (fun v8 =>
         bif decide (v8 = [91, 97, 45, 99, 93, 42]) then
         (c_yy28 (fun v9 v10 v11 =>
           c_yy59 v9 v10 v11 (fun v12 =>
            K (decide (v12 = [40, 41])))))
         else (K false))))))
def yy6 {R : Type} (kf : Nat) (K : Bool → Option R) : Option R := yy6_b (yy17 kf) yy23 (yy35 kf) (yy59 kf) yy28 K
def yy8_b {R : Type} (v1 : LI) (K : LI → Int → Option R) : Option R :=
    K v1 0
def yy8 {R : Type} (v1 : LI) (K : LI → Int → Option R) : Option R := yy8_b v1 K
def yy11_b {R : Type} (v1 : Int) (v2 : LI) (v3 : Int) (K : Int → LI → Int → Option R) : Option R :=
    bif decide ((v2.length : Int) ≤ v3) then
    (K 0 v2 v3)
    else (gd (decide (0 ≤ (IntKind.i64.wrap ((IntKind.i64.wrap (v3 + 1)) - 1))))
     (gd (decide ((IntKind.i64.wrap ((IntKind.i64.wrap (v3 + 1)) - 1)) < (v2.length : Int)))
      (gd (decide (v1 ≠ 0))
       (let v4 : Int := (Int.tmod (IntKind.i64.wrap (v2.getD (Int.toNat (IntKind.i64.wrap ((IntKind.i64.wrap (v3 + 1)) - 1))) (0 : Int))) v1)
        K v4 v2 (IntKind.i64.wrap (v3 + 1))))))
def yy11 {R : Type} (v1 : Int) (v2 : LI) (v3 : Int) (K : Int → LI → Int → Option R) : Option R := yy11_b v1 v2 v3 K
def yy12_b {R : Type} (v1 : LI) (v2 : Int) (K : Bool → LI → Int → Option R) : Option R :=
    K (decide ((v1.length : Int) ≤ v2)) v1 v2
def yy12 {R : Type} (v1 : LI) (v2 : Int) (K : Bool → LI → Int → Option R) : Option R := yy12_b v1 v2 K
def yy21_l3_b {R : Type} (c_yy17 : LI → (LI → Option R) → Option R) (l_3 : T56 R) (v3 : LB) (v4 : LI) (Ke0 : LI → LI → Option R) (v2 : Int) (v5 : LI) : Option R :=
    bif decide (v2 < 256) then
    (gd (decide (0 ≤ v2))
     (gd (decide (v2 < 256))
      (bif (v3.getD (Int.toNat v2) false) then
       (gd (decide (v5.length + ([(IntKind.u8.wrap v2)] : List Int).length < SMALL))
        (l_3 v3 v4 Ke0 (IntKind.i64.wrap (v2 + 1)) (v5 ++ ([(IntKind.u8.wrap v2)] : List Int))))
       else (l_3 v3 v4 Ke0 (IntKind.i64.wrap (v2 + 1)) v5))))
    else (Ke0 v4 v5)
def yy21_b {R : Type} (c_yy17 : LI → (LI → Option R) → Option R) (l_3 : T56 R) (v1 : LB) (K : LI → Option R) : Option R :=
    l_3 v1 (List.replicate 4 (0 : Int))
    (fun v6 v7 =>
     c_yy17 v7 (fun v8 =>
      K v8)) 0 ([] : List Int)
def yy21_l3 {R : Type} (kf : Nat) : Nat → LB → LI → (LI → LI → Option R) → Int → LI → Option R
  | 0, _, _, _, _, _ => none
  | k + 1, y0, y1, y2, y3, y4 => yy21_l3_b (yy17 kf) (yy21_l3 kf k) y0 y1 y2 y3 y4
def yy21 {R : Type} (kf : Nat) (v1 : LB) (K : LI → Option R) : Option R := yy21_b (yy17 kf) (yy21_l3 kf kf) v1 K
def yy19_l3_b {R : Type} (c_yy21 : LB → (LI → Option R) → Option R) (l_3 : T57 R) (v3 : Int) (v5 : LI) (Ke0 : LI → LB → Option R) (v4 : Int) (v6 : LB) : Option R :=
    bif decide (v4 ≤ (IntKind.i64.wrap v3)) then
    (gd (decide (0 ≤ v4))
     (gd (decide (v4 < 256))
      (l_3 v3 v5 Ke0 (IntKind.i64.wrap (v4 + 1)) (v6.set (Int.toNat v4) true))))
    else (Ke0 v5 v6)
def yy19_b {R : Type} (c_yy21 : LB → (LI → Option R) → Option R) (l_3 : T57 R) (v1 : Int) (v2 : Int) (K : LI → Option R) : Option R :=
    l_3 v2 (List.replicate 4 (0 : Int))
    (fun v7 v8 =>
     c_yy21 v8 (fun v9 =>
      K v9)) (IntKind.i64.wrap v1) (List.replicate 256 false)
def yy19_l3 {R : Type} (kf : Nat) : Nat → Int → LI → (LI → LB → Option R) → Int → LB → Option R
  | 0, _, _, _, _, _ => none
  | k + 1, y0, y1, y2, y3, y4 => yy19_l3_b (yy21 kf) (yy19_l3 kf k) y0 y1 y2 y3 y4
def yy19 {R : Type} (kf : Nat) (v1 : Int) (v2 : Int) (K : LI → Option R) : Option R := yy19_b (yy21 kf) (yy19_l3 kf kf) v1 v2 K
def yy16_l3_b {R : Type} (c_yy14 : T3 R) (c_yy21 : LB → (LI → Option R) → Option R) (l_3 : T58 R) (v3 : LI) (v4 : LI) (Ke0 : LI → LB → Option R) (v2 : Int) (v5 : LB) : Option R :=
    bif decide (v2 < 256) then
    (c_yy14 v3 (IntKind.u8.wrap v2) (fun v6 =>
      gd (decide (0 ≤ v2))
      (gd (decide (v2 < 256))
       (l_3 v3 v4 Ke0 (IntKind.i64.wrap (v2 + 1)) (v5.set (Int.toNat v2) (!v6))))))
    else (Ke0 v4 v5)
def yy16_b {R : Type} (c_yy14 : T3 R) (c_yy21 : LB → (LI → Option R) → Option R) (l_3 : T58 R) (v1 : LI) (K : LI → Option R) : Option R :=
    l_3 v1 (List.replicate 4 (0 : Int))
    (fun v7 v8 =>
     c_yy21 v8 (fun v9 =>
      K v9)) 0 (List.replicate 256 false)
def yy16_l3 {R : Type} (kf : Nat) : Nat → LI → LI → (LI → LB → Option R) → Int → LB → Option R
  | 0, _, _, _, _, _ => none
  | k + 1, y0, y1, y2, y3, y4 => yy16_l3_b yy14 (yy21 kf) (yy16_l3 kf k) y0 y1 y2 y3 y4
def yy16 {R : Type} (kf : Nat) (v1 : LI) (K : LI → Option R) : Option R := yy16_b yy14 (yy21 kf) (yy16_l3 kf kf) v1 K
def yy10_b {R : Type} (c_yy11 : T31 R) (c_yy19 : T18 R) (c_yy17 : LI → (LI → Option R) → Option R) (c_yy16 : LI → (LI → Option R) → Option R) (v1 : LI) (v2 : Int) (K : LI → LI → Int → Option R) : Option R :=
    c_yy11 8 v1 v2 (fun v3 v4 v5 =>
     bif decide (v3 = 0) then
     (c_yy19 97 100 (fun v6 =>
       K v6 v4 v5))
     else (bif decide (v3 = 1) then
      (c_yy11 256 v4 v5 (fun v7 v8 v9 =>
        c_yy11 256 v8 v9 (fun v10 v11 v12 =>
         c_yy19 (IntKind.u8.wrap v7) (IntKind.u8.wrap v10) (fun v13 =>
          K v13 v11 v12))))
      else (bif decide (v3 = 2) then
       (c_yy11 4 v4 v5 (fun v14 v15 v16 =>
         c_yy17 ([(IntKind.u8.wrap (IntKind.i64.wrap (97 + v14)))] : List Int) (fun v17 =>
          c_yy16 v17 (fun v18 =>
           K v18 v15 v16))))
       else (bif decide (v3 = 3) then
        (c_yy11 4 v4 v5 (fun v19 v20 v21 =>
          c_yy11 4 v20 v21 (fun v22 v23 v24 =>
           c_yy11 256 v23 v24 (fun v25 v26 v27 =>
            c_yy17 ([(IntKind.u8.wrap (IntKind.i64.wrap (97 + v19))), (IntKind.u8.wrap (IntKind.i64.wrap (97 + v22))), (IntKind.u8.wrap v25)] : List Int) (fun v28 =>
             K v28 v26 v27)))))
        else (bif decide (v3 = 4) then
         (c_yy19 0 255 (fun v29 =>
           K v29 v4 v5))
         else (c_yy11 4 v4 v5 (fun v30 v31 v32 =>
           c_yy17 ([(IntKind.u8.wrap (IntKind.i64.wrap (97 + v30)))] : List Int) (fun v33 =>
            K v33 v31 v32))))))))
def yy10 {R : Type} (kf : Nat) (v1 : LI) (v2 : Int) (K : LI → LI → Int → Option R) : Option R := yy10_b yy11 (yy19 kf) (yy17 kf) (yy16 kf) v1 v2 K
def yy24_l4_b {R : Type} (c_yy36 : T20 R) (c_yy32 : T0 R) (c_yy26 : T2 R) (c_yy28 : T0 R) (l_4 : T59 R) (v4 : Int) (v5 : LI) (v7 : (List (Rose (Int × (LI × Unit))))) (v8 : (List (Rose (Int × (LI × Unit))))) (Kr : Int → LI → (List (Rose (Int × (LI × Unit)))) → (List (Rose (Int × (LI × Unit)))) → Option R) (Ke0 : Int → LI → (List (Rose (Int × (LI × Unit)))) → (List (Rose (Int × (LI × Unit)))) → Option R) (v3 : Int) (v6 : (List (Rose (Int × (LI × Unit))))) : Option R :=
    bif decide (v3 < (v7.length : Int)) then
    (gd (decide (0 ≤ v3))
     (gd (decide (v3 < (v7.length : Int)))
      (bif decide ((Rose.lab (v7.getD (Int.toNat v3) (Rose.node ((0 : Int), ((List.replicate 4 (0 : Int)), ())) [] : (Rose (Int × (LI × Unit)))))).1 = 1) then
       (c_yy32 (fun v9 v10 v11 =>
         Kr v9 v10 v11 v6))
       else (gd (decide (0 ≤ v3))
        (gd (decide (v3 < (v7.length : Int)))
         (bif (!(decide ((Rose.lab (v7.getD (Int.toNat v3) (Rose.node ((0 : Int), ((List.replicate 4 (0 : Int)), ())) [] : (Rose (Int × (LI × Unit)))))).1 = 2))) then
          (gd (decide (0 ≤ v3))
           (gd (decide (v3 < (v7.length : Int)))
            (c_yy26 ((Rose.lab (v7.getD (Int.toNat v3) (Rose.node ((0 : Int), ((List.replicate 4 (0 : Int)), ())) [] : (Rose (Int × (LI × Unit)))))).1) ((Rose.lab (v7.getD (Int.toNat v3) (Rose.node ((0 : Int), ((List.replicate 4 (0 : Int)), ())) [] : (Rose (Int × (LI × Unit)))))).2.1) (Rose.kids (v7.getD (Int.toNat v3) (Rose.node ((0 : Int), ((List.replicate 4 (0 : Int)), ())) [] : (Rose (Int × (LI × Unit)))))) (fun v12 v13 v14 =>
              gd (decide (v6.length + ([(Rose.node (v12, v13, ()) v14)] : List (Rose (Int × (LI × Unit)))).length < SMALL))
              (l_4 v4 v5 v7 v8 Kr Ke0 (IntKind.i64.wrap (v3 + 1)) (v6 ++ ([(Rose.node (v12, v13, ()) v14)] : List (Rose (Int × (LI × Unit))))))))))
          else (l_4 v4 v5 v7 v8 Kr Ke0 (IntKind.i64.wrap (v3 + 1)) v6)))))))
    else (Ke0 v4 v5 v6 v8)
def yy24_b {R : Type} (c_yy36 : T20 R) (c_yy32 : T0 R) (c_yy26 : T2 R) (c_yy28 : T0 R) (l_4 : T59 R) (v1 : (List (Rose (Int × (LI × Unit))))) (K : T28 R) : Option R :=
    c_yy36 4 v1 (fun v2 =>
     l_4 0 (List.replicate 4 (0 : Int)) v2 ([] : List (Rose (Int × (LI × Unit))))
     (fun v15 v16 v17 v18 =>
      K v15 v16 v17)
     (fun v19 v20 v21 v22 =>
      bif decide ((v21.length : Int) = 0) then
      (c_yy28 (fun v23 v24 v25 =>
        K v23 v24 v25))
      else (bif decide ((v21.length : Int) = 1) then
       (gd (decide (0 < (v21.length : Int)))
        (K ((Rose.lab (v21.getD 0 (Rose.node ((0 : Int), ((List.replicate 4 (0 : Int)), ())) [] : (Rose (Int × (LI × Unit)))))).1) ((Rose.lab (v21.getD 0 (Rose.node ((0 : Int), ((List.replicate 4 (0 : Int)), ())) [] : (Rose (Int × (LI × Unit)))))).2.1) (Rose.kids (v21.getD 0 (Rose.node ((0 : Int), ((List.replicate 4 (0 : Int)), ())) [] : (Rose (Int × (LI × Unit))))))))
       else (K 4 (List.replicate 4 (0 : Int)) v21))) 0 ([] : List (Rose (Int × (LI × Unit)))))
def yy24_l4 {R : Type} (kf : Nat) : Nat → Int → LI → (List (Rose (Int × (LI × Unit)))) → (List (Rose (Int × (LI × Unit)))) → (Int → LI → (List (Rose (Int × (LI × Unit)))) → (List (Rose (Int × (LI × Unit)))) → Option R) → (Int → LI → (List (Rose (Int × (LI × Unit)))) → (List (Rose (Int × (LI × Unit)))) → Option R) → Int → (List (Rose (Int × (LI × Unit)))) → Option R
  | 0, _, _, _, _, _, _, _, _ => none
  | k + 1, y0, y1, y2, y3, y4, y5, y6, y7 => yy24_l4_b (yy36 kf) yy32 (yy26 kf) yy28 (yy24_l4 kf k) y0 y1 y2 y3 y4 y5 y6 y7
def yy24 {R : Type} (kf : Nat) (v1 : (List (Rose (Int × (LI × Unit))))) (K : T28 R) : Option R := yy24_b (yy36 kf) yy32 (yy26 kf) yy28 (yy24_l4 kf kf) v1 K
def yy13_b {R : Type} (c_yy11 : T31 R) (c_yy12 : T60 R) (c_yy10 : T61 R) (c_yy23 : T11 R) (c_yy32 : T0 R) (c_yy28 : T0 R) (c_yy13 : T32 R) (c_yy24 : T1 R) (c_yy22 : T1 R) (c_yy35 : T2 R) (v1 : Int) (v2 : LI) (v3 : Int) (K : T77 R) : Option R :=
    c_yy11 9 v2 v3 (fun v4 v5 v6 =>
     let j60 : Bool → LI → Int → Option R := fun v7 v8 v9 =>
     (bif v7 then
      (let j28 : Bool → LI → Int → Option R := fun v10 v11 v12 =>
       (bif v10 then
        (c_yy10 v11 v12 (fun v13 v14 v15 =>
          c_yy23 v13 (fun v16 v17 v18 =>
           K v16 v17 v18 v14 v15)))
        else (c_yy11 3 v11 v12 (fun v19 v20 v21 =>
          bif decide (v19 = 0) then
          (c_yy32 (fun v22 v23 v24 =>
            K v22 v23 v24 v20 v21))
          else (c_yy28 (fun v25 v26 v27 =>
            K v25 v26 v27 v20 v21)))))
       (c_yy12 v8 v9 (fun v29 v30 v31 =>
         bif v29 then
         (j28 true v30 v31)
         else (j28 (decide (0 < v4)) v30 v31))))
      else (c_yy13 (IntKind.i64.wrap (v1 + 1)) v8 v9 (fun v32 v33 v34 v35 v36 =>
        let j59 : Bool → Option R := fun v37 =>
        (bif v37 then
         (c_yy13 (IntKind.i64.wrap (v1 + 1)) v35 v36 (fun v38 v39 v40 v41 v42 =>
           c_yy24 ([(Rose.node (v32, v33, ()) v34), (Rose.node (v38, v39, ()) v40)] : List (Rose (Int × (LI × Unit)))) (fun v43 v44 v45 =>
            K v43 v44 v45 v41 v42)))
         else (let j58 : Bool → Option R := fun v46 =>
          (bif v46 then
           (c_yy13 (IntKind.i64.wrap (v1 + 1)) v35 v36 (fun v47 v48 v49 v50 v51 =>
             c_yy22 ([(Rose.node (v32, v33, ()) v34), (Rose.node (v47, v48, ()) v49)] : List (Rose (Int × (LI × Unit)))) (fun v52 v53 v54 =>
              K v52 v53 v54 v50 v51)))
           else (c_yy35 v32 v33 v34 (fun v55 v56 v57 =>
             K v55 v56 v57 v35 v36)))
          (bif decide (v4 = 6) then
           (j58 (decide (v4 = 6)))
           else (j58 (decide (v4 = 7))))))
        (bif decide (v4 = 3) then
         (j59 (decide (v4 = 3)))
         else (bif decide (v4 = 4) then
          (j59 (decide (v4 = 4)))
          else (j59 (decide (v4 = 5))))))))
     (c_yy12 v5 v6 (fun v61 v62 v63 =>
       bif v61 then
       (j60 true v62 v63)
       else (bif decide (8 < v1) then
        (j60 true v62 v63)
        else (j60 (decide (v4 < 3)) v62 v63)))))
def yy13 {R : Type} : Nat → Int → LI → Int → (Int → LI → (List (Rose (Int × (LI × Unit)))) → LI → Int → Option R) → Option R
  | 0, _, _, _, _ => none
  | kf + 1, y0, y1, y2, y3 => yy13_b yy11 yy12 (yy10 kf) yy23 yy32 yy28 (yy13 kf) (yy24 kf) (yy22 kf) (yy35 kf) y0 y1 y2 y3
def yy9_b {R : Type} (c_yy13 : T32 R) (v1 : LI) (v2 : Int) (K : T77 R) : Option R :=
    c_yy13 0 v1 v2 (fun v3 v4 v5 v6 v7 =>
     K v3 v4 v5 v6 v7)
def yy9 {R : Type} (kf : Nat) (v1 : LI) (v2 : Int) (K : T77 R) : Option R := yy9_b (yy13 kf) v1 v2 K
def yy49_b {R : Type} (v1 : LI) (v2 : Int) (v3 : Int) (v4 : Int) (v5 : Bool) (K : T75 R) : Option R :=
    bif decide (0 ≤ v4) then
    (K true v1 v2 v3 v4 v5)
    else (K v5 v1 v2 v3 v4 v5)
def yy49 {R : Type} (v1 : LI) (v2 : Int) (v3 : Int) (v4 : Int) (v5 : Bool) (K : T75 R) : Option R := yy49_b v1 v2 v3 v4 v5 K
def yy48_b {R : Type} (v1 : LI) (v2 : Int) (v3 : Int) (v4 : Int) (v5 : Bool) (K : Int → Bool → LI → Int → Int → Int → Bool → Option R) : Option R :=
    bif decide (v2 < (v1.length : Int)) then
    (gd (decide (0 ≤ v2))
     (gd (decide (v2 < (v1.length : Int)))
      (K (v1.getD (Int.toNat v2) 0) true v1 v2 v3 v4 v5)))
    else (K 0 false v1 v2 v3 v4 v5)
def yy48 {R : Type} (v1 : LI) (v2 : Int) (v3 : Int) (v4 : Int) (v5 : Bool) (K : Int → Bool → LI → Int → Int → Int → Bool → Option R) : Option R := yy48_b v1 v2 v3 v4 v5 K
def yy46_b {R : Type} (c_yy48 : T12 R) (v1 : Int) (v2 : LI) (v3 : Int) (v4 : Int) (v5 : Int) (v6 : Bool) (K : T75 R) : Option R :=
    c_yy48 v2 v3 v4 v5 v6 (fun v7 v8 v9 v10 v11 v12 v13 =>
     bif v8 then
     (K (decide (v7 = v1)) v9 v10 v11 v12 v13)
     else (K false v9 v10 v11 v12 v13))
def yy46 {R : Type} (v1 : Int) (v2 : LI) (v3 : Int) (v4 : Int) (v5 : Int) (v6 : Bool) (K : T75 R) : Option R := yy46_b yy48 v1 v2 v3 v4 v5 v6 K
def yy40_l2_b {R : Type} (l_2 : T62 R) (v3 : LI) (v4 : Int) (Kr : Bool → Option R) (Ke0 : Option R) (v5 : Int) : Option R :=
    bif decide (v5 < (v3.length : Int)) then
    (gd (decide (0 ≤ v5))
     (gd (decide (v5 < (v3.length : Int)))
      (bif decide ((v3.getD (Int.toNat v5) 0) = v4) then
       (Kr true)
       else (l_2 v3 v4 Kr Ke0 (IntKind.i64.wrap (v5 + 1))))))
    else (Ke0)
def yy40_b {R : Type} (l_2 : T62 R) (v1 : LI) (v2 : Int) (K : Bool → Option R) : Option R :=
    l_2 v1 v2
    (fun v6 =>
     K v6)
    (K false) 0
def yy40_l2 {R : Type} (kf : Nat) : Nat → LI → Int → (Bool → Option R) → (Option R) → Int → Option R
  | 0, _, _, _, _, _ => none
  | k + 1, y0, y1, y2, y3, y4 => yy40_l2_b (yy40_l2 kf k) y0 y1 y2 y3 y4
def yy40 {R : Type} (kf : Nat) (v1 : LI) (v2 : Int) (K : Bool → Option R) : Option R := yy40_b (yy40_l2 kf kf) v1 v2 K
def yy45_b {R : Type} (c_yy49 : T7 R) (v1 : Int) (v2 : LI) (v3 : Int) (v4 : Int) (v5 : Int) (v6 : Bool) (K : LI → Int → Int → Int → Bool → Option R) : Option R :=
    c_yy49 v2 v3 v4 v5 v6 (fun v7 v8 v9 v10 v11 v12 =>
     bif (!v7) then
     (K v8 v9 v10 v1 v12)
     else (K v8 v9 v10 v11 v12))
def yy45 {R : Type} (v1 : Int) (v2 : LI) (v3 : Int) (v4 : Int) (v5 : Int) (v6 : Bool) (K : LI → Int → Int → Int → Bool → Option R) : Option R := yy45_b yy49 v1 v2 v3 v4 v5 v6 K
def yy39_b {R : Type} (v1 : Int) (K : Int → Option R) : Option R :=
    let j6 : Bool → Option R := fun v2 =>
    (bif v2 then
     (K (IntKind.i64.wrap (IntKind.u8.wrap (v1 - 48))))
     else (let j5 : Bool → Option R := fun v3 =>
      (bif v3 then
       (let v4 : Int := (IntKind.i64.wrap ((IntKind.i64.wrap (IntKind.u8.wrap (v1 - 97))) + 10))
        K v4)
       else (K (-1)))
      (bif decide (97 ≤ v1) then
       (j5 (decide (v1 ≤ 102)))
       else (j5 false))))
    (bif decide (48 ≤ v1) then
     (j6 (decide (v1 ≤ 57)))
     else (j6 false))
def yy39 {R : Type} (v1 : Int) (K : Int → Option R) : Option R := yy39_b v1 K
def yy44_l11_b {R : Type} (c_yy48 : T12 R) (c_yy40 : T3 R) (c_yy45 : T13 R) (c_yy39 : Int → (Int → Option R) → Option R) (l_11 : T63 R) (Kr : Int → Int → LI → Int → Int → Int → Bool → Option R) (Ke0 : Int → LI → Int → Int → Int → Bool → Option R) (v20 : Int) (v21 : Int) (v22 : LI) (v23 : Int) (v24 : Int) (v25 : Int) (v26 : Bool) : Option R :=
    bif decide (v21 < 2) then
    (c_yy48 v22 (IntKind.i64.wrap (v23 + 1)) v24 v25 v26 (fun v27 v28 v29 v30 v31 v32 v33 =>
      let j41 : Bool → Option R := fun v34 =>
      (bif v34 then
       (c_yy45 v30 v29 v30 v31 v32 v33 (fun v35 v36 v37 v38 v39 =>
         Kr 0 v20 v35 v36 v37 v38 v39))
       else (c_yy39 v27 (fun v40 =>
         l_11 Kr Ke0 (IntKind.i64.wrap ((IntKind.i64.wrap (mulZ v20 16)) + v40)) (IntKind.i64.wrap (v21 + 1)) v29 v30 v31 v32 v33)))
      (bif (!v28) then
       (j41 true)
       else (c_yy39 v27 (fun v42 =>
         j41 (decide (v42 < 0)))))))
    else (Ke0 v20 v22 v23 v24 v25 v26)
def yy44_b {R : Type} (c_yy48 : T12 R) (c_yy40 : T3 R) (c_yy45 : T13 R) (c_yy39 : Int → (Int → Option R) → Option R) (l_11 : T63 R) (v1 : LI) (v2 : Int) (v3 : Int) (v4 : Int) (v5 : Bool) (K : T76 R) : Option R :=
    c_yy48 v1 (IntKind.i64.wrap (v2 + 1)) v3 v4 v5 (fun v6 v7 v8 v9 v10 v11 v12 =>
     let j57 : Bool → Option R := fun v13 =>
     (bif v13 then
      (K v6 v8 (IntKind.i64.wrap (v9 + 1)) v10 v11 v12)
      else (let j56 : Bool → Option R := fun v14 =>
       (bif v14 then
        (c_yy45 v9 v8 v9 v10 v11 v12 (fun v15 v16 v17 v18 v19 =>
          K 0 v15 v16 v17 v18 v19))
        else (l_11
         (fun v43 v44 v45 v46 v47 v48 v49 =>
          K v43 v45 v46 v47 v48 v49)
         (fun v50 v51 v52 v53 v54 v55 =>
          K (IntKind.u8.wrap v50) v51 (IntKind.i64.wrap (v52 + 1)) v53 v54 v55) 0 0 v8 v9 v10 v11 v12))
       (bif (!v7) then
        (j56 true)
        else (j56 (!(decide (v6 = 120)))))))
     (bif v7 then
      (c_yy40 ([92, 124, 42, 43, 63, 40, 41, 91, 93, 94, 45, 46]) v6 (fun v58 =>
        j57 v58))
      else (j57 false)))
def yy44_l11 {R : Type} (kf : Nat) : Nat → (Int → Int → LI → Int → Int → Int → Bool → Option R) → (Int → LI → Int → Int → Int → Bool → Option R) → Int → Int → LI → Int → Int → Int → Bool → Option R
  | 0, _, _, _, _, _, _, _, _, _ => none
  | k + 1, y0, y1, y2, y3, y4, y5, y6, y7, y8 => yy44_l11_b yy48 (yy40 kf) yy45 yy39 (yy44_l11 kf k) y0 y1 y2 y3 y4 y5 y6 y7 y8
def yy44 {R : Type} (kf : Nat) (v1 : LI) (v2 : Int) (v3 : Int) (v4 : Int) (v5 : Bool) (K : T76 R) : Option R := yy44_b yy48 (yy40 kf) yy45 yy39 (yy44_l11 kf kf) v1 v2 v3 v4 v5 K
def yy51_b {R : Type} (c_yy48 : T12 R) (c_yy44 : T64 R) (c_yy40 : T3 R) (c_yy45 : T13 R) (v1 : Bool) (v2 : LI) (v3 : Int) (v4 : Int) (v5 : Int) (v6 : Bool) (K : T76 R) : Option R :=
    c_yy48 v2 v3 v4 v5 v6 (fun v7 v8 v9 v10 v11 v12 v13 =>
     let j29 : Bool → Option R := fun v14 =>
     (bif v14 then
      (c_yy44 v9 v10 v11 v12 v13 (fun v15 v16 v17 v18 v19 v20 =>
        K v15 v16 v17 v18 v19 v20))
      else (let j27 : Bool → Option R := fun v21 =>
       (bif v21 then
        (c_yy45 v10 v9 v10 v11 v12 v13 (fun v22 v23 v24 v25 v26 =>
          K 0 v22 v23 v24 v25 v26))
        else (K v7 v9 (IntKind.i64.wrap (v10 + 1)) v11 v12 v13))
       (bif (!v8) then
        (j27 true)
        else (bif decide (v7 < 32) then
         (j27 true)
         else (bif decide (126 < v7) then
          (j27 true)
          else (c_yy40 ([92, 124, 42, 43, 63, 40, 41, 91, 93, 46]) v7 (fun v28 =>
            bif v28 then
            (j27 true)
            else (bif v1 then
             (bif decide (v7 = 94) then
              (j27 true)
              else (j27 (decide (v7 = 45))))
             else (j27 false)))))))))
     (bif v8 then
      (j29 (decide (v7 = 92)))
      else (j29 false)))
def yy51 {R : Type} (kf : Nat) (v1 : Bool) (v2 : LI) (v3 : Int) (v4 : Int) (v5 : Int) (v6 : Bool) (K : T76 R) : Option R := yy51_b yy48 (yy44 kf) (yy40 kf) yy45 v1 v2 v3 v4 v5 v6 K
def yy43_l6_b {R : Type} (c_yy46 : T14 R) (c_yy49 : T7 R) (c_yy51 : T27 R) (c_yy45 : T13 R) (c_yy19 : T18 R) (c_yy18 : T21 R) (c_yy16 : LI → (LI → Option R) → Option R) (c_yy23 : T11 R) (l_6 : T65 R) (v13 : Bool) (v19 : Int) (v20 : LI) (v22 : (List (Rose (Int × (LI × Unit))))) (Ke0 : Bool → LI → Int → Int → Int → Bool → Int → LI → LI → (List (Rose (Int × (LI × Unit)))) → Option R) (v14 : LI) (v15 : Int) (v16 : Int) (v17 : Int) (v18 : Bool) (v21 : LI) : Option R :=
    c_yy49 v14 v15 v16 v17 v18 (fun v23 v24 v25 v26 v27 v28 =>
     bif (!v23) then
     (c_yy46 93 v24 v25 v26 v27 v28 (fun v29 v30 v31 v32 v33 v34 =>
       bif (!v29) then
       (c_yy51 true v30 v31 v32 v33 v34 (fun v35 v36 v37 v38 v39 v40 =>
         let j49 : Int → LI → Int → Int → Int → Bool → Option R := fun v41 v42 v43 v44 v45 v46 =>
         (c_yy19 v35 v41 (fun v47 =>
           c_yy18 v21 v47 (fun v48 =>
            l_6 v13 v19 v20 v22 Ke0 v42 v43 v44 v45 v46 v48)))
         (let j67 : Bool → LI → Int → Int → Int → Bool → Option R := fun v50 v51 v52 v53 v54 v55 =>
          (bif v50 then
           (c_yy51 true v51 (IntKind.i64.wrap (v52 + 1)) v53 v54 v55 (fun v56 v57 v58 v59 v60 v61 =>
             bif decide (v56 < v35) then
             (c_yy45 (IntKind.i64.wrap (v52 + 1)) v57 v58 v59 v60 v61 (fun v62 v63 v64 v65 v66 =>
               j49 v56 v62 v63 v64 v65 v66))
             else (j49 v56 v57 v58 v59 v60 v61)))
           else (j49 v35 v51 v52 v53 v54 v55))
          (c_yy49 v36 v37 v38 v39 v40 (fun v68 v69 v70 v71 v72 v73 =>
            bif (!v68) then
            (c_yy46 45 v69 v70 v71 v72 v73 (fun v74 v75 v76 v77 v78 v79 =>
              j67 v74 v75 v76 v77 v78 v79))
            else (j67 false v69 v70 v71 v72 v73))))))
       else (Ke0 v13 v30 v31 v32 v33 v34 v19 v20 v21 v22)))
     else (Ke0 v13 v24 v25 v26 v27 v28 v19 v20 v21 v22))
def yy43_b {R : Type} (c_yy46 : T14 R) (c_yy49 : T7 R) (c_yy51 : T27 R) (c_yy45 : T13 R) (c_yy19 : T18 R) (c_yy18 : T21 R) (c_yy16 : LI → (LI → Option R) → Option R) (c_yy23 : T11 R) (l_6 : T65 R) (v1 : LI) (v2 : Int) (v3 : Int) (v4 : Int) (v5 : Bool) (K : Int → LI → LI → Int → Int → Int → Bool → (List (Rose (Int × (LI × Unit)))) → Option R) : Option R :=
    c_yy46 94 v1 (IntKind.i64.wrap (v2 + 1)) v3 v4 v5 (fun v6 v7 v8 v9 v10 v11 =>
     let j96 : Int → Option R := fun v12 =>
     (l_6 v6 0 (List.replicate 4 (0 : Int)) ([] : List (Rose (Int × (LI × Unit))))
      (fun v80 v81 v82 v83 v84 v85 v86 v87 v88 v89 =>
       let j94 : LI → Option R := fun v90 =>
       (c_yy23 v90 (fun v91 v92 v93 =>
         K v91 v92 v81 (IntKind.i64.wrap (v82 + 1)) v83 v84 v85 v93))
       (bif v80 then
        (c_yy16 v88 (fun v95 =>
          j94 v95))
        else (j94 v88))) v7 v12 v9 v10 v11 (List.replicate 4 (0 : Int)))
     (bif v6 then
      (j96 (IntKind.i64.wrap (v8 + 1)))
      else (j96 v8)))
def yy43_l6 {R : Type} (kf : Nat) : Nat → Bool → Int → LI → (List (Rose (Int × (LI × Unit)))) → (Bool → LI → Int → Int → Int → Bool → Int → LI → LI → (List (Rose (Int × (LI × Unit)))) → Option R) → LI → Int → Int → Int → Bool → LI → Option R
  | 0, _, _, _, _, _, _, _, _, _, _, _ => none
  | k + 1, y0, y1, y2, y3, y4, y5, y6, y7, y8, y9, y10 => yy43_l6_b yy46 yy49 (yy51 kf) yy45 (yy19 kf) (yy18 kf) (yy16 kf) yy23 (yy43_l6 kf k) y0 y1 y2 y3 y4 y5 y6 y7 y8 y9 y10
def yy43 {R : Type} (kf : Nat) (v1 : LI) (v2 : Int) (v3 : Int) (v4 : Int) (v5 : Bool) (K : Int → LI → LI → Int → Int → Int → Bool → (List (Rose (Int × (LI × Unit)))) → Option R) : Option R := yy43_b yy46 yy49 (yy51 kf) yy45 (yy19 kf) (yy18 kf) (yy16 kf) yy23 (yy43_l6 kf kf) v1 v2 v3 v4 v5 K
def yy42_b {R : Type} (c_yy48 : T12 R) (c_yy43 : T66 R) (c_yy19 : T18 R) (c_yy23 : T11 R) (c_yy51 : T27 R) (c_yy17 : LI → (LI → Option R) → Option R) (c_yy49 : T7 R) (c_yy32 : T0 R) (c_yy41 : T5 R) (c_yy46 : T14 R) (c_yy45 : T13 R) (v1 : LI) (v2 : Int) (v3 : Int) (v4 : Int) (v5 : Bool) (K : T67 R) : Option R :=
    c_yy48 v1 v2 v3 v4 v5 (fun v6 v7 v8 v9 v10 v11 v12 =>
     let j93 : Bool → Option R := fun v13 =>
     (bif v13 then
      (c_yy43 v8 v9 v10 v11 v12 (fun v14 v15 v16 v17 v18 v19 v20 v21 =>
        K v14 v15 v21 v16 v17 v18 v19 v20))
      else (let j92 : Bool → Option R := fun v22 =>
       (bif v22 then
        (c_yy19 0 255 (fun v23 =>
          c_yy23 v23 (fun v24 v25 v26 =>
           K v24 v25 v26 v8 (IntKind.i64.wrap (v9 + 1)) v10 v11 v12)))
        else (let j91 : Bool → Option R := fun v27 =>
         (bif v27 then
          (c_yy51 false v8 v9 v10 v11 v12 (fun v28 v29 v30 v31 v32 v33 =>
            c_yy17 ([v28] : List Int) (fun v34 =>
             c_yy23 v34 (fun v35 v36 v37 =>
              K v35 v36 v37 v29 v30 v31 v32 v33))))
          else (let j77 : LI → Int → Int → Int → Bool → Option R := fun v38 v39 v40 v41 v42 =>
           (c_yy49 v38 v39 v40 v41 v42 (fun v43 v44 v45 v46 v47 v48 =>
             bif v43 then
             (c_yy32 (fun v49 v50 v51 =>
               K v49 v50 v51 v44 v45 v46 v47 v48))
             else (c_yy41 v44 (IntKind.i64.wrap (v45 + 1)) v46 v47 v48 (fun v52 v53 v54 v55 v56 v57 v58 v59 =>
               let j65 : LI → Int → Int → Int → Bool → Option R := fun v60 v61 v62 v63 v64 =>
               (K v52 v53 v54 v60 (IntKind.i64.wrap (v61 + 1)) (IntKind.i64.wrap (v62 - 1)) v63 v64)
               (c_yy46 41 v55 v56 v57 v58 v59 (fun v66 v67 v68 v69 v70 v71 =>
                 bif (!v66) then
                 (c_yy45 v68 v67 v68 v69 v70 v71 (fun v72 v73 v74 v75 v76 =>
                   j65 v72 v73 v74 v75 v76))
                 else (j65 v67 v68 v69 v70 v71)))))))
           (let j84 : Bool → LI → Int → Int → Int → Bool → Option R := fun v78 v79 v80 v81 v82 v83 =>
            (bif v78 then
             (j77 v79 v80 v81 v82 true)
             else (j77 v79 v80 v81 v82 v83))
            (bif decide (30 < (IntKind.i64.wrap (v10 + 1))) then
             (c_yy49 v8 v9 (IntKind.i64.wrap (v10 + 1)) v11 v12 (fun v85 v86 v87 v88 v89 v90 =>
               j84 (!v85) v86 v87 v88 v89 v90))
             else (j84 false v8 v9 (IntKind.i64.wrap (v10 + 1)) v11 v12)))))
         (bif (!v7) then
          (j91 true)
          else (j91 (!(decide (v6 = 40)))))))
       (bif v7 then
        (j92 (decide (v6 = 46)))
        else (j92 false))))
     (bif v7 then
      (j93 (decide (v6 = 91)))
      else (j93 false)))
def yy42 {R : Type} (c_yy41 : T5 R) (kf : Nat) (v1 : LI) (v2 : Int) (v3 : Int) (v4 : Int) (v5 : Bool) (K : T67 R) : Option R := yy42_b yy48 (yy43 kf) (yy19 kf) yy23 (yy51 kf) (yy17 kf) yy49 yy32 c_yy41 yy46 yy45 v1 v2 v3 v4 v5 K
def yy31_l3_b {R : Type} (c_yy31 : T8 R) (l_3 : T26 R) (v8 : (List (Rose (Int × (LI × Unit))))) (Ke0 : Int → Option R) (v4 : Int) (v5 : Int) : Option R :=
    bif decide (v5 < (v8.length : Int)) then
    (gd (decide (0 ≤ v5))
     (gd (decide (v5 < (v8.length : Int)))
      (c_yy31 ((Rose.lab (v8.getD (Int.toNat v5) (Rose.node ((0 : Int), ((List.replicate 4 (0 : Int)), ())) [] : (Rose (Int × (LI × Unit)))))).1) ((Rose.lab (v8.getD (Int.toNat v5) (Rose.node ((0 : Int), ((List.replicate 4 (0 : Int)), ())) [] : (Rose (Int × (LI × Unit)))))).2.1) (Rose.kids (v8.getD (Int.toNat v5) (Rose.node ((0 : Int), ((List.replicate 4 (0 : Int)), ())) [] : (Rose (Int × (LI × Unit)))))) (fun v9 =>
        l_3 v8 Ke0 (IntKind.i64.wrap (v4 + v9)) (IntKind.i64.wrap (v5 + 1))))))
    else (Ke0 v4)
def yy31_b {R : Type} (c_yy31 : T8 R) (l_3 : T26 R) (v1 : Int) (v2 : LI) (v3 : (List (Rose (Int × (LI × Unit))))) (K : Int → Option R) : Option R :=
    l_3 v3
    (fun v10 =>
     K v10) 1 0
def yy31_l3 {R : Type} (c_self : T8 R) (kf : Nat) : Nat → (List (Rose (Int × (LI × Unit)))) → (Int → Option R) → Int → Int → Option R
  | 0, _, _, _, _ => none
  | k + 1, y0, y1, y2, y3 => yy31_l3_b c_self (yy31_l3 c_self kf k) y0 y1 y2 y3
def yy31 {R : Type} : Nat → Int → LI → (List (Rose (Int × (LI × Unit)))) → (Int → Option R) → Option R
  | 0, _, _, _, _ => none
  | kf + 1, y0, y1, y2, y3 => yy31_b (yy31 kf) (yy31_l3 (yy31 kf) kf kf) y0 y1 y2 y3
def yy27_l3_b {R : Type} (c_yy27 : T8 R) (l_3 : T26 R) (v8 : (List (Rose (Int × (LI × Unit))))) (Ke0 : Int → Option R) (v4 : Int) (v5 : Int) : Option R :=
    bif decide (v5 < (v8.length : Int)) then
    (gd (decide (0 ≤ v5))
     (gd (decide (v5 < (v8.length : Int)))
      (c_yy27 ((Rose.lab (v8.getD (Int.toNat v5) (Rose.node ((0 : Int), ((List.replicate 4 (0 : Int)), ())) [] : (Rose (Int × (LI × Unit)))))).1) ((Rose.lab (v8.getD (Int.toNat v5) (Rose.node ((0 : Int), ((List.replicate 4 (0 : Int)), ())) [] : (Rose (Int × (LI × Unit)))))).2.1) (Rose.kids (v8.getD (Int.toNat v5) (Rose.node ((0 : Int), ((List.replicate 4 (0 : Int)), ())) [] : (Rose (Int × (LI × Unit)))))) (fun v9 =>
        l_3 v8 Ke0 (mx v4 v9) (IntKind.i64.wrap (v5 + 1))))))
    else (Ke0 v4)
def yy27_b {R : Type} (c_yy27 : T8 R) (l_3 : T26 R) (v1 : Int) (v2 : LI) (v3 : (List (Rose (Int × (LI × Unit))))) (K : Int → Option R) : Option R :=
    l_3 v3
    (fun v10 =>
     K (IntKind.i64.wrap (v10 + 1))) 0 0
def yy27_l3 {R : Type} (c_self : T8 R) (kf : Nat) : Nat → (List (Rose (Int × (LI × Unit)))) → (Int → Option R) → Int → Int → Option R
  | 0, _, _, _, _ => none
  | k + 1, y0, y1, y2, y3 => yy27_l3_b c_self (yy27_l3 c_self kf k) y0 y1 y2 y3
def yy27 {R : Type} : Nat → Int → LI → (List (Rose (Int × (LI × Unit)))) → (Int → Option R) → Option R
  | 0, _, _, _, _ => none
  | kf + 1, y0, y1, y2, y3 => yy27_b (yy27 kf) (yy27_l3 (yy27 kf) kf kf) y0 y1 y2 y3
def yy34_l4_b {R : Type} (c_yy34 : T10 R) (l_4 : T68 R) (v11 : (List (Rose (Int × (LI × Unit))))) (v14 : (List (Rose (Int × (LI × Unit))))) (Kr : Bool → Option R) (Ke0 : Option R) (v8 : Int) : Option R :=
    bif decide (v8 < (v11.length : Int)) then
    (gd (decide (0 ≤ v8))
     (gd (decide (v8 < (v11.length : Int)))
      (gd (decide (0 ≤ v8))
       (gd (decide (v8 < (v14.length : Int)))
        (c_yy34 ((Rose.lab (v11.getD (Int.toNat v8) (Rose.node ((0 : Int), ((List.replicate 4 (0 : Int)), ())) [] : (Rose (Int × (LI × Unit)))))).1) ((Rose.lab (v11.getD (Int.toNat v8) (Rose.node ((0 : Int), ((List.replicate 4 (0 : Int)), ())) [] : (Rose (Int × (LI × Unit)))))).2.1) (Rose.kids (v11.getD (Int.toNat v8) (Rose.node ((0 : Int), ((List.replicate 4 (0 : Int)), ())) [] : (Rose (Int × (LI × Unit)))))) ((Rose.lab (v14.getD (Int.toNat v8) (Rose.node ((0 : Int), ((List.replicate 4 (0 : Int)), ())) [] : (Rose (Int × (LI × Unit)))))).1) ((Rose.lab (v14.getD (Int.toNat v8) (Rose.node ((0 : Int), ((List.replicate 4 (0 : Int)), ())) [] : (Rose (Int × (LI × Unit)))))).2.1) (Rose.kids (v14.getD (Int.toNat v8) (Rose.node ((0 : Int), ((List.replicate 4 (0 : Int)), ())) [] : (Rose (Int × (LI × Unit)))))) (fun v15 =>
          bif (!v15) then
          (Kr false)
          else (l_4 v11 v14 Kr Ke0 (IntKind.i64.wrap (v8 + 1)))))))))
    else (Ke0)
def yy34_b {R : Type} (c_yy34 : T10 R) (l_4 : T68 R) (v1 : Int) (v2 : LI) (v3 : (List (Rose (Int × (LI × Unit))))) (v4 : Int) (v5 : LI) (v6 : (List (Rose (Int × (LI × Unit))))) (K : Bool → Option R) : Option R :=
    let j17 : Bool → Option R := fun v7 =>
    (bif v7 then
     (K false)
     else (l_4 v3 v6
      (fun v16 =>
       K v16)
      (K true) 0))
    (bif (!(decide (v1 = v4))) then
     (j17 true)
     else (bif (!(decide (v2 = v5))) then
      (j17 true)
      else (j17 (!(decide ((v3.length : Int) = (v6.length : Int)))))))
def yy34_l4 {R : Type} (c_self : T10 R) (kf : Nat) : Nat → (List (Rose (Int × (LI × Unit)))) → (List (Rose (Int × (LI × Unit)))) → (Bool → Option R) → (Option R) → Int → Option R
  | 0, _, _, _, _, _ => none
  | k + 1, y0, y1, y2, y3, y4 => yy34_l4_b c_self (yy34_l4 c_self kf k) y0 y1 y2 y3 y4
def yy34 {R : Type} : Nat → Int → LI → (List (Rose (Int × (LI × Unit)))) → Int → LI → (List (Rose (Int × (LI × Unit)))) → (Bool → Option R) → Option R
  | 0, _, _, _, _, _, _, _ => none
  | kf + 1, y0, y1, y2, y3, y4, y5, y6 => yy34_b (yy34 kf) (yy34_l4 (yy34 kf) kf kf) y0 y1 y2 y3 y4 y5 y6
def yy33_l2_b {R : Type} (c_yy33 : T4 R) (c_yy24 : T1 R) (c_yy34 : T10 R) (c_yy22 : T1 R) (l_2 : T69 R) (v5 : Int) (v6 : LI) (v7 : (List (Rose (Int × (LI × Unit))))) (Kr : Bool → Int → LI → (List (Rose (Int × (LI × Unit)))) → Option R) (Ke0 : Int → LI → (List (Rose (Int × (LI × Unit)))) → Option R) (v4 : Int) : Option R :=
    bif decide (v4 < (v7.length : Int)) then
    (gd (decide (0 ≤ v4))
     (gd (decide (v4 < (v7.length : Int)))
      (c_yy33 ((Rose.lab (v7.getD (Int.toNat v4) (Rose.node ((0 : Int), ((List.replicate 4 (0 : Int)), ())) [] : (Rose (Int × (LI × Unit)))))).1) ((Rose.lab (v7.getD (Int.toNat v4) (Rose.node ((0 : Int), ((List.replicate 4 (0 : Int)), ())) [] : (Rose (Int × (LI × Unit)))))).2.1) (Rose.kids (v7.getD (Int.toNat v4) (Rose.node ((0 : Int), ((List.replicate 4 (0 : Int)), ())) [] : (Rose (Int × (LI × Unit)))))) (fun v8 =>
        bif (!v8) then
        (Kr false v5 v6 v7)
        else (l_2 v5 v6 v7 Kr Ke0 (IntKind.i64.wrap (v4 + 1)))))))
    else (Ke0 v5 v6 v7)
def yy33_b {R : Type} (c_yy33 : T4 R) (c_yy24 : T1 R) (c_yy34 : T10 R) (c_yy22 : T1 R) (l_2 : T69 R) (v1 : Int) (v2 : LI) (v3 : (List (Rose (Int × (LI × Unit))))) (K : Bool → Option R) : Option R :=
    l_2 v1 v2 v3
    (fun v9 v10 v11 v12 =>
     K v9)
    (fun v13 v14 v15 =>
     let j25 : Bool → Option R := fun v16 =>
     (bif v16 then
      (bif decide ((v15.length : Int) = 0) then
       (K (decide (v14 = (List.replicate 4 (0 : Int)))))
       else (K false))
      else (bif decide (v13 = 3) then
       (bif decide ((v15.length : Int) = 0) then
        (K (!(decide (v14 = (List.replicate 4 (0 : Int))))))
        else (K false))
       else (bif decide (v13 = 4) then
        (bif decide (v14 = (List.replicate 4 (0 : Int))) then
         (bif decide (1 < (v15.length : Int)) then
          (c_yy24 v15 (fun v17 v18 v19 =>
            c_yy34 v17 v18 v19 v13 v14 v15 (fun v20 =>
             K v20)))
          else (K false))
         else (K false))
        else (bif decide (v13 = 5) then
         (bif decide (v14 = (List.replicate 4 (0 : Int))) then
          (bif decide (1 < (v15.length : Int)) then
           (c_yy22 v15 (fun v21 v22 v23 =>
             c_yy34 v21 v22 v23 v13 v14 v15 (fun v24 =>
              K v24)))
           else (K false))
          else (K false))
         else (bif decide (v13 = 6) then
          (bif decide (v14 = (List.replicate 4 (0 : Int))) then
           (bif decide ((v15.length : Int) = 1) then
            (gd (decide (0 < (v15.length : Int)))
             (bif (!(decide ((Rose.lab (v15.getD 0 (Rose.node ((0 : Int), ((List.replicate 4 (0 : Int)), ())) [] : (Rose (Int × (LI × Unit)))))).1 = 6))) then
              (gd (decide (0 < (v15.length : Int)))
               (bif (!(decide ((Rose.lab (v15.getD 0 (Rose.node ((0 : Int), ((List.replicate 4 (0 : Int)), ())) [] : (Rose (Int × (LI × Unit)))))).1 = 2))) then
                (gd (decide (0 < (v15.length : Int)))
                 (K (!(decide ((Rose.lab (v15.getD 0 (Rose.node ((0 : Int), ((List.replicate 4 (0 : Int)), ())) [] : (Rose (Int × (LI × Unit)))))).1 = 1)))))
                else (K false)))
              else (K false)))
            else (K false))
           else (K false))
          else (K false))))))
     (bif decide (v13 = 1) then
      (j25 (decide (v13 = 1)))
      else (j25 (decide (v13 = 2))))) 0
def yy33_l2 {R : Type} (c_self : T4 R) (kf : Nat) : Nat → Int → LI → (List (Rose (Int × (LI × Unit)))) → (Bool → Int → LI → (List (Rose (Int × (LI × Unit)))) → Option R) → (Int → LI → (List (Rose (Int × (LI × Unit)))) → Option R) → Int → Option R
  | 0, _, _, _, _, _, _ => none
  | k + 1, y0, y1, y2, y3, y4, y5 => yy33_l2_b c_self (yy24 kf) (yy34 kf) (yy22 kf) (yy33_l2 c_self kf k) y0 y1 y2 y3 y4 y5
def yy33 {R : Type} : Nat → Int → LI → (List (Rose (Int × (LI × Unit)))) → (Bool → Option R) → Option R
  | 0, _, _, _, _ => none
  | kf + 1, y0, y1, y2, y3 => yy33_b (yy33 kf) (yy24 kf) (yy34 kf) (yy22 kf) (yy33_l2 (yy33 kf) kf kf) y0 y1 y2 y3
def yy30_b {R : Type} (c_yy31 : T8 R) (c_yy27 : T8 R) (c_yy33 : T4 R) (v1 : Int) (v2 : LI) (v3 : (List (Rose (Int × (LI × Unit))))) (K : Int → Option R) : Option R :=
    c_yy31 v1 v2 v3 (fun v4 =>
     bif decide (400 < v4) then
     (K 4)
     else (c_yy27 v1 v2 v3 (fun v5 =>
       bif decide (30 < v5) then
       (K 5)
       else (c_yy33 v1 v2 v3 (fun v6 =>
         bif (!v6) then
         (K 3)
         else (K 0))))))
def yy30 {R : Type} (kf : Nat) (v1 : Int) (v2 : LI) (v3 : (List (Rose (Int × (LI × Unit))))) (K : Int → Option R) : Option R := yy30_b (yy31 kf) (yy27 kf) (yy33 kf) v1 v2 v3 K
def yy47_b {R : Type} (c_yy49 : T7 R) (c_yy30 : T8 R) (v1 : Int) (v2 : LI) (v3 : (List (Rose (Int × (LI × Unit))))) (v4 : LI) (v5 : Int) (v6 : Int) (v7 : Int) (v8 : Bool) (K : T67 R) : Option R :=
    let j14 : LI → Int → Int → Int → Bool → Option R := fun v9 v10 v11 v12 v13 =>
    (K v1 v2 v3 v9 v10 v11 v12 v13)
    (let j21 : Bool → LI → Int → Int → Int → Bool → Option R := fun v15 v16 v17 v18 v19 v20 =>
     (bif v15 then
      (j14 v16 v17 v18 v19 true)
      else (j14 v16 v17 v18 v19 v20))
     (c_yy49 v4 v5 v6 v7 v8 (fun v22 v23 v24 v25 v26 v27 =>
       bif (!v22) then
       (c_yy30 v1 v2 v3 (fun v28 =>
         j21 (!(decide (v28 = 0))) v23 v24 v25 v26 v27))
       else (j21 false v23 v24 v25 v26 v27))))
def yy47 {R : Type} (kf : Nat) (v1 : Int) (v2 : LI) (v3 : (List (Rose (Int × (LI × Unit))))) (v4 : LI) (v5 : Int) (v6 : Int) (v7 : Int) (v8 : Bool) (K : T67 R) : Option R := yy47_b yy49 (yy30 kf) v1 v2 v3 v4 v5 v6 v7 v8 K
def yy50_l2_b {R : Type} (c_yy42 : T5 R) (c_yy49 : T7 R) (c_yy46 : T14 R) (c_yy48 : T12 R) (c_yy35 : T2 R) (c_yy24 : T1 R) (c_yy28 : T0 R) (c_yy22 : T1 R) (c_yy47 : T19 R) (l_2 : T70 R) (v19 : Int) (v20 : LI) (v24 : (List (Rose (Int × (LI × Unit))))) (Ke0 : LI → Int → Int → Int → Bool → Int → LI → Int → LI → (List (Rose (Int × (LI × Unit)))) → (List (Rose (Int × (LI × Unit)))) → Option R) (v14 : LI) (v15 : Int) (v16 : Int) (v17 : Int) (v18 : Bool) (v21 : Int) (v22 : LI) (v23 : (List (Rose (Int × (LI × Unit))))) : Option R :=
    let j76 : LI → Int → Int → Int → Bool → Option R := fun v25 v26 v27 v28 v29 =>
    (c_yy48 v25 v26 v27 v28 v29 (fun v30 v31 v32 v33 v34 v35 v36 =>
      bif decide (v30 = 42) then
      (c_yy35 v21 v22 v23 (fun v37 v38 v39 =>
        c_yy47 v37 v38 v39 v32 (IntKind.i64.wrap (v33 + 1)) v34 v35 v36 (fun v40 v41 v42 v43 v44 v45 v46 v47 =>
         l_2 v19 v20 v24 Ke0 v43 v44 v45 v46 v47 v40 v41 v42)))
      else (bif decide (v30 = 43) then
       (c_yy35 v21 v22 v23 (fun v48 v49 v50 =>
         c_yy24 ([(Rose.node (v21, v22, ()) v23), (Rose.node (v48, v49, ()) v50)] : List (Rose (Int × (LI × Unit)))) (fun v51 v52 v53 =>
          c_yy47 v51 v52 v53 v32 (IntKind.i64.wrap (v33 + 1)) v34 v35 v36 (fun v54 v55 v56 v57 v58 v59 v60 v61 =>
           l_2 v19 v20 v24 Ke0 v57 v58 v59 v60 v61 v54 v55 v56))))
       else (c_yy28 (fun v62 v63 v64 =>
         c_yy22 ([(Rose.node (v62, v63, ()) v64), (Rose.node (v21, v22, ()) v23)] : List (Rose (Int × (LI × Unit)))) (fun v65 v66 v67 =>
          c_yy47 v65 v66 v67 v32 (IntKind.i64.wrap (v33 + 1)) v34 v35 v36 (fun v68 v69 v70 v71 v72 v73 v74 v75 =>
           l_2 v19 v20 v24 Ke0 v71 v72 v73 v74 v75 v68 v69 v70)))))))
    (c_yy49 v14 v15 v16 v17 v18 (fun v77 v78 v79 v80 v81 v82 =>
      bif (!v77) then
      (c_yy46 42 v78 v79 v80 v81 v82 (fun v83 v84 v85 v86 v87 v88 =>
        bif v83 then
        (j76 v84 v85 v86 v87 v88)
        else (c_yy46 43 v84 v85 v86 v87 v88 (fun v89 v90 v91 v92 v93 v94 =>
          bif v89 then
          (j76 v90 v91 v92 v93 v94)
          else (c_yy46 63 v90 v91 v92 v93 v94 (fun v95 v96 v97 v98 v99 v100 =>
            bif v95 then
            (j76 v96 v97 v98 v99 v100)
            else (Ke0 v96 v97 v98 v99 v100 v19 v20 v21 v22 v23 v24)))))))
      else (Ke0 v78 v79 v80 v81 v82 v19 v20 v21 v22 v23 v24)))
def yy50_b {R : Type} (c_yy42 : T5 R) (c_yy49 : T7 R) (c_yy46 : T14 R) (c_yy48 : T12 R) (c_yy35 : T2 R) (c_yy24 : T1 R) (c_yy28 : T0 R) (c_yy22 : T1 R) (c_yy47 : T19 R) (l_2 : T70 R) (v1 : LI) (v2 : Int) (v3 : Int) (v4 : Int) (v5 : Bool) (K : T67 R) : Option R :=
    c_yy42 v1 v2 v3 v4 v5 (fun v6 v7 v8 v9 v10 v11 v12 v13 =>
     l_2 0 (List.replicate 4 (0 : Int)) ([] : List (Rose (Int × (LI × Unit))))
     (fun v101 v102 v103 v104 v105 v106 v107 v108 v109 v110 v111 =>
      K v108 v109 v110 v101 v102 v103 v104 v105) v9 v10 v11 v12 v13 v6 v7 v8)
def yy50_l2 {R : Type} (c_yy41 : T5 R) (kf : Nat) : Nat → Int → LI → (List (Rose (Int × (LI × Unit)))) → (LI → Int → Int → Int → Bool → Int → LI → Int → LI → (List (Rose (Int × (LI × Unit)))) → (List (Rose (Int × (LI × Unit)))) → Option R) → LI → Int → Int → Int → Bool → Int → LI → (List (Rose (Int × (LI × Unit)))) → Option R
  | 0, _, _, _, _, _, _, _, _, _, _, _, _ => none
  | k + 1, y0, y1, y2, y3, y4, y5, y6, y7, y8, y9, y10, y11 => yy50_l2_b (yy42 c_yy41 kf) yy49 yy46 yy48 (yy35 kf) (yy24 kf) yy28 (yy22 kf) (yy47 kf) (yy50_l2 c_yy41 kf k) y0 y1 y2 y3 y4 y5 y6 y7 y8 y9 y10 y11
def yy50 {R : Type} (c_yy41 : T5 R) (kf : Nat) (v1 : LI) (v2 : Int) (v3 : Int) (v4 : Int) (v5 : Bool) (K : T67 R) : Option R := yy50_b (yy42 c_yy41 kf) yy49 yy46 yy48 (yy35 kf) (yy24 kf) yy28 (yy22 kf) (yy47 kf) (yy50_l2 c_yy41 kf kf) v1 v2 v3 v4 v5 K
def yy41_l2_b {R : Type} (c_yy49 : T7 R) (c_yy46 : T14 R) (c_yy50 : T5 R) (c_yy32 : T0 R) (c_yy24 : T1 R) (c_yy47 : T19 R) (c_yy22 : T1 R) (l_2 : T37 R) (l_3 : T38 R) (Kr : LI → Int → Int → Int → Bool → Int → LI → (List (Rose (Int × (LI × Unit)))) → (List (Rose (Int × (LI × Unit)))) → Option R) (Ke0 : LI → Int → Int → Int → Bool → Int → LI → (List (Rose (Int × (LI × Unit)))) → (List (Rose (Int × (LI × Unit)))) → Option R) (v6 : LI) (v7 : Int) (v8 : Int) (v9 : Int) (v10 : Bool) (v11 : Int) (v12 : LI) (v13 : (List (Rose (Int × (LI × Unit))))) (v14 : (List (Rose (Int × (LI × Unit))))) : Option R :=
    l_3 v11 v12 v13 v14
    (fun v51 v52 v53 v54 v55 v56 v57 v58 v59 v60 =>
     c_yy49 v51 v52 v53 v54 v55 (fun v61 v62 v63 v64 v65 v66 =>
      bif v61 then
      (c_yy32 (fun v67 v68 v69 =>
        Kr v62 v63 v64 v65 v66 v67 v68 v69 v58))
      else (c_yy24 v59 (fun v70 v71 v72 =>
        c_yy47 v70 v71 v72 v62 v63 v64 v65 v66 (fun v73 v74 v75 v76 v77 v78 v79 v80 =>
         gd (decide (v58.length + ([(Rose.node (v73, v74, ()) v75)] : List (Rose (Int × (LI × Unit)))).length < SMALL))
         (c_yy49 v76 v77 v78 v79 v80 (fun v81 v82 v83 v84 v85 v86 =>
           bif v81 then
           (Ke0 v82 v83 v84 v85 v86 v56 v57 (v58 ++ ([(Rose.node (v73, v74, ()) v75)] : List (Rose (Int × (LI × Unit))))) v60)
           else (c_yy46 124 v82 v83 v84 v85 v86 (fun v87 v88 v89 v90 v91 v92 =>
             bif (!v87) then
             (Ke0 v88 v89 v90 v91 v92 v56 v57 (v58 ++ ([(Rose.node (v73, v74, ()) v75)] : List (Rose (Int × (LI × Unit))))) v60)
             else (l_2 Kr Ke0 v88 (IntKind.i64.wrap (v89 + 1)) v90 v91 v92 v56 v57 (v58 ++ ([(Rose.node (v73, v74, ()) v75)] : List (Rose (Int × (LI × Unit))))) v60)))))))))) v6 v7 v8 v9 v10 ([] : List (Rose (Int × (LI × Unit))))
def yy41_l3_b {R : Type} (c_yy49 : T7 R) (c_yy46 : T14 R) (c_yy50 : T5 R) (c_yy32 : T0 R) (c_yy24 : T1 R) (c_yy47 : T19 R) (c_yy22 : T1 R) (l_2 : T37 R) (l_3 : T38 R) (v20 : Int) (v21 : LI) (v22 : (List (Rose (Int × (LI × Unit))))) (v24 : (List (Rose (Int × (LI × Unit))))) (Ke2 : LI → Int → Int → Int → Bool → Int → LI → (List (Rose (Int × (LI × Unit)))) → (List (Rose (Int × (LI × Unit)))) → (List (Rose (Int × (LI × Unit)))) → Option R) (v15 : LI) (v16 : Int) (v17 : Int) (v18 : Int) (v19 : Bool) (v23 : (List (Rose (Int × (LI × Unit))))) : Option R :=
    c_yy49 v15 v16 v17 v18 v19 (fun v25 v26 v27 v28 v29 v30 =>
     bif (!v25) then
     (bif decide (v27 < (v26.length : Int)) then
      (c_yy46 124 v26 v27 v28 v29 v30 (fun v31 v32 v33 v34 v35 v36 =>
        bif (!v31) then
        (c_yy46 41 v32 v33 v34 v35 v36 (fun v37 v38 v39 v40 v41 v42 =>
          bif (!v37) then
          (c_yy50 v38 v39 v40 v41 v42 (fun v43 v44 v45 v46 v47 v48 v49 v50 =>
            gd (decide (v23.length + ([(Rose.node (v43, v44, ()) v45)] : List (Rose (Int × (LI × Unit)))).length < SMALL))
            (l_3 v20 v21 v22 v24 Ke2 v46 v47 v48 v49 v50 (v23 ++ ([(Rose.node (v43, v44, ()) v45)] : List (Rose (Int × (LI × Unit))))))))
          else (Ke2 v38 v39 v40 v41 v42 v20 v21 v22 v23 v24)))
        else (Ke2 v32 v33 v34 v35 v36 v20 v21 v22 v23 v24)))
      else (Ke2 v26 v27 v28 v29 v30 v20 v21 v22 v23 v24))
     else (Ke2 v26 v27 v28 v29 v30 v20 v21 v22 v23 v24))
def yy41_b {R : Type} (c_yy49 : T7 R) (c_yy46 : T14 R) (c_yy50 : T5 R) (c_yy32 : T0 R) (c_yy24 : T1 R) (c_yy47 : T19 R) (c_yy22 : T1 R) (l_2 : T37 R) (l_3 : T38 R) (v1 : LI) (v2 : Int) (v3 : Int) (v4 : Int) (v5 : Bool) (K : T67 R) : Option R :=
    l_2
    (fun v93 v94 v95 v96 v97 v98 v99 v100 v101 =>
     K v98 v99 v100 v93 v94 v95 v96 v97)
    (fun v102 v103 v104 v105 v106 v107 v108 v109 v110 =>
     c_yy49 v102 v103 v104 v105 v106 (fun v111 v112 v113 v114 v115 v116 =>
      bif v111 then
      (c_yy32 (fun v117 v118 v119 =>
        K v117 v118 v119 v112 v113 v114 v115 v116))
      else (c_yy22 v109 (fun v120 v121 v122 =>
        c_yy47 v120 v121 v122 v112 v113 v114 v115 v116 (fun v123 v124 v125 v126 v127 v128 v129 v130 =>
         K v123 v124 v125 v126 v127 v128 v129 v130))))) v1 v2 v3 v4 v5 0 (List.replicate 4 (0 : Int)) ([] : List (Rose (Int × (LI × Unit)))) ([] : List (Rose (Int × (LI × Unit))))
def yy41_l3 {R : Type} (c_self : T5 R) (kf : Nat) : Nat → Int → LI → (List (Rose (Int × (LI × Unit)))) → (List (Rose (Int × (LI × Unit)))) → (LI → Int → Int → Int → Bool → Int → LI → (List (Rose (Int × (LI × Unit)))) → (List (Rose (Int × (LI × Unit)))) → (List (Rose (Int × (LI × Unit)))) → Option R) → LI → Int → Int → Int → Bool → (List (Rose (Int × (LI × Unit)))) → Option R
  | 0, _, _, _, _, _, _, _, _, _, _, _ => none
  | k + 1, y0, y1, y2, y3, y4, y5, y6, y7, y8, y9, y10 => yy41_l3_b yy49 yy46 (yy50 c_self kf) yy32 (yy24 kf) (yy47 kf) (yy22 kf) (fun _ _ _ _ _ _ _ _ _ _ _ => none) (yy41_l3 c_self kf k) y0 y1 y2 y3 y4 y5 y6 y7 y8 y9 y10
def yy41_l2 {R : Type} (c_self : T5 R) (kf : Nat) : Nat → (LI → Int → Int → Int → Bool → Int → LI → (List (Rose (Int × (LI × Unit)))) → (List (Rose (Int × (LI × Unit)))) → Option R) → (LI → Int → Int → Int → Bool → Int → LI → (List (Rose (Int × (LI × Unit)))) → (List (Rose (Int × (LI × Unit)))) → Option R) → LI → Int → Int → Int → Bool → Int → LI → (List (Rose (Int × (LI × Unit)))) → (List (Rose (Int × (LI × Unit)))) → Option R
  | 0, _, _, _, _, _, _, _, _, _, _, _ => none
  | k + 1, y0, y1, y2, y3, y4, y5, y6, y7, y8, y9, y10 => yy41_l2_b yy49 yy46 (yy50 c_self kf) yy32 (yy24 kf) (yy47 kf) (yy22 kf) (yy41_l2 c_self kf k) (yy41_l3 c_self kf k) y0 y1 y2 y3 y4 y5 y6 y7 y8 y9 y10
def yy41 {R : Type} : Nat → LI → Int → Int → Int → Bool → (Int → LI → (List (Rose (Int × (LI × Unit)))) → LI → Int → Int → Int → Bool → Option R) → Option R
  | 0, _, _, _, _, _, _ => none
  | kf + 1, y0, y1, y2, y3, y4, y5 => yy41_b yy49 yy46 (yy50 (yy41 kf) kf) yy32 (yy24 kf) (yy47 kf) (yy22 kf) (yy41_l2 (yy41 kf) kf kf) (yy41_l3 (yy41 kf) kf kf) y0 y1 y2 y3 y4 y5
def yy38_b {R : Type} (c_yy41 : T5 R) (c_yy49 : T7 R) (c_yy45 : T13 R) (v1 : LI) (K : Int → LI → (List (Rose (Int × (LI × Unit)))) → Int → Int → Option R) : Option R :=
    bif decide (200 < (v1.length : Int)) then
    (K 0 (List.replicate 4 (0 : Int)) ([] : List (Rose (Int × (LI × Unit)))) 0 8)
    else (c_yy41 v1 0 0 (-1) false (fun v2 v3 v4 v5 v6 v7 v8 v9 =>
      let j15 : LI → Int → Int → Int → Bool → Option R := fun v10 v11 v12 v13 v14 =>
      (bif v14 then
       (K 0 (List.replicate 4 (0 : Int)) ([] : List (Rose (Int × (LI × Unit)))) 0 8)
       else (bif decide (0 ≤ v13) then
        (K 0 (List.replicate 4 (0 : Int)) ([] : List (Rose (Int × (LI × Unit)))) v13 6)
        else (K v2 v3 v4 0 0)))
      (let j27 : Bool → LI → Int → Int → Int → Bool → Option R := fun v16 v17 v18 v19 v20 v21 =>
       (bif v16 then
        (c_yy45 v18 v17 v18 v19 v20 v21 (fun v22 v23 v24 v25 v26 =>
          j15 v22 v23 v24 v25 v26))
        else (j15 v17 v18 v19 v20 v21))
       (c_yy49 v5 v6 v7 v8 v9 (fun v28 v29 v30 v31 v32 v33 =>
         bif (!v28) then
         (j27 (decide (v30 < (v1.length : Int))) v29 v30 v31 v32 v33)
         else (j27 false v29 v30 v31 v32 v33))))))
def yy38 {R : Type} (kf : Nat) (v1 : LI) (K : Int → LI → (List (Rose (Int × (LI × Unit)))) → Int → Int → Option R) : Option R := yy38_b (yy41 kf) yy49 yy45 v1 K
def yy5_b {R : Type} (c_yy6 : (Bool → Option R) → Option R) (c_yy8 : T71 R) (c_yy9 : T72 R) (c_yy59 : T30 R) (c_yy38 : T73 R) (c_yy34 : T10 R) (v1 : LI) (v2 : LI) (K : Bool → Option R) : Option R :=
    c_yy6 (fun v3 =>
     bif (!v3) then
     (K false)
     else (let j29 : Bool → Option R := fun v4 =>
      (bif v4 then
       (K true)
       else (c_yy8 v1 (fun v5 v6 =>
         c_yy9 v5 v6 (fun v7 v8 v9 v10 v11 =>
          c_yy8 v2 (fun v12 v13 =>
           c_yy9 v12 v13 (fun v14 v15 v16 v17 v18 =>
            c_yy59 v7 v8 v9 (fun v19 =>
             c_yy38 v19 (fun v20 v21 v22 v23 v24 =>
              c_yy59 v7 v8 v9 (fun v25 =>
               c_yy59 v14 v15 v16 (fun v26 =>
                c_yy34 v7 v8 v9 v14 v15 v16 (fun v27 =>
                 bif decide (decide (v25 = v26) = v27) then
                 (bif decide (v24 = 8) then
                  (K true)
                  else (bif decide (v24 = 0) then
                   (c_yy34 v20 v21 v22 v7 v8 v9 (fun v28 =>
                     K v28))
                   else (K false)))
                 else (K false))))))))))))
      (bif decide (80 < (v1.length : Int)) then
       (j29 true)
       else (j29 (decide (80 < (v2.length : Int)))))))
def yy5 {R : Type} (kf : Nat) (v1 : LI) (v2 : LI) (K : Bool → Option R) : Option R := yy5_b (yy6 kf) yy8 (yy9 kf) (yy59 kf) (yy38 kf) (yy34 kf) v1 v2 K
def sh5 {R : Type} (c_yy5 : T16 R) (av : List S) (es : List Ent) (K : S → List Ent → Option R) : Option R :=
  match av, es with
  | [.sl (.int .u8) v1, .sl (.int .u8) v2], [] => c_yy5 v1 v2 (fun r0 => K (.bool r0) [])
  | _, _ => none
def sh9 {R : Type} (c_yy6 : (Bool → Option R) → Option R) (av : List S) (es : List Ent) (K : S → List Ent → Option R) : Option R :=
  match av, es with
  | [], [] => c_yy6 (fun r0 => K (.bool r0) [])
  | _, _ => none
def sh11 {R : Type} (c_yy26 : T2 R) (av : List S) (es : List Ent) (K : S → List Ent → Option R) : Option R :=
  match av, es with
  | [.st [.int .i64 v1, .arr 4 (.int .u64) v2, .sl (.rose (.pair (.int .i64) (.pair (.arr 4 (.int .u64)) .unit))) v3]], [] => c_yy26 v1 v2 v3 (fun r0 r1 r2 => K (.st [.int .i64 r0, .arr 4 (.int .u64) r1, .own (.rose (.pair (.int .i64) (.pair (.arr 4 (.int .u64)) .unit))) 0]) [.buf (.rose (.pair (.int .i64) (.pair (.arr 4 (.int .u64)) .unit))) r2 false])
  | _, _ => none
def sh12 {R : Type} (c_yy59 : T30 R) (av : List S) (es : List Ent) (K : S → List Ent → Option R) : Option R :=
  match av, es with
  | [.st [.int .i64 v1, .arr 4 (.int .u64) v2, .sl (.rose (.pair (.int .i64) (.pair (.arr 4 (.int .u64)) .unit))) v3]], [] => c_yy59 v1 v2 v3 (fun r0 => K (.str r0) [])
  | _, _ => none
def sh14 {R : Type} (c_yy34 : T10 R) (av : List S) (es : List Ent) (K : S → List Ent → Option R) : Option R :=
  match av, es with
  | [.st [.int .i64 v1, .arr 4 (.int .u64) v2, .sl (.rose (.pair (.int .i64) (.pair (.arr 4 (.int .u64)) .unit))) v3], .st [.int .i64 v4, .arr 4 (.int .u64) v5, .sl (.rose (.pair (.int .i64) (.pair (.arr 4 (.int .u64)) .unit))) v6]], [] => c_yy34 v1 v2 v3 v4 v5 v6 (fun r0 => K (.bool r0) [])
  | _, _ => none
def sh15 {R : Type} (c_yy8 : T71 R) (av : List S) (es : List Ent) (K : S → List Ent → Option R) : Option R :=
  match av, es with
  | [.sl (.int .u8) v1], [] => c_yy8 v1 (fun r0 r1 => K (.ptr 0 []) [.box (.st [.sl (.int .u8) r0, .int .i64 r1]) false])
  | _, _ => none
def sh16 {R : Type} (c_yy9 : T72 R) (av : List S) (es : List Ent) (K : S → List Ent → Option R) : Option R :=
  match av, es with
  | [.ptr 0 []], [.box (.st [.sl (.int .u8) v1, .int .i64 v2]) false] => c_yy9 v1 v2 (fun r0 r1 r2 r3 r4 => K (.st [.int .i64 r0, .arr 4 (.int .u64) r1, .sl (.rose (.pair (.int .i64) (.pair (.arr 4 (.int .u64)) .unit))) r2]) [.box (.st [.sl (.int .u8) r3, .int .i64 r4]) false])
  | _, _ => none
def sh17 {R : Type} (c_yy38 : T73 R) (av : List S) (es : List Ent) (K : S → List Ent → Option R) : Option R :=
  match av, es with
  | [.str v1], [] => c_yy38 v1 (fun r0 r1 r2 r3 r4 => K (.tup [.st [.int .i64 r0, .arr 4 (.int .u64) r1, .sl (.rose (.pair (.int .i64) (.pair (.arr 4 (.int .u64)) .unit))) r2], .int .i64 r3, .int .i64 r4]) [])
  | _, _ => none
def sh18 {R : Type} (c_yy23 : T11 R) (av : List S) (es : List Ent) (K : S → List Ent → Option R) : Option R :=
  match av, es with
  | [.arr 4 (.int .u64) v1], [] => c_yy23 v1 (fun r0 r1 r2 => K (.st [.int .i64 r0, .arr 4 (.int .u64) r1, .own (.rose (.pair (.int .i64) (.pair (.arr 4 (.int .u64)) .unit))) 0]) [.buf (.rose (.pair (.int .i64) (.pair (.arr 4 (.int .u64)) .unit))) r2 false])
  | _, _ => none
def sh19 {R : Type} (c_yy19 : T18 R) (av : List S) (es : List Ent) (K : S → List Ent → Option R) : Option R :=
  match av, es with
  | [.int .u8 v1, .int .u8 v2], [] => c_yy19 v1 v2 (fun r0 => K (.arr 4 (.int .u64) r0) [])
  | _, _ => none
def sh20 {R : Type} (c_yy17 : LI → (LI → Option R) → Option R) (av : List S) (es : List Ent) (K : S → List Ent → Option R) : Option R :=
  match av, es with
  | [.sl (.int .u8) v1], [] => c_yy17 v1 (fun r0 => K (.arr 4 (.int .u64) r0) [])
  | _, _ => none
def sh21 {R : Type} (c_yy35 : T2 R) (av : List S) (es : List Ent) (K : S → List Ent → Option R) : Option R :=
  match av, es with
  | [.st [.int .i64 v1, .arr 4 (.int .u64) v2, .sl (.rose (.pair (.int .i64) (.pair (.arr 4 (.int .u64)) .unit))) v3]], [] => c_yy35 v1 v2 v3 (fun r0 r1 r2 => K (.st [.int .i64 r0, .arr 4 (.int .u64) r1, .own (.rose (.pair (.int .i64) (.pair (.arr 4 (.int .u64)) .unit))) 0]) [.buf (.rose (.pair (.int .i64) (.pair (.arr 4 (.int .u64)) .unit))) r2 false])
  | _, _ => none
def sh22 {R : Type} (c_yy28 : T0 R) (av : List S) (es : List Ent) (K : S → List Ent → Option R) : Option R :=
  match av, es with
  | [], [] => c_yy28 (fun r0 r1 r2 => K (.st [.int .i64 r0, .arr 4 (.int .u64) r1, .own (.rose (.pair (.int .i64) (.pair (.arr 4 (.int .u64)) .unit))) 0]) [.buf (.rose (.pair (.int .i64) (.pair (.arr 4 (.int .u64)) .unit))) r2 false])
  | _, _ => none
def sh23 {R : Type} (c_yy31 : T8 R) (av : List S) (es : List Ent) (K : S → List Ent → Option R) : Option R :=
  match av, es with
  | [.st [.int .i64 v1, .arr 4 (.int .u64) v2, .sl (.rose (.pair (.int .i64) (.pair (.arr 4 (.int .u64)) .unit))) v3]], [] => c_yy31 v1 v2 v3 (fun r0 => K (.int .i64 r0) [])
  | _, _ => none
def sh24 {R : Type} (c_yy27 : T8 R) (av : List S) (es : List Ent) (K : S → List Ent → Option R) : Option R :=
  match av, es with
  | [.st [.int .i64 v1, .arr 4 (.int .u64) v2, .sl (.rose (.pair (.int .i64) (.pair (.arr 4 (.int .u64)) .unit))) v3]], [] => c_yy27 v1 v2 v3 (fun r0 => K (.int .i64 r0) [])
  | _, _ => none
def sh25 {R : Type} (c_yy53 : T4 R) (av : List S) (es : List Ent) (K : S → List Ent → Option R) : Option R :=
  match av, es with
  | [.st [.int .i64 v1, .arr 4 (.int .u64) v2, .sl (.rose (.pair (.int .i64) (.pair (.arr 4 (.int .u64)) .unit))) v3]], [] => c_yy53 v1 v2 v3 (fun r0 => K (.bool r0) [])
  | _, _ => none
def sh26 {R : Type} (c_yy62 : T15 R) (av : List S) (es : List Ent) (K : S → List Ent → Option R) : Option R :=
  match av, es with
  | [.ptr 0 [], .st [.int .i64 v1, .arr 4 (.int .u64) v2, .sl (.rose (.pair (.int .i64) (.pair (.arr 4 (.int .u64)) .unit))) v3]], [.box (.st [.own (.int .u8) 1, .bool v4]) false, .buf (.int .u8) v5 false] => c_yy62 v1 v2 v3 v4 v5 (fun r0 r1 => K (.tup []) [.box (.st [.own (.int .u8) 1, .bool r0]) false, .buf (.int .u8) r1 false])
  | _, _ => none
def sh27 {R : Type} (c_yy33 : T4 R) (av : List S) (es : List Ent) (K : S → List Ent → Option R) : Option R :=
  match av, es with
  | [.st [.int .i64 v1, .arr 4 (.int .u64) v2, .sl (.rose (.pair (.int .i64) (.pair (.arr 4 (.int .u64)) .unit))) v3]], [] => c_yy33 v1 v2 v3 (fun r0 => K (.bool r0) [])
  | _, _ => none
def sh29 {R : Type} (c_yy13 : T32 R) (av : List S) (es : List Ent) (K : S → List Ent → Option R) : Option R :=
  match av, es with
  | [.ptr 0 [], .int .i64 v1], [.box (.st [.sl (.int .u8) v2, .int .i64 v3]) false] => c_yy13 v1 v2 v3 (fun r0 r1 r2 r3 r4 => K (.st [.int .i64 r0, .arr 4 (.int .u64) r1, .sl (.rose (.pair (.int .i64) (.pair (.arr 4 (.int .u64)) .unit))) r2]) [.box (.st [.sl (.int .u8) r3, .int .i64 r4]) false])
  | _, _ => none
def sh30 {R : Type} (c_yy41 : T5 R) (av : List S) (es : List Ent) (K : S → List Ent → Option R) : Option R :=
  match av, es with
  | [.ptr 0 []], [.box (.st [.str v1, .int .i64 v2, .int .i64 v3, .int .i64 v4, .bool v5]) false] => c_yy41 v1 v2 v3 v4 v5 (fun r0 r1 r2 r3 r4 r5 r6 r7 => K (.st [.int .i64 r0, .arr 4 (.int .u64) r1, .sl (.rose (.pair (.int .i64) (.pair (.arr 4 (.int .u64)) .unit))) r2]) [.box (.st [.str r3, .int .i64 r4, .int .i64 r5, .int .i64 r6, .bool r7]) false])
  | _, _ => none
def sh31 {R : Type} (c_yy49 : T7 R) (av : List S) (es : List Ent) (K : S → List Ent → Option R) : Option R :=
  match av, es with
  | [.ptr 0 []], [.box (.st [.str v1, .int .i64 v2, .int .i64 v3, .int .i64 v4, .bool v5]) false] => c_yy49 v1 v2 v3 v4 v5 (fun r0 r1 r2 r3 r4 r5 => K (.bool r0) [.box (.st [.str r1, .int .i64 r2, .int .i64 r3, .int .i64 r4, .bool r5]) false])
  | _, _ => none
def sh32 {R : Type} (c_yy45 : T13 R) (av : List S) (es : List Ent) (K : S → List Ent → Option R) : Option R :=
  match av, es with
  | [.ptr 0 [], .int .i64 v1], [.box (.st [.str v2, .int .i64 v3, .int .i64 v4, .int .i64 v5, .bool v6]) false] => c_yy45 v1 v2 v3 v4 v5 v6 (fun r0 r1 r2 r3 r4 => K (.tup []) [.box (.st [.str r0, .int .i64 r1, .int .i64 r2, .int .i64 r3, .bool r4]) false])
  | _, _ => none
def sh33 {R : Type} (c_yy32 : T0 R) (av : List S) (es : List Ent) (K : S → List Ent → Option R) : Option R :=
  match av, es with
  | [], [] => c_yy32 (fun r0 r1 r2 => K (.st [.int .i64 r0, .arr 4 (.int .u64) r1, .own (.rose (.pair (.int .i64) (.pair (.arr 4 (.int .u64)) .unit))) 0]) [.buf (.rose (.pair (.int .i64) (.pair (.arr 4 (.int .u64)) .unit))) r2 false])
  | _, _ => none
def sh34 {R : Type} (c_yy21 : LB → (LI → Option R) → Option R) (av : List S) (es : List Ent) (K : S → List Ent → Option R) : Option R :=
  match av, es with
  | [.arr 256 .bool v1], [] => c_yy21 v1 (fun r0 => K (.arr 4 (.int .u64) r0) [])
  | _, _ => none
def sh35 {R : Type} (c_yy22 : T1 R) (av : List S) (es : List Ent) (K : S → List Ent → Option R) : Option R :=
  match av, es with
  | [.sl (.rose (.pair (.int .i64) (.pair (.arr 4 (.int .u64)) .unit))) v1], [] => c_yy22 v1 (fun r0 r1 r2 => K (.st [.int .i64 r0, .arr 4 (.int .u64) r1, .sl (.rose (.pair (.int .i64) (.pair (.arr 4 (.int .u64)) .unit))) r2]) [])
  | _, _ => none
def sh36 {R : Type} (c_yy55 : T55 R) (av : List S) (es : List Ent) (K : S → List Ent → Option R) : Option R :=
  match av, es with
  | [.sl (.rose (.pair (.int .i64) (.pair (.arr 4 (.int .u64)) .unit))) v1, .sl (.int .i64) v2], [] => c_yy55 v1 v2 (fun r0 => K (.bool r0) [])
  | _, _ => none
def sh37 {R : Type} (c_yy58 : T25 R) (av : List S) (es : List Ent) (K : S → List Ent → Option R) : Option R :=
  match av, es with
  | [.sl (.rose (.pair (.int .i64) (.pair (.arr 4 (.int .u64)) .unit))) v1], [] => c_yy58 v1 (fun r0 => K (.bool r0) [])
  | _, _ => none
def sh38 {R : Type} (c_yy66 : T48 R) (c_yy67 : T25 R) (av : List S) (es : List Ent) (K : S → List Ent → Option R) : Option R :=
  match av, es with
  | [.sl (.rose (.pair (.int .i64) (.pair (.arr 4 (.int .u64)) .unit))) v1, .fn 54 [.ptr 0 []]], [.box (.sl (.int .i64) v2) false] => c_yy66 v1 v2 (fun r0 r1 => K (.bool r0) [.box (.sl (.int .i64) r1) false])
  | [.sl (.rose (.pair (.int .i64) (.pair (.arr 4 (.int .u64)) .unit))) v1, .fn 39 []], [] => c_yy67 v1 (fun r0 => K (.bool r0) [])
  | _, _ => none
def sh39 {R : Type} (c_yy54 : T4 R) (av : List S) (es : List Ent) (K : S → List Ent → Option R) : Option R :=
  match av, es with
  | [.st [.int .i64 v1, .arr 4 (.int .u64) v2, .sl (.rose (.pair (.int .i64) (.pair (.arr 4 (.int .u64)) .unit))) v3]], [] => c_yy54 v1 v2 v3 (fun r0 => K (.bool r0) [])
  | _, _ => none
def sh40 {R : Type} (c_yy61 : T9 R) (av : List S) (es : List Ent) (K : S → List Ent → Option R) : Option R :=
  match av, es with
  | [.ptr 0 [], .str v1], [.box (.st [.own (.int .u8) 1, .bool v2]) false, .buf (.int .u8) v3 false] => c_yy61 v1 v2 v3 (fun r0 r1 => K (.tup []) [.box (.st [.own (.int .u8) 1, .bool r0]) false, .buf (.int .u8) r1 false])
  | _, _ => none
def sh41 {R : Type} (c_yy63 : T9 R) (av : List S) (es : List Ent) (K : S → List Ent → Option R) : Option R :=
  match av, es with
  | [.ptr 0 [], .arr 4 (.int .u64) v1], [.box (.st [.own (.int .u8) 1, .bool v2]) false, .buf (.int .u8) v3 false] => c_yy63 v1 v2 v3 (fun r0 r1 => K (.tup []) [.box (.st [.own (.int .u8) 1, .bool r0]) false, .buf (.int .u8) r1 false])
  | _, _ => none
def sh42 {R : Type} (c_yy64 : T29 R) (av : List S) (es : List Ent) (K : S → List Ent → Option R) : Option R :=
  match av, es with
  | [.ptr 0 [], .st [.int .i64 v1, .arr 4 (.int .u64) v2, .sl (.rose (.pair (.int .i64) (.pair (.arr 4 (.int .u64)) .unit))) v3], .sl (.int .i64) v4], [.box (.st [.own (.int .u8) 1, .bool v5]) false, .buf (.int .u8) v6 false] => c_yy64 v1 v2 v3 v4 v5 v6 (fun r0 r1 => K (.tup []) [.box (.st [.own (.int .u8) 1, .bool r0]) false, .buf (.int .u8) r1 false])
  | _, _ => none
def sh43 {R : Type} (c_yy24 : T1 R) (av : List S) (es : List Ent) (K : S → List Ent → Option R) : Option R :=
  match av, es with
  | [.sl (.rose (.pair (.int .i64) (.pair (.arr 4 (.int .u64)) .unit))) v1], [] => c_yy24 v1 (fun r0 r1 r2 => K (.st [.int .i64 r0, .arr 4 (.int .u64) r1, .sl (.rose (.pair (.int .i64) (.pair (.arr 4 (.int .u64)) .unit))) r2]) [])
  | _, _ => none
def sh45 {R : Type} (c_yy11 : T31 R) (av : List S) (es : List Ent) (K : S → List Ent → Option R) : Option R :=
  match av, es with
  | [.ptr 0 [], .int .i64 v1], [.box (.st [.sl (.int .u8) v2, .int .i64 v3]) false] => c_yy11 v1 v2 v3 (fun r0 r1 r2 => K (.int .i64 r0) [.box (.st [.sl (.int .u8) r1, .int .i64 r2]) false])
  | _, _ => none
def sh46 {R : Type} (c_yy12 : T60 R) (av : List S) (es : List Ent) (K : S → List Ent → Option R) : Option R :=
  match av, es with
  | [.ptr 0 []], [.box (.st [.sl (.int .u8) v1, .int .i64 v2]) false] => c_yy12 v1 v2 (fun r0 r1 r2 => K (.bool r0) [.box (.st [.sl (.int .u8) r1, .int .i64 r2]) false])
  | _, _ => none
def sh47 {R : Type} (c_yy10 : T61 R) (av : List S) (es : List Ent) (K : S → List Ent → Option R) : Option R :=
  match av, es with
  | [.ptr 0 []], [.box (.st [.sl (.int .u8) v1, .int .i64 v2]) false] => c_yy10 v1 v2 (fun r0 r1 r2 => K (.arr 4 (.int .u64) r0) [.box (.st [.sl (.int .u8) r1, .int .i64 r2]) false])
  | _, _ => none
def sh48 {R : Type} (c_yy46 : T14 R) (av : List S) (es : List Ent) (K : S → List Ent → Option R) : Option R :=
  match av, es with
  | [.ptr 0 [], .int .u8 v1], [.box (.st [.str v2, .int .i64 v3, .int .i64 v4, .int .i64 v5, .bool v6]) false] => c_yy46 v1 v2 v3 v4 v5 v6 (fun r0 r1 r2 r3 r4 r5 => K (.bool r0) [.box (.st [.str r1, .int .i64 r2, .int .i64 r3, .int .i64 r4, .bool r5]) false])
  | _, _ => none
def sh49 {R : Type} (c_yy50 : T5 R) (av : List S) (es : List Ent) (K : S → List Ent → Option R) : Option R :=
  match av, es with
  | [.ptr 0 []], [.box (.st [.str v1, .int .i64 v2, .int .i64 v3, .int .i64 v4, .bool v5]) false] => c_yy50 v1 v2 v3 v4 v5 (fun r0 r1 r2 r3 r4 r5 r6 r7 => K (.st [.int .i64 r0, .arr 4 (.int .u64) r1, .sl (.rose (.pair (.int .i64) (.pair (.arr 4 (.int .u64)) .unit))) r2]) [.box (.st [.str r3, .int .i64 r4, .int .i64 r5, .int .i64 r6, .bool r7]) false])
  | _, _ => none
def sh50 {R : Type} (c_yy47 : T19 R) (av : List S) (es : List Ent) (K : S → List Ent → Option R) : Option R :=
  match av, es with
  | [.ptr 0 [], .st [.int .i64 v1, .arr 4 (.int .u64) v2, .sl (.rose (.pair (.int .i64) (.pair (.arr 4 (.int .u64)) .unit))) v3]], [.box (.st [.str v4, .int .i64 v5, .int .i64 v6, .int .i64 v7, .bool v8]) false] => c_yy47 v1 v2 v3 v4 v5 v6 v7 v8 (fun r0 r1 r2 r3 r4 r5 r6 r7 => K (.st [.int .i64 r0, .arr 4 (.int .u64) r1, .sl (.rose (.pair (.int .i64) (.pair (.arr 4 (.int .u64)) .unit))) r2]) [.box (.st [.str r3, .int .i64 r4, .int .i64 r5, .int .i64 r6, .bool r7]) false])
  | _, _ => none
def sh51 {R : Type} (c_yy36 : T20 R) (av : List S) (es : List Ent) (K : S → List Ent → Option R) : Option R :=
  match av, es with
  | [.int .i64 v1, .sl (.rose (.pair (.int .i64) (.pair (.arr 4 (.int .u64)) .unit))) v2], [] => c_yy36 v1 v2 (fun r0 => K (.own (.rose (.pair (.int .i64) (.pair (.arr 4 (.int .u64)) .unit))) 0) [.buf (.rose (.pair (.int .i64) (.pair (.arr 4 (.int .u64)) .unit))) r0 false])
  | _, _ => none
def sh52 {R : Type} (c_yy18 : T21 R) (av : List S) (es : List Ent) (K : S → List Ent → Option R) : Option R :=
  match av, es with
  | [.arr 4 (.int .u64) v1, .arr 4 (.int .u64) v2], [] => c_yy18 v1 v2 (fun r0 => K (.arr 4 (.int .u64) r0) [])
  | _, _ => none
def sh53 {R : Type} (c_yy37 : T33 R) (av : List S) (es : List Ent) (K : S → List Ent → Option R) : Option R :=
  match av, es with
  | [.sl (.rose (.pair (.int .i64) (.pair (.arr 4 (.int .u64)) .unit))) v1, .st [.int .i64 v2, .arr 4 (.int .u64) v3, .sl (.rose (.pair (.int .i64) (.pair (.arr 4 (.int .u64)) .unit))) v4]], [] => c_yy37 v1 v2 v3 v4 (fun r0 => K (.sl (.rose (.pair (.int .i64) (.pair (.arr 4 (.int .u64)) .unit))) r0) [])
  | _, _ => none
def sh54 {R : Type} (c_yy56 : T34 R) (av : List S) (es : List Ent) (K : S → List Ent → Option R) : Option R :=
  match av, es with
  | [.st [.int .i64 v1, .arr 4 (.int .u64) v2, .sl (.rose (.pair (.int .i64) (.pair (.arr 4 (.int .u64)) .unit))) v3], .ptr 0 []], [.box (.sl (.int .i64) v4) false] => c_yy56 v1 v2 v3 v4 (fun r0 r1 => K (.bool r0) [.box (.sl (.int .i64) r1) false])
  | _, _ => none
def sh55 {R : Type} (c_yy68 : T3 R) (av : List S) (es : List Ent) (K : S → List Ent → Option R) : Option R :=
  match av, es with
  | [.sl (.int .i64) v1, .int .i64 v2], [] => c_yy68 v1 v2 (fun r0 => K (.bool r0) [])
  | _, _ => none
def sh56 {R : Type} (c_yy57 : T4 R) (av : List S) (es : List Ent) (K : S → List Ent → Option R) : Option R :=
  match av, es with
  | [.st [.int .i64 v1, .arr 4 (.int .u64) v2, .sl (.rose (.pair (.int .i64) (.pair (.arr 4 (.int .u64)) .unit))) v3]], [] => c_yy57 v1 v2 v3 (fun r0 => K (.bool r0) [])
  | _, _ => none
def sh57 {R : Type} (c_yy52 : T6 R) (av : List S) (es : List Ent) (K : S → List Ent → Option R) : Option R :=
  match av, es with
  | [.st [.int .i64 v1, .arr 4 (.int .u64) v2, .sl (.rose (.pair (.int .i64) (.pair (.arr 4 (.int .u64)) .unit))) v3], .st [.int .i64 v4, .arr 4 (.int .u64) v5, .sl (.rose (.pair (.int .i64) (.pair (.arr 4 (.int .u64)) .unit))) v6]], [] => c_yy52 v1 v2 v3 v4 v5 v6 (fun r0 => K (.int .i64 r0) [])
  | _, _ => none
def sh58 {R : Type} (c_yy69 : T47 R) (c_yy70 : T54 R) (av : List S) (es : List Ent) (K : S → List Ent → Option R) : Option R :=
  match av, es with
  | [.sl (.rose (.pair (.int .i64) (.pair (.arr 4 (.int .u64)) .unit))) v1, .fn 54 [.ptr 0 []]], [.box (.sl (.int .i64) v2) false] => c_yy69 v1 v2 (fun r0 r1 => K (.int .i64 r0) [.box (.sl (.int .i64) r1) false])
  | [.sl (.rose (.pair (.int .i64) (.pair (.arr 4 (.int .u64)) .unit))) v1, .fn 39 []], [] => c_yy70 v1 (fun r0 => K (.int .i64 r0) [])
  | _, _ => none
def sh59 {R : Type} (c_yy2 : LI → (LI → Option R) → Option R) (av : List S) (es : List Ent) (K : S → List Ent → Option R) : Option R :=
  match av, es with
  | [.arr 4 (.int .u64) v1], [] => c_yy2 v1 (fun r0 => K (.own (.int .u8) 0) [.buf (.int .u8) r0 false])
  | _, _ => none
def sh60 {R : Type} (c_yy60 : Int → (LI → Option R) → Option R) (av : List S) (es : List Ent) (K : S → List Ent → Option R) : Option R :=
  match av, es with
  | [.int .u8 v1], [] => c_yy60 v1 (fun r0 => K (.str r0) [])
  | _, _ => none
def sh61 {R : Type} (c_yy15 : LI → (LI → Option R) → Option R) (av : List S) (es : List Ent) (K : S → List Ent → Option R) : Option R :=
  match av, es with
  | [.arr 4 (.int .u64) v1], [] => c_yy15 v1 (fun r0 => K (.own (.int .u8) 0) [.buf (.int .u8) r0 false])
  | _, _ => none
def sh63 {R : Type} (c_yy16 : LI → (LI → Option R) → Option R) (av : List S) (es : List Ent) (K : S → List Ent → Option R) : Option R :=
  match av, es with
  | [.arr 4 (.int .u64) v1], [] => c_yy16 v1 (fun r0 => K (.arr 4 (.int .u64) r0) [])
  | _, _ => none
def sh64 {R : Type} (c_yy48 : T12 R) (av : List S) (es : List Ent) (K : S → List Ent → Option R) : Option R :=
  match av, es with
  | [.ptr 0 []], [.box (.st [.str v1, .int .i64 v2, .int .i64 v3, .int .i64 v4, .bool v5]) false] => c_yy48 v1 v2 v3 v4 v5 (fun r0 r1 r2 r3 r4 r5 r6 => K (.tup [.int .u8 r0, .bool r1]) [.box (.st [.str r2, .int .i64 r3, .int .i64 r4, .int .i64 r5, .bool r6]) false])
  | _, _ => none
def sh65 {R : Type} (c_yy42 : T5 R) (av : List S) (es : List Ent) (K : S → List Ent → Option R) : Option R :=
  match av, es with
  | [.ptr 0 []], [.box (.st [.str v1, .int .i64 v2, .int .i64 v3, .int .i64 v4, .bool v5]) false] => c_yy42 v1 v2 v3 v4 v5 (fun r0 r1 r2 r3 r4 r5 r6 r7 => K (.st [.int .i64 r0, .arr 4 (.int .u64) r1, .sl (.rose (.pair (.int .i64) (.pair (.arr 4 (.int .u64)) .unit))) r2]) [.box (.st [.str r3, .int .i64 r4, .int .i64 r5, .int .i64 r6, .bool r7]) false])
  | _, _ => none
def sh66 {R : Type} (c_yy30 : T8 R) (av : List S) (es : List Ent) (K : S → List Ent → Option R) : Option R :=
  match av, es with
  | [.st [.int .i64 v1, .arr 4 (.int .u64) v2, .sl (.rose (.pair (.int .i64) (.pair (.arr 4 (.int .u64)) .unit))) v3]], [] => c_yy30 v1 v2 v3 (fun r0 => K (.int .i64 r0) [])
  | _, _ => none
def sh67 {R : Type} (c_yy25 : T6 R) (av : List S) (es : List Ent) (K : S → List Ent → Option R) : Option R :=
  match av, es with
  | [.st [.int .i64 v1, .arr 4 (.int .u64) v2, .sl (.rose (.pair (.int .i64) (.pair (.arr 4 (.int .u64)) .unit))) v3], .st [.int .i64 v4, .arr 4 (.int .u64) v5, .sl (.rose (.pair (.int .i64) (.pair (.arr 4 (.int .u64)) .unit))) v6]], [] => c_yy25 v1 v2 v3 v4 v5 v6 (fun r0 => K (.int .i64 r0) [])
  | _, _ => none
def sh68 {R : Type} (c_yy29 : T10 R) (av : List S) (es : List Ent) (K : S → List Ent → Option R) : Option R :=
  match av, es with
  | [.st [.int .i64 v1, .arr 4 (.int .u64) v2, .sl (.rose (.pair (.int .i64) (.pair (.arr 4 (.int .u64)) .unit))) v3], .st [.int .i64 v4, .arr 4 (.int .u64) v5, .sl (.rose (.pair (.int .i64) (.pair (.arr 4 (.int .u64)) .unit))) v6]], [] => c_yy29 v1 v2 v3 v4 v5 v6 (fun r0 => K (.bool r0) [])
  | _, _ => none
def sh69 {R : Type} (c_yy71 : T45 R) (av : List S) (es : List Ent) (K : S → List Ent → Option R) : Option R :=
  match av, es with
  | [.sl (.int .i64) v1, .int .i64 v2], [] => c_yy71 v1 v2 (fun r0 => K (.int .i64 r0) [])
  | _, _ => none
def sh70 {R : Type} (c_yy3 : T50 R) (av : List S) (es : List Ent) (K : S → List Ent → Option R) : Option R :=
  match av, es with
  | [.int .i64 v1, .int .i64 v2], [] => c_yy3 v1 v2 (fun r0 => K (.int .i64 r0) [])
  | _, _ => none
def sh71 {R : Type} (c_yy1 : T16 R) (av : List S) (es : List Ent) (K : S → List Ent → Option R) : Option R :=
  match av, es with
  | [.arr 4 (.int .u64) v1, .arr 4 (.int .u64) v2], [] => c_yy1 v1 v2 (fun r0 => K (.bool r0) [])
  | _, _ => none
def sh72 {R : Type} (c_yy65 : T51 R) (av : List S) (es : List Ent) (K : S → List Ent → Option R) : Option R :=
  match av, es with
  | [.sl (.rose (.pair (.int .i64) (.pair (.arr 4 (.int .u64)) .unit))) v1, .sl (.rose (.pair (.int .i64) (.pair (.arr 4 (.int .u64)) .unit))) v2, .fn 57 []], [] => c_yy65 v1 v2 (fun r0 => K (.int .i64 r0) [])
  | _, _ => none
def sh73 {R : Type} (c_yy0 : T3 R) (av : List S) (es : List Ent) (K : S → List Ent → Option R) : Option R :=
  match av, es with
  | [.arr 4 (.int .u64) v1, .int .u8 v2], [] => c_yy0 v1 v2 (fun r0 => K (.bool r0) [])
  | _, _ => none
def sh74 {R : Type} (av : List S) (es : List Ent) (K : S → List Ent → Option R) : Option R :=
  match av, es with
  | [.str v1, .int .u8 v2], [] => K (.int .i64 (idxB v1 v2)) []
  | _, _ => none
def sh75 {R : Type} (c_yy14 : T3 R) (av : List S) (es : List Ent) (K : S → List Ent → Option R) : Option R :=
  match av, es with
  | [.arr 4 (.int .u64) v1, .int .u8 v2], [] => c_yy14 v1 v2 (fun r0 => K (.bool r0) [])
  | _, _ => none
def sh76 {R : Type} (c_yy40 : T3 R) (av : List S) (es : List Ent) (K : S → List Ent → Option R) : Option R :=
  match av, es with
  | [.str v1, .int .u8 v2], [] => c_yy40 v1 v2 (fun r0 => K (.bool r0) [])
  | _, _ => none
def sh77 {R : Type} (c_yy43 : T66 R) (av : List S) (es : List Ent) (K : S → List Ent → Option R) : Option R :=
  match av, es with
  | [.ptr 0 []], [.box (.st [.str v1, .int .i64 v2, .int .i64 v3, .int .i64 v4, .bool v5]) false] => c_yy43 v1 v2 v3 v4 v5 (fun r0 r1 r2 r3 r4 r5 r6 r7 => K (.st [.int .i64 r0, .arr 4 (.int .u64) r1, .own (.rose (.pair (.int .i64) (.pair (.arr 4 (.int .u64)) .unit))) 1]) [.box (.st [.str r2, .int .i64 r3, .int .i64 r4, .int .i64 r5, .bool r6]) false, .buf (.rose (.pair (.int .i64) (.pair (.arr 4 (.int .u64)) .unit))) r7 false])
  | _, _ => none
def sh78 {R : Type} (c_yy51 : T27 R) (av : List S) (es : List Ent) (K : S → List Ent → Option R) : Option R :=
  match av, es with
  | [.ptr 0 [], .bool v1], [.box (.st [.str v2, .int .i64 v3, .int .i64 v4, .int .i64 v5, .bool v6]) false] => c_yy51 v1 v2 v3 v4 v5 v6 (fun r0 r1 r2 r3 r4 r5 => K (.int .u8 r0) [.box (.st [.str r1, .int .i64 r2, .int .i64 r3, .int .i64 r4, .bool r5]) false])
  | _, _ => none
def sh79 {R : Type} (c_yy20 : T16 R) (av : List S) (es : List Ent) (K : S → List Ent → Option R) : Option R :=
  match av, es with
  | [.arr 4 (.int .u64) v1, .arr 4 (.int .u64) v2], [] => c_yy20 v1 v2 (fun r0 => K (.bool r0) [])
  | _, _ => none
def sh80 {R : Type} (c_yy4 : Int → (Bool → Option R) → Option R) (av : List S) (es : List Ent) (K : S → List Ent → Option R) : Option R :=
  match av, es with
  | [.int .i64 v1], [] => c_yy4 v1 (fun r0 => K (.bool r0) [])
  | _, _ => none
def sh81 {R : Type} (c_yy7 : Int → (Int → Option R) → Option R) (av : List S) (es : List Ent) (K : S → List Ent → Option R) : Option R :=
  match av, es with
  | [.int .u64 v1], [] => c_yy7 v1 (fun r0 => K (.int .i64 r0) [])
  | _, _ => none
def sh83 {R : Type} (c_yy44 : T64 R) (av : List S) (es : List Ent) (K : S → List Ent → Option R) : Option R :=
  match av, es with
  | [.ptr 0 []], [.box (.st [.str v1, .int .i64 v2, .int .i64 v3, .int .i64 v4, .bool v5]) false] => c_yy44 v1 v2 v3 v4 v5 (fun r0 r1 r2 r3 r4 r5 => K (.int .u8 r0) [.box (.st [.str r1, .int .i64 r2, .int .i64 r3, .int .i64 r4, .bool r5]) false])
  | _, _ => none
def sh85 {R : Type} (c_yy39 : Int → (Int → Option R) → Option R) (av : List S) (es : List Ent) (K : S → List Ent → Option R) : Option R :=
  match av, es with
  | [.int .u8 v1], [] => c_yy39 v1 (fun r0 => K (.int .i64 r0) [])
  | _, _ => none
end
end Go.Ab.T
