/- ImaTA: a part of the proofs of this seat's statements. -/
import Derived.Test.YtdoaclnnkeonkaaDoorDef
import Derived.Test.YtdoaclnnkeonkaaDoorPrimX
import Derived.Test.YtdoaclnnkeonkaaDoorProg
import Derived.KernelRfl
namespace Go.Ab.T
abbrev LI := List Int
abbrev LL := List (List Int)
abbrev LB := List Bool
abbrev T0 (R : Type) : Type := LI → LL → LB → (Bool → Option R) → Option R
abbrev T1 (R : Type) : Type := LI → LL → LB → (Int → Option R) → Option R
abbrev T2 (R : Type) : Type := LI → LL → LB → (LI → Option R) → Option R
abbrev T3 (R : Type) : Type := LI → LI → (Bool → Option R) → Option R
abbrev T4 (R : Type) : Type := Int → Int → LI → (Int → Err → LI → Option R) → Option R
abbrev T5 (R : Type) : Type := LI → LL → LB → LI → LL → LB → (Bool → Option R) → Option R
abbrev T6 (R : Type) : Type := LI → (LI → Int → LL → LB → Option R) → Option R
abbrev T7 (R : Type) : Type := LI → LL → LB → LI → Int → Int → (Bool → Option R) → Option R
abbrev T8 (R : Type) : Type := LI → LL → LB → (LB → Option R) → Option R
abbrev T9 (R : Type) : Type := LI → LL → LB → LI → LB → Int → Int → (Bool → Option R) → Option R
abbrev T10 (R : Type) : Type := LI → LL → LB → LI → (LI → (List (Int × Int)) → Option R) → Option R
abbrev T11 (R : Type) : Type := LL → LI → (Int → LI → Option R) → Option R
abbrev T12 (R : Type) : Type := (Int → LI → LL → LB → LI → Option R) → Int → Int → LI → LL → LB → LI → Option R
abbrev T13 (R : Type) : Type := Int → Int → LI → LL → LB → (Int → Int → LI → LL → LB → LI → Option R) → LI → Option R
abbrev T14 (R : Type) : Type := (LI → Option R) → Int → Bool → LI → LL → LB → LI → Option R
abbrev T15 (R : Type) : Type := (Int → Bool → LI → LL → LB → LI → Option R) → Int → Bool → Int → LI → LL → LB → LI → LI → Option R
abbrev T16 (R : Type) : Type := Int → Bool → Int → LI → LL → LB → LI → (Int → Bool → Int → LI → LL → LB → LI → LI → Option R) → LI → Option R
abbrev T17 (R : Type) : Type := (LI → LL → LB → LI → LI → LI → LI → LL → LB → LL → LB → Option R) → Int → LI → LL → LB → LI → LI → LB → LI → LI → LL → LB → LL → LB → Option R
abbrev T18 (R : Type) : Type := Int → LI → LL → LB → LI → LI → LB → LI → LI → LL → LB → LL → LB → (Int → Int → LI → LL → LB → LI → LI → LB → LI → LI → LL → LB → LL → LB → Option R) → Int → Option R
abbrev T19 (R : Type) : Type := (LI → LI → LL → LB → LL → LB → Option R) → Int → LI → LL → LB → LI → LI → LI → LI → LI → LL → LB → LL → LB → Option R
abbrev T20 (R : Type) : Type := (Int → LI → LL → LB → LI → LI → LI → LI → LI → LI → LL → LB → LL → LB → Option R) → Int → Int → LI → LL → LB → LI → LI → LI → LI → LI → LI → LL → LB → LL → LB → Option R
abbrev T21 (R : Type) : Type := Int → Int → Int → LI → LL → LB → LI → LI → LI → LI → LI → LI → LL → LB → LL → LB → (Int → Int → Int → Int → LI → LL → LB → LI → LI → LI → LI → LI → LI → LL → LB → LL → LB → Option R) → Int → Option R
abbrev T22 (R : Type) : Type := LI → (Int → Option R) → Int → Int → Option R
abbrev T23 (R : Type) : Type := LI → LL → LB → (LI → LL → LB → Option R) → Option R
abbrev T24 (R : Type) : Type := Int → LI → LI → (LI → Option R) → Option R
abbrev T25 (R : Type) : Type := (LI → LL → LB → LI → LI → LI → LL → LL → LB → LL → LB → Option R) → Int → LI → LL → LB → LI → LI → LI → (List (Int × Int)) → LI → LL → LL → LB → LL → LB → Option R
abbrev T26 (R : Type) : Type := Int → Int → Int → LI → LL → LB → LI → LI → LI → (List (Int × Int)) → LI → LL → LL → LB → LL → LB → (Int → Int → LI → LL → LB → LI → LI → LI → (List (Int × Int)) → LI → LL → LL → LB → LL → LB → LI → Option R) → Int → LI → Option R
abbrev T27 (R : Type) : Type := (LI → LI → LL → LB → LL → LB → Option R) → Int → Int → LI → LL → LB → LI → LI → LL → LI → LL → LB → LL → LB → Option R
abbrev T28 (R : Type) : Type := Int → Int → Int → Int → Int → LI → LL → LB → LI → LI → LL → LI → LL → LB → LL → LB → (Int → Int → Int → LI → LL → LB → LI → LI → LL → LI → LI → LL → LB → LL → LB → Option R) → Int → LI → Option R
abbrev T29 (R : Type) : Type := (LI → Int → Int → Int → Int → LI → LI → LL → LB → LL → LB → Option R) → (LI → Int → Int → Int → LI → LI → LL → LB → LL → LB → Option R) → LI → Int → Int → Int → Int → Int → Int → Int → LI → LI → LL → LB → LL → LB → Option R
abbrev T30 (R : Type) : Type := LI → Int → Int → Int → Int → Int → LI → LL → LB → LL → LB → (LI → Int → Int → Int → Int → Int → LI → LI → LL → LB → LL → LB → Option R) → Int → LI → Option R
abbrev T31 (R : Type) : Type := (LI → Int → Int → LI → LI → LL → LB → LL → LB → Option R) → (LI → Int → LI → LI → LL → LB → LL → LB → Option R) → LI → Int → Int → Int → Int → LI → LI → LL → LB → LL → LB → Option R
abbrev T32 (R : Type) : Type := LI → Int → Int → Int → LI → LI → LL → LB → LL → (LI → Int → Int → Int → Int → Int → LI → LI → LI → LL → LB → LL → LB → Option R) → (LI → Int → Int → Int → Int → LI → LI → LI → LL → LB → LL → LB → Option R) → Int → Int → LI → LB → Option R
abbrev T33 (R : Type) : Type := LB → Int → LI → LL → LB → (Int → LI → LL → LB → LI → Option R) → Int → Int → LI → Option R
abbrev T34 (R : Type) : Type := (LI → Option R) → Int → LI → LL → LB → LI → Option R
abbrev T35 (R : Type) : Type := Int → LL → Int → LI → LL → LB → LI → (Int → LI → LL → LB → LI → (List (LI × Int)) → Option R) → Int → LI → (List (LI × Int)) → Option R
abbrev T36 (R : Type) : Type := LI → LL → LB → (LI → LL → LB → LI → Option R) → Int → LI → Option R
abbrev T37 (R : Type) : Type := (LI → Option R) → LL → Int → Int → LI → LL → LB → LI → Option R
abbrev T38 (R : Type) : Type := LL → Int → Int → LI → Int → LI → LL → LB → (LL → Int → Int → LI → LL → LB → LI → Option R) → Int → LI → Option R
abbrev T39 (R : Type) : Type := Int → LI → (LI → Err → LI → Option R) → Option R
abbrev T40 (R : Type) : Type := LI → LL → LB → (Int → LI → Option R) → Option R
abbrev T41 (R : Type) : Type := (LB → Option R) → Bool → LI → LL → LB → LB → Option R
abbrev T42 (R : Type) : Type := (Bool → LI → LL → LB → LB → Option R) → Bool → Int → LI → LL → LB → LB → Option R
abbrev T43 (R : Type) : Type := Int → LI → LL → LB → (Bool → Int → LI → LL → LB → LB → Option R) → Bool → Int → LB → Option R
abbrev T44 (R : Type) : Type := LI → LL → LB → LI → LL → LB → (Bool → LI → LL → LB → LI → LL → LB → Option R) → (LI → LL → LB → LI → LL → LB → Option R) → Int → Option R
abbrev T45 (R : Type) : Type := (Bool → Option R) → (Option R) → Int → LI → LL → LB → LI → LL → LB → Option R
abbrev T46 (R : Type) : Type := Int → LI → LL → LB → LI → LL → LB → (Bool → Int → LI → LL → LB → LI → LL → LB → Option R) → (Int → LI → LL → LB → LI → LL → LB → Option R) → Int → Option R
abbrev T47 (R : Type) : Type := Int → Int → (Bool → Int → Option R) → Option R
abbrev T48 (R : Type) : Type := LI → Int → (Bool → Int → Option R) → Option R
abbrev T49 (R : Type) : Type := (LI → (List (Int × Int)) → Option R) → LI → Int → LI → LL → LB → LI → (List (Int × Int)) → Option R
abbrev T50 (R : Type) : Type := LI → Int → LI → LL → LB → (LI → Int → LI → LL → LB → LI → (List (Int × Int)) → Option R) → Int → LI → (List (Int × Int)) → Option R
abbrev T51 (R : Type) : Type := LI → LI → (Bool → LI → Option R) → Option R
abbrev T52 (R : Type) : Type := (Err → LI → LI → Option R) → (LI → LI → Option R) → Int → Int → Int → Int → Int → Int → LI → LI → Option R
abbrev T53 (R : Type) : Type := Int → Int → Int → Int → Int → Int → LI → (Int → Int → Int → Int → Int → Int → LI → LI → Option R) → Int → LI → Option R
abbrev T54 (R : Type) : Type := (Err → LI → LI → LL → LB → Option R) → (LI → LI → LL → LB → Option R) → Int → Int → Int → Int → LI → LI → LL → LB → Option R
abbrev T55 (R : Type) : Type := Int → Int → Int → Int → Int → Int → LI → LL → LB → (Err → Int → Int → Int → Int → Int → LI → LI → LI → LL → LB → Option R) → (Int → Int → Int → Int → Int → LI → LI → LI → LL → LB → Option R) → Int → LI → LI → Option R
abbrev T56 (R : Type) : Type := (Bool → Option R) → (Option R) → Int → Int → Int → LI → LL → LB → Option R
abbrev T57 (R : Type) : Type := Int → Int → Int → LI → LL → LB → (Bool → Int → Int → Int → LI → LL → LB → Option R) → (Int → Int → Int → LI → LL → LB → Option R) → Int → Option R
abbrev T58 (R : Type) : Type := LI → Int → (Int → Int → Option R) → (Int → Option R) → Int → Int → Option R
abbrev T59 (R : Type) : Type := LI → Int → (Int → Int → Option R) → Option R
abbrev T60 (R : Type) : Type := Int → LL → Int → (Bool → Option R) → (Option R) → Int → Int → Option R
abbrev T61 (R : Type) : Type := LI → LI → Int → (LI → Option R) → Int → LI → Option R
abbrev T62 (R : Type) : Type := LI → LI → Int → (Bool → Option R) → (Option R) → Int → Option R
abbrev T63 (R : Type) : Type := LL → Int → (Int → LI → Option R) → (LI → Option R) → Int → LI → Option R
abbrev T64 (R : Type) : Type := LB → LB → Int → (Bool → Option R) → (Option R) → Int → Option R
abbrev T65 (R : Type) : Type := LL → LL → Int → (Bool → Option R) → (Option R) → Int → Option R
abbrev T66 (R : Type) : Type := LB → LB → (Bool → Option R) → Option R
abbrev T67 (R : Type) : Type := LL → LL → (Bool → Option R) → Option R
abbrev T68 (R : Type) : Type := LI → Int → Int → (Int → Int → Option R) → Option R
abbrev T69 (R : Type) : Type := LI → (LI → Err → LI → LL → LB → Option R) → Option R
abbrev T70 (R : Type) : Type := LI → Int → (LI → Int → LI → Option R) → Int → LI → Option R
abbrev T71 (R : Type) : Type := LI → Int → Int → LL → (Bool → Option R) → (Option R) → Int → Option R
abbrev T72 (R : Type) : Type := LI → LB → Int → Int → LL → (Bool → Option R) → (Option R) → Int → Option R
abbrev T73 (R : Type) : Type := LI → Int → LI → (Bool → LI → Option R) → (LI → Option R) → Int → Option R
abbrev T74 (R : Type) : Type := LI → (Int → LI → Option R) → Option R
abbrev T75 (R : Type) : Type := Int → LI → LI → (Bool → LI → Option R) → Option R
open Go Go.Ab Go.Proofs
set_option maxRecDepth 100000
set_option linter.unusedVariables false
noncomputable section
def glob : Nat → Option S := fun g => if g = 0 then some (.err (.raw 114 (.agg #[.pointer (some ⟨1, 64, none⟩)]))) else none
def raw : FuncId → Bool := fun f => [20, 21].contains f
def yy40_l5_b {R : Type} (l_5 : T22 R) (v2 : LI) (Ke0 : Int → Option R) (v3 : Int) (v4 : Int) : Option R :=
  bif decide (v4 < (v2.length : Int)) then
  (gd (decide (0 ≤ v4))
   (gd (decide (v4 < (v2.length : Int)))
   (l_5 v2 Ke0 (mx v3 (v2.getD (Int.toNat v4) (0 : Int))) (IntKind.i64.wrap (v4 + 1)))))
  else (Ke0 v3)
def yy40_b {R : Type} (l_5 : T22 R) (v1 : LI) (K : Int → Option R) : Option R :=
  bif decide ((v1.length : Int) < 1) then
  (none)
  else (gd (decide (0 < (v1.length : Int)))
   (l_5 v1
   (fun v5 =>
    K v5) (v1.getD 0 (0 : Int)) 1))
def yy40_l5 {R : Type} (kf : Nat) : Nat → LI → (Int → Option R) → Int → Int → Option R
 | 0, _, _, _, _ => none
 | k + 1, y0, y1, y2, y3 => yy40_l5_b (yy40_l5 kf k) y0 y1 y2 y3
def yy40 {R : Type} (kf : Nat) (v1 : LI) (K : Int → Option R) : Option R := yy40_b (yy40_l5 kf kf) v1 K
def yy22_b {R : Type} (c_yy40 : LI → (Int → Option R) → Option R) (v1 : LI) (v2 : LL) (v3 : LB) (K : Int → Option R) : Option R :=
  c_yy40 v1 (fun v4 =>
   K (IntKind.i64.wrap ((IntKind.i64.wrap v4) + 1)))
def yy22 {R : Type} (kf : Nat) (v1 : LI) (v2 : LL) (v3 : LB) (K : Int → Option R) : Option R := yy22_b (yy40 kf) v1 v2 v3 K
def yy19_b {R : Type} (v1 : Int) (v2 : Int) (K : Bool → Int → Option R) : Option R :=
  bif decide (v1 < 0) then
  (K true v2)
  else (K (decide (v2 ≤ v1)) v2)
def yy19 {R : Type} (v1 : Int) (v2 : Int) (K : Bool → Int → Option R) : Option R := yy19_b v1 v2 K
def yy39_l2_b {R : Type} (c_yy19 : T47 R) (l_2 : T58 R) (v3 : LI) (v4 : Int) (Kr : Int → Int → Option R) (Ke0 : Int → Option R) (v5 : Int) (v6 : Int) : Option R :=
  bif decide (v5 < v4) then
  (gd (decide (0 ≤ v5))
   (gd (decide (v5 < (v3.length : Int)))
   (c_yy19 (v3.getD (Int.toNat v5) (0 : Int)) v6 (fun v7 v8 =>
    bif v7 then
    (Kr v5 v8)
    else (l_2 v3 v4 Kr Ke0 (IntKind.i64.wrap (v5 + 1)) v8)))))
  else (Ke0 v6)
def yy39_b {R : Type} (c_yy19 : T47 R) (l_2 : T58 R) (v1 : LI) (v2 : Int) (K : Int → Int → Option R) : Option R :=
  l_2 v1 (v1.length : Int)
  (fun v9 v10 =>
   K v9 v10)
  (fun v11 =>
   K (-1) v11) 0 v2
def yy39_l2 {R : Type} (kf : Nat) : Nat → LI → Int → (Int → Int → Option R) → (Int → Option R) → Int → Int → Option R
 | 0, _, _, _, _, _, _ => none
 | k + 1, y0, y1, y2, y3, y4, y5 => yy39_l2_b yy19 (yy39_l2 kf k) y0 y1 y2 y3 y4 y5
def yy39 {R : Type} (kf : Nat) (v1 : LI) (v2 : Int) (K : Int → Int → Option R) : Option R := yy39_b yy19 (yy39_l2 kf kf) v1 v2 K
def yy34_b {R : Type} (c_yy39 : T59 R) (v1 : LI) (v2 : Int) (K : Bool → Int → Option R) : Option R :=
  c_yy39 v1 v2 (fun v3 v4 =>
   K (decide (0 ≤ v3)) v4)
def yy34 {R : Type} (kf : Nat) (v1 : LI) (v2 : Int) (K : Bool → Int → Option R) : Option R := yy34_b (yy39 kf) v1 v2 K
def yy18_l6_b {R : Type} (c_yy22 : T1 R) (c_yy34 : T48 R) (l_6 : T60 R) (v6 : Int) (v7 : LL) (v8 : Int) (Kr : Bool → Option R) (Ke0 : Option R) (v9 : Int) (v10 : Int) : Option R :=
  bif decide (v9 < v8) then
  (gd (decide (0 ≤ v9))
   (gd (decide (v9 < (v7.length : Int)))
   (let j13 : Bool → Int → Option R := fun v11 v12 =>
    (bif v11 then
    (Kr false)
    else (l_6 v6 v7 v8 Kr Ke0 (IntKind.i64.wrap (v9 + 1)) v12))
    (bif (!(decide (((v7.getD (Int.toNat v9) ([] : LI)).length : Int) = v6))) then
    (j13 true v10)
    else (c_yy34 (v7.getD (Int.toNat v9) ([] : LI)) v10 (fun v14 v15 =>
     j13 v14 v15))))))
  else (Ke0)
def yy18_b {R : Type} (c_yy22 : T1 R) (c_yy34 : T48 R) (l_6 : T60 R) (v1 : LI) (v2 : LL) (v3 : LB) (K : Bool → Option R) : Option R :=
  let j17 : Bool → Option R := fun v4 =>
  (bif v4 then
   (K false)
   else (c_yy22 v1 v2 v3 (fun v5 =>
    l_6 v5 v2 (v2.length : Int)
    (fun v16 =>
    K v16)
    (K true) 0 (v2.length : Int))))
  (bif decide ((v2.length : Int) < 1) then
   (j17 true)
   else (bif decide (2000 < (v2.length : Int)) then
   (j17 true)
   else (j17 (!(decide ((v3.length : Int) = (v2.length : Int)))))))
def yy18_l6 {R : Type} (kf : Nat) : Nat → Int → LL → Int → (Bool → Option R) → (Option R) → Int → Int → Option R
 | 0, _, _, _, _, _, _, _ => none
 | k + 1, y0, y1, y2, y3, y4, y5, y6 => yy18_l6_b (yy22 kf) (yy34 kf) (yy18_l6 kf k) y0 y1 y2 y3 y4 y5 y6
def yy18 {R : Type} (kf : Nat) (v1 : LI) (v2 : LL) (v3 : LB) (K : Bool → Option R) : Option R := yy18_b (yy22 kf) (yy34 kf) (yy18_l6 kf kf) v1 v2 v3 K
def yy14_l3_b {R : Type} (l_3 : T61 R) (v4 : LI) (v5 : LI) (v6 : Int) (Ke0 : LI → Option R) (v7 : Int) (v8 : LI) : Option R :=
  bif decide (v7 < v6) then
  (gd (decide (0 ≤ v7))
   (gd (decide (v7 < (v5.length : Int)))
   (gd (decide (0 ≤ (v5.getD (Int.toNat v7) (0 : Int))))
    (gd (decide ((v5.getD (Int.toNat v7) (0 : Int)) < (v4.length : Int)))
    (gd (decide (0 ≤ (v5.getD (Int.toNat v7) (0 : Int))))
     (gd (decide ((v5.getD (Int.toNat v7) (0 : Int)) < (v4.length : Int)))
     (gd (decide (v8.length + ([(IntKind.u8.wrap (v4.getD (Int.toNat (v5.getD (Int.toNat v7) (0 : Int))) (0 : Int))), (IntKind.u8.wrap (shr .i64 (v4.getD (Int.toNat (v5.getD (Int.toNat v7) (0 : Int))) (0 : Int)) 8))] : List Int).length < SMALL))
      (l_3 v4 v5 v6 Ke0 (IntKind.i64.wrap (v7 + 1)) (v8 ++ ([(IntKind.u8.wrap (v4.getD (Int.toNat (v5.getD (Int.toNat v7) (0 : Int))) (0 : Int))), (IntKind.u8.wrap (shr .i64 (v4.getD (Int.toNat (v5.getD (Int.toNat v7) (0 : Int))) (0 : Int)) 8))] : List Int))))))))))
  else (Ke0 v8)
def yy14_b {R : Type} (l_3 : T61 R) (v1 : Int) (v2 : LI) (v3 : LI) (K : LI → Option R) : Option R :=
  l_3 v3 v2 (v2.length : Int)
  (fun v9 =>
   K v9) 0 ([(IntKind.u8.wrap v1), (IntKind.u8.wrap (shr .i64 v1 8))] : List Int)
def yy14_l3 {R : Type} (kf : Nat) : Nat → LI → LI → Int → (LI → Option R) → Int → LI → Option R
 | 0, _, _, _, _, _, _ => none
 | k + 1, y0, y1, y2, y3, y4, y5 => yy14_l3_b (yy14_l3 kf k) y0 y1 y2 y3 y4 y5
def yy14 {R : Type} (kf : Nat) (v1 : Int) (v2 : LI) (v3 : LI) (K : LI → Option R) : Option R := yy14_b (yy14_l3 kf kf) v1 v2 v3 K
def yy16_l4_b {R : Type} (c_yy14 : T24 R) (l_4 : T33 R) (l_9 : T34 R) (l_12 : T35 R) (v5 : LB) (v6 : Int) (v8 : LI) (v9 : LL) (v10 : LB) (Ke0 : Int → LI → LL → LB → LI → Option R) (v4 : Int) (v7 : Int) (v11 : LI) : Option R :=
  bif decide (v7 < v6) then
  (gd (decide (0 ≤ v7))
   (gd (decide (v7 < (v5.length : Int)))
   (gd (decide (0 < (v10.length : Int)))
    (bif (!(decide ((v5.getD (Int.toNat v7) false) = (v10.getD 0 false)))) then
    (gd (decide (0 ≤ v7))
     (gd (decide (v7 < (v11.length : Int)))
     (l_4 v5 v6 v8 v9 v10 Ke0 2 (IntKind.i64.wrap (v7 + 1)) (v11.set (Int.toNat v7) 1))))
    else (l_4 v5 v6 v8 v9 v10 Ke0 v4 (IntKind.i64.wrap (v7 + 1)) v11)))))
  else (Ke0 v4 v8 v9 v10 v11)
def yy16_l9_b {R : Type} (c_yy14 : T24 R) (l_4 : T33 R) (l_9 : T34 R) (l_12 : T35 R) (Kr : LI → Option R) (v17 : Int) (v18 : LI) (v19 : LL) (v20 : LB) (v21 : LI) : Option R :=
  gd (decide (0 ≤ (v21.length : Int)))
  (gd (decide ((v21.length : Int) ≤ (v21.length : Int)))
   (gd (decide ((v21.length : Int) < (SMALL : Int)))
   (l_12 v17 v19 (v19.length : Int) v18 v19 v20 v21
    (fun v36 v37 v38 v39 v40 v41 =>
    gd (decide (v41.length < SMALL))
    (bif decide ((v41.length : Int) = v36) then
     (Kr v40)
     else (gd (decide (v41.length < SMALL))
     (l_9 Kr (v41.length : Int) v37 v38 v39 v40)))) 0 (List.replicate (Int.toNat (v21.length : Int)) (0 : Int)) ([] : List (LI × Int)))))
def yy16_l12_b {R : Type} (c_yy14 : T24 R) (l_4 : T33 R) (l_9 : T34 R) (l_12 : T35 R) (v22 : Int) (v23 : LL) (v24 : Int) (v26 : LI) (v27 : LL) (v28 : LB) (v29 : LI) (Ke4 : Int → LI → LL → LB → LI → (List (LI × Int)) → Option R) (v25 : Int) (v30 : LI) (v31 : (List (LI × Int))) : Option R :=
  bif decide (v25 < v24) then
  (gd (decide (0 ≤ v25))
   (gd (decide (v25 < (v23.length : Int)))
   (gd (decide (0 ≤ v25))
    (gd (decide (v25 < (v29.length : Int)))
    (c_yy14 (v29.getD (Int.toNat v25) (0 : Int)) (v23.getD (Int.toNat v25) ([] : LI)) v29 (fun v32 =>
     let j35 : Int → (List (LI × Int)) → Option R := fun v33 v34 =>
     (gd (decide (0 ≤ v25))
      (gd (decide (v25 < (v30.length : Int)))
      (l_12 v22 v23 v24 v26 v27 v28 v29 Ke4 (IntKind.i64.wrap (v25 + 1)) (v30.set (Int.toNat v25) v33) v34)))
     (bif (!((mget v31 v32).isSome)) then
      (gd (decide (v31.length < SMALL))
      (j35 (v31.length : Int) (mset v31 v32 (v31.length : Int))))
      else (j35 ((mget v31 v32).getD (0 : Int)) v31))))))))
  else (Ke4 v22 v26 v27 v28 v30 v31)
def yy16_b {R : Type} (c_yy14 : T24 R) (l_4 : T33 R) (l_9 : T34 R) (l_12 : T35 R) (v1 : LI) (v2 : LL) (v3 : LB) (K : LI → Option R) : Option R :=
  gd (decide (0 ≤ (v2.length : Int)))
  (gd (decide ((v2.length : Int) ≤ (v2.length : Int)))
   (gd (decide ((v2.length : Int) < (SMALL : Int)))
   (l_4 v3 (v3.length : Int) v1 v2 v3
    (fun v12 v13 v14 v15 v16 =>
    l_9
    (fun v42 =>
     K v42) v12 v13 v14 v15 v16) 1 0 (List.replicate (Int.toNat (v2.length : Int)) (0 : Int)))))
def yy16_l4 {R : Type} (kf : Nat) : Nat → LB → Int → LI → LL → LB → (Int → LI → LL → LB → LI → Option R) → Int → Int → LI → Option R
 | 0, _, _, _, _, _, _, _, _, _ => none
 | k + 1, y0, y1, y2, y3, y4, y5, y6, y7, y8 => yy16_l4_b (yy14 kf) (yy16_l4 kf k) (fun _ _ _ _ _ _ => none) (fun _ _ _ _ _ _ _ _ _ _ _ => none) y0 y1 y2 y3 y4 y5 y6 y7 y8
def yy16_l12 {R : Type} (kf : Nat) : Nat → Int → LL → Int → LI → LL → LB → LI → (Int → LI → LL → LB → LI → (List (LI × Int)) → Option R) → Int → LI → (List (LI × Int)) → Option R
 | 0, _, _, _, _, _, _, _, _, _, _, _ => none
 | k + 1, y0, y1, y2, y3, y4, y5, y6, y7, y8, y9, y10 => yy16_l12_b (yy14 kf) (yy16_l4 kf k) (fun _ _ _ _ _ _ => none) (yy16_l12 kf k) y0 y1 y2 y3 y4 y5 y6 y7 y8 y9 y10
def yy16_l9 {R : Type} (kf : Nat) : Nat → (LI → Option R) → Int → LI → LL → LB → LI → Option R
 | 0, _, _, _, _, _, _ => none
 | k + 1, y0, y1, y2, y3, y4, y5 => yy16_l9_b (yy14 kf) (yy16_l4 kf k) (yy16_l9 kf k) (yy16_l12 kf k) y0 y1 y2 y3 y4 y5
def yy16 {R : Type} (kf : Nat) (v1 : LI) (v2 : LL) (v3 : LB) (K : LI → Option R) : Option R := yy16_b (yy14 kf) (yy16_l4 kf kf) (yy16_l9 kf kf) (yy16_l12 kf kf) v1 v2 v3 K
def yy15_l4_b {R : Type} (l_4 : T49 R) (l_7 : T50 R) (Ke0 : LI → (List (Int × Int)) → Option R) (v5 : LI) (v6 : Int) (v7 : LI) (v8 : LL) (v9 : LB) (v10 : LI) (v11 : (List (Int × Int))) : Option R :=
  bif decide (v6 < (v10.length : Int)) then
  (l_7 v5 v6 v7 v8 v9
   (fun v21 v22 v23 v24 v25 v26 v27 =>
   l_4 Ke0 v21 (IntKind.i64.wrap (v22 + 1)) v23 v24 v25 v26 v27) 0 v10 v11)
  else (Ke0 v10 v11)
def yy15_l7_b {R : Type} (l_4 : T49 R) (l_7 : T50 R) (v12 : LI) (v13 : Int) (v15 : LI) (v16 : LL) (v17 : LB) (Ke2 : LI → Int → LI → LL → LB → LI → (List (Int × Int)) → Option R) (v14 : Int) (v18 : LI) (v19 : (List (Int × Int))) : Option R :=
  bif decide (v14 < 256) then
  (gd (decide (0 ≤ v13))
   (gd (decide (v13 < (v18.length : Int)))
   (gd (decide (0 ≤ (v18.getD (Int.toNat v13) (0 : Int))))
    (gd (decide ((v18.getD (Int.toNat v13) (0 : Int)) < (v16.length : Int)))
    (gd (decide (0 ≤ v14))
     (gd (decide (v14 < 256))
     (gd (decide (0 ≤ (v15.getD (Int.toNat v14) (0 : Int))))
      (gd (decide ((v15.getD (Int.toNat v14) (0 : Int)) < ((v16.getD (Int.toNat (v18.getD (Int.toNat v13) (0 : Int))) ([] : LI)).length : Int)))
      (let v20 : Int := ((v16.getD (Int.toNat (v18.getD (Int.toNat v13) (0 : Int))) ([] : LI)).getD (Int.toNat (v15.getD (Int.toNat v14) (0 : Int))) (0 : Int))
       gd (decide (0 ≤ v20))
       (gd (decide (v20 < (v12.length : Int)))
       (bif (!((mget v19 (v12.getD (Int.toNat v20) (0 : Int))).isSome)) then
        (gd (decide (0 ≤ v20))
        (gd (decide (v20 < (v12.length : Int)))
         (gd (decide (v18.length + ([v20] : List Int).length < SMALL))
         (l_7 v12 v13 v15 v16 v17 Ke2 (IntKind.i64.wrap (v14 + 1)) (v18 ++ ([v20] : List Int)) (mset v19 (v12.getD (Int.toNat v20) (0 : Int)) (v18.length : Int))))))
        else (l_7 v12 v13 v15 v16 v17 Ke2 (IntKind.i64.wrap (v14 + 1)) v18 v19))))))))))))
  else (Ke2 v12 v13 v15 v16 v17 v18 v19)
def yy15_b {R : Type} (l_4 : T49 R) (l_7 : T50 R) (v1 : LI) (v2 : LL) (v3 : LB) (v4 : LI) (K : LI → (List (Int × Int)) → Option R) : Option R :=
  gd (decide (0 < (v4.length : Int)))
  (l_4
   (fun v28 v29 =>
   K v28 v29) v4 0 v1 v2 v3 ([0] : List Int) (mset ([] : List (Int × Int)) (v4.getD 0 (0 : Int)) 0))
def yy15_l7 {R : Type} (kf : Nat) : Nat → LI → Int → LI → LL → LB → (LI → Int → LI → LL → LB → LI → (List (Int × Int)) → Option R) → Int → LI → (List (Int × Int)) → Option R
 | 0, _, _, _, _, _, _, _, _, _ => none
 | k + 1, y0, y1, y2, y3, y4, y5, y6, y7, y8 => yy15_l7_b (fun _ _ _ _ _ _ _ _ => none) (yy15_l7 kf k) y0 y1 y2 y3 y4 y5 y6 y7 y8
def yy15_l4 {R : Type} (kf : Nat) : Nat → (LI → (List (Int × Int)) → Option R) → LI → Int → LI → LL → LB → LI → (List (Int × Int)) → Option R
 | 0, _, _, _, _, _, _, _, _ => none
 | k + 1, y0, y1, y2, y3, y4, y5, y6, y7 => yy15_l4_b (yy15_l4 kf k) (yy15_l7 kf k) y0 y1 y2 y3 y4 y5 y6 y7
def yy15 {R : Type} (kf : Nat) (v1 : LI) (v2 : LL) (v3 : LB) (v4 : LI) (K : LI → (List (Int × Int)) → Option R) : Option R := yy15_b (yy15_l4 kf kf) (yy15_l7 kf kf) v1 v2 v3 v4 K
def yy37_l4_b {R : Type} (l_4 : T62 R) (v3 : LI) (v4 : LI) (v5 : Int) (Kr : Bool → Option R) (Ke0 : Option R) (v6 : Int) : Option R :=
  bif decide (v6 < v5) then
  (gd (decide (0 ≤ v6))
   (gd (decide (v6 < (v3.length : Int)))
   (gd (decide (0 ≤ v6))
    (gd (decide (v6 < (v4.length : Int)))
    (bif (!(decide ((v3.getD (Int.toNat v6) (0 : Int)) = (v4.getD (Int.toNat v6) (0 : Int))))) then
     (Kr false)
     else (l_4 v3 v4 v5 Kr Ke0 (IntKind.i64.wrap (v6 + 1))))))))
  else (Ke0)
def yy37_b {R : Type} (l_4 : T62 R) (v1 : LI) (v2 : LI) (K : Bool → Option R) : Option R :=
  bif (!(decide ((v1.length : Int) = (v2.length : Int)))) then
  (K false)
  else (l_4 v1 v2 (v1.length : Int)
   (fun v7 =>
   K v7)
   (K true) 0)
def yy37_l4 {R : Type} (kf : Nat) : Nat → LI → LI → Int → (Bool → Option R) → (Option R) → Int → Option R
 | 0, _, _, _, _, _, _ => none
 | k + 1, y0, y1, y2, y3, y4, y5 => yy37_l4_b (yy37_l4 kf k) y0 y1 y2 y3 y4 y5
def yy37 {R : Type} (kf : Nat) (v1 : LI) (v2 : LI) (K : Bool → Option R) : Option R := yy37_b (yy37_l4 kf kf) v1 v2 K
def yy13_b {R : Type} (c_yy37 : T3 R) (v1 : LI) (v2 : LI) (K : Bool → LI → Option R) : Option R :=
  c_yy37 v1 v2 (fun v3 =>
   K v3 v2)
def yy13 {R : Type} (kf : Nat) (v1 : LI) (v2 : LI) (K : Bool → LI → Option R) : Option R := yy13_b (yy37 kf) v1 v2 K
def yy38_l2_b {R : Type} (c_yy13 : T51 R) (l_2 : T63 R) (v3 : LL) (v4 : Int) (Kr : Int → LI → Option R) (Ke0 : LI → Option R) (v5 : Int) (v6 : LI) : Option R :=
  bif decide (v5 < v4) then
  (gd (decide (0 ≤ v5))
   (gd (decide (v5 < (v3.length : Int)))
   (c_yy13 (v3.getD (Int.toNat v5) ([] : LI)) v6 (fun v7 v8 =>
    bif v7 then
    (Kr v5 v8)
    else (l_2 v3 v4 Kr Ke0 (IntKind.i64.wrap (v5 + 1)) v8)))))
  else (Ke0 v6)
def yy38_b {R : Type} (c_yy13 : T51 R) (l_2 : T63 R) (v1 : LL) (v2 : LI) (K : Int → LI → Option R) : Option R :=
  l_2 v1 (v1.length : Int)
  (fun v9 v10 =>
   K v9 v10)
  (fun v11 =>
   K (-1) v11) 0 v2
def yy38_l2 {R : Type} (kf : Nat) : Nat → LL → Int → (Int → LI → Option R) → (LI → Option R) → Int → LI → Option R
 | 0, _, _, _, _, _, _ => none
 | k + 1, y0, y1, y2, y3, y4, y5 => yy38_l2_b (yy13 kf) (yy38_l2 kf k) y0 y1 y2 y3 y4 y5
def yy38 {R : Type} (kf : Nat) (v1 : LL) (v2 : LI) (K : Int → LI → Option R) : Option R := yy38_b (yy13 kf) (yy38_l2 kf kf) v1 v2 K
def yy12_l8_b {R : Type} (c_yy18 : T0 R) (c_yy16 : T2 R) (c_yy15 : T10 R) (c_yy38 : T11 R) (l_8 : T25 R) (l_12 : T26 R) (l_23 : T27 R) (l_27 : T28 R) (Ke0 : LI → LL → LB → LI → LI → LI → LL → LL → LB → LL → LB → Option R) (v8 : Int) (v9 : LI) (v10 : LL) (v11 : LB) (v12 : LI) (v13 : LI) (v14 : LI) (v15 : (List (Int × Int))) (v16 : LI) (v17 : LL) (v18 : LL) (v19 : LB) (v20 : LL) (v21 : LB) : Option R :=
  bif decide (v8 < 256) then
  (l_12 v8 v8 (v14.length : Int) v9 v10 v11 v12 v13 v14 v15 v16 v17 v18 v19 v20 v21
   (fun v40 v41 v42 v43 v44 v45 v46 v47 v48 v49 v50 v51 v52 v53 v54 v55 =>
   c_yy38 v50 v55 (fun v56 v57 =>
    let j60 : Int → LL → Option R := fun v58 v59 =>
    (gd (decide (0 ≤ v40))
    (gd (decide (v40 < 256))
     (l_8 Ke0 (IntKind.i64.wrap (v41 + 1)) v42 v43 v44 v45 v46 v47 v48 (v49.set (Int.toNat v40) (IntKind.u8.wrap v58)) v59 v51 v52 v53 v54)))
    (bif decide (v56 < 0) then
    (gd (decide (v50.length + ([v57] : List LI).length < SMALL))
     (j60 (v50.length : Int) (v50 ++ ([v57] : List LI))))
    else (j60 v56 v50)))) 0 ([] : List Int))
  else (Ke0 v9 v10 v11 v12 v14 v16 v17 v18 v19 v20 v21)
def yy12_l12_b {R : Type} (c_yy18 : T0 R) (c_yy16 : T2 R) (c_yy15 : T10 R) (c_yy38 : T11 R) (l_8 : T25 R) (l_12 : T26 R) (l_23 : T27 R) (l_27 : T28 R) (v22 : Int) (v23 : Int) (v24 : Int) (v26 : LI) (v27 : LL) (v28 : LB) (v29 : LI) (v30 : LI) (v31 : LI) (v32 : (List (Int × Int))) (v33 : LI) (v34 : LL) (v35 : LL) (v36 : LB) (v37 : LL) (v38 : LB) (Ke2 : Int → Int → LI → LL → LB → LI → LI → LI → (List (Int × Int)) → LI → LL → LL → LB → LL → LB → LI → Option R) (v25 : Int) (v39 : LI) : Option R :=
  bif decide (v25 < v24) then
  (gd (decide (0 ≤ v25))
   (gd (decide (v25 < (v31.length : Int)))
   (gd (decide (0 ≤ (v31.getD (Int.toNat v25) (0 : Int))))
    (gd (decide ((v31.getD (Int.toNat v25) (0 : Int)) < (v27.length : Int)))
    (gd (decide (0 ≤ v22))
     (gd (decide (v22 < 256))
     (gd (decide (0 ≤ (v26.getD (Int.toNat v22) (0 : Int))))
      (gd (decide ((v26.getD (Int.toNat v22) (0 : Int)) < ((v27.getD (Int.toNat (v31.getD (Int.toNat v25) (0 : Int))) ([] : LI)).length : Int)))
      (gd (decide (0 ≤ ((v27.getD (Int.toNat (v31.getD (Int.toNat v25) (0 : Int))) ([] : LI)).getD (Int.toNat (v26.getD (Int.toNat v22) (0 : Int))) (0 : Int))))
       (gd (decide (((v27.getD (Int.toNat (v31.getD (Int.toNat v25) (0 : Int))) ([] : LI)).getD (Int.toNat (v26.getD (Int.toNat v22) (0 : Int))) (0 : Int)) < (v30.length : Int)))
       (gd (decide (v39.length + ([((mget v32 (v30.getD (Int.toNat ((v27.getD (Int.toNat (v31.getD (Int.toNat v25) (0 : Int))) ([] : LI)).getD (Int.toNat (v26.getD (Int.toNat v22) (0 : Int))) (0 : Int))) (0 : Int))).getD (0 : Int))] : List Int).length < SMALL))
        (l_12 v22 v23 v24 v26 v27 v28 v29 v30 v31 v32 v33 v34 v35 v36 v37 v38 Ke2 (IntKind.i64.wrap (v25 + 1)) (v39 ++ ([((mget v32 (v30.getD (Int.toNat ((v27.getD (Int.toNat (v31.getD (Int.toNat v25) (0 : Int))) ([] : LI)).getD (Int.toNat (v26.getD (Int.toNat v22) (0 : Int))) (0 : Int))) (0 : Int))).getD (0 : Int))] : List Int))))))))))))))
  else (Ke2 v22 v23 v26 v27 v28 v29 v30 v31 v32 v33 v34 v35 v36 v37 v38 v39)
def yy12_l23_b {R : Type} (c_yy18 : T0 R) (c_yy16 : T2 R) (c_yy15 : T10 R) (c_yy38 : T11 R) (l_8 : T25 R) (l_12 : T26 R) (l_23 : T27 R) (l_27 : T28 R) (Ke4 : LI → LI → LL → LB → LL → LB → Option R) (v72 : Int) (v73 : Int) (v74 : LI) (v75 : LL) (v76 : LB) (v77 : LI) (v78 : LI) (v79 : LL) (v80 : LI) (v81 : LL) (v82 : LB) (v83 : LL) (v84 : LB) : Option R :=
  bif decide (v73 < v72) then
  (gd (decide (0 ≤ v73))
   (gd (decide (v73 < (v80.length : Int)))
   (l_27 v73 (v80.getD (Int.toNat v73) (0 : Int)) v72 v73 (v79.length : Int) v74 v75 v76 v77 v78 v79 v80 v81 v82 v83 v84
    (fun v103 v104 v105 v106 v107 v108 v109 v110 v111 v112 v113 v114 v115 v116 v117 =>
    gd (decide (v116.length + ([v112] : List LI).length < SMALL))
    (gd (decide (0 ≤ v103))
     (gd (decide (v103 < (v108.length : Int)))
     (gd (decide (v117.length + ([(v108.getD (Int.toNat v103) false)] : List Bool).length < SMALL))
      (l_23 Ke4 v104 (IntKind.i64.wrap (v105 + 1)) v106 v107 v108 v109 v110 v111 v113 v114 v115 (v116 ++ ([v112] : List LI)) (v117 ++ ([(v108.getD (Int.toNat v103) false)] : List Bool))))))) 0 ([] : List Int))))
  else (Ke4 v77 v78 v81 v82 v83 v84)
def yy12_l27_b {R : Type} (c_yy18 : T0 R) (c_yy16 : T2 R) (c_yy15 : T10 R) (c_yy38 : T11 R) (l_8 : T25 R) (l_12 : T26 R) (l_23 : T27 R) (l_27 : T28 R) (v85 : Int) (v86 : Int) (v87 : Int) (v88 : Int) (v89 : Int) (v91 : LI) (v92 : LL) (v93 : LB) (v94 : LI) (v95 : LI) (v96 : LL) (v98 : LI) (v99 : LL) (v100 : LB) (v101 : LL) (v102 : LB) (Ke6 : Int → Int → Int → LI → LL → LB → LI → LI → LL → LI → LI → LL → LB → LL → LB → Option R) (v90 : Int) (v97 : LI) : Option R :=
  bif decide (v90 < v89) then
  (gd (decide (0 ≤ v90))
   (gd (decide (v90 < (v96.length : Int)))
   (gd (decide (0 ≤ v85))
    (gd (decide (v85 < ((v96.getD (Int.toNat v90) ([] : LI)).length : Int)))
    (gd (decide (v97.length + ([((v96.getD (Int.toNat v90) ([] : LI)).getD (Int.toNat v85) (0 : Int))] : List Int).length < SMALL))
     (l_27 v85 v86 v87 v88 v89 v91 v92 v93 v94 v95 v96 v98 v99 v100 v101 v102 Ke6 (IntKind.i64.wrap (v90 + 1)) (v97 ++ ([((v96.getD (Int.toNat v90) ([] : LI)).getD (Int.toNat v85) (0 : Int))] : List Int))))))))
  else (Ke6 v86 v87 v88 v91 v92 v93 v94 v95 v96 v97 v98 v99 v100 v101 v102)
def yy12_b {R : Type} (c_yy18 : T0 R) (c_yy16 : T2 R) (c_yy15 : T10 R) (c_yy38 : T11 R) (l_8 : T25 R) (l_12 : T26 R) (l_23 : T27 R) (l_27 : T28 R) (v1 : LI) (v2 : LL) (v3 : LB) (K : LI → LL → LB → Option R) : Option R :=
  c_yy18 v1 v2 v3 (fun v4 =>
   bif (!v4) then
   (K (List.replicate 256 (0 : Int)) ([] : List LI) ([] : List Bool))
   else (c_yy16 v1 v2 v3 (fun v5 =>
    c_yy15 v1 v2 v3 v5 (fun v6 v7 =>
    l_8
    (fun v61 v62 v63 v64 v65 v66 v67 v68 v69 v70 v71 =>
     l_23
     (fun v118 v119 v120 v121 v122 v123 =>
     K v119 v122 v123) (v65.length : Int) 0 v61 v62 v63 v64 v66 v67 v65 v68 v69 v70 v71) 0 v1 v2 v3 (List.replicate 256 (0 : Int)) v5 v6 v7 (List.replicate 256 (0 : Int)) ([] : List LI) ([] : List LI) ([] : List Bool) ([] : List LI) ([] : List Bool)))))
def yy12_l12 {R : Type} (kf : Nat) : Nat → Int → Int → Int → LI → LL → LB → LI → LI → LI → (List (Int × Int)) → LI → LL → LL → LB → LL → LB → (Int → Int → LI → LL → LB → LI → LI → LI → (List (Int × Int)) → LI → LL → LL → LB → LL → LB → LI → Option R) → Int → LI → Option R
 | 0, _, _, _, _, _, _, _, _, _, _, _, _, _, _, _, _, _, _, _ => none
 | k + 1, y0, y1, y2, y3, y4, y5, y6, y7, y8, y9, y10, y11, y12, y13, y14, y15, y16, y17, y18 => yy12_l12_b (yy18 kf) (yy16 kf) (yy15 kf) (yy38 kf) (fun _ _ _ _ _ _ _ _ _ _ _ _ _ _ _ => none) (yy12_l12 kf k) (fun _ _ _ _ _ _ _ _ _ _ _ _ _ _ => none) (fun _ _ _ _ _ _ _ _ _ _ _ _ _ _ _ _ _ _ _ => none) y0 y1 y2 y3 y4 y5 y6 y7 y8 y9 y10 y11 y12 y13 y14 y15 y16 y17 y18
def yy12_l8 {R : Type} (kf : Nat) : Nat → (LI → LL → LB → LI → LI → LI → LL → LL → LB → LL → LB → Option R) → Int → LI → LL → LB → LI → LI → LI → (List (Int × Int)) → LI → LL → LL → LB → LL → LB → Option R
 | 0, _, _, _, _, _, _, _, _, _, _, _, _, _, _, _ => none
 | k + 1, y0, y1, y2, y3, y4, y5, y6, y7, y8, y9, y10, y11, y12, y13, y14 => yy12_l8_b (yy18 kf) (yy16 kf) (yy15 kf) (yy38 kf) (yy12_l8 kf k) (yy12_l12 kf k) (fun _ _ _ _ _ _ _ _ _ _ _ _ _ _ => none) (fun _ _ _ _ _ _ _ _ _ _ _ _ _ _ _ _ _ _ _ => none) y0 y1 y2 y3 y4 y5 y6 y7 y8 y9 y10 y11 y12 y13 y14
def yy12_l27 {R : Type} (kf : Nat) : Nat → Int → Int → Int → Int → Int → LI → LL → LB → LI → LI → LL → LI → LL → LB → LL → LB → (Int → Int → Int → LI → LL → LB → LI → LI → LL → LI → LI → LL → LB → LL → LB → Option R) → Int → LI → Option R
 | 0, _, _, _, _, _, _, _, _, _, _, _, _, _, _, _, _, _, _, _ => none
 | k + 1, y0, y1, y2, y3, y4, y5, y6, y7, y8, y9, y10, y11, y12, y13, y14, y15, y16, y17, y18 => yy12_l27_b (yy18 kf) (yy16 kf) (yy15 kf) (yy38 kf) (yy12_l8 kf k) (yy12_l12 kf k) (fun _ _ _ _ _ _ _ _ _ _ _ _ _ _ => none) (yy12_l27 kf k) y0 y1 y2 y3 y4 y5 y6 y7 y8 y9 y10 y11 y12 y13 y14 y15 y16 y17 y18
def yy12_l23 {R : Type} (kf : Nat) : Nat → (LI → LI → LL → LB → LL → LB → Option R) → Int → Int → LI → LL → LB → LI → LI → LL → LI → LL → LB → LL → LB → Option R
 | 0, _, _, _, _, _, _, _, _, _, _, _, _, _, _ => none
 | k + 1, y0, y1, y2, y3, y4, y5, y6, y7, y8, y9, y10, y11, y12, y13 => yy12_l23_b (yy18 kf) (yy16 kf) (yy15 kf) (yy38 kf) (yy12_l8 kf k) (yy12_l12 kf k) (yy12_l23 kf k) (yy12_l27 kf k) y0 y1 y2 y3 y4 y5 y6 y7 y8 y9 y10 y11 y12 y13
def yy12 {R : Type} (kf : Nat) (v1 : LI) (v2 : LL) (v3 : LB) (K : LI → LL → LB → Option R) : Option R := yy12_b (yy18 kf) (yy16 kf) (yy15 kf) (yy38 kf) (yy12_l8 kf kf) (yy12_l12 kf kf) (yy12_l23 kf kf) (yy12_l27 kf kf) v1 v2 v3 K
def yy36_l4_b {R : Type} (l_4 : T64 R) (v3 : LB) (v4 : LB) (v5 : Int) (Kr : Bool → Option R) (Ke0 : Option R) (v6 : Int) : Option R :=
  bif decide (v6 < v5) then
  (gd (decide (0 ≤ v6))
   (gd (decide (v6 < (v3.length : Int)))
   (gd (decide (0 ≤ v6))
    (gd (decide (v6 < (v4.length : Int)))
    (bif (!(decide ((v3.getD (Int.toNat v6) false) = (v4.getD (Int.toNat v6) false)))) then
     (Kr false)
     else (l_4 v3 v4 v5 Kr Ke0 (IntKind.i64.wrap (v6 + 1))))))))
  else (Ke0)
def yy36_b {R : Type} (l_4 : T64 R) (v1 : LB) (v2 : LB) (K : Bool → Option R) : Option R :=
  bif (!(decide ((v1.length : Int) = (v2.length : Int)))) then
  (K false)
  else (l_4 v1 v2 (v1.length : Int)
   (fun v7 =>
   K v7)
   (K true) 0)
def yy36_l4 {R : Type} (kf : Nat) : Nat → LB → LB → Int → (Bool → Option R) → (Option R) → Int → Option R
 | 0, _, _, _, _, _, _ => none
 | k + 1, y0, y1, y2, y3, y4, y5 => yy36_l4_b (yy36_l4 kf k) y0 y1 y2 y3 y4 y5
def yy36 {R : Type} (kf : Nat) (v1 : LB) (v2 : LB) (K : Bool → Option R) : Option R := yy36_b (yy36_l4 kf kf) v1 v2 K
def yy21_b {R : Type} (c_yy37 : T3 R) (v1 : LI) (v2 : LI) (K : Bool → Option R) : Option R :=
  c_yy37 v1 v2 (fun v3 =>
   K v3)
def yy21 {R : Type} (kf : Nat) (v1 : LI) (v2 : LI) (K : Bool → Option R) : Option R := yy21_b (yy37 kf) v1 v2 K
def yy35_l4_b {R : Type} (c_yy21 : T3 R) (l_4 : T65 R) (v3 : LL) (v4 : LL) (v5 : Int) (Kr : Bool → Option R) (Ke0 : Option R) (v6 : Int) : Option R :=
  bif decide (v6 < v5) then
  (gd (decide (0 ≤ v6))
   (gd (decide (v6 < (v4.length : Int)))
   (gd (decide (0 ≤ v6))
    (gd (decide (v6 < (v3.length : Int)))
    (c_yy21 (v4.getD (Int.toNat v6) ([] : LI)) (v3.getD (Int.toNat v6) ([] : LI)) (fun v7 =>
     bif (!v7) then
     (Kr false)
     else (l_4 v3 v4 v5 Kr Ke0 (IntKind.i64.wrap (v6 + 1)))))))))
  else (Ke0)
def yy35_b {R : Type} (c_yy21 : T3 R) (l_4 : T65 R) (v1 : LL) (v2 : LL) (K : Bool → Option R) : Option R :=
  bif (!(decide ((v1.length : Int) = (v2.length : Int)))) then
  (K false)
  else (l_4 v2 v1 (v1.length : Int)
   (fun v8 =>
   K v8)
   (K true) 0)
def yy35_l4 {R : Type} (kf : Nat) : Nat → LL → LL → Int → (Bool → Option R) → (Option R) → Int → Option R
 | 0, _, _, _, _, _, _ => none
 | k + 1, y0, y1, y2, y3, y4, y5 => yy35_l4_b (yy21 kf) (yy35_l4 kf k) y0 y1 y2 y3 y4 y5
def yy35 {R : Type} (kf : Nat) (v1 : LL) (v2 : LL) (K : Bool → Option R) : Option R := yy35_b (yy21 kf) (yy35_l4 kf kf) v1 v2 K
def yy20_b {R : Type} (c_yy36 : T66 R) (c_yy35 : T67 R) (v1 : LI) (v2 : LL) (v3 : LB) (v4 : LI) (v5 : LL) (v6 : LB) (K : Bool → Option R) : Option R :=
  bif decide (v1 = v4) then
  (c_yy36 v3 v6 (fun v7 =>
   bif v7 then
   (c_yy35 v2 v5 (fun v8 =>
    K v8))
   else (K false)))
  else (K false)
def yy20 {R : Type} (kf : Nat) (v1 : LI) (v2 : LL) (v3 : LB) (v4 : LI) (v5 : LL) (v6 : LB) (K : Bool → Option R) : Option R := yy20_b (yy36 kf) (yy35 kf) v1 v2 v3 v4 v5 v6 K
def yy11_b {R : Type} (c_yy18 : T0 R) (c_yy12 : T23 R) (c_yy20 : T5 R) (v1 : LI) (v2 : LL) (v3 : LB) (K : Bool → Option R) : Option R :=
  c_yy18 v1 v2 v3 (fun v4 =>
   bif v4 then
   (c_yy12 v1 v2 v3 (fun v5 v6 v7 =>
    c_yy20 v5 v6 v7 v1 v2 v3 (fun v8 =>
    K v8)))
   else (K false))
def yy11 {R : Type} (kf : Nat) (v1 : LI) (v2 : LL) (v3 : LB) (K : Bool → Option R) : Option R := yy11_b (yy18 kf) (yy12 kf) (yy20 kf) v1 v2 v3 K
def yy17_b {R : Type} (c_yy18 : T0 R) (c_yy22 : T1 R) (v1 : LI) (v2 : LL) (v3 : LB) (K : Int → Option R) : Option R :=
  c_yy18 v1 v2 v3 (fun v4 =>
   bif (!v4) then
   (K 0)
   else (c_yy22 v1 v2 v3 (fun v5 =>
    K v5)))
def yy17 {R : Type} (kf : Nat) (v1 : LI) (v2 : LL) (v3 : LB) (K : Int → Option R) : Option R := yy17_b (yy18 kf) (yy22 kf) v1 v2 v3 K
def yy0_l7_b {R : Type} (c_yy11 : T0 R) (c_yy17 : T1 R) (l_7 : T36 R) (l_15 : T37 R) (l_22 : T38 R) (v6 : LI) (v7 : LL) (v8 : LB) (Ke1 : LI → LL → LB → LI → Option R) (v5 : Int) (v9 : LI) : Option R :=
  bif decide (v5 < 256) then
  (let j11 : Bool → Option R := fun v10 =>
   (bif v10 then
   (gd (decide (0 ≤ v5))
    (gd (decide (v5 < 256))
    (gd (decide (v9.length + ([(IntKind.u8.wrap v5), (v6.getD (Int.toNat v5) (0 : Int))] : List Int).length < SMALL))
     (l_7 v6 v7 v8 Ke1 (IntKind.i64.wrap (v5 + 1)) (v9 ++ ([(IntKind.u8.wrap v5), (v6.getD (Int.toNat v5) (0 : Int))] : List Int))))))
   else (l_7 v6 v7 v8 Ke1 (IntKind.i64.wrap (v5 + 1)) v9))
   (bif decide (v5 = 255) then
   (j11 true)
   else (gd (decide (0 ≤ (IntKind.i64.wrap (v5 + 1))))
    (gd (decide ((IntKind.i64.wrap (v5 + 1)) < 256))
    (gd (decide (0 ≤ v5))
     (gd (decide (v5 < 256))
     (j11 (!(decide ((v6.getD (Int.toNat (IntKind.i64.wrap (v5 + 1))) (0 : Int)) = (v6.getD (Int.toNat v5) (0 : Int))))))))))))
  else (Ke1 v6 v7 v8 v9)
def yy0_l15_b {R : Type} (c_yy11 : T0 R) (c_yy17 : T1 R) (l_7 : T36 R) (l_15 : T37 R) (l_22 : T38 R) (Ke3 : LI → Option R) (v17 : LL) (v18 : Int) (v19 : Int) (v20 : LI) (v21 : LL) (v22 : LB) (v23 : LI) : Option R :=
  bif decide (v19 < v18) then
  (gd (decide (0 ≤ v19))
   (gd (decide (v19 < (v17.length : Int)))
   (let j42 : Int → Option R := fun v24 =>
    (gd (decide (v23.length + ([v24] : List Int).length < SMALL))
    (l_22 v17 v18 v19 (v17.getD (Int.toNat v19) ([] : LI)) ((v17.getD (Int.toNat v19) ([] : LI)).length : Int) v20 v21 v22
     (fun v35 v36 v37 v38 v39 v40 v41 =>
     l_15 Ke3 v35 v36 (IntKind.i64.wrap (v37 + 1)) v38 v39 v40 v41) 0 (v23 ++ ([v24] : List Int))))
    (gd (decide (0 ≤ v19))
    (gd (decide (v19 < (v22.length : Int)))
     (bif (v22.getD (Int.toNat v19) false) then
     (j42 1)
     else (j42 0)))))))
  else (Ke3 v23)
def yy0_l22_b {R : Type} (c_yy11 : T0 R) (c_yy17 : T1 R) (l_7 : T36 R) (l_15 : T37 R) (l_22 : T38 R) (v25 : LL) (v26 : Int) (v27 : Int) (v28 : LI) (v29 : Int) (v31 : LI) (v32 : LL) (v33 : LB) (Ke5 : LL → Int → Int → LI → LL → LB → LI → Option R) (v30 : Int) (v34 : LI) : Option R :=
  bif decide (v30 < v29) then
  (gd (decide (0 ≤ v30))
   (gd (decide (v30 < (v28.length : Int)))
   (gd (decide (v34.length + ([(IntKind.u8.wrap (v28.getD (Int.toNat v30) (0 : Int)))] : List Int).length < SMALL))
    (l_22 v25 v26 v27 v28 v29 v31 v32 v33 Ke5 (IntKind.i64.wrap (v30 + 1)) (v34 ++ ([(IntKind.u8.wrap (v28.getD (Int.toNat v30) (0 : Int)))] : List Int))))))
  else (Ke5 v25 v26 v27 v31 v32 v33 v34)
def yy0_b {R : Type} (c_yy11 : T0 R) (c_yy17 : T1 R) (l_7 : T36 R) (l_15 : T37 R) (l_22 : T38 R) (v1 : LI) (v2 : LL) (v3 : LB) (K : Int → LI → Option R) : Option R :=
  c_yy11 v1 v2 v3 (fun v4 =>
   bif (!v4) then
   (K 3 ([] : List Int))
   else (bif decide (20 < (v2.length : Int)) then
   (K 7 ([] : List Int))
   else (l_7 v1 v2 v3
    (fun v12 v13 v14 v15 =>
    c_yy17 v12 v13 v14 (fun v16 =>
     gd (decide (([(IntKind.u8.wrap (v13.length : Int)), (IntKind.u8.wrap (IntKind.i64.wrap (v16 - 1))), (IntKind.u8.wrap (IntKind.i64.wrap ((IntKind.i64.wrap (Int.tdiv (v15.length : Int) 2)) - 1)))] : List Int).length + v15.length < SMALL))
     (l_15
     (fun v43 =>
      K 0 v43) v13 (v13.length : Int) 0 v12 v13 v14 (([(IntKind.u8.wrap (v13.length : Int)), (IntKind.u8.wrap (IntKind.i64.wrap (v16 - 1))), (IntKind.u8.wrap (IntKind.i64.wrap ((IntKind.i64.wrap (Int.tdiv (v15.length : Int) 2)) - 1)))] : List Int) ++ v15)))) 0 ([] : List Int))))
def yy0_l7 {R : Type} (kf : Nat) : Nat → LI → LL → LB → (LI → LL → LB → LI → Option R) → Int → LI → Option R
 | 0, _, _, _, _, _, _ => none
 | k + 1, y0, y1, y2, y3, y4, y5 => yy0_l7_b (yy11 kf) (yy17 kf) (yy0_l7 kf k) (fun _ _ _ _ _ _ _ _ => none) (fun _ _ _ _ _ _ _ _ _ _ _ => none) y0 y1 y2 y3 y4 y5
def yy0_l22 {R : Type} (kf : Nat) : Nat → LL → Int → Int → LI → Int → LI → LL → LB → (LL → Int → Int → LI → LL → LB → LI → Option R) → Int → LI → Option R
 | 0, _, _, _, _, _, _, _, _, _, _, _ => none
 | k + 1, y0, y1, y2, y3, y4, y5, y6, y7, y8, y9, y10 => yy0_l22_b (yy11 kf) (yy17 kf) (yy0_l7 kf k) (fun _ _ _ _ _ _ _ _ => none) (yy0_l22 kf k) y0 y1 y2 y3 y4 y5 y6 y7 y8 y9 y10
def yy0_l15 {R : Type} (kf : Nat) : Nat → (LI → Option R) → LL → Int → Int → LI → LL → LB → LI → Option R
 | 0, _, _, _, _, _, _, _, _ => none
 | k + 1, y0, y1, y2, y3, y4, y5, y6, y7 => yy0_l15_b (yy11 kf) (yy17 kf) (yy0_l7 kf k) (yy0_l15 kf k) (yy0_l22 kf k) y0 y1 y2 y3 y4 y5 y6 y7
def yy0 {R : Type} (kf : Nat) (v1 : LI) (v2 : LL) (v3 : LB) (K : Int → LI → Option R) : Option R := yy0_b (yy11 kf) (yy17 kf) (yy0_l7 kf kf) (yy0_l15 kf kf) (yy0_l22 kf kf) v1 v2 v3 K
def yy23_b {R : Type} (v1 : LI) (v2 : Int) (v3 : Int) (K : Int → Int → Option R) : Option R :=
  let j31 : Bool → Option R := fun v4 =>
  (bif v4 then
   (K 0 1)
   else (let j30 : Bool → Option R := fun v5 =>
   (bif v5 then
    (K 0 2)
    else (gd (decide (0 ≤ (IntKind.i64.wrap (v2 + v3))))
    (gd (decide ((IntKind.i64.wrap (v2 + v3)) ≤ (v1.length : Int)))
     (gd (decide (0 ≤ (IntKind.i64.wrap (v2 + v3))))
     (gd (decide ((IntKind.i64.wrap (v2 + v3)) ≤ (IntKind.i64.wrap (v2 + v3))))
      (gd (decide (0 ≤ v2))
      (gd (decide (v2 ≤ (IntKind.i64.wrap (v2 + v3))))
       (let j7 : Int → Option R := fun v6 =>
       (K v6 0)
       (let j10 : Int → Option R := fun v8 =>
        (gd (decide (0 < (((v1.drop (Int.toNat v2)).take ((Int.toNat (IntKind.i64.wrap (v2 + v3))) - (Int.toNat v2))).length : Int)))
        (let v9 : Int := (bvop .u64 .or v8 (IntKind.u64.wrap (((v1.drop (Int.toNat v2)).take ((Int.toNat (IntKind.i64.wrap (v2 + v3))) - (Int.toNat v2))).getD 0 (0 : Int))))
         j7 v9))
        (let j13 : Int → Option R := fun v11 =>
        (gd (decide (1 < (((v1.drop (Int.toNat v2)).take ((Int.toNat (IntKind.i64.wrap (v2 + v3))) - (Int.toNat v2))).length : Int)))
         (let v12 : Int := (bvop .u64 .or v11 (shl .u64 (IntKind.u64.wrap (((v1.drop (Int.toNat v2)).take ((Int.toNat (IntKind.i64.wrap (v2 + v3))) - (Int.toNat v2))).getD 1 (0 : Int))) 8))
         j10 v12))
        (let j16 : Int → Option R := fun v14 =>
         (gd (decide (2 < (((v1.drop (Int.toNat v2)).take ((Int.toNat (IntKind.i64.wrap (v2 + v3))) - (Int.toNat v2))).length : Int)))
         (let v15 : Int := (bvop .u64 .or v14 (shl .u64 (IntKind.u64.wrap (((v1.drop (Int.toNat v2)).take ((Int.toNat (IntKind.i64.wrap (v2 + v3))) - (Int.toNat v2))).getD 2 (0 : Int))) 16))
          j13 v15))
         (let j19 : Int → Option R := fun v17 =>
         (gd (decide (3 < (((v1.drop (Int.toNat v2)).take ((Int.toNat (IntKind.i64.wrap (v2 + v3))) - (Int.toNat v2))).length : Int)))
          (let v18 : Int := (bvop .u64 .or v17 (shl .u64 (IntKind.u64.wrap (((v1.drop (Int.toNat v2)).take ((Int.toNat (IntKind.i64.wrap (v2 + v3))) - (Int.toNat v2))).getD 3 (0 : Int))) 24))
          j16 v18))
         (let j22 : Int → Option R := fun v20 =>
          (gd (decide (4 < (((v1.drop (Int.toNat v2)).take ((Int.toNat (IntKind.i64.wrap (v2 + v3))) - (Int.toNat v2))).length : Int)))
          (let v21 : Int := (bvop .u64 .or v20 (shl .u64 (IntKind.u64.wrap (((v1.drop (Int.toNat v2)).take ((Int.toNat (IntKind.i64.wrap (v2 + v3))) - (Int.toNat v2))).getD 4 (0 : Int))) 32))
           j19 v21))
          (let j25 : Int → Option R := fun v23 =>
          (gd (decide (5 < (((v1.drop (Int.toNat v2)).take ((Int.toNat (IntKind.i64.wrap (v2 + v3))) - (Int.toNat v2))).length : Int)))
           (let v24 : Int := (bvop .u64 .or v23 (shl .u64 (IntKind.u64.wrap (((v1.drop (Int.toNat v2)).take ((Int.toNat (IntKind.i64.wrap (v2 + v3))) - (Int.toNat v2))).getD 5 (0 : Int))) 40))
           j22 v24))
          (let j28 : Int → Option R := fun v26 =>
           (gd (decide (6 < (((v1.drop (Int.toNat v2)).take ((Int.toNat (IntKind.i64.wrap (v2 + v3))) - (Int.toNat v2))).length : Int)))
           (let v27 : Int := (bvop .u64 .or v26 (shl .u64 (IntKind.u64.wrap (((v1.drop (Int.toNat v2)).take ((Int.toNat (IntKind.i64.wrap (v2 + v3))) - (Int.toNat v2))).getD 6 (0 : Int))) 48))
            j25 v27))
           (bif decide (v3 = 8) then
           (gd (decide (7 < (((v1.drop (Int.toNat v2)).take ((Int.toNat (IntKind.i64.wrap (v2 + v3))) - (Int.toNat v2))).length : Int)))
            (let v29 : Int := (shl .u64 (IntKind.u64.wrap (((v1.drop (Int.toNat v2)).take ((Int.toNat (IntKind.i64.wrap (v2 + v3))) - (Int.toNat v2))).getD 7 (0 : Int))) 56)
            j28 v29))
           else (bif decide (v3 = 7) then
            (j28 0)
            else (bif decide (v3 = 6) then
            (j25 0)
            else (bif decide (v3 = 5) then
             (j22 0)
             else (bif decide (v3 = 4) then
             (j19 0)
             else (bif decide (v3 = 3) then
              (j16 0)
              else (bif decide (v3 = 2) then
              (j13 0)
              else (bif decide (v3 = 1) then
               (j10 0)
               else (j7 0))))))))))))))))))))))))
   (bif decide ((v1.length : Int) < v2) then
    (j30 (decide ((v1.length : Int) < v2)))
    else (j30 (decide ((IntKind.i64.wrap ((v1.length : Int) - v2)) < v3))))))
  (bif decide (v2 < 0) then
   (j31 (decide (v2 < 0)))
   else (bif decide (v3 < 0) then
   (j31 (decide (v3 < 0)))
   else (j31 (decide (8 < v3)))))
def yy23 {R : Type} (v1 : LI) (v2 : Int) (v3 : Int) (K : Int → Int → Option R) : Option R := yy23_b v1 v2 v3 K
def yy3_b {R : Type} (v1 : Int) (K : Err → Option R) : Option R :=
  K (Err.wrap 110 [] (Err.leaf 67 [v1]) [])
def yy3 {R : Type} (v1 : Int) (K : Err → Option R) : Option R := yy3_b v1 K
def yy4_b {R : Type} (c_yy23 : T68 R) (c_yy3 : Int → (Err → Option R) → Option R) (v1 : Int) (v2 : Int) (v3 : LI) (K : Int → Err → LI → Option R) : Option R :=
  c_yy23 v3 0 1 (fun v4 v5 =>
   bif (!(decide (v5 = 0))) then
   (c_yy3 2 (fun v6 =>
    K 0 v6 v3))
   else (gd (decide (1 ≤ (v3.length : Int)))
   (let j9 : Bool → Option R := fun v7 =>
    (bif v7 then
    (c_yy3 3 (fun v8 =>
     K 0 v8 (v3.drop 1)))
    else (K (IntKind.i64.wrap v4) Err.nil (v3.drop 1)))
    (bif decide ((IntKind.i64.wrap v4) < v1) then
    (j9 true)
    else (j9 (decide (v2 < (IntKind.i64.wrap v4))))))))
def yy4 {R : Type} (v1 : Int) (v2 : Int) (v3 : LI) (K : Int → Err → LI → Option R) : Option R := yy4_b yy23 yy3 v1 v2 v3 K
def yy6_l6_b {R : Type} (c_yy4 : T4 R) (c_yy3 : Int → (Err → Option R) → Option R) (l_6 : T52 R) (l_21 : T53 R) (Kr : Err → LI → LI → Option R) (Ke0 : LI → LI → Option R) (v6 : Int) (v7 : Int) (v8 : Int) (v9 : Int) (v10 : Int) (v11 : Int) (v12 : LI) (v13 : LI) : Option R :=
  bif decide (v11 < v10) then
  (let j40 : Int → Option R := fun v14 =>
   (c_yy4 v14 255 v12 (fun v15 v16 v17 =>
    bif (!(Err.isNil v16)) then
    (Kr v16 v17 v13)
    else (bif decide (255 < v8) then
    (c_yy3 3 (fun v18 =>
     Kr v18 v17 v13))
    else (c_yy4 0 (IntKind.i64.wrap (v6 - 1)) v17 (fun v19 v20 v21 =>
     bif (!(Err.isNil v20)) then
     (Kr v20 v21 v13)
     else (bif decide (v19 = v9) then
      (c_yy3 3 (fun v22 =>
       Kr v22 v21 v13))
      else (l_21 v6 v7 v15 v19 v10 v11 v21
      (fun v32 v33 v34 v35 v36 v37 v38 v39 =>
       l_6 Kr Ke0 v32 v33 v34 v35 v36 (IntKind.i64.wrap (v37 + 1)) v38 v39) v8 v13)))))))
   (bif decide (v11 = v7) then
   (j40 255)
   else (j40 v8)))
  else (Ke0 v12 v13)
def yy6_l21_b {R : Type} (c_yy4 : T4 R) (c_yy3 : Int → (Err → Option R) → Option R) (l_6 : T52 R) (l_21 : T53 R) (v23 : Int) (v24 : Int) (v26 : Int) (v27 : Int) (v28 : Int) (v29 : Int) (v30 : LI) (Ke4 : Int → Int → Int → Int → Int → Int → LI → LI → Option R) (v25 : Int) (v31 : LI) : Option R :=
  bif decide (v25 ≤ v26) then
  (gd (decide (0 ≤ v25))
   (gd (decide (v25 < 256))
   (l_21 v23 v24 v26 v27 v28 v29 v30 Ke4 (IntKind.i64.wrap (v25 + 1)) (v31.set (Int.toNat v25) (IntKind.u8.wrap v27)))))
  else (Ke4 v23 v24 v25 v27 v28 v29 v30 v31)
def yy6_b {R : Type} (c_yy4 : T4 R) (c_yy3 : Int → (Err → Option R) → Option R) (l_6 : T52 R) (l_21 : T53 R) (v1 : Int) (v2 : LI) (K : LI → Err → LI → Option R) : Option R :=
  c_yy4 0 255 v2 (fun v3 v4 v5 =>
   bif (!(Err.isNil v4)) then
   (K (List.replicate 256 (0 : Int)) v4 v5)
   else (l_6
   (fun v41 v42 v43 =>
    K v43 v41 v42)
   (fun v44 v45 =>
    K v45 Err.nil v44) v1 v3 0 (-1) (IntKind.i64.wrap (v3 + 1)) 0 v5 (List.replicate 256 (0 : Int))))
def yy6_l21 {R : Type} (kf : Nat) : Nat → Int → Int → Int → Int → Int → Int → LI → (Int → Int → Int → Int → Int → Int → LI → LI → Option R) → Int → LI → Option R
 | 0, _, _, _, _, _, _, _, _, _, _ => none
 | k + 1, y0, y1, y2, y3, y4, y5, y6, y7, y8, y9 => yy6_l21_b yy4 yy3 (fun _ _ _ _ _ _ _ _ _ _ => none) (yy6_l21 kf k) y0 y1 y2 y3 y4 y5 y6 y7 y8 y9
def yy6_l6 {R : Type} (kf : Nat) : Nat → (Err → LI → LI → Option R) → (LI → LI → Option R) → Int → Int → Int → Int → Int → Int → LI → LI → Option R
 | 0, _, _, _, _, _, _, _, _, _, _ => none
 | k + 1, y0, y1, y2, y3, y4, y5, y6, y7, y8, y9 => yy6_l6_b yy4 yy3 (yy6_l6 kf k) (yy6_l21 kf k) y0 y1 y2 y3 y4 y5 y6 y7 y8 y9
def yy6 {R : Type} (kf : Nat) (v1 : Int) (v2 : LI) (K : LI → Err → LI → Option R) : Option R := yy6_b yy4 yy3 (yy6_l6 kf kf) (yy6_l21 kf kf) v1 v2 K
def yy5_l11_b {R : Type} (c_yy4 : T4 R) (c_yy6 : T39 R) (c_yy11 : T0 R) (c_yy3 : Int → (Err → Option R) → Option R) (l_11 : T54 R) (l_17 : T55 R) (Kr : Err → LI → LI → LL → LB → Option R) (Ke0 : LI → LI → LL → LB → Option R) (v11 : Int) (v12 : Int) (v13 : Int) (v14 : Int) (v15 : LI) (v16 : LI) (v17 : LL) (v18 : LB) : Option R :=
  bif decide (v14 < v13) then
  (c_yy4 0 1 v15 (fun v19 v20 v21 =>
   bif (!(Err.isNil v20)) then
   (Kr v20 v21 v16 v17 v18)
   else (l_17 v11 v12 v19 v13 v14 (IntKind.i64.wrap (v12 + 1)) v16 v17 v18
    (fun v37 v38 v39 v40 v41 v42 v43 v44 v45 v46 v47 =>
    Kr v37 v43 v44 v46 v47)
    (fun v48 v49 v50 v51 v52 v53 v54 v55 v56 v57 =>
    gd (decide (v57.length + ([decide (v50 = 1)] : List Bool).length < SMALL))
    (gd (decide (v56.length + ([v55] : List LI).length < SMALL))
     (l_11 Kr Ke0 v48 v49 v51 (IntKind.i64.wrap (v52 + 1)) v53 v54 (v56 ++ ([v55] : List LI)) (v57 ++ ([decide (v50 = 1)] : List Bool))))) 0 v21 ([] : List Int))))
  else (Ke0 v15 v16 v17 v18)
def yy5_l17_b {R : Type} (c_yy4 : T4 R) (c_yy6 : T39 R) (c_yy11 : T0 R) (c_yy3 : Int → (Err → Option R) → Option R) (l_11 : T54 R) (l_17 : T55 R) (v22 : Int) (v23 : Int) (v24 : Int) (v25 : Int) (v26 : Int) (v27 : Int) (v30 : LI) (v32 : LL) (v33 : LB) (Kr : Err → Int → Int → Int → Int → Int → LI → LI → LI → LL → LB → Option R) (Ke2 : Int → Int → Int → Int → Int → LI → LI → LI → LL → LB → Option R) (v28 : Int) (v29 : LI) (v31 : LI) : Option R :=
  bif decide (v28 < v27) then
  (c_yy4 0 (IntKind.i64.wrap (v22 - 1)) v29 (fun v34 v35 v36 =>
   bif (!(Err.isNil v35)) then
   (Kr v35 v22 v23 v24 v25 v26 v36 v30 v31 v32 v33)
   else (gd (decide (v31.length + ([v34] : List Int).length < SMALL))
    (l_17 v22 v23 v24 v25 v26 v27 v30 v32 v33 Kr Ke2 (IntKind.i64.wrap (v28 + 1)) v36 (v31 ++ ([v34] : List Int))))))
  else (Ke2 v22 v23 v24 v25 v26 v29 v30 v31 v32 v33)
def yy5_b {R : Type} (c_yy4 : T4 R) (c_yy6 : T39 R) (c_yy11 : T0 R) (c_yy3 : Int → (Err → Option R) → Option R) (l_11 : T54 R) (l_17 : T55 R) (v1 : LI) (K : LI → Err → LI → LL → LB → Option R) : Option R :=
  c_yy4 1 20 v1 (fun v2 v3 v4 =>
   bif (!(Err.isNil v3)) then
   (K (List.replicate 256 (0 : Int)) v3 v4 ([] : List LI) ([] : List Bool))
   else (c_yy4 0 255 v4 (fun v5 v6 v7 =>
    bif (!(Err.isNil v6)) then
    (K (List.replicate 256 (0 : Int)) v6 v7 ([] : List LI) ([] : List Bool))
    else (c_yy6 (IntKind.i64.wrap (v5 + 1)) v7 (fun v8 v9 v10 =>
     bif (!(Err.isNil v9)) then
     (K v8 v9 v10 ([] : List LI) ([] : List Bool))
     else (l_11
     (fun v58 v59 v60 v61 v62 =>
      K v60 v58 v59 v61 v62)
     (fun v63 v64 v65 v66 =>
      let j69 : Bool → Option R := fun v67 =>
      (bif v67 then
      (c_yy3 3 (fun v68 =>
       K v64 v68 v63 v65 v66))
      else (K v64 Err.nil v63 v65 v66))
      (bif decide (0 < (v63.length : Int)) then
      (j69 true)
      else (c_yy11 v64 v65 v66 (fun v70 =>
       j69 (!v70))))) v2 v5 v2 0 v10 v8 ([] : List LI) ([] : List Bool)))))))
def yy5_l17 {R : Type} (kf : Nat) : Nat → Int → Int → Int → Int → Int → Int → LI → LL → LB → (Err → Int → Int → Int → Int → Int → LI → LI → LI → LL → LB → Option R) → (Int → Int → Int → Int → Int → LI → LI → LI → LL → LB → Option R) → Int → LI → LI → Option R
 | 0, _, _, _, _, _, _, _, _, _, _, _, _, _, _ => none
 | k + 1, y0, y1, y2, y3, y4, y5, y6, y7, y8, y9, y10, y11, y12, y13 => yy5_l17_b yy4 (yy6 kf) (yy11 kf) yy3 (fun _ _ _ _ _ _ _ _ _ _ => none) (yy5_l17 kf k) y0 y1 y2 y3 y4 y5 y6 y7 y8 y9 y10 y11 y12 y13
def yy5_l11 {R : Type} (kf : Nat) : Nat → (Err → LI → LI → LL → LB → Option R) → (LI → LI → LL → LB → Option R) → Int → Int → Int → Int → LI → LI → LL → LB → Option R
 | 0, _, _, _, _, _, _, _, _, _, _ => none
 | k + 1, y0, y1, y2, y3, y4, y5, y6, y7, y8, y9 => yy5_l11_b yy4 (yy6 kf) (yy11 kf) yy3 (yy5_l11 kf k) (yy5_l17 kf k) y0 y1 y2 y3 y4 y5 y6 y7 y8 y9
def yy5 {R : Type} (kf : Nat) (v1 : LI) (K : LI → Err → LI → LL → LB → Option R) : Option R := yy5_b yy4 (yy6 kf) (yy11 kf) yy3 (yy5_l11 kf kf) (yy5_l17 kf kf) v1 K
def yy2_b {R : Type} (c_yy5 : T69 R) (v1 : LI) (K : LI → Int → LL → LB → Option R) : Option R :=
  c_yy5 v1 (fun v2 v3 v4 v5 v6 =>
   gd (Err.fit [(67, 1)] [(110, 0, 0)] v3)
   (optK (Err.find 67 v3) (fun v7 =>
    K (List.replicate 256 (0 : Int)) (Err.num 0 v7) ([] : List LI) ([] : List Bool))
   (K v2 0 v5 v6)))
def yy2 {R : Type} (kf : Nat) (v1 : LI) (K : LI → Int → LL → LB → Option R) : Option R := yy2_b (yy5 kf) v1 K
def yy1_b {R : Type} (c_yy0 : T40 R) (v1 : LI) (v2 : LL) (v3 : LB) (K : Int → Option R) : Option R :=
  c_yy0 v1 v2 v3 (fun v4 v5 =>
   K (v5.length : Int))
def yy1 {R : Type} (kf : Nat) (v1 : LI) (v2 : LL) (v3 : LB) (K : Int → Option R) : Option R := yy1_b (yy0 kf) v1 v2 v3 K
def yy10_b {R : Type} (c_yy0 : T40 R) (c_yy2 : T6 R) (c_yy1 : T1 R) (K : Bool → Option R) : Option R :=
  c_yy0 (List.replicate 256 (0 : Int)) ([([0] : List Int)] : List LI) ([false] : List Bool) (fun v1 v2 =>
   c_yy2 v2 (fun v3 v4 v5 v6 =>
   bif decide (v1 = 0) then
   (bif decide (v2 = [1, 0, 0, 255, 0, 0, 0]) then
    (bif decide (v4 = 0) then
    (bif decide ((v5.length : Int) = 1) then
     (c_yy1 (List.replicate 256 (0 : Int)) ([([0] : List Int)] : List LI) ([false] : List Bool) (fun v7 =>
      K (decide (v7 = 7))))
     else (K false))
    else (K false))
    else (K false))
   else (K false)))
def yy10 {R : Type} (kf : Nat) (K : Bool → Option R) : Option R := yy10_b (yy0 kf) (yy2 kf) (yy1 kf) K
def yy8_l4_b {R : Type} (l_4 : T70 R) (v3 : LI) (v4 : Int) (Ke0 : LI → Int → LI → Option R) (v5 : Int) (v6 : LI) : Option R :=
  bif decide (v5 < v4) then
  (gd (decide (0 ≤ v5))
   (gd (decide (v5 < v4))
   (l_4 v3 v4 Ke0 (IntKind.i64.wrap (v5 + 1)) (v6.set (Int.toNat v5) 229))))
  else (Ke0 v3 v4 v6)
def yy8_b {R : Type} (l_4 : T70 R) (v1 : LI) (K : Int → LI → Option R) : Option R :=
  gd (decide (0 ≤ (IntKind.i64.wrap ((v1.length : Int) + 3))))
  (gd (decide ((IntKind.i64.wrap ((v1.length : Int) + 3)) = (IntKind.i64.wrap ((v1.length : Int) + 3))))
   (gd (decide ((IntKind.i64.wrap ((v1.length : Int) + 3)) < (SMALL : Int)))
   (let v2 : Int := ((Nat.min v1.length (List.replicate (Int.toNat (IntKind.i64.wrap ((v1.length : Int) + 3))) (0 : Int)).length : Nat) : Int)
    gd (decide ((IntKind.i64.wrap ((v1.length : Int) + 3)) = ((List.replicate (Int.toNat (IntKind.i64.wrap ((v1.length : Int) + 3))) (0 : Int)).length : Int)))
    (l_4 v1 (IntKind.i64.wrap ((v1.length : Int) + 3))
    (fun v7 v8 v9 =>
     gd (decide (0 ≤ (v7.length : Int)))
     (gd (decide ((v7.length : Int) ≤ (v9.length : Int)))
     (K (v7.length : Int) v9))) (v1.length : Int) (v1.take (List.replicate (Int.toNat (IntKind.i64.wrap ((v1.length : Int) + 3))) (0 : Int)).length ++ (List.replicate (Int.toNat (IntKind.i64.wrap ((v1.length : Int) + 3))) (0 : Int)).drop v1.length)))))
def yy8_l4 {R : Type} (kf : Nat) : Nat → LI → Int → (LI → Int → LI → Option R) → Int → LI → Option R
 | 0, _, _, _, _, _ => none
 | k + 1, y0, y1, y2, y3, y4 => yy8_l4_b (yy8_l4 kf k) y0 y1 y2 y3 y4
def yy8 {R : Type} (kf : Nat) (v1 : LI) (K : Int → LI → Option R) : Option R := yy8_b (yy8_l4 kf kf) v1 K
def yy24_l3_b {R : Type} (l_3 : T22 R) (v6 : LI) (Ke0 : Int → Option R) (v4 : Int) (v5 : Int) : Option R :=
  bif decide (v5 < 256) then
  (gd (decide (0 ≤ v5))
   (gd (decide (v5 < 256))
   (let v9 : Int := (mx v4 (IntKind.i64.wrap ((IntKind.i64.wrap (v6.getD (Int.toNat v5) (0 : Int))) + 1)))
    l_3 v6 Ke0 v9 (IntKind.i64.wrap (v5 + 1)))))
  else (Ke0 v4)
def yy24_b {R : Type} (l_3 : T22 R) (v1 : LI) (v2 : LL) (v3 : LB) (K : Int → Option R) : Option R :=
  l_3 v1
  (fun v10 =>
   K v10) 0 0
def yy24_l3 {R : Type} (kf : Nat) : Nat → LI → (Int → Option R) → Int → Int → Option R
 | 0, _, _, _, _ => none
 | k + 1, y0, y1, y2, y3 => yy24_l3_b (yy24_l3 kf k) y0 y1 y2 y3
def yy24 {R : Type} (kf : Nat) (v1 : LI) (v2 : LL) (v3 : LB) (K : Int → Option R) : Option R := yy24_b (yy24_l3 kf kf) v1 v2 v3 K
def yy27_l5_b {R : Type} (c_yy24 : T1 R) (l_5 : T56 R) (l_10 : T57 R) (Kr : Bool → Option R) (Ke0 : Option R) (v6 : Int) (v7 : Int) (v8 : Int) (v9 : LI) (v10 : LL) (v11 : LB) : Option R :=
  bif decide (v8 < v6) then
  (gd (decide (0 ≤ v8))
   (gd (decide (v8 < (v10.length : Int)))
   (bif (!(decide (((v10.getD (Int.toNat v8) ([] : LI)).length : Int) = v7))) then
    (Kr false)
    else (l_10 v6 v7 v8 v9 v10 v11
    (fun v21 v22 v23 v24 v25 v26 v27 =>
     Kr v21)
    (fun v28 v29 v30 v31 v32 v33 =>
     l_5 Kr Ke0 v28 v29 (IntKind.i64.wrap (v30 + 1)) v31 v32 v33) 0))))
  else (Ke0)
def yy27_l10_b {R : Type} (c_yy24 : T1 R) (l_5 : T56 R) (l_10 : T57 R) (v12 : Int) (v13 : Int) (v14 : Int) (v16 : LI) (v17 : LL) (v18 : LB) (Kr : Bool → Int → Int → Int → LI → LL → LB → Option R) (Ke2 : Int → Int → Int → LI → LL → LB → Option R) (v15 : Int) : Option R :=
  bif decide (v15 < v13) then
  (let j20 : Bool → Option R := fun v19 =>
   (bif v19 then
   (Kr false v12 v13 v14 v16 v17 v18)
   else (l_10 v12 v13 v14 v16 v17 v18 Kr Ke2 (IntKind.i64.wrap (v15 + 1))))
   (gd (decide (0 ≤ v14))
   (gd (decide (v14 < (v17.length : Int)))
    (gd (decide (0 ≤ v15))
    (gd (decide (v15 < ((v17.getD (Int.toNat v14) ([] : LI)).length : Int)))
     (bif decide (((v17.getD (Int.toNat v14) ([] : LI)).getD (Int.toNat v15) (0 : Int)) < 0) then
     (j20 true)
     else (gd (decide (0 ≤ v14))
      (gd (decide (v14 < (v17.length : Int)))
      (gd (decide (0 ≤ v15))
       (gd (decide (v15 < ((v17.getD (Int.toNat v14) ([] : LI)).length : Int)))
       (j20 (decide (v12 ≤ ((v17.getD (Int.toNat v14) ([] : LI)).getD (Int.toNat v15) (0 : Int)))))))))))))))
  else (Ke2 v12 v13 v14 v16 v17 v18)
def yy27_b {R : Type} (c_yy24 : T1 R) (l_5 : T56 R) (l_10 : T57 R) (v1 : LI) (v2 : LL) (v3 : LB) (K : Bool → Option R) : Option R :=
  c_yy24 v1 v2 v3 (fun v4 =>
   let j35 : Bool → Option R := fun v5 =>
   (bif v5 then
   (K false)
   else (l_5
    (fun v34 =>
    K v34)
    (K true) (v2.length : Int) v4 0 v1 v2 v3))
   (bif decide ((v2.length : Int) < 1) then
   (j35 true)
   else (bif decide (2000 < (v2.length : Int)) then
    (j35 true)
    else (j35 (!(decide ((v3.length : Int) = (v2.length : Int))))))))
def yy27_l10 {R : Type} (kf : Nat) : Nat → Int → Int → Int → LI → LL → LB → (Bool → Int → Int → Int → LI → LL → LB → Option R) → (Int → Int → Int → LI → LL → LB → Option R) → Int → Option R
 | 0, _, _, _, _, _, _, _, _, _ => none
 | k + 1, y0, y1, y2, y3, y4, y5, y6, y7, y8 => yy27_l10_b (yy24 kf) (fun _ _ _ _ _ _ _ _ => none) (yy27_l10 kf k) y0 y1 y2 y3 y4 y5 y6 y7 y8
def yy27_l5 {R : Type} (kf : Nat) : Nat → (Bool → Option R) → (Option R) → Int → Int → Int → LI → LL → LB → Option R
 | 0, _, _, _, _, _, _, _, _ => none
 | k + 1, y0, y1, y2, y3, y4, y5, y6, y7 => yy27_l5_b (yy24 kf) (yy27_l5 kf k) (yy27_l10 kf k) y0 y1 y2 y3 y4 y5 y6 y7
def yy27 {R : Type} (kf : Nat) (v1 : LI) (v2 : LL) (v3 : LB) (K : Bool → Option R) : Option R := yy27_b (yy24 kf) (yy27_l5 kf kf) (yy27_l10 kf kf) v1 v2 v3 K
def yy33_l4_b {R : Type} (l_4 : T71 R) (v7 : LI) (v8 : Int) (v9 : Int) (v12 : LL) (Kr : Bool → Option R) (Ke0 : Option R) (v10 : Int) : Option R :=
  gd (decide (0 ≤ v8))
  (gd (decide (v8 < (v12.length : Int)))
   (bif decide (v10 < ((v12.getD (Int.toNat v8) ([] : LI)).length : Int)) then
   (gd (decide (0 ≤ v8))
    (gd (decide (v8 < (v12.length : Int)))
    (gd (decide (0 ≤ v10))
     (gd (decide (v10 < ((v12.getD (Int.toNat v8) ([] : LI)).length : Int)))
     (gd (decide (0 ≤ ((v12.getD (Int.toNat v8) ([] : LI)).getD (Int.toNat v10) (0 : Int))))
      (gd (decide (((v12.getD (Int.toNat v8) ([] : LI)).getD (Int.toNat v10) (0 : Int)) < (v7.length : Int)))
      (gd (decide (0 ≤ v9))
       (gd (decide (v9 < (v12.length : Int)))
       (gd (decide (0 ≤ v10))
        (gd (decide (v10 < ((v12.getD (Int.toNat v9) ([] : LI)).length : Int)))
        (gd (decide (0 ≤ ((v12.getD (Int.toNat v9) ([] : LI)).getD (Int.toNat v10) (0 : Int))))
         (gd (decide (((v12.getD (Int.toNat v9) ([] : LI)).getD (Int.toNat v10) (0 : Int)) < (v7.length : Int)))
         (bif (!(decide ((v7.getD (Int.toNat ((v12.getD (Int.toNat v8) ([] : LI)).getD (Int.toNat v10) (0 : Int))) (0 : Int)) = (v7.getD (Int.toNat ((v12.getD (Int.toNat v9) ([] : LI)).getD (Int.toNat v10) (0 : Int))) (0 : Int))))) then
          (Kr false)
          else (l_4 v7 v8 v9 v12 Kr Ke0 (IntKind.i64.wrap (v10 + 1))))))))))))))))
   else (Ke0)))
def yy33_b {R : Type} (l_4 : T71 R) (v1 : LI) (v2 : LL) (v3 : LB) (v4 : LI) (v5 : Int) (v6 : Int) (K : Bool → Option R) : Option R :=
  gd (decide (0 ≤ v5))
  (gd (decide (v5 < (v4.length : Int)))
   (gd (decide (0 ≤ v6))
   (gd (decide (v6 < (v4.length : Int)))
    (bif (!(decide ((v4.getD (Int.toNat v5) (0 : Int)) = (v4.getD (Int.toNat v6) (0 : Int))))) then
    (K false)
    else (l_4 v4 v5 v6 v2
     (fun v14 =>
     K v14)
     (K true) 0)))))
def yy33_l4 {R : Type} (kf : Nat) : Nat → LI → Int → Int → LL → (Bool → Option R) → (Option R) → Int → Option R
 | 0, _, _, _, _, _, _, _ => none
 | k + 1, y0, y1, y2, y3, y4, y5, y6 => yy33_l4_b (yy33_l4 kf k) y0 y1 y2 y3 y4 y5 y6
def yy33 {R : Type} (kf : Nat) (v1 : LI) (v2 : LL) (v3 : LB) (v4 : LI) (v5 : Int) (v6 : Int) (K : Bool → Option R) : Option R := yy33_b (yy33_l4 kf kf) v1 v2 v3 v4 v5 v6 K
def yy28_l6_b {R : Type} (c_yy27 : T0 R) (c_yy33 : T7 R) (l_6 : T12 R) (l_8 : T13 R) (l_11 : T14 R) (l_15 : T15 R) (l_17 : T16 R) (Ke0 : Int → LI → LL → LB → LI → Option R) (v5 : Int) (v6 : Int) (v7 : LI) (v8 : LL) (v9 : LB) (v10 : LI) : Option R :=
  bif decide (v6 < v5) then
  (l_8 v5 v6 v7 v8 v9
   (fun v17 v18 v19 v20 v21 v22 =>
   l_6 Ke0 v17 (IntKind.i64.wrap (v18 + 1)) v19 v20 v21 v22) v10)
  else (Ke0 v5 v7 v8 v9 v10)
def yy28_l8_b {R : Type} (c_yy27 : T0 R) (c_yy33 : T7 R) (l_6 : T12 R) (l_8 : T13 R) (l_11 : T14 R) (l_15 : T15 R) (l_17 : T16 R) (v11 : Int) (v12 : Int) (v13 : LI) (v14 : LL) (v15 : LB) (Ke2 : Int → Int → LI → LL → LB → LI → Option R) (v16 : LI) : Option R :=
  gd (decide (0 ≤ v12))
  (gd (decide (v12 < (v16.length : Int)))
   (bif decide ((v16.getD (Int.toNat v12) (0 : Int)) < v12) then
   (gd (decide (0 ≤ v12))
    (gd (decide (v12 < (v16.length : Int)))
    (gd (decide (0 ≤ (v16.getD (Int.toNat v12) (0 : Int))))
     (gd (decide ((v16.getD (Int.toNat v12) (0 : Int)) < (v15.length : Int)))
     (gd (decide (0 ≤ v12))
      (gd (decide (v12 < (v15.length : Int)))
      (bif (!(decide ((v15.getD (Int.toNat (v16.getD (Int.toNat v12) (0 : Int))) false) = (v15.getD (Int.toNat v12) false)))) then
       (gd (decide (0 ≤ v12))
       (gd (decide (v12 < (v16.length : Int)))
        (gd (decide (0 ≤ v12))
        (gd (decide (v12 < (v16.length : Int)))
         (l_8 v11 v12 v13 v14 v15 Ke2 (v16.set (Int.toNat v12) (IntKind.i64.wrap ((v16.getD (Int.toNat v12) (0 : Int)) + 1))))))))
       else (Ke2 v11 v12 v13 v14 v15 v16))))))))
   else (Ke2 v11 v12 v13 v14 v15 v16)))
def yy28_l11_b {R : Type} (c_yy27 : T0 R) (c_yy33 : T7 R) (l_6 : T12 R) (l_8 : T13 R) (l_11 : T14 R) (l_15 : T15 R) (l_17 : T16 R) (Ke4 : LI → Option R) (v28 : Int) (v29 : Bool) (v30 : LI) (v31 : LL) (v32 : LB) (v33 : LI) : Option R :=
  bif v29 then
  (gd (decide (0 ≤ v28))
   (gd (decide (v28 ≤ v28))
   (gd (decide (v28 < (SMALL : Int)))
    (l_15
    (fun v59 v60 v61 v62 v63 v64 =>
     l_11 Ke4 v59 v60 v61 v62 v63 v64) v28 false 0 v30 v31 v32 v33 (List.replicate (Int.toNat v28) (0 : Int))))))
  else (Ke4 v33)
def yy28_l15_b {R : Type} (c_yy27 : T0 R) (c_yy33 : T7 R) (l_6 : T12 R) (l_8 : T13 R) (l_11 : T14 R) (l_15 : T15 R) (l_17 : T16 R) (Ke6 : Int → Bool → LI → LL → LB → LI → Option R) (v34 : Int) (v35 : Bool) (v36 : Int) (v37 : LI) (v38 : LL) (v39 : LB) (v40 : LI) (v41 : LI) : Option R :=
  bif decide (v36 < v34) then
  (l_17 v34 v35 v36 v37 v38 v39 v40
   (fun v51 v52 v53 v54 v55 v56 v57 v58 =>
   bif v52 then
   (l_15 Ke6 v51 true (IntKind.i64.wrap (v53 + 1)) v54 v55 v56 v57 v58)
   else (gd (decide (0 ≤ v53))
    (gd (decide (v53 < (v58.length : Int)))
    (gd (decide (0 ≤ v53))
     (gd (decide (v53 < (v57.length : Int)))
     (l_15 Ke6 v51 (!(decide ((v58.getD (Int.toNat v53) (0 : Int)) = (v57.getD (Int.toNat v53) (0 : Int))))) (IntKind.i64.wrap (v53 + 1)) v54 v55 v56 v57 v58)))))) v41)
  else (Ke6 v34 v35 v37 v38 v39 v41)
def yy28_l17_b {R : Type} (c_yy27 : T0 R) (c_yy33 : T7 R) (l_6 : T12 R) (l_8 : T13 R) (l_11 : T14 R) (l_15 : T15 R) (l_17 : T16 R) (v42 : Int) (v43 : Bool) (v44 : Int) (v45 : LI) (v46 : LL) (v47 : LB) (v48 : LI) (Ke8 : Int → Bool → Int → LI → LL → LB → LI → LI → Option R) (v49 : LI) : Option R :=
  gd (decide (0 ≤ v44))
  (gd (decide (v44 < (v49.length : Int)))
   (bif decide ((v49.getD (Int.toNat v44) (0 : Int)) < v44) then
   (gd (decide (0 ≤ v44))
    (gd (decide (v44 < (v49.length : Int)))
    (c_yy33 v45 v46 v47 v48 (v49.getD (Int.toNat v44) (0 : Int)) v44 (fun v50 =>
     bif (!v50) then
     (gd (decide (0 ≤ v44))
      (gd (decide (v44 < (v49.length : Int)))
      (gd (decide (0 ≤ v44))
       (gd (decide (v44 < (v49.length : Int)))
       (l_17 v42 v43 v44 v45 v46 v47 v48 Ke8 (v49.set (Int.toNat v44) (IntKind.i64.wrap ((v49.getD (Int.toNat v44) (0 : Int)) + 1))))))))
     else (Ke8 v42 v43 v44 v45 v46 v47 v48 v49)))))
   else (Ke8 v42 v43 v44 v45 v46 v47 v48 v49)))
def yy28_b {R : Type} (c_yy27 : T0 R) (c_yy33 : T7 R) (l_6 : T12 R) (l_8 : T13 R) (l_11 : T14 R) (l_15 : T15 R) (l_17 : T16 R) (v1 : LI) (v2 : LL) (v3 : LB) (K : LI → Option R) : Option R :=
  c_yy27 v1 v2 v3 (fun v4 =>
   bif (!v4) then
   (K ([] : List Int))
   else (gd (decide (0 ≤ (v2.length : Int)))
   (gd (decide ((v2.length : Int) ≤ (v2.length : Int)))
    (gd (decide ((v2.length : Int) < (SMALL : Int)))
    (l_6
     (fun v23 v24 v25 v26 v27 =>
     l_11
     (fun v65 =>
      K v65) v23 true v24 v25 v26 v27) (v2.length : Int) 0 v1 v2 v3 (List.replicate (Int.toNat (v2.length : Int)) (0 : Int)))))))
def yy28_l8 {R : Type} (kf : Nat) : Nat → Int → Int → LI → LL → LB → (Int → Int → LI → LL → LB → LI → Option R) → LI → Option R
 | 0, _, _, _, _, _, _, _ => none
 | k + 1, y0, y1, y2, y3, y4, y5, y6 => yy28_l8_b (yy27 kf) (yy33 kf) (fun _ _ _ _ _ _ _ => none) (yy28_l8 kf k) (fun _ _ _ _ _ _ _ => none) (fun _ _ _ _ _ _ _ _ _ => none) (fun _ _ _ _ _ _ _ _ _ => none) y0 y1 y2 y3 y4 y5 y6
def yy28_l6 {R : Type} (kf : Nat) : Nat → (Int → LI → LL → LB → LI → Option R) → Int → Int → LI → LL → LB → LI → Option R
 | 0, _, _, _, _, _, _, _ => none
 | k + 1, y0, y1, y2, y3, y4, y5, y6 => yy28_l6_b (yy27 kf) (yy33 kf) (yy28_l6 kf k) (yy28_l8 kf k) (fun _ _ _ _ _ _ _ => none) (fun _ _ _ _ _ _ _ _ _ => none) (fun _ _ _ _ _ _ _ _ _ => none) y0 y1 y2 y3 y4 y5 y6
def yy28_l17 {R : Type} (kf : Nat) : Nat → Int → Bool → Int → LI → LL → LB → LI → (Int → Bool → Int → LI → LL → LB → LI → LI → Option R) → LI → Option R
 | 0, _, _, _, _, _, _, _, _, _ => none
 | k + 1, y0, y1, y2, y3, y4, y5, y6, y7, y8 => yy28_l17_b (yy27 kf) (yy33 kf) (yy28_l6 kf k) (yy28_l8 kf k) (fun _ _ _ _ _ _ _ => none) (fun _ _ _ _ _ _ _ _ _ => none) (yy28_l17 kf k) y0 y1 y2 y3 y4 y5 y6 y7 y8
def yy28_l15 {R : Type} (kf : Nat) : Nat → (Int → Bool → LI → LL → LB → LI → Option R) → Int → Bool → Int → LI → LL → LB → LI → LI → Option R
 | 0, _, _, _, _, _, _, _, _, _ => none
 | k + 1, y0, y1, y2, y3, y4, y5, y6, y7, y8 => yy28_l15_b (yy27 kf) (yy33 kf) (yy28_l6 kf k) (yy28_l8 kf k) (fun _ _ _ _ _ _ _ => none) (yy28_l15 kf k) (yy28_l17 kf k) y0 y1 y2 y3 y4 y5 y6 y7 y8
def yy28_l11 {R : Type} (kf : Nat) : Nat → (LI → Option R) → Int → Bool → LI → LL → LB → LI → Option R
 | 0, _, _, _, _, _, _, _ => none
 | k + 1, y0, y1, y2, y3, y4, y5, y6 => yy28_l11_b (yy27 kf) (yy33 kf) (yy28_l6 kf k) (yy28_l8 kf k) (yy28_l11 kf k) (yy28_l15 kf k) (yy28_l17 kf k) y0 y1 y2 y3 y4 y5 y6
def yy28 {R : Type} (kf : Nat) (v1 : LI) (v2 : LL) (v3 : LB) (K : LI → Option R) : Option R := yy28_b (yy27 kf) (yy33 kf) (yy28_l6 kf kf) (yy28_l8 kf kf) (yy28_l11 kf kf) (yy28_l15 kf kf) (yy28_l17 kf kf) v1 v2 v3 K
def yy29_l6_b {R : Type} (c_yy27 : T0 R) (l_6 : T41 R) (l_9 : T42 R) (l_12 : T43 R) (Ke0 : LB → Option R) (v5 : Bool) (v6 : LI) (v7 : LL) (v8 : LB) (v9 : LB) : Option R :=
  bif v5 then
  (l_9
   (fun v31 v32 v33 v34 v35 =>
   l_6 Ke0 v31 v32 v33 v34 v35) false 0 v6 v7 v8 v9)
  else (Ke0 v9)
def yy29_l9_b {R : Type} (c_yy27 : T0 R) (l_6 : T41 R) (l_9 : T42 R) (l_12 : T43 R) (Ke2 : Bool → LI → LL → LB → LB → Option R) (v10 : Bool) (v11 : Int) (v12 : LI) (v13 : LL) (v14 : LB) (v15 : LB) : Option R :=
  bif decide (v11 < (v15.length : Int)) then
  (l_12 v11 v12 v13 v14
   (fun v25 v26 v27 v28 v29 v30 =>
   l_9 Ke2 v25 (IntKind.i64.wrap (v26 + 1)) v27 v28 v29 v30) v10 0 v15)
  else (Ke2 v10 v12 v13 v14 v15)
def yy29_l12_b {R : Type} (c_yy27 : T0 R) (l_6 : T41 R) (l_9 : T42 R) (l_12 : T43 R) (v17 : Int) (v19 : LI) (v20 : LL) (v21 : LB) (Ke4 : Bool → Int → LI → LL → LB → LB → Option R) (v16 : Bool) (v18 : Int) (v22 : LB) : Option R :=
  gd (decide (0 ≤ v17))
  (gd (decide (v17 < (v20.length : Int)))
   (bif decide (v18 < ((v20.getD (Int.toNat v17) ([] : LI)).length : Int)) then
   (gd (decide (0 ≤ v17))
    (gd (decide (v17 < (v22.length : Int)))
    (bif (v22.getD (Int.toNat v17) false) then
     (let j24 : Bool → Option R := fun v23 =>
     (gd (decide (0 ≤ v17))
      (gd (decide (v17 < (v20.length : Int)))
      (gd (decide (0 ≤ v18))
       (gd (decide (v18 < ((v20.getD (Int.toNat v17) ([] : LI)).length : Int)))
       (gd (decide (0 ≤ ((v20.getD (Int.toNat v17) ([] : LI)).getD (Int.toNat v18) (0 : Int))))
        (gd (decide (((v20.getD (Int.toNat v17) ([] : LI)).getD (Int.toNat v18) (0 : Int)) < (v22.length : Int)))
        (l_12 v17 v19 v20 v21 Ke4 v23 (IntKind.i64.wrap (v18 + 1)) (v22.set (Int.toNat ((v20.getD (Int.toNat v17) ([] : LI)).getD (Int.toNat v18) (0 : Int))) true))))))))
     (bif v16 then
      (j24 true)
      else (gd (decide (0 ≤ v17))
      (gd (decide (v17 < (v20.length : Int)))
       (gd (decide (0 ≤ v18))
       (gd (decide (v18 < ((v20.getD (Int.toNat v17) ([] : LI)).length : Int)))
        (gd (decide (0 ≤ ((v20.getD (Int.toNat v17) ([] : LI)).getD (Int.toNat v18) (0 : Int))))
        (gd (decide (((v20.getD (Int.toNat v17) ([] : LI)).getD (Int.toNat v18) (0 : Int)) < (v22.length : Int)))
         (j24 (!(v22.getD (Int.toNat ((v20.getD (Int.toNat v17) ([] : LI)).getD (Int.toNat v18) (0 : Int))) false)))))))))))
     else (Ke4 v16 v17 v19 v20 v21 v22))))
   else (Ke4 v16 v17 v19 v20 v21 v22)))
def yy29_b {R : Type} (c_yy27 : T0 R) (l_6 : T41 R) (l_9 : T42 R) (l_12 : T43 R) (v1 : LI) (v2 : LL) (v3 : LB) (K : LB → Option R) : Option R :=
  c_yy27 v1 v2 v3 (fun v4 =>
   bif (!v4) then
   (K ([] : List Bool))
   else (gd (decide (0 ≤ (v2.length : Int)))
   (gd (decide ((v2.length : Int) ≤ (v2.length : Int)))
    (gd (decide ((v2.length : Int) < (SMALL : Int)))
    (gd (decide (0 < ((List.replicate (Int.toNat (v2.length : Int)) false).length : Int)))
     (l_6
     (fun v36 =>
      K v36) true v1 v2 v3 ((List.replicate (Int.toNat (v2.length : Int)) false).set 0 true)))))))
def yy29_l12 {R : Type} (kf : Nat) : Nat → Int → LI → LL → LB → (Bool → Int → LI → LL → LB → LB → Option R) → Bool → Int → LB → Option R
 | 0, _, _, _, _, _, _, _, _ => none
 | k + 1, y0, y1, y2, y3, y4, y5, y6, y7 => yy29_l12_b (yy27 kf) (fun _ _ _ _ _ _ => none) (fun _ _ _ _ _ _ _ => none) (yy29_l12 kf k) y0 y1 y2 y3 y4 y5 y6 y7
def yy29_l9 {R : Type} (kf : Nat) : Nat → (Bool → LI → LL → LB → LB → Option R) → Bool → Int → LI → LL → LB → LB → Option R
 | 0, _, _, _, _, _, _, _ => none
 | k + 1, y0, y1, y2, y3, y4, y5, y6 => yy29_l9_b (yy27 kf) (fun _ _ _ _ _ _ => none) (yy29_l9 kf k) (yy29_l12 kf k) y0 y1 y2 y3 y4 y5 y6
def yy29_l6 {R : Type} (kf : Nat) : Nat → (LB → Option R) → Bool → LI → LL → LB → LB → Option R
 | 0, _, _, _, _, _, _ => none
 | k + 1, y0, y1, y2, y3, y4, y5 => yy29_l6_b (yy27 kf) (yy29_l6 kf k) (yy29_l9 kf k) (yy29_l12 kf k) y0 y1 y2 y3 y4 y5
def yy29 {R : Type} (kf : Nat) (v1 : LI) (v2 : LL) (v3 : LB) (K : LB → Option R) : Option R := yy29_b (yy27 kf) (yy29_l6 kf kf) (yy29_l9 kf kf) (yy29_l12 kf kf) v1 v2 v3 K
def yy32_l2_b {R : Type} (l_2 : T72 R) (v8 : LI) (v9 : LB) (v10 : Int) (v11 : Int) (v14 : LL) (Kr : Bool → Option R) (Ke0 : Option R) (v12 : Int) : Option R :=
  bif decide (v12 < (v14.length : Int)) then
  (let j17 : Bool → Option R := fun v16 =>
   (bif v16 then
   (Kr false)
   else (l_2 v8 v9 v10 v11 v14 Kr Ke0 (IntKind.i64.wrap (v12 + 1))))
   (gd (decide (0 ≤ v12))
   (gd (decide (v12 < (v9.length : Int)))
    (bif (v9.getD (Int.toNat v12) false) then
    (gd (decide (0 ≤ v12))
     (gd (decide (v12 < (v14.length : Int)))
     (gd (decide (0 ≤ v10))
      (gd (decide (v10 < ((v14.getD (Int.toNat v12) ([] : LI)).length : Int)))
      (gd (decide (0 ≤ ((v14.getD (Int.toNat v12) ([] : LI)).getD (Int.toNat v10) (0 : Int))))
       (gd (decide (((v14.getD (Int.toNat v12) ([] : LI)).getD (Int.toNat v10) (0 : Int)) < (v8.length : Int)))
       (gd (decide (0 ≤ v12))
        (gd (decide (v12 < (v14.length : Int)))
        (gd (decide (0 ≤ v11))
         (gd (decide (v11 < ((v14.getD (Int.toNat v12) ([] : LI)).length : Int)))
         (gd (decide (0 ≤ ((v14.getD (Int.toNat v12) ([] : LI)).getD (Int.toNat v11) (0 : Int))))
          (gd (decide (((v14.getD (Int.toNat v12) ([] : LI)).getD (Int.toNat v11) (0 : Int)) < (v8.length : Int)))
          (j17 (!(decide ((v8.getD (Int.toNat ((v14.getD (Int.toNat v12) ([] : LI)).getD (Int.toNat v10) (0 : Int))) (0 : Int)) = (v8.getD (Int.toNat ((v14.getD (Int.toNat v12) ([] : LI)).getD (Int.toNat v11) (0 : Int))) (0 : Int))))))))))))))))))
    else (j17 false)))))
  else (Ke0)
def yy32_b {R : Type} (l_2 : T72 R) (v1 : LI) (v2 : LL) (v3 : LB) (v4 : LI) (v5 : LB) (v6 : Int) (v7 : Int) (K : Bool → Option R) : Option R :=
  l_2 v4 v5 v6 v7 v2
  (fun v18 =>
   K v18)
  (K true) 0
def yy32_l2 {R : Type} (kf : Nat) : Nat → LI → LB → Int → Int → LL → (Bool → Option R) → (Option R) → Int → Option R
 | 0, _, _, _, _, _, _, _, _ => none
 | k + 1, y0, y1, y2, y3, y4, y5, y6, y7 => yy32_l2_b (yy32_l2 kf k) y0 y1 y2 y3 y4 y5 y6 y7
def yy32 {R : Type} (kf : Nat) (v1 : LI) (v2 : LL) (v3 : LB) (v4 : LI) (v5 : LB) (v6 : Int) (v7 : Int) (K : Bool → Option R) : Option R := yy32_b (yy32_l2 kf kf) v1 v2 v3 v4 v5 v6 v7 K
def yy26_l8_b {R : Type} (c_yy27 : T0 R) (c_yy28 : T2 R) (c_yy29 : T8 R) (c_yy32 : T9 R) (l_8 : T17 R) (l_11 : T18 R) (l_18 : T19 R) (l_22 : T20 R) (l_26 : T21 R) (Ke0 : LI → LL → LB → LI → LI → LI → LI → LL → LB → LL → LB → Option R) (v7 : Int) (v8 : LI) (v9 : LL) (v10 : LB) (v11 : LI) (v12 : LI) (v13 : LB) (v14 : LI) (v15 : LI) (v16 : LL) (v17 : LB) (v18 : LL) (v19 : LB) : Option R :=
  bif decide (v7 < 256) then
  (l_11 v7 v8 v9 v10 v11 v12 v13 v14 v15 v16 v17 v18 v19
   (fun v35 v36 v37 v38 v39 v40 v41 v42 v43 v44 v45 v46 v47 v48 =>
   let j50 : LI → Option R := fun v49 =>
   (gd (decide (0 ≤ v35))
    (gd (decide (v35 < 256))
    (l_8 Ke0 (IntKind.i64.wrap (v35 + 1)) v37 v38 v39 v40 v41 v42 (v43.set (Int.toNat v35) (IntKind.u8.wrap v36)) v49 v45 v46 v47 v48)))
   (bif decide (v36 = (v44.length : Int)) then
    (gd (decide (v44.length + ([v35] : List Int).length < SMALL))
    (j50 (v44 ++ ([v35] : List Int))))
    else (j50 v44))) 0)
  else (Ke0 v8 v9 v10 v11 v12 v14 v15 v16 v17 v18 v19)
def yy26_l11_b {R : Type} (c_yy27 : T0 R) (c_yy28 : T2 R) (c_yy29 : T8 R) (c_yy32 : T9 R) (l_8 : T17 R) (l_11 : T18 R) (l_18 : T19 R) (l_22 : T20 R) (l_26 : T21 R) (v20 : Int) (v22 : LI) (v23 : LL) (v24 : LB) (v25 : LI) (v26 : LI) (v27 : LB) (v28 : LI) (v29 : LI) (v30 : LL) (v31 : LB) (v32 : LL) (v33 : LB) (Ke2 : Int → Int → LI → LL → LB → LI → LI → LB → LI → LI → LL → LB → LL → LB → Option R) (v21 : Int) : Option R :=
  bif decide (v21 < (v29.length : Int)) then
  (gd (decide (0 ≤ v20))
   (gd (decide (v20 < 256))
   (gd (decide (0 ≤ v21))
    (gd (decide (v21 < (v29.length : Int)))
    (gd (decide (0 ≤ (v29.getD (Int.toNat v21) (0 : Int))))
     (gd (decide ((v29.getD (Int.toNat v21) (0 : Int)) < 256))
     (c_yy32 v22 v23 v24 v26 v27 (IntKind.i64.wrap (v22.getD (Int.toNat v20) (0 : Int))) (IntKind.i64.wrap (v22.getD (Int.toNat (v29.getD (Int.toNat v21) (0 : Int))) (0 : Int))) (fun v34 =>
      bif (!v34) then
      (l_11 v20 v22 v23 v24 v25 v26 v27 v28 v29 v30 v31 v32 v33 Ke2 (IntKind.i64.wrap (v21 + 1)))
      else (Ke2 v20 v21 v22 v23 v24 v25 v26 v27 v28 v29 v30 v31 v32 v33)))))))))
  else (Ke2 v20 v21 v22 v23 v24 v25 v26 v27 v28 v29 v30 v31 v32 v33)
def yy26_l18_b {R : Type} (c_yy27 : T0 R) (c_yy28 : T2 R) (c_yy29 : T8 R) (c_yy32 : T9 R) (l_8 : T17 R) (l_11 : T18 R) (l_18 : T19 R) (l_22 : T20 R) (l_26 : T21 R) (Ke4 : LI → LI → LL → LB → LL → LB → Option R) (v62 : Int) (v63 : LI) (v64 : LL) (v65 : LB) (v66 : LI) (v67 : LI) (v68 : LI) (v69 : LI) (v70 : LI) (v71 : LL) (v72 : LB) (v73 : LL) (v74 : LB) : Option R :=
  bif decide (v62 < (v70.length : Int)) then
  (l_22
   (fun v127 v128 v129 v130 v131 v132 v133 v134 v135 v136 v137 v138 v139 v140 =>
   gd (decide (v139.length + ([v136] : List LI).length < SMALL))
   (gd (decide (0 ≤ v127))
    (gd (decide (v127 < (v135.length : Int)))
    (gd (decide (0 ≤ (v135.getD (Int.toNat v127) (0 : Int))))
     (gd (decide ((v135.getD (Int.toNat v127) (0 : Int)) < (v130.length : Int)))
     (gd (decide (v140.length + ([(v130.getD (Int.toNat (v135.getD (Int.toNat v127) (0 : Int))) false)] : List Bool).length < SMALL))
      (l_18 Ke4 (IntKind.i64.wrap (v127 + 1)) v128 v129 v130 v131 v132 v133 v134 v135 v137 v138 (v139 ++ ([v136] : List LI)) (v140 ++ ([(v130.getD (Int.toNat (v135.getD (Int.toNat v127) (0 : Int))) false)] : List Bool))))))))) v62 0 v63 v64 v65 v66 v67 v68 v69 v70 ([] : List Int) v71 v72 v73 v74)
  else (Ke4 v66 v68 v71 v72 v73 v74)
def yy26_l22_b {R : Type} (c_yy27 : T0 R) (c_yy28 : T2 R) (c_yy29 : T8 R) (c_yy32 : T9 R) (l_8 : T17 R) (l_11 : T18 R) (l_18 : T19 R) (l_22 : T20 R) (l_26 : T21 R) (Ke6 : Int → LI → LL → LB → LI → LI → LI → LI → LI → LI → LL → LB → LL → LB → Option R) (v75 : Int) (v76 : Int) (v77 : LI) (v78 : LL) (v79 : LB) (v80 : LI) (v81 : LI) (v82 : LI) (v83 : LI) (v84 : LI) (v85 : LI) (v86 : LL) (v87 : LB) (v88 : LL) (v89 : LB) : Option R :=
  bif decide (v76 < (v83.length : Int)) then
  (gd (decide (0 ≤ v75))
   (gd (decide (v75 < (v84.length : Int)))
   (gd (decide (0 ≤ (v84.getD (Int.toNat v75) (0 : Int))))
    (gd (decide ((v84.getD (Int.toNat v75) (0 : Int)) < (v78.length : Int)))
    (gd (decide (0 ≤ v76))
     (gd (decide (v76 < (v83.length : Int)))
     (gd (decide (0 ≤ (v83.getD (Int.toNat v76) (0 : Int))))
      (gd (decide ((v83.getD (Int.toNat v76) (0 : Int)) < 256))
      (gd (decide (0 ≤ (v77.getD (Int.toNat (v83.getD (Int.toNat v76) (0 : Int))) (0 : Int))))
       (gd (decide ((v77.getD (Int.toNat (v83.getD (Int.toNat v76) (0 : Int))) (0 : Int)) < ((v78.getD (Int.toNat (v84.getD (Int.toNat v75) (0 : Int))) ([] : LI)).length : Int)))
       (gd (decide (0 ≤ ((v78.getD (Int.toNat (v84.getD (Int.toNat v75) (0 : Int))) ([] : LI)).getD (Int.toNat (v77.getD (Int.toNat (v83.getD (Int.toNat v76) (0 : Int))) (0 : Int))) (0 : Int))))
        (gd (decide (((v78.getD (Int.toNat (v84.getD (Int.toNat v75) (0 : Int))) ([] : LI)).getD (Int.toNat (v77.getD (Int.toNat (v83.getD (Int.toNat v76) (0 : Int))) (0 : Int))) (0 : Int)) < (v81.length : Int)))
        (let v90 : Int := (v81.getD (Int.toNat ((v78.getD (Int.toNat (v84.getD (Int.toNat v75) (0 : Int))) ([] : LI)).getD (Int.toNat (v77.getD (Int.toNat (v83.getD (Int.toNat v76) (0 : Int))) (0 : Int))) (0 : Int))) (0 : Int))
         l_26 v75 v76 v90 v77 v78 v79 v80 v81 v82 v83 v84 v85 v86 v87 v88 v89
         (fun v108 v109 v110 v111 v112 v113 v114 v115 v116 v117 v118 v119 v120 v121 v122 v123 v124 =>
         let j126 : LI → Option R := fun v125 =>
         (gd (decide (v120.length + ([v111] : List Int).length < SMALL))
          (l_22 Ke6 v108 (IntKind.i64.wrap (v109 + 1)) v112 v113 v114 v115 v116 v117 v118 v125 (v120 ++ ([v111] : List Int)) v121 v122 v123 v124))
         (bif decide (v111 = (v119.length : Int)) then
          (gd (decide (v119.length + ([v110] : List Int).length < SMALL))
          (j126 (v119 ++ ([v110] : List Int))))
          else (j126 v119))) 0)))))))))))))
  else (Ke6 v75 v77 v78 v79 v80 v81 v82 v83 v84 v85 v86 v87 v88 v89)
def yy26_l26_b {R : Type} (c_yy27 : T0 R) (c_yy28 : T2 R) (c_yy29 : T8 R) (c_yy32 : T9 R) (l_8 : T17 R) (l_11 : T18 R) (l_18 : T19 R) (l_22 : T20 R) (l_26 : T21 R) (v91 : Int) (v92 : Int) (v93 : Int) (v95 : LI) (v96 : LL) (v97 : LB) (v98 : LI) (v99 : LI) (v100 : LI) (v101 : LI) (v102 : LI) (v103 : LI) (v104 : LL) (v105 : LB) (v106 : LL) (v107 : LB) (Ke8 : Int → Int → Int → Int → LI → LL → LB → LI → LI → LI → LI → LI → LI → LL → LB → LL → LB → Option R) (v94 : Int) : Option R :=
  bif decide (v94 < (v102.length : Int)) then
  (gd (decide (0 ≤ v94))
   (gd (decide (v94 < (v102.length : Int)))
   (bif (!(decide ((v102.getD (Int.toNat v94) (0 : Int)) = v93))) then
    (l_26 v91 v92 v93 v95 v96 v97 v98 v99 v100 v101 v102 v103 v104 v105 v106 v107 Ke8 (IntKind.i64.wrap (v94 + 1)))
    else (Ke8 v91 v92 v93 v94 v95 v96 v97 v98 v99 v100 v101 v102 v103 v104 v105 v106 v107))))
  else (Ke8 v91 v92 v93 v94 v95 v96 v97 v98 v99 v100 v101 v102 v103 v104 v105 v106 v107)
def yy26_b {R : Type} (c_yy27 : T0 R) (c_yy28 : T2 R) (c_yy29 : T8 R) (c_yy32 : T9 R) (l_8 : T17 R) (l_11 : T18 R) (l_18 : T19 R) (l_22 : T20 R) (l_26 : T21 R) (v1 : LI) (v2 : LL) (v3 : LB) (K : LI → LL → LB → Option R) : Option R :=
  c_yy27 v1 v2 v3 (fun v4 =>
   bif (!v4) then
   (K (List.replicate 256 (0 : Int)) ([] : List LI) ([] : List Bool))
   else (c_yy28 v1 v2 v3 (fun v5 =>
    c_yy29 v1 v2 v3 (fun v6 =>
    l_8
    (fun v51 v52 v53 v54 v55 v56 v57 v58 v59 v60 v61 =>
     gd (decide (0 < (v55.length : Int)))
     (l_18
     (fun v141 v142 v143 v144 v145 v146 =>
      K v142 v145 v146) 0 v51 v52 v53 v54 v55 v56 v57 ([(v55.getD 0 (0 : Int))] : List Int) v58 v59 v60 v61)) 0 v1 v2 v3 (List.replicate 256 (0 : Int)) v5 v6 (List.replicate 256 (0 : Int)) ([] : List Int) ([] : List LI) ([] : List Bool) ([] : List LI) ([] : List Bool)))))
def yy26_l11 {R : Type} (kf : Nat) : Nat → Int → LI → LL → LB → LI → LI → LB → LI → LI → LL → LB → LL → LB → (Int → Int → LI → LL → LB → LI → LI → LB → LI → LI → LL → LB → LL → LB → Option R) → Int → Option R
 | 0, _, _, _, _, _, _, _, _, _, _, _, _, _, _, _ => none
 | k + 1, y0, y1, y2, y3, y4, y5, y6, y7, y8, y9, y10, y11, y12, y13, y14 => yy26_l11_b (yy27 kf) (yy28 kf) (yy29 kf) (yy32 kf) (fun _ _ _ _ _ _ _ _ _ _ _ _ _ _ => none) (yy26_l11 kf k) (fun _ _ _ _ _ _ _ _ _ _ _ _ _ _ => none) (fun _ _ _ _ _ _ _ _ _ _ _ _ _ _ _ _ => none) (fun _ _ _ _ _ _ _ _ _ _ _ _ _ _ _ _ _ _ => none) y0 y1 y2 y3 y4 y5 y6 y7 y8 y9 y10 y11 y12 y13 y14
def yy26_l8 {R : Type} (kf : Nat) : Nat → (LI → LL → LB → LI → LI → LI → LI → LL → LB → LL → LB → Option R) → Int → LI → LL → LB → LI → LI → LB → LI → LI → LL → LB → LL → LB → Option R
 | 0, _, _, _, _, _, _, _, _, _, _, _, _, _, _ => none
 | k + 1, y0, y1, y2, y3, y4, y5, y6, y7, y8, y9, y10, y11, y12, y13 => yy26_l8_b (yy27 kf) (yy28 kf) (yy29 kf) (yy32 kf) (yy26_l8 kf k) (yy26_l11 kf k) (fun _ _ _ _ _ _ _ _ _ _ _ _ _ _ => none) (fun _ _ _ _ _ _ _ _ _ _ _ _ _ _ _ _ => none) (fun _ _ _ _ _ _ _ _ _ _ _ _ _ _ _ _ _ _ => none) y0 y1 y2 y3 y4 y5 y6 y7 y8 y9 y10 y11 y12 y13
def yy26_l26 {R : Type} (kf : Nat) : Nat → Int → Int → Int → LI → LL → LB → LI → LI → LI → LI → LI → LI → LL → LB → LL → LB → (Int → Int → Int → Int → LI → LL → LB → LI → LI → LI → LI → LI → LI → LL → LB → LL → LB → Option R) → Int → Option R
 | 0, _, _, _, _, _, _, _, _, _, _, _, _, _, _, _, _, _, _ => none
 | k + 1, y0, y1, y2, y3, y4, y5, y6, y7, y8, y9, y10, y11, y12, y13, y14, y15, y16, y17 => yy26_l26_b (yy27 kf) (yy28 kf) (yy29 kf) (yy32 kf) (yy26_l8 kf k) (yy26_l11 kf k) (fun _ _ _ _ _ _ _ _ _ _ _ _ _ _ => none) (fun _ _ _ _ _ _ _ _ _ _ _ _ _ _ _ _ => none) (yy26_l26 kf k) y0 y1 y2 y3 y4 y5 y6 y7 y8 y9 y10 y11 y12 y13 y14 y15 y16 y17
def yy26_l22 {R : Type} (kf : Nat) : Nat → (Int → LI → LL → LB → LI → LI → LI → LI → LI → LI → LL → LB → LL → LB → Option R) → Int → Int → LI → LL → LB → LI → LI → LI → LI → LI → LI → LL → LB → LL → LB → Option R
 | 0, _, _, _, _, _, _, _, _, _, _, _, _, _, _, _, _ => none
 | k + 1, y0, y1, y2, y3, y4, y5, y6, y7, y8, y9, y10, y11, y12, y13, y14, y15 => yy26_l22_b (yy27 kf) (yy28 kf) (yy29 kf) (yy32 kf) (yy26_l8 kf k) (yy26_l11 kf k) (fun _ _ _ _ _ _ _ _ _ _ _ _ _ _ => none) (yy26_l22 kf k) (yy26_l26 kf k) y0 y1 y2 y3 y4 y5 y6 y7 y8 y9 y10 y11 y12 y13 y14 y15
def yy26_l18 {R : Type} (kf : Nat) : Nat → (LI → LI → LL → LB → LL → LB → Option R) → Int → LI → LL → LB → LI → LI → LI → LI → LI → LL → LB → LL → LB → Option R
 | 0, _, _, _, _, _, _, _, _, _, _, _, _, _, _ => none
 | k + 1, y0, y1, y2, y3, y4, y5, y6, y7, y8, y9, y10, y11, y12, y13 => yy26_l18_b (yy27 kf) (yy28 kf) (yy29 kf) (yy32 kf) (yy26_l8 kf k) (yy26_l11 kf k) (yy26_l18 kf k) (yy26_l22 kf k) (yy26_l26 kf k) y0 y1 y2 y3 y4 y5 y6 y7 y8 y9 y10 y11 y12 y13
def yy26 {R : Type} (kf : Nat) (v1 : LI) (v2 : LL) (v3 : LB) (K : LI → LL → LB → Option R) : Option R := yy26_b (yy27 kf) (yy28 kf) (yy29 kf) (yy32 kf) (yy26_l8 kf kf) (yy26_l11 kf kf) (yy26_l18 kf kf) (yy26_l22 kf kf) (yy26_l26 kf kf) v1 v2 v3 K
def yy30_l4_b {R : Type} (l_4 : T44 R) (l_9 : T45 R) (l_14 : T46 R) (v9 : LI) (v10 : LL) (v11 : LB) (v12 : LI) (v13 : LL) (v14 : LB) (Kr : Bool → LI → LL → LB → LI → LL → LB → Option R) (Ke0 : LI → LL → LB → LI → LL → LB → Option R) (v8 : Int) : Option R :=
  bif decide (v8 < (v11.length : Int)) then
  (gd (decide (0 ≤ v8))
   (gd (decide (v8 < (v11.length : Int)))
   (gd (decide (0 ≤ v8))
    (gd (decide (v8 < (v14.length : Int)))
    (bif (!(decide ((v11.getD (Int.toNat v8) false) = (v14.getD (Int.toNat v8) false)))) then
     (Kr false v9 v10 v11 v12 v13 v14)
     else (l_4 v9 v10 v11 v12 v13 v14 Kr Ke0 (IntKind.i64.wrap (v8 + 1))))))))
  else (Ke0 v9 v10 v11 v12 v13 v14)
def yy30_l9_b {R : Type} (l_4 : T44 R) (l_9 : T45 R) (l_14 : T46 R) (Kr : Bool → Option R) (Ke2 : Option R) (v28 : Int) (v29 : LI) (v30 : LL) (v31 : LB) (v32 : LI) (v33 : LL) (v34 : LB) : Option R :=
  bif decide (v28 < (v30.length : Int)) then
  (gd (decide (0 ≤ v28))
   (gd (decide (v28 < (v30.length : Int)))
   (gd (decide (0 ≤ v28))
    (gd (decide (v28 < (v33.length : Int)))
    (bif (!(decide (((v30.getD (Int.toNat v28) ([] : LI)).length : Int) = ((v33.getD (Int.toNat v28) ([] : LI)).length : Int)))) then
     (Kr false)
     else (l_14 v28 v29 v30 v31 v32 v33 v34
     (fun v43 v44 v45 v46 v47 v48 v49 v50 =>
      Kr v43)
     (fun v51 v52 v53 v54 v55 v56 v57 =>
      l_9 Kr Ke2 (IntKind.i64.wrap (v51 + 1)) v52 v53 v54 v55 v56 v57) 0))))))
  else (Ke2)
def yy30_l14_b {R : Type} (l_4 : T44 R) (l_9 : T45 R) (l_14 : T46 R) (v35 : Int) (v37 : LI) (v38 : LL) (v39 : LB) (v40 : LI) (v41 : LL) (v42 : LB) (Kr : Bool → Int → LI → LL → LB → LI → LL → LB → Option R) (Ke4 : Int → LI → LL → LB → LI → LL → LB → Option R) (v36 : Int) : Option R :=
  gd (decide (0 ≤ v35))
  (gd (decide (v35 < (v38.length : Int)))
   (bif decide (v36 < ((v38.getD (Int.toNat v35) ([] : LI)).length : Int)) then
   (gd (decide (0 ≤ v35))
    (gd (decide (v35 < (v38.length : Int)))
    (gd (decide (0 ≤ v36))
     (gd (decide (v36 < ((v38.getD (Int.toNat v35) ([] : LI)).length : Int)))
     (gd (decide (0 ≤ v35))
      (gd (decide (v35 < (v41.length : Int)))
      (gd (decide (0 ≤ v36))
       (gd (decide (v36 < ((v41.getD (Int.toNat v35) ([] : LI)).length : Int)))
       (bif (!(decide (((v38.getD (Int.toNat v35) ([] : LI)).getD (Int.toNat v36) (0 : Int)) = ((v41.getD (Int.toNat v35) ([] : LI)).getD (Int.toNat v36) (0 : Int))))) then
        (Kr false v35 v37 v38 v39 v40 v41 v42)
        else (l_14 v35 v37 v38 v39 v40 v41 v42 Kr Ke4 (IntKind.i64.wrap (v36 + 1))))))))))))
   else (Ke4 v35 v37 v38 v39 v40 v41 v42)))
def yy30_b {R : Type} (l_4 : T44 R) (l_9 : T45 R) (l_14 : T46 R) (v1 : LI) (v2 : LL) (v3 : LB) (v4 : LI) (v5 : LL) (v6 : LB) (K : Bool → Option R) : Option R :=
  let j59 : Bool → Option R := fun v7 =>
  (bif v7 then
   (K false)
   else (l_4 v1 v2 v3 v4 v5 v6
   (fun v15 v16 v17 v18 v19 v20 v21 =>
    K v15)
   (fun v22 v23 v24 v25 v26 v27 =>
    l_9
    (fun v58 =>
    K v58)
    (K true) 0 v22 v23 v24 v25 v26 v27) 0))
  (bif (!(decide (v1 = v4))) then
   (j59 true)
   else (bif (!(decide ((v2.length : Int) = (v5.length : Int)))) then
   (j59 true)
   else (j59 (!(decide ((v3.length : Int) = (v6.length : Int)))))))
def yy30_l4 {R : Type} (kf : Nat) : Nat → LI → LL → LB → LI → LL → LB → (Bool → LI → LL → LB → LI → LL → LB → Option R) → (LI → LL → LB → LI → LL → LB → Option R) → Int → Option R
 | 0, _, _, _, _, _, _, _, _, _ => none
 | k + 1, y0, y1, y2, y3, y4, y5, y6, y7, y8 => yy30_l4_b (yy30_l4 kf k) (fun _ _ _ _ _ _ _ _ _ => none) (fun _ _ _ _ _ _ _ _ _ _ => none) y0 y1 y2 y3 y4 y5 y6 y7 y8
def yy30_l14 {R : Type} (kf : Nat) : Nat → Int → LI → LL → LB → LI → LL → LB → (Bool → Int → LI → LL → LB → LI → LL → LB → Option R) → (Int → LI → LL → LB → LI → LL → LB → Option R) → Int → Option R
 | 0, _, _, _, _, _, _, _, _, _, _ => none
 | k + 1, y0, y1, y2, y3, y4, y5, y6, y7, y8, y9 => yy30_l14_b (yy30_l4 kf k) (fun _ _ _ _ _ _ _ _ _ => none) (yy30_l14 kf k) y0 y1 y2 y3 y4 y5 y6 y7 y8 y9
def yy30_l9 {R : Type} (kf : Nat) : Nat → (Bool → Option R) → (Option R) → Int → LI → LL → LB → LI → LL → LB → Option R
 | 0, _, _, _, _, _, _, _, _, _ => none
 | k + 1, y0, y1, y2, y3, y4, y5, y6, y7, y8 => yy30_l9_b (yy30_l4 kf k) (yy30_l9 kf k) (yy30_l14 kf k) y0 y1 y2 y3 y4 y5 y6 y7 y8
def yy30 {R : Type} (kf : Nat) (v1 : LI) (v2 : LL) (v3 : LB) (v4 : LI) (v5 : LL) (v6 : LB) (K : Bool → Option R) : Option R := yy30_b (yy30_l4 kf kf) (yy30_l9 kf kf) (yy30_l14 kf kf) v1 v2 v3 v4 v5 v6 K
def yy25_b {R : Type} (c_yy27 : T0 R) (c_yy26 : T23 R) (c_yy30 : T5 R) (v1 : LI) (v2 : LL) (v3 : LB) (K : Bool → Option R) : Option R :=
  c_yy27 v1 v2 v3 (fun v4 =>
   bif v4 then
   (c_yy26 v1 v2 v3 (fun v5 v6 v7 =>
    c_yy30 v5 v6 v7 v1 v2 v3 (fun v8 =>
    K v8)))
   else (K false))
def yy25 {R : Type} (kf : Nat) (v1 : LI) (v2 : LL) (v3 : LB) (K : Bool → Option R) : Option R := yy25_b (yy27 kf) (yy26 kf) (yy30 kf) v1 v2 v3 K
def yy31_l12_b {R : Type} (c_yy25 : T0 R) (l_12 : T29 R) (l_23 : T30 R) (l_28 : T31 R) (l_32 : T32 R) (Kr : LI → Int → Int → Int → Int → LI → LI → LL → LB → LL → LB → Option R) (Ke0 : LI → Int → Int → Int → LI → LI → LL → LB → LL → LB → Option R) (v3 : LI) (v4 : Int) (v5 : Int) (v6 : Int) (v7 : Int) (v8 : Int) (v9 : Int) (v10 : Int) (v11 : LI) (v12 : LI) (v13 : LL) (v14 : LB) (v15 : LL) (v16 : LB) : Option R :=
  bif decide (v10 < v6) then
  (bif decide ((v3.length : Int) ≤ v7) then
   (Kr v3 2 v4 v5 v7 (List.replicate 256 (0 : Int)) v12 ([] : List LI) ([] : List Bool) v15 v16)
   else (let j46 : Bool → Option R := fun v17 =>
   (bif v17 then
    (Kr v3 3 v4 v5 v7 (List.replicate 256 (0 : Int)) v12 ([] : List LI) ([] : List Bool) v15 v16)
    else (bif decide ((v3.length : Int) ≤ (IntKind.i64.wrap (v7 + 1))) then
    (Kr v3 2 v4 v5 v7 (List.replicate 256 (0 : Int)) v12 ([] : List LI) ([] : List Bool) v15 v16)
    else (let j45 : Bool → Option R := fun v18 =>
     (bif v18 then
     (Kr v3 3 v4 v5 v7 (List.replicate 256 (0 : Int)) v12 ([] : List LI) ([] : List Bool) v15 v16)
     else (l_23 v3 v4 v5 v6 v7 v10 v11 v13 v14 v15 v16
      (fun v32 v33 v34 v35 v36 v37 v38 v39 v40 v41 v42 v43 =>
      gd (decide (0 ≤ v36))
      (gd (decide (v36 < (v32.length : Int)))
       (gd (decide (0 ≤ (IntKind.i64.wrap (v36 + 1))))
       (gd (decide ((IntKind.i64.wrap (v36 + 1)) < (v32.length : Int)))
        (let v44 : Int := (IntKind.i64.wrap (v32.getD (Int.toNat (IntKind.i64.wrap (v36 + 1))) (0 : Int)))
        l_12 Kr Ke0 v32 v33 v34 v35 (IntKind.i64.wrap (v36 + 2)) (IntKind.i64.wrap (v32.getD (Int.toNat v36) (0 : Int))) v44 (IntKind.i64.wrap (v37 + 1)) v38 v39 v40 v41 v42 v43))))) (IntKind.i64.wrap (v8 + 1)) v12))
     (gd (decide (0 ≤ (IntKind.i64.wrap (v7 + 1))))
     (gd (decide ((IntKind.i64.wrap (v7 + 1)) < (v3.length : Int)))
      (bif decide ((IntKind.i64.wrap (v3.getD (Int.toNat (IntKind.i64.wrap (v7 + 1))) (0 : Int))) = v9) then
      (j45 true)
      else (gd (decide (0 ≤ (IntKind.i64.wrap (v7 + 1))))
       (gd (decide ((IntKind.i64.wrap (v7 + 1)) < (v3.length : Int)))
       (j45 (decide (v5 ≤ (IntKind.i64.wrap (v3.getD (Int.toNat (IntKind.i64.wrap (v7 + 1))) (0 : Int))))))))))))))
   (gd (decide (0 ≤ v7))
    (gd (decide (v7 < (v3.length : Int)))
    (bif decide ((IntKind.i64.wrap (v3.getD (Int.toNat v7) (0 : Int))) ≤ v8) then
     (j46 true)
     else (bif decide (v10 = (IntKind.i64.wrap (v6 - 1))) then
     (gd (decide (0 ≤ v7))
      (gd (decide (v7 < (v3.length : Int)))
      (j46 (!(decide ((v3.getD (Int.toNat v7) (0 : Int)) = 255))))))
     else (j46 false)))))))
  else (Ke0 v3 v4 v5 v7 v11 v12 v13 v14 v15 v16)
def yy31_l23_b {R : Type} (c_yy25 : T0 R) (l_12 : T29 R) (l_23 : T30 R) (l_28 : T31 R) (l_32 : T32 R) (v19 : LI) (v20 : Int) (v21 : Int) (v22 : Int) (v23 : Int) (v24 : Int) (v26 : LI) (v28 : LL) (v29 : LB) (v30 : LL) (v31 : LB) (Ke2 : LI → Int → Int → Int → Int → Int → LI → LI → LL → LB → LL → LB → Option R) (v25 : Int) (v27 : LI) : Option R :=
  gd (decide (0 ≤ v23))
  (gd (decide (v23 < (v19.length : Int)))
   (bif decide (v25 ≤ (IntKind.i64.wrap (v19.getD (Int.toNat v23) (0 : Int)))) then
   (gd (decide (0 ≤ (IntKind.i64.wrap (v23 + 1))))
    (gd (decide ((IntKind.i64.wrap (v23 + 1)) < (v19.length : Int)))
    (gd (decide (0 ≤ v25))
     (gd (decide (v25 < 256))
     (l_23 v19 v20 v21 v22 v23 v24 v26 v28 v29 v30 v31 Ke2 (IntKind.i64.wrap (v25 + 1)) (v27.set (Int.toNat v25) (v19.getD (Int.toNat (IntKind.i64.wrap (v23 + 1))) (0 : Int))))))))
   else (Ke2 v19 v20 v21 v22 v23 v24 v26 v27 v28 v29 v30 v31)))
def yy31_l28_b {R : Type} (c_yy25 : T0 R) (l_12 : T29 R) (l_23 : T30 R) (l_28 : T31 R) (l_32 : T32 R) (Kr : LI → Int → Int → LI → LI → LL → LB → LL → LB → Option R) (Ke4 : LI → Int → LI → LI → LL → LB → LL → LB → Option R) (v68 : LI) (v69 : Int) (v70 : Int) (v71 : Int) (v72 : Int) (v73 : LI) (v74 : LI) (v75 : LL) (v76 : LB) (v77 : LL) (v78 : LB) : Option R :=
  bif decide (v72 < v69) then
  (l_32 v68 v69 v70 v72 v73 v74 v75 v76 v77
   (fun v94 v95 v96 v97 v98 v99 v100 v101 v102 v103 v104 v105 v106 =>
   Kr v94 v95 v98 v100 v101 v103 v104 v105 v106)
   (fun v107 v108 v109 v110 v111 v112 v113 v114 v115 v116 v117 v118 =>
   gd (decide (v117.length + ([v114] : List LI).length < SMALL))
   (l_28 Kr Ke4 v107 v108 v109 v110 (IntKind.i64.wrap (v111 + 1)) v112 v113 v115 v116 (v117 ++ ([v114] : List LI)) v118)) v71 0 ([] : List Int) v78)
  else (Ke4 v68 v71 v73 v74 v75 v76 v77 v78)
def yy31_l32_b {R : Type} (c_yy25 : T0 R) (l_12 : T29 R) (l_23 : T30 R) (l_28 : T31 R) (l_32 : T32 R) (v79 : LI) (v80 : Int) (v81 : Int) (v83 : Int) (v85 : LI) (v86 : LI) (v88 : LL) (v89 : LB) (v90 : LL) (Kr : LI → Int → Int → Int → Int → Int → LI → LI → LI → LL → LB → LL → LB → Option R) (Ke6 : LI → Int → Int → Int → Int → LI → LI → LI → LL → LB → LL → LB → Option R) (v82 : Int) (v84 : Int) (v87 : LI) (v91 : LB) : Option R :=
  bif decide (v84 ≤ v81) then
  (bif decide ((v79.length : Int) ≤ v82) then
   (Kr v79 2 v80 v81 v82 v83 (List.replicate 256 (0 : Int)) v86 v87 ([] : List LI) ([] : List Bool) v90 v91)
   else (let j93 : Bool → Option R := fun v92 =>
   (bif v92 then
    (Kr v79 3 v80 v81 v82 v83 (List.replicate 256 (0 : Int)) v86 v87 ([] : List LI) ([] : List Bool) v90 v91)
    else (bif decide (v84 = 0) then
    (gd (decide (0 ≤ v82))
     (gd (decide (v82 < (v79.length : Int)))
     (gd (decide (v91.length + ([decide ((v79.getD (Int.toNat v82) (0 : Int)) = 1)] : List Bool).length < SMALL))
      (l_32 v79 v80 v81 v83 v85 v86 v88 v89 v90 Kr Ke6 (IntKind.i64.wrap (v82 + 1)) (IntKind.i64.wrap (v84 + 1)) v87 (v91 ++ ([decide ((v79.getD (Int.toNat v82) (0 : Int)) = 1)] : List Bool))))))
    else (gd (decide (0 ≤ v82))
     (gd (decide (v82 < (v79.length : Int)))
     (gd (decide (v87.length + ([(IntKind.i64.wrap (v79.getD (Int.toNat v82) (0 : Int)))] : List Int).length < SMALL))
      (l_32 v79 v80 v81 v83 v85 v86 v88 v89 v90 Kr Ke6 (IntKind.i64.wrap (v82 + 1)) (IntKind.i64.wrap (v84 + 1)) (v87 ++ ([(IntKind.i64.wrap (v79.getD (Int.toNat v82) (0 : Int)))] : List Int)) v91))))))
   (bif decide (v84 = 0) then
    (gd (decide (0 ≤ v82))
    (gd (decide (v82 < (v79.length : Int)))
     (bif decide (1 < (v79.getD (Int.toNat v82) (0 : Int))) then
     (j93 true)
     else (bif decide (0 < v84) then
      (gd (decide (0 ≤ v82))
      (gd (decide (v82 < (v79.length : Int)))
       (j93 (decide (v80 ≤ (IntKind.i64.wrap (v79.getD (Int.toNat v82) (0 : Int))))))))
      else (j93 false)))))
    else (bif decide (0 < v84) then
    (gd (decide (0 ≤ v82))
     (gd (decide (v82 < (v79.length : Int)))
     (j93 (decide (v80 ≤ (IntKind.i64.wrap (v79.getD (Int.toNat v82) (0 : Int))))))))
    else (j93 false)))))
  else (Ke6 v79 v80 v81 v82 v83 v85 v86 v87 v88 v89 v90 v91)
def yy31_b {R : Type} (c_yy25 : T0 R) (l_12 : T29 R) (l_23 : T30 R) (l_28 : T31 R) (l_32 : T32 R) (v1 : LI) (K : LI → Int → LL → LB → Option R) : Option R :=
  bif decide ((v1.length : Int) < 1) then
  (K (List.replicate 256 (0 : Int)) 2 ([] : List LI) ([] : List Bool))
  else (gd (decide (0 < (v1.length : Int)))
   (let j139 : Bool → Option R := fun v2 =>
   (bif v2 then
    (K (List.replicate 256 (0 : Int)) 3 ([] : List LI) ([] : List Bool))
    else (bif decide ((v1.length : Int) < 3) then
    (K (List.replicate 256 (0 : Int)) 2 ([] : List LI) ([] : List Bool))
    else (gd (decide (1 < (v1.length : Int)))
     (gd (decide (2 < (v1.length : Int)))
     (l_12
      (fun v47 v48 v49 v50 v51 v52 v53 v54 v55 v56 v57 =>
      K v52 v48 v54 v55)
      (fun v58 v59 v60 v61 v62 v63 v64 v65 v66 v67 =>
      l_28
      (fun v119 v120 v121 v122 v123 v124 v125 v126 v127 =>
       K v122 v120 v124 v125)
      (fun v128 v129 v130 v131 v132 v133 v134 v135 =>
       let j137 : Bool → Option R := fun v136 =>
       (bif v136 then
       (K (List.replicate 256 (0 : Int)) 3 ([] : List LI) ([] : List Bool))
       else (K v131 0 v134 v135))
       (bif (!(decide (v129 = (v128.length : Int)))) then
       (j137 true)
       else (c_yy25 v131 v134 v135 (fun v138 =>
        j137 (!v138))))) v58 v59 v60 v61 0 v62 v63 v64 v65 v66 v67) v1 (IntKind.i64.wrap (v1.getD 0 (0 : Int))) (IntKind.i64.wrap ((IntKind.i64.wrap (v1.getD 1 (0 : Int))) + 1)) (IntKind.i64.wrap ((IntKind.i64.wrap (v1.getD 2 (0 : Int))) + 1)) 3 (-1) (-1) 0 (List.replicate 256 (0 : Int)) (List.replicate 256 (0 : Int)) ([] : List LI) ([] : List Bool) ([] : List LI) ([] : List Bool))))))
   (bif decide ((IntKind.i64.wrap (v1.getD 0 (0 : Int))) < 1) then
    (j139 true)
    else (j139 (decide (20 < (IntKind.i64.wrap (v1.getD 0 (0 : Int)))))))))
def yy31_l23 {R : Type} (kf : Nat) : Nat → LI → Int → Int → Int → Int → Int → LI → LL → LB → LL → LB → (LI → Int → Int → Int → Int → Int → LI → LI → LL → LB → LL → LB → Option R) → Int → LI → Option R
 | 0, _, _, _, _, _, _, _, _, _, _, _, _, _, _ => none
 | k + 1, y0, y1, y2, y3, y4, y5, y6, y7, y8, y9, y10, y11, y12, y13 => yy31_l23_b (yy25 kf) (fun _ _ _ _ _ _ _ _ _ _ _ _ _ _ _ _ => none) (yy31_l23 kf k) (fun _ _ _ _ _ _ _ _ _ _ _ _ _ => none) (fun _ _ _ _ _ _ _ _ _ _ _ _ _ _ _ => none) y0 y1 y2 y3 y4 y5 y6 y7 y8 y9 y10 y11 y12 y13
def yy31_l12 {R : Type} (kf : Nat) : Nat → (LI → Int → Int → Int → Int → LI → LI → LL → LB → LL → LB → Option R) → (LI → Int → Int → Int → LI → LI → LL → LB → LL → LB → Option R) → LI → Int → Int → Int → Int → Int → Int → Int → LI → LI → LL → LB → LL → LB → Option R
 | 0, _, _, _, _, _, _, _, _, _, _, _, _, _, _, _, _ => none
 | k + 1, y0, y1, y2, y3, y4, y5, y6, y7, y8, y9, y10, y11, y12, y13, y14, y15 => yy31_l12_b (yy25 kf) (yy31_l12 kf k) (yy31_l23 kf k) (fun _ _ _ _ _ _ _ _ _ _ _ _ _ => none) (fun _ _ _ _ _ _ _ _ _ _ _ _ _ _ _ => none) y0 y1 y2 y3 y4 y5 y6 y7 y8 y9 y10 y11 y12 y13 y14 y15
def yy31_l32 {R : Type} (kf : Nat) : Nat → LI → Int → Int → Int → LI → LI → LL → LB → LL → (LI → Int → Int → Int → Int → Int → LI → LI → LI → LL → LB → LL → LB → Option R) → (LI → Int → Int → Int → Int → LI → LI → LI → LL → LB → LL → LB → Option R) → Int → Int → LI → LB → Option R
 | 0, _, _, _, _, _, _, _, _, _, _, _, _, _, _, _ => none
 | k + 1, y0, y1, y2, y3, y4, y5, y6, y7, y8, y9, y10, y11, y12, y13, y14 => yy31_l32_b (yy25 kf) (yy31_l12 kf k) (yy31_l23 kf k) (fun _ _ _ _ _ _ _ _ _ _ _ _ _ => none) (yy31_l32 kf k) y0 y1 y2 y3 y4 y5 y6 y7 y8 y9 y10 y11 y12 y13 y14
def yy31_l28 {R : Type} (kf : Nat) : Nat → (LI → Int → Int → LI → LI → LL → LB → LL → LB → Option R) → (LI → Int → LI → LI → LL → LB → LL → LB → Option R) → LI → Int → Int → Int → Int → LI → LI → LL → LB → LL → LB → Option R
 | 0, _, _, _, _, _, _, _, _, _, _, _, _, _ => none
 | k + 1, y0, y1, y2, y3, y4, y5, y6, y7, y8, y9, y10, y11, y12 => yy31_l28_b (yy25 kf) (yy31_l12 kf k) (yy31_l23 kf k) (yy31_l28 kf k) (yy31_l32 kf k) y0 y1 y2 y3 y4 y5 y6 y7 y8 y9 y10 y11 y12
def yy31 {R : Type} (kf : Nat) (v1 : LI) (K : LI → Int → LL → LB → Option R) : Option R := yy31_b (yy25 kf) (yy31_l12 kf kf) (yy31_l23 kf kf) (yy31_l28 kf kf) (yy31_l32 kf kf) v1 K
def yy7_l5_b {R : Type} (l_5 : T73 R) (v5 : LI) (v6 : Int) (v8 : LI) (Kr : Bool → LI → Option R) (Ke0 : LI → Option R) (v7 : Int) : Option R :=
  bif decide (v7 < (IntKind.i64.wrap ((v5.length : Int) + 3))) then
  (gd (decide (0 ≤ v7))
   (gd (decide (v7 < v6))
   (bif (!(decide ((v8.getD (Int.toNat v7) (0 : Int)) = 229))) then
    (Kr false v8)
    else (l_5 v5 v6 v8 Kr Ke0 (IntKind.i64.wrap (v7 + 1))))))
  else (Ke0 v8)
def yy7_b {R : Type} (l_5 : T73 R) (v1 : Int) (v2 : LI) (v3 : LI) (K : Bool → LI → Option R) : Option R :=
  gd (decide (0 ≤ (v3.length : Int)))
  (gd (decide ((v3.length : Int) ≤ (v3.length : Int)))
   (let j12 : Bool → Option R := fun v4 =>
   (bif v4 then
    (K false v3)
    else (l_5 v2 (v3.length : Int) v3
    (fun v9 v10 =>
     K v9 v10)
    (fun v11 =>
     K true v11) (v2.length : Int)))
   (bif (!(decide ((v3.take (Int.toNat v1)) = v2))) then
    (j12 true)
    else (j12 (decide ((v3.length : Int) < (IntKind.i64.wrap ((v2.length : Int) + 3))))))))
def yy7_l5 {R : Type} (kf : Nat) : Nat → LI → Int → LI → (Bool → LI → Option R) → (LI → Option R) → Int → Option R
 | 0, _, _, _, _, _, _ => none
 | k + 1, y0, y1, y2, y3, y4, y5 => yy7_l5_b (yy7_l5 kf k) y0 y1 y2 y3 y4 y5
def yy7 {R : Type} (kf : Nat) (v1 : Int) (v2 : LI) (v3 : LI) (K : Bool → LI → Option R) : Option R := yy7_b (yy7_l5 kf kf) v1 v2 v3 K
def yy9_b {R : Type} (c_yy10 : (Bool → Option R) → Option R) (c_yy8 : T74 R) (c_yy2 : T6 R) (c_yy31 : T6 R) (c_yy7 : T75 R) (c_yy30 : T5 R) (v1 : LI) (K : Bool → Option R) : Option R :=
  c_yy10 (fun v2 =>
   bif (!v2) then
   (K false)
   else (bif decide (6000 < (v1.length : Int)) then
   (K true)
   else (c_yy8 v1 (fun v3 v4 =>
    c_yy2 (v4.take (Int.toNat v3)) (fun v5 v6 v7 v8 =>
     c_yy31 v1 (fun v9 v10 v11 v12 =>
     let j16 : Bool → LI → Option R := fun v13 v14 =>
     (bif v13 then
      (c_yy30 v5 v7 v8 v9 v11 v12 (fun v15 =>
       K v15))
      else (K false))
     (bif decide (v6 = v10) then
      (c_yy7 v3 v1 v4 (fun v17 v18 =>
       j16 v17 v18))
      else (j16 false v4))))))))
def yy9 {R : Type} (kf : Nat) (v1 : LI) (K : Bool → Option R) : Option R := yy9_b (yy10 kf) (yy8 kf) (yy2 kf) (yy31 kf) (yy7 kf) (yy30 kf) v1 K
def sh4 {R : Type} (c_yy9 : LI → (Bool → Option R) → Option R) (av : List S) (es : List Ent) (K : S → List Ent → Option R) : Option R :=
 match av, es with
 | [.sl (.int .u8) v1], [] => c_yy9 v1 (fun r0 => K (.bool r0) [])
 | _, _ => none
def sh9 {R : Type} (c_yy10 : (Bool → Option R) → Option R) (av : List S) (es : List Ent) (K : S → List Ent → Option R) : Option R :=
 match av, es with
 | [], [] => c_yy10 (fun r0 => K (.bool r0) [])
 | _, _ => none
def sh11 {R : Type} (c_yy26 : T23 R) (av : List S) (es : List Ent) (K : S → List Ent → Option R) : Option R :=
 match av, es with
 | [.st [.arr 256 (.int .u8) v1, .sl (.slice (.int .i64)) v2, .sl .bool v3]], [] => c_yy26 v1 v2 v3 (fun r0 r1 r2 => K (.st [.arr 256 (.int .u8) r0, .own (.slice (.int .i64)) 0, .own .bool 1]) [.buf (.slice (.int .i64)) r1 false, .buf .bool r2 false])
 | _, _ => none
def sh13 {R : Type} (c_yy0 : T40 R) (av : List S) (es : List Ent) (K : S → List Ent → Option R) : Option R :=
 match av, es with
 | [.st [.arr 256 (.int .u8) v1, .sl (.slice (.int .i64)) v2, .sl .bool v3]], [] => c_yy0 v1 v2 v3 (fun r0 r1 => K (.tup [.own (.int .u8) 0, .int .i64 r0]) [.buf (.int .u8) r1 false])
 | _, _ => none
def sh15 {R : Type} (c_yy1 : T1 R) (av : List S) (es : List Ent) (K : S → List Ent → Option R) : Option R :=
 match av, es with
 | [.st [.arr 256 (.int .u8) v1, .sl (.slice (.int .i64)) v2, .sl .bool v3]], [] => c_yy1 v1 v2 v3 (fun r0 => K (.int .i64 r0) [])
 | _, _ => none
def sh17 {R : Type} (c_yy8 : T74 R) (av : List S) (es : List Ent) (K : S → List Ent → Option R) : Option R :=
 match av, es with
 | [.sl (.int .u8) v1], [] => c_yy8 v1 (fun r0 r1 => K (.twn (.int .u8) 0 r0) [.buf (.int .u8) r1 false])
 | _, _ => none
def sh18 {R : Type} (c_yy2 : T6 R) (av : List S) (es : List Ent) (K : S → List Ent → Option R) : Option R :=
 match av, es with
 | [.sl (.int .u8) v1], [] => c_yy2 v1 (fun r0 r1 r2 r3 => K (.tup [.st [.arr 256 (.int .u8) r0, .own (.slice (.int .i64)) 0, .own .bool 1], .int .i64 r1]) [.buf (.slice (.int .i64)) r2 false, .buf .bool r3 false])
 | _, _ => none
def sh19 {R : Type} (c_yy31 : T6 R) (av : List S) (es : List Ent) (K : S → List Ent → Option R) : Option R :=
 match av, es with
 | [.sl (.int .u8) v1], [] => c_yy31 v1 (fun r0 r1 r2 r3 => K (.tup [.st [.arr 256 (.int .u8) r0, .own (.slice (.int .i64)) 0, .own .bool 1], .int .i64 r1]) [.buf (.slice (.int .i64)) r2 false, .buf .bool r3 false])
 | _, _ => none
def sh20 {R : Type} (c_yy7 : T75 R) (av : List S) (es : List Ent) (K : S → List Ent → Option R) : Option R :=
 match av, es with
 | [.twn (.int .u8) 0 v1, .sl (.int .u8) v2], [.buf (.int .u8) v3 false] => c_yy7 v1 v2 v3 (fun r0 r1 => K (.bool r0) [.buf (.int .u8) r1 false])
 | _, _ => none
def sh21 {R : Type} (av : List S) (es : List Ent) (K : S → List Ent → Option R) : Option R :=
 match av, es with
 | [.own (.int .u8) 0], [.buf (.int .u8) v1 false] => K (.tup []) [.buf (.int .u8) (List.replicate v1.length (90 : Int)) false]
 | [.twn (.int .u8) 0 v2], [.buf (.int .u8) v1 false] => K (.tup []) [.buf (.int .u8) (List.replicate v1.length (90 : Int)) false]
 | _, _ => none
def sh22 {R : Type} (c_yy30 : T5 R) (av : List S) (es : List Ent) (K : S → List Ent → Option R) : Option R :=
 match av, es with
 | [.st [.arr 256 (.int .u8) v1, .sl (.slice (.int .i64)) v2, .sl .bool v3], .st [.arr 256 (.int .u8) v4, .sl (.slice (.int .i64)) v5, .sl .bool v6]], [] => c_yy30 v1 v2 v3 v4 v5 v6 (fun r0 => K (.bool r0) [])
 | _, _ => none
def sh26 {R : Type} (c_yy25 : T0 R) (av : List S) (es : List Ent) (K : S → List Ent → Option R) : Option R :=
 match av, es with
 | [.st [.arr 256 (.int .u8) v1, .sl (.slice (.int .i64)) v2, .sl .bool v3]], [] => c_yy25 v1 v2 v3 (fun r0 => K (.bool r0) [])
 | _, _ => none
def sh27 {R : Type} (c_yy27 : T0 R) (av : List S) (es : List Ent) (K : S → List Ent → Option R) : Option R :=
 match av, es with
 | [.st [.arr 256 (.int .u8) v1, .sl (.slice (.int .i64)) v2, .sl .bool v3]], [] => c_yy27 v1 v2 v3 (fun r0 => K (.bool r0) [])
 | _, _ => none
def sh28 {R : Type} (c_yy28 : T2 R) (av : List S) (es : List Ent) (K : S → List Ent → Option R) : Option R :=
 match av, es with
 | [.st [.arr 256 (.int .u8) v1, .sl (.slice (.int .i64)) v2, .sl .bool v3]], [] => c_yy28 v1 v2 v3 (fun r0 => K (.own (.int .i64) 0) [.buf (.int .i64) r0 false])
 | _, _ => none
def sh29 {R : Type} (c_yy29 : T8 R) (av : List S) (es : List Ent) (K : S → List Ent → Option R) : Option R :=
 match av, es with
 | [.st [.arr 256 (.int .u8) v1, .sl (.slice (.int .i64)) v2, .sl .bool v3]], [] => c_yy29 v1 v2 v3 (fun r0 => K (.own .bool 0) [.buf .bool r0 false])
 | _, _ => none
def sh30 {R : Type} (c_yy32 : T9 R) (av : List S) (es : List Ent) (K : S → List Ent → Option R) : Option R :=
 match av, es with
 | [.st [.arr 256 (.int .u8) v1, .sl (.slice (.int .i64)) v2, .sl .bool v3], .sl (.int .i64) v4, .sl .bool v5, .int .i64 v6, .int .i64 v7], [] => c_yy32 v1 v2 v3 v4 v5 v6 v7 (fun r0 => K (.bool r0) [])
 | _, _ => none
def sh33 {R : Type} (c_yy11 : T0 R) (av : List S) (es : List Ent) (K : S → List Ent → Option R) : Option R :=
 match av, es with
 | [.st [.arr 256 (.int .u8) v1, .sl (.slice (.int .i64)) v2, .sl .bool v3]], [] => c_yy11 v1 v2 v3 (fun r0 => K (.bool r0) [])
 | _, _ => none
def sh34 {R : Type} (c_yy17 : T1 R) (av : List S) (es : List Ent) (K : S → List Ent → Option R) : Option R :=
 match av, es with
 | [.st [.arr 256 (.int .u8) v1, .sl (.slice (.int .i64)) v2, .sl .bool v3]], [] => c_yy17 v1 v2 v3 (fun r0 => K (.int .i64 r0) [])
 | _, _ => none
def sh36 {R : Type} (c_yy5 : T69 R) (av : List S) (es : List Ent) (K : S → List Ent → Option R) : Option R :=
 match av, es with
 | [.ptr 0 []], [.box (.st [.sl (.int .u8) v1]) false] => c_yy5 v1 (fun r0 r1 r2 r3 r4 => K (.tup [.st [.arr 256 (.int .u8) r0, .own (.slice (.int .i64)) 1, .own .bool 2], .err r1]) [.box (.st [.sl (.int .u8) r2]) false, .buf (.slice (.int .i64)) r3 false, .buf .bool r4 false])
 | _, _ => none
def sh37 {R : Type} (av : List S) (es : List Ent) (K : S → List Ent → Option R) : Option R :=
 match av, es with
 | [.err v1, .iface 69 (.ptr 0 [])], [.box .nilp false] => gd (Err.fit [(67, 1)] [(110, 0, 0)] v1) (optK (Err.find 67 v1) (fun (v : Err) => K (.bool true) [.box (.iref (.pair (.int .i64) .unit) ((Err.num 0 v), ())) false]) (K (.bool false) [.box .nilp false]))
 | _, _ => none
def sh39 {R : Type} (c_yy24 : T1 R) (av : List S) (es : List Ent) (K : S → List Ent → Option R) : Option R :=
 match av, es with
 | [.st [.arr 256 (.int .u8) v1, .sl (.slice (.int .i64)) v2, .sl .bool v3]], [] => c_yy24 v1 v2 v3 (fun r0 => K (.int .i64 r0) [])
 | _, _ => none
def sh40 {R : Type} (c_yy33 : T7 R) (av : List S) (es : List Ent) (K : S → List Ent → Option R) : Option R :=
 match av, es with
 | [.st [.arr 256 (.int .u8) v1, .sl (.slice (.int .i64)) v2, .sl .bool v3], .sl (.int .i64) v4, .int .i64 v5, .int .i64 v6], [] => c_yy33 v1 v2 v3 v4 v5 v6 (fun r0 => K (.bool r0) [])
 | _, _ => none
def sh41 {R : Type} (c_yy18 : T0 R) (av : List S) (es : List Ent) (K : S → List Ent → Option R) : Option R :=
 match av, es with
 | [.st [.arr 256 (.int .u8) v1, .sl (.slice (.int .i64)) v2, .sl .bool v3]], [] => c_yy18 v1 v2 v3 (fun r0 => K (.bool r0) [])
 | _, _ => none
def sh42 {R : Type} (c_yy20 : T5 R) (av : List S) (es : List Ent) (K : S → List Ent → Option R) : Option R :=
 match av, es with
 | [.st [.arr 256 (.int .u8) v1, .sl (.slice (.int .i64)) v2, .sl .bool v3], .st [.arr 256 (.int .u8) v4, .sl (.slice (.int .i64)) v5, .sl .bool v6]], [] => c_yy20 v1 v2 v3 v4 v5 v6 (fun r0 => K (.bool r0) [])
 | _, _ => none
def sh43 {R : Type} (c_yy12 : T23 R) (av : List S) (es : List Ent) (K : S → List Ent → Option R) : Option R :=
 match av, es with
 | [.st [.arr 256 (.int .u8) v1, .sl (.slice (.int .i64)) v2, .sl .bool v3]], [] => c_yy12 v1 v2 v3 (fun r0 r1 r2 => K (.st [.arr 256 (.int .u8) r0, .own (.slice (.int .i64)) 0, .own .bool 1]) [.buf (.slice (.int .i64)) r1 false, .buf .bool r2 false])
 | _, _ => none
def sh44 {R : Type} (c_yy22 : T1 R) (av : List S) (es : List Ent) (K : S → List Ent → Option R) : Option R :=
 match av, es with
 | [.st [.arr 256 (.int .u8) v1, .sl (.slice (.int .i64)) v2, .sl .bool v3]], [] => c_yy22 v1 v2 v3 (fun r0 => K (.int .i64 r0) [])
 | _, _ => none
def sh45 {R : Type} (c_yy4 : T4 R) (av : List S) (es : List Ent) (K : S → List Ent → Option R) : Option R :=
 match av, es with
 | [.ptr 0 [], .int .i64 v1, .int .i64 v2], [.box (.st [.sl (.int .u8) v3]) false] => c_yy4 v1 v2 v3 (fun r0 r1 r2 => K (.tup [.int .i64 r0, .err r1]) [.box (.st [.sl (.int .u8) r2]) false])
 | _, _ => none
def sh46 {R : Type} (c_yy6 : T39 R) (av : List S) (es : List Ent) (K : S → List Ent → Option R) : Option R :=
 match av, es with
 | [.ptr 0 [], .int .i64 v1], [.box (.st [.sl (.int .u8) v2]) false] => c_yy6 v1 v2 (fun r0 r1 r2 => K (.tup [.arr 256 (.int .u8) r0, .err r1]) [.box (.st [.sl (.int .u8) r2]) false])
 | _, _ => none
def sh47 {R : Type} (c_yy3 : Int → (Err → Option R) → Option R) (av : List S) (es : List Ent) (K : S → List Ent → Option R) : Option R :=
 match av, es with
 | [.int .i64 v1], [] => c_yy3 v1 (fun r0 => K (.err r0) [])
 | _, _ => none
def sh52 {R : Type} (c_yy34 : T48 R) (av : List S) (es : List Ent) (K : S → List Ent → Option R) : Option R :=
 match av, es with
 | [.sl (.int .i64) v1, .fn 53 [.ptr 0 []]], [.box (.int .i64 v2) false] => c_yy34 v1 v2 (fun r0 r1 => K (.bool r0) [.box (.int .i64 r1) false])
 | _, _ => none
def sh53 {R : Type} (c_yy19 : T47 R) (av : List S) (es : List Ent) (K : S → List Ent → Option R) : Option R :=
 match av, es with
 | [.int .i64 v1, .ptr 0 []], [.box (.int .i64 v2) false] => c_yy19 v1 v2 (fun r0 r1 => K (.bool r0) [.box (.int .i64 r1) false])
 | _, _ => none
def sh54 {R : Type} (c_yy36 : T66 R) (av : List S) (es : List Ent) (K : S → List Ent → Option R) : Option R :=
 match av, es with
 | [.sl .bool v1, .sl .bool v2], [] => c_yy36 v1 v2 (fun r0 => K (.bool r0) [])
 | _, _ => none
def sh55 {R : Type} (c_yy35 : T67 R) (av : List S) (es : List Ent) (K : S → List Ent → Option R) : Option R :=
 match av, es with
 | [.sl (.slice (.int .i64)) v1, .sl (.slice (.int .i64)) v2, .fn 56 []], [] => c_yy35 v1 v2 (fun r0 => K (.bool r0) [])
 | _, _ => none
def sh56 {R : Type} (c_yy21 : T3 R) (av : List S) (es : List Ent) (K : S → List Ent → Option R) : Option R :=
 match av, es with
 | [.sl (.int .i64) v1, .sl (.int .i64) v2], [] => c_yy21 v1 v2 (fun r0 => K (.bool r0) [])
 | _, _ => none
def sh57 {R : Type} (c_yy37 : T3 R) (av : List S) (es : List Ent) (K : S → List Ent → Option R) : Option R :=
 match av, es with
 | [.sl (.int .i64) v1, .sl (.int .i64) v2], [] => c_yy37 v1 v2 (fun r0 => K (.bool r0) [])
 | _, _ => none
def sh58 {R : Type} (c_yy16 : T2 R) (av : List S) (es : List Ent) (K : S → List Ent → Option R) : Option R :=
 match av, es with
 | [.st [.arr 256 (.int .u8) v1, .sl (.slice (.int .i64)) v2, .sl .bool v3]], [] => c_yy16 v1 v2 v3 (fun r0 => K (.own (.int .i64) 0) [.buf (.int .i64) r0 false])
 | _, _ => none
def sh59 {R : Type} (c_yy15 : T10 R) (av : List S) (es : List Ent) (K : S → List Ent → Option R) : Option R :=
 match av, es with
 | [.st [.arr 256 (.int .u8) v1, .sl (.slice (.int .i64)) v2, .sl .bool v3], .sl (.int .i64) v4], [] => c_yy15 v1 v2 v3 v4 (fun r0 r1 => K (.tup [.own (.int .i64) 0, .mp 1]) [.buf (.int .i64) r0 false, .map (.int .i64) (.int .i64) r1 false])
 | _, _ => none
def sh60 {R : Type} (c_yy38 : T11 R) (av : List S) (es : List Ent) (K : S → List Ent → Option R) : Option R :=
 match av, es with
 | [.sl (.slice (.int .i64)) v1, .fn 61 [.ptr 0 []]], [.box (.own (.int .i64) 1) false, .buf (.int .i64) v2 false] => c_yy38 v1 v2 (fun r0 r1 => K (.int .i64 r0) [.box (.own (.int .i64) 1) false, .buf (.int .i64) r1 false])
 | _, _ => none
def sh61 {R : Type} (c_yy13 : T51 R) (av : List S) (es : List Ent) (K : S → List Ent → Option R) : Option R :=
 match av, es with
 | [.sl (.int .i64) v1, .ptr 0 []], [.box (.own (.int .i64) 1) false, .buf (.int .i64) v2 false] => c_yy13 v1 v2 (fun r0 r1 => K (.bool r0) [.box (.own (.int .i64) 1) false, .buf (.int .i64) r1 false])
 | _, _ => none
def sh62 {R : Type} (c_yy40 : LI → (Int → Option R) → Option R) (av : List S) (es : List Ent) (K : S → List Ent → Option R) : Option R :=
 match av, es with
 | [.sl (.int .u8) v1], [] => c_yy40 v1 (fun r0 => K (.int .u8 r0) [])
 | _, _ => none
def sh63 {R : Type} (c_yy23 : T68 R) (av : List S) (es : List Ent) (K : S → List Ent → Option R) : Option R :=
 match av, es with
 | [.sl (.int .u8) v1, .int .i64 v2, .int .i64 v3], [] => c_yy23 v1 v2 v3 (fun r0 r1 => K (.tup [.int .u64 r0, .int .i64 r1]) [])
 | _, _ => none
def sh67 {R : Type} (c_yy39 : T59 R) (av : List S) (es : List Ent) (K : S → List Ent → Option R) : Option R :=
 match av, es with
 | [.sl (.int .i64) v1, .fn 53 [.ptr 0 []]], [.box (.int .i64 v2) false] => c_yy39 v1 v2 (fun r0 r1 => K (.int .i64 r0) [.box (.int .i64 r1) false])
 | _, _ => none
def sh68 {R : Type} (c_yy14 : T24 R) (av : List S) (es : List Ent) (K : S → List Ent → Option R) : Option R :=
 match av, es with
 | [.int .i64 v1, .sl (.int .i64) v2, .sl (.int .i64) v3], [] => c_yy14 v1 v2 v3 (fun r0 => K (.str r0) [])
 | _, _ => none
end
end Go.Ab.T
