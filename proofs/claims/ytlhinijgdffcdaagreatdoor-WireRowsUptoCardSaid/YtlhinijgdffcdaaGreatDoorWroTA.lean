/- WroTA: a part of the proofs of this seat's statements. -/
import Derived.Test.YtlhinijgdffcdaaGreatDoorDef
import Derived.Test.YtlhinijgdffcdaaGreatDoorPrimX
import Derived.Test.YtlhinijgdffcdaaGreatDoorProg
import Derived.KernelRfl
namespace Go.Ab.T
abbrev LI := List Int
abbrev LL := List (List Int)
abbrev LB := List Bool
abbrev RZ0 := Rose (Int × (LI × Unit))
abbrev LZ0 := List RZ0
abbrev RZ1 := Rose (Int × (LI × (LI × (LI × (Int × (LI × (Int × Unit)))))))
abbrev LZ1 := List RZ1
abbrev dN0 : RZ1 := (Rose.node ((0 : Int), (([] : List Int), (([] : List Int), (([] : List Int), ((0 : Int), (([] : LI), ((0 : Int), ()))))))) [] : RZ1)
abbrev dN1 : RZ0 := (Rose.node ((0 : Int), ((List.replicate 4 (0 : Int)), ())) [] : RZ0)
abbrev KS (R : Type) : Type := S → List Ent → Option R
abbrev KO (R : Type) : Type := Out → List S → List Ent → Option R
abbrev tZ0 : Ty := .rose (.pair (.int .i64) (.pair (.arr 4 (.int .u64)) .unit))
abbrev tZ1 : Ty := .rose (.pair (.int .i64) (.pair .str (.pair .str (.pair .str (.pair (.int .i64) (.pair (.slice (.nw .u8)) (.pair (.int .i64) .unit)))))))
abbrev T0 (R : Type) : Type := LI → Int → (Bool → Option R) → Option R
abbrev T1 (R : Type) : Type := Int → LI → LZ0 → (Int → LI → LZ0 → Option R) → Option R
abbrev T2 (R : Type) : Type := (Int → LI → LZ0 → Option R) → Option R
abbrev T3 (R : Type) : Type := Int → LI → LZ0 → (Int → Option R) → Option R
abbrev T4 (R : Type) : Type := LZ0 → (Int → LI → LZ0 → Option R) → Option R
abbrev T5 (R : Type) : Type := Int → LI → Int → (Int → LI → Int → Option R) → Option R
abbrev T6 (R : Type) : Type := Int → LI → LZ0 → Int → LI → LZ0 → (Bool → Option R) → Option R
abbrev T7 (R : Type) : Type := LI → Int → (LI → LI → Int → Option R) → Option R
abbrev T8 (R : Type) : Type := Int → LI → Err → (LI → Err → Option R) → Option R
abbrev T9 (R : Type) : Type := Int → LI → LZ0 → (LI → Option R) → Option R
abbrev T10 (R : Type) : Type := Int → LI → LZ0 → Int → LI → LZ0 → (Int → Option R) → Option R
abbrev T11 (R : Type) : Type := Int → LI → LZ0 → (Bool → Option R) → Option R
abbrev T12 (R : Type) : Type := Int → LI → LZ0 → Bool → LL → LI → LI → LL → (LL → LI → LI → LL → Bool → Bool → LL → LI → LI → LL → Option R) → Option R
abbrev T13 (R : Type) : Type := Int → LI → LI → LI → Int → LI → Int → LZ1 → Int → LI → LI → LI → Int → LI → Int → LZ1 → (Bool → Option R) → Option R
abbrev T14 (R : Type) : Type := LI → LI → (Bool → Option R) → Option R
abbrev T15 (R : Type) : Type := LI → LI → (LI → Option R) → Option R
abbrev T16 (R : Type) : Type := Int → Int → Int → Err → LI → (Err → LI → Option R) → Option R
abbrev T17 (R : Type) : Type := LI → Err → LI → (Err → LI → Option R) → Option R
abbrev T18 (R : Type) : Type := Int → LI → LI → LI → Int → LI → Int → LZ1 → Bool → Err → LI → (Err → LI → Option R) → Option R
abbrev T19 (R : Type) : Type := Int → LI → Err → (Int → LI → Err → Option R) → Option R
abbrev T20 (R : Type) : Type := LI → Err → (LI → LI → Err → Option R) → Option R
abbrev T21 (R : Type) : Type := Bool → LI → Err → (Int → LI → LI → LI → Int → Int → LI → Err → LI → LZ1 → Option R) → Option R
abbrev T22 (R : Type) : Type := LI → Int → LI → LI → LI → Int → LI → Int → LZ1 → (Int → LI → Option R) → Option R
abbrev T23 (R : Type) : Type := LI → (Int → LI → LI → LI → Int → Int → Int → Int → LI → LZ1 → Option R) → Option R
abbrev T24 (R : Type) : Type := Int → LZ0 → (LZ0 → Option R) → Option R
abbrev T25 (R : Type) : Type := Bool → LI → Int → (Int → LI → LI → LI → Int → Int → LI → Int → LI → LZ1 → Option R) → Option R
abbrev T26 (R : Type) : Type := Int → LI → LZ0 → Int → LI → LZ0 → (Int → LI → LZ0 → Int → LI → LZ0 → LZ0 → Option R) → Int → LZ0 → Option R
abbrev T27 (R : Type) : Type := LI → (LI → Option R) → Int → LI → Option R
abbrev T28 (R : Type) : Type := LI → LI → (Bool → Option R) → (Option R) → Int → Option R
abbrev T29 (R : Type) : Type := LI → Int → (Bool → Option R) → (Option R) → Int → Option R
abbrev T30 (R : Type) : Type := LZ0 → (Int → Option R) → Int → Int → Option R
abbrev T31 (R : Type) : Type := LI → (Int → LI → LZ0 → Option R) → Option R
abbrev T32 (R : Type) : Type := LI → Int → (Bool → LI → Int → Option R) → Option R
abbrev T33 (R : Type) : Type := Int → LI → LZ0 → (LI → LI → Bool → LL → LL → Option R) → Option R
abbrev T34 (R : Type) : Type := LL → (LI → Int → Option R) → Option R
abbrev T35 (R : Type) : Type := LI → Int → (LI → Option R) → Option R
abbrev T36 (R : Type) : Type := LL → LI → LI → LL → Bool → LI → Bool → Int → (LI → Option R) → Option R
abbrev T37 (R : Type) : Type := LL → LI → (Int → Option R) → Option R
abbrev T38 (R : Type) : Type := Int → LI → LZ0 → Option R
abbrev T39 (R : Type) : Type := LI → Int → Int → (LI → Option R) → Option R
abbrev T40 (R : Type) : Type := LI → Int → Int → (Int → Int → Option R) → Option R
abbrev T41 (R : Type) : Type := Int → LI → Int → (Int → LI → LZ0 → LI → Int → Option R) → Option R
abbrev T42 (R : Type) : Type := LI → LI → Bool → LL → LI → LI → LL → (Bool → LL → LI → LI → LL → Option R) → Option R
abbrev T43 (R : Type) : Type := LL → Int → Int → (Bool → Option R) → Option R
abbrev T44 (R : Type) : Type := (Int → LI → LI → LL → LL → LB → LL → LB → Option R) → Int → Int → Int → LI → LI → LI → Bool → LI → LI → LL → LL → LB → LL → LL → LL → LB → Option R
abbrev T45 (R : Type) : Type := Int → Int → Int → LI → LI → LI → Bool → LI → LI → LL → LI → LL → LB → LL → LL → LL → LB → (Int → Int → Int → Bool → LI → LI → LI → Bool → LI → LI → LL → LI → LL → LB → LL → LL → LL → LB → Option R) → Bool → Int → Option R
abbrev T46 (R : Type) : Type := Int → Int → Int → Bool → LI → LI → LI → Bool → LI → LI → LL → LB → LL → LL → LL → LB → (Int → Int → Int → Bool → LI → LI → LI → Bool → LI → LI → LL → LI → LL → LB → LL → LL → LL → LB → Option R) → Int → LL → LI → Option R
abbrev T47 (R : Type) : Type := LI → Int → (LZ1 → Option R) → Option R
abbrev T48 (R : Type) : Type := Int → LI → LI → LI → Int → LI → Int → LZ1 → (Int → LI → LI → LI → Int → LI → Int → LZ1 → Option R) → Option R
abbrev T49 (R : Type) : Type := Int → LI → LI → LI → Int → LI → Int → LZ1 → (Bool → Option R) → Option R
abbrev T50 (R : Type) : Type := LZ0 → Int → LI → LZ0 → (LZ0 → Option R) → Option R
abbrev T51 (R : Type) : Type := (LI → Option R) → LI → Int → LI → Option R
abbrev T52 (R : Type) : Type := LI → Int → LI → (LI → Int → Int → LI → Option R) → Int → Option R
abbrev T53 (R : Type) : Type := LZ0 → Bool → LL → LI → LI → LL → LL → LL → (Bool → Bool → Bool → LL → LI → LI → LL → LL → LI → LI → LL → LL → LI → LI → LL → Option R) → Int → Bool → Bool → LL → LI → LI → LL → LI → LI → Option R
abbrev T54 (R : Type) : Type := LZ0 → Bool → LL → LL → LL → LI → LI → LL → (Bool → Bool → LL → LI → LI → LL → Bool → LL → LI → LI → LL → LL → LI → LI → LL → Option R) → Int → Bool → LI → LI → Bool → LL → LI → LI → LL → Option R
abbrev T55 (R : Type) : Type := (LI → LI → LI → Option R) → LL → Int → LI → LI → LI → Option R
abbrev T56 (R : Type) : Type := LL → Int → LI → LI → LI → (LL → Int → Int → LI → LI → LI → Option R) → Int → Option R
abbrev T57 (R : Type) : Type := LL → LI → LI → LL → Bool → LI → Int → LB → (LB → Option R) → Option R
abbrev T58 (R : Type) : Type := Int → LI → Int → (LI → Int → LI → Option R) → Option R
abbrev T59 (R : Type) : Type := LI → (LI → Int → Option R) → Option R
abbrev T60 (R : Type) : Type := LI → Int → (Int → LI → LI → LI → Int → Int → LI → Int → LI → LZ1 → Option R) → Option R
abbrev T61 (R : Type) : Type := LZ1 → (Bool → LI → LZ1 → Option R) → (LI → LZ1 → Option R) → LI → Int → Option R
abbrev T62 (R : Type) : Type := LZ1 → (Bool → LI → Option R) → (LI → Option R) → LI → Int → Option R
abbrev T63 (R : Type) : Type := Int → (LI → Option R) → Int → Int → LI → Option R
abbrev T64 (R : Type) : Type := LZ1 → Int → (Err → LI → Option R) → Int → Err → LI → Option R
abbrev T65 (R : Type) : Type := LI → Int → (Int → Int → LI → Option R) → Option R
abbrev T66 (R : Type) : Type := Int → Int → LI → LI → LI → Int → Int → Int → LI → LI → LI → Int → Int → LI → LZ1 → LI → (LI → Err → Int → LI → LI → LI → Int → Int → Int → LI → LI → LI → Int → Int → LI → LZ1 → LI → LZ1 → Option R) → Int → LI → Err → LZ1 → Option R
abbrev T67 (R : Type) : Type := LI → LL → Int → (LI → Err → LI → Option R) → Int → Err → LI → Option R
abbrev T68 (R : Type) : Type := LI → Int → Int → Int → Bool → LI → LI → (LI → Int → Int → Int → Bool → LI → LI → Err → LI → LL → Option R) → Int → LI → Err → LL → Option R
abbrev T69 (R : Type) : Type := LI → Int → Int → Int → Bool → LI → LI → LL → (Int → LI → Option R) → Option R
abbrev T70 (R : Type) : Type := LI → (Int → Int → Int → Bool → LI → Int → Int → LI → LL → Option R) → Option R
abbrev T71 (R : Type) : Type := LI → LI → (LI → LI → Option R) → Int → LI → Option R
abbrev T72 (R : Type) : Type := LB → LI → (LI → LI → Option R) → Int → LI → Option R
abbrev T73 (R : Type) : Type := Int → LI → (LI → LB → Option R) → Int → LB → Option R
abbrev T74 (R : Type) : Type := LI → LI → (LI → LB → Option R) → Int → LB → Option R
abbrev T75 (R : Type) : Type := Int → Int → (LI → Option R) → Option R
abbrev T76 (R : Type) : Type := Int → LZ0 → (LZ0 → Option R) → Int → LZ0 → Option R
abbrev T77 (R : Type) : Type := Int → LI → LZ0 → LZ0 → (Int → LI → LZ0 → LZ0 → Option R) → (Int → LI → LZ0 → LZ0 → Option R) → Int → LZ0 → Option R
abbrev T78 (R : Type) : Type := Int → LI → LZ0 → Int → LI → LZ0 → (Int → Int → LI → LZ0 → Int → LI → LZ0 → Option R) → (Int → LI → LZ0 → Int → LI → LZ0 → Option R) → Int → Option R
abbrev T79 (R : Type) : Type := LZ0 → Int → LI → LZ0 → (LZ0 → Int → Int → LI → LZ0 → Option R) → Int → Option R
abbrev T80 (R : Type) : Type := Int → LI → LZ0 → LZ0 → (LZ0 → Int → LI → LI → LZ0 → Option R) → LZ0 → Int → LI → Option R
abbrev T81 (R : Type) : Type := LZ0 → LZ0 → (Bool → Option R) → (Option R) → Int → Option R
abbrev T82 (R : Type) : Type := Int → LI → LZ0 → (Bool → Int → LI → LZ0 → Option R) → (Int → LI → LZ0 → Option R) → Int → Option R
abbrev T83 (R : Type) : Type := Int → LZ0 → (LI → Option R) → LI → Int → Option R
abbrev T84 (R : Type) : Type := LI → LI → Bool → LL → LI → LI → (Bool → LL → LI → LI → LL → Option R) → Int → LL → Option R
abbrev T85 (R : Type) : Type := LL → Int → Int → (Bool → Option R) → (Option R) → Int → Option R
abbrev T86 (R : Type) : Type := LI → Int → LL → (LB → Option R) → Int → LB → Option R
abbrev T87 (R : Type) : Type := LB → (LI → Option R) → Int → LI → Option R
abbrev T88 (R : Type) : Type := LI → Bool → Int → LL → LI → LI → LL → Bool → (LB → Option R) → Int → LB → Option R
abbrev T89 (R : Type) : Type := LL → LI → (Int → Option R) → (Option R) → Int → Option R
abbrev T90 (R : Type) : Type := Int → LI → LZ0 → Int → (LI → Int → LL → LB → Option R) → Option R
abbrev T91 (R : Type) : Type := LI → Int → (Int → LI → LZ0 → LI → Int → Option R) → Option R
abbrev T92 (R : Type) : Type := Int → LI → LZ0 → Int → (Bool → Option R) → Option R
abbrev T93 (R : Type) : Type := (LI → Int → LI → Option R) → Int → LI → Int → LI → Option R
abbrev T94 (R : Type) : Type := Int → LI → LI → LI → Int → Int → Int → LI → LI → LI → Int → Int → LI → LZ1 → LI → (LI → Int → Int → LI → LI → LI → Int → Int → Int → LI → LI → LI → Int → Int → LI → LZ1 → LI → LZ1 → Option R) → Int → LI → Int → LZ1 → Option R
abbrev T95 (R : Type) : Type := Int → (LZ1 → Option R) → LI → Int → LZ1 → Option R
abbrev T96 (R : Type) : Type := LZ1 → LZ1 → (Bool → Option R) → (Option R) → Int → Option R
abbrev T97 (R : Type) : Type := LZ0 → Option R
abbrev T98 (R : Type) : Type := Int → LI → LZ0 → LI → Int → Option R
abbrev T99 (R : Type) : Type := Int → LI → LI → LI → Int → Int → LI → Int → LI → LZ1 → Option R
open Go Go.Ab Go.Proofs
set_option maxRecDepth 100000
set_option linter.unusedVariables false
noncomputable section
variable {R : Type}
def glob : Nat → Option S := fun g => if g = 0 then some (.err (.raw 105 (.agg #[.pointer (some ⟨1, 48, none⟩)]))) else none
def raw : FuncId → Bool := fun f => [78].contains f
def yy73_b (v1 : Int) (v2 v3 v4 : LI) (v5 : Int) (v6 : LI) (v7 : Int) (v8 : LZ1) (K : Int → LI → LI → LI → Int → LI → Int → LZ1 → Option R) : Option R :=
  let j10 : LI → Option R := fun v9 =>
  (K v1 ([]) v3 v9 v5 v6 v7 v8)
  (bif decide (v1 = 1) then
   (j10 ([]))
   else (bif decide (v1 = 2) then
   (j10 ([]))
   else (let j11 : Option R :=
    (bif decide (v1 = 4) then
    (K v1 ([]) ([]) v4 0 v6 v7 v8)
    else (bif decide (v1 = 5) then
     (K v1 ([]) v3 v4 v5 ([] : LI) v7 v8)
     else (bif decide (v1 = 7) then
     (K v1 ([]) v3 v4 v5 v6 0 v8)
     else (bif decide (v1 = 8) then
      (K v1 v2 v3 v4 v5 v6 v7 ([] : LZ1))
      else (K v1 v2 v3 v4 v5 v6 v7 v8)))))
    (bif decide (v1 = 3) then
    (bif decide (v1 = 3) then
     (j10 v4)
     else (j11))
    else (bif decide (v1 = 6) then
     (j10 v4)
     else (j11))))))
def yy73 (v1 : Int) (v2 v3 v4 : LI) (v5 : Int) (v6 : LI) (v7 : Int) (v8 : LZ1) (K : Int → LI → LI → LI → Int → LI → Int → LZ1 → Option R) : Option R := yy73_b v1 v2 v3 v4 v5 v6 v7 v8 K
def yy67_b (v1 : Int) (v2 v3 v4 : LI) (v5 : Int) (v6 : LI) (v7 : Int) (v8 : LZ1) (K : Bool → Option R) : Option R :=
  bif decide (v2 = []) then
  (bif decide (v3 = []) then
   (bif decide (v4 = []) then
   (bif decide (v5 = 0) then
    (bif decide ((v6.length : Int) = 0) then
    (bif decide (v7 = 0) then
     (K (decide ((v8.length : Int) = 0)))
     else (K false))
    else (K false))
    else (K false))
   else (K false))
   else (K false))
  else (K false)
def yy67 (v1 : Int) (v2 v3 v4 : LI) (v5 : Int) (v6 : LI) (v7 : Int) (v8 : LZ1) (K : Bool → Option R) : Option R := yy67_b v1 v2 v3 v4 v5 v6 v7 v8 K
def yy66_b (v1 : Int) (K : Err → Option R) : Option R :=
  K (Err.wrap 80 [] (Err.leaf 66 [v1]) [])
def yy66 (v1 : Int) (K : Err → Option R) : Option R := yy66_b v1 K
def yy2_l4_b (l_4 : T63 R) (v5 : Int) (Ke0 : LI → Option R) (v4 v6 : Int) (v7 : LI) : Option R :=
  bif decide (v6 < v5) then
  (gd (decide (v7.length + ([(IntKind.u8.wrap v4)] : List Int).length < SMALL))
   (l_4 v5 Ke0 (shr .u64 v4 8) (IntKind.i64.wrap (v6 + 1)) (v7 ++ ([(IntKind.u8.wrap v4)] : List Int))))
  else (Ke0 v7)
def yy2_b (l_4 : T63 R) (v1 : LI) (v2 v3 : Int) (K : LI → Option R) : Option R :=
  gd (decide (0 ≤ (IntKind.i64.wrap ((v1.length : Int) + (mn (mx v3 0) 8)))))
  (gd (decide ((IntKind.i64.wrap ((v1.length : Int) + (mn (mx v3 0) 8))) < (SMALL : Int)))
   (gd (decide ((List.replicate 0 (0 : Int)).length + v1.length < SMALL))
   (l_4 (mn (mx v3 0) 8)
    (fun v8 =>
    K v8) v2 0 ((List.replicate 0 (0 : Int)) ++ v1))))
def yy2_l4 (kf : Nat) : Nat → T63 R
 | 0, _, _, _, _, _ => none
 | k + 1, y0, y1, y2, y3, y4 => yy2_l4_b (yy2_l4 kf k) y0 y1 y2 y3 y4
def yy2 (kf : Nat) (v1 : LI) (v2 v3 : Int) (K : LI → Option R) : Option R := yy2_b (yy2_l4 kf kf) v1 v2 v3 K
def yy75_b (c66 : Int → (Err → Option R) → Option R) (c2 : T39 R) (v1 v2 v3 : Int) (v4 : Err) (v5 : LI) (K : Err → LI → Option R) : Option R :=
  let j8 : Err → Option R := fun v6 =>
  (c2 v5 (IntKind.u64.wrap v1) v3 (fun v7 =>
   K v6 v7))
  (let j11 : Bool → Option R := fun v9 =>
   (bif v9 then
   (c66 1 (fun v10 =>
    j8 v10))
   else (j8 v4))
   (bif decide (v1 < 0) then
   (j11 true)
   else (j11 (decide (v2 < v1)))))
def yy75 (kf : Nat) (v1 v2 v3 : Int) (v4 : Err) (v5 : LI) (K : Err → LI → Option R) : Option R := yy75_b yy66 (yy2 kf) v1 v2 v3 v4 v5 K
def yy5_b (c2 : T39 R) (v1 v2 : LI) (K : LI → Option R) : Option R :=
  c2 v1 (IntKind.u64.wrap (v2.length : Int)) 2 (fun v3 =>
   gd (decide (v3.length + v2.length < SMALL))
   (K (v3 ++ v2)))
def yy5 (kf : Nat) (v1 v2 : LI) (K : LI → Option R) : Option R := yy5_b (yy2 kf) v1 v2 K
def yy76_b (c66 : Int → (Err → Option R) → Option R) (c5 : T15 R) (v1 : LI) (v2 : Err) (v3 : LI) (K : Err → LI → Option R) : Option R :=
  bif decide (1000 < (v1.length : Int)) then
  (c66 1 (fun v4 =>
   K v4 v3))
  else (c5 v3 v1 (fun v5 =>
   K v2 v5))
def yy76 (kf : Nat) (v1 : LI) (v2 : Err) (v3 : LI) (K : Err → LI → Option R) : Option R := yy76_b yy66 (yy5 kf) v1 v2 v3 K
def yy74_l25_b (c73 : T48 R) (c67 : T49 R) (c66 : Int → (Err → Option R) → Option R) (c75 : T16 R) (c76 : T17 R) (c74 : T18 R) (l_25 : T64 R) (v40 : LZ1) (v41 : Int) (Ke8 : Err → LI → Option R) (v42 : Int) (v43 : Err) (v44 : LI) : Option R :=
  bif decide (v42 < v41) then
  (gd (decide (0 ≤ v42))
   (gd (decide (v42 < (v40.length : Int)))
   (c74 ((Rose.lab (v40.getD (Int.toNat v42) dN0)).1) ((Rose.lab (v40.getD (Int.toNat v42) dN0)).2.1) ((Rose.lab (v40.getD (Int.toNat v42) dN0)).2.2.1) ((Rose.lab (v40.getD (Int.toNat v42) dN0)).2.2.2.1) ((Rose.lab (v40.getD (Int.toNat v42) dN0)).2.2.2.2.1) ((Rose.lab (v40.getD (Int.toNat v42) dN0)).2.2.2.2.2.1) ((Rose.lab (v40.getD (Int.toNat v42) dN0)).2.2.2.2.2.2.1) (Rose.kids (v40.getD (Int.toNat v42) dN0)) true v43 v44 (fun v45 v46 =>
    l_25 v40 v41 Ke8 (IntKind.i64.wrap (v42 + 1)) v45 v46))))
  else (Ke8 v43 v44)
def yy74_b (c73 : T48 R) (c67 : T49 R) (c66 : Int → (Err → Option R) → Option R) (c75 : T16 R) (c76 : T17 R) (c74 : T18 R) (l_25 : T64 R) (v1 : Int) (v2 v3 v4 : LI) (v5 : Int) (v6 : LI) (v7 : Int) (v8 : LZ1) (v9 : Bool) (v10 : Err) (v11 : LI) (K : Err → LI → Option R) : Option R :=
  let j50 : Bool → Option R := fun v12 =>
  (bif v12 then
   (c66 1 (fun v13 =>
    K v13 v11))
   else (c75 v1 255 1 v10 v11 (fun v14 v15 =>
    let j18 : Option R :=
    (c76 v2 v14 v15 (fun v16 v17 =>
     K v16 v17))
    (let j23 : Option R :=
    (c76 v2 v14 v15 (fun v19 v20 =>
     c76 v4 v19 v20 (fun v21 v22 =>
      K v21 v22)))
    (bif decide (v1 = 1) then
     (j23)
     else (bif decide (v1 = 2) then
     (j23)
     else (let j49 : Option R :=
      (bif decide (v1 = 4) then
      (c75 v5 255 1 v14 v15 (fun v24 v25 =>
       c76 v2 v24 v25 (fun v26 v27 =>
        c76 v3 v26 v27 (fun v28 v29 =>
        K v28 v29))))
      else (bif decide (v1 = 5) then
       (c76 v2 v14 v15 (fun v30 v31 =>
        c76 v6 v30 v31 (fun v32 v33 =>
        K v32 v33)))
       else (bif decide (v1 = 7) then
       (c76 v2 v14 v15 (fun v34 v35 =>
        c75 v7 65535 2 v34 v35 (fun v36 v37 =>
         K v36 v37)))
       else (bif decide (v1 = 8) then
        (c75 (v8.length : Int) 20 1 v14 v15 (fun v38 v39 =>
         gd (decide (0 ≤ (mn (v8.length : Int) 20)))
         (gd (decide ((mn (v8.length : Int) 20) ≤ (v8.length : Int)))
         (l_25 (v8.take (Int.toNat (mn (v8.length : Int) 20))) ((v8.take (Int.toNat (mn (v8.length : Int) 20))).length : Int)
          (fun v47 v48 =>
          K v47 v48) 0 v38 v39))))
        else (K v14 v15)))))
      (bif decide (v1 = 3) then
      (bif decide (v1 = 3) then
       (j18)
       else (j49))
      else (bif decide (v1 = 6) then
       (j18)
       else (j49))))))))))
  (bif decide (v1 < 1) then
   (j50 true)
   else (bif decide (8 < v1) then
   (j50 true)
   else (bif v9 then
    (bif decide (v1 = 8) then
    (j50 true)
    else (c73 v1 v2 v3 v4 v5 v6 v7 v8 (fun v51 v52 v53 v54 v55 v56 v57 v58 =>
     c67 v51 v52 v53 v54 v55 v56 v57 v58 (fun v59 =>
      j50 (!v59)))))
    else (c73 v1 v2 v3 v4 v5 v6 v7 v8 (fun v60 v61 v62 v63 v64 v65 v66 v67 =>
     c67 v60 v61 v62 v63 v64 v65 v66 v67 (fun v68 =>
     j50 (!v68)))))))
def yy74_l25 (c_self : T18 R) (kf : Nat) : Nat → T64 R
 | 0, _, _, _, _, _, _ => none
 | k + 1, y0, y1, y2, y3, y4, y5 => yy74_l25_b yy73 yy67 yy66 (yy75 kf) (yy76 kf) c_self (yy74_l25 c_self kf k) y0 y1 y2 y3 y4 y5
def yy74 : Nat → T18 R
 | 0, _, _, _, _, _, _, _, _, _, _, _, _ => none
 | kf + 1, y0, y1, y2, y3, y4, y5, y6, y7, y8, y9, y10, y11 => yy74_b yy73 yy67 yy66 (yy75 kf) (yy76 kf) (yy74 kf) (yy74_l25 (yy74 kf) kf kf) y0 y1 y2 y3 y4 y5 y6 y7 y8 y9 y10 y11
def yy68_b (v1 : Err) (K : Int → Option R) : Option R :=
  gd (Err.fit [(66, 1)] [(80, 0, 0)] v1)
  (optK (Err.find 66 v1) (fun v2 =>
   K (Err.num 0 v2))
   (K 0))
def yy68 (v1 : Err) (K : Int → Option R) : Option R := yy68_b v1 K
def yy62_b (c74 : T18 R) (c68 : Err → (Int → Option R) → Option R) (v1 : LI) (v2 : Int) (v3 v4 v5 : LI) (v6 : Int) (v7 : LI) (v8 : Int) (v9 : LZ1) (K : Int → LI → Option R) : Option R :=
  c74 v2 v3 v4 v5 v6 v7 v8 v9 false Err.nil ([] : LI) (fun v10 v11 =>
   bif (!(Err.isNil v10)) then
   (c68 v10 (fun v12 =>
    K v12 ([] : LI)))
   else (gd (decide (([] : LI).length + v1.length < SMALL))
   (gd (decide ((([] : LI) ++ v1).length + v11.length < SMALL))
    (K 0 ((([] : LI) ++ v1) ++ v11)))))
def yy62 (kf : Nat) (v1 : LI) (v2 : Int) (v3 v4 v5 : LI) (v6 : Int) (v7 : LI) (v8 : Int) (v9 : LZ1) (K : Int → LI → Option R) : Option R := yy62_b (yy74 kf) yy68 v1 v2 v3 v4 v5 v6 v7 v8 v9 K
def yy3_b (v1 : LI) (v2 v3 : Int) (K : Int → Int → Option R) : Option R :=
  let j31 : Bool → Option R := fun v4 =>
  (bif v4 then
   (K 0 1)
   else (let j30 : Bool → Option R := fun v5 =>
   (bif v5 then
    (K 0 2)
    else (gd (decide (0 ≤ (IntKind.i64.wrap (v2 + v3))))
    (gd (decide ((IntKind.i64.wrap (v2 + v3)) ≤ (v1.length : Int)))
     (gd (decide (0 ≤ (IntKind.i64.wrap (v2 + v3))))
     (gd (decide ((IntKind.i64.wrap (v2 + v3)) ≤ (IntKind.i64.wrap (v2 + v3))))
      (gd (decide (0 ≤ v2))
      (gd (decide (v2 ≤ (IntKind.i64.wrap (v2 + v3))))
       (let j7 : Int → Option R := fun v6 =>
       (K v6 0)
       (let j10 : Int → Option R := fun v8 =>
        (gd (decide (0 < (((v1.drop (Int.toNat v2)).take ((Int.toNat (IntKind.i64.wrap (v2 + v3))) - (Int.toNat v2))).length : Int)))
        (let v9 : Int := (bvop .u64 .or v8 (IntKind.u64.wrap (((v1.drop (Int.toNat v2)).take ((Int.toNat (IntKind.i64.wrap (v2 + v3))) - (Int.toNat v2))).getD 0 (0 : Int))))
         j7 v9))
        (let j13 : Int → Option R := fun v11 =>
        (gd (decide (1 < (((v1.drop (Int.toNat v2)).take ((Int.toNat (IntKind.i64.wrap (v2 + v3))) - (Int.toNat v2))).length : Int)))
         (let v12 : Int := (bvop .u64 .or v11 (shl .u64 (IntKind.u64.wrap (((v1.drop (Int.toNat v2)).take ((Int.toNat (IntKind.i64.wrap (v2 + v3))) - (Int.toNat v2))).getD 1 (0 : Int))) 8))
         j10 v12))
        (let j16 : Int → Option R := fun v14 =>
         (gd (decide (2 < (((v1.drop (Int.toNat v2)).take ((Int.toNat (IntKind.i64.wrap (v2 + v3))) - (Int.toNat v2))).length : Int)))
         (let v15 : Int := (bvop .u64 .or v14 (shl .u64 (IntKind.u64.wrap (((v1.drop (Int.toNat v2)).take ((Int.toNat (IntKind.i64.wrap (v2 + v3))) - (Int.toNat v2))).getD 2 (0 : Int))) 16))
          j13 v15))
         (let j19 : Int → Option R := fun v17 =>
         (gd (decide (3 < (((v1.drop (Int.toNat v2)).take ((Int.toNat (IntKind.i64.wrap (v2 + v3))) - (Int.toNat v2))).length : Int)))
          (let v18 : Int := (bvop .u64 .or v17 (shl .u64 (IntKind.u64.wrap (((v1.drop (Int.toNat v2)).take ((Int.toNat (IntKind.i64.wrap (v2 + v3))) - (Int.toNat v2))).getD 3 (0 : Int))) 24))
          j16 v18))
         (let j22 : Int → Option R := fun v20 =>
          (gd (decide (4 < (((v1.drop (Int.toNat v2)).take ((Int.toNat (IntKind.i64.wrap (v2 + v3))) - (Int.toNat v2))).length : Int)))
          (let v21 : Int := (bvop .u64 .or v20 (shl .u64 (IntKind.u64.wrap (((v1.drop (Int.toNat v2)).take ((Int.toNat (IntKind.i64.wrap (v2 + v3))) - (Int.toNat v2))).getD 4 (0 : Int))) 32))
           j19 v21))
          (let j25 : Int → Option R := fun v23 =>
          (gd (decide (5 < (((v1.drop (Int.toNat v2)).take ((Int.toNat (IntKind.i64.wrap (v2 + v3))) - (Int.toNat v2))).length : Int)))
           (let v24 : Int := (bvop .u64 .or v23 (shl .u64 (IntKind.u64.wrap (((v1.drop (Int.toNat v2)).take ((Int.toNat (IntKind.i64.wrap (v2 + v3))) - (Int.toNat v2))).getD 5 (0 : Int))) 40))
           j22 v24))
          (let j28 : Int → Option R := fun v26 =>
           (gd (decide (6 < (((v1.drop (Int.toNat v2)).take ((Int.toNat (IntKind.i64.wrap (v2 + v3))) - (Int.toNat v2))).length : Int)))
           (let v27 : Int := (bvop .u64 .or v26 (shl .u64 (IntKind.u64.wrap (((v1.drop (Int.toNat v2)).take ((Int.toNat (IntKind.i64.wrap (v2 + v3))) - (Int.toNat v2))).getD 6 (0 : Int))) 48))
            j25 v27))
           (bif decide (v3 = 8) then
           (gd (decide (7 < (((v1.drop (Int.toNat v2)).take ((Int.toNat (IntKind.i64.wrap (v2 + v3))) - (Int.toNat v2))).length : Int)))
            (let v29 : Int := (shl .u64 (IntKind.u64.wrap (((v1.drop (Int.toNat v2)).take ((Int.toNat (IntKind.i64.wrap (v2 + v3))) - (Int.toNat v2))).getD 7 (0 : Int))) 56)
            j28 v29))
           else (bif decide (v3 = 7) then
            (j28 0)
            else (bif decide (v3 = 6) then
            (j25 0)
            else (bif decide (v3 = 5) then
             (j22 0)
             else (bif decide (v3 = 4) then
             (j19 0)
             else (bif decide (v3 = 3) then
              (j16 0)
              else (bif decide (v3 = 2) then
              (j13 0)
              else (bif decide (v3 = 1) then
               (j10 0)
               else (j7 0))))))))))))))))))))))))
   (bif decide ((v1.length : Int) < v2) then
    (j30 (decide ((v1.length : Int) < v2)))
    else (j30 (decide ((IntKind.i64.wrap ((v1.length : Int) - v2)) < v3))))))
  (bif decide (v2 < 0) then
   (j31 (decide (v2 < 0)))
   else (bif decide (v3 < 0) then
   (j31 (decide (v3 < 0)))
   else (j31 (decide (8 < v3)))))
def yy3 (v1 : LI) (v2 v3 : Int) (K : Int → Int → Option R) : Option R := yy3_b v1 v2 v3 K
def yy70_b (c66 : Int → (Err → Option R) → Option R) (v1 : Int) (v2 : LI) (v3 : Err) (K : LI → Err → Option R) : Option R :=
  bif (Err.isNil v3) then
  (c66 v1 (fun v4 =>
   K v2 v4))
  else (K v2 v3)
def yy70 (v1 : Int) (v2 : LI) (v3 : Err) (K : LI → Err → Option R) : Option R := yy70_b yy66 v1 v2 v3 K
def yy71_b (c3 : T40 R) (c70 : T8 R) (v1 : Int) (v2 : LI) (v3 : Err) (K : Int → LI → Err → Option R) : Option R :=
  bif (!(Err.isNil v3)) then
  (K 0 v2 v3)
  else (c3 v2 0 v1 (fun v4 v5 =>
   bif (!(decide (v5 = 0))) then
   (c70 v5 v2 v3 (fun v6 v7 =>
    K 0 v6 v7))
   else (gd (decide (0 ≤ v1))
    (gd (decide (v1 ≤ (v2.length : Int)))
    (K (IntKind.i64.wrap v4) (v2.drop (Int.toNat v1)) v3)))))
def yy71 (v1 : Int) (v2 : LI) (v3 : Err) (K : Int → LI → Err → Option R) : Option R := yy71_b yy3 yy70 v1 v2 v3 K
def yy4_b (c3 : T40 R) (v1 : LI) (v2 : Int) (K : Int → Int → LI → Option R) : Option R :=
  c3 v1 0 2 (fun v3 v4 =>
   bif (!(decide (v4 = 0))) then
   (K 0 v4 ([] : LI))
   else (bif decide (v2 < (IntKind.i64.wrap v3)) then
   (K 0 4 ([] : LI))
   else (bif decide ((v1.length : Int) < (IntKind.i64.wrap (2 + (IntKind.i64.wrap v3)))) then
    (K 0 2 ([] : LI))
    else (gd (decide (0 ≤ (IntKind.i64.wrap (2 + (IntKind.i64.wrap v3)))))
    (gd (decide ((IntKind.i64.wrap (2 + (IntKind.i64.wrap v3))) ≤ (v1.length : Int)))
     (gd (decide (0 ≤ (IntKind.i64.wrap (2 + (IntKind.i64.wrap v3)))))
     (gd (decide ((IntKind.i64.wrap (2 + (IntKind.i64.wrap v3))) ≤ (IntKind.i64.wrap (2 + (IntKind.i64.wrap v3)))))
      (gd (decide (2 ≤ (IntKind.i64.wrap (2 + (IntKind.i64.wrap v3)))))
      (gd (decide (([] : LI).length + ((v1.drop 2).take ((Int.toNat (IntKind.i64.wrap (2 + (IntKind.i64.wrap v3)))) - 2)).length < SMALL))
       (K (IntKind.i64.wrap (2 + (IntKind.i64.wrap v3))) 0 (([] : LI) ++ ((v1.drop 2).take ((Int.toNat (IntKind.i64.wrap (2 + (IntKind.i64.wrap v3)))) - 2)))))))))))))
def yy4 (v1 : LI) (v2 : Int) (K : Int → Int → LI → Option R) : Option R := yy4_b yy3 v1 v2 K
def yy72_b (c4 : T65 R) (c70 : T8 R) (v1 : LI) (v2 : Err) (K : LI → LI → Err → Option R) : Option R :=
  bif (!(Err.isNil v2)) then
  (K ([]) v1 v2)
  else (c4 v1 1000 (fun v3 v4 v5 =>
   bif (!(decide (v4 = 0))) then
   (c70 v4 v1 v2 (fun v6 v7 =>
    K ([]) v6 v7))
   else (gd (decide (0 ≤ v3))
    (gd (decide (v3 ≤ (v1.length : Int)))
    (K v5 (v1.drop (Int.toNat v3)) v2)))))
def yy72 (v1 : LI) (v2 : Err) (K : LI → LI → Err → Option R) : Option R := yy72_b yy4 yy70 v1 v2 K
def yy69_l27_b (c71 : T19 R) (c72 : T20 R) (c70 : T8 R) (c69 : T21 R) (l_27 : T66 R) (v46 v50 : Int) (v51 v52 v53 : LI) (v54 v55 v56 : Int) (v57 v58 v59 : LI) (v60 v61 : Int) (v62 : LI) (v63 : LZ1) (v64 : LI) (Ke9 : LI → Err → Int → LI → LI → LI → Int → Int → Int → LI → LI → LI → Int → Int → LI → LZ1 → LI → LZ1 → Option R) (v47 : Int) (v48 : LI) (v49 : Err) (v65 : LZ1) : Option R :=
  bif decide (v47 < v46) then
  (bif (Err.isNil v49) then
   (c69 true v48 v49 (fun v66 v67 v68 v69 v70 v71 v72 v73 v74 v75 =>
    gd (decide (v65.length + ([(Rose.node (v66, v67, v68, v69, v70, v74, v71, ()) v75)] : LZ1).length < SMALL))
    (l_27 v46 v50 v51 v52 v53 v54 v55 v56 v57 v58 v59 v60 v61 v62 v63 v64 Ke9 (IntKind.i64.wrap (v47 + 1)) v72 v73 (v65 ++ ([(Rose.node (v66, v67, v68, v69, v70, v74, v71, ()) v75)] : LZ1)))))
   else (l_27 v46 v50 v51 v52 v53 v54 v55 v56 v57 v58 v59 v60 v61 v62 v63 v64 Ke9 (IntKind.i64.wrap (v47 + 1)) v48 v49 v65))
  else (Ke9 v48 v49 v50 v51 v52 v53 v54 v55 v56 v57 v58 v59 v60 v61 v62 v63 v64 v65)
def yy69_b (c71 : T19 R) (c72 : T20 R) (c70 : T8 R) (c69 : T21 R) (l_27 : T66 R) (v1 : Bool) (v2 : LI) (v3 : Err) (K : Int → LI → LI → LI → Int → Int → LI → Err → LI → LZ1 → Option R) : Option R :=
  c71 1 v2 v3 (fun v4 v5 v6 =>
   let j10 : Option R :=
   (c72 v5 v6 (fun v7 v8 v9 =>
    K v4 v7 ([]) ([]) 0 0 v8 v9 ([] : LI) ([] : LZ1)))
   (let j17 : Option R :=
   (c72 v5 v6 (fun v11 v12 v13 =>
    c72 v12 v13 (fun v14 v15 v16 =>
     K v4 v11 ([]) v14 0 0 v15 v16 ([] : LI) ([] : LZ1))))
   (bif decide (v4 = 1) then
    (j17)
    else (bif decide (v4 = 2) then
    (j17)
    else (let j99 : Option R :=
     (bif decide (v4 = 4) then
     (c71 1 v5 v6 (fun v18 v19 v20 =>
      c72 v19 v20 (fun v21 v22 v23 =>
       c72 v22 v23 (fun v24 v25 v26 =>
       K v4 v21 v24 ([]) v18 0 v25 v26 ([] : LI) ([] : LZ1)))))
     else (bif decide (v4 = 5) then
      (c72 v5 v6 (fun v27 v28 v29 =>
       c72 v28 v29 (fun v30 v31 v32 =>
       K v4 v27 ([]) ([]) 0 0 v31 v32 v30 ([] : LZ1))))
      else (bif decide (v4 = 7) then
      (c72 v5 v6 (fun v33 v34 v35 =>
       c71 2 v34 v35 (fun v36 v37 v38 =>
        K v4 v33 ([]) ([]) 0 v36 v37 v38 ([] : LI) ([] : LZ1))))
      else (bif decide (v4 = 8) then
       (bif v1 then
       (c70 3 v5 v6 (fun v39 v40 =>
        K v4 ([]) ([]) ([]) 0 0 v39 v40 ([] : LI) ([] : LZ1)))
       else (c71 1 v5 v6 (fun v41 v42 v43 =>
        let j94 : LI → Err → Option R := fun v44 v45 =>
        (l_27 v41 0 ([]) ([]) ([]) 0 0 v4 ([]) ([]) ([]) 0 0 ([] : LI) ([] : LZ1) ([] : LI)
         (fun v76 v77 v78 v79 v80 v81 v82 v83 v84 v85 v86 v87 v88 v89 v90 v91 v92 v93 =>
         K v84 v85 v86 v87 v88 v89 v76 v77 v92 v93) 0 v44 v45 ([] : LZ1))
        (bif decide (20 < v41) then
         (c70 3 v42 v43 (fun v95 v96 =>
          j94 v95 v96))
         else (j94 v42 v43)))))
       else (c70 3 v5 v6 (fun v97 v98 =>
        K v4 ([]) ([]) ([]) 0 0 v97 v98 ([] : LI) ([] : LZ1)))))))
     (bif decide (v4 = 3) then
     (bif decide (v4 = 3) then
      (j10)
      else (j99))
     else (bif decide (v4 = 6) then
      (j10)
      else (j99))))))))
def yy69_l27 (c_self : T21 R) (kf : Nat) : Nat → T66 R
 | 0, _, _, _, _, _, _, _, _, _, _, _, _, _, _, _, _, _, _, _, _, _ => none
 | k + 1, y0, y1, y2, y3, y4, y5, y6, y7, y8, y9, y10, y11, y12, y13, y14, y15, y16, y17, y18, y19, y20 => yy69_l27_b yy71 yy72 yy70 c_self (yy69_l27 c_self kf k) y0 y1 y2 y3 y4 y5 y6 y7 y8 y9 y10 y11 y12 y13 y14 y15 y16 y17 y18 y19 y20
def yy69 : Nat → T21 R
 | 0, _, _, _, _ => none
 | kf + 1, y0, y1, y2, y3 => yy69_b yy71 yy72 yy70 (yy69 kf) (yy69_l27 (yy69 kf) kf kf) y0 y1 y2 y3
def yy64_b (c69 : T21 R) (c68 : Err → (Int → Option R) → Option R) (v1 : LI) (K : Int → LI → LI → LI → Int → Int → Int → Int → LI → LZ1 → Option R) : Option R :=
  c69 false v1 Err.nil (fun v2 v3 v4 v5 v6 v7 v8 v9 v10 v11 =>
   bif (!(Err.isNil v9)) then
   (c68 v9 (fun v12 =>
    K 0 ([]) ([]) ([]) 0 0 0 v12 ([] : LI) ([] : LZ1)))
   else (K v2 v3 v4 v5 v6 v7 (IntKind.i64.wrap ((v1.length : Int) - (v8.length : Int))) 0 v10 v11))
def yy64 (kf : Nat) (v1 : LI) (K : Int → LI → LI → LI → Int → Int → Int → Int → LI → LZ1 → Option R) : Option R := yy64_b (yy69 kf) yy68 v1 K
def yy63_l13_b (c75 : T16 R) (c76 : T17 R) (c68 : Err → (Int → Option R) → Option R) (l_13 : T67 R) (v24 : LI) (v25 : LL) (v26 : Int) (Ke0 : LI → Err → LI → Option R) (v27 : Int) (v28 : Err) (v29 : LI) : Option R :=
  bif decide (v27 < v26) then
  (gd (decide (0 ≤ v27))
   (gd (decide (v27 < (v25.length : Int)))
   (c76 (v25.getD (Int.toNat v27) ([] : LI)) v28 v29 (fun v30 v31 =>
    l_13 v24 v25 v26 Ke0 (IntKind.i64.wrap (v27 + 1)) v30 v31))))
  else (Ke0 v24 v28 v29)
def yy63_b (c75 : T16 R) (c76 : T17 R) (c68 : Err → (Int → Option R) → Option R) (l_13 : T67 R) (v1 : LI) (v2 v3 v4 : Int) (v5 : Bool) (v6 v7 : LI) (v8 : LL) (K : Int → LI → Option R) : Option R :=
  c75 v2 255 1 Err.nil ([] : LI) (fun v9 v10 =>
   c75 v3 65535 2 v9 v10 (fun v11 v12 =>
   c75 v4 255 1 v11 v12 (fun v13 v14 =>
    let j36 : Int → Option R := fun v15 =>
    (c75 v15 1 1 v13 v14 (fun v16 v17 =>
     c76 v6 v16 v17 (fun v18 v19 =>
     c76 v7 v18 v19 (fun v20 v21 =>
      c75 (v8.length : Int) 255 1 v20 v21 (fun v22 v23 =>
      gd (decide (0 ≤ (mn (v8.length : Int) 255)))
      (gd (decide ((mn (v8.length : Int) 255) ≤ (v8.length : Int)))
       (l_13 v1 (v8.take (Int.toNat (mn (v8.length : Int) 255))) ((v8.take (Int.toNat (mn (v8.length : Int) 255))).length : Int)
       (fun v32 v33 v34 =>
        bif (!(Err.isNil v33)) then
        (c68 v33 (fun v35 =>
         K v35 ([] : LI)))
        else (gd (decide (([] : LI).length + v32.length < SMALL))
        (gd (decide ((([] : LI) ++ v32).length + v34.length < SMALL))
         (K 0 ((([] : LI) ++ v32) ++ v34))))) 0 v22 v23)))))))
    (bif v5 then
    (j36 1)
    else (j36 0)))))
def yy63_l13 (kf : Nat) : Nat → T67 R
 | 0, _, _, _, _, _, _, _ => none
 | k + 1, y0, y1, y2, y3, y4, y5, y6 => yy63_l13_b (yy75 kf) (yy76 kf) yy68 (yy63_l13 kf k) y0 y1 y2 y3 y4 y5 y6
def yy63 (kf : Nat) (v1 : LI) (v2 v3 v4 : Int) (v5 : Bool) (v6 v7 : LI) (v8 : LL) (K : Int → LI → Option R) : Option R := yy63_b (yy75 kf) (yy76 kf) yy68 (yy63_l13 kf kf) v1 v2 v3 v4 v5 v6 v7 v8 K
def yy65_l12_b (c71 : T19 R) (c70 : T8 R) (c72 : T20 R) (c68 : Err → (Int → Option R) → Option R) (l_12 : T68 R) (v25 : LI) (v27 v28 v29 : Int) (v30 : Bool) (v31 v34 : LI) (Ke0 : LI → Int → Int → Int → Bool → LI → LI → Err → LI → LL → Option R) (v26 : Int) (v32 : LI) (v33 : Err) (v35 : LL) : Option R :=
  bif decide (0 < v26) then
  (bif (Err.isNil v33) then
   (c72 v32 v33 (fun v36 v37 v38 =>
    gd (decide (v35.length + ([v36] : List LI).length < SMALL))
    (l_12 v25 v27 v28 v29 v30 v31 v34 Ke0 (IntKind.i64.wrap (v26 - 1)) v37 v38 (v35 ++ ([v36] : List LI)))))
   else (Ke0 v25 v27 v28 v29 v30 v31 v32 v33 v34 v35))
  else (Ke0 v25 v27 v28 v29 v30 v31 v32 v33 v34 v35)
def yy65_b (c71 : T19 R) (c70 : T8 R) (c72 : T20 R) (c68 : Err → (Int → Option R) → Option R) (l_12 : T68 R) (v1 : LI) (K : Int → Int → Int → Bool → LI → Int → Int → LI → LL → Option R) : Option R :=
  c71 1 v1 Err.nil (fun v2 v3 v4 =>
   c71 2 v3 v4 (fun v5 v6 v7 =>
   c71 1 v6 v7 (fun v8 v9 v10 =>
    c71 1 v9 v10 (fun v11 v12 v13 =>
    let j50 : LI → Err → Option R := fun v14 v15 =>
    (c72 v14 v15 (fun v16 v17 v18 =>
     c72 v17 v18 (fun v19 v20 v21 =>
      c71 1 v20 v21 (fun v22 v23 v24 =>
      l_12 v1 v2 v5 v8 (decide (v11 = 1)) v19 v16
      (fun v39 v40 v41 v42 v43 v44 v45 v46 v47 v48 =>
       bif (!(Err.isNil v46)) then
       (c68 v46 (fun v49 =>
        K 0 0 0 false ([]) 0 v49 ([] : LI) ([] : List LI)))
       else (K v40 v41 v42 v43 v44 (IntKind.i64.wrap ((v39.length : Int) - (v45.length : Int))) 0 v47 v48)) v22 v23 v24 ([] : List LI)))))
    (bif decide (1 < v11) then
     (c70 3 v12 v13 (fun v51 v52 =>
      j50 v51 v52))
     else (j50 v12 v13))))))
def yy65_l12 (kf : Nat) : Nat → T68 R
 | 0, _, _, _, _, _, _, _, _, _, _, _, _ => none
 | k + 1, y0, y1, y2, y3, y4, y5, y6, y7, y8, y9, y10, y11 => yy65_l12_b yy71 yy70 yy72 yy68 (yy65_l12 kf k) y0 y1 y2 y3 y4 y5 y6 y7 y8 y9 y10 y11
def yy65 (kf : Nat) (v1 : LI) (K : Int → Int → Int → Bool → LI → Int → Int → LI → LL → Option R) : Option R := yy65_b yy71 yy70 yy72 yy68 (yy65_l12 kf kf) v1 K
def yy1_b (c62 : T22 R) (c64 : T23 R) (c63 : T69 R) (c65 : T70 R) (K : Bool → Option R) : Option R :=
  c62 ([] : LI) 3 ([97]) ([]) ([]) 0 ([] : LI) 0 ([] : LZ1) (fun v1 v2 =>
   c64 v2 (fun v3 v4 v5 v6 v7 v8 v9 v10 v11 v12 =>
   c63 ([] : LI) 0 0 0 false ([] : LI) ([120]) ([] : List LI) (fun v13 v14 =>
    c65 v14 (fun v15 v16 v17 v18 v19 v20 v21 v22 v23 =>
    bif decide (v1 = 0) then
    (bif decide (v2 = [3, 1, 0, 97]) then
     (bif decide (v10 = 0) then
     (bif decide (v9 = 4) then
      (bif decide (v4 = [97]) then
      (bif decide (v13 = 0) then
       (bif decide (v21 = 0) then
       (bif decide (v20 = (v14.length : Int)) then
        (K (decide (v19 = [120])))
        else (K false))
       else (K false))
       else (K false))
      else (K false))
      else (K false))
     else (K false))
     else (K false))
    else (K false)))))
def yy1 (kf : Nat) (K : Bool → Option R) : Option R := yy1_b (yy62 kf) (yy64 kf) (yy63 kf) (yy65 kf) K
def yy7_b (v1 : LI) (K : LI → Int → Option R) : Option R :=
  K v1 0
def yy7 (v1 : LI) (K : LI → Int → Option R) : Option R := yy7_b v1 K
def yy16_b (v1 : LI) (v2 : Int) (K : Bool → LI → Int → Option R) : Option R :=
  K (decide ((v1.length : Int) ≤ v2)) v1 v2
def yy16 (v1 : LI) (v2 : Int) (K : Bool → LI → Int → Option R) : Option R := yy16_b v1 v2 K
def yy15_b (v1 : Int) (v2 : LI) (v3 : Int) (K : Int → LI → Int → Option R) : Option R :=
  bif decide ((v2.length : Int) ≤ v3) then
  (K 0 v2 v3)
  else (gd (decide (0 ≤ (IntKind.i64.wrap ((IntKind.i64.wrap (v3 + 1)) - 1))))
   (gd (decide ((IntKind.i64.wrap ((IntKind.i64.wrap (v3 + 1)) - 1)) < (v2.length : Int)))
   (gd (decide (v1 ≠ 0))
    (let v4 : Int := (Int.tmod (IntKind.i64.wrap (v2.getD (Int.toNat (IntKind.i64.wrap ((IntKind.i64.wrap (v3 + 1)) - 1))) (0 : Int))) v1)
    K v4 v2 (IntKind.i64.wrap (v3 + 1))))))
def yy15 (v1 : Int) (v2 : LI) (v3 : Int) (K : Int → LI → Int → Option R) : Option R := yy15_b v1 v2 v3 K
def yy9_b (c15 : T5 R) (v1 : LI) (v2 : Int) (K : LI → LI → Int → Option R) : Option R :=
  c15 14 v1 v2 (fun v3 v4 v5 =>
   gd (decide (0 ≤ (Int.tmod (mn v3 10) 11)))
   (gd (decide ((Int.tmod (mn v3 10) 11) < (([[97], [98], [99], [100], [97, 98], [98, 46, 49], [122, 45, 57], [], [49, 97], [97, 98, 99, 100, 101, 102, 103, 104, 105, 106, 107, 108, 109, 110], [97, 98, 99, 100, 101, 102, 103, 104, 105, 106, 107, 108, 109, 110, 111]] : List LI).length : Int)))
   (K (([[97], [98], [99], [100], [97, 98], [98, 46, 49], [122, 45, 57], [], [49, 97], [97, 98, 99, 100, 101, 102, 103, 104, 105, 106, 107, 108, 109, 110], [97, 98, 99, 100, 101, 102, 103, 104, 105, 106, 107, 108, 109, 110, 111]] : List LI).getD (Int.toNat (Int.tmod (mn v3 10) 11)) ([] : LI)) v4 v5)))
def yy9 (v1 : LI) (v2 : Int) (K : LI → LI → Int → Option R) : Option R := yy9_b yy15 v1 v2 K
def yy22_l3_b (l_3 : T71 R) (v2 v4 : LI) (Ke0 : LI → LI → Option R) (v3 : Int) (v5 : LI) : Option R :=
  bif decide (v3 < (v2.length : Int)) then
  (gd (decide (0 ≤ v3))
   (gd (decide (v3 < (v2.length : Int)))
   (gd (decide (0 ≤ (IntKind.u8.wrap (Int.tdiv (v2.getD (Int.toNat v3) (0 : Int)) 64))))
    (gd (decide ((IntKind.u8.wrap (Int.tdiv (v2.getD (Int.toNat v3) (0 : Int)) 64)) < 4))
    (gd (decide (0 ≤ v3))
     (gd (decide (v3 < (v2.length : Int)))
     (gd (decide (0 ≤ (Int.tmod (v2.getD (Int.toNat v3) (0 : Int)) 64)))
      (gd (decide (0 ≤ (IntKind.u8.wrap (Int.tdiv (v2.getD (Int.toNat v3) (0 : Int)) 64))))
      (gd (decide ((IntKind.u8.wrap (Int.tdiv (v2.getD (Int.toNat v3) (0 : Int)) 64)) < 4))
       (l_3 v2 v4 Ke0 (IntKind.i64.wrap (v3 + 1)) (v5.set (Int.toNat (IntKind.u8.wrap (Int.tdiv (v2.getD (Int.toNat v3) (0 : Int)) 64))) (bvop .u64 .or (v5.getD (Int.toNat (IntKind.u8.wrap (Int.tdiv (v2.getD (Int.toNat v3) (0 : Int)) 64))) (0 : Int)) (shl .u64 1 (Int.tmod (v2.getD (Int.toNat v3) (0 : Int)) 64))))))))))))))
  else (Ke0 v4 v5)
def yy22_b (l_3 : T71 R) (v1 : LI) (K : LI → Option R) : Option R :=
  l_3 v1 (List.replicate 4 (0 : Int))
  (fun v6 v7 =>
   K v7) 0 (List.replicate 4 (0 : Int))
def yy22_l3 (kf : Nat) : Nat → T71 R
 | 0, _, _, _, _, _ => none
 | k + 1, y0, y1, y2, y3, y4 => yy22_l3_b (yy22_l3 kf k) y0 y1 y2 y3 y4
def yy22 (kf : Nat) (v1 : LI) (K : LI → Option R) : Option R := yy22_b (yy22_l3 kf kf) v1 K
def yy26_l3_b (c22 : LI → (LI → Option R) → Option R) (l_3 : T72 R) (v3 : LB) (v4 : LI) (Ke0 : LI → LI → Option R) (v2 : Int) (v5 : LI) : Option R :=
  bif decide (v2 < 256) then
  (gd (decide (0 ≤ v2))
   (gd (decide (v2 < 256))
   (bif (v3.getD (Int.toNat v2) false) then
    (gd (decide (v5.length + ([(IntKind.u8.wrap v2)] : List Int).length < SMALL))
    (l_3 v3 v4 Ke0 (IntKind.i64.wrap (v2 + 1)) (v5 ++ ([(IntKind.u8.wrap v2)] : List Int))))
    else (l_3 v3 v4 Ke0 (IntKind.i64.wrap (v2 + 1)) v5))))
  else (Ke0 v4 v5)
def yy26_b (c22 : LI → (LI → Option R) → Option R) (l_3 : T72 R) (v1 : LB) (K : LI → Option R) : Option R :=
  l_3 v1 (List.replicate 4 (0 : Int))
  (fun v6 v7 =>
   c22 v7 (fun v8 =>
   K v8)) 0 ([] : LI)
def yy26_l3 (kf : Nat) : Nat → T72 R
 | 0, _, _, _, _, _ => none
 | k + 1, y0, y1, y2, y3, y4 => yy26_l3_b (yy22 kf) (yy26_l3 kf k) y0 y1 y2 y3 y4
def yy26 (kf : Nat) (v1 : LB) (K : LI → Option R) : Option R := yy26_b (yy22 kf) (yy26_l3 kf kf) v1 K
def yy24_l3_b (c26 : LB → (LI → Option R) → Option R) (l_3 : T73 R) (v3 : Int) (v5 : LI) (Ke0 : LI → LB → Option R) (v4 : Int) (v6 : LB) : Option R :=
  bif decide (v4 ≤ (IntKind.i64.wrap v3)) then
  (gd (decide (0 ≤ v4))
   (gd (decide (v4 < 256))
   (l_3 v3 v5 Ke0 (IntKind.i64.wrap (v4 + 1)) (v6.set (Int.toNat v4) true))))
  else (Ke0 v5 v6)
def yy24_b (c26 : LB → (LI → Option R) → Option R) (l_3 : T73 R) (v1 v2 : Int) (K : LI → Option R) : Option R :=
  l_3 v2 (List.replicate 4 (0 : Int))
  (fun v7 v8 =>
   c26 v8 (fun v9 =>
   K v9)) (IntKind.i64.wrap v1) (List.replicate 256 false)
def yy24_l3 (kf : Nat) : Nat → T73 R
 | 0, _, _, _, _, _ => none
 | k + 1, y0, y1, y2, y3, y4 => yy24_l3_b (yy26 kf) (yy24_l3 kf k) y0 y1 y2 y3 y4
def yy24 (kf : Nat) (v1 v2 : Int) (K : LI → Option R) : Option R := yy24_b (yy26 kf) (yy24_l3 kf kf) v1 v2 K
def yy19_b (v1 : LI) (v2 : Int) (K : Bool → Option R) : Option R :=
  gd (decide (0 ≤ (IntKind.u8.wrap (Int.tdiv v2 64))))
  (gd (decide ((IntKind.u8.wrap (Int.tdiv v2 64)) < 4))
   (gd (decide (0 ≤ (Int.tmod v2 64)))
   (K (decide ((Int.tmod (shr .u64 (v1.getD (Int.toNat (IntKind.u8.wrap (Int.tdiv v2 64))) (0 : Int)) (Int.tmod v2 64)) 2) = 1)))))
def yy19 (v1 : LI) (v2 : Int) (K : Bool → Option R) : Option R := yy19_b v1 v2 K
def yy21_l3_b (c19 : T0 R) (c26 : LB → (LI → Option R) → Option R) (l_3 : T74 R) (v3 v4 : LI) (Ke0 : LI → LB → Option R) (v2 : Int) (v5 : LB) : Option R :=
  bif decide (v2 < 256) then
  (c19 v3 (IntKind.u8.wrap v2) (fun v6 =>
   gd (decide (0 ≤ v2))
   (gd (decide (v2 < 256))
    (l_3 v3 v4 Ke0 (IntKind.i64.wrap (v2 + 1)) (v5.set (Int.toNat v2) (!v6))))))
  else (Ke0 v4 v5)
def yy21_b (c19 : T0 R) (c26 : LB → (LI → Option R) → Option R) (l_3 : T74 R) (v1 : LI) (K : LI → Option R) : Option R :=
  l_3 v1 (List.replicate 4 (0 : Int))
  (fun v7 v8 =>
   c26 v8 (fun v9 =>
   K v9)) 0 (List.replicate 256 false)
def yy21_l3 (kf : Nat) : Nat → T74 R
 | 0, _, _, _, _, _ => none
 | k + 1, y0, y1, y2, y3, y4 => yy21_l3_b yy19 (yy26 kf) (yy21_l3 kf k) y0 y1 y2 y3 y4
def yy21 (kf : Nat) (v1 : LI) (K : LI → Option R) : Option R := yy21_b yy19 (yy26 kf) (yy21_l3 kf kf) v1 K
def yy11_b (c15 : T5 R) (c24 : T75 R) (c22 : LI → (LI → Option R) → Option R) (c21 : LI → (LI → Option R) → Option R) (v1 : LI) (v2 : Int) (K : LI → LI → Int → Option R) : Option R :=
  c15 8 v1 v2 (fun v3 v4 v5 =>
   bif decide (v3 = 0) then
   (c24 97 100 (fun v6 =>
    K v6 v4 v5))
   else (bif decide (v3 = 1) then
   (c15 256 v4 v5 (fun v7 v8 v9 =>
    c15 256 v8 v9 (fun v10 v11 v12 =>
     c24 (IntKind.u8.wrap v7) (IntKind.u8.wrap v10) (fun v13 =>
     K v13 v11 v12))))
   else (bif decide (v3 = 2) then
    (c15 4 v4 v5 (fun v14 v15 v16 =>
     c22 ([(IntKind.u8.wrap (IntKind.i64.wrap (97 + v14)))] : List Int) (fun v17 =>
     c21 v17 (fun v18 =>
      K v18 v15 v16))))
    else (bif decide (v3 = 3) then
    (c15 4 v4 v5 (fun v19 v20 v21 =>
     c15 4 v20 v21 (fun v22 v23 v24 =>
      c15 256 v23 v24 (fun v25 v26 v27 =>
      c22 ([(IntKind.u8.wrap (IntKind.i64.wrap (97 + v19))), (IntKind.u8.wrap (IntKind.i64.wrap (97 + v22))), (IntKind.u8.wrap v25)] : List Int) (fun v28 =>
       K v28 v26 v27)))))
    else (bif decide (v3 = 4) then
     (c24 0 255 (fun v29 =>
      K v29 v4 v5))
     else (c15 4 v4 v5 (fun v30 v31 v32 =>
      c22 ([(IntKind.u8.wrap (IntKind.i64.wrap (97 + v30)))] : List Int) (fun v33 =>
      K v33 v31 v32))))))))
def yy11 (kf : Nat) (v1 : LI) (v2 : Int) (K : LI → LI → Int → Option R) : Option R := yy11_b yy15 (yy24 kf) (yy22 kf) (yy21 kf) v1 v2 K
def yy39_b (K : T38 R) : Option R :=
  K 1 (List.replicate 4 (0 : Int)) ([] : LZ0)
def yy39 (K : T38 R) : Option R := yy39_b K
def yy30_b (c39 : T2 R) (v1 : LI) (K : T38 R) : Option R :=
  bif decide (v1 = (List.replicate 4 (0 : Int))) then
  (c39 (fun v2 v3 v4 =>
   K v2 v3 v4))
  else (K 3 v1 ([] : LZ0))
def yy30 (v1 : LI) (K : T38 R) : Option R := yy30_b yy39 v1 K
def yy35_b (K : T38 R) : Option R :=
  K 2 (List.replicate 4 (0 : Int)) ([] : LZ0)
def yy35 (K : T38 R) : Option R := yy35_b K
def yy43_l3_b (l_3 : T76 R) (v3 : Int) (v4 : LZ0) (Ke0 : LZ0 → Option R) (v5 : Int) (v6 : LZ0) : Option R :=
  bif decide (v5 < (v4.length : Int)) then
  (gd (decide (0 ≤ v5))
   (gd (decide (v5 < (v4.length : Int)))
   (bif decide ((Rose.lab (v4.getD (Int.toNat v5) dN1)).1 = v3) then
    (gd (decide (0 ≤ v5))
    (gd (decide (v5 < (v4.length : Int)))
     (gd (decide (v6.length + (Rose.kids (v4.getD (Int.toNat v5) dN1)).length < SMALL))
     (l_3 v3 v4 Ke0 (IntKind.i64.wrap (v5 + 1)) (v6 ++ (Rose.kids (v4.getD (Int.toNat v5) dN1)))))))
    else (gd (decide (0 ≤ v5))
    (gd (decide (v5 < (v4.length : Int)))
     (gd (decide (v6.length + ([(Rose.node ((Rose.lab (v4.getD (Int.toNat v5) dN1)).1, (Rose.lab (v4.getD (Int.toNat v5) dN1)).2.1, ()) (Rose.kids (v4.getD (Int.toNat v5) dN1)))] : LZ0).length < SMALL))
     (l_3 v3 v4 Ke0 (IntKind.i64.wrap (v5 + 1)) (v6 ++ ([(Rose.node ((Rose.lab (v4.getD (Int.toNat v5) dN1)).1, (Rose.lab (v4.getD (Int.toNat v5) dN1)).2.1, ()) (Rose.kids (v4.getD (Int.toNat v5) dN1)))] : LZ0)))))))))
  else (Ke0 v6)
def yy43_b (l_3 : T76 R) (v1 : Int) (v2 : LZ0) (K : T97 R) : Option R :=
  l_3 v1 v2
  (fun v7 =>
   K v7) 0 ([] : LZ0)
def yy43_l3 (kf : Nat) : Nat → T76 R
 | 0, _, _, _, _, _ => none
 | k + 1, y0, y1, y2, y3, y4 => yy43_l3_b (yy43_l3 kf k) y0 y1 y2 y3 y4
def yy43 (kf : Nat) (v1 : Int) (v2 : LZ0) (K : T97 R) : Option R := yy43_b (yy43_l3 kf kf) v1 v2 K
def yy33_l3_b (c33 : T1 R) (l_3 : T26 R) (v5 : Int) (v6 : LI) (v7 : LZ0) (v8 : Int) (v9 : LI) (v11 : LZ0) (Ke0 : Int → LI → LZ0 → Int → LI → LZ0 → LZ0 → Option R) (v4 : Int) (v10 : LZ0) : Option R :=
  bif decide (v4 < (v7.length : Int)) then
  (gd (decide (0 ≤ v4))
   (gd (decide (v4 < (v7.length : Int)))
   (c33 ((Rose.lab (v7.getD (Int.toNat v4) dN1)).1) ((Rose.lab (v7.getD (Int.toNat v4) dN1)).2.1) (Rose.kids (v7.getD (Int.toNat v4) dN1)) (fun v12 v13 v14 =>
    gd (decide (v10.length + ([(Rose.node (v12, v13, ()) v14)] : LZ0).length < SMALL))
    (l_3 v5 v6 v7 v8 v9 v11 Ke0 (IntKind.i64.wrap (v4 + 1)) (v10 ++ ([(Rose.node (v12, v13, ()) v14)] : LZ0)))))))
  else (Ke0 v5 v6 v7 v8 v9 v10 v11)
def yy33_b (c33 : T1 R) (l_3 : T26 R) (v1 : Int) (v2 : LI) (v3 : LZ0) (K : T38 R) : Option R :=
  l_3 v1 v2 v3 0 (List.replicate 4 (0 : Int)) ([] : LZ0)
  (fun v15 v16 v17 v18 v19 v20 v21 =>
   K v15 v16 v20) 0 ([] : LZ0)
def yy33_l3 (c_self : T1 R) (kf : Nat) : Nat → T26 R
 | 0, _, _, _, _, _, _, _, _, _ => none
 | k + 1, y0, y1, y2, y3, y4, y5, y6, y7, y8 => yy33_l3_b c_self (yy33_l3 c_self kf k) y0 y1 y2 y3 y4 y5 y6 y7 y8
def yy33 : Nat → T1 R
 | 0, _, _, _, _ => none
 | kf + 1, y0, y1, y2, y3 => yy33_b (yy33 kf) (yy33_l3 (yy33 kf) kf kf) y0 y1 y2 y3
def yy31_l4_b (c43 : T24 R) (c39 : T2 R) (c33 : T1 R) (c35 : T2 R) (l_4 : T77 R) (v4 : Int) (v5 : LI) (v7 v8 : LZ0) (Kr : Int → LI → LZ0 → LZ0 → Option R) (Ke0 : Int → LI → LZ0 → LZ0 → Option R) (v3 : Int) (v6 : LZ0) : Option R :=
  bif decide (v3 < (v7.length : Int)) then
  (gd (decide (0 ≤ v3))
   (gd (decide (v3 < (v7.length : Int)))
   (bif decide ((Rose.lab (v7.getD (Int.toNat v3) dN1)).1 = 1) then
    (c39 (fun v9 v10 v11 =>
     Kr v9 v10 v11 v6))
    else (gd (decide (0 ≤ v3))
    (gd (decide (v3 < (v7.length : Int)))
     (bif (!(decide ((Rose.lab (v7.getD (Int.toNat v3) dN1)).1 = 2))) then
     (gd (decide (0 ≤ v3))
      (gd (decide (v3 < (v7.length : Int)))
      (c33 ((Rose.lab (v7.getD (Int.toNat v3) dN1)).1) ((Rose.lab (v7.getD (Int.toNat v3) dN1)).2.1) (Rose.kids (v7.getD (Int.toNat v3) dN1)) (fun v12 v13 v14 =>
       gd (decide (v6.length + ([(Rose.node (v12, v13, ()) v14)] : LZ0).length < SMALL))
       (l_4 v4 v5 v7 v8 Kr Ke0 (IntKind.i64.wrap (v3 + 1)) (v6 ++ ([(Rose.node (v12, v13, ()) v14)] : LZ0)))))))
     else (l_4 v4 v5 v7 v8 Kr Ke0 (IntKind.i64.wrap (v3 + 1)) v6)))))))
  else (Ke0 v4 v5 v6 v8)
def yy31_b (c43 : T24 R) (c39 : T2 R) (c33 : T1 R) (c35 : T2 R) (l_4 : T77 R) (v1 : LZ0) (K : T38 R) : Option R :=
  c43 4 v1 (fun v2 =>
   l_4 0 (List.replicate 4 (0 : Int)) v2 ([] : LZ0)
   (fun v15 v16 v17 v18 =>
   K v15 v16 v17)
   (fun v19 v20 v21 v22 =>
   bif decide ((v21.length : Int) = 0) then
   (c35 (fun v23 v24 v25 =>
    K v23 v24 v25))
   else (bif decide ((v21.length : Int) = 1) then
    (gd (decide (0 < (v21.length : Int)))
    (K ((Rose.lab (v21.getD 0 dN1)).1) ((Rose.lab (v21.getD 0 dN1)).2.1) (Rose.kids (v21.getD 0 dN1))))
    else (K 4 (List.replicate 4 (0 : Int)) v21))) 0 ([] : LZ0))
def yy31_l4 (kf : Nat) : Nat → T77 R
 | 0, _, _, _, _, _, _, _, _ => none
 | k + 1, y0, y1, y2, y3, y4, y5, y6, y7 => yy31_l4_b (yy43 kf) yy39 (yy33 kf) yy35 (yy31_l4 kf k) y0 y1 y2 y3 y4 y5 y6 y7
def yy31 (kf : Nat) (v1 : LZ0) (K : T38 R) : Option R := yy31_b (yy43 kf) yy39 (yy33 kf) yy35 (yy31_l4 kf kf) v1 K
def yy20_l3_b (c19 : T0 R) (l_3 : T27 R) (v3 : LI) (Ke0 : LI → Option R) (v2 : Int) (v4 : LI) : Option R :=
  bif decide (v2 < 256) then
  (c19 v3 (IntKind.u8.wrap v2) (fun v5 =>
   bif v5 then
   (gd (decide (v4.length + ([(IntKind.u8.wrap v2)] : List Int).length < SMALL))
    (l_3 v3 Ke0 (IntKind.i64.wrap (v2 + 1)) (v4 ++ ([(IntKind.u8.wrap v2)] : List Int))))
   else (l_3 v3 Ke0 (IntKind.i64.wrap (v2 + 1)) v4)))
  else (Ke0 v4)
def yy20_b (c19 : T0 R) (l_3 : T27 R) (v1 : LI) (K : LI → Option R) : Option R :=
  l_3 v1
  (fun v6 =>
   K v6) 0 ([] : LI)
def yy20_l3 (kf : Nat) : Nat → T27 R
 | 0, _, _, _, _ => none
 | k + 1, y0, y1, y2, y3 => yy20_l3_b yy19 (yy20_l3 kf k) y0 y1 y2 y3
def yy20 (kf : Nat) (v1 : LI) (K : LI → Option R) : Option R := yy20_b yy19 (yy20_l3 kf kf) v1 K
def yy23_b (c20 : LI → (LI → Option R) → Option R) (c22 : LI → (LI → Option R) → Option R) (v1 v2 : LI) (K : LI → Option R) : Option R :=
  c20 v1 (fun v3 =>
   c20 v2 (fun v4 =>
   gd (decide (v3.length + v4.length < SMALL))
   (c22 (v3 ++ v4) (fun v5 =>
    K v5))))
def yy23 (kf : Nat) (v1 v2 : LI) (K : LI → Option R) : Option R := yy23_b (yy20 kf) (yy22 kf) v1 v2 K
def yy25_l2_b (c19 : T0 R) (l_2 : T28 R) (v4 v5 : LI) (Kr : Bool → Option R) (Ke0 : Option R) (v3 : Int) : Option R :=
  bif decide (v3 < 256) then
  (c19 v4 (IntKind.u8.wrap v3) (fun v6 =>
   c19 v5 (IntKind.u8.wrap v3) (fun v7 =>
    bif (!(decide (v6 = v7))) then
    (c19 v4 (IntKind.u8.wrap v3) (fun v8 =>
     Kr v8))
    else (l_2 v4 v5 Kr Ke0 (IntKind.i64.wrap (v3 + 1))))))
  else (Ke0)
def yy25_b (c19 : T0 R) (l_2 : T28 R) (v1 v2 : LI) (K : Bool → Option R) : Option R :=
  l_2 v1 v2
  (fun v9 =>
   K v9)
  (K false) 0
def yy25_l2 (kf : Nat) : Nat → T28 R
 | 0, _, _, _, _, _ => none
 | k + 1, y0, y1, y2, y3, y4 => yy25_l2_b yy19 (yy25_l2 kf k) y0 y1 y2 y3 y4
def yy25 (kf : Nat) (v1 v2 : LI) (K : Bool → Option R) : Option R := yy25_b yy19 (yy25_l2 kf kf) v1 v2 K
def yy32_l10_b (c25 : T14 R) (c32 : T10 R) (l_10 : T78 R) (v10 : Int) (v11 : LI) (v12 : LZ0) (v13 : Int) (v14 : LI) (v15 : LZ0) (Kr : Int → Int → LI → LZ0 → Int → LI → LZ0 → Option R) (Ke0 : Int → LI → LZ0 → Int → LI → LZ0 → Option R) (v9 : Int) : Option R :=
  bif decide (v9 < (v12.length : Int)) then
  (bif decide (v9 < (v15.length : Int)) then
   (gd (decide (0 ≤ v9))
   (gd (decide (v9 < (v12.length : Int)))
    (gd (decide (0 ≤ v9))
    (gd (decide (v9 < (v15.length : Int)))
     (c32 ((Rose.lab (v12.getD (Int.toNat v9) dN1)).1) ((Rose.lab (v12.getD (Int.toNat v9) dN1)).2.1) (Rose.kids (v12.getD (Int.toNat v9) dN1)) ((Rose.lab (v15.getD (Int.toNat v9) dN1)).1) ((Rose.lab (v15.getD (Int.toNat v9) dN1)).2.1) (Rose.kids (v15.getD (Int.toNat v9) dN1)) (fun v16 =>
      bif (!(decide (v16 = 0))) then
      (Kr v16 v10 v11 v12 v13 v14 v15)
      else (l_10 v10 v11 v12 v13 v14 v15 Kr Ke0 (IntKind.i64.wrap (v9 + 1)))))))))
   else (Ke0 v10 v11 v12 v13 v14 v15))
  else (Ke0 v10 v11 v12 v13 v14 v15)
def yy32_b (c25 : T14 R) (c32 : T10 R) (l_10 : T78 R) (v1 : Int) (v2 : LI) (v3 : LZ0) (v4 : Int) (v5 : LI) (v6 : LZ0) (K : Int → Option R) : Option R :=
  bif (!(decide (v1 = v4))) then
  (bif decide (v1 < v4) then
   (K (-1))
   else (K 1))
  else (let j30 : Bool → Option R := fun v7 =>
   (bif v7 then
   (c25 v2 v5 (fun v8 =>
    bif v8 then
    (K (-1))
    else (K 1)))
   else (l_10 v1 v2 v3 v4 v5 v6
    (fun v17 v18 v19 v20 v21 v22 v23 =>
    K v17)
    (fun v24 v25 v26 v27 v28 v29 =>
    bif decide ((v26.length : Int) < (v29.length : Int)) then
    (K (-1))
    else (bif decide ((v29.length : Int) < (v26.length : Int)) then
     (K 1)
     else (K 0))) 0))
   (bif decide (v1 = 3) then
   (j30 (!(decide (v2 = v5))))
   else (j30 false)))
def yy32_l10 (c_self : T10 R) (kf : Nat) : Nat → T78 R
 | 0, _, _, _, _, _, _, _, _, _ => none
 | k + 1, y0, y1, y2, y3, y4, y5, y6, y7, y8 => yy32_l10_b (yy25 kf) c_self (yy32_l10 c_self kf k) y0 y1 y2 y3 y4 y5 y6 y7 y8
def yy32 : Nat → T10 R
 | 0, _, _, _, _, _, _, _ => none
 | kf + 1, y0, y1, y2, y3, y4, y5, y6 => yy32_b (yy25 kf) (yy32 kf) (yy32_l10 (yy32 kf) kf kf) y0 y1 y2 y3 y4 y5 y6
def yy36_b (c32 : T10 R) (v1 : Int) (v2 : LI) (v3 : LZ0) (v4 : Int) (v5 : LI) (v6 : LZ0) (K : Bool → Option R) : Option R :=
  c32 v1 v2 v3 v4 v5 v6 (fun v7 =>
   K (decide (v7 = 0)))
def yy36 (kf : Nat) (v1 : Int) (v2 : LI) (v3 : LZ0) (v4 : Int) (v5 : LI) (v6 : LZ0) (K : Bool → Option R) : Option R := yy36_b (yy32 kf) v1 v2 v3 v4 v5 v6 K
def yy44_l2_b (c32 : T10 R) (c36 : T6 R) (l_2 : T79 R) (v5 : LZ0) (v7 : Int) (v8 : LI) (v9 : LZ0) (Ke0 : LZ0 → Int → Int → LI → LZ0 → Option R) (v6 : Int) : Option R :=
  bif decide (v6 < (v5.length : Int)) then
  (gd (decide (0 ≤ v6))
   (gd (decide (v6 < (v5.length : Int)))
   (c32 ((Rose.lab (v5.getD (Int.toNat v6) dN1)).1) ((Rose.lab (v5.getD (Int.toNat v6) dN1)).2.1) (Rose.kids (v5.getD (Int.toNat v6) dN1)) v7 v8 v9 (fun v10 =>
    bif decide (v10 < 0) then
    (l_2 v5 v7 v8 v9 Ke0 (IntKind.i64.wrap (v6 + 1)))
    else (Ke0 v5 v6 v7 v8 v9)))))
  else (Ke0 v5 v6 v7 v8 v9)
def yy44_b (c32 : T10 R) (c36 : T6 R) (l_2 : T79 R) (v1 : LZ0) (v2 : Int) (v3 : LI) (v4 : LZ0) (K : T97 R) : Option R :=
  l_2 v1 v2 v3 v4
  (fun v11 v12 v13 v14 v15 =>
   let j17 : Bool → Option R := fun v16 =>
   (bif v16 then
   (K v11)
   else (gd (decide (0 ≤ v12))
    (gd (decide (v12 ≤ (v11.length : Int)))
    (gd (decide (([] : LZ0).length + (v11.take (Int.toNat v12)).length < SMALL))
     (gd (decide ((([] : LZ0) ++ (v11.take (Int.toNat v12))).length + ([(Rose.node (v13, v14, ()) v15)] : LZ0).length < SMALL))
     (gd (decide (0 ≤ v12))
      (gd (decide (v12 ≤ (v11.length : Int)))
      (gd (decide (((([] : LZ0) ++ (v11.take (Int.toNat v12))) ++ ([(Rose.node (v13, v14, ()) v15)] : LZ0)).length + (v11.drop (Int.toNat v12)).length < SMALL))
       (K (((([] : LZ0) ++ (v11.take (Int.toNat v12))) ++ ([(Rose.node (v13, v14, ()) v15)] : LZ0)) ++ (v11.drop (Int.toNat v12))))))))))))
   (bif decide (v12 < (v11.length : Int)) then
   (gd (decide (0 ≤ v12))
    (gd (decide (v12 < (v11.length : Int)))
    (c36 ((Rose.lab (v11.getD (Int.toNat v12) dN1)).1) ((Rose.lab (v11.getD (Int.toNat v12) dN1)).2.1) (Rose.kids (v11.getD (Int.toNat v12) dN1)) v13 v14 v15 (fun v18 =>
     j17 v18))))
   else (j17 false))) 0
def yy44_l2 (kf : Nat) : Nat → T79 R
 | 0, _, _, _, _, _, _ => none
 | k + 1, y0, y1, y2, y3, y4, y5 => yy44_l2_b (yy32 kf) (yy36 kf) (yy44_l2 kf k) y0 y1 y2 y3 y4 y5
def yy44 (kf : Nat) (v1 : LZ0) (v2 : Int) (v3 : LI) (v4 : LZ0) (K : T97 R) : Option R := yy44_b (yy32 kf) (yy36 kf) (yy44_l2 kf kf) v1 v2 v3 v4 K
def yy29_l5_b (c43 : T24 R) (c23 : T15 R) (c33 : T1 R) (c44 : T50 R) (c30 : T31 R) (c39 : T2 R) (l_5 : T80 R) (v5 : Int) (v6 : LI) (v8 v9 : LZ0) (Ke0 : LZ0 → Int → LI → LI → LZ0 → Option R) (v3 : LZ0) (v4 : Int) (v7 : LI) : Option R :=
  bif decide (v4 < (v8.length : Int)) then
  (gd (decide (0 ≤ v4))
   (gd (decide (v4 < (v8.length : Int)))
   (bif decide ((Rose.lab (v8.getD (Int.toNat v4) dN1)).1 = 1) then
    (l_5 v5 v6 v8 v9 Ke0 v3 (IntKind.i64.wrap (v4 + 1)) v7)
    else (bif decide ((Rose.lab (v8.getD (Int.toNat v4) dN1)).1 = 3) then
    (gd (decide (0 ≤ v4))
     (gd (decide (v4 < (v8.length : Int)))
     (c23 v7 ((Rose.lab (v8.getD (Int.toNat v4) dN1)).2.1) (fun v10 =>
      l_5 v5 v6 v8 v9 Ke0 v3 (IntKind.i64.wrap (v4 + 1)) v10))))
    else (gd (decide (0 ≤ v4))
     (gd (decide (v4 < (v8.length : Int)))
     (c33 ((Rose.lab (v8.getD (Int.toNat v4) dN1)).1) ((Rose.lab (v8.getD (Int.toNat v4) dN1)).2.1) (Rose.kids (v8.getD (Int.toNat v4) dN1)) (fun v11 v12 v13 =>
      c44 v3 v11 v12 v13 (fun v14 =>
       l_5 v5 v6 v8 v9 Ke0 v14 (IntKind.i64.wrap (v4 + 1)) v7)))))))))
  else (Ke0 v3 v5 v6 v7 v9)
def yy29_b (c43 : T24 R) (c23 : T15 R) (c33 : T1 R) (c44 : T50 R) (c30 : T31 R) (c39 : T2 R) (l_5 : T80 R) (v1 : LZ0) (K : T38 R) : Option R :=
  c43 5 v1 (fun v2 =>
   l_5 0 (List.replicate 4 (0 : Int)) v2 ([] : LZ0)
   (fun v15 v16 v17 v18 v19 =>
   let j24 : LZ0 → Option R := fun v20 =>
   (bif decide ((v20.length : Int) = 0) then
    (c39 (fun v21 v22 v23 =>
     K v21 v22 v23))
    else (bif decide ((v20.length : Int) = 1) then
    (gd (decide (0 < (v20.length : Int)))
     (K ((Rose.lab (v20.getD 0 dN1)).1) ((Rose.lab (v20.getD 0 dN1)).2.1) (Rose.kids (v20.getD 0 dN1))))
    else (K 5 (List.replicate 4 (0 : Int)) v20)))
   (bif (!(decide (v18 = (List.replicate 4 (0 : Int))))) then
    (c30 v18 (fun v25 v26 v27 =>
     c44 v15 v25 v26 v27 (fun v28 =>
     j24 v28)))
    else (j24 v15))) ([] : LZ0) 0 (List.replicate 4 (0 : Int)))
def yy29_l5 (kf : Nat) : Nat → T80 R
 | 0, _, _, _, _, _, _, _, _ => none
 | k + 1, y0, y1, y2, y3, y4, y5, y6, y7 => yy29_l5_b (yy43 kf) (yy23 kf) (yy33 kf) (yy44 kf) yy30 yy39 (yy29_l5 kf k) y0 y1 y2 y3 y4 y5 y6 y7
def yy29 (kf : Nat) (v1 : LZ0) (K : T38 R) : Option R := yy29_b (yy43 kf) (yy23 kf) (yy33 kf) (yy44 kf) yy30 yy39 (yy29_l5 kf kf) v1 K
def yy42_l10_b (c33 : T1 R) (c35 : T2 R) (c29 : T4 R) (c42 : T1 R) (l_10 : T26 R) (v12 : Int) (v13 : LI) (v14 : LZ0) (v15 : Int) (v16 : LI) (v18 : LZ0) (Ke1 : Int → LI → LZ0 → Int → LI → LZ0 → LZ0 → Option R) (v11 : Int) (v17 : LZ0) : Option R :=
  bif decide (v11 < (v14.length : Int)) then
  (gd (decide (0 ≤ v11))
   (gd (decide (v11 < (v14.length : Int)))
   (bif (!(decide ((Rose.lab (v14.getD (Int.toNat v11) dN1)).1 = 2))) then
    (gd (decide (0 ≤ v11))
    (gd (decide (v11 < (v14.length : Int)))
     (gd (decide (v17.length + ([(Rose.node ((Rose.lab (v14.getD (Int.toNat v11) dN1)).1, (Rose.lab (v14.getD (Int.toNat v11) dN1)).2.1, ()) (Rose.kids (v14.getD (Int.toNat v11) dN1)))] : LZ0).length < SMALL))
     (l_10 v12 v13 v14 v15 v16 v18 Ke1 (IntKind.i64.wrap (v11 + 1)) (v17 ++ ([(Rose.node ((Rose.lab (v14.getD (Int.toNat v11) dN1)).1, (Rose.lab (v14.getD (Int.toNat v11) dN1)).2.1, ()) (Rose.kids (v14.getD (Int.toNat v11) dN1)))] : LZ0))))))
    else (l_10 v12 v13 v14 v15 v16 v18 Ke1 (IntKind.i64.wrap (v11 + 1)) v17))))
  else (Ke1 v12 v13 v14 v15 v16 v17 v18)
def yy42_b (c33 : T1 R) (c35 : T2 R) (c29 : T4 R) (c42 : T1 R) (l_10 : T26 R) (v1 : Int) (v2 : LI) (v3 : LZ0) (K : T38 R) : Option R :=
  bif decide (v1 = 6) then
  (c33 v1 v2 v3 (fun v4 v5 v6 =>
   K v4 v5 v6))
  else (let j38 : Bool → Option R := fun v7 =>
   (bif v7 then
   (c35 (fun v8 v9 v10 =>
    K v8 v9 v10))
   else (bif decide (v1 = 5) then
    (l_10 v1 v2 v3 0 (List.replicate 4 (0 : Int)) ([] : LZ0)
    (fun v19 v20 v21 v22 v23 v24 v25 =>
     bif decide ((v24.length : Int) < (v21.length : Int)) then
     (c29 v24 (fun v26 v27 v28 =>
      c42 v26 v27 v28 (fun v29 v30 v31 =>
      K v29 v30 v31)))
     else (c33 v19 v20 v21 (fun v32 v33 v34 =>
      K 6 (List.replicate 4 (0 : Int)) ([(Rose.node (v32, v33, ()) v34)] : LZ0)))) 0 ([] : LZ0))
    else (c33 v1 v2 v3 (fun v35 v36 v37 =>
     K 6 (List.replicate 4 (0 : Int)) ([(Rose.node (v35, v36, ()) v37)] : LZ0)))))
   (bif decide (v1 = 1) then
   (j38 (decide (v1 = 1)))
   else (j38 (decide (v1 = 2)))))
def yy42_l10 (c_self : T1 R) (kf : Nat) : Nat → T26 R
 | 0, _, _, _, _, _, _, _, _, _ => none
 | k + 1, y0, y1, y2, y3, y4, y5, y6, y7, y8 => yy42_l10_b (yy33 kf) yy35 (yy29 kf) c_self (yy42_l10 c_self kf k) y0 y1 y2 y3 y4 y5 y6 y7 y8
def yy42 : Nat → T1 R
 | 0, _, _, _, _ => none
 | kf + 1, y0, y1, y2, y3 => yy42_b (yy33 kf) yy35 (yy29 kf) (yy42 kf) (yy42_l10 (yy42 kf) kf kf) y0 y1 y2 y3
def yy17_b (c15 : T5 R) (c16 : T32 R) (c11 : T7 R) (c30 : T31 R) (c39 : T2 R) (c35 : T2 R) (c17 : T41 R) (c31 : T4 R) (c29 : T4 R) (c42 : T1 R) (v1 : Int) (v2 : LI) (v3 : Int) (K : T98 R) : Option R :=
  c15 9 v2 v3 (fun v4 v5 v6 =>
   let j60 : Bool → LI → Int → Option R := fun v7 v8 v9 =>
   (bif v7 then
   (let j28 : Bool → LI → Int → Option R := fun v10 v11 v12 =>
    (bif v10 then
    (c11 v11 v12 (fun v13 v14 v15 =>
     c30 v13 (fun v16 v17 v18 =>
      K v16 v17 v18 v14 v15)))
    else (c15 3 v11 v12 (fun v19 v20 v21 =>
     bif decide (v19 = 0) then
     (c39 (fun v22 v23 v24 =>
      K v22 v23 v24 v20 v21))
     else (c35 (fun v25 v26 v27 =>
      K v25 v26 v27 v20 v21)))))
    (c16 v8 v9 (fun v29 v30 v31 =>
     bif v29 then
     (j28 true v30 v31)
     else (j28 (decide (0 < v4)) v30 v31))))
   else (c17 (IntKind.i64.wrap (v1 + 1)) v8 v9 (fun v32 v33 v34 v35 v36 =>
    let j59 : Bool → Option R := fun v37 =>
    (bif v37 then
     (c17 (IntKind.i64.wrap (v1 + 1)) v35 v36 (fun v38 v39 v40 v41 v42 =>
      c31 ([(Rose.node (v32, v33, ()) v34), (Rose.node (v38, v39, ()) v40)] : LZ0) (fun v43 v44 v45 =>
      K v43 v44 v45 v41 v42)))
     else (let j58 : Bool → Option R := fun v46 =>
     (bif v46 then
      (c17 (IntKind.i64.wrap (v1 + 1)) v35 v36 (fun v47 v48 v49 v50 v51 =>
       c29 ([(Rose.node (v32, v33, ()) v34), (Rose.node (v47, v48, ()) v49)] : LZ0) (fun v52 v53 v54 =>
       K v52 v53 v54 v50 v51)))
      else (c42 v32 v33 v34 (fun v55 v56 v57 =>
       K v55 v56 v57 v35 v36)))
     (bif decide (v4 = 6) then
      (j58 (decide (v4 = 6)))
      else (j58 (decide (v4 = 7))))))
    (bif decide (v4 = 3) then
     (j59 (decide (v4 = 3)))
     else (bif decide (v4 = 4) then
     (j59 (decide (v4 = 4)))
     else (j59 (decide (v4 = 5))))))))
   (c16 v5 v6 (fun v61 v62 v63 =>
    bif v61 then
    (j60 true v62 v63)
    else (bif decide (8 < v1) then
    (j60 true v62 v63)
    else (j60 (decide (v4 < 3)) v62 v63)))))
def yy17 : Nat → T41 R
 | 0, _, _, _, _ => none
 | kf + 1, y0, y1, y2, y3 => yy17_b yy15 yy16 (yy11 kf) yy30 yy39 yy35 (yy17 kf) (yy31 kf) (yy29 kf) (yy42 kf) y0 y1 y2 y3
def yy10_b (c17 : T41 R) (v1 : LI) (v2 : Int) (K : T98 R) : Option R :=
  c17 0 v1 v2 (fun v3 v4 v5 v6 v7 =>
   K v3 v4 v5 v6 v7)
def yy10 (kf : Nat) (v1 : LI) (v2 : Int) (K : T98 R) : Option R := yy10_b (yy17 kf) v1 v2 K
def yy41_l4_b (c41 : T6 R) (l_4 : T81 R) (v11 v14 : LZ0) (Kr : Bool → Option R) (Ke0 : Option R) (v8 : Int) : Option R :=
  bif decide (v8 < (v11.length : Int)) then
  (gd (decide (0 ≤ v8))
   (gd (decide (v8 < (v11.length : Int)))
   (gd (decide (0 ≤ v8))
    (gd (decide (v8 < (v14.length : Int)))
    (c41 ((Rose.lab (v11.getD (Int.toNat v8) dN1)).1) ((Rose.lab (v11.getD (Int.toNat v8) dN1)).2.1) (Rose.kids (v11.getD (Int.toNat v8) dN1)) ((Rose.lab (v14.getD (Int.toNat v8) dN1)).1) ((Rose.lab (v14.getD (Int.toNat v8) dN1)).2.1) (Rose.kids (v14.getD (Int.toNat v8) dN1)) (fun v15 =>
     bif (!v15) then
     (Kr false)
     else (l_4 v11 v14 Kr Ke0 (IntKind.i64.wrap (v8 + 1)))))))))
  else (Ke0)
def yy41_b (c41 : T6 R) (l_4 : T81 R) (v1 : Int) (v2 : LI) (v3 : LZ0) (v4 : Int) (v5 : LI) (v6 : LZ0) (K : Bool → Option R) : Option R :=
  let j17 : Bool → Option R := fun v7 =>
  (bif v7 then
   (K false)
   else (l_4 v3 v6
   (fun v16 =>
    K v16)
   (K true) 0))
  (bif (!(decide (v1 = v4))) then
   (j17 true)
   else (bif (!(decide (v2 = v5))) then
   (j17 true)
   else (j17 (!(decide ((v3.length : Int) = (v6.length : Int)))))))
def yy41_l4 (c_self : T6 R) (kf : Nat) : Nat → T81 R
 | 0, _, _, _, _, _ => none
 | k + 1, y0, y1, y2, y3, y4 => yy41_l4_b c_self (yy41_l4 c_self kf k) y0 y1 y2 y3 y4
def yy41 : Nat → T6 R
 | 0, _, _, _, _, _, _, _ => none
 | kf + 1, y0, y1, y2, y3, y4, y5, y6 => yy41_b (yy41 kf) (yy41_l4 (yy41 kf) kf kf) y0 y1 y2 y3 y4 y5 y6
def yy40_l2_b (c40 : T11 R) (c31 : T4 R) (c41 : T6 R) (c29 : T4 R) (l_2 : T82 R) (v5 : Int) (v6 : LI) (v7 : LZ0) (Kr : Bool → Int → LI → LZ0 → Option R) (Ke0 : Int → LI → LZ0 → Option R) (v4 : Int) : Option R :=
  bif decide (v4 < (v7.length : Int)) then
  (gd (decide (0 ≤ v4))
   (gd (decide (v4 < (v7.length : Int)))
   (c40 ((Rose.lab (v7.getD (Int.toNat v4) dN1)).1) ((Rose.lab (v7.getD (Int.toNat v4) dN1)).2.1) (Rose.kids (v7.getD (Int.toNat v4) dN1)) (fun v8 =>
    bif (!v8) then
    (Kr false v5 v6 v7)
    else (l_2 v5 v6 v7 Kr Ke0 (IntKind.i64.wrap (v4 + 1)))))))
  else (Ke0 v5 v6 v7)
def yy40_b (c40 : T11 R) (c31 : T4 R) (c41 : T6 R) (c29 : T4 R) (l_2 : T82 R) (v1 : Int) (v2 : LI) (v3 : LZ0) (K : Bool → Option R) : Option R :=
  l_2 v1 v2 v3
  (fun v9 v10 v11 v12 =>
   K v9)
  (fun v13 v14 v15 =>
   let j25 : Bool → Option R := fun v16 =>
   (bif v16 then
   (bif decide ((v15.length : Int) = 0) then
    (K (decide (v14 = (List.replicate 4 (0 : Int)))))
    else (K false))
   else (bif decide (v13 = 3) then
    (bif decide ((v15.length : Int) = 0) then
    (K (!(decide (v14 = (List.replicate 4 (0 : Int))))))
    else (K false))
    else (bif decide (v13 = 4) then
    (bif decide (v14 = (List.replicate 4 (0 : Int))) then
     (bif decide (1 < (v15.length : Int)) then
     (c31 v15 (fun v17 v18 v19 =>
      c41 v17 v18 v19 v13 v14 v15 (fun v20 =>
       K v20)))
     else (K false))
     else (K false))
    else (bif decide (v13 = 5) then
     (bif decide (v14 = (List.replicate 4 (0 : Int))) then
     (bif decide (1 < (v15.length : Int)) then
      (c29 v15 (fun v21 v22 v23 =>
       c41 v21 v22 v23 v13 v14 v15 (fun v24 =>
       K v24)))
      else (K false))
     else (K false))
     else (bif decide (v13 = 6) then
     (bif decide (v14 = (List.replicate 4 (0 : Int))) then
      (bif decide ((v15.length : Int) = 1) then
      (gd (decide (0 < (v15.length : Int)))
       (bif (!(decide ((Rose.lab (v15.getD 0 dN1)).1 = 6))) then
       (gd (decide (0 < (v15.length : Int)))
        (bif (!(decide ((Rose.lab (v15.getD 0 dN1)).1 = 2))) then
        (gd (decide (0 < (v15.length : Int)))
         (K (!(decide ((Rose.lab (v15.getD 0 dN1)).1 = 1)))))
        else (K false)))
       else (K false)))
      else (K false))
      else (K false))
     else (K false))))))
   (bif decide (v13 = 1) then
   (j25 (decide (v13 = 1)))
   else (j25 (decide (v13 = 2))))) 0
def yy40_l2 (c_self : T11 R) (kf : Nat) : Nat → T82 R
 | 0, _, _, _, _, _, _ => none
 | k + 1, y0, y1, y2, y3, y4, y5 => yy40_l2_b c_self (yy31 kf) (yy41 kf) (yy29 kf) (yy40_l2 c_self kf k) y0 y1 y2 y3 y4 y5
def yy40 : Nat → T11 R
 | 0, _, _, _, _ => none
 | kf + 1, y0, y1, y2, y3 => yy40_b (yy40 kf) (yy31 kf) (yy41 kf) (yy29 kf) (yy40_l2 (yy40 kf) kf kf) y0 y1 y2 y3
def yy46_l2_b (l_2 : T29 R) (v3 : LI) (v4 : Int) (Kr : Bool → Option R) (Ke0 : Option R) (v5 : Int) : Option R :=
  bif decide (v5 < (v3.length : Int)) then
  (gd (decide (0 ≤ v5))
   (gd (decide (v5 < (v3.length : Int)))
   (bif decide ((v3.getD (Int.toNat v5) 0) = v4) then
    (Kr true)
    else (l_2 v3 v4 Kr Ke0 (IntKind.i64.wrap (v5 + 1))))))
  else (Ke0)
def yy46_b (l_2 : T29 R) (v1 : LI) (v2 : Int) (K : Bool → Option R) : Option R :=
  l_2 v1 v2
  (fun v6 =>
   K v6)
  (K false) 0
def yy46_l2 (kf : Nat) : Nat → T29 R
 | 0, _, _, _, _, _ => none
 | k + 1, y0, y1, y2, y3, y4 => yy46_l2_b (yy46_l2 kf k) y0 y1 y2 y3 y4
def yy46 (kf : Nat) (v1 : LI) (v2 : Int) (K : Bool → Option R) : Option R := yy46_b (yy46_l2 kf kf) v1 v2 K
def yy48_b (c46 : T0 R) (v1 : Int) (K : LI → Option R) : Option R :=
  c46 ([92, 124, 42, 43, 63, 40, 41, 91, 93, 94, 45, 46]) v1 (fun v2 =>
   bif v2 then
   (K ([92, v1] : List Int))
   else (let j4 : Bool → Option R := fun v3 =>
   (bif v3 then
    (K ([v1] : List Int))
    else (gd (decide (0 ≤ (IntKind.u8.wrap (Int.tdiv v1 16))))
    (gd (decide ((IntKind.u8.wrap (Int.tdiv v1 16)) < ([48, 49, 50, 51, 52, 53, 54, 55, 56, 57, 97, 98, 99, 100, 101, 102].length : Int)))
     (gd (decide (0 ≤ (Int.tmod v1 16)))
     (gd (decide ((Int.tmod v1 16) < ([48, 49, 50, 51, 52, 53, 54, 55, 56, 57, 97, 98, 99, 100, 101, 102].length : Int)))
      (K ([92, 120, ([48, 49, 50, 51, 52, 53, 54, 55, 56, 57, 97, 98, 99, 100, 101, 102].getD (Int.toNat (IntKind.u8.wrap (Int.tdiv v1 16))) 0), ([48, 49, 50, 51, 52, 53, 54, 55, 56, 57, 97, 98, 99, 100, 101, 102].getD (Int.toNat (Int.tmod v1 16)) 0)] : List Int)))))))
   (bif decide (32 ≤ v1) then
    (j4 (decide (v1 ≤ 126)))
    else (j4 false))))
def yy48 (kf : Nat) (v1 : Int) (K : LI → Option R) : Option R := yy48_b (yy46 kf) v1 K
def yy47_l8_b (c20 : LI → (LI → Option R) → Option R) (c48 : Int → (LI → Option R) → Option R) (l_8 : T51 R) (l_10 : T52 R) (Ke0 : LI → Option R) (v4 : LI) (v5 : Int) (v6 : LI) : Option R :=
  bif decide (v5 < (v6.length : Int)) then
  (l_10 v4 v5 v6
   (fun v11 v12 v13 v14 =>
   bif decide ((IntKind.i64.wrap (v13 - v12)) = 0) then
   (gd (decide (0 ≤ v12))
    (gd (decide (v12 < (v14.length : Int)))
    (c48 (v14.getD (Int.toNat v12) (0 : Int)) (fun v15 =>
     gd (decide (v11.length + v15.length < SMALL))
     (l_8 Ke0 (v11 ++ v15) (IntKind.i64.wrap (v13 + 1)) v14)))))
   else (bif decide ((IntKind.i64.wrap (v13 - v12)) = 1) then
    (gd (decide (0 ≤ v12))
    (gd (decide (v12 < (v14.length : Int)))
     (c48 (v14.getD (Int.toNat v12) (0 : Int)) (fun v16 =>
      gd (decide (v11.length + v16.length < SMALL))
      (gd (decide (0 ≤ v13))
      (gd (decide (v13 < (v14.length : Int)))
       (c48 (v14.getD (Int.toNat v13) (0 : Int)) (fun v17 =>
        gd (decide ((v11 ++ v16).length + v17.length < SMALL))
        (l_8 Ke0 ((v11 ++ v16) ++ v17) (IntKind.i64.wrap (v13 + 1)) v14)))))))))
    else (gd (decide (0 ≤ v12))
    (gd (decide (v12 < (v14.length : Int)))
     (c48 (v14.getD (Int.toNat v12) (0 : Int)) (fun v18 =>
      gd (decide (v11.length + v18.length < SMALL))
      (gd (decide ((v11 ++ v18).length + [45].length < SMALL))
      (gd (decide (0 ≤ v13))
       (gd (decide (v13 < (v14.length : Int)))
       (c48 (v14.getD (Int.toNat v13) (0 : Int)) (fun v19 =>
        gd (decide (((v11 ++ v18) ++ [45]).length + v19.length < SMALL))
        (l_8 Ke0 (((v11 ++ v18) ++ [45]) ++ v19) (IntKind.i64.wrap (v13 + 1)) v14)))))))))))) v5)
  else (Ke0 v4)
def yy47_l10_b (c20 : LI → (LI → Option R) → Option R) (c48 : Int → (LI → Option R) → Option R) (l_8 : T51 R) (l_10 : T52 R) (v7 : LI) (v8 : Int) (v10 : LI) (Ke2 : LI → Int → Int → LI → Option R) (v9 : Int) : Option R :=
  bif decide ((IntKind.i64.wrap (v9 + 1)) < (v10.length : Int)) then
  (gd (decide (0 ≤ (IntKind.i64.wrap (v9 + 1))))
   (gd (decide ((IntKind.i64.wrap (v9 + 1)) < (v10.length : Int)))
   (gd (decide (0 ≤ v9))
    (gd (decide (v9 < (v10.length : Int)))
    (bif decide ((v10.getD (Int.toNat (IntKind.i64.wrap (v9 + 1))) (0 : Int)) = (IntKind.u8.wrap ((v10.getD (Int.toNat v9) (0 : Int)) + 1))) then
     (l_10 v7 v8 v10 Ke2 (IntKind.i64.wrap (v9 + 1)))
     else (Ke2 v7 v8 v9 v10))))))
  else (Ke2 v7 v8 v9 v10)
def yy47_b (c20 : LI → (LI → Option R) → Option R) (c48 : Int → (LI → Option R) → Option R) (l_8 : T51 R) (l_10 : T52 R) (v1 : LI) (K : LI → Option R) : Option R :=
  c20 v1 (fun v2 =>
   bif decide ((v2.length : Int) = 256) then
   (K ([46]))
   else (bif decide ((v2.length : Int) = 1) then
   (gd (decide (0 < (v2.length : Int)))
    (c48 (v2.getD 0 (0 : Int)) (fun v3 =>
     K v3)))
   else (l_8
    (fun v20 =>
    gd (decide (v20.length + [93].length < SMALL))
    (K (v20 ++ [93]))) ([91]) 0 v2)))
def yy47_l10 (kf : Nat) : Nat → T52 R
 | 0, _, _, _, _, _ => none
 | k + 1, y0, y1, y2, y3, y4 => yy47_l10_b (yy20 kf) (yy48 kf) (fun _ _ _ _ => none) (yy47_l10 kf k) y0 y1 y2 y3 y4
def yy47_l8 (kf : Nat) : Nat → T51 R
 | 0, _, _, _, _ => none
 | k + 1, y0, y1, y2, y3 => yy47_l8_b (yy20 kf) (yy48 kf) (yy47_l8 kf k) (yy47_l10 kf k) y0 y1 y2 y3
def yy47 (kf : Nat) (v1 : LI) (K : LI → Option R) : Option R := yy47_b (yy20 kf) (yy48 kf) (yy47_l8 kf kf) (yy47_l10 kf kf) v1 K
def yy49_l15_b (c47 : LI → (LI → Option R) → Option R) (c49 : T9 R) (l_15 : T83 R) (v11 : Int) (v13 : LZ0) (Ke1 : LI → Option R) (v9 : LI) (v10 : Int) : Option R :=
  bif decide (v10 < (v13.length : Int)) then
  (gd (decide (0 ≤ v10))
   (gd (decide (v10 < (v13.length : Int)))
   (let j20 : Bool → Option R := fun v14 =>
    (bif v14 then
    (gd (decide (v9.length + [40].length < SMALL))
     (c49 ((Rose.lab (v13.getD (Int.toNat v10) dN1)).1) ((Rose.lab (v13.getD (Int.toNat v10) dN1)).2.1) (Rose.kids (v13.getD (Int.toNat v10) dN1)) (fun v15 =>
      gd (decide ((v9 ++ [40]).length + v15.length < SMALL))
      (gd (decide (((v9 ++ [40]) ++ v15).length + [41].length < SMALL))
      (l_15 v11 v13 Ke1 (((v9 ++ [40]) ++ v15) ++ [41]) (IntKind.i64.wrap (v10 + 1)))))))
    else (bif decide (v11 = 4) then
     (c49 ((Rose.lab (v13.getD (Int.toNat v10) dN1)).1) ((Rose.lab (v13.getD (Int.toNat v10) dN1)).2.1) (Rose.kids (v13.getD (Int.toNat v10) dN1)) (fun v16 =>
      gd (decide (v9.length + v16.length < SMALL))
      (l_15 v11 v13 Ke1 (v9 ++ v16) (IntKind.i64.wrap (v10 + 1)))))
     else (let j19 : LI → Option R := fun v17 =>
     (bif (!(decide ((Rose.lab (v13.getD (Int.toNat v10) dN1)).1 = 2))) then
      (c49 ((Rose.lab (v13.getD (Int.toNat v10) dN1)).1) ((Rose.lab (v13.getD (Int.toNat v10) dN1)).2.1) (Rose.kids (v13.getD (Int.toNat v10) dN1)) (fun v18 =>
       gd (decide (v17.length + v18.length < SMALL))
       (l_15 v11 v13 Ke1 (v17 ++ v18) (IntKind.i64.wrap (v10 + 1)))))
      else (l_15 v11 v13 Ke1 v17 (IntKind.i64.wrap (v10 + 1))))
     (bif decide (0 < v10) then
      (gd (decide (v9.length + [124].length < SMALL))
      (j19 (v9 ++ [124])))
      else (j19 v9)))))
    (bif decide (v11 = 4) then
    (j20 (decide ((Rose.lab (v13.getD (Int.toNat v10) dN1)).1 = 5)))
    else (j20 false)))))
  else (Ke1 v9)
def yy49_b (c47 : LI → (LI → Option R) → Option R) (c49 : T9 R) (l_15 : T83 R) (v1 : Int) (v2 : LI) (v3 : LZ0) (K : LI → Option R) : Option R :=
  bif decide (v1 = 1) then
  (K ([91, 93]))
  else (bif decide (v1 = 2) then
   (K ([40, 41]))
   else (bif decide (v1 = 3) then
   (c47 v2 (fun v4 =>
    K v4))
   else (bif decide (v1 = 6) then
    (gd (decide (0 < (v3.length : Int)))
    (let j8 : Bool → Option R := fun v5 =>
     (bif v5 then
     (c49 ((Rose.lab (v3.getD 0 dN1)).1) ((Rose.lab (v3.getD 0 dN1)).2.1) (Rose.kids (v3.getD 0 dN1)) (fun v6 =>
      gd (decide ([40].length + v6.length < SMALL))
      (gd (decide (([40] ++ v6).length + [41, 42].length < SMALL))
       (K (([40] ++ v6) ++ [41, 42])))))
     else (c49 ((Rose.lab (v3.getD 0 dN1)).1) ((Rose.lab (v3.getD 0 dN1)).2.1) (Rose.kids (v3.getD 0 dN1)) (fun v7 =>
      gd (decide (v7.length + [42].length < SMALL))
      (K (v7 ++ [42])))))
     (bif decide ((Rose.lab (v3.getD 0 dN1)).1 = 4) then
     (j8 true)
     else (j8 (decide ((Rose.lab (v3.getD 0 dN1)).1 = 5))))))
    else (l_15 v1 v3
    (fun v21 =>
     K v21) ([]) 0))))
def yy49_l15 (c_self : T9 R) (kf : Nat) : Nat → T83 R
 | 0, _, _, _, _, _ => none
 | k + 1, y0, y1, y2, y3, y4 => yy49_l15_b (yy47 kf) c_self (yy49_l15 c_self kf k) y0 y1 y2 y3 y4
def yy49 : Nat → T9 R
 | 0, _, _, _, _ => none
 | kf + 1, y0, y1, y2, y3 => yy49_b (yy47 kf) (yy49 kf) (yy49_l15 (yy49 kf) kf kf) y0 y1 y2 y3
def yy45_b (c40 : T11 R) (c49 : T9 R) (v1 : Int) (v2 : LI) (v3 : LZ0) (K : LI → Option R) : Option R :=
  c40 v1 v2 v3 (fun v4 =>
   bif (!v4) then
   (K ([]))
   else (c49 v1 v2 v3 (fun v5 =>
    bif decide (4000 < (v5.length : Int)) then
    (K ([]))
    else (K v5))))
def yy45 (kf : Nat) (v1 : Int) (v2 : LI) (v3 : LZ0) (K : LI → Option R) : Option R := yy45_b (yy40 kf) (yy49 kf) v1 v2 v3 K
def yy53_l1_b (l_1 : T84 R) (v8 v9 : LI) (v11 : Bool) (v12 : LL) (v13 v14 : LI) (Ke0 : Bool → LL → LI → LI → LL → Option R) (v10 : Int) (v15 : LL) : Option R :=
  bif decide (v10 < (v8.length : Int)) then
  (gd (decide (0 ≤ v10))
   (gd (decide (v10 < (v8.length : Int)))
   (gd (decide (0 ≤ v10))
    (gd (decide (v10 < (v8.length : Int)))
    (gd (decide (0 ≤ (v8.getD (Int.toNat v10) (0 : Int))))
     (gd (decide ((v8.getD (Int.toNat v10) (0 : Int)) < (v15.length : Int)))
     (gd (decide (([] : LI).length + (v15.getD (Int.toNat (v8.getD (Int.toNat v10) (0 : Int))) ([] : LI)).length < SMALL))
      (gd (decide ((([] : LI) ++ (v15.getD (Int.toNat (v8.getD (Int.toNat v10) (0 : Int))) ([] : LI))).length + v9.length < SMALL))
      (gd (decide (0 ≤ (v8.getD (Int.toNat v10) (0 : Int))))
       (gd (decide ((v8.getD (Int.toNat v10) (0 : Int)) < (v15.length : Int)))
       (l_1 v8 v9 v11 v12 v13 v14 Ke0 (IntKind.i64.wrap (v10 + 1)) (v15.set (Int.toNat (v8.getD (Int.toNat v10) (0 : Int))) ((([] : LI) ++ (v15.getD (Int.toNat (v8.getD (Int.toNat v10) (0 : Int))) ([] : LI))) ++ v9)))))))))))))
  else (Ke0 v11 v12 v13 v14 v15)
def yy53_b (l_1 : T84 R) (v1 v2 : LI) (v3 : Bool) (v4 : LL) (v5 v6 : LI) (v7 : LL) (K : Bool → LL → LI → LI → LL → Option R) : Option R :=
  l_1 v1 v2 v3 v4 v5 v6
  (fun v16 v17 v18 v19 v20 =>
   K v16 v17 v18 v19 v20) 0 v7
def yy53_l1 (kf : Nat) : Nat → T84 R
 | 0, _, _, _, _, _, _, _, _, _ => none
 | k + 1, y0, y1, y2, y3, y4, y5, y6, y7, y8 => yy53_l1_b (yy53_l1 kf k) y0 y1 y2 y3 y4 y5 y6 y7 y8
def yy53 (kf : Nat) (v1 v2 : LI) (v3 : Bool) (v4 : LL) (v5 v6 : LI) (v7 : LL) (K : Bool → LL → LI → LI → LL → Option R) : Option R := yy53_b (yy53_l1 kf kf) v1 v2 v3 v4 v5 v6 v7 K
def yy55_l16_b (c55 : T12 R) (c53 : T42 R) (l_16 : T53 R) (l_24 : T54 R) (v28 : LZ0) (v29 : Bool) (v35 : LL) (v36 v37 : LI) (v38 v39 v42 : LL) (Ke1 : Bool → Bool → Bool → LL → LI → LI → LL → LL → LI → LI → LL → LL → LI → LI → LL → Option R) (v24 : Int) (v25 v30 : Bool) (v31 : LL) (v32 v33 : LI) (v34 : LL) (v40 v41 : LI) : Option R :=
  bif decide (v24 < (v28.length : Int)) then
  (gd (decide (0 ≤ v24))
   (gd (decide (v24 < (v28.length : Int)))
   (c55 ((Rose.lab (v28.getD (Int.toNat v24) dN1)).1) ((Rose.lab (v28.getD (Int.toNat v24) dN1)).2.1) (Rose.kids (v28.getD (Int.toNat v24) dN1)) v25 v31 v32 v33 v34 (fun v43 v44 v45 v46 v47 v48 v49 v50 v51 v52 =>
    gd (decide (v40.length + v44.length < SMALL))
    (gd (decide (v41.length + v45.length < SMALL))
     (bif v30 then
     (l_16 v28 v29 v35 v36 v37 v38 v39 v42 Ke1 (IntKind.i64.wrap (v24 + 1)) v48 true v49 v50 v51 v52 (v40 ++ v44) (v41 ++ v45))
     else (l_16 v28 v29 v35 v36 v37 v38 v39 v42 Ke1 (IntKind.i64.wrap (v24 + 1)) v48 v47 v49 v50 v51 v52 (v40 ++ v44) (v41 ++ v45))))))))
  else (Ke1 v25 v29 v30 v31 v32 v33 v34 v35 v36 v37 v38 v39 v40 v41 v42)
def yy55_l24_b (c55 : T12 R) (c53 : T42 R) (l_16 : T53 R) (l_24 : T54 R) (v72 : LZ0) (v73 : Bool) (v74 v77 v83 : LL) (v84 v85 : LI) (v86 : LL) (Ke3 : Bool → Bool → LL → LI → LI → LL → Bool → LL → LI → LI → LL → LL → LI → LI → LL → Option R) (v68 : Int) (v69 : Bool) (v75 v76 : LI) (v78 : Bool) (v79 : LL) (v80 v81 : LI) (v82 : LL) : Option R :=
  bif decide (v68 < (v72.length : Int)) then
  (gd (decide (0 ≤ v68))
   (gd (decide (v68 < (v72.length : Int)))
   (c55 ((Rose.lab (v72.getD (Int.toNat v68) dN1)).1) ((Rose.lab (v72.getD (Int.toNat v68) dN1)).2.1) (Rose.kids (v72.getD (Int.toNat v68) dN1)) v69 v79 v80 v81 v82 (fun v87 v88 v89 v90 v91 v92 v93 v94 v95 v96 =>
    c53 v76 v88 v92 v93 v94 v95 v96 (fun v97 v98 v99 v100 v101 =>
     let j105 : LI → Option R := fun v102 =>
     (let j104 : LI → Option R := fun v103 =>
     (bif v78 then
      (l_24 v72 v73 v74 v77 v83 v84 v85 v86 Ke3 (IntKind.i64.wrap (v68 + 1)) v97 v102 v103 v91 v98 v99 v100 v101)
      else (l_24 v72 v73 v74 v77 v83 v84 v85 v86 Ke3 (IntKind.i64.wrap (v68 + 1)) v97 v102 v103 false v98 v99 v100 v101))
     (bif v91 then
      (gd (decide (([] : LI).length + v76.length < SMALL))
      (gd (decide ((([] : LI) ++ v76).length + v89.length < SMALL))
       (j104 ((([] : LI) ++ v76) ++ v89))))
      else (j104 v89)))
     (bif v78 then
     (gd (decide (([] : LI).length + v75.length < SMALL))
      (gd (decide ((([] : LI) ++ v75).length + v88.length < SMALL))
      (j105 ((([] : LI) ++ v75) ++ v88))))
     else (j105 v75)))))))
  else (Ke3 v69 v73 v74 v75 v76 v77 v78 v79 v80 v81 v82 v83 v84 v85 v86)
def yy55_b (c55 : T12 R) (c53 : T42 R) (l_16 : T53 R) (l_24 : T54 R) (v1 : Int) (v2 : LI) (v3 : LZ0) (v4 : Bool) (v5 : LL) (v6 v7 : LI) (v8 : LL) (K : LL → LI → LI → LL → Bool → Bool → LL → LI → LI → LL → Option R) : Option R :=
  bif decide (v1 = 2) then
  (K ([] : List LI) ([] : LI) ([] : LI) ([] : List LI) true v4 v5 v6 v7 v8)
  else (bif decide (v1 = 3) then
   (gd (decide (v5.length + ([v2] : List LI).length < SMALL))
   (gd (decide (v8.length + ([([] : LI)] : List LI).length < SMALL))
    (K ([] : List LI) ([(v5.length : Int)] : List Int) ([(v5.length : Int)] : List Int) ([] : List LI) false v4 (v5 ++ ([v2] : List LI)) v6 v7 (v8 ++ ([([] : LI)] : List LI)))))
   else (bif decide (v1 = 6) then
   (gd (decide (0 < (v3.length : Int)))
    (c55 ((Rose.lab (v3.getD 0 dN1)).1) ((Rose.lab (v3.getD 0 dN1)).2.1) (Rose.kids (v3.getD 0 dN1)) v4 v5 v6 v7 v8 (fun v9 v10 v11 v12 v13 v14 v15 v16 v17 v18 =>
     c53 v11 v10 v14 v15 v16 v17 v18 (fun v19 v20 v21 v22 v23 =>
     K v9 v10 v11 v12 true v19 v20 v21 v22 v23))))
   else (bif decide (v1 = 5) then
    (l_16 v3 false ([] : List LI) ([] : LI) ([] : LI) ([] : List LI) ([] : List LI) ([] : List LI)
    (fun v53 v54 v55 v56 v57 v58 v59 v60 v61 v62 v63 v64 v65 v66 v67 =>
     K v64 v65 v66 v67 v55 v53 v56 v57 v58 v59) 0 v4 false v5 v6 v7 v8 ([] : LI) ([] : LI))
    else (bif decide (v1 = 4) then
    (l_24 v3 false ([] : List LI) ([] : List LI) ([] : List LI) ([] : LI) ([] : LI) ([] : List LI)
     (fun v106 v107 v108 v109 v110 v111 v112 v113 v114 v115 v116 v117 v118 v119 v120 =>
     K v108 v109 v110 v111 v112 v106 v113 v114 v115 v116) 0 v4 ([] : LI) ([] : LI) true v5 v6 v7 v8)
    else (K ([] : List LI) ([] : LI) ([] : LI) ([] : List LI) false v4 v5 v6 v7 v8)))))
def yy55_l16 (c_self : T12 R) (kf : Nat) : Nat → T53 R
 | 0, _, _, _, _, _, _, _, _, _, _, _, _, _, _, _, _, _, _ => none
 | k + 1, y0, y1, y2, y3, y4, y5, y6, y7, y8, y9, y10, y11, y12, y13, y14, y15, y16, y17 => yy55_l16_b c_self (yy53 kf) (yy55_l16 c_self kf k) (fun _ _ _ _ _ _ _ _ _ _ _ _ _ _ _ _ _ _ => none) y0 y1 y2 y3 y4 y5 y6 y7 y8 y9 y10 y11 y12 y13 y14 y15 y16 y17
def yy55_l24 (c_self : T12 R) (kf : Nat) : Nat → T54 R
 | 0, _, _, _, _, _, _, _, _, _, _, _, _, _, _, _, _, _, _ => none
 | k + 1, y0, y1, y2, y3, y4, y5, y6, y7, y8, y9, y10, y11, y12, y13, y14, y15, y16, y17 => yy55_l24_b c_self (yy53 kf) (yy55_l16 c_self kf k) (yy55_l24 c_self kf k) y0 y1 y2 y3 y4 y5 y6 y7 y8 y9 y10 y11 y12 y13 y14 y15 y16 y17
def yy55 : Nat → T12 R
 | 0, _, _, _, _, _, _, _, _, _ => none
 | kf + 1, y0, y1, y2, y3, y4, y5, y6, y7, y8 => yy55_b (yy55 kf) (yy53 kf) (yy55_l16 (yy55 kf) kf kf) (yy55_l24 (yy55 kf) kf kf) y0 y1 y2 y3 y4 y5 y6 y7 y8
def yy52_b (c55 : T12 R) (v1 : Int) (v2 : LI) (v3 : LZ0) (K : LI → LI → Bool → LL → LL → Option R) : Option R :=
  c55 v1 v2 v3 false ([] : List LI) ([] : LI) ([] : LI) ([] : List LI) (fun v4 v5 v6 v7 v8 v9 v10 v11 v12 v13 =>
   K v5 v6 v8 v10 v13)
def yy52 (kf : Nat) (v1 : Int) (v2 : LI) (v3 : LZ0) (K : LI → LI → Bool → LL → LL → Option R) : Option R := yy52_b (yy55 kf) v1 v2 v3 K
def yy27_l2_b (c19 : T0 R) (l_2 : T85 R) (v4 : LL) (v5 v6 : Int) (Kr : Bool → Option R) (Ke0 : Option R) (v7 : Int) : Option R :=
  bif decide (v7 < (v4.length : Int)) then
  (gd (decide (0 ≤ v7))
   (gd (decide (v7 < (v4.length : Int)))
   (c19 (v4.getD (Int.toNat v7) (List.replicate 4 (0 : Int))) v5 (fun v8 =>
    gd (decide (0 ≤ v7))
    (gd (decide (v7 < (v4.length : Int)))
     (c19 (v4.getD (Int.toNat v7) (List.replicate 4 (0 : Int))) v6 (fun v9 =>
      bif (!(decide (v8 = v9))) then
      (Kr false)
      else (l_2 v4 v5 v6 Kr Ke0 (IntKind.i64.wrap (v7 + 1))))))))))
  else (Ke0)
def yy27_b (c19 : T0 R) (l_2 : T85 R) (v1 : LL) (v2 v3 : Int) (K : Bool → Option R) : Option R :=
  l_2 v1 v2 v3
  (fun v10 =>
   K v10)
  (K true) 0
def yy27_l2 (kf : Nat) : Nat → T85 R
 | 0, _, _, _, _, _, _ => none
 | k + 1, y0, y1, y2, y3, y4, y5 => yy27_l2_b yy19 (yy27_l2 kf k) y0 y1 y2 y3 y4 y5
def yy27 (kf : Nat) (v1 : LL) (v2 v3 : Int) (K : Bool → Option R) : Option R := yy27_b yy19 (yy27_l2 kf kf) v1 v2 v3 K
def yy18_l4_b (c27 : T43 R) (l_4 : T55 R) (l_7 : T56 R) (Ke0 : LI → LI → LI → Option R) (v2 : LL) (v3 : Int) (v4 v5 v6 : LI) : Option R :=
  bif decide (v3 < 256) then
  (l_7 v2 v3 v4 v5 v6
   (fun v14 v15 v16 v17 v18 v19 =>
   let j21 : LI → Option R := fun v20 =>
   (gd (decide (0 ≤ v15))
    (gd (decide (v15 < 256))
    (l_4 Ke0 v14 (IntKind.i64.wrap (v15 + 1)) v17 (v18.set (Int.toNat v15) (IntKind.u8.wrap v16)) v20)))
   (bif decide (v16 = (v19.length : Int)) then
    (gd (decide (v19.length + ([v15] : List Int).length < SMALL))
    (j21 (v19 ++ ([v15] : List Int))))
    else (j21 v19))) 0)
  else (Ke0 v4 v5 v6)
def yy18_l7_b (c27 : T43 R) (l_4 : T55 R) (l_7 : T56 R) (v7 : LL) (v8 : Int) (v10 v11 v12 : LI) (Ke2 : LL → Int → Int → LI → LI → LI → Option R) (v9 : Int) : Option R :=
  bif decide (v9 < (v12.length : Int)) then
  (gd (decide (0 ≤ v9))
   (gd (decide (v9 < (v12.length : Int)))
   (c27 v7 (IntKind.u8.wrap v8) (IntKind.u8.wrap (v12.getD (Int.toNat v9) (0 : Int))) (fun v13 =>
    bif (!v13) then
    (l_7 v7 v8 v10 v11 v12 Ke2 (IntKind.i64.wrap (v9 + 1)))
    else (Ke2 v7 v8 v9 v10 v11 v12)))))
  else (Ke2 v7 v8 v9 v10 v11 v12)
def yy18_b (c27 : T43 R) (l_4 : T55 R) (l_7 : T56 R) (v1 : LL) (K : LI → Int → Option R) : Option R :=
  l_4
  (fun v22 v23 v24 =>
   K v23 (v24.length : Int)) v1 0 (List.replicate 256 (0 : Int)) (List.replicate 256 (0 : Int)) ([] : LI)
def yy18_l7 (kf : Nat) : Nat → T56 R
 | 0, _, _, _, _, _, _, _ => none
 | k + 1, y0, y1, y2, y3, y4, y5, y6 => yy18_l7_b (yy27 kf) (fun _ _ _ _ _ _ => none) (yy18_l7 kf k) y0 y1 y2 y3 y4 y5 y6
def yy18_l4 (kf : Nat) : Nat → T55 R
 | 0, _, _, _, _, _, _ => none
 | k + 1, y0, y1, y2, y3, y4, y5 => yy18_l4_b (yy27 kf) (yy18_l4 kf k) (yy18_l7 kf k) y0 y1 y2 y3 y4 y5
def yy18 (kf : Nat) (v1 : LL) (K : LI → Int → Option R) : Option R := yy18_b (yy27 kf) (yy18_l4 kf kf) (yy18_l7 kf kf) v1 K
def yy50_l3_b (l_3 : T27 R) (v4 : LI) (Ke0 : LI → Option R) (v3 : Int) (v5 : LI) : Option R :=
  bif decide (0 ≤ v3) then
  (gd (decide (0 ≤ v3))
   (gd (decide (v3 < 256))
   (gd (decide (0 ≤ (v4.getD (Int.toNat v3) (0 : Int))))
    (gd (decide ((v4.getD (Int.toNat v3) (0 : Int)) < (v5.length : Int)))
    (l_3 v4 Ke0 (IntKind.i64.wrap (v3 - 1)) (v5.set (Int.toNat (v4.getD (Int.toNat v3) (0 : Int))) (IntKind.u8.wrap v3)))))))
  else (Ke0 v5)
def yy50_b (l_3 : T27 R) (v1 : LI) (v2 : Int) (K : LI → Option R) : Option R :=
  gd (decide (0 ≤ v2))
  (gd (decide (v2 ≤ v2))
   (gd (decide (v2 < (SMALL : Int)))
   (l_3 v1
    (fun v6 =>
    K v6) 255 (List.replicate (Int.toNat v2) (0 : Int)))))
def yy50_l3 (kf : Nat) : Nat → T27 R
 | 0, _, _, _, _ => none
 | k + 1, y0, y1, y2, y3 => yy50_l3_b (yy50_l3 kf k) y0 y1 y2 y3
def yy50 (kf : Nat) (v1 : LI) (v2 : Int) (K : LI → Option R) : Option R := yy50_b (yy50_l3 kf kf) v1 v2 K
def yy59_l2_b (l_2 : T29 R) (v3 : LI) (v4 : Int) (Kr : Bool → Option R) (Ke0 : Option R) (v5 : Int) : Option R :=
  bif decide (v5 < (v3.length : Int)) then
  (gd (decide (0 ≤ v5))
   (gd (decide (v5 < (v3.length : Int)))
   (bif decide ((v3.getD (Int.toNat v5) (0 : Int)) = v4) then
    (Kr true)
    else (l_2 v3 v4 Kr Ke0 (IntKind.i64.wrap (v5 + 1))))))
  else (Ke0)
def yy59_b (l_2 : T29 R) (v1 : LI) (v2 : Int) (K : Bool → Option R) : Option R :=
  l_2 v1 v2
  (fun v6 =>
   K v6)
  (K false) 0
def yy59_l2 (kf : Nat) : Nat → T29 R
 | 0, _, _, _, _, _ => none
 | k + 1, y0, y1, y2, y3, y4 => yy59_l2_b (yy59_l2 kf k) y0 y1 y2 y3 y4
def yy59 (kf : Nat) (v1 : LI) (v2 : Int) (K : Bool → Option R) : Option R := yy59_b (yy59_l2 kf kf) v1 v2 K
def yy54_l2_b (c19 : T0 R) (l_2 : T86 R) (v9 : LI) (v10 : Int) (v13 : LL) (Ke0 : LB → Option R) (v11 : Int) (v12 : LB) : Option R :=
  bif decide (v11 < (v9.length : Int)) then
  (gd (decide (0 ≤ v11))
   (gd (decide (v11 < (v9.length : Int)))
   (gd (decide (0 ≤ v11))
    (gd (decide (v11 < (v9.length : Int)))
    (gd (decide (0 ≤ (v9.getD (Int.toNat v11) (0 : Int))))
     (gd (decide ((v9.getD (Int.toNat v11) (0 : Int)) < (v12.length : Int)))
     (bif (v12.getD (Int.toNat (v9.getD (Int.toNat v11) (0 : Int))) false) then
      (gd (decide (0 ≤ (v9.getD (Int.toNat v11) (0 : Int))))
      (gd (decide ((v9.getD (Int.toNat v11) (0 : Int)) < (v12.length : Int)))
       (l_2 v9 v10 v13 Ke0 (IntKind.i64.wrap (v11 + 1)) (v12.set (Int.toNat (v9.getD (Int.toNat v11) (0 : Int))) true))))
      else (gd (decide (0 ≤ v11))
      (gd (decide (v11 < (v9.length : Int)))
       (gd (decide (0 ≤ (v9.getD (Int.toNat v11) (0 : Int))))
       (gd (decide ((v9.getD (Int.toNat v11) (0 : Int)) < (v13.length : Int)))
        (c19 (v13.getD (Int.toNat (v9.getD (Int.toNat v11) (0 : Int))) (List.replicate 4 (0 : Int))) v10 (fun v18 =>
         gd (decide (0 ≤ (v9.getD (Int.toNat v11) (0 : Int))))
         (gd (decide ((v9.getD (Int.toNat v11) (0 : Int)) < (v12.length : Int)))
         (l_2 v9 v10 v13 Ke0 (IntKind.i64.wrap (v11 + 1)) (v12.set (Int.toNat (v9.getD (Int.toNat v11) (0 : Int))) v18))))))))))))))))
  else (Ke0 v12)
def yy54_b (c19 : T0 R) (l_2 : T86 R) (v1 : LL) (v2 v3 : LI) (v4 : LL) (v5 : Bool) (v6 : LI) (v7 : Int) (v8 : LB) (K : LB → Option R) : Option R :=
  l_2 v6 v7 v1
  (fun v19 =>
   K v19) 0 v8
def yy54_l2 (kf : Nat) : Nat → T86 R
 | 0, _, _, _, _, _, _ => none
 | k + 1, y0, y1, y2, y3, y4, y5 => yy54_l2_b yy19 (yy54_l2 kf k) y0 y1 y2 y3 y4 y5
def yy54 (kf : Nat) (v1 : LL) (v2 v3 : LI) (v4 : LL) (v5 : Bool) (v6 : LI) (v7 : Int) (v8 : LB) (K : LB → Option R) : Option R := yy54_b yy19 (yy54_l2 kf kf) v1 v2 v3 v4 v5 v6 v7 v8 K
def yy60_l3_b (l_3 : T87 R) (v2 : LB) (Ke0 : LI → Option R) (v3 : Int) (v4 : LI) : Option R :=
  bif decide (v3 < (v2.length : Int)) then
  (gd (decide (0 ≤ v3))
   (gd (decide (v3 < (v2.length : Int)))
   (bif (v2.getD (Int.toNat v3) false) then
    (gd (decide (v4.length + ([v3] : List Int).length < SMALL))
    (l_3 v2 Ke0 (IntKind.i64.wrap (v3 + 1)) (v4 ++ ([v3] : List Int))))
    else (l_3 v2 Ke0 (IntKind.i64.wrap (v3 + 1)) v4))))
  else (Ke0 v4)
def yy60_b (l_3 : T87 R) (v1 : LB) (K : LI → Option R) : Option R :=
  l_3 v1
  (fun v5 =>
   K v5) 0 ([] : LI)
def yy60_l3 (kf : Nat) : Nat → T87 R
 | 0, _, _, _, _ => none
 | k + 1, y0, y1, y2, y3 => yy60_l3_b (yy60_l3 kf k) y0 y1 y2 y3
def yy60 (kf : Nat) (v1 : LB) (K : LI → Option R) : Option R := yy60_b (yy60_l3 kf kf) v1 K
def yy56_l5_b (c54 : T57 R) (c60 : LB → (LI → Option R) → Option R) (l_5 : T88 R) (v10 : LI) (v11 : Bool) (v12 : Int) (v14 : LL) (v15 v16 : LI) (v17 : LL) (v18 : Bool) (Ke0 : LB → Option R) (v13 : Int) (v19 : LB) : Option R :=
  bif decide (v13 < (v10.length : Int)) then
  (bif (!v11) then
   (gd (decide (0 ≤ v13))
   (gd (decide (v13 < (v10.length : Int)))
    (gd (decide (0 ≤ (v10.getD (Int.toNat v13) (0 : Int))))
    (gd (decide ((v10.getD (Int.toNat v13) (0 : Int)) < (v17.length : Int)))
     (c54 v14 v15 v16 v17 v18 (v17.getD (Int.toNat (v10.getD (Int.toNat v13) (0 : Int))) ([] : LI)) v12 v19 (fun v20 =>
      l_5 v10 v11 v12 v14 v15 v16 v17 v18 Ke0 (IntKind.i64.wrap (v13 + 1)) v20))))))
   else (Ke0 v19))
  else (Ke0 v19)
def yy56_b (c54 : T57 R) (c60 : LB → (LI → Option R) → Option R) (l_5 : T88 R) (v1 : LL) (v2 v3 : LI) (v4 : LL) (v5 : Bool) (v6 : LI) (v7 : Bool) (v8 : Int) (K : LI → Option R) : Option R :=
  gd (decide (0 ≤ (v1.length : Int)))
  (gd (decide ((v1.length : Int) ≤ (v1.length : Int)))
   (gd (decide ((v1.length : Int) < (SMALL : Int)))
   (let j23 : LB → Option R := fun v9 =>
    (l_5 v6 v7 v8 v1 v2 v3 v4 v5
    (fun v21 =>
     c60 v21 (fun v22 =>
     K v22)) 0 v9)
    (bif v7 then
    (c54 v1 v2 v3 v4 v5 v2 v8 (List.replicate (Int.toNat (v1.length : Int)) false) (fun v24 =>
     j23 v24))
    else (j23 (List.replicate (Int.toNat (v1.length : Int)) false))))))
def yy56_l5 (kf : Nat) : Nat → T88 R
 | 0, _, _, _, _, _, _, _, _, _, _, _ => none
 | k + 1, y0, y1, y2, y3, y4, y5, y6, y7, y8, y9, y10 => yy56_l5_b (yy54 kf) (yy60 kf) (yy56_l5 kf k) y0 y1 y2 y3 y4 y5 y6 y7 y8 y9 y10
def yy56 (kf : Nat) (v1 : LL) (v2 v3 : LI) (v4 : LL) (v5 : Bool) (v6 : LI) (v7 : Bool) (v8 : Int) (K : LI → Option R) : Option R := yy56_b (yy54 kf) (yy60 kf) (yy56_l5 kf kf) v1 v2 v3 v4 v5 v6 v7 v8 K
def yy61_l4_b (l_4 : T28 R) (v3 v4 : LI) (Kr : Bool → Option R) (Ke0 : Option R) (v5 : Int) : Option R :=
  bif decide (v5 < (v3.length : Int)) then
  (gd (decide (0 ≤ v5))
   (gd (decide (v5 < (v3.length : Int)))
   (gd (decide (0 ≤ v5))
    (gd (decide (v5 < (v4.length : Int)))
    (bif (!(decide ((v3.getD (Int.toNat v5) (0 : Int)) = (v4.getD (Int.toNat v5) (0 : Int))))) then
     (Kr false)
     else (l_4 v3 v4 Kr Ke0 (IntKind.i64.wrap (v5 + 1))))))))
  else (Ke0)
def yy61_b (l_4 : T28 R) (v1 v2 : LI) (K : Bool → Option R) : Option R :=
  bif (!(decide ((v1.length : Int) = (v2.length : Int)))) then
  (K false)
  else (l_4 v1 v2
   (fun v6 =>
   K v6)
   (K true) 0)
def yy61_l4 (kf : Nat) : Nat → T28 R
 | 0, _, _, _, _, _ => none
 | k + 1, y0, y1, y2, y3, y4 => yy61_l4_b (yy61_l4 kf k) y0 y1 y2 y3 y4
def yy61 (kf : Nat) (v1 v2 : LI) (K : Bool → Option R) : Option R := yy61_b (yy61_l4 kf kf) v1 v2 K
def yy58_l2_b (c61 : T14 R) (l_2 : T89 R) (v3 : LL) (v4 : LI) (Kr : Int → Option R) (Ke0 : Option R) (v5 : Int) : Option R :=
  bif decide (v5 < (v3.length : Int)) then
  (gd (decide (0 ≤ v5))
   (gd (decide (v5 < (v3.length : Int)))
   (c61 (v3.getD (Int.toNat v5) ([] : LI)) v4 (fun v6 =>
    bif v6 then
    (Kr v5)
    else (l_2 v3 v4 Kr Ke0 (IntKind.i64.wrap (v5 + 1)))))))
  else (Ke0)
def yy58_b (c61 : T14 R) (l_2 : T89 R) (v1 : LL) (v2 : LI) (K : Int → Option R) : Option R :=
  l_2 v1 v2
  (fun v7 =>
   K v7)
  (K (-1)) 0
def yy58_l2 (kf : Nat) : Nat → T89 R
 | 0, _, _, _, _, _ => none
 | k + 1, y0, y1, y2, y3, y4 => yy58_l2_b (yy61 kf) (yy58_l2 kf k) y0 y1 y2 y3 y4
def yy58 (kf : Nat) (v1 : LL) (v2 : LI) (K : Int → Option R) : Option R := yy58_b (yy61 kf) (yy58_l2 kf kf) v1 v2 K
def yy57_l7_b (c52 : T33 R) (c18 : T34 R) (c50 : T35 R) (c59 : T0 R) (c56 : T36 R) (c58 : T37 R) (l_7 : T44 R) (l_12 : T45 R) (l_16 : T46 R) (Ke0 : Int → LI → LI → LL → LL → LB → LL → LB → Option R) (v13 v14 v15 : Int) (v16 v17 v18 : LI) (v19 : Bool) (v20 v21 : LI) (v22 v23 : LL) (v24 : LB) (v25 v26 v27 : LL) (v28 : LB) : Option R :=
  bif decide (v15 < (v22.length : Int)) then
  (bif decide ((v22.length : Int) ≤ v13) then
   (let j110 : Bool → Option R := fun v29 =>
   (l_12 v13 v14 v15 v16 v17 v18 v19 v20 v21 v22 ([] : LI) v23 v24 v25 v26 v27 v28
    (fun v50 v51 v52 v53 v54 v55 v56 v57 v58 v59 v60 v61 v62 v63 v64 v65 v66 v67 =>
    l_16 v50 v51 v52 v53 v54 v55 v56 v57 v58 v59 v62 v63 v64 v65 v66 v67
    (fun v92 v93 v94 v95 v96 v97 v98 v99 v100 v101 v102 v103 v104 v105 v106 v107 v108 v109 =>
     gd (decide (v108.length + ([v103] : List LI).length < SMALL))
     (gd (decide (v109.length + ([v95] : List Bool).length < SMALL))
     (l_7 Ke0 v92 v93 (IntKind.i64.wrap (v94 + 1)) v96 v97 v98 v99 v100 v101 v102 v104 v105 v106 v107 (v108 ++ ([v103] : List LI)) (v109 ++ ([v95] : List Bool))))) 0 v60 v61) v29 0)
   (bif decide (v15 = 0) then
    (j110 v19)
    else (j110 false)))
   else (Ke0 v13 v16 v21 v22 v23 v24 v27 v28))
  else (Ke0 v13 v16 v21 v22 v23 v24 v27 v28)
def yy57_l12_b (c52 : T33 R) (c18 : T34 R) (c50 : T35 R) (c59 : T0 R) (c56 : T36 R) (c58 : T37 R) (l_7 : T44 R) (l_12 : T45 R) (l_16 : T46 R) (v30 v31 v32 : Int) (v35 v36 v37 : LI) (v38 : Bool) (v39 v40 : LI) (v41 : LL) (v42 : LI) (v43 : LL) (v44 : LB) (v45 v46 v47 : LL) (v48 : LB) (Ke2 : Int → Int → Int → Bool → LI → LI → LI → Bool → LI → LI → LL → LI → LL → LB → LL → LL → LL → LB → Option R) (v33 : Bool) (v34 : Int) : Option R :=
  gd (decide (0 ≤ v32))
  (gd (decide (v32 < (v41.length : Int)))
   (bif decide (v34 < ((v41.getD (Int.toNat v32) ([] : LI)).length : Int)) then
   (bif v33 then
    (l_12 v30 v31 v32 v35 v36 v37 v38 v39 v40 v41 v42 v43 v44 v45 v46 v47 v48 Ke2 true (IntKind.i64.wrap (v34 + 1)))
    else (gd (decide (0 ≤ v32))
    (gd (decide (v32 < (v41.length : Int)))
     (gd (decide (0 ≤ v34))
     (gd (decide (v34 < ((v41.getD (Int.toNat v32) ([] : LI)).length : Int)))
      (c59 v37 ((v41.getD (Int.toNat v32) ([] : LI)).getD (Int.toNat v34) (0 : Int)) (fun v49 =>
       l_12 v30 v31 v32 v35 v36 v37 v38 v39 v40 v41 v42 v43 v44 v45 v46 v47 v48 Ke2 v49 (IntKind.i64.wrap (v34 + 1)))))))))
   else (Ke2 v30 v31 v32 v33 v35 v36 v37 v38 v39 v40 v41 v42 v43 v44 v45 v46 v47 v48)))
def yy57_l16_b (c52 : T33 R) (c18 : T34 R) (c50 : T35 R) (c59 : T0 R) (c56 : T36 R) (c58 : T37 R) (l_7 : T44 R) (l_12 : T45 R) (l_16 : T46 R) (v68 v69 v70 : Int) (v71 : Bool) (v73 v74 v75 : LI) (v76 : Bool) (v77 v78 : LI) (v81 : LL) (v82 : LB) (v83 v84 v85 : LL) (v86 : LB) (Ke4 : Int → Int → Int → Bool → LI → LI → LI → Bool → LI → LI → LL → LI → LL → LB → LL → LL → LL → LB → Option R) (v72 : Int) (v79 : LL) (v80 : LI) : Option R :=
  bif decide (v72 < v69) then
  (bif decide ((v79.length : Int) ≤ v68) then
   (gd (decide (0 ≤ v70))
   (gd (decide (v70 < (v79.length : Int)))
    (gd (decide (0 ≤ v72))
    (gd (decide (v72 < (v77.length : Int)))
     (c56 v83 v74 v75 v84 v76 (v79.getD (Int.toNat v70) ([] : LI)) (decide (v70 = 0)) (v77.getD (Int.toNat v72) (0 : Int)) (fun v87 =>
      c58 v79 v87 (fun v88 =>
      let j91 : Int → LL → Option R := fun v89 v90 =>
      (gd (decide (v80.length + ([v89] : List Int).length < SMALL))
       (l_16 v68 v69 v70 v71 v73 v74 v75 v76 v77 v78 v81 v82 v83 v84 v85 v86 Ke4 (IntKind.i64.wrap (v72 + 1)) v90 (v80 ++ ([v89] : List Int))))
      (bif decide (v88 < 0) then
       (gd (decide (v79.length + ([v87] : List LI).length < SMALL))
       (j91 (v79.length : Int) (v79 ++ ([v87] : List LI))))
       else (j91 v88 v79)))))))))
   else (Ke4 v68 v69 v70 v71 v73 v74 v75 v76 v77 v78 v79 v80 v81 v82 v83 v84 v85 v86))
  else (Ke4 v68 v69 v70 v71 v73 v74 v75 v76 v77 v78 v79 v80 v81 v82 v83 v84 v85 v86)
def yy57_b (c52 : T33 R) (c18 : T34 R) (c50 : T35 R) (c59 : T0 R) (c56 : T36 R) (c58 : T37 R) (l_7 : T44 R) (l_12 : T45 R) (l_16 : T46 R) (v1 : Int) (v2 : LI) (v3 : LZ0) (v4 : Int) (K : LI → Int → LL → LB → Option R) : Option R :=
  c52 v1 v2 v3 (fun v5 v6 v7 v8 v9 =>
   c18 v8 (fun v10 v11 =>
   c50 v10 v11 (fun v12 =>
    l_7
    (fun v111 v112 v113 v114 v115 v116 v117 v118 =>
    bif decide (v111 < (v114.length : Int)) then
    (K (List.replicate 256 (0 : Int)) 7 ([] : List LI) ([] : List Bool))
    else (K v113 0 v117 v118)) v4 v11 0 (List.replicate 256 (0 : Int)) v5 v6 v7 v12 v10 ([([(-1)] : List Int)] : List LI) ([] : List LI) ([] : List Bool) v8 v9 ([] : List LI) ([] : List Bool))))
def yy57_l12 (kf : Nat) : Nat → T45 R
 | 0, _, _, _, _, _, _, _, _, _, _, _, _, _, _, _, _, _, _, _, _ => none
 | k + 1, y0, y1, y2, y3, y4, y5, y6, y7, y8, y9, y10, y11, y12, y13, y14, y15, y16, y17, y18, y19 => yy57_l12_b (yy52 kf) (yy18 kf) (yy50 kf) (yy59 kf) (yy56 kf) (yy58 kf) (fun _ _ _ _ _ _ _ _ _ _ _ _ _ _ _ _ _ => none) (yy57_l12 kf k) (fun _ _ _ _ _ _ _ _ _ _ _ _ _ _ _ _ _ _ _ _ => none) y0 y1 y2 y3 y4 y5 y6 y7 y8 y9 y10 y11 y12 y13 y14 y15 y16 y17 y18 y19
def yy57_l16 (kf : Nat) : Nat → T46 R
 | 0, _, _, _, _, _, _, _, _, _, _, _, _, _, _, _, _, _, _, _, _ => none
 | k + 1, y0, y1, y2, y3, y4, y5, y6, y7, y8, y9, y10, y11, y12, y13, y14, y15, y16, y17, y18, y19 => yy57_l16_b (yy52 kf) (yy18 kf) (yy50 kf) (yy59 kf) (yy56 kf) (yy58 kf) (fun _ _ _ _ _ _ _ _ _ _ _ _ _ _ _ _ _ => none) (yy57_l12 kf k) (yy57_l16 kf k) y0 y1 y2 y3 y4 y5 y6 y7 y8 y9 y10 y11 y12 y13 y14 y15 y16 y17 y18 y19
def yy57_l7 (kf : Nat) : Nat → T44 R
 | 0, _, _, _, _, _, _, _, _, _, _, _, _, _, _, _, _, _ => none
 | k + 1, y0, y1, y2, y3, y4, y5, y6, y7, y8, y9, y10, y11, y12, y13, y14, y15, y16 => yy57_l7_b (yy52 kf) (yy18 kf) (yy50 kf) (yy59 kf) (yy56 kf) (yy58 kf) (yy57_l7 kf k) (yy57_l12 kf k) (yy57_l16 kf k) y0 y1 y2 y3 y4 y5 y6 y7 y8 y9 y10 y11 y12 y13 y14 y15 y16
def yy57 (kf : Nat) (v1 : Int) (v2 : LI) (v3 : LZ0) (v4 : Int) (K : LI → Int → LL → LB → Option R) : Option R := yy57_b (yy52 kf) (yy18 kf) (yy50 kf) (yy59 kf) (yy56 kf) (yy58 kf) (yy57_l7 kf kf) (yy57_l12 kf kf) (yy57_l16 kf kf) v1 v2 v3 v4 K
def yy38_l3_b (c38 : T3 R) (l_3 : T30 R) (v8 : LZ0) (Ke0 : Int → Option R) (v4 v5 : Int) : Option R :=
  bif decide (v5 < (v8.length : Int)) then
  (gd (decide (0 ≤ v5))
   (gd (decide (v5 < (v8.length : Int)))
   (c38 ((Rose.lab (v8.getD (Int.toNat v5) dN1)).1) ((Rose.lab (v8.getD (Int.toNat v5) dN1)).2.1) (Rose.kids (v8.getD (Int.toNat v5) dN1)) (fun v9 =>
    l_3 v8 Ke0 (IntKind.i64.wrap (v4 + v9)) (IntKind.i64.wrap (v5 + 1))))))
  else (Ke0 v4)
def yy38_b (c38 : T3 R) (l_3 : T30 R) (v1 : Int) (v2 : LI) (v3 : LZ0) (K : Int → Option R) : Option R :=
  l_3 v3
  (fun v10 =>
   K v10) 1 0
def yy38_l3 (c_self : T3 R) (kf : Nat) : Nat → T30 R
 | 0, _, _, _, _ => none
 | k + 1, y0, y1, y2, y3 => yy38_l3_b c_self (yy38_l3 c_self kf k) y0 y1 y2 y3
def yy38 : Nat → T3 R
 | 0, _, _, _, _ => none
 | kf + 1, y0, y1, y2, y3 => yy38_b (yy38 kf) (yy38_l3 (yy38 kf) kf kf) y0 y1 y2 y3
def yy34_l3_b (c34 : T3 R) (l_3 : T30 R) (v8 : LZ0) (Ke0 : Int → Option R) (v4 v5 : Int) : Option R :=
  bif decide (v5 < (v8.length : Int)) then
  (gd (decide (0 ≤ v5))
   (gd (decide (v5 < (v8.length : Int)))
   (c34 ((Rose.lab (v8.getD (Int.toNat v5) dN1)).1) ((Rose.lab (v8.getD (Int.toNat v5) dN1)).2.1) (Rose.kids (v8.getD (Int.toNat v5) dN1)) (fun v9 =>
    l_3 v8 Ke0 (mx v4 v9) (IntKind.i64.wrap (v5 + 1))))))
  else (Ke0 v4)
def yy34_b (c34 : T3 R) (l_3 : T30 R) (v1 : Int) (v2 : LI) (v3 : LZ0) (K : Int → Option R) : Option R :=
  l_3 v3
  (fun v10 =>
   K (IntKind.i64.wrap (v10 + 1))) 0 0
def yy34_l3 (c_self : T3 R) (kf : Nat) : Nat → T30 R
 | 0, _, _, _, _ => none
 | k + 1, y0, y1, y2, y3 => yy34_l3_b c_self (yy34_l3 c_self kf k) y0 y1 y2 y3
def yy34 : Nat → T3 R
 | 0, _, _, _, _ => none
 | kf + 1, y0, y1, y2, y3 => yy34_b (yy34 kf) (yy34_l3 (yy34 kf) kf kf) y0 y1 y2 y3
def yy37_b (c38 : T3 R) (c34 : T3 R) (c40 : T11 R) (v1 : Int) (v2 : LI) (v3 : LZ0) (K : Int → Option R) : Option R :=
  c38 v1 v2 v3 (fun v4 =>
   bif decide (400 < v4) then
   (K 4)
   else (c34 v1 v2 v3 (fun v5 =>
    bif decide (30 < v5) then
    (K 5)
    else (c40 v1 v2 v3 (fun v6 =>
     bif (!v6) then
     (K 3)
     else (K 0))))))
def yy37 (kf : Nat) (v1 : Int) (v2 : LI) (v3 : LZ0) (K : Int → Option R) : Option R := yy37_b (yy38 kf) (yy34 kf) (yy40 kf) v1 v2 v3 K
def yy51_b (c57 : T90 R) (c37 : T3 R) (v1 : Int) (v2 : LI) (v3 : LZ0) (v4 : Int) (K : Bool → Option R) : Option R :=
  c57 v1 v2 v3 v4 (fun v5 v6 v7 v8 =>
   c37 v1 v2 v3 (fun v9 =>
   bif decide (v9 = 0) then
   (K (decide (v6 = 0)))
   else (K false)))
def yy51 (kf : Nat) (v1 : Int) (v2 : LI) (v3 : LZ0) (v4 : Int) (K : Bool → Option R) : Option R := yy51_b (yy57 kf) (yy37 kf) v1 v2 v3 v4 K
def yy12_b (c10 : T91 R) (c45 : T9 R) (c51 : T92 R) (v1 : LI) (v2 : Int) (K : LI → LI → Int → Option R) : Option R :=
  c10 v1 v2 (fun v3 v4 v5 v6 v7 =>
   c45 v3 v4 v5 (fun v8 =>
   let j10 : Bool → Option R := fun v9 =>
   (bif v9 then
    (K ([97]) v6 v7)
    else (K v8 v6 v7))
   (bif decide (200 < (v8.length : Int)) then
    (j10 true)
    else (c51 v3 v4 v5 40 (fun v11 =>
     j10 (!v11))))))
def yy12 (kf : Nat) (v1 : LI) (v2 : Int) (K : LI → LI → Int → Option R) : Option R := yy12_b (yy10 kf) (yy45 kf) (yy51 kf) v1 v2 K
def yy13_l3_b (c15 : T5 R) (l_3 : T93 R) (Ke0 : LI → Int → LI → Option R) (v7 : Int) (v8 : LI) (v9 : Int) (v10 : LI) : Option R :=
  bif decide (0 < v7) then
  (c15 8 v8 v9 (fun v11 v12 v13 =>
   bif decide (v11 = 0) then
   (c15 256 v12 v13 (fun v14 v15 v16 =>
    gd (decide (v10.length + ([(IntKind.u8.wrap v14)] : List Int).length < SMALL))
    (l_3 Ke0 (IntKind.i64.wrap (v7 - 1)) v15 v16 (v10 ++ ([(IntKind.u8.wrap v14)] : List Int)))))
   else (c15 4 v12 v13 (fun v17 v18 v19 =>
    gd (decide (v10.length + ([(IntKind.u8.wrap (IntKind.i64.wrap (97 + v17)))] : List Int).length < SMALL))
    (l_3 Ke0 (IntKind.i64.wrap (v7 - 1)) v18 v19 (v10 ++ ([(IntKind.u8.wrap (IntKind.i64.wrap (97 + v17)))] : List Int)))))))
  else (Ke0 v8 v9 v10)
def yy13_b (c15 : T5 R) (l_3 : T93 R) (v1 : Int) (v2 : LI) (v3 : Int) (K : LI → Int → LI → Option R) : Option R :=
  c15 (IntKind.i64.wrap (v1 + 1)) v2 v3 (fun v4 v5 v6 =>
   l_3
   (fun v20 v21 v22 =>
   K v20 v21 v22) v4 v5 v6 ([] : LI))
def yy13_l3 (kf : Nat) : Nat → T93 R
 | 0, _, _, _, _, _ => none
 | k + 1, y0, y1, y2, y3, y4 => yy13_l3_b yy15 (yy13_l3 kf k) y0 y1 y2 y3 y4
def yy13 (kf : Nat) (v1 : Int) (v2 : LI) (v3 : Int) (K : LI → Int → LI → Option R) : Option R := yy13_b yy15 (yy13_l3 kf kf) v1 v2 v3 K
def yy14_l24_b (c15 : T5 R) (c9 : T7 R) (c12 : T7 R) (c13 : T58 R) (c14 : T25 R) (l_24 : T94 R) (v49 : Int) (v50 v51 v52 : LI) (v53 v54 v55 : Int) (v56 v57 v58 : LI) (v59 v60 : Int) (v61 : LI) (v62 : LZ1) (v63 : LI) (Ke1 : LI → Int → Int → LI → LI → LI → Int → Int → Int → LI → LI → LI → Int → Int → LI → LZ1 → LI → LZ1 → Option R) (v46 : Int) (v47 : LI) (v48 : Int) (v64 : LZ1) : Option R :=
  bif decide (0 ≤ v46) then
  (c14 true v47 v48 (fun v65 v66 v67 v68 v69 v70 v71 v72 v73 v74 =>
   gd (decide (v64.length + ([(Rose.node (v65, v66, v67, v68, v69, v73, v70, ()) v74)] : LZ1).length < SMALL))
   (l_24 v49 v50 v51 v52 v53 v54 v55 v56 v57 v58 v59 v60 v61 v62 v63 Ke1 (IntKind.i64.wrap (v46 - 1)) v71 v72 (v64 ++ ([(Rose.node (v65, v66, v67, v68, v69, v73, v70, ()) v74)] : LZ1)))))
  else (Ke1 v47 v48 v49 v50 v51 v52 v53 v54 v55 v56 v57 v58 v59 v60 v61 v62 v63 v64)
def yy14_b (c15 : T5 R) (c9 : T7 R) (c12 : T7 R) (c13 : T58 R) (c14 : T25 R) (l_24 : T94 R) (v1 : Bool) (v2 : LI) (v3 : Int) (K : T99 R) : Option R :=
  c15 12 v2 v3 (fun v4 v5 v6 =>
   gd (decide (0 ≤ v4))
   (gd (decide (v4 < (([1, 1, 1, 2, 3, 4, 4, 4, 5, 6, 7, 8] : List Int).length : Int)))
   (let v7 : Int := (([1, 1, 1, 2, 3, 4, 4, 4, 5, 6, 7, 8] : List Int).getD (Int.toNat v4) (0 : Int))
    let j98 : Int → LI → Int → Option R := fun v8 v9 v10 =>
    (let j94 : LI → Int → LI → Option R := fun v11 v12 v13 =>
    (let j93 : Bool → Option R := fun v14 =>
     (bif v14 then
     (c12 v11 v12 (fun v15 v16 v17 =>
      c15 12 v16 v17 (fun v18 v19 v20 =>
       bif decide (v18 = 0) then
       (c15 5 v19 v20 (fun v21 v22 v23 =>
        gd (decide (0 ≤ v21))
        (gd (decide (v21 < (([[41], [40], [42], [91, 98, 45, 97, 93], [97, 124]] : List LI).length : Int)))
        (gd (decide (v15.length + (([[41], [40], [42], [91, 98, 45, 97, 93], [97, 124]] : List LI).getD (Int.toNat v21) ([] : LI)).length < SMALL))
         (K v8 v13 ([]) (v15 ++ (([[41], [40], [42], [91, 98, 45, 97, 93], [97, 124]] : List LI).getD (Int.toNat v21) ([] : LI))) 0 0 v22 v23 ([] : LI) ([] : LZ1))))))
       else (K v8 v13 ([]) v15 0 0 v19 v20 ([] : LI) ([] : LZ1)))))
     else (bif decide (v8 = 4) then
      (c15 6 v11 v12 (fun v24 v25 v26 =>
       let j33 : Bool → LI → Int → Option R := fun v27 v28 v29 =>
       (bif v27 then
       (c9 v28 v29 (fun v30 v31 v32 =>
        K v8 v13 v30 ([]) (IntKind.i64.wrap (1 + v24)) 0 v31 v32 ([] : LI) ([] : LZ1)))
       else (K v8 v13 ([]) ([]) (IntKind.i64.wrap (1 + v24)) 0 v28 v29 ([] : LI) ([] : LZ1)))
       (bif decide ((IntKind.i64.wrap (1 + v24)) ≤ 3) then
       (j33 true v25 v26)
       else (c15 9 v25 v26 (fun v34 v35 v36 =>
        j33 (decide (v34 = 0)) v35 v36)))))
      else (bif decide (v8 = 5) then
      (c13 6 v11 v12 (fun v37 v38 v39 =>
       K v8 v13 ([]) ([]) 0 0 v37 v38 v39 ([] : LZ1)))
      else (bif decide (v8 = 7) then
       (c15 9 v11 v12 (fun v40 v41 v42 =>
        K v8 v13 ([]) ([]) 0 v40 v41 v42 ([] : LI) ([] : LZ1)))
       else (bif decide (v8 = 8) then
       (c15 4 v11 v12 (fun v43 v44 v45 =>
        l_24 0 ([]) ([]) ([]) 0 0 v8 v13 ([]) ([]) 0 0 ([] : LI) ([] : LZ1) ([] : LI)
        (fun v75 v76 v77 v78 v79 v80 v81 v82 v83 v84 v85 v86 v87 v88 v89 v90 v91 v92 =>
         K v83 v84 v85 v86 v87 v88 v75 v76 v91 v92) v43 v44 v45 ([] : LZ1)))
       else (K v8 v13 ([]) ([]) 0 0 v11 v12 ([] : LI) ([] : LZ1)))))))
     (bif decide (v8 = 1) then
     (j93 (decide (v8 = 1)))
     else (j93 (decide (v8 = 2)))))
    (bif (!(decide (v8 = 8))) then
     (c9 v9 v10 (fun v95 v96 v97 =>
      j94 v96 v97 v95))
     else (j94 v9 v10 ([]))))
    (bif v1 then
    (c15 5 v5 v6 (fun v99 v100 v101 =>
     gd (decide (0 ≤ v99))
     (gd (decide (v99 < (([1, 1, 1, 2, 3, 4, 4, 4, 5, 6, 7, 8] : List Int).length : Int)))
      (let v102 : Int := (([1, 1, 1, 2, 3, 4, 4, 4, 5, 6, 7, 8] : List Int).getD (Int.toNat v99) (0 : Int))
      j98 v102 v100 v101))))
    else (j98 v7 v5 v6)))))
def yy14_l24 (c_self : T25 R) (kf : Nat) : Nat → T94 R
 | 0, _, _, _, _, _, _, _, _, _, _, _, _, _, _, _, _, _, _, _, _ => none
 | k + 1, y0, y1, y2, y3, y4, y5, y6, y7, y8, y9, y10, y11, y12, y13, y14, y15, y16, y17, y18, y19 => yy14_l24_b yy15 yy9 (yy12 kf) (yy13 kf) c_self (yy14_l24 c_self kf k) y0 y1 y2 y3 y4 y5 y6 y7 y8 y9 y10 y11 y12 y13 y14 y15 y16 y17 y18 y19
def yy14 : Nat → T25 R
 | 0, _, _, _, _ => none
 | kf + 1, y0, y1, y2, y3 => yy14_b yy15 yy9 (yy12 kf) (yy13 kf) (yy14 kf) (yy14_l24 (yy14 kf) kf kf) y0 y1 y2 y3
def yy8_b (c14 : T25 R) (v1 : LI) (v2 : Int) (K : T99 R) : Option R :=
  c14 false v1 v2 (fun v3 v4 v5 v6 v7 v8 v9 v10 v11 v12 =>
   K v3 v4 v5 v6 v7 v8 v9 v10 v11 v12)
def yy8 (kf : Nat) (v1 : LI) (v2 : Int) (K : T99 R) : Option R := yy8_b (yy14 kf) v1 v2 K
def yy6_l3_b (c7 : T59 R) (c16 : T32 R) (c8 : T60 R) (l_3 : T95 R) (v5 : Int) (Ke0 : LZ1 → Option R) (v6 : LI) (v7 : Int) (v8 : LZ1) : Option R :=
  c16 v6 v7 (fun v9 v10 v11 =>
   bif (!v9) then
   (bif decide ((v8.length : Int) < v5) then
   (c8 v10 v11 (fun v12 v13 v14 v15 v16 v17 v18 v19 v20 v21 =>
    gd (decide (v8.length + ([(Rose.node (v12, v13, v14, v15, v16, v20, v17, ()) v21)] : LZ1).length < SMALL))
    (l_3 v5 Ke0 v18 v19 (v8 ++ ([(Rose.node (v12, v13, v14, v15, v16, v20, v17, ()) v21)] : LZ1)))))
   else (Ke0 v8))
   else (Ke0 v8))
def yy6_b (c7 : T59 R) (c16 : T32 R) (c8 : T60 R) (l_3 : T95 R) (v1 : LI) (v2 : Int) (K : LZ1 → Option R) : Option R :=
  c7 v1 (fun v3 v4 =>
   l_3 v2
   (fun v22 =>
   K v22) v3 v4 ([] : LZ1))
def yy6_l3 (kf : Nat) : Nat → T95 R
 | 0, _, _, _, _, _ => none
 | k + 1, y0, y1, y2, y3, y4 => yy6_l3_b yy7 yy16 (yy8 kf) (yy6_l3 kf k) y0 y1 y2 y3 y4
def yy6 (kf : Nat) (v1 : LI) (v2 : Int) (K : LZ1 → Option R) : Option R := yy6_b yy7 yy16 (yy8 kf) (yy6_l3 kf kf) v1 v2 K
def yy28_l4_b (c28 : T13 R) (l_4 : T96 R) (v26 v34 : LZ1) (Kr : Bool → Option R) (Ke0 : Option R) (v18 : Int) : Option R :=
  bif decide (v18 < (v26.length : Int)) then
  (gd (decide (0 ≤ v18))
   (gd (decide (v18 < (v26.length : Int)))
   (gd (decide (0 ≤ v18))
    (gd (decide (v18 < (v34.length : Int)))
    (c28 ((Rose.lab (v26.getD (Int.toNat v18) dN0)).1) ((Rose.lab (v26.getD (Int.toNat v18) dN0)).2.1) ((Rose.lab (v26.getD (Int.toNat v18) dN0)).2.2.1) ((Rose.lab (v26.getD (Int.toNat v18) dN0)).2.2.2.1) ((Rose.lab (v26.getD (Int.toNat v18) dN0)).2.2.2.2.1) ((Rose.lab (v26.getD (Int.toNat v18) dN0)).2.2.2.2.2.1) ((Rose.lab (v26.getD (Int.toNat v18) dN0)).2.2.2.2.2.2.1) (Rose.kids (v26.getD (Int.toNat v18) dN0)) ((Rose.lab (v34.getD (Int.toNat v18) dN0)).1) ((Rose.lab (v34.getD (Int.toNat v18) dN0)).2.1) ((Rose.lab (v34.getD (Int.toNat v18) dN0)).2.2.1) ((Rose.lab (v34.getD (Int.toNat v18) dN0)).2.2.2.1) ((Rose.lab (v34.getD (Int.toNat v18) dN0)).2.2.2.2.1) ((Rose.lab (v34.getD (Int.toNat v18) dN0)).2.2.2.2.2.1) ((Rose.lab (v34.getD (Int.toNat v18) dN0)).2.2.2.2.2.2.1) (Rose.kids (v34.getD (Int.toNat v18) dN0)) (fun v35 =>
     bif (!v35) then
     (Kr false)
     else (l_4 v26 v34 Kr Ke0 (IntKind.i64.wrap (v18 + 1)))))))))
  else (Ke0)
def yy28_b (c28 : T13 R) (l_4 : T96 R) (v1 : Int) (v2 v3 v4 : LI) (v5 : Int) (v6 : LI) (v7 : Int) (v8 : LZ1) (v9 : Int) (v10 v11 v12 : LI) (v13 : Int) (v14 : LI) (v15 : Int) (v16 : LZ1) (K : Bool → Option R) : Option R :=
  let j37 : Bool → Option R := fun v17 =>
  (bif v17 then
   (K false)
   else (l_4 v8 v16
   (fun v36 =>
    K v36)
   (K true) 0))
  (bif (!(decide (v1 = v9))) then
   (j37 true)
   else (bif (!(decide (v2 = v10))) then
   (j37 true)
   else (bif (!(decide (v3 = v11))) then
    (j37 true)
    else (bif (!(decide (v4 = v12))) then
    (j37 true)
    else (bif (!(decide (v5 = v13))) then
     (j37 true)
     else (bif (!(decide (v6 = v14))) then
     (j37 true)
     else (bif (!(decide (v7 = v15))) then
      (j37 true)
      else (j37 (!(decide ((v8.length : Int) = (v16.length : Int))))))))))))
def yy28_l4 (c_self : T13 R) (kf : Nat) : Nat → T96 R
 | 0, _, _, _, _, _ => none
 | k + 1, y0, y1, y2, y3, y4 => yy28_l4_b c_self (yy28_l4 c_self kf k) y0 y1 y2 y3 y4
def yy28 : Nat → T13 R
 | 0, _, _, _, _, _, _, _, _, _, _, _, _, _, _, _, _, _ => none
 | kf + 1, y0, y1, y2, y3, y4, y5, y6, y7, y8, y9, y10, y11, y12, y13, y14, y15, y16 => yy28_b (yy28 kf) (yy28_l4 (yy28 kf) kf kf) y0 y1 y2 y3 y4 y5 y6 y7 y8 y9 y10 y11 y12 y13 y14 y15 y16
def yy0_l8_b (c1 : (Bool → Option R) → Option R) (c6 : T47 R) (c62 : T22 R) (c64 : T23 R) (c28 : T13 R) (l_8 : T61 R) (l_15 : T62 R) (v6 : LZ1) (Kr : Bool → LI → LZ1 → Option R) (Ke0 : LI → LZ1 → Option R) (v4 : LI) (v5 : Int) : Option R :=
  bif decide (v5 < (v6.length : Int)) then
  (gd (decide (0 ≤ v5))
   (gd (decide (v5 < (v6.length : Int)))
   (c62 v4 ((Rose.lab (v6.getD (Int.toNat v5) dN0)).1) ((Rose.lab (v6.getD (Int.toNat v5) dN0)).2.1) ((Rose.lab (v6.getD (Int.toNat v5) dN0)).2.2.1) ((Rose.lab (v6.getD (Int.toNat v5) dN0)).2.2.2.1) ((Rose.lab (v6.getD (Int.toNat v5) dN0)).2.2.2.2.1) ((Rose.lab (v6.getD (Int.toNat v5) dN0)).2.2.2.2.2.1) ((Rose.lab (v6.getD (Int.toNat v5) dN0)).2.2.2.2.2.2.1) (Rose.kids (v6.getD (Int.toNat v5) dN0)) (fun v7 v8 =>
    bif (!(decide (v7 = 0))) then
    (Kr false v4 v6)
    else (l_8 v6 Kr Ke0 v8 (IntKind.i64.wrap (v5 + 1)))))))
  else (Ke0 v4 v6)
def yy0_l15_b (c1 : (Bool → Option R) → Option R) (c6 : T47 R) (c62 : T22 R) (c64 : T23 R) (c28 : T13 R) (l_8 : T61 R) (l_15 : T62 R) (v16 : LZ1) (Kr : Bool → LI → Option R) (Ke2 : LI → Option R) (v14 : LI) (v15 : Int) : Option R :=
  bif decide (v15 < (v16.length : Int)) then
  (c64 v14 (fun v17 v18 v19 v20 v21 v22 v23 v24 v25 v26 =>
   let j28 : Bool → Option R := fun v27 =>
   (bif v27 then
    (Kr false v14)
    else (gd (decide (0 ≤ v23))
    (gd (decide (v23 ≤ (v14.length : Int)))
     (l_15 v16 Kr Ke2 (v14.drop (Int.toNat v23)) (IntKind.i64.wrap (v15 + 1))))))
   (bif (!(decide (v24 = 0))) then
    (j28 true)
    else (gd (decide (0 ≤ v15))
    (gd (decide (v15 < (v16.length : Int)))
     (c28 v17 v18 v19 v20 v21 v25 v22 v26 ((Rose.lab (v16.getD (Int.toNat v15) dN0)).1) ((Rose.lab (v16.getD (Int.toNat v15) dN0)).2.1) ((Rose.lab (v16.getD (Int.toNat v15) dN0)).2.2.1) ((Rose.lab (v16.getD (Int.toNat v15) dN0)).2.2.2.1) ((Rose.lab (v16.getD (Int.toNat v15) dN0)).2.2.2.2.1) ((Rose.lab (v16.getD (Int.toNat v15) dN0)).2.2.2.2.2.1) ((Rose.lab (v16.getD (Int.toNat v15) dN0)).2.2.2.2.2.2.1) (Rose.kids (v16.getD (Int.toNat v15) dN0)) (fun v29 =>
      j28 (!v29))))))))
  else (Ke2 v14)
def yy0_b (c1 : (Bool → Option R) → Option R) (c6 : T47 R) (c62 : T22 R) (c64 : T23 R) (c28 : T13 R) (l_8 : T61 R) (l_15 : T62 R) (v1 : LI) (K : Bool → Option R) : Option R :=
  c1 (fun v2 =>
   bif (!v2) then
   (K false)
   else (bif decide (150 < (v1.length : Int)) then
   (K true)
   else (c6 v1 20 (fun v3 =>
    l_8 v3
    (fun v9 v10 v11 =>
     K v9)
    (fun v12 v13 =>
     l_15 v13
     (fun v30 v31 =>
     K v30)
     (fun v32 =>
     K (decide ((v32.length : Int) = 0))) v12 0) ([] : LI) 0))))
def yy0_l8 (kf : Nat) : Nat → T61 R
 | 0, _, _, _, _, _ => none
 | k + 1, y0, y1, y2, y3, y4 => yy0_l8_b (yy1 kf) (yy6 kf) (yy62 kf) (yy64 kf) (yy28 kf) (yy0_l8 kf k) (fun _ _ _ _ _ => none) y0 y1 y2 y3 y4
def yy0_l15 (kf : Nat) : Nat → T62 R
 | 0, _, _, _, _, _ => none
 | k + 1, y0, y1, y2, y3, y4 => yy0_l15_b (yy1 kf) (yy6 kf) (yy62 kf) (yy64 kf) (yy28 kf) (yy0_l8 kf k) (yy0_l15 kf k) y0 y1 y2 y3 y4
def yy0 (kf : Nat) (v1 : LI) (K : Bool → Option R) : Option R := yy0_b (yy1 kf) (yy6 kf) (yy62 kf) (yy64 kf) (yy28 kf) (yy0_l8 kf kf) (yy0_l15 kf kf) v1 K
def sh3 (c0 : LI → (Bool → Option R) → Option R) (av : List S) (es : List Ent) (K : KS R) : Option R :=
 match av, es with
 | [.sl (.int .u8) v1], [] => c0 v1 (fun r0 => K (.bool r0) [])
 | _, _ => none
def sh4 (c1 : (Bool → Option R) → Option R) (av : List S) (es : List Ent) (K : KS R) : Option R :=
 match av, es with
 | [], [] => c1 (fun r0 => K (.bool r0) [])
 | _, _ => none
def sh5 (c6 : T47 R) (av : List S) (es : List Ent) (K : KS R) : Option R :=
 match av, es with
 | [.sl (.int .u8) v1, .int .i64 v2], [] => c6 v1 v2 (fun r0 => K (.own (.rose (.pair (.int .i64) (.pair .str (.pair .str (.pair .str (.pair (.int .i64) (.pair (.slice (.nw .u8)) (.pair (.int .i64) .unit)))))))) 0) [.buf (.rose (.pair (.int .i64) (.pair .str (.pair .str (.pair .str (.pair (.int .i64) (.pair (.slice (.nw .u8)) (.pair (.int .i64) .unit)))))))) r0 false])
 | _, _ => none
def sh6 (c62 : T22 R) (av : List S) (es : List Ent) (K : KS R) : Option R :=
 match av, es with
 | [.sl (.int .u8) v1, .st [.int .i64 v2, .str v3, .str v4, .str v5, .int .i64 v6, .sl (.nw .u8) v7, .int .i64 v8, .sl (.rose (.pair (.int .i64) (.pair .str (.pair .str (.pair .str (.pair (.int .i64) (.pair (.slice (.nw .u8)) (.pair (.int .i64) .unit)))))))) v9]], [] => c62 v1 v2 v3 v4 v5 v6 v7 v8 v9 (fun r0 r1 => K (.tup [.own (.int .u8) 0, .int .i64 r0]) [.buf (.int .u8) r1 false])
 | _, _ => none
def sh7 (c64 : T23 R) (av : List S) (es : List Ent) (K : KS R) : Option R :=
 match av, es with
 | [.sl (.int .u8) v1], [] => c64 v1 (fun r0 r1 r2 r3 r4 r5 r6 r7 r8 r9 => K (.tup [.st [.int .i64 r0, .str r1, .str r2, .str r3, .int .i64 r4, .own (.int .u8) 0, .int .i64 r5, .own (.rose (.pair (.int .i64) (.pair .str (.pair .str (.pair .str (.pair (.int .i64) (.pair (.slice (.nw .u8)) (.pair (.int .i64) .unit)))))))) 1], .int .i64 r6, .int .i64 r7]) [.buf (.int .u8) r8 false, .buf (.rose (.pair (.int .i64) (.pair .str (.pair .str (.pair .str (.pair (.int .i64) (.pair (.slice (.nw .u8)) (.pair (.int .i64) .unit)))))))) r9 false])
 | _, _ => none
def sh8 (c28 : T13 R) (av : List S) (es : List Ent) (K : KS R) : Option R :=
 match av, es with
 | [.st [.int .i64 v1, .str v2, .str v3, .str v4, .int .i64 v5, .sl (.nw .u8) v6, .int .i64 v7, .sl (.rose (.pair (.int .i64) (.pair .str (.pair .str (.pair .str (.pair (.int .i64) (.pair (.slice (.nw .u8)) (.pair (.int .i64) .unit)))))))) v8], .st [.int .i64 v9, .str v10, .str v11, .str v12, .int .i64 v13, .sl (.nw .u8) v14, .int .i64 v15, .sl (.rose (.pair (.int .i64) (.pair .str (.pair .str (.pair .str (.pair (.int .i64) (.pair (.slice (.nw .u8)) (.pair (.int .i64) .unit)))))))) v16]], [] => c28 v1 v2 v3 v4 v5 v6 v7 v8 v9 v10 v11 v12 v13 v14 v15 v16 (fun r0 => K (.bool r0) [])
 | _, _ => none
def sh9 (c63 : T69 R) (av : List S) (es : List Ent) (K : KS R) : Option R :=
 match av, es with
 | [.sl (.int .u8) v1, .st [.int .i64 v2, .int .i64 v3, .int .i64 v4, .st [.bool v5, .sl (.int .u8) v6], .str v7, .sl .str v8]], [] => c63 v1 v2 v3 v4 v5 v6 v7 v8 (fun r0 r1 => K (.tup [.own (.int .u8) 0, .int .i64 r0]) [.buf (.int .u8) r1 false])
 | _, _ => none
def sh10 (c65 : T70 R) (av : List S) (es : List Ent) (K : KS R) : Option R :=
 match av, es with
 | [.sl (.int .u8) v1], [] => c65 v1 (fun r0 r1 r2 r3 r4 r5 r6 r7 r8 => K (.tup [.st [.int .i64 r0, .int .i64 r1, .int .i64 r2, .st [.bool r3, .own (.int .u8) 0], .str r4, .own .str 1], .int .i64 r5, .int .i64 r6]) [.buf (.int .u8) r7 false, .buf .str r8 false])
 | _, _ => none
def sh11 (c7 : T59 R) (av : List S) (es : List Ent) (K : KS R) : Option R :=
 match av, es with
 | [.sl (.int .u8) v1], [] => c7 v1 (fun r0 r1 => K (.ptr 0 []) [.box (.st [.sl (.int .u8) r0, .int .i64 r1]) false])
 | _, _ => none
def sh12 (c16 : T32 R) (av : List S) (es : List Ent) (K : KS R) : Option R :=
 match av, es with
 | [.ptr 0 []], [.box (.st [.sl (.int .u8) v1, .int .i64 v2]) false] => c16 v1 v2 (fun r0 r1 r2 => K (.bool r0) [.box (.st [.sl (.int .u8) r1, .int .i64 r2]) false])
 | _, _ => none
def sh13 (c8 : T60 R) (av : List S) (es : List Ent) (K : KS R) : Option R :=
 match av, es with
 | [.ptr 0 []], [.box (.st [.sl (.int .u8) v1, .int .i64 v2]) false] => c8 v1 v2 (fun r0 r1 r2 r3 r4 r5 r6 r7 r8 r9 => K (.st [.int .i64 r0, .str r1, .str r2, .str r3, .int .i64 r4, .own (.int .u8) 1, .int .i64 r5, .own (.rose (.pair (.int .i64) (.pair .str (.pair .str (.pair .str (.pair (.int .i64) (.pair (.slice (.nw .u8)) (.pair (.int .i64) .unit)))))))) 2]) [.box (.st [.sl (.int .u8) r6, .int .i64 r7]) false, .buf (.int .u8) r8 false, .buf (.rose (.pair (.int .i64) (.pair .str (.pair .str (.pair .str (.pair (.int .i64) (.pair (.slice (.nw .u8)) (.pair (.int .i64) .unit)))))))) r9 false])
 | _, _ => none
def sh14 (c74 : T18 R) (av : List S) (es : List Ent) (K : KS R) : Option R :=
 match av, es with
 | [.ptr 0 [], .st [.int .i64 v1, .str v2, .str v3, .str v4, .int .i64 v5, .sl (.nw .u8) v6, .int .i64 v7, .sl (.rose (.pair (.int .i64) (.pair .str (.pair .str (.pair .str (.pair (.int .i64) (.pair (.slice (.nw .u8)) (.pair (.int .i64) .unit)))))))) v8], .bool v9], [.box (.st [.own (.int .u8) 1, .err v10]) false, .buf (.int .u8) v11 false] => c74 v1 v2 v3 v4 v5 v6 v7 v8 v9 v10 v11 (fun r0 r1 => K (.tup []) [.box (.st [.own (.int .u8) 1, .err r0]) false, .buf (.int .u8) r1 false])
 | _, _ => none
def sh15 (c68 : Err → (Int → Option R) → Option R) (av : List S) (es : List Ent) (K : KS R) : Option R :=
 match av, es with
 | [.err v1], [] => c68 v1 (fun r0 => K (.int .i64 r0) [])
 | _, _ => none
def sh16 (c69 : T21 R) (av : List S) (es : List Ent) (K : KS R) : Option R :=
 match av, es with
 | [.ptr 0 [], .bool v1], [.box (.st [.sl (.int .u8) v2, .err v3]) false] => c69 v1 v2 v3 (fun r0 r1 r2 r3 r4 r5 r6 r7 r8 r9 => K (.st [.int .i64 r0, .str r1, .str r2, .str r3, .int .i64 r4, .own (.int .u8) 1, .int .i64 r5, .own (.rose (.pair (.int .i64) (.pair .str (.pair .str (.pair .str (.pair (.int .i64) (.pair (.slice (.nw .u8)) (.pair (.int .i64) .unit)))))))) 2]) [.box (.st [.sl (.int .u8) r6, .err r7]) false, .buf (.int .u8) r8 false, .buf (.rose (.pair (.int .i64) (.pair .str (.pair .str (.pair .str (.pair (.int .i64) (.pair (.slice (.nw .u8)) (.pair (.int .i64) .unit)))))))) r9 false])
 | _, _ => none
def sh17 (c75 : T16 R) (av : List S) (es : List Ent) (K : KS R) : Option R :=
 match av, es with
 | [.ptr 0 [], .int .i64 v1, .int .i64 v2, .int .i64 v3], [.box (.st [.own (.int .u8) 1, .err v4]) false, .buf (.int .u8) v5 false] => c75 v1 v2 v3 v4 v5 (fun r0 r1 => K (.tup []) [.box (.st [.own (.int .u8) 1, .err r0]) false, .buf (.int .u8) r1 false])
 | _, _ => none
def sh18 (c76 : T17 R) (av : List S) (es : List Ent) (K : KS R) : Option R :=
 match av, es with
 | [.ptr 0 [], .str v1], [.box (.st [.own (.int .u8) 1, .err v2]) false, .buf (.int .u8) v3 false] => c76 v1 v2 v3 (fun r0 r1 => K (.tup []) [.box (.st [.own (.int .u8) 1, .err r0]) false, .buf (.int .u8) r1 false])
 | _, _ => none
def sh19 (c71 : T19 R) (av : List S) (es : List Ent) (K : KS R) : Option R :=
 match av, es with
 | [.ptr 0 [], .int .i64 v1], [.box (.st [.sl (.int .u8) v2, .err v3]) false] => c71 v1 v2 v3 (fun r0 r1 r2 => K (.int .i64 r0) [.box (.st [.sl (.int .u8) r1, .err r2]) false])
 | _, _ => none
def sh20 (c70 : T8 R) (av : List S) (es : List Ent) (K : KS R) : Option R :=
 match av, es with
 | [.ptr 0 [], .int .i64 v1], [.box (.st [.sl (.int .u8) v2, .err v3]) false] => c70 v1 v2 v3 (fun r0 r1 => K (.tup []) [.box (.st [.sl (.int .u8) r0, .err r1]) false])
 | _, _ => none
def sh21 (c72 : T20 R) (av : List S) (es : List Ent) (K : KS R) : Option R :=
 match av, es with
 | [.ptr 0 []], [.box (.st [.sl (.int .u8) v1, .err v2]) false] => c72 v1 v2 (fun r0 r1 r2 => K (.str r0) [.box (.st [.sl (.int .u8) r1, .err r2]) false])
 | _, _ => none
def sh22 (c14 : T25 R) (av : List S) (es : List Ent) (K : KS R) : Option R :=
 match av, es with
 | [.ptr 0 [], .bool v1], [.box (.st [.sl (.int .u8) v2, .int .i64 v3]) false] => c14 v1 v2 v3 (fun r0 r1 r2 r3 r4 r5 r6 r7 r8 r9 => K (.st [.int .i64 r0, .str r1, .str r2, .str r3, .int .i64 r4, .own (.int .u8) 1, .int .i64 r5, .own (.rose (.pair (.int .i64) (.pair .str (.pair .str (.pair .str (.pair (.int .i64) (.pair (.slice (.nw .u8)) (.pair (.int .i64) .unit)))))))) 2]) [.box (.st [.sl (.int .u8) r6, .int .i64 r7]) false, .buf (.int .u8) r8 false, .buf (.rose (.pair (.int .i64) (.pair .str (.pair .str (.pair .str (.pair (.int .i64) (.pair (.slice (.nw .u8)) (.pair (.int .i64) .unit)))))))) r9 false])
 | _, _ => none
def sh23 (c67 : T49 R) (av : List S) (es : List Ent) (K : KS R) : Option R :=
 match av, es with
 | [.st [.int .i64 v1, .str v2, .str v3, .str v4, .int .i64 v5, .sl (.nw .u8) v6, .int .i64 v7, .sl (.rose (.pair (.int .i64) (.pair .str (.pair .str (.pair .str (.pair (.int .i64) (.pair (.slice (.nw .u8)) (.pair (.int .i64) .unit)))))))) v8]], [] => c67 v1 v2 v3 v4 v5 v6 v7 v8 (fun r0 => K (.bool r0) [])
 | _, _ => none
def sh24 (c73 : T48 R) (av : List S) (es : List Ent) (K : KS R) : Option R :=
 match av, es with
 | [.st [.int .i64 v1, .str v2, .str v3, .str v4, .int .i64 v5, .sl (.nw .u8) v6, .int .i64 v7, .sl (.rose (.pair (.int .i64) (.pair .str (.pair .str (.pair .str (.pair (.int .i64) (.pair (.slice (.nw .u8)) (.pair (.int .i64) .unit)))))))) v8]], [] => c73 v1 v2 v3 v4 v5 v6 v7 v8 (fun r0 r1 r2 r3 r4 r5 r6 r7 => K (.st [.int .i64 r0, .str r1, .str r2, .str r3, .int .i64 r4, .sl (.nw .u8) r5, .int .i64 r6, .sl (.rose (.pair (.int .i64) (.pair .str (.pair .str (.pair .str (.pair (.int .i64) (.pair (.slice (.nw .u8)) (.pair (.int .i64) .unit)))))))) r7]) [])
 | _, _ => none
def sh25 (c66 : Int → (Err → Option R) → Option R) (av : List S) (es : List Ent) (K : KS R) : Option R :=
 match av, es with
 | [.int .i64 v1], [] => c66 v1 (fun r0 => K (.err r0) [])
 | _, _ => none
def sh26 (av : List S) (es : List Ent) (K : KS R) : Option R :=
 match av, es with
 | [.err v1, .iface 68 (.ptr 0 [])], [.box .nilp false] => gd (Err.fit [(66, 1)] [(80, 0, 0)] v1) (optK (Err.find 66 v1) (fun (v : Err) => K (.bool true) [.box (.iref (.pair (.int .i64) .unit) ((Err.num 0 v), ())) false]) (K (.bool false) [.box .nilp false]))
 | _, _ => none
def sh27 (c2 : T39 R) (av : List S) (es : List Ent) (K : KS R) : Option R :=
 match av, es with
 | [.sl (.int .u8) v1, .int .u64 v2, .int .i64 v3], [] => c2 v1 v2 v3 (fun r0 => K (.own (.int .u8) 0) [.buf (.int .u8) r0 false])
 | _, _ => none
def sh28 (c5 : T15 R) (av : List S) (es : List Ent) (K : KS R) : Option R :=
 match av, es with
 | [.sl (.int .u8) v1, .sl (.int .u8) v2], [] => c5 v1 v2 (fun r0 => K (.own (.int .u8) 0) [.buf (.int .u8) r0 false])
 | _, _ => none
def sh29 (c3 : T40 R) (av : List S) (es : List Ent) (K : KS R) : Option R :=
 match av, es with
 | [.sl (.int .u8) v1, .int .i64 v2, .int .i64 v3], [] => c3 v1 v2 v3 (fun r0 r1 => K (.tup [.int .u64 r0, .int .i64 r1]) [])
 | _, _ => none
def sh30 (c4 : T65 R) (av : List S) (es : List Ent) (K : KS R) : Option R :=
 match av, es with
 | [.sl (.int .u8) v1, .int .i64 v2], [] => c4 v1 v2 (fun r0 r1 r2 => K (.tup [.own (.int .u8) 0, .int .i64 r0, .int .i64 r1]) [.buf (.int .u8) r2 false])
 | _, _ => none
def sh31 (c15 : T5 R) (av : List S) (es : List Ent) (K : KS R) : Option R :=
 match av, es with
 | [.ptr 0 [], .int .i64 v1], [.box (.st [.sl (.int .u8) v2, .int .i64 v3]) false] => c15 v1 v2 v3 (fun r0 r1 r2 => K (.int .i64 r0) [.box (.st [.sl (.int .u8) r1, .int .i64 r2]) false])
 | _, _ => none
def sh32 (c9 : T7 R) (av : List S) (es : List Ent) (K : KS R) : Option R :=
 match av, es with
 | [.ptr 0 []], [.box (.st [.sl (.int .u8) v1, .int .i64 v2]) false] => c9 v1 v2 (fun r0 r1 r2 => K (.str r0) [.box (.st [.sl (.int .u8) r1, .int .i64 r2]) false])
 | _, _ => none
def sh33 (c12 : T7 R) (av : List S) (es : List Ent) (K : KS R) : Option R :=
 match av, es with
 | [.ptr 0 []], [.box (.st [.sl (.int .u8) v1, .int .i64 v2]) false] => c12 v1 v2 (fun r0 r1 r2 => K (.str r0) [.box (.st [.sl (.int .u8) r1, .int .i64 r2]) false])
 | _, _ => none
def sh34 (c13 : T58 R) (av : List S) (es : List Ent) (K : KS R) : Option R :=
 match av, es with
 | [.ptr 0 [], .int .i64 v1], [.box (.st [.sl (.int .u8) v2, .int .i64 v3]) false] => c13 v1 v2 v3 (fun r0 r1 r2 => K (.own (.int .u8) 1) [.box (.st [.sl (.int .u8) r0, .int .i64 r1]) false, .buf (.int .u8) r2 false])
 | _, _ => none
def sh39 (c10 : T91 R) (av : List S) (es : List Ent) (K : KS R) : Option R :=
 match av, es with
 | [.ptr 0 []], [.box (.st [.sl (.int .u8) v1, .int .i64 v2]) false] => c10 v1 v2 (fun r0 r1 r2 r3 r4 => K (.st [.int .i64 r0, .arr 4 (.int .u64) r1, .sl (.rose (.pair (.int .i64) (.pair (.arr 4 (.int .u64)) .unit))) r2]) [.box (.st [.sl (.int .u8) r3, .int .i64 r4]) false])
 | _, _ => none
def sh40 (c45 : T9 R) (av : List S) (es : List Ent) (K : KS R) : Option R :=
 match av, es with
 | [.st [.int .i64 v1, .arr 4 (.int .u64) v2, .sl (.rose (.pair (.int .i64) (.pair (.arr 4 (.int .u64)) .unit))) v3]], [] => c45 v1 v2 v3 (fun r0 => K (.str r0) [])
 | _, _ => none
def sh41 (c51 : T92 R) (av : List S) (es : List Ent) (K : KS R) : Option R :=
 match av, es with
 | [.st [.int .i64 v1, .arr 4 (.int .u64) v2, .sl (.rose (.pair (.int .i64) (.pair (.arr 4 (.int .u64)) .unit))) v3], .int .i64 v4], [] => c51 v1 v2 v3 v4 (fun r0 => K (.bool r0) [])
 | _, _ => none
def sh45 (c17 : T41 R) (av : List S) (es : List Ent) (K : KS R) : Option R :=
 match av, es with
 | [.ptr 0 [], .int .i64 v1], [.box (.st [.sl (.int .u8) v2, .int .i64 v3]) false] => c17 v1 v2 v3 (fun r0 r1 r2 r3 r4 => K (.st [.int .i64 r0, .arr 4 (.int .u64) r1, .sl (.rose (.pair (.int .i64) (.pair (.arr 4 (.int .u64)) .unit))) r2]) [.box (.st [.sl (.int .u8) r3, .int .i64 r4]) false])
 | _, _ => none
def sh46 (c40 : T11 R) (av : List S) (es : List Ent) (K : KS R) : Option R :=
 match av, es with
 | [.st [.int .i64 v1, .arr 4 (.int .u64) v2, .sl (.rose (.pair (.int .i64) (.pair (.arr 4 (.int .u64)) .unit))) v3]], [] => c40 v1 v2 v3 (fun r0 => K (.bool r0) [])
 | _, _ => none
def sh47 (c49 : T9 R) (av : List S) (es : List Ent) (K : KS R) : Option R :=
 match av, es with
 | [.st [.int .i64 v1, .arr 4 (.int .u64) v2, .sl (.rose (.pair (.int .i64) (.pair (.arr 4 (.int .u64)) .unit))) v3]], [] => c49 v1 v2 v3 (fun r0 => K (.str r0) [])
 | _, _ => none
def sh48 (c57 : T90 R) (av : List S) (es : List Ent) (K : KS R) : Option R :=
 match av, es with
 | [.st [.int .i64 v1, .arr 4 (.int .u64) v2, .sl (.rose (.pair (.int .i64) (.pair (.arr 4 (.int .u64)) .unit))) v3], .int .i64 v4], [] => c57 v1 v2 v3 v4 (fun r0 r1 r2 r3 => K (.tup [.st [.arr 256 (.int .u8) r0, .own (.slice (.int .i64)) 0, .own .bool 1], .int .i64 r1]) [.buf (.slice (.int .i64)) r2 false, .buf .bool r3 false])
 | _, _ => none
def sh49 (c37 : T3 R) (av : List S) (es : List Ent) (K : KS R) : Option R :=
 match av, es with
 | [.st [.int .i64 v1, .arr 4 (.int .u64) v2, .sl (.rose (.pair (.int .i64) (.pair (.arr 4 (.int .u64)) .unit))) v3]], [] => c37 v1 v2 v3 (fun r0 => K (.int .i64 r0) [])
 | _, _ => none
def sh50 (c30 : T31 R) (av : List S) (es : List Ent) (K : KS R) : Option R :=
 match av, es with
 | [.arr 4 (.int .u64) v1], [] => c30 v1 (fun r0 r1 r2 => K (.st [.int .i64 r0, .arr 4 (.int .u64) r1, .own (.rose (.pair (.int .i64) (.pair (.arr 4 (.int .u64)) .unit))) 0]) [.buf (.rose (.pair (.int .i64) (.pair (.arr 4 (.int .u64)) .unit))) r2 false])
 | _, _ => none
def sh51 (c11 : T7 R) (av : List S) (es : List Ent) (K : KS R) : Option R :=
 match av, es with
 | [.ptr 0 []], [.box (.st [.sl (.int .u8) v1, .int .i64 v2]) false] => c11 v1 v2 (fun r0 r1 r2 => K (.arr 4 (.int .u64) r0) [.box (.st [.sl (.int .u8) r1, .int .i64 r2]) false])
 | _, _ => none
def sh52 (c39 : T2 R) (av : List S) (es : List Ent) (K : KS R) : Option R :=
 match av, es with
 | [], [] => c39 (fun r0 r1 r2 => K (.st [.int .i64 r0, .arr 4 (.int .u64) r1, .own (.rose (.pair (.int .i64) (.pair (.arr 4 (.int .u64)) .unit))) 0]) [.buf (.rose (.pair (.int .i64) (.pair (.arr 4 (.int .u64)) .unit))) r2 false])
 | _, _ => none
def sh53 (c35 : T2 R) (av : List S) (es : List Ent) (K : KS R) : Option R :=
 match av, es with
 | [], [] => c35 (fun r0 r1 r2 => K (.st [.int .i64 r0, .arr 4 (.int .u64) r1, .own (.rose (.pair (.int .i64) (.pair (.arr 4 (.int .u64)) .unit))) 0]) [.buf (.rose (.pair (.int .i64) (.pair (.arr 4 (.int .u64)) .unit))) r2 false])
 | _, _ => none
def sh54 (c31 : T4 R) (av : List S) (es : List Ent) (K : KS R) : Option R :=
 match av, es with
 | [.sl (.rose (.pair (.int .i64) (.pair (.arr 4 (.int .u64)) .unit))) v1], [] => c31 v1 (fun r0 r1 r2 => K (.st [.int .i64 r0, .arr 4 (.int .u64) r1, .sl (.rose (.pair (.int .i64) (.pair (.arr 4 (.int .u64)) .unit))) r2]) [])
 | _, _ => none
def sh55 (c29 : T4 R) (av : List S) (es : List Ent) (K : KS R) : Option R :=
 match av, es with
 | [.sl (.rose (.pair (.int .i64) (.pair (.arr 4 (.int .u64)) .unit))) v1], [] => c29 v1 (fun r0 r1 r2 => K (.st [.int .i64 r0, .arr 4 (.int .u64) r1, .sl (.rose (.pair (.int .i64) (.pair (.arr 4 (.int .u64)) .unit))) r2]) [])
 | _, _ => none
def sh56 (c42 : T1 R) (av : List S) (es : List Ent) (K : KS R) : Option R :=
 match av, es with
 | [.st [.int .i64 v1, .arr 4 (.int .u64) v2, .sl (.rose (.pair (.int .i64) (.pair (.arr 4 (.int .u64)) .unit))) v3]], [] => c42 v1 v2 v3 (fun r0 r1 r2 => K (.st [.int .i64 r0, .arr 4 (.int .u64) r1, .own (.rose (.pair (.int .i64) (.pair (.arr 4 (.int .u64)) .unit))) 0]) [.buf (.rose (.pair (.int .i64) (.pair (.arr 4 (.int .u64)) .unit))) r2 false])
 | _, _ => none
def sh57 (c41 : T6 R) (av : List S) (es : List Ent) (K : KS R) : Option R :=
 match av, es with
 | [.st [.int .i64 v1, .arr 4 (.int .u64) v2, .sl (.rose (.pair (.int .i64) (.pair (.arr 4 (.int .u64)) .unit))) v3], .st [.int .i64 v4, .arr 4 (.int .u64) v5, .sl (.rose (.pair (.int .i64) (.pair (.arr 4 (.int .u64)) .unit))) v6]], [] => c41 v1 v2 v3 v4 v5 v6 (fun r0 => K (.bool r0) [])
 | _, _ => none
def sh58 (c47 : LI → (LI → Option R) → Option R) (av : List S) (es : List Ent) (K : KS R) : Option R :=
 match av, es with
 | [.arr 4 (.int .u64) v1], [] => c47 v1 (fun r0 => K (.str r0) [])
 | _, _ => none
def sh59 (c52 : T33 R) (av : List S) (es : List Ent) (K : KS R) : Option R :=
 match av, es with
 | [.st [.int .i64 v1, .arr 4 (.int .u64) v2, .sl (.rose (.pair (.int .i64) (.pair (.arr 4 (.int .u64)) .unit))) v3]], [] => c52 v1 v2 v3 (fun r0 r1 r2 r3 r4 => K (.st [.own (.arr 4 (.int .u64)) 0, .sl (.int .i64) r0, .sl (.int .i64) r1, .own (.slice (.int .i64)) 1, .bool r2]) [.buf (.arr 4 (.int .u64)) r3 false, .buf (.slice (.int .i64)) r4 false])
 | _, _ => none
def sh60 (c18 : T34 R) (av : List S) (es : List Ent) (K : KS R) : Option R :=
 match av, es with
 | [.sl (.arr 4 (.int .u64)) v1], [] => c18 v1 (fun r0 r1 => K (.tup [.arr 256 (.int .u8) r0, .int .i64 r1]) [])
 | _, _ => none
def sh61 (c50 : T35 R) (av : List S) (es : List Ent) (K : KS R) : Option R :=
 match av, es with
 | [.arr 256 (.int .u8) v1, .int .i64 v2], [] => c50 v1 v2 (fun r0 => K (.own (.int .u8) 0) [.buf (.int .u8) r0 false])
 | _, _ => none
def sh62 (c59 : T0 R) (av : List S) (es : List Ent) (K : KS R) : Option R :=
 match av, es with
 | [.sl (.int .i64) v1, .int .i64 v2], [] => c59 v1 v2 (fun r0 => K (.bool r0) [])
 | _, _ => none
def sh63 (c56 : T36 R) (av : List S) (es : List Ent) (K : KS R) : Option R :=
 match av, es with
 | [.st [.sl (.arr 4 (.int .u64)) v1, .sl (.int .i64) v2, .sl (.int .i64) v3, .sl (.slice (.int .i64)) v4, .bool v5], .sl (.int .i64) v6, .bool v7, .int .u8 v8], [] => c56 v1 v2 v3 v4 v5 v6 v7 v8 (fun r0 => K (.own (.int .i64) 0) [.buf (.int .i64) r0 false])
 | _, _ => none
def sh64 (c58 : T37 R) (av : List S) (es : List Ent) (K : KS R) : Option R :=
 match av, es with
 | [.sl (.slice (.int .i64)) v1, .sl (.int .i64) v2], [] => c58 v1 v2 (fun r0 => K (.int .i64 r0) [])
 | _, _ => none
def sh65 (c38 : T3 R) (av : List S) (es : List Ent) (K : KS R) : Option R :=
 match av, es with
 | [.st [.int .i64 v1, .arr 4 (.int .u64) v2, .sl (.rose (.pair (.int .i64) (.pair (.arr 4 (.int .u64)) .unit))) v3]], [] => c38 v1 v2 v3 (fun r0 => K (.int .i64 r0) [])
 | _, _ => none
def sh66 (c34 : T3 R) (av : List S) (es : List Ent) (K : KS R) : Option R :=
 match av, es with
 | [.st [.int .i64 v1, .arr 4 (.int .u64) v2, .sl (.rose (.pair (.int .i64) (.pair (.arr 4 (.int .u64)) .unit))) v3]], [] => c34 v1 v2 v3 (fun r0 => K (.int .i64 r0) [])
 | _, _ => none
def sh67 (c24 : T75 R) (av : List S) (es : List Ent) (K : KS R) : Option R :=
 match av, es with
 | [.int .u8 v1, .int .u8 v2], [] => c24 v1 v2 (fun r0 => K (.arr 4 (.int .u64) r0) [])
 | _, _ => none
def sh68 (c21 : LI → (LI → Option R) → Option R) (av : List S) (es : List Ent) (K : KS R) : Option R :=
 match av, es with
 | [.arr 4 (.int .u64) v1], [] => c21 v1 (fun r0 => K (.arr 4 (.int .u64) r0) [])
 | _, _ => none
def sh69 (c22 : LI → (LI → Option R) → Option R) (av : List S) (es : List Ent) (K : KS R) : Option R :=
 match av, es with
 | [.sl (.int .u8) v1], [] => c22 v1 (fun r0 => K (.arr 4 (.int .u64) r0) [])
 | _, _ => none
def sh70 (c43 : T24 R) (av : List S) (es : List Ent) (K : KS R) : Option R :=
 match av, es with
 | [.int .i64 v1, .sl (.rose (.pair (.int .i64) (.pair (.arr 4 (.int .u64)) .unit))) v2], [] => c43 v1 v2 (fun r0 => K (.own (.rose (.pair (.int .i64) (.pair (.arr 4 (.int .u64)) .unit))) 0) [.buf (.rose (.pair (.int .i64) (.pair (.arr 4 (.int .u64)) .unit))) r0 false])
 | _, _ => none
def sh71 (c33 : T1 R) (av : List S) (es : List Ent) (K : KS R) : Option R :=
 match av, es with
 | [.st [.int .i64 v1, .arr 4 (.int .u64) v2, .sl (.rose (.pair (.int .i64) (.pair (.arr 4 (.int .u64)) .unit))) v3]], [] => c33 v1 v2 v3 (fun r0 r1 r2 => K (.st [.int .i64 r0, .arr 4 (.int .u64) r1, .own (.rose (.pair (.int .i64) (.pair (.arr 4 (.int .u64)) .unit))) 0]) [.buf (.rose (.pair (.int .i64) (.pair (.arr 4 (.int .u64)) .unit))) r2 false])
 | _, _ => none
def sh72 (c23 : T15 R) (av : List S) (es : List Ent) (K : KS R) : Option R :=
 match av, es with
 | [.arr 4 (.int .u64) v1, .arr 4 (.int .u64) v2], [] => c23 v1 v2 (fun r0 => K (.arr 4 (.int .u64) r0) [])
 | _, _ => none
def sh73 (c44 : T50 R) (av : List S) (es : List Ent) (K : KS R) : Option R :=
 match av, es with
 | [.sl (.rose (.pair (.int .i64) (.pair (.arr 4 (.int .u64)) .unit))) v1, .st [.int .i64 v2, .arr 4 (.int .u64) v3, .sl (.rose (.pair (.int .i64) (.pair (.arr 4 (.int .u64)) .unit))) v4]], [] => c44 v1 v2 v3 v4 (fun r0 => K (.sl (.rose (.pair (.int .i64) (.pair (.arr 4 (.int .u64)) .unit))) r0) [])
 | _, _ => none
def sh74 (c20 : LI → (LI → Option R) → Option R) (av : List S) (es : List Ent) (K : KS R) : Option R :=
 match av, es with
 | [.arr 4 (.int .u64) v1], [] => c20 v1 (fun r0 => K (.own (.int .u8) 0) [.buf (.int .u8) r0 false])
 | _, _ => none
def sh75 (c48 : Int → (LI → Option R) → Option R) (av : List S) (es : List Ent) (K : KS R) : Option R :=
 match av, es with
 | [.int .u8 v1], [] => c48 v1 (fun r0 => K (.str r0) [])
 | _, _ => none
def sh76 (c55 : T12 R) (av : List S) (es : List Ent) (K : KS R) : Option R :=
 match av, es with
 | [.ptr 0 [], .st [.int .i64 v1, .arr 4 (.int .u64) v2, .sl (.rose (.pair (.int .i64) (.pair (.arr 4 (.int .u64)) .unit))) v3]], [.box (.st [.own (.arr 4 (.int .u64)) 1, .own (.int .i64) 2, .own (.int .i64) 3, .own (.slice (.int .i64)) 4, .bool v4]) false, .buf (.arr 4 (.int .u64)) v5 false, .buf (.int .i64) v6 false, .buf (.int .i64) v7 false, .buf (.slice (.int .i64)) v8 false] => c55 v1 v2 v3 v4 v5 v6 v7 v8 (fun r0 r1 r2 r3 r4 r5 r6 r7 r8 r9 => K (.st [.sl (.arr 4 (.int .u64)) r0, .sl (.int .i64) r1, .sl (.int .i64) r2, .sl (.slice (.int .i64)) r3, .bool r4]) [.box (.st [.own (.arr 4 (.int .u64)) 1, .own (.int .i64) 2, .own (.int .i64) 3, .own (.slice (.int .i64)) 4, .bool r5]) false, .buf (.arr 4 (.int .u64)) r6 false, .buf (.int .i64) r7 false, .buf (.int .i64) r8 false, .buf (.slice (.int .i64)) r9 false])
 | _, _ => none
def sh77 (c27 : T43 R) (av : List S) (es : List Ent) (K : KS R) : Option R :=
 match av, es with
 | [.sl (.arr 4 (.int .u64)) v1, .int .u8 v2, .int .u8 v3], [] => c27 v1 v2 v3 (fun r0 => K (.bool r0) [])
 | _, _ => none
def sh78 (c54 : T57 R) (av : List S) (es : List Ent) (K : KS R) : Option R :=
 match av, es with
 | [.st [.sl (.arr 4 (.int .u64)) v1, .sl (.int .i64) v2, .sl (.int .i64) v3, .sl (.slice (.int .i64)) v4, .bool v5], .own .bool 0, .sl (.int .i64) v6, .int .u8 v7], [.buf .bool v8 false] => c54 v1 v2 v3 v4 v5 v6 v7 v8 (fun r0 => K (.tup []) [.buf .bool r0 false])
 | _, _ => none
def sh79 (c60 : LB → (LI → Option R) → Option R) (av : List S) (es : List Ent) (K : KS R) : Option R :=
 match av, es with
 | [.sl .bool v1], [] => c60 v1 (fun r0 => K (.own (.int .i64) 0) [.buf (.int .i64) r0 false])
 | _, _ => none
def sh80 (c61 : T14 R) (av : List S) (es : List Ent) (K : KS R) : Option R :=
 match av, es with
 | [.sl (.int .i64) v1, .sl (.int .i64) v2], [] => c61 v1 v2 (fun r0 => K (.bool r0) [])
 | _, _ => none
def sh81 (c26 : LB → (LI → Option R) → Option R) (av : List S) (es : List Ent) (K : KS R) : Option R :=
 match av, es with
 | [.arr 256 .bool v1], [] => c26 v1 (fun r0 => K (.arr 4 (.int .u64) r0) [])
 | _, _ => none
def sh82 (c19 : T0 R) (av : List S) (es : List Ent) (K : KS R) : Option R :=
 match av, es with
 | [.arr 4 (.int .u64) v1, .int .u8 v2], [] => c19 v1 v2 (fun r0 => K (.bool r0) [])
 | _, _ => none
def sh83 (c32 : T10 R) (av : List S) (es : List Ent) (K : KS R) : Option R :=
 match av, es with
 | [.st [.int .i64 v1, .arr 4 (.int .u64) v2, .sl (.rose (.pair (.int .i64) (.pair (.arr 4 (.int .u64)) .unit))) v3], .st [.int .i64 v4, .arr 4 (.int .u64) v5, .sl (.rose (.pair (.int .i64) (.pair (.arr 4 (.int .u64)) .unit))) v6]], [] => c32 v1 v2 v3 v4 v5 v6 (fun r0 => K (.int .i64 r0) [])
 | _, _ => none
def sh84 (c36 : T6 R) (av : List S) (es : List Ent) (K : KS R) : Option R :=
 match av, es with
 | [.st [.int .i64 v1, .arr 4 (.int .u64) v2, .sl (.rose (.pair (.int .i64) (.pair (.arr 4 (.int .u64)) .unit))) v3], .st [.int .i64 v4, .arr 4 (.int .u64) v5, .sl (.rose (.pair (.int .i64) (.pair (.arr 4 (.int .u64)) .unit))) v6]], [] => c36 v1 v2 v3 v4 v5 v6 (fun r0 => K (.bool r0) [])
 | _, _ => none
def sh85 (c46 : T0 R) (av : List S) (es : List Ent) (K : KS R) : Option R :=
 match av, es with
 | [.str v1, .int .u8 v2], [] => c46 v1 v2 (fun r0 => K (.bool r0) [])
 | _, _ => none
def sh86 (c53 : T42 R) (av : List S) (es : List Ent) (K : KS R) : Option R :=
 match av, es with
 | [.ptr 0 [], .sl (.int .i64) v1, .sl (.int .i64) v2], [.box (.st [.own (.arr 4 (.int .u64)) 1, .own (.int .i64) 2, .own (.int .i64) 3, .own (.slice (.int .i64)) 4, .bool v3]) false, .buf (.arr 4 (.int .u64)) v4 false, .buf (.int .i64) v5 false, .buf (.int .i64) v6 false, .buf (.slice (.int .i64)) v7 false] => c53 v1 v2 v3 v4 v5 v6 v7 (fun r0 r1 r2 r3 r4 => K (.tup []) [.box (.st [.own (.arr 4 (.int .u64)) 1, .own (.int .i64) 2, .own (.int .i64) 3, .own (.slice (.int .i64)) 4, .bool r0]) false, .buf (.arr 4 (.int .u64)) r1 false, .buf (.int .i64) r2 false, .buf (.int .i64) r3 false, .buf (.slice (.int .i64)) r4 false])
 | _, _ => none
def sh87 (c25 : T14 R) (av : List S) (es : List Ent) (K : KS R) : Option R :=
 match av, es with
 | [.arr 4 (.int .u64) v1, .arr 4 (.int .u64) v2], [] => c25 v1 v2 (fun r0 => K (.bool r0) [])
 | _, _ => none
end
end Go.Ab.T
