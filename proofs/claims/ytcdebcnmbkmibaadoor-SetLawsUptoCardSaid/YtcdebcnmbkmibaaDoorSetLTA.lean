/- SetLTA: a part of the proofs of this seat's statements. -/
import Derived.Test.YtcdebcnmbkmibaaDoorDef
import Derived.Test.YtcdebcnmbkmibaaDoorProg
import Derived.KernelRfl



namespace Go.Ab.T

open Go Go.Ab Go.Proofs

set_option maxRecDepth 100000

set_option linter.unusedVariables false

noncomputable section

def deBruijn : List Int := [0, 1, 56, 2, 57, 49, 28, 3, 61, 58, 42, 50, 38, 29, 17, 4, 62, 47, 59, 36, 45, 43, 51, 22, 53, 39, 33, 30, 24, 18, 12, 5, 63, 55, 48, 27, 60, 41, 37, 16, 46, 35, 44, 21, 52, 32, 23, 11, 54, 26, 40, 15, 34, 20, 31, 10, 25, 14, 19, 9, 13, 8, 7, 6]

def glob : Nat → Option S := fun g => if g = 0 then some (.arr 64 (.int .u8) deBruijn) else none

def raw : FuncId → Bool := fun f => [].contains f

def byteset_Range_l3_b {R : Type} (l_3 : Int → (List Int) → ((List Int) → (List Int) → Option R) → Int → (List Int) → Option R) (v3 : Int) (v5 : (List Int)) (Ke0 : (List Int) → (List Int) → Option R) (v4 : Int) (v6 : (List Int)) : Option R :=
    bif decide (v4 ≤ (IntKind.i64.wrap v3)) then
    (gd (decide (0 ≤ (IntKind.i64.wrap (Int.tdiv v4 64))))
     (gd (decide ((IntKind.i64.wrap (Int.tdiv v4 64)) < 4))
      (gd (decide (0 ≤ (Int.tmod v4 64)))
       (gd (decide (0 ≤ (IntKind.i64.wrap (Int.tdiv v4 64))))
        (gd (decide ((IntKind.i64.wrap (Int.tdiv v4 64)) < 4))
         (l_3 v3 v5 Ke0 (IntKind.i64.wrap (v4 + 1)) (v6.set (Int.toNat (IntKind.i64.wrap (Int.tdiv v4 64))) (bvop .u64 .or (v6.getD (Int.toNat (IntKind.i64.wrap (Int.tdiv v4 64))) (0 : Int)) (shl .u64 1 (Int.tmod v4 64))))))))))
    else (Ke0 v5 v6)

def byteset_Range_b {R : Type} (l_3 : Int → (List Int) → ((List Int) → (List Int) → Option R) → Int → (List Int) → Option R) (v1 : Int) (v2 : Int) (K : (List Int) → Option R) : Option R :=
    l_3 v2 (List.replicate 4 (0 : Int))
    (fun (v7 : (List Int)) (v8 : (List Int)) =>
     K v8) (IntKind.i64.wrap v1) (List.replicate 4 (0 : Int))

def byteset_Range_l3 {R : Type} (kf : Nat) : Nat → Int → (List Int) → ((List Int) → (List Int) → Option R) → Int → (List Int) → Option R
  | 0, _, _, _, _, _ => none
  | k + 1, y0, y1, y2, y3, y4 => byteset_Range_l3_b (byteset_Range_l3 kf k) y0 y1 y2 y3 y4

def byteset_Range {R : Type} (kf : Nat) (v1 : Int) (v2 : Int) (K : (List Int) → Option R) : Option R := byteset_Range_b (byteset_Range_l3 kf kf) v1 v2 K

def byteset_Not_1_b {R : Type} (v1 : Int) (v2 : Int) (K : Int → Option R) : Option R :=
    let v3 : Int := (bvop .u64 .xor (if IntKind.u64.signed then -1 else IntKind.u64.max) v1)
    K v3

def byteset_Not_1 {R : Type} (v1 : Int) (v2 : Int) (K : Int → Option R) : Option R := byteset_Not_1_b v1 v2 K

def byteset_with_l3_b {R : Type} (c_byteset_Not_1 : Int → Int → (Int → Option R) → Option R) (l_3 : (List Int) → (List Int) → (List Int) → ((List Int) → (List Int) → Option R) → Int → (List Int) → Option R) (v4 : (List Int)) (v5 : (List Int)) (v6 : (List Int)) (Ke0 : (List Int) → (List Int) → Option R) (v3 : Int) (v7 : (List Int)) : Option R :=
    bif decide (v3 < 4) then
    (gd (decide (0 ≤ v3))
     (gd (decide (v3 < 4))
      (gd (decide (0 ≤ v3))
       (gd (decide (v3 < 4))
        (c_byteset_Not_1 (v4.getD (Int.toNat v3) (0 : Int)) (v5.getD (Int.toNat v3) (0 : Int)) (fun (v8 : Int) =>
          gd (decide (0 ≤ v3))
          (gd (decide (v3 < 4))
           (l_3 v4 v5 v6 Ke0 (IntKind.i64.wrap (v3 + 1)) (v7.set (Int.toNat v3) v8)))))))))
    else (Ke0 v6 v7)

def byteset_with_b {R : Type} (c_byteset_Not_1 : Int → Int → (Int → Option R) → Option R) (l_3 : (List Int) → (List Int) → (List Int) → ((List Int) → (List Int) → Option R) → Int → (List Int) → Option R) (v1 : (List Int)) (v2 : (List Int)) (K : (List Int) → Option R) : Option R :=
    l_3 v1 v2 (List.replicate 4 (0 : Int))
    (fun (v9 : (List Int)) (v10 : (List Int)) =>
     K v10) 0 (List.replicate 4 (0 : Int))

def byteset_with_l3 {R : Type} (kf : Nat) : Nat → (List Int) → (List Int) → (List Int) → ((List Int) → (List Int) → Option R) → Int → (List Int) → Option R
  | 0, _, _, _, _, _, _ => none
  | k + 1, y0, y1, y2, y3, y4, y5 => byteset_with_l3_b byteset_Not_1 (byteset_with_l3 kf k) y0 y1 y2 y3 y4 y5

def byteset_with {R : Type} (kf : Nat) (v1 : (List Int)) (v2 : (List Int)) (K : (List Int) → Option R) : Option R := byteset_with_b byteset_Not_1 (byteset_with_l3 kf kf) v1 v2 K

def byteset_Not_b {R : Type} (c_byteset_with : (List Int) → (List Int) → ((List Int) → Option R) → Option R) (v1 : (List Int)) (K : (List Int) → Option R) : Option R :=
    c_byteset_with v1 v1 (fun (v2 : (List Int)) =>
     K v2)

def byteset_Not {R : Type} (kf : Nat) (v1 : (List Int)) (K : (List Int) → Option R) : Option R := byteset_Not_b (byteset_with kf) v1 K

def byteset_And_1_b {R : Type} (v1 : Int) (v2 : Int) (K : Int → Option R) : Option R :=
    K (bvop .u64 .and v1 v2)

def byteset_And_1 {R : Type} (v1 : Int) (v2 : Int) (K : Int → Option R) : Option R := byteset_And_1_b v1 v2 K

def byteset_with_s1_l3_b {R : Type} (c_byteset_And_1 : Int → Int → (Int → Option R) → Option R) (l_3 : (List Int) → (List Int) → (List Int) → ((List Int) → (List Int) → Option R) → Int → (List Int) → Option R) (v4 : (List Int)) (v5 : (List Int)) (v6 : (List Int)) (Ke0 : (List Int) → (List Int) → Option R) (v3 : Int) (v7 : (List Int)) : Option R :=
    bif decide (v3 < 4) then
    (gd (decide (0 ≤ v3))
     (gd (decide (v3 < 4))
      (gd (decide (0 ≤ v3))
       (gd (decide (v3 < 4))
        (c_byteset_And_1 (v4.getD (Int.toNat v3) (0 : Int)) (v5.getD (Int.toNat v3) (0 : Int)) (fun (v8 : Int) =>
          gd (decide (0 ≤ v3))
          (gd (decide (v3 < 4))
           (l_3 v4 v5 v6 Ke0 (IntKind.i64.wrap (v3 + 1)) (v7.set (Int.toNat v3) v8)))))))))
    else (Ke0 v6 v7)

def byteset_with_s1_b {R : Type} (c_byteset_And_1 : Int → Int → (Int → Option R) → Option R) (l_3 : (List Int) → (List Int) → (List Int) → ((List Int) → (List Int) → Option R) → Int → (List Int) → Option R) (v1 : (List Int)) (v2 : (List Int)) (K : (List Int) → Option R) : Option R :=
    l_3 v1 v2 (List.replicate 4 (0 : Int))
    (fun (v9 : (List Int)) (v10 : (List Int)) =>
     K v10) 0 (List.replicate 4 (0 : Int))

def byteset_with_s1_l3 {R : Type} (kf : Nat) : Nat → (List Int) → (List Int) → (List Int) → ((List Int) → (List Int) → Option R) → Int → (List Int) → Option R
  | 0, _, _, _, _, _, _ => none
  | k + 1, y0, y1, y2, y3, y4, y5 => byteset_with_s1_l3_b byteset_And_1 (byteset_with_s1_l3 kf k) y0 y1 y2 y3 y4 y5

def byteset_with_s1 {R : Type} (kf : Nat) (v1 : (List Int)) (v2 : (List Int)) (K : (List Int) → Option R) : Option R := byteset_with_s1_b byteset_And_1 (byteset_with_s1_l3 kf kf) v1 v2 K

def byteset_And_b {R : Type} (c_byteset_with_s1 : (List Int) → (List Int) → ((List Int) → Option R) → Option R) (v1 : (List Int)) (v2 : (List Int)) (K : (List Int) → Option R) : Option R :=
    c_byteset_with_s1 v1 v2 (fun (v3 : (List Int)) =>
     K v3)

def byteset_And {R : Type} (kf : Nat) (v1 : (List Int)) (v2 : (List Int)) (K : (List Int) → Option R) : Option R := byteset_And_b (byteset_with_s1 kf) v1 v2 K

def byteset_Has_b {R : Type} (v1 : (List Int)) (v2 : Int) (K : Bool → Option R) : Option R :=
    gd (decide (0 ≤ (IntKind.u8.wrap (Int.tdiv v2 64))))
    (gd (decide ((IntKind.u8.wrap (Int.tdiv v2 64)) < 4))
     (gd (decide (0 ≤ (Int.tmod v2 64)))
      (K (decide ((bvop .u64 .and (shr .u64 (v1.getD (Int.toNat (IntKind.u8.wrap (Int.tdiv v2 64))) (0 : Int)) (Int.tmod v2 64)) 1) = 1)))))

def byteset_Has {R : Type} (v1 : (List Int)) (v2 : Int) (K : Bool → Option R) : Option R := byteset_Has_b v1 v2 K

def byteset_Or_1_b {R : Type} (v1 : Int) (v2 : Int) (K : Int → Option R) : Option R :=
    K (bvop .u64 .or v1 v2)

def byteset_Or_1 {R : Type} (v1 : Int) (v2 : Int) (K : Int → Option R) : Option R := byteset_Or_1_b v1 v2 K

def byteset_with_s2_l3_b {R : Type} (c_byteset_Or_1 : Int → Int → (Int → Option R) → Option R) (l_3 : (List Int) → (List Int) → (List Int) → ((List Int) → (List Int) → Option R) → Int → (List Int) → Option R) (v4 : (List Int)) (v5 : (List Int)) (v6 : (List Int)) (Ke0 : (List Int) → (List Int) → Option R) (v3 : Int) (v7 : (List Int)) : Option R :=
    bif decide (v3 < 4) then
    (gd (decide (0 ≤ v3))
     (gd (decide (v3 < 4))
      (gd (decide (0 ≤ v3))
       (gd (decide (v3 < 4))
        (c_byteset_Or_1 (v4.getD (Int.toNat v3) (0 : Int)) (v5.getD (Int.toNat v3) (0 : Int)) (fun (v8 : Int) =>
          gd (decide (0 ≤ v3))
          (gd (decide (v3 < 4))
           (l_3 v4 v5 v6 Ke0 (IntKind.i64.wrap (v3 + 1)) (v7.set (Int.toNat v3) v8)))))))))
    else (Ke0 v6 v7)

def byteset_with_s2_b {R : Type} (c_byteset_Or_1 : Int → Int → (Int → Option R) → Option R) (l_3 : (List Int) → (List Int) → (List Int) → ((List Int) → (List Int) → Option R) → Int → (List Int) → Option R) (v1 : (List Int)) (v2 : (List Int)) (K : (List Int) → Option R) : Option R :=
    l_3 v1 v2 (List.replicate 4 (0 : Int))
    (fun (v9 : (List Int)) (v10 : (List Int)) =>
     K v10) 0 (List.replicate 4 (0 : Int))

def byteset_with_s2_l3 {R : Type} (kf : Nat) : Nat → (List Int) → (List Int) → (List Int) → ((List Int) → (List Int) → Option R) → Int → (List Int) → Option R
  | 0, _, _, _, _, _, _ => none
  | k + 1, y0, y1, y2, y3, y4, y5 => byteset_with_s2_l3_b byteset_Or_1 (byteset_with_s2_l3 kf k) y0 y1 y2 y3 y4 y5

def byteset_with_s2 {R : Type} (kf : Nat) (v1 : (List Int)) (v2 : (List Int)) (K : (List Int) → Option R) : Option R := byteset_with_s2_b byteset_Or_1 (byteset_with_s2_l3 kf kf) v1 v2 K

def byteset_Or_b {R : Type} (c_byteset_with_s2 : (List Int) → (List Int) → ((List Int) → Option R) → Option R) (v1 : (List Int)) (v2 : (List Int)) (K : (List Int) → Option R) : Option R :=
    c_byteset_with_s2 v1 v2 (fun (v3 : (List Int)) =>
     K v3)

def byteset_Or {R : Type} (kf : Nat) (v1 : (List Int)) (v2 : (List Int)) (K : (List Int) → Option R) : Option R := byteset_Or_b (byteset_with_s2 kf) v1 v2 K

def byteset_Parts_l3_b {R : Type} (c_byteset_Not : (List Int) → ((List Int) → Option R) → Option R) (c_byteset_And : (List Int) → (List Int) → ((List Int) → Option R) → Option R) (c_byteset_Has : (List Int) → Int → (Bool → Option R) → Option R) (c_byteset_Or : (List Int) → (List Int) → ((List Int) → Option R) → Option R) (l_3 : ((List (List Int)) → Option R) → (List (List Int)) → Int → Int → (List (List Int)) → Option R) (l_7 : ((List (List Int)) → Int → Int → (List (List Int)) → Option R) → (List (List Int)) → Int → Int → Int → Int → (List Int) → (List (List Int)) → (List (List Int)) → Option R) (l_10 : (List (List Int)) → Int → Int → Int → Int → Int → (List Int) → (List (List Int)) → (List (List Int)) → ((List (List Int)) → Int → Int → Int → Int → (List Int) → (List (List Int)) → (List (List Int)) → Option R) → Int → (List (List Int)) → Option R) (l_21 : ((List (List Int)) → Option R) → Int → (List (List Int)) → (List (List Int)) → (List Int) → Option R) (l_25 : Int → Int → Int → (List (List Int)) → (Int → (List (List Int)) → (List (List Int)) → (List Int) → Option R) → Int → (List (List Int)) → (List Int) → Option R) (Ke0 : (List (List Int)) → Option R) (v3 : (List (List Int))) (v4 : Int) (v5 : Int) (v6 : (List (List Int))) : Option R :=
    bif decide (v5 < v4) then
    (gd (decide (0 ≤ v5))
     (gd (decide (v5 < (v3.length : Int)))
      (l_7
       (fun (v37 : (List (List Int))) (v38 : Int) (v39 : Int) (v40 : (List (List Int))) =>
        l_3 Ke0 v37 v38 (IntKind.i64.wrap (v39 + 1)) v40) v3 v4 v5 (v6.length : Int) 0 (v3.getD (Int.toNat v5) (List.replicate 4 (0 : Int))) ([] : List (List Int)) v6)))
    else (Ke0 v6)

def byteset_Parts_l7_b {R : Type} (c_byteset_Not : (List Int) → ((List Int) → Option R) → Option R) (c_byteset_And : (List Int) → (List Int) → ((List Int) → Option R) → Option R) (c_byteset_Has : (List Int) → Int → (Bool → Option R) → Option R) (c_byteset_Or : (List Int) → (List Int) → ((List Int) → Option R) → Option R) (l_3 : ((List (List Int)) → Option R) → (List (List Int)) → Int → Int → (List (List Int)) → Option R) (l_7 : ((List (List Int)) → Int → Int → (List (List Int)) → Option R) → (List (List Int)) → Int → Int → Int → Int → (List Int) → (List (List Int)) → (List (List Int)) → Option R) (l_10 : (List (List Int)) → Int → Int → Int → Int → Int → (List Int) → (List (List Int)) → (List (List Int)) → ((List (List Int)) → Int → Int → Int → Int → (List Int) → (List (List Int)) → (List (List Int)) → Option R) → Int → (List (List Int)) → Option R) (l_21 : ((List (List Int)) → Option R) → Int → (List (List Int)) → (List (List Int)) → (List Int) → Option R) (l_25 : Int → Int → Int → (List (List Int)) → (Int → (List (List Int)) → (List (List Int)) → (List Int) → Option R) → Int → (List (List Int)) → (List Int) → Option R) (Ke2 : (List (List Int)) → Int → Int → (List (List Int)) → Option R) (v7 : (List (List Int))) (v8 : Int) (v9 : Int) (v10 : Int) (v11 : Int) (v12 : (List Int)) (v13 : (List (List Int))) (v14 : (List (List Int))) : Option R :=
    bif decide (v11 < v10) then
    (gd (decide (0 ≤ v11))
     (gd (decide (v11 < (v14.length : Int)))
      (c_byteset_And (v14.getD (Int.toNat v11) (List.replicate 4 (0 : Int))) v12 (fun (v15 : (List Int)) =>
        c_byteset_Not v12 (fun (v16 : (List Int)) =>
         c_byteset_And (v14.getD (Int.toNat v11) (List.replicate 4 (0 : Int))) v16 (fun (v17 : (List Int)) =>
          l_10 v7 v8 v9 v10 v11 (([v15, v17] : List (List Int)).length : Int) v12 v14 ([v15, v17] : List (List Int))
          (fun (v29 : (List (List Int))) (v30 : Int) (v31 : Int) (v32 : Int) (v33 : Int) (v34 : (List Int)) (v35 : (List (List Int))) (v36 : (List (List Int))) =>
           l_7 Ke2 v29 v30 v31 v32 (IntKind.i64.wrap (v33 + 1)) v34 v35 v36) 0 v13))))))
    else (Ke2 v7 v8 v9 v13)

def byteset_Parts_l10_b {R : Type} (c_byteset_Not : (List Int) → ((List Int) → Option R) → Option R) (c_byteset_And : (List Int) → (List Int) → ((List Int) → Option R) → Option R) (c_byteset_Has : (List Int) → Int → (Bool → Option R) → Option R) (c_byteset_Or : (List Int) → (List Int) → ((List Int) → Option R) → Option R) (l_3 : ((List (List Int)) → Option R) → (List (List Int)) → Int → Int → (List (List Int)) → Option R) (l_7 : ((List (List Int)) → Int → Int → (List (List Int)) → Option R) → (List (List Int)) → Int → Int → Int → Int → (List Int) → (List (List Int)) → (List (List Int)) → Option R) (l_10 : (List (List Int)) → Int → Int → Int → Int → Int → (List Int) → (List (List Int)) → (List (List Int)) → ((List (List Int)) → Int → Int → Int → Int → (List Int) → (List (List Int)) → (List (List Int)) → Option R) → Int → (List (List Int)) → Option R) (l_21 : ((List (List Int)) → Option R) → Int → (List (List Int)) → (List (List Int)) → (List Int) → Option R) (l_25 : Int → Int → Int → (List (List Int)) → (Int → (List (List Int)) → (List (List Int)) → (List Int) → Option R) → Int → (List (List Int)) → (List Int) → Option R) (v18 : (List (List Int))) (v19 : Int) (v20 : Int) (v21 : Int) (v22 : Int) (v23 : Int) (v25 : (List Int)) (v27 : (List (List Int))) (v28 : (List (List Int))) (Ke4 : (List (List Int)) → Int → Int → Int → Int → (List Int) → (List (List Int)) → (List (List Int)) → Option R) (v24 : Int) (v26 : (List (List Int))) : Option R :=
    bif decide (v24 < v23) then
    (gd (decide (0 ≤ v24))
     (gd (decide (v24 < (v28.length : Int)))
      (bif (!(decide ((v28.getD (Int.toNat v24) (List.replicate 4 (0 : Int))) = (List.replicate 4 (0 : Int))))) then
       (gd (decide (v26.length + ([(v28.getD (Int.toNat v24) (List.replicate 4 (0 : Int)))] : List (List Int)).length < SMALL))
        (l_10 v18 v19 v20 v21 v22 v23 v25 v27 v28 Ke4 (IntKind.i64.wrap (v24 + 1)) (v26 ++ ([(v28.getD (Int.toNat v24) (List.replicate 4 (0 : Int)))] : List (List Int)))))
       else (l_10 v18 v19 v20 v21 v22 v23 v25 v27 v28 Ke4 (IntKind.i64.wrap (v24 + 1)) v26))))
    else (Ke4 v18 v19 v20 v21 v22 v25 v26 v27)

def byteset_Parts_l21_b {R : Type} (c_byteset_Not : (List Int) → ((List Int) → Option R) → Option R) (c_byteset_And : (List Int) → (List Int) → ((List Int) → Option R) → Option R) (c_byteset_Has : (List Int) → Int → (Bool → Option R) → Option R) (c_byteset_Or : (List Int) → (List Int) → ((List Int) → Option R) → Option R) (l_3 : ((List (List Int)) → Option R) → (List (List Int)) → Int → Int → (List (List Int)) → Option R) (l_7 : ((List (List Int)) → Int → Int → (List (List Int)) → Option R) → (List (List Int)) → Int → Int → Int → Int → (List Int) → (List (List Int)) → (List (List Int)) → Option R) (l_10 : (List (List Int)) → Int → Int → Int → Int → Int → (List Int) → (List (List Int)) → (List (List Int)) → ((List (List Int)) → Int → Int → Int → Int → (List Int) → (List (List Int)) → (List (List Int)) → Option R) → Int → (List (List Int)) → Option R) (l_21 : ((List (List Int)) → Option R) → Int → (List (List Int)) → (List (List Int)) → (List Int) → Option R) (l_25 : Int → Int → Int → (List (List Int)) → (Int → (List (List Int)) → (List (List Int)) → (List Int) → Option R) → Int → (List (List Int)) → (List Int) → Option R) (Ke6 : (List (List Int)) → Option R) (v42 : Int) (v43 : (List (List Int))) (v44 : (List (List Int))) (v45 : (List Int)) : Option R :=
    bif decide (v42 < 256) then
    (c_byteset_Has v45 (IntKind.u8.wrap v42) (fun (v46 : Bool) =>
      bif v46 then
      (l_21 Ke6 (IntKind.i64.wrap (v42 + 1)) v43 v44 v45)
      else (l_25 v42 v42 (v43.length : Int) v43
       (fun (v56 : Int) (v57 : (List (List Int))) (v58 : (List (List Int))) (v59 : (List Int)) =>
        l_21 Ke6 (IntKind.i64.wrap (v56 + 1)) v57 v58 v59) 0 v44 v45)))
    else (Ke6 v44)

def byteset_Parts_l25_b {R : Type} (c_byteset_Not : (List Int) → ((List Int) → Option R) → Option R) (c_byteset_And : (List Int) → (List Int) → ((List Int) → Option R) → Option R) (c_byteset_Has : (List Int) → Int → (Bool → Option R) → Option R) (c_byteset_Or : (List Int) → (List Int) → ((List Int) → Option R) → Option R) (l_3 : ((List (List Int)) → Option R) → (List (List Int)) → Int → Int → (List (List Int)) → Option R) (l_7 : ((List (List Int)) → Int → Int → (List (List Int)) → Option R) → (List (List Int)) → Int → Int → Int → Int → (List Int) → (List (List Int)) → (List (List Int)) → Option R) (l_10 : (List (List Int)) → Int → Int → Int → Int → Int → (List Int) → (List (List Int)) → (List (List Int)) → ((List (List Int)) → Int → Int → Int → Int → (List Int) → (List (List Int)) → (List (List Int)) → Option R) → Int → (List (List Int)) → Option R) (l_21 : ((List (List Int)) → Option R) → Int → (List (List Int)) → (List (List Int)) → (List Int) → Option R) (l_25 : Int → Int → Int → (List (List Int)) → (Int → (List (List Int)) → (List (List Int)) → (List Int) → Option R) → Int → (List (List Int)) → (List Int) → Option R) (v47 : Int) (v48 : Int) (v49 : Int) (v51 : (List (List Int))) (Ke8 : Int → (List (List Int)) → (List (List Int)) → (List Int) → Option R) (v50 : Int) (v52 : (List (List Int))) (v53 : (List Int)) : Option R :=
    bif decide (v50 < v49) then
    (gd (decide (0 ≤ v50))
     (gd (decide (v50 < (v51.length : Int)))
      (c_byteset_Has (v51.getD (Int.toNat v50) (List.replicate 4 (0 : Int))) (IntKind.u8.wrap v47) (fun (v54 : Bool) =>
        bif v54 then
        (gd (decide (v52.length + ([(v51.getD (Int.toNat v50) (List.replicate 4 (0 : Int)))] : List (List Int)).length < SMALL))
         (c_byteset_Or v53 (v51.getD (Int.toNat v50) (List.replicate 4 (0 : Int))) (fun (v55 : (List Int)) =>
           l_25 v47 v48 v49 v51 Ke8 (IntKind.i64.wrap (v50 + 1)) (v52 ++ ([(v51.getD (Int.toNat v50) (List.replicate 4 (0 : Int)))] : List (List Int))) v55)))
        else (l_25 v47 v48 v49 v51 Ke8 (IntKind.i64.wrap (v50 + 1)) v52 v53)))))
    else (Ke8 v48 v51 v52 v53)

def byteset_Parts_b {R : Type} (c_byteset_Not : (List Int) → ((List Int) → Option R) → Option R) (c_byteset_And : (List Int) → (List Int) → ((List Int) → Option R) → Option R) (c_byteset_Has : (List Int) → Int → (Bool → Option R) → Option R) (c_byteset_Or : (List Int) → (List Int) → ((List Int) → Option R) → Option R) (l_3 : ((List (List Int)) → Option R) → (List (List Int)) → Int → Int → (List (List Int)) → Option R) (l_7 : ((List (List Int)) → Int → Int → (List (List Int)) → Option R) → (List (List Int)) → Int → Int → Int → Int → (List Int) → (List (List Int)) → (List (List Int)) → Option R) (l_10 : (List (List Int)) → Int → Int → Int → Int → Int → (List Int) → (List (List Int)) → (List (List Int)) → ((List (List Int)) → Int → Int → Int → Int → (List Int) → (List (List Int)) → (List (List Int)) → Option R) → Int → (List (List Int)) → Option R) (l_21 : ((List (List Int)) → Option R) → Int → (List (List Int)) → (List (List Int)) → (List Int) → Option R) (l_25 : Int → Int → Int → (List (List Int)) → (Int → (List (List Int)) → (List (List Int)) → (List Int) → Option R) → Int → (List (List Int)) → (List Int) → Option R) (v1 : (List (List Int))) (K : (List (List Int)) → Option R) : Option R :=
    c_byteset_Not (List.replicate 4 (0 : Int)) (fun (v2 : (List Int)) =>
     l_3
     (fun (v41 : (List (List Int))) =>
      l_21
      (fun (v60 : (List (List Int))) =>
       K v60) 0 v41 ([] : List (List Int)) (List.replicate 4 (0 : Int))) v1 (v1.length : Int) 0 ([v2] : List (List Int)))

def byteset_Parts_l10 {R : Type} (kf : Nat) : Nat → (List (List Int)) → Int → Int → Int → Int → Int → (List Int) → (List (List Int)) → (List (List Int)) → ((List (List Int)) → Int → Int → Int → Int → (List Int) → (List (List Int)) → (List (List Int)) → Option R) → Int → (List (List Int)) → Option R
  | 0, _, _, _, _, _, _, _, _, _, _, _, _ => none
  | k + 1, y0, y1, y2, y3, y4, y5, y6, y7, y8, y9, y10, y11 => byteset_Parts_l10_b (byteset_Not kf) (byteset_And kf) byteset_Has (byteset_Or kf) (fun _ _ _ _ _ => none) (fun _ _ _ _ _ _ _ _ _ => none) (byteset_Parts_l10 kf k) (fun _ _ _ _ _ => none) (fun _ _ _ _ _ _ _ _ => none) y0 y1 y2 y3 y4 y5 y6 y7 y8 y9 y10 y11

def byteset_Parts_l7 {R : Type} (kf : Nat) : Nat → ((List (List Int)) → Int → Int → (List (List Int)) → Option R) → (List (List Int)) → Int → Int → Int → Int → (List Int) → (List (List Int)) → (List (List Int)) → Option R
  | 0, _, _, _, _, _, _, _, _, _ => none
  | k + 1, y0, y1, y2, y3, y4, y5, y6, y7, y8 => byteset_Parts_l7_b (byteset_Not kf) (byteset_And kf) byteset_Has (byteset_Or kf) (fun _ _ _ _ _ => none) (byteset_Parts_l7 kf k) (byteset_Parts_l10 kf k) (fun _ _ _ _ _ => none) (fun _ _ _ _ _ _ _ _ => none) y0 y1 y2 y3 y4 y5 y6 y7 y8

def byteset_Parts_l3 {R : Type} (kf : Nat) : Nat → ((List (List Int)) → Option R) → (List (List Int)) → Int → Int → (List (List Int)) → Option R
  | 0, _, _, _, _, _ => none
  | k + 1, y0, y1, y2, y3, y4 => byteset_Parts_l3_b (byteset_Not kf) (byteset_And kf) byteset_Has (byteset_Or kf) (byteset_Parts_l3 kf k) (byteset_Parts_l7 kf k) (byteset_Parts_l10 kf k) (fun _ _ _ _ _ => none) (fun _ _ _ _ _ _ _ _ => none) y0 y1 y2 y3 y4

def byteset_Parts_l25 {R : Type} (kf : Nat) : Nat → Int → Int → Int → (List (List Int)) → (Int → (List (List Int)) → (List (List Int)) → (List Int) → Option R) → Int → (List (List Int)) → (List Int) → Option R
  | 0, _, _, _, _, _, _, _, _ => none
  | k + 1, y0, y1, y2, y3, y4, y5, y6, y7 => byteset_Parts_l25_b (byteset_Not kf) (byteset_And kf) byteset_Has (byteset_Or kf) (byteset_Parts_l3 kf k) (byteset_Parts_l7 kf k) (byteset_Parts_l10 kf k) (fun _ _ _ _ _ => none) (byteset_Parts_l25 kf k) y0 y1 y2 y3 y4 y5 y6 y7

def byteset_Parts_l21 {R : Type} (kf : Nat) : Nat → ((List (List Int)) → Option R) → Int → (List (List Int)) → (List (List Int)) → (List Int) → Option R
  | 0, _, _, _, _, _ => none
  | k + 1, y0, y1, y2, y3, y4 => byteset_Parts_l21_b (byteset_Not kf) (byteset_And kf) byteset_Has (byteset_Or kf) (byteset_Parts_l3 kf k) (byteset_Parts_l7 kf k) (byteset_Parts_l10 kf k) (byteset_Parts_l21 kf k) (byteset_Parts_l25 kf k) y0 y1 y2 y3 y4

def byteset_Parts {R : Type} (kf : Nat) (v1 : (List (List Int))) (K : (List (List Int)) → Option R) : Option R := byteset_Parts_b (byteset_Not kf) (byteset_And kf) byteset_Has (byteset_Or kf) (byteset_Parts_l3 kf kf) (byteset_Parts_l7 kf kf) (byteset_Parts_l10 kf kf) (byteset_Parts_l21 kf kf) (byteset_Parts_l25 kf kf) v1 K

def math_bits_OnesCount64_b {R : Type} (v1 : Int) (K : Int → Option R) : Option R :=
    let v2 : Int := (IntKind.u64.wrap ((bvop .u64 .and (shr .u64 v1 1) 6148914691236517205) + (bvop .u64 .and v1 6148914691236517205)))
    let v3 : Int := (IntKind.u64.wrap ((bvop .u64 .and (shr .u64 v2 2) 3689348814741910323) + (bvop .u64 .and v2 3689348814741910323)))
    let v4 : Int := (bvop .u64 .and (IntKind.u64.wrap ((shr .u64 v3 4) + v3)) 1085102592571150095)
    let v5 : Int := (IntKind.u64.wrap ((IntKind.u64.wrap (v4 + (shr .u64 v4 8))) + (shr .u64 (IntKind.u64.wrap (v4 + (shr .u64 v4 8))) 16)))
    let v6 : Int := (bvop .i64 .and (IntKind.i64.wrap (IntKind.u64.wrap (v5 + (shr .u64 v5 32)))) 127)
    K v6

def math_bits_OnesCount64 {R : Type} (v1 : Int) (K : Int → Option R) : Option R := math_bits_OnesCount64_b v1 K

def byteset_Len_l3_b {R : Type} (c_math_bits_OnesCount64 : Int → (Int → Option R) → Option R) (l_3 : (List Int) → (Int → Option R) → Int → Int → Option R) (v3 : (List Int)) (Ke0 : Int → Option R) (v2 : Int) (v4 : Int) : Option R :=
    bif decide (v4 < 4) then
    (gd (decide (0 ≤ v4))
     (gd (decide (v4 < 4))
      (c_math_bits_OnesCount64 (v3.getD (Int.toNat v4) (0 : Int)) (fun (v5 : Int) =>
        l_3 v3 Ke0 (IntKind.i64.wrap (v2 + v5)) (IntKind.i64.wrap (v4 + 1))))))
    else (Ke0 v2)

def byteset_Len_b {R : Type} (c_math_bits_OnesCount64 : Int → (Int → Option R) → Option R) (l_3 : (List Int) → (Int → Option R) → Int → Int → Option R) (v1 : (List Int)) (K : Int → Option R) : Option R :=
    l_3 v1
    (fun (v6 : Int) =>
     K v6) 0 0

def byteset_Len_l3 {R : Type} (kf : Nat) : Nat → (List Int) → (Int → Option R) → Int → Int → Option R
  | 0, _, _, _, _ => none
  | k + 1, y0, y1, y2, y3 => byteset_Len_l3_b math_bits_OnesCount64 (byteset_Len_l3 kf k) y0 y1 y2 y3

def byteset_Len {R : Type} (kf : Nat) (v1 : (List Int)) (K : Int → Option R) : Option R := byteset_Len_b math_bits_OnesCount64 (byteset_Len_l3 kf kf) v1 K

def byteset_List_l3_b {R : Type} (c_byteset_Has : (List Int) → Int → (Bool → Option R) → Option R) (l_3 : (List Int) → ((List Int) → Option R) → Int → (List Int) → Option R) (v3 : (List Int)) (Ke0 : (List Int) → Option R) (v2 : Int) (v4 : (List Int)) : Option R :=
    bif decide (v2 < 256) then
    (c_byteset_Has v3 (IntKind.u8.wrap v2) (fun (v5 : Bool) =>
      bif v5 then
      (gd (decide (v4.length + ([(IntKind.u8.wrap v2)] : List Int).length < SMALL))
       (l_3 v3 Ke0 (IntKind.i64.wrap (v2 + 1)) (v4 ++ ([(IntKind.u8.wrap v2)] : List Int))))
      else (l_3 v3 Ke0 (IntKind.i64.wrap (v2 + 1)) v4)))
    else (Ke0 v4)

def byteset_List_b {R : Type} (c_byteset_Has : (List Int) → Int → (Bool → Option R) → Option R) (l_3 : (List Int) → ((List Int) → Option R) → Int → (List Int) → Option R) (v1 : (List Int)) (K : (List Int) → Option R) : Option R :=
    l_3 v1
    (fun (v6 : (List Int)) =>
     K v6) 0 ([] : List Int)

def byteset_List_l3 {R : Type} (kf : Nat) : Nat → (List Int) → ((List Int) → Option R) → Int → (List Int) → Option R
  | 0, _, _, _, _ => none
  | k + 1, y0, y1, y2, y3 => byteset_List_l3_b byteset_Has (byteset_List_l3 kf k) y0 y1 y2 y3

def byteset_List {R : Type} (kf : Nat) (v1 : (List Int)) (K : (List Int) → Option R) : Option R := byteset_List_b byteset_Has (byteset_List_l3 kf kf) v1 K

def math_bits_TrailingZeros64_b {R : Type} (v1 : Int) (K : Int → Option R) : Option R :=
    bif decide (v1 = 0) then
    (K 64)
    else (gd (decide (0 ≤ (shr .u64 (IntKind.u64.wrap (mulZ (bvop .u64 .and v1 (IntKind.u64.wrap (0 - v1))) 285870213051353865)) 58)))
     (gd (decide ((shr .u64 (IntKind.u64.wrap (mulZ (bvop .u64 .and v1 (IntKind.u64.wrap (0 - v1))) 285870213051353865)) 58) < 64))
      (let v2 : Int := (IntKind.i64.wrap (deBruijn.getD (Int.toNat (shr .u64 (IntKind.u64.wrap (mulZ (bvop .u64 .and v1 (IntKind.u64.wrap (0 - v1))) 285870213051353865)) 58)) (0 : Int)))
       K v2)))

def math_bits_TrailingZeros64 {R : Type} (v1 : Int) (K : Int → Option R) : Option R := math_bits_TrailingZeros64_b v1 K

def byteset_Less_l2_b {R : Type} (c_math_bits_TrailingZeros64 : Int → (Int → Option R) → Option R) (l_2 : (List Int) → (List Int) → (Bool → Option R) → (Option R) → Int → Option R) (v4 : (List Int)) (v5 : (List Int)) (Kr : Bool → Option R) (Ke0 : Option R) (v3 : Int) : Option R :=
    bif decide (v3 < 4) then
    (gd (decide (0 ≤ v3))
     (gd (decide (v3 < 4))
      (gd (decide (0 ≤ v3))
       (gd (decide (v3 < 4))
        (let v6 : Int := (bvop .u64 .xor (v4.getD (Int.toNat v3) (0 : Int)) (v5.getD (Int.toNat v3) (0 : Int)))
         bif (!(decide (v6 = 0))) then
         (gd (decide (0 ≤ v3))
          (gd (decide (v3 < 4))
           (c_math_bits_TrailingZeros64 v6 (fun (v7 : Int) =>
             gd (decide (0 ≤ v7))
             (Kr (decide ((bvop .u64 .and (shr .u64 (v4.getD (Int.toNat v3) (0 : Int)) v7) 1) = 1)))))))
         else (l_2 v4 v5 Kr Ke0 (IntKind.i64.wrap (v3 + 1))))))))
    else (Ke0)

def byteset_Less_b {R : Type} (c_math_bits_TrailingZeros64 : Int → (Int → Option R) → Option R) (l_2 : (List Int) → (List Int) → (Bool → Option R) → (Option R) → Int → Option R) (v1 : (List Int)) (v2 : (List Int)) (K : Bool → Option R) : Option R :=
    l_2 v1 v2
    (fun (v8 : Bool) =>
     K v8)
    (K false) 0

def byteset_Less_l2 {R : Type} (kf : Nat) : Nat → (List Int) → (List Int) → (Bool → Option R) → (Option R) → Int → Option R
  | 0, _, _, _, _, _ => none
  | k + 1, y0, y1, y2, y3, y4 => byteset_Less_l2_b math_bits_TrailingZeros64 (byteset_Less_l2 kf k) y0 y1 y2 y3 y4

def byteset_Less {R : Type} (kf : Nat) (v1 : (List Int)) (v2 : (List Int)) (K : Bool → Option R) : Option R := byteset_Less_b math_bits_TrailingZeros64 (byteset_Less_l2 kf kf) v1 v2 K

def byteset_Of_l3_b {R : Type} (l_3 : (List Int) → Int → (List Int) → ((List Int) → (List Int) → Option R) → Int → (List Int) → Option R) (v2 : (List Int)) (v3 : Int) (v5 : (List Int)) (Ke0 : (List Int) → (List Int) → Option R) (v4 : Int) (v6 : (List Int)) : Option R :=
    bif decide (v4 < v3) then
    (gd (decide (0 ≤ v4))
     (gd (decide (v4 < (v2.length : Int)))
      (gd (decide (0 ≤ (IntKind.u8.wrap (Int.tdiv (v2.getD (Int.toNat v4) (0 : Int)) 64))))
       (gd (decide ((IntKind.u8.wrap (Int.tdiv (v2.getD (Int.toNat v4) (0 : Int)) 64)) < 4))
        (gd (decide (0 ≤ (Int.tmod (v2.getD (Int.toNat v4) (0 : Int)) 64)))
         (gd (decide (0 ≤ (IntKind.u8.wrap (Int.tdiv (v2.getD (Int.toNat v4) (0 : Int)) 64))))
          (gd (decide ((IntKind.u8.wrap (Int.tdiv (v2.getD (Int.toNat v4) (0 : Int)) 64)) < 4))
           (l_3 v2 v3 v5 Ke0 (IntKind.i64.wrap (v4 + 1)) (v6.set (Int.toNat (IntKind.u8.wrap (Int.tdiv (v2.getD (Int.toNat v4) (0 : Int)) 64))) (bvop .u64 .or (v6.getD (Int.toNat (IntKind.u8.wrap (Int.tdiv (v2.getD (Int.toNat v4) (0 : Int)) 64))) (0 : Int)) (shl .u64 1 (Int.tmod (v2.getD (Int.toNat v4) (0 : Int)) 64))))))))))))
    else (Ke0 v5 v6)

def byteset_Of_b {R : Type} (l_3 : (List Int) → Int → (List Int) → ((List Int) → (List Int) → Option R) → Int → (List Int) → Option R) (v1 : (List Int)) (K : (List Int) → Option R) : Option R :=
    l_3 v1 (v1.length : Int) (List.replicate 4 (0 : Int))
    (fun (v7 : (List Int)) (v8 : (List Int)) =>
     K v8) 0 (List.replicate 4 (0 : Int))

def byteset_Of_l3 {R : Type} (kf : Nat) : Nat → (List Int) → Int → (List Int) → ((List Int) → (List Int) → Option R) → Int → (List Int) → Option R
  | 0, _, _, _, _, _, _ => none
  | k + 1, y0, y1, y2, y3, y4, y5 => byteset_Of_l3_b (byteset_Of_l3 kf k) y0 y1 y2 y3 y4 y5

def byteset_Of {R : Type} (kf : Nat) (v1 : (List Int)) (K : (List Int) → Option R) : Option R := byteset_Of_b (byteset_Of_l3 kf kf) v1 K

def law4_begun_b {R : Type} (c_byteset_Range : Int → Int → ((List Int) → Option R) → Option R) (c_byteset_Parts : (List (List Int)) → ((List (List Int)) → Option R) → Option R) (c_byteset_Has : (List Int) → Int → (Bool → Option R) → Option R) (c_byteset_Len : (List Int) → (Int → Option R) → Option R) (c_byteset_List : (List Int) → ((List Int) → Option R) → Option R) (c_byteset_Less : (List Int) → (List Int) → (Bool → Option R) → Option R) (c_byteset_Of : (List Int) → ((List Int) → Option R) → Option R) (K : Bool → Option R) : Option R :=
    c_byteset_Range 97 99 (fun (v1 : (List Int)) =>
     c_byteset_Parts ([v1] : List (List Int)) (fun (v2 : (List (List Int))) =>
      c_byteset_Has v1 98 (fun (v3 : Bool) =>
       bif v3 then
       (c_byteset_Has v1 100 (fun (v4 : Bool) =>
         bif (!v4) then
         (c_byteset_Len v1 (fun (v5 : Int) =>
           bif decide (v5 = 3) then
           (c_byteset_List v1 (fun (v6 : (List Int)) =>
             bif decide ((v6.length : Int) = 3) then
             (bif decide ((v2.length : Int) = 2) then
              (c_byteset_Less v1 (List.replicate 4 (0 : Int)) (fun (v7 : Bool) =>
                bif v7 then
                (gd (decide (0 < ([97, 98, 99] : List Int).length))
                 (c_byteset_Of ([97, 98, 99] : List Int) (fun (v8 : (List Int)) =>
                   K (decide (v8 = v1)))))
                else (K false)))
              else (K false))
             else (K false)))
           else (K false)))
         else (K false)))
       else (K false))))

def law4_begun {R : Type} (kf : Nat) (K : Bool → Option R) : Option R := law4_begun_b (byteset_Range kf) (byteset_Parts kf) byteset_Has (byteset_Len kf) (byteset_List kf) (byteset_Less kf) (byteset_Of kf) K

def law4_SetLaws_b {R : Type} (c_law4_begun : (Bool → Option R) → Option R) (c_byteset_Has : (List Int) → Int → (Bool → Option R) → Option R) (c_byteset_Or : (List Int) → (List Int) → ((List Int) → Option R) → Option R) (c_byteset_And : (List Int) → (List Int) → ((List Int) → Option R) → Option R) (c_byteset_Not : (List Int) → ((List Int) → Option R) → Option R) (c_byteset_Len : (List Int) → (Int → Option R) → Option R) (c_byteset_Less : (List Int) → (List Int) → (Bool → Option R) → Option R) (c_byteset_List : (List Int) → ((List Int) → Option R) → Option R) (c_byteset_Of : (List Int) → ((List Int) → Option R) → Option R) (v1 : (List Int)) (v2 : (List Int)) (v3 : (List Int)) (v4 : Int) (K : Bool → Option R) : Option R :=
    c_law4_begun (fun (v5 : Bool) =>
     bif (!v5) then
     (K false)
     else (c_byteset_Has v1 v4 (fun (v6 : Bool) =>
       c_byteset_Has v2 v4 (fun (v7 : Bool) =>
        let j36 : Bool → Option R := fun v8 =>
        (let j22 : Bool → Option R := fun v9 =>
         (let j13 : Bool → Option R := fun v10 =>
          (bif v8 then
           (bif v9 then
            (bif v10 then
             (c_byteset_List v1 (fun (v11 : (List Int)) =>
               c_byteset_Of v11 (fun (v12 : (List Int)) =>
                K (decide (v12 = v1)))))
             else (K false))
            else (K false))
           else (K false))
          (c_byteset_Less v1 v2 (fun (v14 : Bool) =>
            bif (!v14) then
            (c_byteset_Less v2 v1 (fun (v15 : Bool) =>
              bif decide (decide (v1 = v2) = (!v15)) then
              (c_byteset_Less v1 v2 (fun (v16 : Bool) =>
                bif v16 then
                (c_byteset_Less v2 v3 (fun (v17 : Bool) =>
                  bif v17 then
                  (c_byteset_Less v1 v3 (fun (v18 : Bool) =>
                    j13 (!(!v18))))
                  else (j13 true)))
                else (j13 true)))
              else (j13 false)))
            else (bif decide (decide (v1 = v2) = false) then
             (c_byteset_Less v1 v2 (fun (v19 : Bool) =>
               bif v19 then
               (c_byteset_Less v2 v3 (fun (v20 : Bool) =>
                 bif v20 then
                 (c_byteset_Less v1 v3 (fun (v21 : Bool) =>
                   j13 (!(!v21))))
                 else (j13 true)))
               else (j13 true)))
             else (j13 false)))))
         (c_byteset_Not v1 (fun (v23 : (List Int)) =>
           c_byteset_Not v23 (fun (v24 : (List Int)) =>
            bif decide (v24 = v1) then
            (c_byteset_Or v1 v2 (fun (v25 : (List Int)) =>
              c_byteset_Not v25 (fun (v26 : (List Int)) =>
               c_byteset_Not v1 (fun (v27 : (List Int)) =>
                c_byteset_Not v2 (fun (v28 : (List Int)) =>
                 c_byteset_And v27 v28 (fun (v29 : (List Int)) =>
                  bif decide (v26 = v29) then
                  (c_byteset_Or v1 v2 (fun (v30 : (List Int)) =>
                    c_byteset_Len v30 (fun (v31 : Int) =>
                     c_byteset_And v1 v2 (fun (v32 : (List Int)) =>
                      c_byteset_Len v32 (fun (v33 : Int) =>
                       c_byteset_Len v1 (fun (v34 : Int) =>
                        c_byteset_Len v2 (fun (v35 : Int) =>
                         j22 (decide ((IntKind.i64.wrap (v31 + v33)) = (IntKind.i64.wrap (v34 + v35)))))))))))
                  else (j22 false)))))))
            else (j22 false)))))
        (c_byteset_Or v1 v2 (fun (v37 : (List Int)) =>
          c_byteset_Has v37 v4 (fun (v38 : Bool) =>
           bif v6 then
           (bif decide (v38 = true) then
            (c_byteset_And v1 v2 (fun (v39 : (List Int)) =>
              c_byteset_Has v39 v4 (fun (v40 : Bool) =>
               bif v6 then
               (bif decide (v40 = v7) then
                (c_byteset_Not v1 (fun (v41 : (List Int)) =>
                  c_byteset_Has v41 v4 (fun (v42 : Bool) =>
                   j36 (decide (v42 = (!v6))))))
                else (j36 false))
               else (bif decide (v40 = false) then
                (c_byteset_Not v1 (fun (v43 : (List Int)) =>
                  c_byteset_Has v43 v4 (fun (v44 : Bool) =>
                   j36 (decide (v44 = (!v6))))))
                else (j36 false)))))
            else (j36 false))
           else (bif decide (v38 = v7) then
            (c_byteset_And v1 v2 (fun (v45 : (List Int)) =>
              c_byteset_Has v45 v4 (fun (v46 : Bool) =>
               bif v6 then
               (bif decide (v46 = v7) then
                (c_byteset_Not v1 (fun (v47 : (List Int)) =>
                  c_byteset_Has v47 v4 (fun (v48 : Bool) =>
                   j36 (decide (v48 = (!v6))))))
                else (j36 false))
               else (bif decide (v46 = false) then
                (c_byteset_Not v1 (fun (v49 : (List Int)) =>
                  c_byteset_Has v49 v4 (fun (v50 : Bool) =>
                   j36 (decide (v50 = (!v6))))))
                else (j36 false)))))
            else (j36 false)))))))))

def law4_SetLaws {R : Type} (kf : Nat) (v1 : (List Int)) (v2 : (List Int)) (v3 : (List Int)) (v4 : Int) (K : Bool → Option R) : Option R := law4_SetLaws_b (law4_begun kf) byteset_Has (byteset_Or kf) (byteset_And kf) (byteset_Not kf) (byteset_Len kf) (byteset_Less kf) (byteset_List kf) (byteset_Of kf) v1 v2 v3 v4 K

def sh5 {R : Type} (c_law4_SetLaws : (List Int) → (List Int) → (List Int) → Int → (Bool → Option R) → Option R) (av : List S) (es : List Ent) (K : S → List Ent → Option R) : Option R :=
  match av, es with
  | [.arr 4 (.int .u64) v1, .arr 4 (.int .u64) v2, .arr 4 (.int .u64) v3, .int .u8 v4], [] => c_law4_SetLaws v1 v2 v3 v4 (fun (r0 : Bool) => K (.bool r0) [])
  | _, _ => none

def sh10 {R : Type} (c_law4_begun : (Bool → Option R) → Option R) (av : List S) (es : List Ent) (K : S → List Ent → Option R) : Option R :=
  match av, es with
  | [], [] => c_law4_begun (fun (r0 : Bool) => K (.bool r0) [])
  | _, _ => none

def sh11 {R : Type} (c_byteset_Of : (List Int) → ((List Int) → Option R) → Option R) (av : List S) (es : List Ent) (K : S → List Ent → Option R) : Option R :=
  match av, es with
  | [.sl (.int .u8) v1], [] => c_byteset_Of v1 (fun (r0 : (List Int)) => K (.arr 4 (.int .u64) r0) [])
  | _, _ => none

def sh13 {R : Type} (c_byteset_Range : Int → Int → ((List Int) → Option R) → Option R) (av : List S) (es : List Ent) (K : S → List Ent → Option R) : Option R :=
  match av, es with
  | [.int .u8 v1, .int .u8 v2], [] => c_byteset_Range v1 v2 (fun (r0 : (List Int)) => K (.arr 4 (.int .u64) r0) [])
  | _, _ => none

def sh15 {R : Type} (c_byteset_Or : (List Int) → (List Int) → ((List Int) → Option R) → Option R) (av : List S) (es : List Ent) (K : S → List Ent → Option R) : Option R :=
  match av, es with
  | [.arr 4 (.int .u64) v1, .arr 4 (.int .u64) v2], [] => c_byteset_Or v1 v2 (fun (r0 : (List Int)) => K (.arr 4 (.int .u64) r0) [])
  | _, _ => none

def sh17 {R : Type} (c_byteset_And : (List Int) → (List Int) → ((List Int) → Option R) → Option R) (av : List S) (es : List Ent) (K : S → List Ent → Option R) : Option R :=
  match av, es with
  | [.arr 4 (.int .u64) v1, .arr 4 (.int .u64) v2], [] => c_byteset_And v1 v2 (fun (r0 : (List Int)) => K (.arr 4 (.int .u64) r0) [])
  | _, _ => none

def sh19 {R : Type} (c_byteset_Not : (List Int) → ((List Int) → Option R) → Option R) (av : List S) (es : List Ent) (K : S → List Ent → Option R) : Option R :=
  match av, es with
  | [.arr 4 (.int .u64) v1], [] => c_byteset_Not v1 (fun (r0 : (List Int)) => K (.arr 4 (.int .u64) r0) [])
  | _, _ => none

def sh21 {R : Type} (c_byteset_List : (List Int) → ((List Int) → Option R) → Option R) (av : List S) (es : List Ent) (K : S → List Ent → Option R) : Option R :=
  match av, es with
  | [.arr 4 (.int .u64) v1], [] => c_byteset_List v1 (fun (r0 : (List Int)) => K (.own (.int .u8) 0) [.buf (.int .u8) r0 false])
  | _, _ => none

def sh23 {R : Type} (c_byteset_Len : (List Int) → (Int → Option R) → Option R) (av : List S) (es : List Ent) (K : S → List Ent → Option R) : Option R :=
  match av, es with
  | [.arr 4 (.int .u64) v1], [] => c_byteset_Len v1 (fun (r0 : Int) => K (.int .i64 r0) [])
  | _, _ => none

def sh24 {R : Type} (c_byteset_Less : (List Int) → (List Int) → (Bool → Option R) → Option R) (av : List S) (es : List Ent) (K : S → List Ent → Option R) : Option R :=
  match av, es with
  | [.arr 4 (.int .u64) v1, .arr 4 (.int .u64) v2], [] => c_byteset_Less v1 v2 (fun (r0 : Bool) => K (.bool r0) [])
  | _, _ => none

def sh26 {R : Type} (c_byteset_Has : (List Int) → Int → (Bool → Option R) → Option R) (av : List S) (es : List Ent) (K : S → List Ent → Option R) : Option R :=
  match av, es with
  | [.arr 4 (.int .u64) v1, .int .u8 v2], [] => c_byteset_Has v1 v2 (fun (r0 : Bool) => K (.bool r0) [])
  | _, _ => none

def sh28 {R : Type} (c_byteset_Parts : (List (List Int)) → ((List (List Int)) → Option R) → Option R) (av : List S) (es : List Ent) (K : S → List Ent → Option R) : Option R :=
  match av, es with
  | [.sl (.arr 4 (.int .u64)) v1], [] => c_byteset_Parts v1 (fun (r0 : (List (List Int))) => K (.own (.arr 4 (.int .u64)) 0) [.buf (.arr 4 (.int .u64)) r0 false])
  | _, _ => none

def sh31 {R : Type} (c_byteset_with : (List Int) → (List Int) → ((List Int) → Option R) → Option R) (c_byteset_with_s1 : (List Int) → (List Int) → ((List Int) → Option R) → Option R) (c_byteset_with_s2 : (List Int) → (List Int) → ((List Int) → Option R) → Option R) (av : List S) (es : List Ent) (K : S → List Ent → Option R) : Option R :=
  match av, es with
  | [.arr 4 (.int .u64) v1, .arr 4 (.int .u64) v2, .fn 34 []], [] => c_byteset_with v1 v2 (fun (r0 : (List Int)) => K (.arr 4 (.int .u64) r0) [])
  | [.arr 4 (.int .u64) v1, .arr 4 (.int .u64) v2, .fn 33 []], [] => c_byteset_with_s1 v1 v2 (fun (r0 : (List Int)) => K (.arr 4 (.int .u64) r0) [])
  | [.arr 4 (.int .u64) v1, .arr 4 (.int .u64) v2, .fn 32 []], [] => c_byteset_with_s2 v1 v2 (fun (r0 : (List Int)) => K (.arr 4 (.int .u64) r0) [])
  | _, _ => none

def sh32 {R : Type} (c_byteset_Or_1 : Int → Int → (Int → Option R) → Option R) (av : List S) (es : List Ent) (K : S → List Ent → Option R) : Option R :=
  match av, es with
  | [.int .u64 v1, .int .u64 v2], [] => c_byteset_Or_1 v1 v2 (fun (r0 : Int) => K (.int .u64 r0) [])
  | _, _ => none

def sh33 {R : Type} (c_byteset_And_1 : Int → Int → (Int → Option R) → Option R) (av : List S) (es : List Ent) (K : S → List Ent → Option R) : Option R :=
  match av, es with
  | [.int .u64 v1, .int .u64 v2], [] => c_byteset_And_1 v1 v2 (fun (r0 : Int) => K (.int .u64 r0) [])
  | _, _ => none

def sh34 {R : Type} (c_byteset_Not_1 : Int → Int → (Int → Option R) → Option R) (av : List S) (es : List Ent) (K : S → List Ent → Option R) : Option R :=
  match av, es with
  | [.int .u64 v1, .int .u64 v2], [] => c_byteset_Not_1 v1 v2 (fun (r0 : Int) => K (.int .u64 r0) [])
  | _, _ => none

def sh35 {R : Type} (c_math_bits_OnesCount64 : Int → (Int → Option R) → Option R) (av : List S) (es : List Ent) (K : S → List Ent → Option R) : Option R :=
  match av, es with
  | [.int .u64 v1], [] => c_math_bits_OnesCount64 v1 (fun (r0 : Int) => K (.int .i64 r0) [])
  | _, _ => none

def sh36 {R : Type} (c_math_bits_TrailingZeros64 : Int → (Int → Option R) → Option R) (av : List S) (es : List Ent) (K : S → List Ent → Option R) : Option R :=
  match av, es with
  | [.int .u64 v1], [] => c_math_bits_TrailingZeros64 v1 (fun (r0 : Int) => K (.int .i64 r0) [])
  | _, _ => none

end
end Go.Ab.T
