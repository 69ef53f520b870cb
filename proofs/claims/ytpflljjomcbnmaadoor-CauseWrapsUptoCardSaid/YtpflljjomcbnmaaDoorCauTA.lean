/- CauTA: a part of the proofs of this seat's statements. -/
import Derived.Test.YtpflljjomcbnmaaDoorDef
import Derived.Test.YtpflljjomcbnmaaDoorPrimX
import Derived.Test.YtpflljjomcbnmaaDoorProg
import Derived.KernelRfl




namespace Go.Ab.T

open Go Go.Ab Go.Proofs

set_option maxRecDepth 100000

set_option linter.unusedVariables false

noncomputable section

def glob : Nat → Option S := fun g => if g = 0 then some (.err (.raw 73 (.agg #[.pointer (some ⟨1, 39, none⟩)]))) else none

def raw : FuncId → Bool := fun f => [].contains f

def cause_made_l3_b {R : Type} (l_3 : Int → (List Int) → Int → (Err → Option R) → Err → Int → Option R) (v3 : Int) (v5 : (List Int)) (v6 : Int) (Ke0 : Err → Option R) (v4 : Err) (v7 : Int) : Option R :=
    bif decide (v7 < v6) then
    (gd (decide (0 ≤ v7))
     (gd (decide (v7 < (v5.length : Int)))
      (bif decide ((v5.getD (Int.toNat v7) (0 : Int)) = 0) then
       (l_3 v3 v5 v6 Ke0 v4 (IntKind.i64.wrap (v7 + 1)))
       else (let j9 : Bool → Option R := fun v8 =>
        (bif v8 then
         (l_3 v3 v5 v6 Ke0 (Err.wrap 43 [(v5.getD (Int.toNat v7) (0 : Int))] Err.nil [v3]) (IntKind.i64.wrap (v7 + 1)))
         else (l_3 v3 v5 v6 Ke0 (Err.wrap 52 [(v5.getD (Int.toNat v7) (0 : Int))] v4 []) (IntKind.i64.wrap (v7 + 1))))
        (bif decide ((v5.getD (Int.toNat v7) (0 : Int)) = 6) then
         (j9 (decide (v7 = 0)))
         else (j9 false))))))
    else (Ke0 v4)

def cause_made_b {R : Type} (l_3 : Int → (List Int) → Int → (Err → Option R) → Err → Int → Option R) (v1 : (List Int)) (v2 : Int) (K : Err → Option R) : Option R :=
    l_3 v2 v1 (v1.length : Int)
    (fun (v10 : Err) =>
     K v10) Err.nil 0

def cause_made_l3 {R : Type} (kf : Nat) : Nat → Int → (List Int) → Int → (Err → Option R) → Err → Int → Option R
  | 0, _, _, _, _, _, _ => none
  | k + 1, y0, y1, y2, y3, y4, y5 => cause_made_l3_b (cause_made_l3 kf k) y0 y1 y2 y3 y4 y5

def cause_made {R : Type} (kf : Nat) (v1 : (List Int)) (v2 : Int) (K : Err → Option R) : Option R := cause_made_b (cause_made_l3 kf kf) v1 v2 K

def cause_Chain_l4_b {R : Type} (c_cause_made : (List Int) → Int → (Err → Option R) → Option R) (l_4 : Err → (List Int) → Int → Int → Int → Bool → Int → Int → Int → Bool → Int → (List Bool) → (Err → Int → Int → Bool → Int → Int → Int → Bool → Int → (List Bool) → (List Bool) → Option R) → Int → (List Bool) → Option R) (l_12 : Int → Int → Bool → Int → Int → Int → Bool → (List Bool) → (List Bool) → (Int → Int → Bool → Int → Int → Int → Bool → Int → (List Bool) → (List Bool) → Option R) → Err → Int → Option R) (v5 : Err) (v6 : (List Int)) (v7 : Int) (v9 : Int) (v10 : Int) (v11 : Bool) (v12 : Int) (v13 : Int) (v14 : Int) (v15 : Bool) (v16 : Int) (v17 : (List Bool)) (Ke0 : Err → Int → Int → Bool → Int → Int → Int → Bool → Int → (List Bool) → (List Bool) → Option R) (v8 : Int) (v18 : (List Bool)) : Option R :=
    bif decide (v8 < v7) then
    (gd (decide (0 ≤ v8))
     (gd (decide (v8 < (v6.length : Int)))
      (gd (Err.fit [] [(43, 1, 1), (52, 1, 0)] v5)
       (gd (decide (v18.length + ([(Err.isK (v6.getD (Int.toNat v8) (0 : Int)) v5)] : List Bool).length < SMALL))
        (l_4 v5 v6 v7 v9 v10 v11 v12 v13 v14 v15 v16 v17 Ke0 (IntKind.i64.wrap (v8 + 1)) (v18 ++ ([(Err.isK (v6.getD (Int.toNat v8) (0 : Int)) v5)] : List Bool)))))))
    else (Ke0 v5 v9 v10 v11 v12 v13 v14 v15 v16 v17 v18)

def cause_Chain_l12_b {R : Type} (c_cause_made : (List Int) → Int → (Err → Option R) → Option R) (l_4 : Err → (List Int) → Int → Int → Int → Bool → Int → Int → Int → Bool → Int → (List Bool) → (Err → Int → Int → Bool → Int → Int → Int → Bool → Int → (List Bool) → (List Bool) → Option R) → Int → (List Bool) → Option R) (l_12 : Int → Int → Bool → Int → Int → Int → Bool → (List Bool) → (List Bool) → (Int → Int → Bool → Int → Int → Int → Bool → Int → (List Bool) → (List Bool) → Option R) → Err → Int → Option R) (v33 : Int) (v34 : Int) (v35 : Bool) (v36 : Int) (v37 : Int) (v38 : Int) (v39 : Bool) (v41 : (List Bool)) (v42 : (List Bool)) (Ke2 : Int → Int → Bool → Int → Int → Int → Bool → Int → (List Bool) → (List Bool) → Option R) (v32 : Err) (v40 : Int) : Option R :=
    bif (!(Err.isNil v32)) then
    (gd (Err.fit [] [(43, 1, 1), (52, 1, 0)] v32)
     (l_12 v33 v34 v35 v36 v37 v38 v39 v41 v42 Ke2 (Err.inner v32) (IntKind.i64.wrap (v40 + 1))))
    else (Ke2 v33 v34 v35 v36 v37 v38 v39 v40 v41 v42)

def cause_Chain_b {R : Type} (c_cause_made : (List Int) → Int → (Err → Option R) → Option R) (l_4 : Err → (List Int) → Int → Int → Int → Bool → Int → Int → Int → Bool → Int → (List Bool) → (Err → Int → Int → Bool → Int → Int → Int → Bool → Int → (List Bool) → (List Bool) → Option R) → Int → (List Bool) → Option R) (l_12 : Int → Int → Bool → Int → Int → Int → Bool → (List Bool) → (List Bool) → (Int → Int → Bool → Int → Int → Int → Bool → Int → (List Bool) → (List Bool) → Option R) → Err → Int → Option R) (v1 : (List Int)) (v2 : Int) (v3 : (List Int)) (K : Int → Int → Bool → Int → (List Bool) → Option R) : Option R :=
    c_cause_made v1 v2 (fun (v4 : Err) =>
     gd (Err.fit [] [(43, 1, 1), (52, 1, 0)] v4)
     (l_4 v4 v3 (v3.length : Int) 0 0 false 0 (Err.num 0 v4) 0 false 0 ([] : List Bool)
      (fun (v19 : Err) (v20 : Int) (v21 : Int) (v22 : Bool) (v23 : Int) (v24 : Int) (v25 : Int) (v26 : Bool) (v27 : Int) (v28 : (List Bool)) (v29 : (List Bool)) =>
       let j53 : Int → Bool → Option R := fun v30 v31 =>
       (l_12 v20 v21 v22 v23 v24 v30 v31 v28 v29
        (fun (v43 : Int) (v44 : Int) (v45 : Bool) (v46 : Int) (v47 : Int) (v48 : Int) (v49 : Bool) (v50 : Int) (v51 : (List Bool)) (v52 : (List Bool)) =>
         K v47 v48 v49 v50 v52) v19 v27)
       (gd (Err.fit [] [(43, 1, 1), (52, 1, 0)] v19)
        (optK (Err.find 43 v19) (fun (v54 : Err) =>
          j53 (Err.num 1 v54) true)
         (j53 v25 v26)))) 0 ([] : List Bool)))

def cause_Chain_l4 {R : Type} (kf : Nat) : Nat → Err → (List Int) → Int → Int → Int → Bool → Int → Int → Int → Bool → Int → (List Bool) → (Err → Int → Int → Bool → Int → Int → Int → Bool → Int → (List Bool) → (List Bool) → Option R) → Int → (List Bool) → Option R
  | 0, _, _, _, _, _, _, _, _, _, _, _, _, _, _, _ => none
  | k + 1, y0, y1, y2, y3, y4, y5, y6, y7, y8, y9, y10, y11, y12, y13, y14 => cause_Chain_l4_b (cause_made kf) (cause_Chain_l4 kf k) (fun _ _ _ _ _ _ _ _ _ _ _ _ => none) y0 y1 y2 y3 y4 y5 y6 y7 y8 y9 y10 y11 y12 y13 y14

def cause_Chain_l12 {R : Type} (kf : Nat) : Nat → Int → Int → Bool → Int → Int → Int → Bool → (List Bool) → (List Bool) → (Int → Int → Bool → Int → Int → Int → Bool → Int → (List Bool) → (List Bool) → Option R) → Err → Int → Option R
  | 0, _, _, _, _, _, _, _, _, _, _, _, _ => none
  | k + 1, y0, y1, y2, y3, y4, y5, y6, y7, y8, y9, y10, y11 => cause_Chain_l12_b (cause_made kf) (cause_Chain_l4 kf k) (cause_Chain_l12 kf k) y0 y1 y2 y3 y4 y5 y6 y7 y8 y9 y10 y11

def cause_Chain {R : Type} (kf : Nat) (v1 : (List Int)) (v2 : Int) (v3 : (List Int)) (K : Int → Int → Bool → Int → (List Bool) → Option R) : Option R := cause_Chain_b (cause_made kf) (cause_Chain_l4 kf kf) (cause_Chain_l12 kf kf) v1 v2 v3 K

def cause_Code_l4_b {R : Type} (c_cause_made : (List Int) → Int → (Err → Option R) → Option R) (l_4 : Int → Int → Err → Int → (List Int) → (Int → Int → Err → Option R) → Int → Option R) (v4 : Int) (v5 : Int) (v6 : Err) (v7 : Int) (v9 : (List Int)) (Ke0 : Int → Int → Err → Option R) (v8 : Int) : Option R :=
    bif decide (v8 < v7) then
    (gd (decide (0 ≤ v8))
     (gd (decide (v8 < (v9.length : Int)))
      (gd (Err.fit [] [(43, 1, 1), (52, 1, 0)] v6)
       (bif (Err.isK (v9.getD (Int.toNat v8) (0 : Int)) v6) then
        (Ke0 (v9.getD (Int.toNat v8) (0 : Int)) v5 v6)
        else (l_4 v4 v5 v6 v7 v9 Ke0 (IntKind.i64.wrap (v8 + 1)))))))
    else (Ke0 v4 v5 v6)

def cause_Code_b {R : Type} (c_cause_made : (List Int) → Int → (Err → Option R) → Option R) (l_4 : Int → Int → Err → Int → (List Int) → (Int → Int → Err → Option R) → Int → Option R) (v1 : (List Int)) (v2 : Int) (K : Int → Int → Option R) : Option R :=
    c_cause_made v1 v2 (fun (v3 : Err) =>
     gd (Err.fit [] [(43, 1, 1), (52, 1, 0)] v3)
     (l_4 (Err.num 0 v3) 0 v3 (([12, 16, 9, 6, 8, 7, 10, 11, 14, 1] : List Int).length : Int) ([12, 16, 9, 6, 8, 7, 10, 11, 14, 1] : List Int)
      (fun (v10 : Int) (v11 : Int) (v12 : Err) =>
       let j14 : Int → Option R := fun v13 =>
       (K v10 v13)
       (bif decide (v10 = 6) then
        (gd (Err.fit [] [(43, 1, 1), (52, 1, 0)] v12)
         (optK (Err.find 43 v12) (fun (v15 : Err) =>
           j14 (Err.num 1 v15))
          (j14 v11)))
        else (j14 v11))) 0))

def cause_Code_l4 {R : Type} (kf : Nat) : Nat → Int → Int → Err → Int → (List Int) → (Int → Int → Err → Option R) → Int → Option R
  | 0, _, _, _, _, _, _, _ => none
  | k + 1, y0, y1, y2, y3, y4, y5, y6 => cause_Code_l4_b (cause_made kf) (cause_Code_l4 kf k) y0 y1 y2 y3 y4 y5 y6

def cause_Code {R : Type} (kf : Nat) (v1 : (List Int)) (v2 : Int) (K : Int → Int → Option R) : Option R := cause_Code_b (cause_made kf) (cause_Code_l4 kf kf) v1 v2 K

def law2_begun_b {R : Type} (c_cause_Chain : (List Int) → Int → (List Int) → (Int → Int → Bool → Int → (List Bool) → Option R) → Option R) (c_cause_Code : (List Int) → Int → (Int → Int → Option R) → Option R) (K : Bool → Option R) : Option R :=
    c_cause_Chain ([6, 1] : List Int) 7 ([6, 9] : List Int) (fun (v1 : Int) (v2 : Int) (v3 : Bool) (v4 : Int) (v5 : (List Bool)) =>
     c_cause_Code ([6, 1] : List Int) 7 (fun (v6 : Int) (v7 : Int) =>
      bif decide ((v5.length : Int) = 2) then
      (gd (decide (0 < (v5.length : Int)))
       (bif (v5.getD 0 false) then
        (gd (decide (1 < (v5.length : Int)))
         (bif (!(v5.getD 1 false)) then
          (bif decide (v1 = 1) then
           (bif decide (v2 = 7) then
            (bif v3 then
             (bif decide (v4 = 2) then
              (bif decide (v6 = 6) then
               (K (decide (v7 = 7)))
               else (K false))
              else (K false))
             else (K false))
            else (K false))
           else (K false))
          else (K false)))
        else (K false)))
      else (K false)))

def law2_begun {R : Type} (kf : Nat) (K : Bool → Option R) : Option R := law2_begun_b (cause_Chain kf) (cause_Code kf) K

def law2_kinds_l4_b {R : Type} (l_4 : (List Int) → (Bool → Option R) → (Option R) → Int → Option R) (v2 : (List Int)) (Kr : Bool → Option R) (Ke0 : Option R) (v3 : Int) : Option R :=
    bif decide (v3 < (v2.length : Int)) then
    (let j5 : Bool → Option R := fun v4 =>
     (bif v4 then
      (Kr false)
      else (l_4 v2 Kr Ke0 (IntKind.i64.wrap (v3 + 1))))
     (gd (decide (0 ≤ v3))
      (gd (decide (v3 < (v2.length : Int)))
       (bif decide ((v2.getD (Int.toNat v3) (0 : Int)) < 0) then
        (j5 true)
        else (gd (decide (0 ≤ v3))
         (gd (decide (v3 < (v2.length : Int)))
          (j5 (decide (16 < (v2.getD (Int.toNat v3) (0 : Int)))))))))))
    else (Ke0)

def law2_kinds_b {R : Type} (l_4 : (List Int) → (Bool → Option R) → (Option R) → Int → Option R) (v1 : (List Int)) (K : Bool → Option R) : Option R :=
    bif decide (40 < (v1.length : Int)) then
    (K false)
    else (l_4 v1
     (fun (v6 : Bool) =>
      K v6)
     (K true) 0)

def law2_kinds_l4 {R : Type} (kf : Nat) : Nat → (List Int) → (Bool → Option R) → (Option R) → Int → Option R
  | 0, _, _, _, _ => none
  | k + 1, y0, y1, y2, y3 => law2_kinds_l4_b (law2_kinds_l4 kf k) y0 y1 y2 y3

def law2_kinds {R : Type} (kf : Nat) (v1 : (List Int)) (K : Bool → Option R) : Option R := law2_kinds_b (law2_kinds_l4 kf kf) v1 K

def ref1_in_l2_b {R : Type} (l_2 : (List Int) → Int → (Bool → Option R) → (Option R) → Int → Option R) (v3 : (List Int)) (v4 : Int) (Kr : Bool → Option R) (Ke0 : Option R) (v5 : Int) : Option R :=
    bif decide (v5 < (v3.length : Int)) then
    (gd (decide (0 ≤ v5))
     (gd (decide (v5 < (v3.length : Int)))
      (bif decide ((v3.getD (Int.toNat v5) (0 : Int)) = v4) then
       (Kr true)
       else (l_2 v3 v4 Kr Ke0 (IntKind.i64.wrap (v5 + 1))))))
    else (Ke0)

def ref1_in_b {R : Type} (l_2 : (List Int) → Int → (Bool → Option R) → (Option R) → Int → Option R) (v1 : (List Int)) (v2 : Int) (K : Bool → Option R) : Option R :=
    l_2 v1 v2
    (fun (v6 : Bool) =>
     K v6)
    (K false) 0

def ref1_in_l2 {R : Type} (kf : Nat) : Nat → (List Int) → Int → (Bool → Option R) → (Option R) → Int → Option R
  | 0, _, _, _, _, _ => none
  | k + 1, y0, y1, y2, y3, y4 => ref1_in_l2_b (ref1_in_l2 kf k) y0 y1 y2 y3 y4

def ref1_in {R : Type} (kf : Nat) (v1 : (List Int)) (v2 : Int) (K : Bool → Option R) : Option R := ref1_in_b (ref1_in_l2 kf kf) v1 v2 K

def ref1_Chain_l4_b {R : Type} (c_ref1_in : (List Int) → Int → (Bool → Option R) → Option R) (l_4 : (List Int) → Int → (List Int) → Int → Int → Bool → Int → Int → Int → Bool → Int → (List Bool) → (List Bool) → ((List Int) → Int → (List Int) → Int → Int → Bool → Int → (List Int) → Int → Int → Bool → Int → (List Bool) → (List Bool) → Option R) → Int → (List Int) → Option R) (l_9 : (List Int) → Int → (List Int) → Int → Int → Bool → Int → (List Int) → Int → Int → Bool → Int → (List Bool) → ((List Int) → Int → Int → Int → Bool → Int → (List Int) → Int → Int → Bool → Int → (List Bool) → (List Bool) → Option R) → Int → (List Bool) → Option R) (v4 : (List Int)) (v5 : Int) (v6 : (List Int)) (v8 : Int) (v9 : Int) (v10 : Bool) (v11 : Int) (v13 : Int) (v14 : Int) (v15 : Bool) (v16 : Int) (v17 : (List Bool)) (v18 : (List Bool)) (Ke0 : (List Int) → Int → (List Int) → Int → Int → Bool → Int → (List Int) → Int → Int → Bool → Int → (List Bool) → (List Bool) → Option R) (v7 : Int) (v12 : (List Int)) : Option R :=
    bif decide (v7 < (v4.length : Int)) then
    (gd (decide (0 ≤ v7))
     (gd (decide (v7 < (v4.length : Int)))
      (bif (!(decide ((v4.getD (Int.toNat v7) (0 : Int)) = 0))) then
       (gd (decide (0 ≤ v7))
        (gd (decide (v7 < (v4.length : Int)))
         (gd (decide (v12.length + ([(v4.getD (Int.toNat v7) (0 : Int))] : List Int).length < SMALL))
          (l_4 v4 v5 v6 v8 v9 v10 v11 v13 v14 v15 v16 v17 v18 Ke0 (IntKind.i64.wrap (v7 + 1)) (v12 ++ ([(v4.getD (Int.toNat v7) (0 : Int))] : List Int))))))
       else (l_4 v4 v5 v6 v8 v9 v10 v11 v13 v14 v15 v16 v17 v18 Ke0 (IntKind.i64.wrap (v7 + 1)) v12))))
    else (Ke0 v4 v5 v6 v8 v9 v10 v11 v12 v13 v14 v15 v16 v17 v18)

def ref1_Chain_l9_b {R : Type} (c_ref1_in : (List Int) → Int → (Bool → Option R) → Option R) (l_4 : (List Int) → Int → (List Int) → Int → Int → Bool → Int → Int → Int → Bool → Int → (List Bool) → (List Bool) → ((List Int) → Int → (List Int) → Int → Int → Bool → Int → (List Int) → Int → Int → Bool → Int → (List Bool) → (List Bool) → Option R) → Int → (List Int) → Option R) (l_9 : (List Int) → Int → (List Int) → Int → Int → Bool → Int → (List Int) → Int → Int → Bool → Int → (List Bool) → ((List Int) → Int → Int → Int → Bool → Int → (List Int) → Int → Int → Bool → Int → (List Bool) → (List Bool) → Option R) → Int → (List Bool) → Option R) (v33 : (List Int)) (v34 : Int) (v35 : (List Int)) (v37 : Int) (v38 : Int) (v39 : Bool) (v40 : Int) (v41 : (List Int)) (v42 : Int) (v43 : Int) (v44 : Bool) (v45 : Int) (v46 : (List Bool)) (Ke2 : (List Int) → Int → Int → Int → Bool → Int → (List Int) → Int → Int → Bool → Int → (List Bool) → (List Bool) → Option R) (v36 : Int) (v47 : (List Bool)) : Option R :=
    bif decide (v36 < (v35.length : Int)) then
    (gd (decide (0 ≤ v36))
     (gd (decide (v36 < (v35.length : Int)))
      (bif (!(decide ((v35.getD (Int.toNat v36) (0 : Int)) = 0))) then
       (gd (decide (0 ≤ v36))
        (gd (decide (v36 < (v35.length : Int)))
         (c_ref1_in v41 (v35.getD (Int.toNat v36) (0 : Int)) (fun (v48 : Bool) =>
           gd (decide (v47.length + ([v48] : List Bool).length < SMALL))
           (l_9 v33 v34 v35 v37 v38 v39 v40 v41 v42 v43 v44 v45 v46 Ke2 (IntKind.i64.wrap (v36 + 1)) (v47 ++ ([v48] : List Bool)))))))
       else (gd (decide (v47.length + ([false] : List Bool).length < SMALL))
        (l_9 v33 v34 v35 v37 v38 v39 v40 v41 v42 v43 v44 v45 v46 Ke2 (IntKind.i64.wrap (v36 + 1)) (v47 ++ ([false] : List Bool)))))))
    else (Ke2 v33 v34 v37 v38 v39 v40 v41 v42 v43 v44 v45 v46 v47)

def ref1_Chain_b {R : Type} (c_ref1_in : (List Int) → Int → (Bool → Option R) → Option R) (l_4 : (List Int) → Int → (List Int) → Int → Int → Bool → Int → Int → Int → Bool → Int → (List Bool) → (List Bool) → ((List Int) → Int → (List Int) → Int → Int → Bool → Int → (List Int) → Int → Int → Bool → Int → (List Bool) → (List Bool) → Option R) → Int → (List Int) → Option R) (l_9 : (List Int) → Int → (List Int) → Int → Int → Bool → Int → (List Int) → Int → Int → Bool → Int → (List Bool) → ((List Int) → Int → Int → Int → Bool → Int → (List Int) → Int → Int → Bool → Int → (List Bool) → (List Bool) → Option R) → Int → (List Bool) → Option R) (v1 : (List Int)) (v2 : Int) (v3 : (List Int)) (K : Int → Int → Bool → Int → (List Bool) → Option R) : Option R :=
    l_4 v1 v2 v3 0 0 false 0 0 0 false 0 ([] : List Bool) ([] : List Bool)
    (fun (v19 : (List Int)) (v20 : Int) (v21 : (List Int)) (v22 : Int) (v23 : Int) (v24 : Bool) (v25 : Int) (v26 : (List Int)) (v27 : Int) (v28 : Int) (v29 : Bool) (v30 : Int) (v31 : (List Bool)) (v32 : (List Bool)) =>
     l_9 v19 v20 v21 v22 v23 v24 v25 v26 v27 v28 v29 v30 v31
     (fun (v49 : (List Int)) (v50 : Int) (v51 : Int) (v52 : Int) (v53 : Bool) (v54 : Int) (v55 : (List Int)) (v56 : Int) (v57 : Int) (v58 : Bool) (v59 : Int) (v60 : (List Bool)) (v61 : (List Bool)) =>
      let j68 : Int → Option R := fun v62 =>
      (let j65 : Int → Bool → Option R := fun v63 v64 =>
       (K v62 v63 v64 (v55.length : Int) v61)
       (let j67 : Bool → Option R := fun v66 =>
        (bif v66 then
         (j65 v50 true)
         else (j65 v57 v58))
        (bif decide (0 < (v49.length : Int)) then
         (gd (decide (0 < (v49.length : Int)))
          (j67 (decide ((v49.getD 0 (0 : Int)) = 6))))
         else (j67 false))))
      (bif decide (0 < (v55.length : Int)) then
       (gd (decide (0 ≤ (IntKind.i64.wrap ((v55.length : Int) - 1))))
        (gd (decide ((IntKind.i64.wrap ((v55.length : Int) - 1)) < (v55.length : Int)))
         (j68 (v55.getD (Int.toNat (IntKind.i64.wrap ((v55.length : Int) - 1))) (0 : Int)))))
       else (j68 v56))) 0 v32) 0 ([] : List Int)

def ref1_Chain_l4 {R : Type} (kf : Nat) : Nat → (List Int) → Int → (List Int) → Int → Int → Bool → Int → Int → Int → Bool → Int → (List Bool) → (List Bool) → ((List Int) → Int → (List Int) → Int → Int → Bool → Int → (List Int) → Int → Int → Bool → Int → (List Bool) → (List Bool) → Option R) → Int → (List Int) → Option R
  | 0, _, _, _, _, _, _, _, _, _, _, _, _, _, _, _, _ => none
  | k + 1, y0, y1, y2, y3, y4, y5, y6, y7, y8, y9, y10, y11, y12, y13, y14, y15 => ref1_Chain_l4_b (ref1_in kf) (ref1_Chain_l4 kf k) (fun _ _ _ _ _ _ _ _ _ _ _ _ _ _ _ _ => none) y0 y1 y2 y3 y4 y5 y6 y7 y8 y9 y10 y11 y12 y13 y14 y15

def ref1_Chain_l9 {R : Type} (kf : Nat) : Nat → (List Int) → Int → (List Int) → Int → Int → Bool → Int → (List Int) → Int → Int → Bool → Int → (List Bool) → ((List Int) → Int → Int → Int → Bool → Int → (List Int) → Int → Int → Bool → Int → (List Bool) → (List Bool) → Option R) → Int → (List Bool) → Option R
  | 0, _, _, _, _, _, _, _, _, _, _, _, _, _, _, _, _ => none
  | k + 1, y0, y1, y2, y3, y4, y5, y6, y7, y8, y9, y10, y11, y12, y13, y14, y15 => ref1_Chain_l9_b (ref1_in kf) (ref1_Chain_l4 kf k) (ref1_Chain_l9 kf k) y0 y1 y2 y3 y4 y5 y6 y7 y8 y9 y10 y11 y12 y13 y14 y15

def ref1_Chain {R : Type} (kf : Nat) (v1 : (List Int)) (v2 : Int) (v3 : (List Int)) (K : Int → Int → Bool → Int → (List Bool) → Option R) : Option R := ref1_Chain_b (ref1_in kf) (ref1_Chain_l4 kf kf) (ref1_Chain_l9 kf kf) v1 v2 v3 K

def ref1_Code_l5_b {R : Type} (c_ref1_Chain : (List Int) → Int → (List Int) → (Int → Int → Bool → Int → (List Bool) → Option R) → Option R) (l_5 : (List Int) → Int → Int → Bool → Int → (List Bool) → (Int → Int → Int → Bool → Int → (List Bool) → Option R) → Int → Int → Option R) (v11 : (List Int)) (v12 : Int) (v13 : Int) (v14 : Bool) (v15 : Int) (v16 : (List Bool)) (Ke0 : Int → Int → Int → Bool → Int → (List Bool) → Option R) (v9 : Int) (v10 : Int) : Option R :=
    bif decide (0 ≤ v10) then
    (gd (decide (0 ≤ v10))
     (gd (decide (v10 < (v16.length : Int)))
      (bif (v16.getD (Int.toNat v10) false) then
       (gd (decide (0 ≤ v10))
        (gd (decide (v10 < (v11.length : Int)))
         (l_5 v11 v12 v13 v14 v15 v16 Ke0 (v11.getD (Int.toNat v10) (0 : Int)) (IntKind.i64.wrap (v10 - 1)))))
       else (l_5 v11 v12 v13 v14 v15 v16 Ke0 v9 (IntKind.i64.wrap (v10 - 1))))))
    else (Ke0 v9 v12 v13 v14 v15 v16)

def ref1_Code_b {R : Type} (c_ref1_Chain : (List Int) → Int → (List Int) → (Int → Int → Bool → Int → (List Bool) → Option R) → Option R) (l_5 : (List Int) → Int → Int → Bool → Int → (List Bool) → (Int → Int → Int → Bool → Int → (List Bool) → Option R) → Int → Int → Option R) (v1 : (List Int)) (v2 : Int) (K : Int → Int → Option R) : Option R :=
    c_ref1_Chain v1 v2 ([12, 16, 9, 6, 8, 7, 10, 11, 14, 1] : List Int) (fun (v3 : Int) (v4 : Int) (v5 : Bool) (v6 : Int) (v7 : (List Bool)) =>
     let v8 : Int := (IntKind.i64.wrap ((([12, 16, 9, 6, 8, 7, 10, 11, 14, 1] : List Int).length : Int) - 1))
     l_5 ([12, 16, 9, 6, 8, 7, 10, 11, 14, 1] : List Int) v3 v4 v5 v6 v7
     (fun (v17 : Int) (v18 : Int) (v19 : Int) (v20 : Bool) (v21 : Int) (v22 : (List Bool)) =>
      bif decide (v17 = 6) then
      (K v17 v19)
      else (K v17 0)) v3 v8)

def ref1_Code_l5 {R : Type} (kf : Nat) : Nat → (List Int) → Int → Int → Bool → Int → (List Bool) → (Int → Int → Int → Bool → Int → (List Bool) → Option R) → Int → Int → Option R
  | 0, _, _, _, _, _, _, _, _, _ => none
  | k + 1, y0, y1, y2, y3, y4, y5, y6, y7, y8 => ref1_Code_l5_b (ref1_Chain kf) (ref1_Code_l5 kf k) y0 y1 y2 y3 y4 y5 y6 y7 y8

def ref1_Code {R : Type} (kf : Nat) (v1 : (List Int)) (v2 : Int) (K : Int → Int → Option R) : Option R := ref1_Code_b (ref1_Chain kf) (ref1_Code_l5 kf kf) v1 v2 K

def law2_CauseAll_l11_b {R : Type} (c_law2_begun : (Bool → Option R) → Option R) (c_law2_kinds : (List Int) → (Bool → Option R) → Option R) (c_cause_Chain : (List Int) → Int → (List Int) → (Int → Int → Bool → Int → (List Bool) → Option R) → Option R) (c_ref1_Chain : (List Int) → Int → (List Int) → (Int → Int → Bool → Int → (List Bool) → Option R) → Option R) (c_cause_Code : (List Int) → Int → (Int → Int → Option R) → Option R) (c_ref1_Code : (List Int) → Int → (Int → Int → Option R) → Option R) (l_11 : Int → Int → Int → Int → (List Bool) → (List Bool) → (Bool → Int → Int → Int → Int → Option R) → (Int → Int → Int → Int → Option R) → Int → Option R) (v21 : Int) (v22 : Int) (v23 : Int) (v24 : Int) (v34 : (List Bool)) (v35 : (List Bool)) (Kr : Bool → Int → Int → Int → Int → Option R) (Ke0 : Int → Int → Int → Int → Option R) (v25 : Int) : Option R :=
    bif decide (v25 < (v35.length : Int)) then
    (gd (decide (0 ≤ v25))
     (gd (decide (v25 < (v34.length : Int)))
      (gd (decide (0 ≤ v25))
       (gd (decide (v25 < (v35.length : Int)))
        (bif (!(decide ((v34.getD (Int.toNat v25) false) = (v35.getD (Int.toNat v25) false)))) then
         (Kr false v21 v22 v23 v24)
         else (l_11 v21 v22 v23 v24 v34 v35 Kr Ke0 (IntKind.i64.wrap (v25 + 1))))))))
    else (Ke0 v21 v22 v23 v24)

def law2_CauseAll_b {R : Type} (c_law2_begun : (Bool → Option R) → Option R) (c_law2_kinds : (List Int) → (Bool → Option R) → Option R) (c_cause_Chain : (List Int) → Int → (List Int) → (Int → Int → Bool → Int → (List Bool) → Option R) → Option R) (c_ref1_Chain : (List Int) → Int → (List Int) → (Int → Int → Bool → Int → (List Bool) → Option R) → Option R) (c_cause_Code : (List Int) → Int → (Int → Int → Option R) → Option R) (c_ref1_Code : (List Int) → Int → (Int → Int → Option R) → Option R) (l_11 : Int → Int → Int → Int → (List Bool) → (List Bool) → (Bool → Int → Int → Int → Int → Option R) → (Int → Int → Int → Int → Option R) → Int → Option R) (v1 : (List Int)) (v2 : Int) (v3 : (List Int)) (K : Bool → Option R) : Option R :=
    c_law2_begun (fun (v4 : Bool) =>
     bif (!v4) then
     (K false)
     else (let j46 : Bool → Option R := fun v5 =>
      (bif v5 then
       (K true)
       else (c_cause_Chain v1 v2 v3 (fun (v6 : Int) (v7 : Int) (v8 : Bool) (v9 : Int) (v10 : (List Bool)) =>
         c_ref1_Chain v1 v2 v3 (fun (v11 : Int) (v12 : Int) (v13 : Bool) (v14 : Int) (v15 : (List Bool)) =>
          c_cause_Code v1 v2 (fun (v16 : Int) (v17 : Int) =>
           c_ref1_Code v1 v2 (fun (v18 : Int) (v19 : Int) =>
            let j45 : Bool → Option R := fun v20 =>
            (bif v20 then
             (K false)
             else (l_11 v16 v17 v18 v19 v10 v15
              (fun (v36 : Bool) (v37 : Int) (v38 : Int) (v39 : Int) (v40 : Int) =>
               K v36)
              (fun (v41 : Int) (v42 : Int) (v43 : Int) (v44 : Int) =>
               bif decide (v41 = v43) then
               (K (decide (v42 = v44)))
               else (K false)) 0))
            (bif (!(decide ((v10.length : Int) = (v15.length : Int)))) then
             (j45 true)
             else (bif (!(decide (v6 = v11))) then
              (j45 true)
              else (bif (!(decide (v7 = v12))) then
               (j45 true)
               else (bif (!(decide (v8 = v13))) then
                (j45 true)
                else (j45 (!(decide (v9 = v14))))))))))))))
      (c_law2_kinds v1 (fun (v47 : Bool) =>
        bif (!v47) then
        (j46 true)
        else (c_law2_kinds v3 (fun (v48 : Bool) =>
          j46 (!v48)))))))

def law2_CauseAll_l11 {R : Type} (kf : Nat) : Nat → Int → Int → Int → Int → (List Bool) → (List Bool) → (Bool → Int → Int → Int → Int → Option R) → (Int → Int → Int → Int → Option R) → Int → Option R
  | 0, _, _, _, _, _, _, _, _, _ => none
  | k + 1, y0, y1, y2, y3, y4, y5, y6, y7, y8 => law2_CauseAll_l11_b (law2_begun kf) (law2_kinds kf) (cause_Chain kf) (ref1_Chain kf) (cause_Code kf) (ref1_Code kf) (law2_CauseAll_l11 kf k) y0 y1 y2 y3 y4 y5 y6 y7 y8

def law2_CauseAll {R : Type} (kf : Nat) (v1 : (List Int)) (v2 : Int) (v3 : (List Int)) (K : Bool → Option R) : Option R := law2_CauseAll_b (law2_begun kf) (law2_kinds kf) (cause_Chain kf) (ref1_Chain kf) (cause_Code kf) (ref1_Code kf) (law2_CauseAll_l11 kf kf) v1 v2 v3 K

def law2_CauseWraps_l10_b {R : Type} (c_law2_begun : (Bool → Option R) → Option R) (c_law2_kinds : (List Int) → (Bool → Option R) → Option R) (c_cause_Chain : (List Int) → Int → (List Int) → (Int → Int → Bool → Int → (List Bool) → Option R) → Option R) (l_10 : (List Int) → Int → Int → Int → Bool → Int → Int → Int → Bool → Int → (List Bool) → (List Bool) → ((List Int) → Int → Bool → Int → Int → Bool → Int → Int → Int → Bool → Int → (List Bool) → (List Bool) → Option R) → ((List Int) → Int → Int → Int → Bool → Int → Int → Int → Bool → Int → (List Bool) → (List Bool) → Option R) → Int → Option R) (v17 : (List Int)) (v18 : Int) (v20 : Int) (v21 : Int) (v22 : Bool) (v23 : Int) (v24 : Int) (v25 : Int) (v26 : Bool) (v27 : Int) (v28 : (List Bool)) (v29 : (List Bool)) (Kr : (List Int) → Int → Bool → Int → Int → Bool → Int → Int → Int → Bool → Int → (List Bool) → (List Bool) → Option R) (Ke0 : (List Int) → Int → Int → Int → Bool → Int → Int → Int → Bool → Int → (List Bool) → (List Bool) → Option R) (v19 : Int) : Option R :=
    bif decide (v19 < (v17.length : Int)) then
    (let j31 : Bool → Option R := fun v30 =>
     (bif v30 then
      (Kr v17 v18 false v20 v21 v22 v23 v24 v25 v26 v27 v28 v29)
      else (l_10 v17 v18 v20 v21 v22 v23 v24 v25 v26 v27 v28 v29 Kr Ke0 (IntKind.i64.wrap (v19 + 1))))
     (gd (decide (0 ≤ v19))
      (gd (decide (v19 < (v28.length : Int)))
       (gd (decide (0 ≤ v19))
        (gd (decide (v19 < (v17.length : Int)))
         (bif (!(decide ((v28.getD (Int.toNat v19) false) = (!(decide ((v17.getD (Int.toNat v19) (0 : Int)) = 0)))))) then
          (j31 true)
          else (gd (decide (0 ≤ v19))
           (gd (decide (v19 < (v29.length : Int)))
            (gd (decide (0 ≤ v19))
             (gd (decide (v19 < (v28.length : Int)))
              (j31 (!(decide ((v29.getD (Int.toNat v19) false) = (v28.getD (Int.toNat v19) false)))))))))))))))
    else (Ke0 v17 v18 v20 v21 v22 v23 v24 v25 v26 v27 v28 v29)

def law2_CauseWraps_b {R : Type} (c_law2_begun : (Bool → Option R) → Option R) (c_law2_kinds : (List Int) → (Bool → Option R) → Option R) (c_cause_Chain : (List Int) → Int → (List Int) → (Int → Int → Bool → Int → (List Bool) → Option R) → Option R) (l_10 : (List Int) → Int → Int → Int → Bool → Int → Int → Int → Bool → Int → (List Bool) → (List Bool) → ((List Int) → Int → Bool → Int → Int → Bool → Int → Int → Int → Bool → Int → (List Bool) → (List Bool) → Option R) → ((List Int) → Int → Int → Int → Bool → Int → Int → Int → Bool → Int → (List Bool) → (List Bool) → Option R) → Int → Option R) (v1 : (List Int)) (v2 : Int) (v3 : Int) (K : Bool → Option R) : Option R :=
    c_law2_begun (fun (v4 : Bool) =>
     bif (!v4) then
     (K false)
     else (let j58 : Bool → Option R := fun v5 =>
      (bif v5 then
       (K true)
       else (gd (decide (([] : List Int).length + v1.length < SMALL))
        (gd (decide ((([] : List Int) ++ v1).length + ([v3] : List Int).length < SMALL))
         (c_cause_Chain v1 v2 v1 (fun (v6 : Int) (v7 : Int) (v8 : Bool) (v9 : Int) (v10 : (List Bool)) =>
           gd (decide (([] : List Int).length + v1.length < SMALL))
           (gd (decide ((([] : List Int) ++ v1).length + ([v3] : List Int).length < SMALL))
            (c_cause_Chain ((([] : List Int) ++ v1) ++ ([v3] : List Int)) v2 ((([] : List Int) ++ v1) ++ ([v3] : List Int)) (fun (v11 : Int) (v12 : Int) (v13 : Bool) (v14 : Int) (v15 : (List Bool)) =>
              let j57 : Bool → Option R := fun v16 =>
              (bif v16 then
               (K false)
               else (l_10 v1 v3 v6 v7 v8 v9 v11 v12 v13 v14 v10 v15
                (fun (v32 : (List Int)) (v33 : Int) (v34 : Bool) (v35 : Int) (v36 : Int) (v37 : Bool) (v38 : Int) (v39 : Int) (v40 : Int) (v41 : Bool) (v42 : Int) (v43 : (List Bool)) (v44 : (List Bool)) =>
                 K v34)
                (fun (v45 : (List Int)) (v46 : Int) (v47 : Int) (v48 : Int) (v49 : Bool) (v50 : Int) (v51 : Int) (v52 : Int) (v53 : Bool) (v54 : Int) (v55 : (List Bool)) (v56 : (List Bool)) =>
                 gd (decide (0 ≤ (v45.length : Int)))
                 (gd (decide ((v45.length : Int) < (v56.length : Int)))
                  (bif (v56.getD (Int.toNat (v45.length : Int)) false) then
                   (bif decide (v51 = v46) then
                    (bif decide (v54 = (IntKind.i64.wrap (v50 + 1))) then
                     (bif decide (v53 = v49) then
                      (K (decide (v52 = v48)))
                      else (K false))
                     else (K false))
                    else (K false))
                   else (K false)))) 0))
              (bif (!(decide ((v10.length : Int) = (v1.length : Int)))) then
               (j57 true)
               else (j57 (!(decide ((v15.length : Int) = (IntKind.i64.wrap ((v1.length : Int) + 1)))))))))))))))
      (c_law2_kinds v1 (fun (v59 : Bool) =>
        bif (!v59) then
        (j58 true)
        else (c_law2_kinds ([v3] : List Int) (fun (v60 : Bool) =>
          bif (!v60) then
          (j58 true)
          else (bif decide ((v1.length : Int) = 0) then
           (j58 true)
           else (bif decide (20 < (v1.length : Int)) then
            (j58 true)
            else (j58 (decide (v3 = 0)))))))))))

def law2_CauseWraps_l10 {R : Type} (kf : Nat) : Nat → (List Int) → Int → Int → Int → Bool → Int → Int → Int → Bool → Int → (List Bool) → (List Bool) → ((List Int) → Int → Bool → Int → Int → Bool → Int → Int → Int → Bool → Int → (List Bool) → (List Bool) → Option R) → ((List Int) → Int → Int → Int → Bool → Int → Int → Int → Bool → Int → (List Bool) → (List Bool) → Option R) → Int → Option R
  | 0, _, _, _, _, _, _, _, _, _, _, _, _, _, _, _ => none
  | k + 1, y0, y1, y2, y3, y4, y5, y6, y7, y8, y9, y10, y11, y12, y13, y14 => law2_CauseWraps_l10_b (law2_begun kf) (law2_kinds kf) (cause_Chain kf) (law2_CauseWraps_l10 kf k) y0 y1 y2 y3 y4 y5 y6 y7 y8 y9 y10 y11 y12 y13 y14

def law2_CauseWraps {R : Type} (kf : Nat) (v1 : (List Int)) (v2 : Int) (v3 : Int) (K : Bool → Option R) : Option R := law2_CauseWraps_b (law2_begun kf) (law2_kinds kf) (cause_Chain kf) (law2_CauseWraps_l10 kf kf) v1 v2 v3 K

def law2_CauseCodes_l12_b {R : Type} (c_law2_begun : (Bool → Option R) → Option R) (c_law2_kinds : (List Int) → (Bool → Option R) → Option R) (c_cause_Code : (List Int) → Int → (Int → Int → Option R) → Option R) (l_12 : ((List Int) → Int → Int → Int → Int → Bool → Option R) → (List Int) → Int → Int → Int → Int → Bool → Int → (List Int) → Option R) (l_15 : (List Int) → Int → Int → Int → Int → Int → (List Int) → ((List Int) → Int → Int → Int → Int → Bool → Int → (List Int) → Option R) → Bool → Int → Option R) (Ke0 : (List Int) → Int → Int → Int → Int → Bool → Option R) (v10 : (List Int)) (v11 : Int) (v12 : Int) (v13 : Int) (v14 : Int) (v15 : Bool) (v16 : Int) (v17 : (List Int)) : Option R :=
    bif decide (v16 < (v10.length : Int)) then
    (l_15 v10 v11 v12 v13 v14 v16 v17
     (fun (v27 : (List Int)) (v28 : Int) (v29 : Int) (v30 : Int) (v31 : Int) (v32 : Bool) (v33 : Int) (v34 : (List Int)) =>
      l_12 Ke0 v27 v28 v29 v30 v31 v32 (IntKind.i64.wrap (v33 + 1)) v34) v15 0)
    else (Ke0 v10 v11 v12 v13 v14 v15)

def law2_CauseCodes_l15_b {R : Type} (c_law2_begun : (Bool → Option R) → Option R) (c_law2_kinds : (List Int) → (Bool → Option R) → Option R) (c_cause_Code : (List Int) → Int → (Int → Int → Option R) → Option R) (l_12 : ((List Int) → Int → Int → Int → Int → Bool → Option R) → (List Int) → Int → Int → Int → Int → Bool → Int → (List Int) → Option R) (l_15 : (List Int) → Int → Int → Int → Int → Int → (List Int) → ((List Int) → Int → Int → Int → Int → Bool → Int → (List Int) → Option R) → Bool → Int → Option R) (v18 : (List Int)) (v19 : Int) (v20 : Int) (v21 : Int) (v22 : Int) (v24 : Int) (v26 : (List Int)) (Ke2 : (List Int) → Int → Int → Int → Int → Bool → Int → (List Int) → Option R) (v23 : Bool) (v25 : Int) : Option R :=
    bif decide (v25 < (v26.length : Int)) then
    (bif v23 then
     (l_15 v18 v19 v20 v21 v22 v24 v26 Ke2 true (IntKind.i64.wrap (v25 + 1)))
     else (gd (decide (0 ≤ v24))
      (gd (decide (v24 < (v18.length : Int)))
       (gd (decide (0 ≤ v25))
        (gd (decide (v25 < (v26.length : Int)))
         (l_15 v18 v19 v20 v21 v22 v24 v26 Ke2 (decide ((v18.getD (Int.toNat v24) (0 : Int)) = (v26.getD (Int.toNat v25) (0 : Int)))) (IntKind.i64.wrap (v25 + 1))))))))
    else (Ke2 v18 v19 v20 v21 v22 v23 v24 v26)

def law2_CauseCodes_b {R : Type} (c_law2_begun : (Bool → Option R) → Option R) (c_law2_kinds : (List Int) → (Bool → Option R) → Option R) (c_cause_Code : (List Int) → Int → (Int → Int → Option R) → Option R) (l_12 : ((List Int) → Int → Int → Int → Int → Bool → Option R) → (List Int) → Int → Int → Int → Int → Bool → Int → (List Int) → Option R) (l_15 : (List Int) → Int → Int → Int → Int → Int → (List Int) → ((List Int) → Int → Int → Int → Int → Bool → Int → (List Int) → Option R) → Bool → Int → Option R) (v1 : (List Int)) (v2 : Int) (v3 : Int) (K : Bool → Option R) : Option R :=
    c_law2_begun (fun (v4 : Bool) =>
     bif (!v4) then
     (K false)
     else (let j43 : Bool → Option R := fun v5 =>
      (bif v5 then
       (K true)
       else (gd (decide ((v1.length : Int) ≠ 0))
        (gd (decide (0 ≤ (Int.tmod (IntKind.i64.wrap v3) (v1.length : Int))))
         (gd (decide ((Int.tmod (IntKind.i64.wrap v3) (v1.length : Int)) ≤ (v1.length : Int)))
          (gd (decide (([] : List Int).length + (v1.drop (Int.toNat (Int.tmod (IntKind.i64.wrap v3) (v1.length : Int)))).length < SMALL))
           (gd (decide (0 ≤ (Int.tmod (IntKind.i64.wrap v3) (v1.length : Int))))
            (gd (decide ((Int.tmod (IntKind.i64.wrap v3) (v1.length : Int)) ≤ (v1.length : Int)))
             (gd (decide ((([] : List Int) ++ (v1.drop (Int.toNat (Int.tmod (IntKind.i64.wrap v3) (v1.length : Int))))).length + (v1.take (Int.toNat (Int.tmod (IntKind.i64.wrap v3) (v1.length : Int)))).length < SMALL))
              (c_cause_Code v1 v2 (fun (v6 : Int) (v7 : Int) =>
                c_cause_Code ((([] : List Int) ++ (v1.drop (Int.toNat (Int.tmod (IntKind.i64.wrap v3) (v1.length : Int))))) ++ (v1.take (Int.toNat (Int.tmod (IntKind.i64.wrap v3) (v1.length : Int))))) v2 (fun (v8 : Int) (v9 : Int) =>
                 l_12
                 (fun (v35 : (List Int)) (v36 : Int) (v37 : Int) (v38 : Int) (v39 : Int) (v40 : Bool) =>
                  let j42 : Bool → Option R := fun v41 =>
                  (bif (!v40) then
                   (bif decide (v38 = 0) then
                    (bif (!v41) then
                     (K true)
                     else (K (decide (v38 = v36))))
                    else (bif v41 then
                     (bif (!v41) then
                      (K true)
                      else (K (decide (v38 = v36))))
                     else (K false)))
                   else (bif decide (v37 = v39) then
                    (bif decide (v38 = 0) then
                     (bif (!v41) then
                      (K true)
                      else (K (decide (v38 = v36))))
                     else (bif v41 then
                      (bif (!v41) then
                       (K true)
                       else (K (decide (v38 = v36))))
                      else (K false)))
                    else (K false)))
                  (bif decide (v37 = 6) then
                   (gd (decide (0 < (v35.length : Int)))
                    (j42 (decide ((v35.getD 0 (0 : Int)) = 6))))
                   else (j42 false))) v1 v2 v6 v7 v8 false 0 ([12, 16, 9, 6, 8, 7, 10, 11, 14, 1] : List Int))))))))))))
      (c_law2_kinds v1 (fun (v44 : Bool) =>
        bif (!v44) then
        (j43 true)
        else (bif decide ((v1.length : Int) = 0) then
         (j43 true)
         else (j43 (decide (20 < (v1.length : Int)))))))))

def law2_CauseCodes_l15 {R : Type} (kf : Nat) : Nat → (List Int) → Int → Int → Int → Int → Int → (List Int) → ((List Int) → Int → Int → Int → Int → Bool → Int → (List Int) → Option R) → Bool → Int → Option R
  | 0, _, _, _, _, _, _, _, _, _, _ => none
  | k + 1, y0, y1, y2, y3, y4, y5, y6, y7, y8, y9 => law2_CauseCodes_l15_b (law2_begun kf) (law2_kinds kf) (cause_Code kf) (fun _ _ _ _ _ _ _ _ _ => none) (law2_CauseCodes_l15 kf k) y0 y1 y2 y3 y4 y5 y6 y7 y8 y9

def law2_CauseCodes_l12 {R : Type} (kf : Nat) : Nat → ((List Int) → Int → Int → Int → Int → Bool → Option R) → (List Int) → Int → Int → Int → Int → Bool → Int → (List Int) → Option R
  | 0, _, _, _, _, _, _, _, _, _ => none
  | k + 1, y0, y1, y2, y3, y4, y5, y6, y7, y8 => law2_CauseCodes_l12_b (law2_begun kf) (law2_kinds kf) (cause_Code kf) (law2_CauseCodes_l12 kf k) (law2_CauseCodes_l15 kf k) y0 y1 y2 y3 y4 y5 y6 y7 y8

def law2_CauseCodes {R : Type} (kf : Nat) (v1 : (List Int)) (v2 : Int) (v3 : Int) (K : Bool → Option R) : Option R := law2_CauseCodes_b (law2_begun kf) (law2_kinds kf) (cause_Code kf) (law2_CauseCodes_l12 kf kf) (law2_CauseCodes_l15 kf kf) v1 v2 v3 K

def law2_CausePlaces_b {R : Type} (c_law2_begun : (Bool → Option R) → Option R) (c_law2_kinds : (List Int) → (Bool → Option R) → Option R) (c_cause_Chain : (List Int) → Int → (List Int) → (Int → Int → Bool → Int → (List Bool) → Option R) → Option R) (v1 : (List Int)) (v2 : Int) (K : Bool → Option R) : Option R :=
    c_law2_begun (fun (v3 : Bool) =>
     bif (!v3) then
     (K false)
     else (let j15 : Bool → Option R := fun v4 =>
      (bif v4 then
       (K true)
       else (gd (decide (([6] : List Int).length + v1.length < SMALL))
        (c_cause_Chain (([6] : List Int) ++ v1) v2 ([] : (List Int)) (fun (v5 : Int) (v6 : Int) (v7 : Bool) (v8 : Int) (v9 : (List Bool)) =>
          gd (decide (([1] : List Int).length + v1.length < SMALL))
          (c_cause_Chain (([1] : List Int) ++ v1) v2 ([] : (List Int)) (fun (v10 : Int) (v11 : Int) (v12 : Bool) (v13 : Int) (v14 : (List Bool)) =>
            bif v7 then
            (bif decide (v6 = v2) then
             (bif (!v12) then
              (bif decide (v11 = 0) then
               (bif decide (v8 = v13) then
                (K (decide ((v9.length : Int) = 0)))
                else (K false))
               else (K false))
              else (K false))
             else (K false))
            else (K false)))))))
      (c_law2_kinds v1 (fun (v16 : Bool) =>
        bif (!v16) then
        (j15 true)
        else (j15 (decide (20 < (v1.length : Int))))))))

def law2_CausePlaces {R : Type} (kf : Nat) (v1 : (List Int)) (v2 : Int) (K : Bool → Option R) : Option R := law2_CausePlaces_b (law2_begun kf) (law2_kinds kf) (cause_Chain kf) v1 v2 K

def sh3 {R : Type} (c_law2_CauseAll : (List Int) → Int → (List Int) → (Bool → Option R) → Option R) (av : List S) (es : List Ent) (K : S → List Ent → Option R) : Option R :=
  match av, es with
  | [.sl (.int .i64) v1, .int .i64 v2, .sl (.int .i64) v3], [] => c_law2_CauseAll v1 v2 v3 (fun (r0 : Bool) => K (.bool r0) [])
  | _, _ => none

def sh4 {R : Type} (c_law2_CauseWraps : (List Int) → Int → Int → (Bool → Option R) → Option R) (av : List S) (es : List Ent) (K : S → List Ent → Option R) : Option R :=
  match av, es with
  | [.sl (.int .i64) v1, .int .i64 v2, .int .i64 v3], [] => c_law2_CauseWraps v1 v2 v3 (fun (r0 : Bool) => K (.bool r0) [])
  | _, _ => none

def sh5 {R : Type} (c_law2_CauseCodes : (List Int) → Int → Int → (Bool → Option R) → Option R) (av : List S) (es : List Ent) (K : S → List Ent → Option R) : Option R :=
  match av, es with
  | [.sl (.int .i64) v1, .int .i64 v2, .int .u8 v3], [] => c_law2_CauseCodes v1 v2 v3 (fun (r0 : Bool) => K (.bool r0) [])
  | _, _ => none

def sh6 {R : Type} (c_law2_CausePlaces : (List Int) → Int → (Bool → Option R) → Option R) (av : List S) (es : List Ent) (K : S → List Ent → Option R) : Option R :=
  match av, es with
  | [.sl (.int .i64) v1, .int .i64 v2], [] => c_law2_CausePlaces v1 v2 (fun (r0 : Bool) => K (.bool r0) [])
  | _, _ => none

def sh7 {R : Type} (c_law2_begun : (Bool → Option R) → Option R) (av : List S) (es : List Ent) (K : S → List Ent → Option R) : Option R :=
  match av, es with
  | [], [] => c_law2_begun (fun (r0 : Bool) => K (.bool r0) [])
  | _, _ => none

def sh8 {R : Type} (c_law2_kinds : (List Int) → (Bool → Option R) → Option R) (av : List S) (es : List Ent) (K : S → List Ent → Option R) : Option R :=
  match av, es with
  | [.sl (.int .i64) v1], [] => c_law2_kinds v1 (fun (r0 : Bool) => K (.bool r0) [])
  | _, _ => none

def sh9 {R : Type} (c_cause_Chain : (List Int) → Int → (List Int) → (Int → Int → Bool → Int → (List Bool) → Option R) → Option R) (av : List S) (es : List Ent) (K : S → List Ent → Option R) : Option R :=
  match av, es with
  | [.sl (.int .i64) v1, .int .i64 v2, .sl (.int .i64) v3], [] => c_cause_Chain v1 v2 v3 (fun (r0 : Int) (r1 : Int) (r2 : Bool) (r3 : Int) (r4 : (List Bool)) => K (.st [.own .bool 0, .int .i64 r0, .int .i64 r1, .bool r2, .int .i64 r3]) [.buf .bool r4 false])
  | _, _ => none

def sh10 {R : Type} (c_ref1_Chain : (List Int) → Int → (List Int) → (Int → Int → Bool → Int → (List Bool) → Option R) → Option R) (av : List S) (es : List Ent) (K : S → List Ent → Option R) : Option R :=
  match av, es with
  | [.sl (.int .i64) v1, .int .i64 v2, .sl (.int .i64) v3], [] => c_ref1_Chain v1 v2 v3 (fun (r0 : Int) (r1 : Int) (r2 : Bool) (r3 : Int) (r4 : (List Bool)) => K (.st [.own .bool 0, .int .i64 r0, .int .i64 r1, .bool r2, .int .i64 r3]) [.buf .bool r4 false])
  | _, _ => none

def sh11 {R : Type} (c_cause_Code : (List Int) → Int → (Int → Int → Option R) → Option R) (av : List S) (es : List Ent) (K : S → List Ent → Option R) : Option R :=
  match av, es with
  | [.sl (.int .i64) v1, .int .i64 v2], [] => c_cause_Code v1 v2 (fun (r0 : Int) (r1 : Int) => K (.tup [.int .i64 r0, .int .i64 r1]) [])
  | _, _ => none

def sh12 {R : Type} (c_ref1_Code : (List Int) → Int → (Int → Int → Option R) → Option R) (av : List S) (es : List Ent) (K : S → List Ent → Option R) : Option R :=
  match av, es with
  | [.sl (.int .i64) v1, .int .i64 v2], [] => c_ref1_Code v1 v2 (fun (r0 : Int) (r1 : Int) => K (.tup [.int .i64 r0, .int .i64 r1]) [])
  | _, _ => none

def sh13 {R : Type} (c_cause_made : (List Int) → Int → (Err → Option R) → Option R) (av : List S) (es : List Ent) (K : S → List Ent → Option R) : Option R :=
  match av, es with
  | [.sl (.int .i64) v1, .int .i64 v2], [] => c_cause_made v1 v2 (fun (r0 : Err) => K (.err r0) [])
  | _, _ => none

def sh14 {R : Type} (av : List S) (es : List Ent) (K : S → List Ent → Option R) : Option R :=
  match av, es with
  | [.err v1], [] => gd (Err.fit [] [(43, 1, 1), (52, 1, 0)] v1) (K (.int .i64 (Err.num 0 v1)) [])
  | _, _ => none

def sh15 {R : Type} (av : List S) (es : List Ent) (K : S → List Ent → Option R) : Option R :=
  match av, es with
  | [.err v1, .int .i64 v2], [] => gd (Err.fit [] [(43, 1, 1), (52, 1, 0)] v1) (K (.bool (Err.isK v2 v1)) [])
  | _, _ => none

def sh16 {R : Type} (av : List S) (es : List Ent) (K : S → List Ent → Option R) : Option R :=
  match av, es with
  | [.err v1, .iface 45 (.ptr 0 [])], [.box .nilp false] => gd (Err.fit [] [(43, 1, 1), (52, 1, 0)] v1) (optK (Err.find 43 v1) (fun (v : Err) => K (.bool true) [.box (.iref (.pair (.pair (.int .i64) (.pair .err .unit)) (.pair (.int .i64) .unit)) (((Err.num 0 v), (Err.inner v), ()), (Err.num 1 v), ())) false]) (K (.bool false) [.box .nilp false]))
  | _, _ => none

def sh17 {R : Type} (av : List S) (es : List Ent) (K : S → List Ent → Option R) : Option R :=
  match av, es with
  | [.err v1], [] => gd (Err.fit [] [(43, 1, 1), (52, 1, 0)] v1) (K (.err (Err.inner v1)) [])
  | _, _ => none

def sh18 {R : Type} (c_ref1_in : (List Int) → Int → (Bool → Option R) → Option R) (av : List S) (es : List Ent) (K : S → List Ent → Option R) : Option R :=
  match av, es with
  | [.sl (.int .i64) v1, .int .i64 v2], [] => c_ref1_in v1 v2 (fun (r0 : Bool) => K (.bool r0) [])
  | _, _ => none

end
end Go.Ab.T
