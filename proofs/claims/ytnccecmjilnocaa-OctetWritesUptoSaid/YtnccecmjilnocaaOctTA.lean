/- OctTA: a part of the proofs of this seat's statements. -/
import Derived.Test.YtnccecmjilnocaaDef
import Derived.Test.YtnccecmjilnocaaPrimX
import Derived.Test.YtnccecmjilnocaaProg
import Derived.KernelRfl




namespace Go.Ab.T

open Go Go.Ab Go.Proofs

set_option maxRecDepth 100000

set_option linter.unusedVariables false

noncomputable section

def glob : Nat → Option S := fun _ => none

def raw : FuncId → Bool := fun f => [14, 15].contains f

def octet_Take_b {R : Type} (v1 : (List Int)) (v2 : Int) (v3 : Int) (K : Int → Int → Option R) : Option R :=
    let j31 : Bool → Option R := fun v4 =>
    (bif v4 then
     (K 0 1)
     else (let j30 : Bool → Option R := fun v5 =>
      (bif v5 then
       (K 0 2)
       else (gd (decide (0 ≤ (IntKind.i64.wrap (v2 + v3))))
        (gd (decide ((IntKind.i64.wrap (v2 + v3)) ≤ (v1.length : Int)))
         (gd (decide (0 ≤ (IntKind.i64.wrap (v2 + v3))))
          (gd (decide ((IntKind.i64.wrap (v2 + v3)) ≤ (IntKind.i64.wrap (v2 + v3))))
           (gd (decide (0 ≤ v2))
            (gd (decide (v2 ≤ (IntKind.i64.wrap (v2 + v3))))
             (let j7 : Int → Option R := fun v6 =>
              (K v6 0)
              (let j10 : Int → Option R := fun v8 =>
               (gd (decide (0 < (((v1.drop (Int.toNat v2)).take ((Int.toNat (IntKind.i64.wrap (v2 + v3))) - (Int.toNat v2))).length : Int)))
                (let v9 : Int := (bvop .u64 .or v8 (IntKind.u64.wrap (((v1.drop (Int.toNat v2)).take ((Int.toNat (IntKind.i64.wrap (v2 + v3))) - (Int.toNat v2))).getD 0 (0 : Int))))
                 j7 v9))
               (let j13 : Int → Option R := fun v11 =>
                (gd (decide (1 < (((v1.drop (Int.toNat v2)).take ((Int.toNat (IntKind.i64.wrap (v2 + v3))) - (Int.toNat v2))).length : Int)))
                 (let v12 : Int := (bvop .u64 .or v11 (shl .u64 (IntKind.u64.wrap (((v1.drop (Int.toNat v2)).take ((Int.toNat (IntKind.i64.wrap (v2 + v3))) - (Int.toNat v2))).getD 1 (0 : Int))) 8))
                  j10 v12))
                (let j16 : Int → Option R := fun v14 =>
                 (gd (decide (2 < (((v1.drop (Int.toNat v2)).take ((Int.toNat (IntKind.i64.wrap (v2 + v3))) - (Int.toNat v2))).length : Int)))
                  (let v15 : Int := (bvop .u64 .or v14 (shl .u64 (IntKind.u64.wrap (((v1.drop (Int.toNat v2)).take ((Int.toNat (IntKind.i64.wrap (v2 + v3))) - (Int.toNat v2))).getD 2 (0 : Int))) 16))
                   j13 v15))
                 (let j19 : Int → Option R := fun v17 =>
                  (gd (decide (3 < (((v1.drop (Int.toNat v2)).take ((Int.toNat (IntKind.i64.wrap (v2 + v3))) - (Int.toNat v2))).length : Int)))
                   (let v18 : Int := (bvop .u64 .or v17 (shl .u64 (IntKind.u64.wrap (((v1.drop (Int.toNat v2)).take ((Int.toNat (IntKind.i64.wrap (v2 + v3))) - (Int.toNat v2))).getD 3 (0 : Int))) 24))
                    j16 v18))
                  (let j22 : Int → Option R := fun v20 =>
                   (gd (decide (4 < (((v1.drop (Int.toNat v2)).take ((Int.toNat (IntKind.i64.wrap (v2 + v3))) - (Int.toNat v2))).length : Int)))
                    (let v21 : Int := (bvop .u64 .or v20 (shl .u64 (IntKind.u64.wrap (((v1.drop (Int.toNat v2)).take ((Int.toNat (IntKind.i64.wrap (v2 + v3))) - (Int.toNat v2))).getD 4 (0 : Int))) 32))
                     j19 v21))
                   (let j25 : Int → Option R := fun v23 =>
                    (gd (decide (5 < (((v1.drop (Int.toNat v2)).take ((Int.toNat (IntKind.i64.wrap (v2 + v3))) - (Int.toNat v2))).length : Int)))
                     (let v24 : Int := (bvop .u64 .or v23 (shl .u64 (IntKind.u64.wrap (((v1.drop (Int.toNat v2)).take ((Int.toNat (IntKind.i64.wrap (v2 + v3))) - (Int.toNat v2))).getD 5 (0 : Int))) 40))
                      j22 v24))
                    (let j28 : Int → Option R := fun v26 =>
                     (gd (decide (6 < (((v1.drop (Int.toNat v2)).take ((Int.toNat (IntKind.i64.wrap (v2 + v3))) - (Int.toNat v2))).length : Int)))
                      (let v27 : Int := (bvop .u64 .or v26 (shl .u64 (IntKind.u64.wrap (((v1.drop (Int.toNat v2)).take ((Int.toNat (IntKind.i64.wrap (v2 + v3))) - (Int.toNat v2))).getD 6 (0 : Int))) 48))
                       j25 v27))
                     (bif decide (v3 = 8) then
                      (gd (decide (7 < (((v1.drop (Int.toNat v2)).take ((Int.toNat (IntKind.i64.wrap (v2 + v3))) - (Int.toNat v2))).length : Int)))
                       (let v29 : Int := (shl .u64 (IntKind.u64.wrap (((v1.drop (Int.toNat v2)).take ((Int.toNat (IntKind.i64.wrap (v2 + v3))) - (Int.toNat v2))).getD 7 (0 : Int))) 56)
                        j28 v29))
                      else (bif decide (v3 = 7) then
                       (j28 0)
                       else (bif decide (v3 = 6) then
                        (j25 0)
                        else (bif decide (v3 = 5) then
                         (j22 0)
                         else (bif decide (v3 = 4) then
                          (j19 0)
                          else (bif decide (v3 = 3) then
                           (j16 0)
                           else (bif decide (v3 = 2) then
                            (j13 0)
                            else (bif decide (v3 = 1) then
                             (j10 0)
                             else (j7 0))))))))))))))))))))))))
      (bif decide ((v1.length : Int) < v2) then
       (j30 (decide ((v1.length : Int) < v2)))
       else (j30 (decide ((IntKind.i64.wrap ((v1.length : Int) - v2)) < v3))))))
    (bif decide (v2 < 0) then
     (j31 (decide (v2 < 0)))
     else (bif decide (v3 < 0) then
      (j31 (decide (v3 < 0)))
      else (j31 (decide (8 < v3)))))

def octet_Take {R : Type} (v1 : (List Int)) (v2 : Int) (v3 : Int) (K : Int → Int → Option R) : Option R := octet_Take_b v1 v2 v3 K

def octet_TakeText_b {R : Type} (c_octet_Take : (List Int) → Int → Int → (Int → Int → Option R) → Option R) (v1 : (List Int)) (v2 : Int) (K : Int → Int → (List Int) → Option R) : Option R :=
    c_octet_Take v1 0 2 (fun (v3 : Int) (v4 : Int) =>
     bif (!(decide (v4 = 0))) then
     (K 0 v4 ([] : List Int))
     else (bif decide (v2 < (IntKind.i64.wrap v3)) then
      (K 0 4 ([] : List Int))
      else (bif decide ((v1.length : Int) < (IntKind.i64.wrap (2 + (IntKind.i64.wrap v3)))) then
       (K 0 2 ([] : List Int))
       else (gd (decide (0 ≤ (IntKind.i64.wrap (2 + (IntKind.i64.wrap v3)))))
        (gd (decide ((IntKind.i64.wrap (2 + (IntKind.i64.wrap v3))) ≤ (v1.length : Int)))
         (gd (decide (0 ≤ (IntKind.i64.wrap (2 + (IntKind.i64.wrap v3)))))
          (gd (decide ((IntKind.i64.wrap (2 + (IntKind.i64.wrap v3))) ≤ (IntKind.i64.wrap (2 + (IntKind.i64.wrap v3)))))
           (gd (decide (2 ≤ (IntKind.i64.wrap (2 + (IntKind.i64.wrap v3)))))
            (gd (decide (([] : List Int).length + ((v1.drop 2).take ((Int.toNat (IntKind.i64.wrap (2 + (IntKind.i64.wrap v3)))) - 2)).length < SMALL))
             (K (IntKind.i64.wrap (2 + (IntKind.i64.wrap v3))) 0 (([] : List Int) ++ ((v1.drop 2).take ((Int.toNat (IntKind.i64.wrap (2 + (IntKind.i64.wrap v3)))) - 2)))))))))))))

def octet_TakeText {R : Type} (v1 : (List Int)) (v2 : Int) (K : Int → Int → (List Int) → Option R) : Option R := octet_TakeText_b octet_Take v1 v2 K

def octet_Put_l4_b {R : Type} (l_4 : Int → ((List Int) → Option R) → Int → Int → (List Int) → Option R) (v5 : Int) (Ke0 : (List Int) → Option R) (v4 : Int) (v6 : Int) (v7 : (List Int)) : Option R :=
    bif decide (v6 < v5) then
    (gd (decide (v7.length + ([(IntKind.u8.wrap v4)] : List Int).length < SMALL))
     (l_4 v5 Ke0 (shr .u64 v4 8) (IntKind.i64.wrap (v6 + 1)) (v7 ++ ([(IntKind.u8.wrap v4)] : List Int))))
    else (Ke0 v7)

def octet_Put_b {R : Type} (l_4 : Int → ((List Int) → Option R) → Int → Int → (List Int) → Option R) (v1 : (List Int)) (v2 : Int) (v3 : Int) (K : (List Int) → Option R) : Option R :=
    gd (decide (0 ≤ (IntKind.i64.wrap ((v1.length : Int) + (mn (mx v3 0) 8)))))
    (gd (decide ((IntKind.i64.wrap ((v1.length : Int) + (mn (mx v3 0) 8))) < (SMALL : Int)))
     (gd (decide ((List.replicate 0 (0 : Int)).length + v1.length < SMALL))
      (l_4 (mn (mx v3 0) 8)
       (fun (v8 : (List Int)) =>
        K v8) v2 0 ((List.replicate 0 (0 : Int)) ++ v1))))

def octet_Put_l4 {R : Type} (kf : Nat) : Nat → Int → ((List Int) → Option R) → Int → Int → (List Int) → Option R
  | 0, _, _, _, _, _ => none
  | k + 1, y0, y1, y2, y3, y4 => octet_Put_l4_b (octet_Put_l4 kf k) y0 y1 y2 y3 y4

def octet_Put {R : Type} (kf : Nat) (v1 : (List Int)) (v2 : Int) (v3 : Int) (K : (List Int) → Option R) : Option R := octet_Put_b (octet_Put_l4 kf kf) v1 v2 v3 K

def law1_begun_b {R : Type} (c_octet_Take : (List Int) → Int → Int → (Int → Int → Option R) → Option R) (c_octet_TakeText : (List Int) → Int → (Int → Int → (List Int) → Option R) → Option R) (c_octet_Put : (List Int) → Int → Int → ((List Int) → Option R) → Option R) (K : Bool → Option R) : Option R :=
    c_octet_Take ([9, 1, 2] : List Int) 1 2 (fun (v1 : Int) (v2 : Int) =>
     c_octet_TakeText ([1, 0, 7, 8] : List Int) 5 (fun (v3 : Int) (v4 : Int) (v5 : (List Int)) =>
      c_octet_Put ([] : (List Int)) 258 2 (fun (v6 : (List Int)) =>
       bif decide (v6 = [2, 1]) then
       (bif decide (v2 = 0) then
        (bif decide (v1 = 513) then
         (bif decide (v4 = 0) then
          (bif decide (v3 = 3) then
           (K (decide (v5 = [7])))
           else (K false))
          else (K false))
         else (K false))
        else (K false))
       else (K false))))

def law1_begun {R : Type} (kf : Nat) (K : Bool → Option R) : Option R := law1_begun_b octet_Take octet_TakeText (octet_Put kf) K

def law0_Twin_l4_b {R : Type} (l_4 : (List Int) → Int → ((List Int) → Int → (List Int) → Option R) → Int → (List Int) → Option R) (v3 : (List Int)) (v4 : Int) (Ke0 : (List Int) → Int → (List Int) → Option R) (v5 : Int) (v6 : (List Int)) : Option R :=
    bif decide (v5 < v4) then
    (gd (decide (0 ≤ v5))
     (gd (decide (v5 < v4))
      (l_4 v3 v4 Ke0 (IntKind.i64.wrap (v5 + 1)) (v6.set (Int.toNat v5) 229))))
    else (Ke0 v3 v4 v6)

def law0_Twin_b {R : Type} (l_4 : (List Int) → Int → ((List Int) → Int → (List Int) → Option R) → Int → (List Int) → Option R) (v1 : (List Int)) (K : Int → (List Int) → Option R) : Option R :=
    gd (decide (0 ≤ (IntKind.i64.wrap ((v1.length : Int) + 3))))
    (gd (decide ((IntKind.i64.wrap ((v1.length : Int) + 3)) = (IntKind.i64.wrap ((v1.length : Int) + 3))))
     (gd (decide ((IntKind.i64.wrap ((v1.length : Int) + 3)) < (SMALL : Int)))
      (let v2 : Int := ((Nat.min v1.length (List.replicate (Int.toNat (IntKind.i64.wrap ((v1.length : Int) + 3))) (0 : Int)).length : Nat) : Int)
       gd (decide ((IntKind.i64.wrap ((v1.length : Int) + 3)) = ((List.replicate (Int.toNat (IntKind.i64.wrap ((v1.length : Int) + 3))) (0 : Int)).length : Int)))
       (l_4 v1 (IntKind.i64.wrap ((v1.length : Int) + 3))
        (fun (v7 : (List Int)) (v8 : Int) (v9 : (List Int)) =>
         gd (decide (0 ≤ (v7.length : Int)))
         (gd (decide ((v7.length : Int) ≤ (v9.length : Int)))
          (K (v7.length : Int) v9))) (v1.length : Int) (v1.take (List.replicate (Int.toNat (IntKind.i64.wrap ((v1.length : Int) + 3))) (0 : Int)).length ++ (List.replicate (Int.toNat (IntKind.i64.wrap ((v1.length : Int) + 3))) (0 : Int)).drop v1.length)))))

def law0_Twin_l4 {R : Type} (kf : Nat) : Nat → (List Int) → Int → ((List Int) → Int → (List Int) → Option R) → Int → (List Int) → Option R
  | 0, _, _, _, _, _ => none
  | k + 1, y0, y1, y2, y3, y4 => law0_Twin_l4_b (law0_Twin_l4 kf k) y0 y1 y2 y3 y4

def law0_Twin {R : Type} (kf : Nat) (v1 : (List Int)) (K : Int → (List Int) → Option R) : Option R := law0_Twin_b (law0_Twin_l4 kf kf) v1 K

def octet_Text_b {R : Type} (c_octet_Put : (List Int) → Int → Int → ((List Int) → Option R) → Option R) (v1 : (List Int)) (v2 : (List Int)) (K : (List Int) → Option R) : Option R :=
    c_octet_Put v1 (IntKind.u64.wrap (v2.length : Int)) 2 (fun (v3 : (List Int)) =>
     gd (decide (v3.length + v2.length < SMALL))
     (K (v3 ++ v2)))

def octet_Text {R : Type} (kf : Nat) (v1 : (List Int)) (v2 : (List Int)) (K : (List Int) → Option R) : Option R := octet_Text_b (octet_Put kf) v1 v2 K

def ref1_Put_l3_b {R : Type} (l_3 : Int → ((List Int) → Option R) → Int → Int → (List Int) → Option R) (v5 : Int) (Ke0 : (List Int) → Option R) (v4 : Int) (v6 : Int) (v7 : (List Int)) : Option R :=
    bif decide (v6 < (mn (mx v5 0) 8)) then
    (gd (decide (v7.length + ([(IntKind.u8.wrap (Int.tmod v4 256))] : List Int).length < SMALL))
     (l_3 v5 Ke0 (IntKind.u64.wrap (Int.tdiv v4 256)) (IntKind.i64.wrap (v6 + 1)) (v7 ++ ([(IntKind.u8.wrap (Int.tmod v4 256))] : List Int))))
    else (Ke0 v7)

def ref1_Put_b {R : Type} (l_3 : Int → ((List Int) → Option R) → Int → Int → (List Int) → Option R) (v1 : (List Int)) (v2 : Int) (v3 : Int) (K : (List Int) → Option R) : Option R :=
    gd (decide (([] : List Int).length + v1.length < SMALL))
    (l_3 v3
     (fun (v8 : (List Int)) =>
      K v8) v2 0 (([] : List Int) ++ v1))

def ref1_Put_l3 {R : Type} (kf : Nat) : Nat → Int → ((List Int) → Option R) → Int → Int → (List Int) → Option R
  | 0, _, _, _, _, _ => none
  | k + 1, y0, y1, y2, y3, y4 => ref1_Put_l3_b (ref1_Put_l3 kf k) y0 y1 y2 y3 y4

def ref1_Put {R : Type} (kf : Nat) (v1 : (List Int)) (v2 : Int) (v3 : Int) (K : (List Int) → Option R) : Option R := ref1_Put_b (ref1_Put_l3 kf kf) v1 v2 v3 K

def ref1_Text_b {R : Type} (c_ref1_Put : (List Int) → Int → Int → ((List Int) → Option R) → Option R) (v1 : (List Int)) (v2 : (List Int)) (K : (List Int) → Option R) : Option R :=
    c_ref1_Put v1 (IntKind.u64.wrap (v2.length : Int)) 2 (fun (v3 : (List Int)) =>
     gd (decide (v3.length + v2.length < SMALL))
     (K (v3 ++ v2)))

def ref1_Text {R : Type} (kf : Nat) (v1 : (List Int)) (v2 : (List Int)) (K : (List Int) → Option R) : Option R := ref1_Text_b (ref1_Put kf) v1 v2 K

def law0_Kept_l5_b {R : Type} (l_5 : (List Int) → Int → (List Int) → (Bool → (List Int) → Option R) → ((List Int) → Option R) → Int → Option R) (v5 : (List Int)) (v6 : Int) (v8 : (List Int)) (Kr : Bool → (List Int) → Option R) (Ke0 : (List Int) → Option R) (v7 : Int) : Option R :=
    bif decide (v7 < (IntKind.i64.wrap ((v5.length : Int) + 3))) then
    (gd (decide (0 ≤ v7))
     (gd (decide (v7 < v6))
      (bif (!(decide ((v8.getD (Int.toNat v7) (0 : Int)) = 229))) then
       (Kr false v8)
       else (l_5 v5 v6 v8 Kr Ke0 (IntKind.i64.wrap (v7 + 1))))))
    else (Ke0 v8)

def law0_Kept_b {R : Type} (l_5 : (List Int) → Int → (List Int) → (Bool → (List Int) → Option R) → ((List Int) → Option R) → Int → Option R) (v1 : Int) (v2 : (List Int)) (v3 : (List Int)) (K : Bool → (List Int) → Option R) : Option R :=
    gd (decide (0 ≤ (v3.length : Int)))
    (gd (decide ((v3.length : Int) ≤ (v3.length : Int)))
     (let j12 : Bool → Option R := fun v4 =>
      (bif v4 then
       (K false v3)
       else (l_5 v2 (v3.length : Int) v3
        (fun (v9 : Bool) (v10 : (List Int)) =>
         K v9 v10)
        (fun (v11 : (List Int)) =>
         K true v11) (v2.length : Int)))
      (bif (!(decide ((v3.take (Int.toNat v1)) = v2))) then
       (j12 true)
       else (j12 (decide ((v3.length : Int) < (IntKind.i64.wrap ((v2.length : Int) + 3))))))))

def law0_Kept_l5 {R : Type} (kf : Nat) : Nat → (List Int) → Int → (List Int) → (Bool → (List Int) → Option R) → ((List Int) → Option R) → Int → Option R
  | 0, _, _, _, _, _, _ => none
  | k + 1, y0, y1, y2, y3, y4, y5 => law0_Kept_l5_b (law0_Kept_l5 kf k) y0 y1 y2 y3 y4 y5

def law0_Kept {R : Type} (kf : Nat) (v1 : Int) (v2 : (List Int)) (v3 : (List Int)) (K : Bool → (List Int) → Option R) : Option R := law0_Kept_b (law0_Kept_l5 kf kf) v1 v2 v3 K

def law1_OctetWrites_b {R : Type} (c_law1_begun : (Bool → Option R) → Option R) (c_law0_Twin : (List Int) → (Int → (List Int) → Option R) → Option R) (c_octet_Put : (List Int) → Int → Int → ((List Int) → Option R) → Option R) (c_octet_Text : (List Int) → (List Int) → ((List Int) → Option R) → Option R) (c_ref1_Put : (List Int) → Int → Int → ((List Int) → Option R) → Option R) (c_ref1_Text : (List Int) → (List Int) → ((List Int) → Option R) → Option R) (c_law0_Kept : Int → (List Int) → (List Int) → (Bool → (List Int) → Option R) → Option R) (v1 : (List Int)) (v2 : (List Int)) (v3 : Int) (v4 : Int) (K : Bool → Option R) : Option R :=
    c_law1_begun (fun (v5 : Bool) =>
     bif (!v5) then
     (K false)
     else (let j27 : Bool → Option R := fun v6 =>
      (bif v6 then
       (K true)
       else (c_law0_Twin v1 (fun (v7 : Int) (v8 : (List Int)) =>
         c_law0_Twin v2 (fun (v9 : Int) (v10 : (List Int)) =>
          c_octet_Put (v8.take (Int.toNat v7)) v3 v4 (fun (v11 : (List Int)) =>
           c_octet_Text (v8.take (Int.toNat v7)) (v10.take (Int.toNat v9)) (fun (v12 : (List Int)) =>
            let j20 : Bool → (List Int) → (List Int) → Option R := fun v13 v14 v15 =>
            (bif v13 then
             (c_law0_Kept v7 v1 v14 (fun (v16 : Bool) (v17 : (List Int)) =>
               bif v16 then
               (c_law0_Kept v9 v2 v15 (fun (v18 : Bool) (v19 : (List Int)) =>
                 K v18))
               else (K false)))
             else (K false))
            (c_ref1_Put v1 v3 v4 (fun (v21 : (List Int)) =>
              bif decide (v11 = v21) then
              (c_ref1_Text v1 v2 (fun (v22 : (List Int)) =>
                bif decide (v12 = v22) then
                (c_law0_Kept v7 v1 v8 (fun (v23 : Bool) (v24 : (List Int)) =>
                  bif v23 then
                  (c_law0_Kept v9 v2 v10 (fun (v25 : Bool) (v26 : (List Int)) =>
                    j20 v25 v24 v26))
                  else (j20 false v24 v10)))
                else (j20 false v8 v10)))
              else (j20 false v8 v10)))))))))
      (bif decide (4096 < (v1.length : Int)) then
       (j27 true)
       else (j27 (decide (4096 < (v2.length : Int)))))))

def law1_OctetWrites {R : Type} (kf : Nat) (v1 : (List Int)) (v2 : (List Int)) (v3 : Int) (v4 : Int) (K : Bool → Option R) : Option R := law1_OctetWrites_b (law1_begun kf) (law0_Twin kf) (octet_Put kf) (octet_Text kf) (ref1_Put kf) (ref1_Text kf) (law0_Kept kf) v1 v2 v3 v4 K

def sh3 {R : Type} (c_law1_OctetWrites : (List Int) → (List Int) → Int → Int → (Bool → Option R) → Option R) (av : List S) (es : List Ent) (K : S → List Ent → Option R) : Option R :=
  match av, es with
  | [.sl (.int .u8) v1, .sl (.int .u8) v2, .int .u64 v3, .int .i64 v4], [] => c_law1_OctetWrites v1 v2 v3 v4 (fun (r0 : Bool) => K (.bool r0) [])
  | _, _ => none

def sh8 {R : Type} (c_law1_begun : (Bool → Option R) → Option R) (av : List S) (es : List Ent) (K : S → List Ent → Option R) : Option R :=
  match av, es with
  | [], [] => c_law1_begun (fun (r0 : Bool) => K (.bool r0) [])
  | _, _ => none

def sh9 {R : Type} (c_law0_Twin : (List Int) → (Int → (List Int) → Option R) → Option R) (av : List S) (es : List Ent) (K : S → List Ent → Option R) : Option R :=
  match av, es with
  | [.sl (.int .u8) v1], [] => c_law0_Twin v1 (fun (r0 : Int) (r1 : (List Int)) => K (.twn (.int .u8) 0 r0) [.buf (.int .u8) r1 false])
  | _, _ => none

def sh10 {R : Type} (c_octet_Put : (List Int) → Int → Int → ((List Int) → Option R) → Option R) (av : List S) (es : List Ent) (K : S → List Ent → Option R) : Option R :=
  match av, es with
  | [.sl (.int .u8) v1, .int .u64 v2, .int .i64 v3], [] => c_octet_Put v1 v2 v3 (fun (r0 : (List Int)) => K (.own (.int .u8) 0) [.buf (.int .u8) r0 false])
  | _, _ => none

def sh11 {R : Type} (c_octet_Text : (List Int) → (List Int) → ((List Int) → Option R) → Option R) (av : List S) (es : List Ent) (K : S → List Ent → Option R) : Option R :=
  match av, es with
  | [.sl (.int .u8) v1, .sl (.int .u8) v2], [] => c_octet_Text v1 v2 (fun (r0 : (List Int)) => K (.own (.int .u8) 0) [.buf (.int .u8) r0 false])
  | _, _ => none

def sh12 {R : Type} (c_ref1_Put : (List Int) → Int → Int → ((List Int) → Option R) → Option R) (av : List S) (es : List Ent) (K : S → List Ent → Option R) : Option R :=
  match av, es with
  | [.sl (.int .u8) v1, .int .u64 v2, .int .i64 v3], [] => c_ref1_Put v1 v2 v3 (fun (r0 : (List Int)) => K (.own (.int .u8) 0) [.buf (.int .u8) r0 false])
  | _, _ => none

def sh13 {R : Type} (c_ref1_Text : (List Int) → (List Int) → ((List Int) → Option R) → Option R) (av : List S) (es : List Ent) (K : S → List Ent → Option R) : Option R :=
  match av, es with
  | [.sl (.int .u8) v1, .sl (.int .u8) v2], [] => c_ref1_Text v1 v2 (fun (r0 : (List Int)) => K (.own (.int .u8) 0) [.buf (.int .u8) r0 false])
  | _, _ => none

def sh14 {R : Type} (c_law0_Kept : Int → (List Int) → (List Int) → (Bool → (List Int) → Option R) → Option R) (av : List S) (es : List Ent) (K : S → List Ent → Option R) : Option R :=
  match av, es with
  | [.twn (.int .u8) 0 v1, .sl (.int .u8) v2], [.buf (.int .u8) v3 false] => c_law0_Kept v1 v2 v3 (fun (r0 : Bool) (r1 : (List Int)) => K (.bool r0) [.buf (.int .u8) r1 false])
  | _, _ => none

def sh15 {R : Type} (av : List S) (es : List Ent) (K : S → List Ent → Option R) : Option R :=
  match av, es with
  | [.own (.int .u8) 0], [.buf (.int .u8) v1 false] => K (.tup []) [.buf (.int .u8) (List.replicate v1.length (90 : Int)) false]
  | [.twn (.int .u8) 0 v2], [.buf (.int .u8) v1 false] => K (.tup []) [.buf (.int .u8) (List.replicate v1.length (90 : Int)) false]
  | _, _ => none

def sh16 {R : Type} (c_octet_Take : (List Int) → Int → Int → (Int → Int → Option R) → Option R) (av : List S) (es : List Ent) (K : S → List Ent → Option R) : Option R :=
  match av, es with
  | [.sl (.int .u8) v1, .int .i64 v2, .int .i64 v3], [] => c_octet_Take v1 v2 v3 (fun (r0 : Int) (r1 : Int) => K (.tup [.int .u64 r0, .int .i64 r1]) [])
  | _, _ => none

def sh17 {R : Type} (c_octet_TakeText : (List Int) → Int → (Int → Int → (List Int) → Option R) → Option R) (av : List S) (es : List Ent) (K : S → List Ent → Option R) : Option R :=
  match av, es with
  | [.sl (.int .u8) v1, .int .i64 v2], [] => c_octet_TakeText v1 v2 (fun (r0 : Int) (r1 : Int) (r2 : (List Int)) => K (.tup [.own (.int .u8) 0, .int .i64 r0, .int .i64 r1]) [.buf (.int .u8) r2 false])
  | _, _ => none

end
end Go.Ab.T
