/- OctetTA: a part of the proofs of this seat's statements; printed by a program of the prover's. -/
import Derived.Test.YtnccecmjilnocaaDef

import Derived.Test.YtnccecmjilnocaaProg

import Derived.KernelRfl

namespace Go.Ab.T

open Go Go.Ab Go.Proofs

set_option maxRecDepth 100000

set_option linter.unusedVariables false

noncomputable section

def glob : Nat → Option S := fun _ => none

def raw : FuncId → Bool := fun f => [].contains f

def octet_Take_b {R : Type} (v1 : (List Int)) (v2 : Int) (v3 : Int) (K : Int → Int → Option R) : Option R :=
    let j31 : Bool → Option R := fun v4 =>
    (bif v4 then
     (K 0 1)
     else (let j30 : Bool → Option R := fun v5 =>
      (bif v5 then
       (K 0 2)
       else (gd (decide (0 ≤ (IntKind.i64.wrap (v2 + v3))))
        (gd (decide ((IntKind.i64.wrap (v2 + v3)) ≤ (v1.length : Int)))
         (gd (decide (0 ≤ (IntKind.i64.wrap (v2 + v3))))
          (gd (decide ((IntKind.i64.wrap (v2 + v3)) ≤ (IntKind.i64.wrap (v2 + v3))))
           (gd (decide (0 ≤ v2))
            (gd (decide (v2 ≤ (IntKind.i64.wrap (v2 + v3))))
             (let j7 : Int → Option R := fun v6 =>
              (K v6 0)
              (let j10 : Int → Option R := fun v8 =>
               (gd (decide (0 < (((v1.drop (Int.toNat v2)).take ((Int.toNat (IntKind.i64.wrap (v2 + v3))) - (Int.toNat v2))).length : Int)))
                (let v9 : Int := (bvop .u64 .or v8 (IntKind.u64.wrap (((v1.drop (Int.toNat v2)).take ((Int.toNat (IntKind.i64.wrap (v2 + v3))) - (Int.toNat v2))).getD 0 (0 : Int))))
                 j7 v9))
               (let j13 : Int → Option R := fun v11 =>
                (gd (decide (1 < (((v1.drop (Int.toNat v2)).take ((Int.toNat (IntKind.i64.wrap (v2 + v3))) - (Int.toNat v2))).length : Int)))
                 (let v12 : Int := (bvop .u64 .or v11 (shl .u64 (IntKind.u64.wrap (((v1.drop (Int.toNat v2)).take ((Int.toNat (IntKind.i64.wrap (v2 + v3))) - (Int.toNat v2))).getD 1 (0 : Int))) 8))
                  j10 v12))
                (let j16 : Int → Option R := fun v14 =>
                 (gd (decide (2 < (((v1.drop (Int.toNat v2)).take ((Int.toNat (IntKind.i64.wrap (v2 + v3))) - (Int.toNat v2))).length : Int)))
                  (let v15 : Int := (bvop .u64 .or v14 (shl .u64 (IntKind.u64.wrap (((v1.drop (Int.toNat v2)).take ((Int.toNat (IntKind.i64.wrap (v2 + v3))) - (Int.toNat v2))).getD 2 (0 : Int))) 16))
                   j13 v15))
                 (let j19 : Int → Option R := fun v17 =>
                  (gd (decide (3 < (((v1.drop (Int.toNat v2)).take ((Int.toNat (IntKind.i64.wrap (v2 + v3))) - (Int.toNat v2))).length : Int)))
                   (let v18 : Int := (bvop .u64 .or v17 (shl .u64 (IntKind.u64.wrap (((v1.drop (Int.toNat v2)).take ((Int.toNat (IntKind.i64.wrap (v2 + v3))) - (Int.toNat v2))).getD 3 (0 : Int))) 24))
                    j16 v18))
                  (let j22 : Int → Option R := fun v20 =>
                   (gd (decide (4 < (((v1.drop (Int.toNat v2)).take ((Int.toNat (IntKind.i64.wrap (v2 + v3))) - (Int.toNat v2))).length : Int)))
                    (let v21 : Int := (bvop .u64 .or v20 (shl .u64 (IntKind.u64.wrap (((v1.drop (Int.toNat v2)).take ((Int.toNat (IntKind.i64.wrap (v2 + v3))) - (Int.toNat v2))).getD 4 (0 : Int))) 32))
                     j19 v21))
                   (let j25 : Int → Option R := fun v23 =>
                    (gd (decide (5 < (((v1.drop (Int.toNat v2)).take ((Int.toNat (IntKind.i64.wrap (v2 + v3))) - (Int.toNat v2))).length : Int)))
                     (let v24 : Int := (bvop .u64 .or v23 (shl .u64 (IntKind.u64.wrap (((v1.drop (Int.toNat v2)).take ((Int.toNat (IntKind.i64.wrap (v2 + v3))) - (Int.toNat v2))).getD 5 (0 : Int))) 40))
                      j22 v24))
                    (let j28 : Int → Option R := fun v26 =>
                     (gd (decide (6 < (((v1.drop (Int.toNat v2)).take ((Int.toNat (IntKind.i64.wrap (v2 + v3))) - (Int.toNat v2))).length : Int)))
                      (let v27 : Int := (bvop .u64 .or v26 (shl .u64 (IntKind.u64.wrap (((v1.drop (Int.toNat v2)).take ((Int.toNat (IntKind.i64.wrap (v2 + v3))) - (Int.toNat v2))).getD 6 (0 : Int))) 48))
                       j25 v27))
                     (bif decide (v3 = 8) then
                      (gd (decide (7 < (((v1.drop (Int.toNat v2)).take ((Int.toNat (IntKind.i64.wrap (v2 + v3))) - (Int.toNat v2))).length : Int)))
                       (let v29 : Int := (shl .u64 (IntKind.u64.wrap (((v1.drop (Int.toNat v2)).take ((Int.toNat (IntKind.i64.wrap (v2 + v3))) - (Int.toNat v2))).getD 7 (0 : Int))) 56)
                        j28 v29))
                      else (bif decide (v3 = 7) then
                       (j28 0)
                       else (bif decide (v3 = 6) then
                        (j25 0)
                        else (bif decide (v3 = 5) then
                         (j22 0)
                         else (bif decide (v3 = 4) then
                          (j19 0)
                          else (bif decide (v3 = 3) then
                           (j16 0)
                           else (bif decide (v3 = 2) then
                            (j13 0)
                            else (bif decide (v3 = 1) then
                             (j10 0)
                             else (j7 0))))))))))))))))))))))))
      (bif decide ((v1.length : Int) < v2) then
       (j30 (decide ((v1.length : Int) < v2)))
       else (j30 (decide ((IntKind.i64.wrap ((v1.length : Int) - v2)) < v3))))))
    (bif decide (v2 < 0) then
     (j31 (decide (v2 < 0)))
     else (bif decide (v3 < 0) then
      (j31 (decide (v3 < 0)))
      else (j31 (decide (8 < v3)))))

def octet_Take {R : Type} (v1 : (List Int)) (v2 : Int) (v3 : Int) (K : Int → Int → Option R) : Option R := octet_Take_b v1 v2 v3 K

def octet_TakeText_b {R : Type} (c_octet_Take : (List Int) → Int → Int → (Int → Int → Option R) → Option R) (v1 : (List Int)) (v2 : Int) (K : Int → Int → (List Int) → Option R) : Option R :=
    c_octet_Take v1 0 2 (fun (v3 : Int) (v4 : Int) =>
     bif (!(decide (v4 = 0))) then
     (K 0 v4 ([] : List Int))
     else (bif decide (v2 < (IntKind.i64.wrap v3)) then
      (K 0 4 ([] : List Int))
      else (bif decide ((v1.length : Int) < (IntKind.i64.wrap (2 + (IntKind.i64.wrap v3)))) then
       (K 0 2 ([] : List Int))
       else (gd (decide (0 ≤ (IntKind.i64.wrap (2 + (IntKind.i64.wrap v3)))))
        (gd (decide ((IntKind.i64.wrap (2 + (IntKind.i64.wrap v3))) ≤ (v1.length : Int)))
         (gd (decide (0 ≤ (IntKind.i64.wrap (2 + (IntKind.i64.wrap v3)))))
          (gd (decide ((IntKind.i64.wrap (2 + (IntKind.i64.wrap v3))) ≤ (IntKind.i64.wrap (2 + (IntKind.i64.wrap v3)))))
           (gd (decide (2 ≤ (IntKind.i64.wrap (2 + (IntKind.i64.wrap v3)))))
            (gd (decide (([] : List Int).length + ((v1.drop 2).take ((Int.toNat (IntKind.i64.wrap (2 + (IntKind.i64.wrap v3)))) - 2)).length < SMALL))
             (K (IntKind.i64.wrap (2 + (IntKind.i64.wrap v3))) 0 (([] : List Int) ++ ((v1.drop 2).take ((Int.toNat (IntKind.i64.wrap (2 + (IntKind.i64.wrap v3)))) - 2)))))))))))))

def octet_TakeText {R : Type} (v1 : (List Int)) (v2 : Int) (K : Int → Int → (List Int) → Option R) : Option R := octet_TakeText_b octet_Take v1 v2 K

def octet_Put_l4_b {R : Type} (l_4 : Int → ((List Int) → Option R) → Int → Int → (List Int) → Option R) (v5 : Int) (Ke0 : (List Int) → Option R) (v4 : Int) (v6 : Int) (v7 : (List Int)) : Option R :=
    bif decide (v6 < v5) then
    (gd (decide (v7.length + ([(IntKind.u8.wrap v4)] : List Int).length < SMALL))
     (l_4 v5 Ke0 (shr .u64 v4 8) (IntKind.i64.wrap (v6 + 1)) (v7 ++ ([(IntKind.u8.wrap v4)] : List Int))))
    else (Ke0 v7)

def octet_Put_b {R : Type} (l_4 : Int → ((List Int) → Option R) → Int → Int → (List Int) → Option R) (v1 : (List Int)) (v2 : Int) (v3 : Int) (K : (List Int) → Option R) : Option R :=
    gd (decide (0 ≤ (IntKind.i64.wrap ((v1.length : Int) + (mn (mx v3 0) 8)))))
    (gd (decide ((IntKind.i64.wrap ((v1.length : Int) + (mn (mx v3 0) 8))) < (SMALL : Int)))
     (gd (decide ((List.replicate 0 (0 : Int)).length + v1.length < SMALL))
      (l_4 (mn (mx v3 0) 8)
       (fun (v8 : (List Int)) =>
        K v8) v2 0 ((List.replicate 0 (0 : Int)) ++ v1))))

def octet_Put_l4 {R : Type} (kf : Nat) : Nat → Int → ((List Int) → Option R) → Int → Int → (List Int) → Option R
  | 0, _, _, _, _, _ => none
  | k + 1, y0, y1, y2, y3, y4 => octet_Put_l4_b (octet_Put_l4 kf k) y0 y1 y2 y3 y4

def octet_Put {R : Type} (kf : Nat) (v1 : (List Int)) (v2 : Int) (v3 : Int) (K : (List Int) → Option R) : Option R := octet_Put_b (octet_Put_l4 kf kf) v1 v2 v3 K

def law1_begun_b {R : Type} (c_octet_Take : (List Int) → Int → Int → (Int → Int → Option R) → Option R) (c_octet_TakeText : (List Int) → Int → (Int → Int → (List Int) → Option R) → Option R) (c_octet_Put : (List Int) → Int → Int → ((List Int) → Option R) → Option R) (K : Bool → Option R) : Option R :=
    c_octet_Take ([9, 1, 2] : List Int) 1 2 (fun (v1 : Int) (v2 : Int) =>
     c_octet_TakeText ([1, 0, 7, 8] : List Int) 5 (fun (v3 : Int) (v4 : Int) (v5 : (List Int)) =>
      c_octet_Put ([] : (List Int)) 258 2 (fun (v6 : (List Int)) =>
       bif decide (v6 = [2, 1]) then
       (bif decide (v2 = 0) then
        (bif decide (v1 = 513) then
         (bif decide (v4 = 0) then
          (bif decide (v3 = 3) then
           (K (decide (v5 = [7])))
           else (K false))
          else (K false))
         else (K false))
        else (K false))
       else (K false))))

def law1_begun {R : Type} (kf : Nat) (K : Bool → Option R) : Option R := law1_begun_b octet_Take octet_TakeText (octet_Put kf) K

def octet_Text_b {R : Type} (c_octet_Put : (List Int) → Int → Int → ((List Int) → Option R) → Option R) (v1 : (List Int)) (v2 : (List Int)) (K : (List Int) → Option R) : Option R :=
    c_octet_Put v1 (IntKind.u64.wrap (v2.length : Int)) 2 (fun (v3 : (List Int)) =>
     gd (decide (v3.length + v2.length < SMALL))
     (K (v3 ++ v2)))

def octet_Text {R : Type} (kf : Nat) (v1 : (List Int)) (v2 : (List Int)) (K : (List Int) → Option R) : Option R := octet_Text_b (octet_Put kf) v1 v2 K

def law0_Place_b {R : Type} (v1 : Int) (v2 : Int) (K : Int → Option R) : Option R :=
    bif decide (v2 < 1) then
    (K 0)
    else (gd (decide (v2 ≠ 0))
     (let j4 : Int → Option R := fun v3 =>
      (K v3)
      (bif decide ((Int.tmod v1 v2) < 0) then
       (j4 (IntKind.i64.wrap ((Int.tmod v1 v2) + v2)))
       else (j4 (Int.tmod v1 v2)))))

def law0_Place {R : Type} (v1 : Int) (v2 : Int) (K : Int → Option R) : Option R := law0_Place_b v1 v2 K

def law1_OctetBack_b {R : Type} (c_law1_begun : (Bool → Option R) → Option R) (c_octet_Put : (List Int) → Int → Int → ((List Int) → Option R) → Option R) (c_octet_Take : (List Int) → Int → Int → (Int → Int → Option R) → Option R) (c_octet_Text : (List Int) → (List Int) → ((List Int) → Option R) → Option R) (c_octet_TakeText : (List Int) → Int → (Int → Int → (List Int) → Option R) → Option R) (c_law0_Place : Int → Int → (Int → Option R) → Option R) (v1 : (List Int)) (v2 : (List Int)) (v3 : (List Int)) (v4 : Int) (v5 : Int) (v6 : Int) (K : Bool → Option R) : Option R :=
    c_law1_begun (fun (v7 : Bool) =>
     bif (!v7) then
     (K false)
     else (let j23 : Bool → Option R := fun v8 =>
      (bif v8 then
       (K true)
       else (c_octet_Put v1 v4 (IntKind.i64.wrap (Int.tmod v5 9)) (fun (v9 : (List Int)) =>
         gd (decide (v9.length + v3.length < SMALL))
         (c_octet_Take (v9 ++ v3) (v1.length : Int) (IntKind.i64.wrap (Int.tmod v5 9)) (fun (v10 : Int) (v11 : Int) =>
           let j21 : Int → Option R := fun v12 =>
           (c_octet_Text ([] : (List Int)) v2 (fun (v13 : (List Int)) =>
             gd (decide (([] : List Int).length + v13.length < SMALL))
             (gd (decide ((([] : List Int) ++ v13).length + v3.length < SMALL))
              (c_octet_TakeText ((([] : List Int) ++ v13) ++ v3) 300 (fun (v14 : Int) (v15 : Int) (v16 : (List Int)) =>
                c_law0_Place v6 (v13.length : Int) (fun (v17 : Int) =>
                 gd (decide (0 ≤ v17))
                 (gd (decide (v17 ≤ (v13.length : Int)))
                  (c_octet_TakeText (v13.take (Int.toNat v17)) 300 (fun (v18 : Int) (v19 : Int) (v20 : (List Int)) =>
                    bif decide (v11 = 0) then
                    (bif decide (v10 = v12) then
                     (bif decide (v15 = 0) then
                      (bif decide (v14 = (v13.length : Int)) then
                       (bif decide (v16 = v2) then
                        (bif decide (v19 = 2) then
                         (K (decide (v18 = 0)))
                         else (K false))
                        else (K false))
                       else (K false))
                      else (K false))
                     else (K false))
                    else (K false))))))))))
           (bif decide ((IntKind.i64.wrap (Int.tmod v5 9)) < 8) then
            (gd (decide (0 ≤ (IntKind.i64.wrap (mulZ 8 (IntKind.i64.wrap (Int.tmod v5 9))))))
             (gd (decide ((shl .u64 1 (IntKind.i64.wrap (mulZ 8 (IntKind.i64.wrap (Int.tmod v5 9))))) ≠ 0))
              (let v22 : Int := (Int.tmod v4 (shl .u64 1 (IntKind.i64.wrap (mulZ 8 (IntKind.i64.wrap (Int.tmod v5 9))))))
               j21 v22)))
            else (j21 v4)))))))
      (bif decide (300 < (v1.length : Int)) then
       (j23 true)
       else (bif decide (300 < (v2.length : Int)) then
        (j23 true)
        else (j23 (decide (300 < (v3.length : Int))))))))

def law1_OctetBack {R : Type} (kf : Nat) (v1 : (List Int)) (v2 : (List Int)) (v3 : (List Int)) (v4 : Int) (v5 : Int) (v6 : Int) (K : Bool → Option R) : Option R := law1_OctetBack_b (law1_begun kf) (octet_Put kf) octet_Take (octet_Text kf) octet_TakeText law0_Place v1 v2 v3 v4 v5 v6 K

def law1_OctetApart_b {R : Type} (c_law1_begun : (Bool → Option R) → Option R) (c_octet_Text : (List Int) → (List Int) → ((List Int) → Option R) → Option R) (c_octet_Put : (List Int) → Int → Int → ((List Int) → Option R) → Option R) (v1 : Int) (v2 : Int) (v3 : (List Int)) (v4 : (List Int)) (K : Bool → Option R) : Option R :=
    c_law1_begun (fun (v5 : Bool) =>
     bif (!v5) then
     (K false)
     else (let j13 : Bool → Option R := fun v6 =>
      (bif v6 then
       (K true)
       else (c_octet_Text ([] : (List Int)) v3 (fun (v7 : (List Int)) =>
         c_octet_Text ([] : (List Int)) v4 (fun (v8 : (List Int)) =>
          let j12 : Bool → Option R := fun v9 =>
          (c_octet_Put ([] : (List Int)) v1 8 (fun (v10 : (List Int)) =>
            c_octet_Put ([] : (List Int)) v2 8 (fun (v11 : (List Int)) =>
             bif decide (decide (v10 = v11) = decide (v1 = v2)) then
             (K (decide (v9 = decide (v3 = v4))))
             else (K false))))
          (bif decide ((v7.length : Int) ≤ (v8.length : Int)) then
           (gd (decide (0 ≤ (v7.length : Int)))
            (gd (decide ((v7.length : Int) ≤ (v8.length : Int)))
             (j12 (decide ((v8.take (Int.toNat (v7.length : Int))) = v7)))))
           else (j12 false))))))
      (bif decide (100 < (v3.length : Int)) then
       (j13 true)
       else (j13 (decide (100 < (v4.length : Int)))))))

def law1_OctetApart {R : Type} (kf : Nat) (v1 : Int) (v2 : Int) (v3 : (List Int)) (v4 : (List Int)) (K : Bool → Option R) : Option R := law1_OctetApart_b (law1_begun kf) (octet_Text kf) (octet_Put kf) v1 v2 v3 v4 K

def law1_OctetRows_l7_b {R : Type} (c_law1_begun : (Bool → Option R) → Option R) (c_octet_Put : (List Int) → Int → Int → ((List Int) → Option R) → Option R) (c_octet_Text : (List Int) → (List Int) → ((List Int) → Option R) → Option R) (c_octet_Take : (List Int) → Int → Int → (Int → Int → Option R) → Option R) (c_octet_TakeText : (List Int) → Int → (Int → Int → (List Int) → Option R) → Option R) (l_7 : (List Int) → (List (List Int)) → ((List Int) → (List (List Int)) → (List Int) → Option R) → Int → (List Int) → Option R) (l_12 : (List Int) → (List (List Int)) → Int → ((List Int) → (List (List Int)) → Bool → Int → (List Int) → Option R) → ((List Int) → (List (List Int)) → Int → (List Int) → Option R) → Int → (List Int) → Option R) (l_19 : (List Int) → (List (List Int)) → Int → (List Int) → ((List (List Int)) → Bool → Int → (List Int) → Option R) → ((List (List Int)) → Int → (List Int) → Option R) → Int → Int → Option R) (l_30 : (List (List Int)) → (List Int) → (Bool → Int → (List Int) → Option R) → (Int → (List Int) → Option R) → Int → Int → Option R) (v5 : (List Int)) (v6 : (List (List Int))) (Ke0 : (List Int) → (List (List Int)) → (List Int) → Option R) (v7 : Int) (v8 : (List Int)) : Option R :=
    bif decide (v7 < (v5.length : Int)) then
    (gd (decide (0 ≤ v7))
     (gd (decide (v7 < (v5.length : Int)))
      (c_octet_Put v8 (v5.getD (Int.toNat v7) (0 : Int)) (IntKind.i64.wrap (1 + (Int.tmod v7 8))) (fun (v9 : (List Int)) =>
        l_7 v5 v6 Ke0 (IntKind.i64.wrap (v7 + 1)) v9))))
    else (Ke0 v5 v6 v8)

def law1_OctetRows_l12_b {R : Type} (c_law1_begun : (Bool → Option R) → Option R) (c_octet_Put : (List Int) → Int → Int → ((List Int) → Option R) → Option R) (c_octet_Text : (List Int) → (List Int) → ((List Int) → Option R) → Option R) (c_octet_Take : (List Int) → Int → Int → (Int → Int → Option R) → Option R) (c_octet_TakeText : (List Int) → Int → (Int → Int → (List Int) → Option R) → Option R) (l_7 : (List Int) → (List (List Int)) → ((List Int) → (List (List Int)) → (List Int) → Option R) → Int → (List Int) → Option R) (l_12 : (List Int) → (List (List Int)) → Int → ((List Int) → (List (List Int)) → Bool → Int → (List Int) → Option R) → ((List Int) → (List (List Int)) → Int → (List Int) → Option R) → Int → (List Int) → Option R) (l_19 : (List Int) → (List (List Int)) → Int → (List Int) → ((List (List Int)) → Bool → Int → (List Int) → Option R) → ((List (List Int)) → Int → (List Int) → Option R) → Int → Int → Option R) (l_30 : (List (List Int)) → (List Int) → (Bool → Int → (List Int) → Option R) → (Int → (List Int) → Option R) → Int → Int → Option R) (v13 : (List Int)) (v14 : (List (List Int))) (v15 : Int) (Kr : (List Int) → (List (List Int)) → Bool → Int → (List Int) → Option R) (Ke2 : (List Int) → (List (List Int)) → Int → (List Int) → Option R) (v16 : Int) (v17 : (List Int)) : Option R :=
    bif decide (v16 < (v14.length : Int)) then
    (gd (decide (0 ≤ v16))
     (gd (decide (v16 < (v14.length : Int)))
      (bif decide (100 < ((v14.getD (Int.toNat v16) ([] : (List Int))).length : Int)) then
       (Kr v13 v14 true v15 v17)
       else (gd (decide (0 ≤ v16))
        (gd (decide (v16 < (v14.length : Int)))
         (c_octet_Text v17 (v14.getD (Int.toNat v16) ([] : (List Int))) (fun (v18 : (List Int)) =>
           l_12 v13 v14 v15 Kr Ke2 (IntKind.i64.wrap (v16 + 1)) v18)))))))
    else (Ke2 v13 v14 v15 v17)

def law1_OctetRows_l19_b {R : Type} (c_law1_begun : (Bool → Option R) → Option R) (c_octet_Put : (List Int) → Int → Int → ((List Int) → Option R) → Option R) (c_octet_Text : (List Int) → (List Int) → ((List Int) → Option R) → Option R) (c_octet_Take : (List Int) → Int → Int → (Int → Int → Option R) → Option R) (c_octet_TakeText : (List Int) → Int → (Int → Int → (List Int) → Option R) → Option R) (l_7 : (List Int) → (List (List Int)) → ((List Int) → (List (List Int)) → (List Int) → Option R) → Int → (List Int) → Option R) (l_12 : (List Int) → (List (List Int)) → Int → ((List Int) → (List (List Int)) → Bool → Int → (List Int) → Option R) → ((List Int) → (List (List Int)) → Int → (List Int) → Option R) → Int → (List Int) → Option R) (l_19 : (List Int) → (List (List Int)) → Int → (List Int) → ((List (List Int)) → Bool → Int → (List Int) → Option R) → ((List (List Int)) → Int → (List Int) → Option R) → Int → Int → Option R) (l_30 : (List (List Int)) → (List Int) → (Bool → Int → (List Int) → Option R) → (Int → (List Int) → Option R) → Int → Int → Option R) (v28 : (List Int)) (v29 : (List (List Int))) (v30 : Int) (v33 : (List Int)) (Kr : (List (List Int)) → Bool → Int → (List Int) → Option R) (Ke4 : (List (List Int)) → Int → (List Int) → Option R) (v31 : Int) (v32 : Int) : Option R :=
    bif decide (v32 < (v28.length : Int)) then
    (c_octet_Take v33 v31 (IntKind.i64.wrap (1 + (Int.tmod v32 8))) (fun (v34 : Int) (v35 : Int) =>
      gd (decide (0 ≤ v32))
      (gd (decide (v32 < (v28.length : Int)))
       (let j39 : Int → Option R := fun v36 =>
        (let j38 : Bool → Option R := fun v37 =>
         (bif v37 then
          (Kr v29 false v30 v33)
          else (l_19 v28 v29 v30 v33 Kr Ke4 (IntKind.i64.wrap (v31 + (IntKind.i64.wrap (1 + (Int.tmod v32 8))))) (IntKind.i64.wrap (v32 + 1))))
         (bif (!(decide (v35 = 0))) then
          (j38 true)
          else (j38 (!(decide (v34 = v36))))))
        (bif decide ((IntKind.i64.wrap (1 + (Int.tmod v32 8))) < 8) then
         (gd (decide (0 ≤ (IntKind.i64.wrap (mulZ 8 (IntKind.i64.wrap (1 + (Int.tmod v32 8)))))))
          (gd (decide ((shl .u64 1 (IntKind.i64.wrap (mulZ 8 (IntKind.i64.wrap (1 + (Int.tmod v32 8)))))) ≠ 0))
           (let v40 : Int := (Int.tmod (v28.getD (Int.toNat v32) (0 : Int)) (shl .u64 1 (IntKind.i64.wrap (mulZ 8 (IntKind.i64.wrap (1 + (Int.tmod v32 8)))))))
            j39 v40)))
         else (j39 (v28.getD (Int.toNat v32) (0 : Int))))))))
    else (Ke4 v29 v30 v33)

def law1_OctetRows_l30_b {R : Type} (c_law1_begun : (Bool → Option R) → Option R) (c_octet_Put : (List Int) → Int → Int → ((List Int) → Option R) → Option R) (c_octet_Text : (List Int) → (List Int) → ((List Int) → Option R) → Option R) (c_octet_Take : (List Int) → Int → Int → (Int → Int → Option R) → Option R) (c_octet_TakeText : (List Int) → Int → (Int → Int → (List Int) → Option R) → Option R) (l_7 : (List Int) → (List (List Int)) → ((List Int) → (List (List Int)) → (List Int) → Option R) → Int → (List Int) → Option R) (l_12 : (List Int) → (List (List Int)) → Int → ((List Int) → (List (List Int)) → Bool → Int → (List Int) → Option R) → ((List Int) → (List (List Int)) → Int → (List Int) → Option R) → Int → (List Int) → Option R) (l_19 : (List Int) → (List (List Int)) → Int → (List Int) → ((List (List Int)) → Bool → Int → (List Int) → Option R) → ((List (List Int)) → Int → (List Int) → Option R) → Int → Int → Option R) (l_30 : (List (List Int)) → (List Int) → (Bool → Int → (List Int) → Option R) → (Int → (List Int) → Option R) → Int → Int → Option R) (v48 : (List (List Int))) (v51 : (List Int)) (Kr : Bool → Int → (List Int) → Option R) (Ke6 : Int → (List Int) → Option R) (v49 : Int) (v50 : Int) : Option R :=
    bif decide (v50 < (v48.length : Int)) then
    (gd (decide (0 ≤ v49))
     (gd (decide (v49 ≤ (v51.length : Int)))
      (c_octet_TakeText (v51.drop (Int.toNat v49)) 100 (fun (v52 : Int) (v53 : Int) (v54 : (List Int)) =>
        let j56 : Bool → Option R := fun v55 =>
        (bif v55 then
         (Kr false v49 v51)
         else (l_30 v48 v51 Kr Ke6 (IntKind.i64.wrap (v49 + v52)) (IntKind.i64.wrap (v50 + 1))))
        (bif (!(decide (v53 = 0))) then
         (j56 true)
         else (gd (decide (0 ≤ v50))
          (gd (decide (v50 < (v48.length : Int)))
           (j56 (!(decide (v54 = (v48.getD (Int.toNat v50) ([] : (List Int))))))))))))))
    else (Ke6 v49 v51)

def law1_OctetRows_b {R : Type} (c_law1_begun : (Bool → Option R) → Option R) (c_octet_Put : (List Int) → Int → Int → ((List Int) → Option R) → Option R) (c_octet_Text : (List Int) → (List Int) → ((List Int) → Option R) → Option R) (c_octet_Take : (List Int) → Int → Int → (Int → Int → Option R) → Option R) (c_octet_TakeText : (List Int) → Int → (Int → Int → (List Int) → Option R) → Option R) (l_7 : (List Int) → (List (List Int)) → ((List Int) → (List (List Int)) → (List Int) → Option R) → Int → (List Int) → Option R) (l_12 : (List Int) → (List (List Int)) → Int → ((List Int) → (List (List Int)) → Bool → Int → (List Int) → Option R) → ((List Int) → (List (List Int)) → Int → (List Int) → Option R) → Int → (List Int) → Option R) (l_19 : (List Int) → (List (List Int)) → Int → (List Int) → ((List (List Int)) → Bool → Int → (List Int) → Option R) → ((List (List Int)) → Int → (List Int) → Option R) → Int → Int → Option R) (l_30 : (List (List Int)) → (List Int) → (Bool → Int → (List Int) → Option R) → (Int → (List Int) → Option R) → Int → Int → Option R) (v1 : (List Int)) (v2 : (List (List Int))) (K : Bool → Option R) : Option R :=
    c_law1_begun (fun (v3 : Bool) =>
     bif (!v3) then
     (K false)
     else (let j62 : Bool → Option R := fun v4 =>
      (bif v4 then
       (K true)
       else (l_7 v1 v2
        (fun (v10 : (List Int)) (v11 : (List (List Int))) (v12 : (List Int)) =>
         l_12 v10 v11 (v12.length : Int)
         (fun (v19 : (List Int)) (v20 : (List (List Int))) (v21 : Bool) (v22 : Int) (v23 : (List Int)) =>
          K v21)
         (fun (v24 : (List Int)) (v25 : (List (List Int))) (v26 : Int) (v27 : (List Int)) =>
          l_19 v24 v25 v26 v27
          (fun (v41 : (List (List Int))) (v42 : Bool) (v43 : Int) (v44 : (List Int)) =>
           K v42)
          (fun (v45 : (List (List Int))) (v46 : Int) (v47 : (List Int)) =>
           l_30 v45 v47
           (fun (v57 : Bool) (v58 : Int) (v59 : (List Int)) =>
            K v57)
           (fun (v60 : Int) (v61 : (List Int)) =>
            K (decide (v60 = (v61.length : Int)))) v46 0) 0 0) 0 v12) 0 ([] : List Int)))
      (bif decide (20 < (v1.length : Int)) then
       (j62 true)
       else (j62 (decide (20 < (v2.length : Int)))))))

def law1_OctetRows_l7 {R : Type} (kf : Nat) : Nat → (List Int) → (List (List Int)) → ((List Int) → (List (List Int)) → (List Int) → Option R) → Int → (List Int) → Option R
  | 0, _, _, _, _, _ => none
  | k + 1, y0, y1, y2, y3, y4 => law1_OctetRows_l7_b (law1_begun kf) (octet_Put kf) (octet_Text kf) octet_Take octet_TakeText (law1_OctetRows_l7 kf k) (fun _ _ _ _ _ _ _ => none) (fun _ _ _ _ _ _ _ _ => none) (fun _ _ _ _ _ _ => none) y0 y1 y2 y3 y4

def law1_OctetRows_l12 {R : Type} (kf : Nat) : Nat → (List Int) → (List (List Int)) → Int → ((List Int) → (List (List Int)) → Bool → Int → (List Int) → Option R) → ((List Int) → (List (List Int)) → Int → (List Int) → Option R) → Int → (List Int) → Option R
  | 0, _, _, _, _, _, _, _ => none
  | k + 1, y0, y1, y2, y3, y4, y5, y6 => law1_OctetRows_l12_b (law1_begun kf) (octet_Put kf) (octet_Text kf) octet_Take octet_TakeText (law1_OctetRows_l7 kf k) (law1_OctetRows_l12 kf k) (fun _ _ _ _ _ _ _ _ => none) (fun _ _ _ _ _ _ => none) y0 y1 y2 y3 y4 y5 y6

def law1_OctetRows_l19 {R : Type} (kf : Nat) : Nat → (List Int) → (List (List Int)) → Int → (List Int) → ((List (List Int)) → Bool → Int → (List Int) → Option R) → ((List (List Int)) → Int → (List Int) → Option R) → Int → Int → Option R
  | 0, _, _, _, _, _, _, _, _ => none
  | k + 1, y0, y1, y2, y3, y4, y5, y6, y7 => law1_OctetRows_l19_b (law1_begun kf) (octet_Put kf) (octet_Text kf) octet_Take octet_TakeText (law1_OctetRows_l7 kf k) (law1_OctetRows_l12 kf k) (law1_OctetRows_l19 kf k) (fun _ _ _ _ _ _ => none) y0 y1 y2 y3 y4 y5 y6 y7

def law1_OctetRows_l30 {R : Type} (kf : Nat) : Nat → (List (List Int)) → (List Int) → (Bool → Int → (List Int) → Option R) → (Int → (List Int) → Option R) → Int → Int → Option R
  | 0, _, _, _, _, _, _ => none
  | k + 1, y0, y1, y2, y3, y4, y5 => law1_OctetRows_l30_b (law1_begun kf) (octet_Put kf) (octet_Text kf) octet_Take octet_TakeText (law1_OctetRows_l7 kf k) (law1_OctetRows_l12 kf k) (law1_OctetRows_l19 kf k) (law1_OctetRows_l30 kf k) y0 y1 y2 y3 y4 y5

def law1_OctetRows {R : Type} (kf : Nat) (v1 : (List Int)) (v2 : (List (List Int))) (K : Bool → Option R) : Option R := law1_OctetRows_b (law1_begun kf) (octet_Put kf) (octet_Text kf) octet_Take octet_TakeText (law1_OctetRows_l7 kf kf) (law1_OctetRows_l12 kf kf) (law1_OctetRows_l19 kf kf) (law1_OctetRows_l30 kf kf) v1 v2 K

def law1_OctetMost_b {R : Type} (c_law1_begun : (Bool → Option R) → Option R) (c_octet_Text : (List Int) → (List Int) → ((List Int) → Option R) → Option R) (c_octet_TakeText : (List Int) → Int → (Int → Int → (List Int) → Option R) → Option R) (v1 : (List Int)) (v2 : Int) (K : Bool → Option R) : Option R :=
    c_law1_begun (fun (v3 : Bool) =>
     bif (!v3) then
     (K false)
     else (bif decide (300 < (v1.length : Int)) then
      (K true)
      else (c_octet_Text ([] : (List Int)) v1 (fun (v4 : (List Int)) =>
        c_octet_TakeText v4 (IntKind.i64.wrap v2) (fun (v5 : Int) (v6 : Int) (v7 : (List Int)) =>
         bif decide ((IntKind.i64.wrap v2) < (v1.length : Int)) then
         (bif decide (v6 = 4) then
          (bif decide (v5 = 0) then
           (K (decide ((v7.length : Int) = 0)))
           else (K false))
          else (K false))
         else (bif decide (v6 = 0) then
          (bif decide (v5 = (IntKind.i64.wrap ((v1.length : Int) + 2))) then
           (K (decide (v7 = v1)))
           else (K false))
          else (K false)))))))

def law1_OctetMost {R : Type} (kf : Nat) (v1 : (List Int)) (v2 : Int) (K : Bool → Option R) : Option R := law1_OctetMost_b (law1_begun kf) (octet_Text kf) octet_TakeText v1 v2 K

def sh4 {R : Type} (c_law1_OctetBack : (List Int) → (List Int) → (List Int) → Int → Int → Int → (Bool → Option R) → Option R) (av : List S) (es : List Ent) (K : S → List Ent → Option R) : Option R :=
  match av, es with
  | [.sl (.int .u8) v1, .sl (.int .u8) v2, .sl (.int .u8) v3, .int .u64 v4, .int .u8 v5, .int .i64 v6], [] => c_law1_OctetBack v1 v2 v3 v4 v5 v6 (fun (r0 : Bool) => K (.bool r0) [])
  | _, _ => none

def sh5 {R : Type} (c_law1_OctetApart : Int → Int → (List Int) → (List Int) → (Bool → Option R) → Option R) (av : List S) (es : List Ent) (K : S → List Ent → Option R) : Option R :=
  match av, es with
  | [.int .u64 v1, .int .u64 v2, .sl (.int .u8) v3, .sl (.int .u8) v4], [] => c_law1_OctetApart v1 v2 v3 v4 (fun (r0 : Bool) => K (.bool r0) [])
  | _, _ => none

def sh6 {R : Type} (c_law1_OctetRows : (List Int) → (List (List Int)) → (Bool → Option R) → Option R) (av : List S) (es : List Ent) (K : S → List Ent → Option R) : Option R :=
  match av, es with
  | [.sl (.int .u64) v1, .sl (.slice (.int .u8)) v2], [] => c_law1_OctetRows v1 v2 (fun (r0 : Bool) => K (.bool r0) [])
  | _, _ => none

def sh7 {R : Type} (c_law1_OctetMost : (List Int) → Int → (Bool → Option R) → Option R) (av : List S) (es : List Ent) (K : S → List Ent → Option R) : Option R :=
  match av, es with
  | [.sl (.int .u8) v1, .int .u16 v2], [] => c_law1_OctetMost v1 v2 (fun (r0 : Bool) => K (.bool r0) [])
  | _, _ => none

def sh8 {R : Type} (c_law1_begun : (Bool → Option R) → Option R) (av : List S) (es : List Ent) (K : S → List Ent → Option R) : Option R :=
  match av, es with
  | [], [] => c_law1_begun (fun (r0 : Bool) => K (.bool r0) [])
  | _, _ => none

def sh10 {R : Type} (c_octet_Put : (List Int) → Int → Int → ((List Int) → Option R) → Option R) (av : List S) (es : List Ent) (K : S → List Ent → Option R) : Option R :=
  match av, es with
  | [.sl (.int .u8) v1, .int .u64 v2, .int .i64 v3], [] => c_octet_Put v1 v2 v3 (fun (r0 : (List Int)) => K (.own (.int .u8) 0) [.buf (.int .u8) r0 false])
  | _, _ => none

def sh11 {R : Type} (c_octet_Text : (List Int) → (List Int) → ((List Int) → Option R) → Option R) (av : List S) (es : List Ent) (K : S → List Ent → Option R) : Option R :=
  match av, es with
  | [.sl (.int .u8) v1, .sl (.int .u8) v2], [] => c_octet_Text v1 v2 (fun (r0 : (List Int)) => K (.own (.int .u8) 0) [.buf (.int .u8) r0 false])
  | _, _ => none

def sh16 {R : Type} (c_octet_Take : (List Int) → Int → Int → (Int → Int → Option R) → Option R) (av : List S) (es : List Ent) (K : S → List Ent → Option R) : Option R :=
  match av, es with
  | [.sl (.int .u8) v1, .int .i64 v2, .int .i64 v3], [] => c_octet_Take v1 v2 v3 (fun (r0 : Int) (r1 : Int) => K (.tup [.int .u64 r0, .int .i64 r1]) [])
  | _, _ => none

def sh17 {R : Type} (c_octet_TakeText : (List Int) → Int → (Int → Int → (List Int) → Option R) → Option R) (av : List S) (es : List Ent) (K : S → List Ent → Option R) : Option R :=
  match av, es with
  | [.sl (.int .u8) v1, .int .i64 v2], [] => c_octet_TakeText v1 v2 (fun (r0 : Int) (r1 : Int) (r2 : (List Int)) => K (.tup [.own (.int .u8) 0, .int .i64 r0, .int .i64 r1]) [.buf (.int .u8) r2 false])
  | _, _ => none

def sh18 {R : Type} (c_law0_Place : Int → Int → (Int → Option R) → Option R) (av : List S) (es : List Ent) (K : S → List Ent → Option R) : Option R :=
  match av, es with
  | [.int .i64 v1, .int .i64 v2], [] => c_law0_Place v1 v2 (fun (r0 : Int) => K (.int .i64 r0) [])
  | _, _ => none

end
end Go.Ab.T
