/- WirTA: a part of the proofs of this seat's statements. -/
import Derived.Test.YtlhinijgdffcdaaDoorDef
import Derived.Test.YtlhinijgdffcdaaDoorPrimX
import Derived.Test.YtlhinijgdffcdaaDoorProg
import Derived.KernelRfl




namespace Go.Ab.T

open Go Go.Ab Go.Proofs

set_option maxRecDepth 100000

set_option linter.unusedVariables false

noncomputable section

def glob : Nat → Option S := fun g => if g = 0 then some (.err (.raw 110 (.agg #[.pointer (some ⟨1, 55, none⟩)]))) else none

def raw : FuncId → Bool := fun f => [].contains f

def wire_rest_b {R : Type} (v1 : Int) (v2 : (List Int)) (v3 : (List Int)) (v4 : (List Int)) (v5 : Int) (v6 : (List Int)) (v7 : Int) (v8 : (List (Rose (Int × ((List Int) × ((List Int) × ((List Int) × (Int × ((List Int) × (Int × Unit)))))))))) (K : Int → (List Int) → (List Int) → (List Int) → Int → (List Int) → Int → (List (Rose (Int × ((List Int) × ((List Int) × ((List Int) × (Int × ((List Int) × (Int × Unit))))))))) → Option R) : Option R :=
    let j10 : (List Int) → Option R := fun v9 =>
    (K v1 ([]) v3 v9 v5 v6 v7 v8)
    (bif decide (v1 = 1) then
     (j10 ([]))
     else (bif decide (v1 = 2) then
      (j10 ([]))
      else (let j11 : Option R :=
       (bif decide (v1 = 4) then
        (K v1 ([]) ([]) v4 0 v6 v7 v8)
        else (bif decide (v1 = 5) then
         (K v1 ([]) v3 v4 v5 ([] : List Int) v7 v8)
         else (bif decide (v1 = 7) then
          (K v1 ([]) v3 v4 v5 v6 0 v8)
          else (bif decide (v1 = 8) then
           (K v1 v2 v3 v4 v5 v6 v7 ([] : List (Rose (Int × ((List Int) × ((List Int) × ((List Int) × (Int × ((List Int) × (Int × Unit))))))))))
           else (K v1 v2 v3 v4 v5 v6 v7 v8)))))
       (bif decide (v1 = 3) then
        (bif decide (v1 = 3) then
         (j10 v4)
         else (j11))
        else (bif decide (v1 = 6) then
         (j10 v4)
         else (j11))))))

def wire_rest {R : Type} (v1 : Int) (v2 : (List Int)) (v3 : (List Int)) (v4 : (List Int)) (v5 : Int) (v6 : (List Int)) (v7 : Int) (v8 : (List (Rose (Int × ((List Int) × ((List Int) × ((List Int) × (Int × ((List Int) × (Int × Unit)))))))))) (K : Int → (List Int) → (List Int) → (List Int) → Int → (List Int) → Int → (List (Rose (Int × ((List Int) × ((List Int) × ((List Int) × (Int × ((List Int) × (Int × Unit))))))))) → Option R) : Option R := wire_rest_b v1 v2 v3 v4 v5 v6 v7 v8 K

def wire_blank_b {R : Type} (v1 : Int) (v2 : (List Int)) (v3 : (List Int)) (v4 : (List Int)) (v5 : Int) (v6 : (List Int)) (v7 : Int) (v8 : (List (Rose (Int × ((List Int) × ((List Int) × ((List Int) × (Int × ((List Int) × (Int × Unit)))))))))) (K : Bool → Option R) : Option R :=
    bif decide (v2 = []) then
    (bif decide (v3 = []) then
     (bif decide (v4 = []) then
      (bif decide (v5 = 0) then
       (bif decide ((v6.length : Int) = 0) then
        (bif decide (v7 = 0) then
         (K (decide ((v8.length : Int) = 0)))
         else (K false))
        else (K false))
       else (K false))
      else (K false))
     else (K false))
    else (K false)

def wire_blank {R : Type} (v1 : Int) (v2 : (List Int)) (v3 : (List Int)) (v4 : (List Int)) (v5 : Int) (v6 : (List Int)) (v7 : Int) (v8 : (List (Rose (Int × ((List Int) × ((List Int) × ((List Int) × (Int × ((List Int) × (Int × Unit)))))))))) (K : Bool → Option R) : Option R := wire_blank_b v1 v2 v3 v4 v5 v6 v7 v8 K

def wire_bad_b {R : Type} (v1 : Int) (K : Err → Option R) : Option R :=
    K (Err.wrap 93 [] (Err.leaf 82 [v1]) [])

def wire_bad {R : Type} (v1 : Int) (K : Err → Option R) : Option R := wire_bad_b v1 K

def octet_Put_l4_b {R : Type} (l_4 : Int → ((List Int) → Option R) → Int → Int → (List Int) → Option R) (v5 : Int) (Ke0 : (List Int) → Option R) (v4 : Int) (v6 : Int) (v7 : (List Int)) : Option R :=
    bif decide (v6 < v5) then
    (gd (decide (v7.length + ([(IntKind.u8.wrap v4)] : List Int).length < SMALL))
     (l_4 v5 Ke0 (shr .u64 v4 8) (IntKind.i64.wrap (v6 + 1)) (v7 ++ ([(IntKind.u8.wrap v4)] : List Int))))
    else (Ke0 v7)

def octet_Put_b {R : Type} (l_4 : Int → ((List Int) → Option R) → Int → Int → (List Int) → Option R) (v1 : (List Int)) (v2 : Int) (v3 : Int) (K : (List Int) → Option R) : Option R :=
    gd (decide (0 ≤ (IntKind.i64.wrap ((v1.length : Int) + (mn (mx v3 0) 8)))))
    (gd (decide ((IntKind.i64.wrap ((v1.length : Int) + (mn (mx v3 0) 8))) < (SMALL : Int)))
     (gd (decide ((List.replicate 0 (0 : Int)).length + v1.length < SMALL))
      (l_4 (mn (mx v3 0) 8)
       (fun (v8 : (List Int)) =>
        K v8) v2 0 ((List.replicate 0 (0 : Int)) ++ v1))))

def octet_Put_l4 {R : Type} (kf : Nat) : Nat → Int → ((List Int) → Option R) → Int → Int → (List Int) → Option R
  | 0, _, _, _, _, _ => none
  | k + 1, y0, y1, y2, y3, y4 => octet_Put_l4_b (octet_Put_l4 kf k) y0 y1 y2 y3 y4

def octet_Put {R : Type} (kf : Nat) (v1 : (List Int)) (v2 : Int) (v3 : Int) (K : (List Int) → Option R) : Option R := octet_Put_b (octet_Put_l4 kf kf) v1 v2 v3 K

def wire_writer_num_b {R : Type} (c_wire_bad : Int → (Err → Option R) → Option R) (c_octet_Put : (List Int) → Int → Int → ((List Int) → Option R) → Option R) (v1 : Int) (v2 : Int) (v3 : Int) (v4 : Err) (v5 : (List Int)) (K : Err → (List Int) → Option R) : Option R :=
    let j8 : Err → Option R := fun v6 =>
    (c_octet_Put v5 (IntKind.u64.wrap v1) v3 (fun (v7 : (List Int)) =>
      K v6 v7))
    (let j11 : Bool → Option R := fun v9 =>
     (bif v9 then
      (c_wire_bad 1 (fun (v10 : Err) =>
        j8 v10))
      else (j8 v4))
     (bif decide (v1 < 0) then
      (j11 true)
      else (j11 (decide (v2 < v1)))))

def wire_writer_num {R : Type} (kf : Nat) (v1 : Int) (v2 : Int) (v3 : Int) (v4 : Err) (v5 : (List Int)) (K : Err → (List Int) → Option R) : Option R := wire_writer_num_b wire_bad (octet_Put kf) v1 v2 v3 v4 v5 K

def octet_Text_b {R : Type} (c_octet_Put : (List Int) → Int → Int → ((List Int) → Option R) → Option R) (v1 : (List Int)) (v2 : (List Int)) (K : (List Int) → Option R) : Option R :=
    c_octet_Put v1 (IntKind.u64.wrap (v2.length : Int)) 2 (fun (v3 : (List Int)) =>
     gd (decide (v3.length + v2.length < SMALL))
     (K (v3 ++ v2)))

def octet_Text {R : Type} (kf : Nat) (v1 : (List Int)) (v2 : (List Int)) (K : (List Int) → Option R) : Option R := octet_Text_b (octet_Put kf) v1 v2 K

def wire_writer_text_b {R : Type} (c_wire_bad : Int → (Err → Option R) → Option R) (c_octet_Text : (List Int) → (List Int) → ((List Int) → Option R) → Option R) (v1 : (List Int)) (v2 : Err) (v3 : (List Int)) (K : Err → (List Int) → Option R) : Option R :=
    bif decide (1000 < (v1.length : Int)) then
    (c_wire_bad 1 (fun (v4 : Err) =>
      K v4 v3))
    else (c_octet_Text v3 v1 (fun (v5 : (List Int)) =>
      K v2 v5))

def wire_writer_text {R : Type} (kf : Nat) (v1 : (List Int)) (v2 : Err) (v3 : (List Int)) (K : Err → (List Int) → Option R) : Option R := wire_writer_text_b wire_bad (octet_Text kf) v1 v2 v3 K

def wire_writer_cmd_l25_b {R : Type} (c_wire_rest : Int → (List Int) → (List Int) → (List Int) → Int → (List Int) → Int → (List (Rose (Int × ((List Int) × ((List Int) × ((List Int) × (Int × ((List Int) × (Int × Unit))))))))) → (Int → (List Int) → (List Int) → (List Int) → Int → (List Int) → Int → (List (Rose (Int × ((List Int) × ((List Int) × ((List Int) × (Int × ((List Int) × (Int × Unit))))))))) → Option R) → Option R) (c_wire_blank : Int → (List Int) → (List Int) → (List Int) → Int → (List Int) → Int → (List (Rose (Int × ((List Int) × ((List Int) × ((List Int) × (Int × ((List Int) × (Int × Unit))))))))) → (Bool → Option R) → Option R) (c_wire_bad : Int → (Err → Option R) → Option R) (c_wire_writer_num : Int → Int → Int → Err → (List Int) → (Err → (List Int) → Option R) → Option R) (c_wire_writer_text : (List Int) → Err → (List Int) → (Err → (List Int) → Option R) → Option R) (c_wire_writer_cmd : Int → (List Int) → (List Int) → (List Int) → Int → (List Int) → Int → (List (Rose (Int × ((List Int) × ((List Int) × ((List Int) × (Int × ((List Int) × (Int × Unit))))))))) → Bool → Err → (List Int) → (Err → (List Int) → Option R) → Option R) (l_25 : (List (Rose (Int × ((List Int) × ((List Int) × ((List Int) × (Int × ((List Int) × (Int × Unit))))))))) → Int → (Err → (List Int) → Option R) → Int → Err → (List Int) → Option R) (v40 : (List (Rose (Int × ((List Int) × ((List Int) × ((List Int) × (Int × ((List Int) × (Int × Unit)))))))))) (v41 : Int) (Ke8 : Err → (List Int) → Option R) (v42 : Int) (v43 : Err) (v44 : (List Int)) : Option R :=
    bif decide (v42 < v41) then
    (gd (decide (0 ≤ v42))
     (gd (decide (v42 < (v40.length : Int)))
      (c_wire_writer_cmd ((Rose.lab (v40.getD (Int.toNat v42) (Rose.node ((0 : Int), (([] : List Int), (([] : List Int), (([] : List Int), ((0 : Int), (([] : (List Int)), ((0 : Int), ()))))))) [] : (Rose (Int × ((List Int) × ((List Int) × ((List Int) × (Int × ((List Int) × (Int × Unit))))))))))).1) ((Rose.lab (v40.getD (Int.toNat v42) (Rose.node ((0 : Int), (([] : List Int), (([] : List Int), (([] : List Int), ((0 : Int), (([] : (List Int)), ((0 : Int), ()))))))) [] : (Rose (Int × ((List Int) × ((List Int) × ((List Int) × (Int × ((List Int) × (Int × Unit))))))))))).2.1) ((Rose.lab (v40.getD (Int.toNat v42) (Rose.node ((0 : Int), (([] : List Int), (([] : List Int), (([] : List Int), ((0 : Int), (([] : (List Int)), ((0 : Int), ()))))))) [] : (Rose (Int × ((List Int) × ((List Int) × ((List Int) × (Int × ((List Int) × (Int × Unit))))))))))).2.2.1) ((Rose.lab (v40.getD (Int.toNat v42) (Rose.node ((0 : Int), (([] : List Int), (([] : List Int), (([] : List Int), ((0 : Int), (([] : (List Int)), ((0 : Int), ()))))))) [] : (Rose (Int × ((List Int) × ((List Int) × ((List Int) × (Int × ((List Int) × (Int × Unit))))))))))).2.2.2.1) ((Rose.lab (v40.getD (Int.toNat v42) (Rose.node ((0 : Int), (([] : List Int), (([] : List Int), (([] : List Int), ((0 : Int), (([] : (List Int)), ((0 : Int), ()))))))) [] : (Rose (Int × ((List Int) × ((List Int) × ((List Int) × (Int × ((List Int) × (Int × Unit))))))))))).2.2.2.2.1) ((Rose.lab (v40.getD (Int.toNat v42) (Rose.node ((0 : Int), (([] : List Int), (([] : List Int), (([] : List Int), ((0 : Int), (([] : (List Int)), ((0 : Int), ()))))))) [] : (Rose (Int × ((List Int) × ((List Int) × ((List Int) × (Int × ((List Int) × (Int × Unit))))))))))).2.2.2.2.2.1) ((Rose.lab (v40.getD (Int.toNat v42) (Rose.node ((0 : Int), (([] : List Int), (([] : List Int), (([] : List Int), ((0 : Int), (([] : (List Int)), ((0 : Int), ()))))))) [] : (Rose (Int × ((List Int) × ((List Int) × ((List Int) × (Int × ((List Int) × (Int × Unit))))))))))).2.2.2.2.2.2.1) (Rose.kids (v40.getD (Int.toNat v42) (Rose.node ((0 : Int), (([] : List Int), (([] : List Int), (([] : List Int), ((0 : Int), (([] : (List Int)), ((0 : Int), ()))))))) [] : (Rose (Int × ((List Int) × ((List Int) × ((List Int) × (Int × ((List Int) × (Int × Unit))))))))))) true v43 v44 (fun (v45 : Err) (v46 : (List Int)) =>
        l_25 v40 v41 Ke8 (IntKind.i64.wrap (v42 + 1)) v45 v46))))
    else (Ke8 v43 v44)

def wire_writer_cmd_b {R : Type} (c_wire_rest : Int → (List Int) → (List Int) → (List Int) → Int → (List Int) → Int → (List (Rose (Int × ((List Int) × ((List Int) × ((List Int) × (Int × ((List Int) × (Int × Unit))))))))) → (Int → (List Int) → (List Int) → (List Int) → Int → (List Int) → Int → (List (Rose (Int × ((List Int) × ((List Int) × ((List Int) × (Int × ((List Int) × (Int × Unit))))))))) → Option R) → Option R) (c_wire_blank : Int → (List Int) → (List Int) → (List Int) → Int → (List Int) → Int → (List (Rose (Int × ((List Int) × ((List Int) × ((List Int) × (Int × ((List Int) × (Int × Unit))))))))) → (Bool → Option R) → Option R) (c_wire_bad : Int → (Err → Option R) → Option R) (c_wire_writer_num : Int → Int → Int → Err → (List Int) → (Err → (List Int) → Option R) → Option R) (c_wire_writer_text : (List Int) → Err → (List Int) → (Err → (List Int) → Option R) → Option R) (c_wire_writer_cmd : Int → (List Int) → (List Int) → (List Int) → Int → (List Int) → Int → (List (Rose (Int × ((List Int) × ((List Int) × ((List Int) × (Int × ((List Int) × (Int × Unit))))))))) → Bool → Err → (List Int) → (Err → (List Int) → Option R) → Option R) (l_25 : (List (Rose (Int × ((List Int) × ((List Int) × ((List Int) × (Int × ((List Int) × (Int × Unit))))))))) → Int → (Err → (List Int) → Option R) → Int → Err → (List Int) → Option R) (v1 : Int) (v2 : (List Int)) (v3 : (List Int)) (v4 : (List Int)) (v5 : Int) (v6 : (List Int)) (v7 : Int) (v8 : (List (Rose (Int × ((List Int) × ((List Int) × ((List Int) × (Int × ((List Int) × (Int × Unit)))))))))) (v9 : Bool) (v10 : Err) (v11 : (List Int)) (K : Err → (List Int) → Option R) : Option R :=
    let j50 : Bool → Option R := fun v12 =>
    (bif v12 then
     (c_wire_bad 1 (fun (v13 : Err) =>
       K v13 v11))
     else (c_wire_writer_num v1 255 1 v10 v11 (fun (v14 : Err) (v15 : (List Int)) =>
       let j18 : Option R :=
       (c_wire_writer_text v2 v14 v15 (fun (v16 : Err) (v17 : (List Int)) =>
         K v16 v17))
       (let j23 : Option R :=
        (c_wire_writer_text v2 v14 v15 (fun (v19 : Err) (v20 : (List Int)) =>
          c_wire_writer_text v4 v19 v20 (fun (v21 : Err) (v22 : (List Int)) =>
           K v21 v22)))
        (bif decide (v1 = 1) then
         (j23)
         else (bif decide (v1 = 2) then
          (j23)
          else (let j49 : Option R :=
           (bif decide (v1 = 4) then
            (c_wire_writer_num v5 255 1 v14 v15 (fun (v24 : Err) (v25 : (List Int)) =>
              c_wire_writer_text v2 v24 v25 (fun (v26 : Err) (v27 : (List Int)) =>
               c_wire_writer_text v3 v26 v27 (fun (v28 : Err) (v29 : (List Int)) =>
                K v28 v29))))
            else (bif decide (v1 = 5) then
             (c_wire_writer_text v2 v14 v15 (fun (v30 : Err) (v31 : (List Int)) =>
               c_wire_writer_text v6 v30 v31 (fun (v32 : Err) (v33 : (List Int)) =>
                K v32 v33)))
             else (bif decide (v1 = 7) then
              (c_wire_writer_text v2 v14 v15 (fun (v34 : Err) (v35 : (List Int)) =>
                c_wire_writer_num v7 65535 2 v34 v35 (fun (v36 : Err) (v37 : (List Int)) =>
                 K v36 v37)))
              else (bif decide (v1 = 8) then
               (c_wire_writer_num (v8.length : Int) 20 1 v14 v15 (fun (v38 : Err) (v39 : (List Int)) =>
                 gd (decide (0 ≤ (mn (v8.length : Int) 20)))
                 (gd (decide ((mn (v8.length : Int) 20) ≤ (v8.length : Int)))
                  (l_25 (v8.take (Int.toNat (mn (v8.length : Int) 20))) ((v8.take (Int.toNat (mn (v8.length : Int) 20))).length : Int)
                   (fun (v47 : Err) (v48 : (List Int)) =>
                    K v47 v48) 0 v38 v39))))
               else (K v14 v15)))))
           (bif decide (v1 = 3) then
            (bif decide (v1 = 3) then
             (j18)
             else (j49))
            else (bif decide (v1 = 6) then
             (j18)
             else (j49))))))))))
    (bif decide (v1 < 1) then
     (j50 true)
     else (bif decide (8 < v1) then
      (j50 true)
      else (bif v9 then
       (bif decide (v1 = 8) then
        (j50 true)
        else (c_wire_rest v1 v2 v3 v4 v5 v6 v7 v8 (fun (v51 : Int) (v52 : (List Int)) (v53 : (List Int)) (v54 : (List Int)) (v55 : Int) (v56 : (List Int)) (v57 : Int) (v58 : (List (Rose (Int × ((List Int) × ((List Int) × ((List Int) × (Int × ((List Int) × (Int × Unit)))))))))) =>
          c_wire_blank v51 v52 v53 v54 v55 v56 v57 v58 (fun (v59 : Bool) =>
           j50 (!v59)))))
       else (c_wire_rest v1 v2 v3 v4 v5 v6 v7 v8 (fun (v60 : Int) (v61 : (List Int)) (v62 : (List Int)) (v63 : (List Int)) (v64 : Int) (v65 : (List Int)) (v66 : Int) (v67 : (List (Rose (Int × ((List Int) × ((List Int) × ((List Int) × (Int × ((List Int) × (Int × Unit)))))))))) =>
         c_wire_blank v60 v61 v62 v63 v64 v65 v66 v67 (fun (v68 : Bool) =>
          j50 (!v68)))))))

def wire_writer_cmd_l25 {R : Type} (c_self : Int → (List Int) → (List Int) → (List Int) → Int → (List Int) → Int → (List (Rose (Int × ((List Int) × ((List Int) × ((List Int) × (Int × ((List Int) × (Int × Unit))))))))) → Bool → Err → (List Int) → (Err → (List Int) → Option R) → Option R) (kf : Nat) : Nat → (List (Rose (Int × ((List Int) × ((List Int) × ((List Int) × (Int × ((List Int) × (Int × Unit))))))))) → Int → (Err → (List Int) → Option R) → Int → Err → (List Int) → Option R
  | 0, _, _, _, _, _, _ => none
  | k + 1, y0, y1, y2, y3, y4, y5 => wire_writer_cmd_l25_b wire_rest wire_blank wire_bad (wire_writer_num kf) (wire_writer_text kf) c_self (wire_writer_cmd_l25 c_self kf k) y0 y1 y2 y3 y4 y5

def wire_writer_cmd {R : Type} : Nat → Int → (List Int) → (List Int) → (List Int) → Int → (List Int) → Int → (List (Rose (Int × ((List Int) × ((List Int) × ((List Int) × (Int × ((List Int) × (Int × Unit))))))))) → Bool → Err → (List Int) → (Err → (List Int) → Option R) → Option R
  | 0, _, _, _, _, _, _, _, _, _, _, _, _ => none
  | kf + 1, y0, y1, y2, y3, y4, y5, y6, y7, y8, y9, y10, y11 => wire_writer_cmd_b wire_rest wire_blank wire_bad (wire_writer_num kf) (wire_writer_text kf) (wire_writer_cmd kf) (wire_writer_cmd_l25 (wire_writer_cmd kf) kf kf) y0 y1 y2 y3 y4 y5 y6 y7 y8 y9 y10 y11

def wire_code_b {R : Type} (v1 : Err) (K : Int → Option R) : Option R :=
    gd (Err.fit [(82, 1)] [(93, 0, 0)] v1)
    (optK (Err.find 82 v1) (fun (v2 : Err) =>
      K (Err.num 0 v2))
     (K 0))

def wire_code {R : Type} (v1 : Err) (K : Int → Option R) : Option R := wire_code_b v1 K

def wire_PutCmd_b {R : Type} (c_wire_writer_cmd : Int → (List Int) → (List Int) → (List Int) → Int → (List Int) → Int → (List (Rose (Int × ((List Int) × ((List Int) × ((List Int) × (Int × ((List Int) × (Int × Unit))))))))) → Bool → Err → (List Int) → (Err → (List Int) → Option R) → Option R) (c_wire_code : Err → (Int → Option R) → Option R) (v1 : (List Int)) (v2 : Int) (v3 : (List Int)) (v4 : (List Int)) (v5 : (List Int)) (v6 : Int) (v7 : (List Int)) (v8 : Int) (v9 : (List (Rose (Int × ((List Int) × ((List Int) × ((List Int) × (Int × ((List Int) × (Int × Unit)))))))))) (K : Int → (List Int) → Option R) : Option R :=
    c_wire_writer_cmd v2 v3 v4 v5 v6 v7 v8 v9 false Err.nil ([] : List Int) (fun (v10 : Err) (v11 : (List Int)) =>
     bif (!(Err.isNil v10)) then
     (c_wire_code v10 (fun (v12 : Int) =>
       K v12 ([] : List Int)))
     else (gd (decide (([] : List Int).length + v1.length < SMALL))
      (gd (decide ((([] : List Int) ++ v1).length + v11.length < SMALL))
       (K 0 ((([] : List Int) ++ v1) ++ v11)))))

def wire_PutCmd {R : Type} (kf : Nat) (v1 : (List Int)) (v2 : Int) (v3 : (List Int)) (v4 : (List Int)) (v5 : (List Int)) (v6 : Int) (v7 : (List Int)) (v8 : Int) (v9 : (List (Rose (Int × ((List Int) × ((List Int) × ((List Int) × (Int × ((List Int) × (Int × Unit)))))))))) (K : Int → (List Int) → Option R) : Option R := wire_PutCmd_b (wire_writer_cmd kf) wire_code v1 v2 v3 v4 v5 v6 v7 v8 v9 K

def octet_Take_b {R : Type} (v1 : (List Int)) (v2 : Int) (v3 : Int) (K : Int → Int → Option R) : Option R :=
    let j31 : Bool → Option R := fun v4 =>
    (bif v4 then
     (K 0 1)
     else (let j30 : Bool → Option R := fun v5 =>
      (bif v5 then
       (K 0 2)
       else (gd (decide (0 ≤ (IntKind.i64.wrap (v2 + v3))))
        (gd (decide ((IntKind.i64.wrap (v2 + v3)) ≤ (v1.length : Int)))
         (gd (decide (0 ≤ (IntKind.i64.wrap (v2 + v3))))
          (gd (decide ((IntKind.i64.wrap (v2 + v3)) ≤ (IntKind.i64.wrap (v2 + v3))))
           (gd (decide (0 ≤ v2))
            (gd (decide (v2 ≤ (IntKind.i64.wrap (v2 + v3))))
             (let j7 : Int → Option R := fun v6 =>
              (K v6 0)
              (let j10 : Int → Option R := fun v8 =>
               (gd (decide (0 < (((v1.drop (Int.toNat v2)).take ((Int.toNat (IntKind.i64.wrap (v2 + v3))) - (Int.toNat v2))).length : Int)))
                (let v9 : Int := (bvop .u64 .or v8 (IntKind.u64.wrap (((v1.drop (Int.toNat v2)).take ((Int.toNat (IntKind.i64.wrap (v2 + v3))) - (Int.toNat v2))).getD 0 (0 : Int))))
                 j7 v9))
               (let j13 : Int → Option R := fun v11 =>
                (gd (decide (1 < (((v1.drop (Int.toNat v2)).take ((Int.toNat (IntKind.i64.wrap (v2 + v3))) - (Int.toNat v2))).length : Int)))
                 (let v12 : Int := (bvop .u64 .or v11 (shl .u64 (IntKind.u64.wrap (((v1.drop (Int.toNat v2)).take ((Int.toNat (IntKind.i64.wrap (v2 + v3))) - (Int.toNat v2))).getD 1 (0 : Int))) 8))
                  j10 v12))
                (let j16 : Int → Option R := fun v14 =>
                 (gd (decide (2 < (((v1.drop (Int.toNat v2)).take ((Int.toNat (IntKind.i64.wrap (v2 + v3))) - (Int.toNat v2))).length : Int)))
                  (let v15 : Int := (bvop .u64 .or v14 (shl .u64 (IntKind.u64.wrap (((v1.drop (Int.toNat v2)).take ((Int.toNat (IntKind.i64.wrap (v2 + v3))) - (Int.toNat v2))).getD 2 (0 : Int))) 16))
                   j13 v15))
                 (let j19 : Int → Option R := fun v17 =>
                  (gd (decide (3 < (((v1.drop (Int.toNat v2)).take ((Int.toNat (IntKind.i64.wrap (v2 + v3))) - (Int.toNat v2))).length : Int)))
                   (let v18 : Int := (bvop .u64 .or v17 (shl .u64 (IntKind.u64.wrap (((v1.drop (Int.toNat v2)).take ((Int.toNat (IntKind.i64.wrap (v2 + v3))) - (Int.toNat v2))).getD 3 (0 : Int))) 24))
                    j16 v18))
                  (let j22 : Int → Option R := fun v20 =>
                   (gd (decide (4 < (((v1.drop (Int.toNat v2)).take ((Int.toNat (IntKind.i64.wrap (v2 + v3))) - (Int.toNat v2))).length : Int)))
                    (let v21 : Int := (bvop .u64 .or v20 (shl .u64 (IntKind.u64.wrap (((v1.drop (Int.toNat v2)).take ((Int.toNat (IntKind.i64.wrap (v2 + v3))) - (Int.toNat v2))).getD 4 (0 : Int))) 32))
                     j19 v21))
                   (let j25 : Int → Option R := fun v23 =>
                    (gd (decide (5 < (((v1.drop (Int.toNat v2)).take ((Int.toNat (IntKind.i64.wrap (v2 + v3))) - (Int.toNat v2))).length : Int)))
                     (let v24 : Int := (bvop .u64 .or v23 (shl .u64 (IntKind.u64.wrap (((v1.drop (Int.toNat v2)).take ((Int.toNat (IntKind.i64.wrap (v2 + v3))) - (Int.toNat v2))).getD 5 (0 : Int))) 40))
                      j22 v24))
                    (let j28 : Int → Option R := fun v26 =>
                     (gd (decide (6 < (((v1.drop (Int.toNat v2)).take ((Int.toNat (IntKind.i64.wrap (v2 + v3))) - (Int.toNat v2))).length : Int)))
                      (let v27 : Int := (bvop .u64 .or v26 (shl .u64 (IntKind.u64.wrap (((v1.drop (Int.toNat v2)).take ((Int.toNat (IntKind.i64.wrap (v2 + v3))) - (Int.toNat v2))).getD 6 (0 : Int))) 48))
                       j25 v27))
                     (bif decide (v3 = 8) then
                      (gd (decide (7 < (((v1.drop (Int.toNat v2)).take ((Int.toNat (IntKind.i64.wrap (v2 + v3))) - (Int.toNat v2))).length : Int)))
                       (let v29 : Int := (shl .u64 (IntKind.u64.wrap (((v1.drop (Int.toNat v2)).take ((Int.toNat (IntKind.i64.wrap (v2 + v3))) - (Int.toNat v2))).getD 7 (0 : Int))) 56)
                        j28 v29))
                      else (bif decide (v3 = 7) then
                       (j28 0)
                       else (bif decide (v3 = 6) then
                        (j25 0)
                        else (bif decide (v3 = 5) then
                         (j22 0)
                         else (bif decide (v3 = 4) then
                          (j19 0)
                          else (bif decide (v3 = 3) then
                           (j16 0)
                           else (bif decide (v3 = 2) then
                            (j13 0)
                            else (bif decide (v3 = 1) then
                             (j10 0)
                             else (j7 0))))))))))))))))))))))))
      (bif decide ((v1.length : Int) < v2) then
       (j30 (decide ((v1.length : Int) < v2)))
       else (j30 (decide ((IntKind.i64.wrap ((v1.length : Int) - v2)) < v3))))))
    (bif decide (v2 < 0) then
     (j31 (decide (v2 < 0)))
     else (bif decide (v3 < 0) then
      (j31 (decide (v3 < 0)))
      else (j31 (decide (8 < v3)))))

def octet_Take {R : Type} (v1 : (List Int)) (v2 : Int) (v3 : Int) (K : Int → Int → Option R) : Option R := octet_Take_b v1 v2 v3 K

def wire_reader_fails_b {R : Type} (c_wire_bad : Int → (Err → Option R) → Option R) (v1 : Int) (v2 : (List Int)) (v3 : Err) (K : (List Int) → Err → Option R) : Option R :=
    bif (Err.isNil v3) then
    (c_wire_bad v1 (fun (v4 : Err) =>
      K v2 v4))
    else (K v2 v3)

def wire_reader_fails {R : Type} (v1 : Int) (v2 : (List Int)) (v3 : Err) (K : (List Int) → Err → Option R) : Option R := wire_reader_fails_b wire_bad v1 v2 v3 K

def wire_reader_num_b {R : Type} (c_octet_Take : (List Int) → Int → Int → (Int → Int → Option R) → Option R) (c_wire_reader_fails : Int → (List Int) → Err → ((List Int) → Err → Option R) → Option R) (v1 : Int) (v2 : (List Int)) (v3 : Err) (K : Int → (List Int) → Err → Option R) : Option R :=
    bif (!(Err.isNil v3)) then
    (K 0 v2 v3)
    else (c_octet_Take v2 0 v1 (fun (v4 : Int) (v5 : Int) =>
      bif (!(decide (v5 = 0))) then
      (c_wire_reader_fails v5 v2 v3 (fun (v6 : (List Int)) (v7 : Err) =>
        K 0 v6 v7))
      else (gd (decide (0 ≤ v1))
       (gd (decide (v1 ≤ (v2.length : Int)))
        (K (IntKind.i64.wrap v4) (v2.drop (Int.toNat v1)) v3)))))

def wire_reader_num {R : Type} (v1 : Int) (v2 : (List Int)) (v3 : Err) (K : Int → (List Int) → Err → Option R) : Option R := wire_reader_num_b octet_Take wire_reader_fails v1 v2 v3 K

def octet_TakeText_b {R : Type} (c_octet_Take : (List Int) → Int → Int → (Int → Int → Option R) → Option R) (v1 : (List Int)) (v2 : Int) (K : Int → Int → (List Int) → Option R) : Option R :=
    c_octet_Take v1 0 2 (fun (v3 : Int) (v4 : Int) =>
     bif (!(decide (v4 = 0))) then
     (K 0 v4 ([] : List Int))
     else (bif decide (v2 < (IntKind.i64.wrap v3)) then
      (K 0 4 ([] : List Int))
      else (bif decide ((v1.length : Int) < (IntKind.i64.wrap (2 + (IntKind.i64.wrap v3)))) then
       (K 0 2 ([] : List Int))
       else (gd (decide (0 ≤ (IntKind.i64.wrap (2 + (IntKind.i64.wrap v3)))))
        (gd (decide ((IntKind.i64.wrap (2 + (IntKind.i64.wrap v3))) ≤ (v1.length : Int)))
         (gd (decide (0 ≤ (IntKind.i64.wrap (2 + (IntKind.i64.wrap v3)))))
          (gd (decide ((IntKind.i64.wrap (2 + (IntKind.i64.wrap v3))) ≤ (IntKind.i64.wrap (2 + (IntKind.i64.wrap v3)))))
           (gd (decide (2 ≤ (IntKind.i64.wrap (2 + (IntKind.i64.wrap v3)))))
            (gd (decide (([] : List Int).length + ((v1.drop 2).take ((Int.toNat (IntKind.i64.wrap (2 + (IntKind.i64.wrap v3)))) - 2)).length < SMALL))
             (K (IntKind.i64.wrap (2 + (IntKind.i64.wrap v3))) 0 (([] : List Int) ++ ((v1.drop 2).take ((Int.toNat (IntKind.i64.wrap (2 + (IntKind.i64.wrap v3)))) - 2)))))))))))))

def octet_TakeText {R : Type} (v1 : (List Int)) (v2 : Int) (K : Int → Int → (List Int) → Option R) : Option R := octet_TakeText_b octet_Take v1 v2 K

def wire_reader_text_b {R : Type} (c_octet_TakeText : (List Int) → Int → (Int → Int → (List Int) → Option R) → Option R) (c_wire_reader_fails : Int → (List Int) → Err → ((List Int) → Err → Option R) → Option R) (v1 : (List Int)) (v2 : Err) (K : (List Int) → (List Int) → Err → Option R) : Option R :=
    bif (!(Err.isNil v2)) then
    (K ([]) v1 v2)
    else (c_octet_TakeText v1 1000 (fun (v3 : Int) (v4 : Int) (v5 : (List Int)) =>
      bif (!(decide (v4 = 0))) then
      (c_wire_reader_fails v4 v1 v2 (fun (v6 : (List Int)) (v7 : Err) =>
        K ([]) v6 v7))
      else (gd (decide (0 ≤ v3))
       (gd (decide (v3 ≤ (v1.length : Int)))
        (K v5 (v1.drop (Int.toNat v3)) v2)))))

def wire_reader_text {R : Type} (v1 : (List Int)) (v2 : Err) (K : (List Int) → (List Int) → Err → Option R) : Option R := wire_reader_text_b octet_TakeText wire_reader_fails v1 v2 K

def wire_reader_cmd_l27_b {R : Type} (c_wire_reader_num : Int → (List Int) → Err → (Int → (List Int) → Err → Option R) → Option R) (c_wire_reader_text : (List Int) → Err → ((List Int) → (List Int) → Err → Option R) → Option R) (c_wire_reader_fails : Int → (List Int) → Err → ((List Int) → Err → Option R) → Option R) (c_wire_reader_cmd : Bool → (List Int) → Err → (Int → (List Int) → (List Int) → (List Int) → Int → Int → (List Int) → Err → (List Int) → (List (Rose (Int × ((List Int) × ((List Int) × ((List Int) × (Int × ((List Int) × (Int × Unit))))))))) → Option R) → Option R) (l_27 : Int → Int → (List Int) → (List Int) → (List Int) → Int → Int → Int → (List Int) → (List Int) → (List Int) → Int → Int → (List Int) → (List (Rose (Int × ((List Int) × ((List Int) × ((List Int) × (Int × ((List Int) × (Int × Unit))))))))) → (List Int) → ((List Int) → Err → Int → (List Int) → (List Int) → (List Int) → Int → Int → Int → (List Int) → (List Int) → (List Int) → Int → Int → (List Int) → (List (Rose (Int × ((List Int) × ((List Int) × ((List Int) × (Int × ((List Int) × (Int × Unit))))))))) → (List Int) → (List (Rose (Int × ((List Int) × ((List Int) × ((List Int) × (Int × ((List Int) × (Int × Unit))))))))) → Option R) → Int → (List Int) → Err → (List (Rose (Int × ((List Int) × ((List Int) × ((List Int) × (Int × ((List Int) × (Int × Unit))))))))) → Option R) (v46 : Int) (v50 : Int) (v51 : (List Int)) (v52 : (List Int)) (v53 : (List Int)) (v54 : Int) (v55 : Int) (v56 : Int) (v57 : (List Int)) (v58 : (List Int)) (v59 : (List Int)) (v60 : Int) (v61 : Int) (v62 : (List Int)) (v63 : (List (Rose (Int × ((List Int) × ((List Int) × ((List Int) × (Int × ((List Int) × (Int × Unit)))))))))) (v64 : (List Int)) (Ke9 : (List Int) → Err → Int → (List Int) → (List Int) → (List Int) → Int → Int → Int → (List Int) → (List Int) → (List Int) → Int → Int → (List Int) → (List (Rose (Int × ((List Int) × ((List Int) × ((List Int) × (Int × ((List Int) × (Int × Unit))))))))) → (List Int) → (List (Rose (Int × ((List Int) × ((List Int) × ((List Int) × (Int × ((List Int) × (Int × Unit))))))))) → Option R) (v47 : Int) (v48 : (List Int)) (v49 : Err) (v65 : (List (Rose (Int × ((List Int) × ((List Int) × ((List Int) × (Int × ((List Int) × (Int × Unit)))))))))) : Option R :=
    bif decide (v47 < v46) then
    (bif (Err.isNil v49) then
     (c_wire_reader_cmd true v48 v49 (fun (v66 : Int) (v67 : (List Int)) (v68 : (List Int)) (v69 : (List Int)) (v70 : Int) (v71 : Int) (v72 : (List Int)) (v73 : Err) (v74 : (List Int)) (v75 : (List (Rose (Int × ((List Int) × ((List Int) × ((List Int) × (Int × ((List Int) × (Int × Unit)))))))))) =>
       gd (decide (v65.length + ([(Rose.node (v66, v67, v68, v69, v70, v74, v71, ()) v75)] : List (Rose (Int × ((List Int) × ((List Int) × ((List Int) × (Int × ((List Int) × (Int × Unit))))))))).length < SMALL))
       (l_27 v46 v50 v51 v52 v53 v54 v55 v56 v57 v58 v59 v60 v61 v62 v63 v64 Ke9 (IntKind.i64.wrap (v47 + 1)) v72 v73 (v65 ++ ([(Rose.node (v66, v67, v68, v69, v70, v74, v71, ()) v75)] : List (Rose (Int × ((List Int) × ((List Int) × ((List Int) × (Int × ((List Int) × (Int × Unit)))))))))))))
     else (l_27 v46 v50 v51 v52 v53 v54 v55 v56 v57 v58 v59 v60 v61 v62 v63 v64 Ke9 (IntKind.i64.wrap (v47 + 1)) v48 v49 v65))
    else (Ke9 v48 v49 v50 v51 v52 v53 v54 v55 v56 v57 v58 v59 v60 v61 v62 v63 v64 v65)

def wire_reader_cmd_b {R : Type} (c_wire_reader_num : Int → (List Int) → Err → (Int → (List Int) → Err → Option R) → Option R) (c_wire_reader_text : (List Int) → Err → ((List Int) → (List Int) → Err → Option R) → Option R) (c_wire_reader_fails : Int → (List Int) → Err → ((List Int) → Err → Option R) → Option R) (c_wire_reader_cmd : Bool → (List Int) → Err → (Int → (List Int) → (List Int) → (List Int) → Int → Int → (List Int) → Err → (List Int) → (List (Rose (Int × ((List Int) × ((List Int) × ((List Int) × (Int × ((List Int) × (Int × Unit))))))))) → Option R) → Option R) (l_27 : Int → Int → (List Int) → (List Int) → (List Int) → Int → Int → Int → (List Int) → (List Int) → (List Int) → Int → Int → (List Int) → (List (Rose (Int × ((List Int) × ((List Int) × ((List Int) × (Int × ((List Int) × (Int × Unit))))))))) → (List Int) → ((List Int) → Err → Int → (List Int) → (List Int) → (List Int) → Int → Int → Int → (List Int) → (List Int) → (List Int) → Int → Int → (List Int) → (List (Rose (Int × ((List Int) × ((List Int) × ((List Int) × (Int × ((List Int) × (Int × Unit))))))))) → (List Int) → (List (Rose (Int × ((List Int) × ((List Int) × ((List Int) × (Int × ((List Int) × (Int × Unit))))))))) → Option R) → Int → (List Int) → Err → (List (Rose (Int × ((List Int) × ((List Int) × ((List Int) × (Int × ((List Int) × (Int × Unit))))))))) → Option R) (v1 : Bool) (v2 : (List Int)) (v3 : Err) (K : Int → (List Int) → (List Int) → (List Int) → Int → Int → (List Int) → Err → (List Int) → (List (Rose (Int × ((List Int) × ((List Int) × ((List Int) × (Int × ((List Int) × (Int × Unit))))))))) → Option R) : Option R :=
    c_wire_reader_num 1 v2 v3 (fun (v4 : Int) (v5 : (List Int)) (v6 : Err) =>
     let j10 : Option R :=
     (c_wire_reader_text v5 v6 (fun (v7 : (List Int)) (v8 : (List Int)) (v9 : Err) =>
       K v4 v7 ([]) ([]) 0 0 v8 v9 ([] : List Int) ([] : List (Rose (Int × ((List Int) × ((List Int) × ((List Int) × (Int × ((List Int) × (Int × Unit)))))))))))
     (let j17 : Option R :=
      (c_wire_reader_text v5 v6 (fun (v11 : (List Int)) (v12 : (List Int)) (v13 : Err) =>
        c_wire_reader_text v12 v13 (fun (v14 : (List Int)) (v15 : (List Int)) (v16 : Err) =>
         K v4 v11 ([]) v14 0 0 v15 v16 ([] : List Int) ([] : List (Rose (Int × ((List Int) × ((List Int) × ((List Int) × (Int × ((List Int) × (Int × Unit))))))))))))
      (bif decide (v4 = 1) then
       (j17)
       else (bif decide (v4 = 2) then
        (j17)
        else (let j99 : Option R :=
         (bif decide (v4 = 4) then
          (c_wire_reader_num 1 v5 v6 (fun (v18 : Int) (v19 : (List Int)) (v20 : Err) =>
            c_wire_reader_text v19 v20 (fun (v21 : (List Int)) (v22 : (List Int)) (v23 : Err) =>
             c_wire_reader_text v22 v23 (fun (v24 : (List Int)) (v25 : (List Int)) (v26 : Err) =>
              K v4 v21 v24 ([]) v18 0 v25 v26 ([] : List Int) ([] : List (Rose (Int × ((List Int) × ((List Int) × ((List Int) × (Int × ((List Int) × (Int × Unit)))))))))))))
          else (bif decide (v4 = 5) then
           (c_wire_reader_text v5 v6 (fun (v27 : (List Int)) (v28 : (List Int)) (v29 : Err) =>
             c_wire_reader_text v28 v29 (fun (v30 : (List Int)) (v31 : (List Int)) (v32 : Err) =>
              K v4 v27 ([]) ([]) 0 0 v31 v32 v30 ([] : List (Rose (Int × ((List Int) × ((List Int) × ((List Int) × (Int × ((List Int) × (Int × Unit))))))))))))
           else (bif decide (v4 = 7) then
            (c_wire_reader_text v5 v6 (fun (v33 : (List Int)) (v34 : (List Int)) (v35 : Err) =>
              c_wire_reader_num 2 v34 v35 (fun (v36 : Int) (v37 : (List Int)) (v38 : Err) =>
               K v4 v33 ([]) ([]) 0 v36 v37 v38 ([] : List Int) ([] : List (Rose (Int × ((List Int) × ((List Int) × ((List Int) × (Int × ((List Int) × (Int × Unit))))))))))))
            else (bif decide (v4 = 8) then
             (bif v1 then
              (c_wire_reader_fails 3 v5 v6 (fun (v39 : (List Int)) (v40 : Err) =>
                K v4 ([]) ([]) ([]) 0 0 v39 v40 ([] : List Int) ([] : List (Rose (Int × ((List Int) × ((List Int) × ((List Int) × (Int × ((List Int) × (Int × Unit)))))))))))
              else (c_wire_reader_num 1 v5 v6 (fun (v41 : Int) (v42 : (List Int)) (v43 : Err) =>
                let j94 : (List Int) → Err → Option R := fun v44 v45 =>
                (l_27 v41 0 ([]) ([]) ([]) 0 0 v4 ([]) ([]) ([]) 0 0 ([] : List Int) ([] : List (Rose (Int × ((List Int) × ((List Int) × ((List Int) × (Int × ((List Int) × (Int × Unit))))))))) ([] : List Int)
                 (fun (v76 : (List Int)) (v77 : Err) (v78 : Int) (v79 : (List Int)) (v80 : (List Int)) (v81 : (List Int)) (v82 : Int) (v83 : Int) (v84 : Int) (v85 : (List Int)) (v86 : (List Int)) (v87 : (List Int)) (v88 : Int) (v89 : Int) (v90 : (List Int)) (v91 : (List (Rose (Int × ((List Int) × ((List Int) × ((List Int) × (Int × ((List Int) × (Int × Unit)))))))))) (v92 : (List Int)) (v93 : (List (Rose (Int × ((List Int) × ((List Int) × ((List Int) × (Int × ((List Int) × (Int × Unit)))))))))) =>
                  K v84 v85 v86 v87 v88 v89 v76 v77 v92 v93) 0 v44 v45 ([] : List (Rose (Int × ((List Int) × ((List Int) × ((List Int) × (Int × ((List Int) × (Int × Unit))))))))))
                (bif decide (20 < v41) then
                 (c_wire_reader_fails 3 v42 v43 (fun (v95 : (List Int)) (v96 : Err) =>
                   j94 v95 v96))
                 else (j94 v42 v43)))))
             else (c_wire_reader_fails 3 v5 v6 (fun (v97 : (List Int)) (v98 : Err) =>
               K v4 ([]) ([]) ([]) 0 0 v97 v98 ([] : List Int) ([] : List (Rose (Int × ((List Int) × ((List Int) × ((List Int) × (Int × ((List Int) × (Int × Unit)))))))))))))))
         (bif decide (v4 = 3) then
          (bif decide (v4 = 3) then
           (j10)
           else (j99))
          else (bif decide (v4 = 6) then
           (j10)
           else (j99))))))))

def wire_reader_cmd_l27 {R : Type} (c_self : Bool → (List Int) → Err → (Int → (List Int) → (List Int) → (List Int) → Int → Int → (List Int) → Err → (List Int) → (List (Rose (Int × ((List Int) × ((List Int) × ((List Int) × (Int × ((List Int) × (Int × Unit))))))))) → Option R) → Option R) (kf : Nat) : Nat → Int → Int → (List Int) → (List Int) → (List Int) → Int → Int → Int → (List Int) → (List Int) → (List Int) → Int → Int → (List Int) → (List (Rose (Int × ((List Int) × ((List Int) × ((List Int) × (Int × ((List Int) × (Int × Unit))))))))) → (List Int) → ((List Int) → Err → Int → (List Int) → (List Int) → (List Int) → Int → Int → Int → (List Int) → (List Int) → (List Int) → Int → Int → (List Int) → (List (Rose (Int × ((List Int) × ((List Int) × ((List Int) × (Int × ((List Int) × (Int × Unit))))))))) → (List Int) → (List (Rose (Int × ((List Int) × ((List Int) × ((List Int) × (Int × ((List Int) × (Int × Unit))))))))) → Option R) → Int → (List Int) → Err → (List (Rose (Int × ((List Int) × ((List Int) × ((List Int) × (Int × ((List Int) × (Int × Unit))))))))) → Option R
  | 0, _, _, _, _, _, _, _, _, _, _, _, _, _, _, _, _, _, _, _, _, _ => none
  | k + 1, y0, y1, y2, y3, y4, y5, y6, y7, y8, y9, y10, y11, y12, y13, y14, y15, y16, y17, y18, y19, y20 => wire_reader_cmd_l27_b wire_reader_num wire_reader_text wire_reader_fails c_self (wire_reader_cmd_l27 c_self kf k) y0 y1 y2 y3 y4 y5 y6 y7 y8 y9 y10 y11 y12 y13 y14 y15 y16 y17 y18 y19 y20

def wire_reader_cmd {R : Type} : Nat → Bool → (List Int) → Err → (Int → (List Int) → (List Int) → (List Int) → Int → Int → (List Int) → Err → (List Int) → (List (Rose (Int × ((List Int) × ((List Int) × ((List Int) × (Int × ((List Int) × (Int × Unit))))))))) → Option R) → Option R
  | 0, _, _, _, _ => none
  | kf + 1, y0, y1, y2, y3 => wire_reader_cmd_b wire_reader_num wire_reader_text wire_reader_fails (wire_reader_cmd kf) (wire_reader_cmd_l27 (wire_reader_cmd kf) kf kf) y0 y1 y2 y3

def wire_TakeCmd_b {R : Type} (c_wire_reader_cmd : Bool → (List Int) → Err → (Int → (List Int) → (List Int) → (List Int) → Int → Int → (List Int) → Err → (List Int) → (List (Rose (Int × ((List Int) × ((List Int) × ((List Int) × (Int × ((List Int) × (Int × Unit))))))))) → Option R) → Option R) (c_wire_code : Err → (Int → Option R) → Option R) (v1 : (List Int)) (K : Int → (List Int) → (List Int) → (List Int) → Int → Int → Int → Int → (List Int) → (List (Rose (Int × ((List Int) × ((List Int) × ((List Int) × (Int × ((List Int) × (Int × Unit))))))))) → Option R) : Option R :=
    c_wire_reader_cmd false v1 Err.nil (fun (v2 : Int) (v3 : (List Int)) (v4 : (List Int)) (v5 : (List Int)) (v6 : Int) (v7 : Int) (v8 : (List Int)) (v9 : Err) (v10 : (List Int)) (v11 : (List (Rose (Int × ((List Int) × ((List Int) × ((List Int) × (Int × ((List Int) × (Int × Unit)))))))))) =>
     bif (!(Err.isNil v9)) then
     (c_wire_code v9 (fun (v12 : Int) =>
       K 0 ([]) ([]) ([]) 0 0 0 v12 ([] : List Int) ([] : List (Rose (Int × ((List Int) × ((List Int) × ((List Int) × (Int × ((List Int) × (Int × Unit)))))))))))
     else (K v2 v3 v4 v5 v6 v7 (IntKind.i64.wrap ((v1.length : Int) - (v8.length : Int))) 0 v10 v11))

def wire_TakeCmd {R : Type} (kf : Nat) (v1 : (List Int)) (K : Int → (List Int) → (List Int) → (List Int) → Int → Int → Int → Int → (List Int) → (List (Rose (Int × ((List Int) × ((List Int) × ((List Int) × (Int × ((List Int) × (Int × Unit))))))))) → Option R) : Option R := wire_TakeCmd_b (wire_reader_cmd kf) wire_code v1 K

def wire_PutReply_l13_b {R : Type} (c_wire_writer_num : Int → Int → Int → Err → (List Int) → (Err → (List Int) → Option R) → Option R) (c_wire_writer_text : (List Int) → Err → (List Int) → (Err → (List Int) → Option R) → Option R) (c_wire_code : Err → (Int → Option R) → Option R) (l_13 : (List Int) → (List (List Int)) → Int → ((List Int) → Err → (List Int) → Option R) → Int → Err → (List Int) → Option R) (v24 : (List Int)) (v25 : (List (List Int))) (v26 : Int) (Ke0 : (List Int) → Err → (List Int) → Option R) (v27 : Int) (v28 : Err) (v29 : (List Int)) : Option R :=
    bif decide (v27 < v26) then
    (gd (decide (0 ≤ v27))
     (gd (decide (v27 < (v25.length : Int)))
      (c_wire_writer_text (v25.getD (Int.toNat v27) ([] : List Int)) v28 v29 (fun (v30 : Err) (v31 : (List Int)) =>
        l_13 v24 v25 v26 Ke0 (IntKind.i64.wrap (v27 + 1)) v30 v31))))
    else (Ke0 v24 v28 v29)

def wire_PutReply_b {R : Type} (c_wire_writer_num : Int → Int → Int → Err → (List Int) → (Err → (List Int) → Option R) → Option R) (c_wire_writer_text : (List Int) → Err → (List Int) → (Err → (List Int) → Option R) → Option R) (c_wire_code : Err → (Int → Option R) → Option R) (l_13 : (List Int) → (List (List Int)) → Int → ((List Int) → Err → (List Int) → Option R) → Int → Err → (List Int) → Option R) (v1 : (List Int)) (v2 : Int) (v3 : Int) (v4 : Int) (v5 : Bool) (v6 : (List Int)) (v7 : (List Int)) (v8 : (List (List Int))) (K : Int → (List Int) → Option R) : Option R :=
    c_wire_writer_num v2 255 1 Err.nil ([] : List Int) (fun (v9 : Err) (v10 : (List Int)) =>
     c_wire_writer_num v3 65535 2 v9 v10 (fun (v11 : Err) (v12 : (List Int)) =>
      c_wire_writer_num v4 255 1 v11 v12 (fun (v13 : Err) (v14 : (List Int)) =>
       let j36 : Int → Option R := fun v15 =>
       (c_wire_writer_num v15 1 1 v13 v14 (fun (v16 : Err) (v17 : (List Int)) =>
         c_wire_writer_text v6 v16 v17 (fun (v18 : Err) (v19 : (List Int)) =>
          c_wire_writer_text v7 v18 v19 (fun (v20 : Err) (v21 : (List Int)) =>
           c_wire_writer_num (v8.length : Int) 255 1 v20 v21 (fun (v22 : Err) (v23 : (List Int)) =>
            gd (decide (0 ≤ (mn (v8.length : Int) 255)))
            (gd (decide ((mn (v8.length : Int) 255) ≤ (v8.length : Int)))
             (l_13 v1 (v8.take (Int.toNat (mn (v8.length : Int) 255))) ((v8.take (Int.toNat (mn (v8.length : Int) 255))).length : Int)
              (fun (v32 : (List Int)) (v33 : Err) (v34 : (List Int)) =>
               bif (!(Err.isNil v33)) then
               (c_wire_code v33 (fun (v35 : Int) =>
                 K v35 ([] : List Int)))
               else (gd (decide (([] : List Int).length + v32.length < SMALL))
                (gd (decide ((([] : List Int) ++ v32).length + v34.length < SMALL))
                 (K 0 ((([] : List Int) ++ v32) ++ v34))))) 0 v22 v23)))))))
       (bif v5 then
        (j36 1)
        else (j36 0)))))

def wire_PutReply_l13 {R : Type} (kf : Nat) : Nat → (List Int) → (List (List Int)) → Int → ((List Int) → Err → (List Int) → Option R) → Int → Err → (List Int) → Option R
  | 0, _, _, _, _, _, _, _ => none
  | k + 1, y0, y1, y2, y3, y4, y5, y6 => wire_PutReply_l13_b (wire_writer_num kf) (wire_writer_text kf) wire_code (wire_PutReply_l13 kf k) y0 y1 y2 y3 y4 y5 y6

def wire_PutReply {R : Type} (kf : Nat) (v1 : (List Int)) (v2 : Int) (v3 : Int) (v4 : Int) (v5 : Bool) (v6 : (List Int)) (v7 : (List Int)) (v8 : (List (List Int))) (K : Int → (List Int) → Option R) : Option R := wire_PutReply_b (wire_writer_num kf) (wire_writer_text kf) wire_code (wire_PutReply_l13 kf kf) v1 v2 v3 v4 v5 v6 v7 v8 K

def wire_TakeReply_l12_b {R : Type} (c_wire_reader_num : Int → (List Int) → Err → (Int → (List Int) → Err → Option R) → Option R) (c_wire_reader_fails : Int → (List Int) → Err → ((List Int) → Err → Option R) → Option R) (c_wire_reader_text : (List Int) → Err → ((List Int) → (List Int) → Err → Option R) → Option R) (c_wire_code : Err → (Int → Option R) → Option R) (l_12 : (List Int) → Int → Int → Int → Bool → (List Int) → (List Int) → ((List Int) → Int → Int → Int → Bool → (List Int) → (List Int) → Err → (List Int) → (List (List Int)) → Option R) → Int → (List Int) → Err → (List (List Int)) → Option R) (v25 : (List Int)) (v27 : Int) (v28 : Int) (v29 : Int) (v30 : Bool) (v31 : (List Int)) (v34 : (List Int)) (Ke0 : (List Int) → Int → Int → Int → Bool → (List Int) → (List Int) → Err → (List Int) → (List (List Int)) → Option R) (v26 : Int) (v32 : (List Int)) (v33 : Err) (v35 : (List (List Int))) : Option R :=
    bif decide (0 < v26) then
    (bif (Err.isNil v33) then
     (c_wire_reader_text v32 v33 (fun (v36 : (List Int)) (v37 : (List Int)) (v38 : Err) =>
       gd (decide (v35.length + ([v36] : List (List Int)).length < SMALL))
       (l_12 v25 v27 v28 v29 v30 v31 v34 Ke0 (IntKind.i64.wrap (v26 - 1)) v37 v38 (v35 ++ ([v36] : List (List Int))))))
     else (Ke0 v25 v27 v28 v29 v30 v31 v32 v33 v34 v35))
    else (Ke0 v25 v27 v28 v29 v30 v31 v32 v33 v34 v35)

def wire_TakeReply_b {R : Type} (c_wire_reader_num : Int → (List Int) → Err → (Int → (List Int) → Err → Option R) → Option R) (c_wire_reader_fails : Int → (List Int) → Err → ((List Int) → Err → Option R) → Option R) (c_wire_reader_text : (List Int) → Err → ((List Int) → (List Int) → Err → Option R) → Option R) (c_wire_code : Err → (Int → Option R) → Option R) (l_12 : (List Int) → Int → Int → Int → Bool → (List Int) → (List Int) → ((List Int) → Int → Int → Int → Bool → (List Int) → (List Int) → Err → (List Int) → (List (List Int)) → Option R) → Int → (List Int) → Err → (List (List Int)) → Option R) (v1 : (List Int)) (K : Int → Int → Int → Bool → (List Int) → Int → Int → (List Int) → (List (List Int)) → Option R) : Option R :=
    c_wire_reader_num 1 v1 Err.nil (fun (v2 : Int) (v3 : (List Int)) (v4 : Err) =>
     c_wire_reader_num 2 v3 v4 (fun (v5 : Int) (v6 : (List Int)) (v7 : Err) =>
      c_wire_reader_num 1 v6 v7 (fun (v8 : Int) (v9 : (List Int)) (v10 : Err) =>
       c_wire_reader_num 1 v9 v10 (fun (v11 : Int) (v12 : (List Int)) (v13 : Err) =>
        let j50 : (List Int) → Err → Option R := fun v14 v15 =>
        (c_wire_reader_text v14 v15 (fun (v16 : (List Int)) (v17 : (List Int)) (v18 : Err) =>
          c_wire_reader_text v17 v18 (fun (v19 : (List Int)) (v20 : (List Int)) (v21 : Err) =>
           c_wire_reader_num 1 v20 v21 (fun (v22 : Int) (v23 : (List Int)) (v24 : Err) =>
            l_12 v1 v2 v5 v8 (decide (v11 = 1)) v19 v16
            (fun (v39 : (List Int)) (v40 : Int) (v41 : Int) (v42 : Int) (v43 : Bool) (v44 : (List Int)) (v45 : (List Int)) (v46 : Err) (v47 : (List Int)) (v48 : (List (List Int))) =>
             bif (!(Err.isNil v46)) then
             (c_wire_code v46 (fun (v49 : Int) =>
               K 0 0 0 false ([]) 0 v49 ([] : List Int) ([] : List (List Int))))
             else (K v40 v41 v42 v43 v44 (IntKind.i64.wrap ((v39.length : Int) - (v45.length : Int))) 0 v47 v48)) v22 v23 v24 ([] : List (List Int))))))
        (bif decide (1 < v11) then
         (c_wire_reader_fails 3 v12 v13 (fun (v51 : (List Int)) (v52 : Err) =>
           j50 v51 v52))
         else (j50 v12 v13))))))

def wire_TakeReply_l12 {R : Type} (kf : Nat) : Nat → (List Int) → Int → Int → Int → Bool → (List Int) → (List Int) → ((List Int) → Int → Int → Int → Bool → (List Int) → (List Int) → Err → (List Int) → (List (List Int)) → Option R) → Int → (List Int) → Err → (List (List Int)) → Option R
  | 0, _, _, _, _, _, _, _, _, _, _, _, _ => none
  | k + 1, y0, y1, y2, y3, y4, y5, y6, y7, y8, y9, y10, y11 => wire_TakeReply_l12_b wire_reader_num wire_reader_fails wire_reader_text wire_code (wire_TakeReply_l12 kf k) y0 y1 y2 y3 y4 y5 y6 y7 y8 y9 y10 y11

def wire_TakeReply {R : Type} (kf : Nat) (v1 : (List Int)) (K : Int → Int → Int → Bool → (List Int) → Int → Int → (List Int) → (List (List Int)) → Option R) : Option R := wire_TakeReply_b wire_reader_num wire_reader_fails wire_reader_text wire_code (wire_TakeReply_l12 kf kf) v1 K

def law29_begun_b {R : Type} (c_wire_PutCmd : (List Int) → Int → (List Int) → (List Int) → (List Int) → Int → (List Int) → Int → (List (Rose (Int × ((List Int) × ((List Int) × ((List Int) × (Int × ((List Int) × (Int × Unit))))))))) → (Int → (List Int) → Option R) → Option R) (c_wire_TakeCmd : (List Int) → (Int → (List Int) → (List Int) → (List Int) → Int → Int → Int → Int → (List Int) → (List (Rose (Int × ((List Int) × ((List Int) × ((List Int) × (Int × ((List Int) × (Int × Unit))))))))) → Option R) → Option R) (c_wire_PutReply : (List Int) → Int → Int → Int → Bool → (List Int) → (List Int) → (List (List Int)) → (Int → (List Int) → Option R) → Option R) (c_wire_TakeReply : (List Int) → (Int → Int → Int → Bool → (List Int) → Int → Int → (List Int) → (List (List Int)) → Option R) → Option R) (K : Bool → Option R) : Option R :=
    c_wire_PutCmd ([] : (List Int)) 3 ([97]) ([]) ([]) 0 ([] : List Int) 0 ([] : List (Rose (Int × ((List Int) × ((List Int) × ((List Int) × (Int × ((List Int) × (Int × Unit))))))))) (fun (v1 : Int) (v2 : (List Int)) =>
     c_wire_TakeCmd v2 (fun (v3 : Int) (v4 : (List Int)) (v5 : (List Int)) (v6 : (List Int)) (v7 : Int) (v8 : Int) (v9 : Int) (v10 : Int) (v11 : (List Int)) (v12 : (List (Rose (Int × ((List Int) × ((List Int) × ((List Int) × (Int × ((List Int) × (Int × Unit)))))))))) =>
      c_wire_PutReply ([] : (List Int)) 0 0 0 false ([] : List Int) ([120]) ([] : List (List Int)) (fun (v13 : Int) (v14 : (List Int)) =>
       c_wire_TakeReply v14 (fun (v15 : Int) (v16 : Int) (v17 : Int) (v18 : Bool) (v19 : (List Int)) (v20 : Int) (v21 : Int) (v22 : (List Int)) (v23 : (List (List Int))) =>
        bif decide (v1 = 0) then
        (bif decide (v2 = [3, 1, 0, 97]) then
         (bif decide (v10 = 0) then
          (bif decide (v9 = 4) then
           (bif decide (v4 = [97]) then
            (bif decide (v13 = 0) then
             (bif decide (v21 = 0) then
              (bif decide (v20 = (v14.length : Int)) then
               (K (decide (v19 = [120])))
               else (K false))
              else (K false))
             else (K false))
            else (K false))
           else (K false))
          else (K false))
         else (K false))
        else (K false)))))

def law29_begun {R : Type} (kf : Nat) (K : Bool → Option R) : Option R := law29_begun_b (wire_PutCmd kf) (wire_TakeCmd kf) (wire_PutReply kf) (wire_TakeReply kf) K

def law29_Light_l4_b {R : Type} (c_law29_Light : Int → (List Int) → (List Int) → (List Int) → Int → (List Int) → Int → (List (Rose (Int × ((List Int) × ((List Int) × ((List Int) × (Int × ((List Int) × (Int × Unit))))))))) → (Bool → Option R) → Option R) (l_4 : (List (Rose (Int × ((List Int) × ((List Int) × ((List Int) × (Int × ((List Int) × (Int × Unit))))))))) → (Bool → Option R) → (Option R) → Int → Option R) (v18 : (List (Rose (Int × ((List Int) × ((List Int) × ((List Int) × (Int × ((List Int) × (Int × Unit)))))))))) (Kr : Bool → Option R) (Ke0 : Option R) (v10 : Int) : Option R :=
    bif decide (v10 < (v18.length : Int)) then
    (gd (decide (0 ≤ v10))
     (gd (decide (v10 < (v18.length : Int)))
      (c_law29_Light ((Rose.lab (v18.getD (Int.toNat v10) (Rose.node ((0 : Int), (([] : List Int), (([] : List Int), (([] : List Int), ((0 : Int), (([] : (List Int)), ((0 : Int), ()))))))) [] : (Rose (Int × ((List Int) × ((List Int) × ((List Int) × (Int × ((List Int) × (Int × Unit))))))))))).1) ((Rose.lab (v18.getD (Int.toNat v10) (Rose.node ((0 : Int), (([] : List Int), (([] : List Int), (([] : List Int), ((0 : Int), (([] : (List Int)), ((0 : Int), ()))))))) [] : (Rose (Int × ((List Int) × ((List Int) × ((List Int) × (Int × ((List Int) × (Int × Unit))))))))))).2.1) ((Rose.lab (v18.getD (Int.toNat v10) (Rose.node ((0 : Int), (([] : List Int), (([] : List Int), (([] : List Int), ((0 : Int), (([] : (List Int)), ((0 : Int), ()))))))) [] : (Rose (Int × ((List Int) × ((List Int) × ((List Int) × (Int × ((List Int) × (Int × Unit))))))))))).2.2.1) ((Rose.lab (v18.getD (Int.toNat v10) (Rose.node ((0 : Int), (([] : List Int), (([] : List Int), (([] : List Int), ((0 : Int), (([] : (List Int)), ((0 : Int), ()))))))) [] : (Rose (Int × ((List Int) × ((List Int) × ((List Int) × (Int × ((List Int) × (Int × Unit))))))))))).2.2.2.1) ((Rose.lab (v18.getD (Int.toNat v10) (Rose.node ((0 : Int), (([] : List Int), (([] : List Int), (([] : List Int), ((0 : Int), (([] : (List Int)), ((0 : Int), ()))))))) [] : (Rose (Int × ((List Int) × ((List Int) × ((List Int) × (Int × ((List Int) × (Int × Unit))))))))))).2.2.2.2.1) ((Rose.lab (v18.getD (Int.toNat v10) (Rose.node ((0 : Int), (([] : List Int), (([] : List Int), (([] : List Int), ((0 : Int), (([] : (List Int)), ((0 : Int), ()))))))) [] : (Rose (Int × ((List Int) × ((List Int) × ((List Int) × (Int × ((List Int) × (Int × Unit))))))))))).2.2.2.2.2.1) ((Rose.lab (v18.getD (Int.toNat v10) (Rose.node ((0 : Int), (([] : List Int), (([] : List Int), (([] : List Int), ((0 : Int), (([] : (List Int)), ((0 : Int), ()))))))) [] : (Rose (Int × ((List Int) × ((List Int) × ((List Int) × (Int × ((List Int) × (Int × Unit))))))))))).2.2.2.2.2.2.1) (Rose.kids (v18.getD (Int.toNat v10) (Rose.node ((0 : Int), (([] : List Int), (([] : List Int), (([] : List Int), ((0 : Int), (([] : (List Int)), ((0 : Int), ()))))))) [] : (Rose (Int × ((List Int) × ((List Int) × ((List Int) × (Int × ((List Int) × (Int × Unit))))))))))) (fun (v19 : Bool) =>
        bif (!v19) then
        (Kr false)
        else (l_4 v18 Kr Ke0 (IntKind.i64.wrap (v10 + 1)))))))
    else (Ke0)

def law29_Light_b {R : Type} (c_law29_Light : Int → (List Int) → (List Int) → (List Int) → Int → (List Int) → Int → (List (Rose (Int × ((List Int) × ((List Int) × ((List Int) × (Int × ((List Int) × (Int × Unit))))))))) → (Bool → Option R) → Option R) (l_4 : (List (Rose (Int × ((List Int) × ((List Int) × ((List Int) × (Int × ((List Int) × (Int × Unit))))))))) → (Bool → Option R) → (Option R) → Int → Option R) (v1 : Int) (v2 : (List Int)) (v3 : (List Int)) (v4 : (List Int)) (v5 : Int) (v6 : (List Int)) (v7 : Int) (v8 : (List (Rose (Int × ((List Int) × ((List Int) × ((List Int) × (Int × ((List Int) × (Int × Unit)))))))))) (K : Bool → Option R) : Option R :=
    let j21 : Bool → Option R := fun v9 =>
    (bif v9 then
     (K false)
     else (l_4 v8
      (fun (v20 : Bool) =>
       K v20)
      (K true) 0))
    (bif decide (2000 < (v2.length : Int)) then
     (j21 true)
     else (bif decide (2000 < (v3.length : Int)) then
      (j21 true)
      else (bif decide (2000 < (v4.length : Int)) then
       (j21 true)
       else (bif decide (2000 < (v6.length : Int)) then
        (j21 true)
        else (j21 (decide (25 < (v8.length : Int))))))))

def law29_Light_l4 {R : Type} (c_self : Int → (List Int) → (List Int) → (List Int) → Int → (List Int) → Int → (List (Rose (Int × ((List Int) × ((List Int) × ((List Int) × (Int × ((List Int) × (Int × Unit))))))))) → (Bool → Option R) → Option R) (kf : Nat) : Nat → (List (Rose (Int × ((List Int) × ((List Int) × ((List Int) × (Int × ((List Int) × (Int × Unit))))))))) → (Bool → Option R) → (Option R) → Int → Option R
  | 0, _, _, _, _ => none
  | k + 1, y0, y1, y2, y3 => law29_Light_l4_b c_self (law29_Light_l4 c_self kf k) y0 y1 y2 y3

def law29_Light {R : Type} : Nat → Int → (List Int) → (List Int) → (List Int) → Int → (List Int) → Int → (List (Rose (Int × ((List Int) × ((List Int) × ((List Int) × (Int × ((List Int) × (Int × Unit))))))))) → (Bool → Option R) → Option R
  | 0, _, _, _, _, _, _, _, _, _ => none
  | kf + 1, y0, y1, y2, y3, y4, y5, y6, y7, y8 => law29_Light_b (law29_Light kf) (law29_Light_l4 (law29_Light kf) kf kf) y0 y1 y2 y3 y4 y5 y6 y7 y8

def law0_Place_b {R : Type} (v1 : Int) (v2 : Int) (K : Int → Option R) : Option R :=
    bif decide (v2 < 1) then
    (K 0)
    else (gd (decide (v2 ≠ 0))
     (let j4 : Int → Option R := fun v3 =>
      (K v3)
      (bif decide ((Int.tmod v1 v2) < 0) then
       (j4 (IntKind.i64.wrap ((Int.tmod v1 v2) + v2)))
       else (j4 (Int.tmod v1 v2)))))

def law0_Place {R : Type} (v1 : Int) (v2 : Int) (K : Int → Option R) : Option R := law0_Place_b v1 v2 K

def ref29_SameCmd_l4_b {R : Type} (c_ref29_SameCmd : Int → (List Int) → (List Int) → (List Int) → Int → (List Int) → Int → (List (Rose (Int × ((List Int) × ((List Int) × ((List Int) × (Int × ((List Int) × (Int × Unit))))))))) → Int → (List Int) → (List Int) → (List Int) → Int → (List Int) → Int → (List (Rose (Int × ((List Int) × ((List Int) × ((List Int) × (Int × ((List Int) × (Int × Unit))))))))) → (Bool → Option R) → Option R) (l_4 : (List (Rose (Int × ((List Int) × ((List Int) × ((List Int) × (Int × ((List Int) × (Int × Unit))))))))) → (List (Rose (Int × ((List Int) × ((List Int) × ((List Int) × (Int × ((List Int) × (Int × Unit))))))))) → (Bool → Option R) → (Option R) → Int → Option R) (v26 : (List (Rose (Int × ((List Int) × ((List Int) × ((List Int) × (Int × ((List Int) × (Int × Unit)))))))))) (v34 : (List (Rose (Int × ((List Int) × ((List Int) × ((List Int) × (Int × ((List Int) × (Int × Unit)))))))))) (Kr : Bool → Option R) (Ke0 : Option R) (v18 : Int) : Option R :=
    bif decide (v18 < (v26.length : Int)) then
    (gd (decide (0 ≤ v18))
     (gd (decide (v18 < (v26.length : Int)))
      (gd (decide (0 ≤ v18))
       (gd (decide (v18 < (v34.length : Int)))
        (c_ref29_SameCmd ((Rose.lab (v26.getD (Int.toNat v18) (Rose.node ((0 : Int), (([] : List Int), (([] : List Int), (([] : List Int), ((0 : Int), (([] : (List Int)), ((0 : Int), ()))))))) [] : (Rose (Int × ((List Int) × ((List Int) × ((List Int) × (Int × ((List Int) × (Int × Unit))))))))))).1) ((Rose.lab (v26.getD (Int.toNat v18) (Rose.node ((0 : Int), (([] : List Int), (([] : List Int), (([] : List Int), ((0 : Int), (([] : (List Int)), ((0 : Int), ()))))))) [] : (Rose (Int × ((List Int) × ((List Int) × ((List Int) × (Int × ((List Int) × (Int × Unit))))))))))).2.1) ((Rose.lab (v26.getD (Int.toNat v18) (Rose.node ((0 : Int), (([] : List Int), (([] : List Int), (([] : List Int), ((0 : Int), (([] : (List Int)), ((0 : Int), ()))))))) [] : (Rose (Int × ((List Int) × ((List Int) × ((List Int) × (Int × ((List Int) × (Int × Unit))))))))))).2.2.1) ((Rose.lab (v26.getD (Int.toNat v18) (Rose.node ((0 : Int), (([] : List Int), (([] : List Int), (([] : List Int), ((0 : Int), (([] : (List Int)), ((0 : Int), ()))))))) [] : (Rose (Int × ((List Int) × ((List Int) × ((List Int) × (Int × ((List Int) × (Int × Unit))))))))))).2.2.2.1) ((Rose.lab (v26.getD (Int.toNat v18) (Rose.node ((0 : Int), (([] : List Int), (([] : List Int), (([] : List Int), ((0 : Int), (([] : (List Int)), ((0 : Int), ()))))))) [] : (Rose (Int × ((List Int) × ((List Int) × ((List Int) × (Int × ((List Int) × (Int × Unit))))))))))).2.2.2.2.1) ((Rose.lab (v26.getD (Int.toNat v18) (Rose.node ((0 : Int), (([] : List Int), (([] : List Int), (([] : List Int), ((0 : Int), (([] : (List Int)), ((0 : Int), ()))))))) [] : (Rose (Int × ((List Int) × ((List Int) × ((List Int) × (Int × ((List Int) × (Int × Unit))))))))))).2.2.2.2.2.1) ((Rose.lab (v26.getD (Int.toNat v18) (Rose.node ((0 : Int), (([] : List Int), (([] : List Int), (([] : List Int), ((0 : Int), (([] : (List Int)), ((0 : Int), ()))))))) [] : (Rose (Int × ((List Int) × ((List Int) × ((List Int) × (Int × ((List Int) × (Int × Unit))))))))))).2.2.2.2.2.2.1) (Rose.kids (v26.getD (Int.toNat v18) (Rose.node ((0 : Int), (([] : List Int), (([] : List Int), (([] : List Int), ((0 : Int), (([] : (List Int)), ((0 : Int), ()))))))) [] : (Rose (Int × ((List Int) × ((List Int) × ((List Int) × (Int × ((List Int) × (Int × Unit))))))))))) ((Rose.lab (v34.getD (Int.toNat v18) (Rose.node ((0 : Int), (([] : List Int), (([] : List Int), (([] : List Int), ((0 : Int), (([] : (List Int)), ((0 : Int), ()))))))) [] : (Rose (Int × ((List Int) × ((List Int) × ((List Int) × (Int × ((List Int) × (Int × Unit))))))))))).1) ((Rose.lab (v34.getD (Int.toNat v18) (Rose.node ((0 : Int), (([] : List Int), (([] : List Int), (([] : List Int), ((0 : Int), (([] : (List Int)), ((0 : Int), ()))))))) [] : (Rose (Int × ((List Int) × ((List Int) × ((List Int) × (Int × ((List Int) × (Int × Unit))))))))))).2.1) ((Rose.lab (v34.getD (Int.toNat v18) (Rose.node ((0 : Int), (([] : List Int), (([] : List Int), (([] : List Int), ((0 : Int), (([] : (List Int)), ((0 : Int), ()))))))) [] : (Rose (Int × ((List Int) × ((List Int) × ((List Int) × (Int × ((List Int) × (Int × Unit))))))))))).2.2.1) ((Rose.lab (v34.getD (Int.toNat v18) (Rose.node ((0 : Int), (([] : List Int), (([] : List Int), (([] : List Int), ((0 : Int), (([] : (List Int)), ((0 : Int), ()))))))) [] : (Rose (Int × ((List Int) × ((List Int) × ((List Int) × (Int × ((List Int) × (Int × Unit))))))))))).2.2.2.1) ((Rose.lab (v34.getD (Int.toNat v18) (Rose.node ((0 : Int), (([] : List Int), (([] : List Int), (([] : List Int), ((0 : Int), (([] : (List Int)), ((0 : Int), ()))))))) [] : (Rose (Int × ((List Int) × ((List Int) × ((List Int) × (Int × ((List Int) × (Int × Unit))))))))))).2.2.2.2.1) ((Rose.lab (v34.getD (Int.toNat v18) (Rose.node ((0 : Int), (([] : List Int), (([] : List Int), (([] : List Int), ((0 : Int), (([] : (List Int)), ((0 : Int), ()))))))) [] : (Rose (Int × ((List Int) × ((List Int) × ((List Int) × (Int × ((List Int) × (Int × Unit))))))))))).2.2.2.2.2.1) ((Rose.lab (v34.getD (Int.toNat v18) (Rose.node ((0 : Int), (([] : List Int), (([] : List Int), (([] : List Int), ((0 : Int), (([] : (List Int)), ((0 : Int), ()))))))) [] : (Rose (Int × ((List Int) × ((List Int) × ((List Int) × (Int × ((List Int) × (Int × Unit))))))))))).2.2.2.2.2.2.1) (Rose.kids (v34.getD (Int.toNat v18) (Rose.node ((0 : Int), (([] : List Int), (([] : List Int), (([] : List Int), ((0 : Int), (([] : (List Int)), ((0 : Int), ()))))))) [] : (Rose (Int × ((List Int) × ((List Int) × ((List Int) × (Int × ((List Int) × (Int × Unit))))))))))) (fun (v35 : Bool) =>
          bif (!v35) then
          (Kr false)
          else (l_4 v26 v34 Kr Ke0 (IntKind.i64.wrap (v18 + 1)))))))))
    else (Ke0)

def ref29_SameCmd_b {R : Type} (c_ref29_SameCmd : Int → (List Int) → (List Int) → (List Int) → Int → (List Int) → Int → (List (Rose (Int × ((List Int) × ((List Int) × ((List Int) × (Int × ((List Int) × (Int × Unit))))))))) → Int → (List Int) → (List Int) → (List Int) → Int → (List Int) → Int → (List (Rose (Int × ((List Int) × ((List Int) × ((List Int) × (Int × ((List Int) × (Int × Unit))))))))) → (Bool → Option R) → Option R) (l_4 : (List (Rose (Int × ((List Int) × ((List Int) × ((List Int) × (Int × ((List Int) × (Int × Unit))))))))) → (List (Rose (Int × ((List Int) × ((List Int) × ((List Int) × (Int × ((List Int) × (Int × Unit))))))))) → (Bool → Option R) → (Option R) → Int → Option R) (v1 : Int) (v2 : (List Int)) (v3 : (List Int)) (v4 : (List Int)) (v5 : Int) (v6 : (List Int)) (v7 : Int) (v8 : (List (Rose (Int × ((List Int) × ((List Int) × ((List Int) × (Int × ((List Int) × (Int × Unit)))))))))) (v9 : Int) (v10 : (List Int)) (v11 : (List Int)) (v12 : (List Int)) (v13 : Int) (v14 : (List Int)) (v15 : Int) (v16 : (List (Rose (Int × ((List Int) × ((List Int) × ((List Int) × (Int × ((List Int) × (Int × Unit)))))))))) (K : Bool → Option R) : Option R :=
    let j37 : Bool → Option R := fun v17 =>
    (bif v17 then
     (K false)
     else (l_4 v8 v16
      (fun (v36 : Bool) =>
       K v36)
      (K true) 0))
    (bif (!(decide (v1 = v9))) then
     (j37 true)
     else (bif (!(decide (v2 = v10))) then
      (j37 true)
      else (bif (!(decide (v3 = v11))) then
       (j37 true)
       else (bif (!(decide (v4 = v12))) then
        (j37 true)
        else (bif (!(decide (v5 = v13))) then
         (j37 true)
         else (bif (!(decide (v6 = v14))) then
          (j37 true)
          else (bif (!(decide (v7 = v15))) then
           (j37 true)
           else (j37 (!(decide ((v8.length : Int) = (v16.length : Int))))))))))))

def ref29_SameCmd_l4 {R : Type} (c_self : Int → (List Int) → (List Int) → (List Int) → Int → (List Int) → Int → (List (Rose (Int × ((List Int) × ((List Int) × ((List Int) × (Int × ((List Int) × (Int × Unit))))))))) → Int → (List Int) → (List Int) → (List Int) → Int → (List Int) → Int → (List (Rose (Int × ((List Int) × ((List Int) × ((List Int) × (Int × ((List Int) × (Int × Unit))))))))) → (Bool → Option R) → Option R) (kf : Nat) : Nat → (List (Rose (Int × ((List Int) × ((List Int) × ((List Int) × (Int × ((List Int) × (Int × Unit))))))))) → (List (Rose (Int × ((List Int) × ((List Int) × ((List Int) × (Int × ((List Int) × (Int × Unit))))))))) → (Bool → Option R) → (Option R) → Int → Option R
  | 0, _, _, _, _, _ => none
  | k + 1, y0, y1, y2, y3, y4 => ref29_SameCmd_l4_b c_self (ref29_SameCmd_l4 c_self kf k) y0 y1 y2 y3 y4

def ref29_SameCmd {R : Type} : Nat → Int → (List Int) → (List Int) → (List Int) → Int → (List Int) → Int → (List (Rose (Int × ((List Int) × ((List Int) × ((List Int) × (Int × ((List Int) × (Int × Unit))))))))) → Int → (List Int) → (List Int) → (List Int) → Int → (List Int) → Int → (List (Rose (Int × ((List Int) × ((List Int) × ((List Int) × (Int × ((List Int) × (Int × Unit))))))))) → (Bool → Option R) → Option R
  | 0, _, _, _, _, _, _, _, _, _, _, _, _, _, _, _, _, _ => none
  | kf + 1, y0, y1, y2, y3, y4, y5, y6, y7, y8, y9, y10, y11, y12, y13, y14, y15, y16 => ref29_SameCmd_b (ref29_SameCmd kf) (ref29_SameCmd_l4 (ref29_SameCmd kf) kf kf) y0 y1 y2 y3 y4 y5 y6 y7 y8 y9 y10 y11 y12 y13 y14 y15 y16

def ref11_SameVerdict_b {R : Type} (v1 : Bool) (v2 : (List Int)) (v3 : Bool) (v4 : (List Int)) (K : Bool → Option R) : Option R :=
    bif decide (v1 = v3) then
    (K (decide (v2 = v4)))
    else (K false)

def ref11_SameVerdict {R : Type} (v1 : Bool) (v2 : (List Int)) (v3 : Bool) (v4 : (List Int)) (K : Bool → Option R) : Option R := ref11_SameVerdict_b v1 v2 v3 v4 K

def ref25_SameReply_l4_b {R : Type} (c_ref11_SameVerdict : Bool → (List Int) → Bool → (List Int) → (Bool → Option R) → Option R) (l_4 : (List (List Int)) → (List (List Int)) → (Bool → Option R) → (Option R) → Int → Option R) (v23 : (List (List Int))) (v30 : (List (List Int))) (Kr : Bool → Option R) (Ke0 : Option R) (v16 : Int) : Option R :=
    bif decide (v16 < (v23.length : Int)) then
    (gd (decide (0 ≤ v16))
     (gd (decide (v16 < (v23.length : Int)))
      (gd (decide (0 ≤ v16))
       (gd (decide (v16 < (v30.length : Int)))
        (bif (!(decide ((v23.getD (Int.toNat v16) ([] : List Int)) = (v30.getD (Int.toNat v16) ([] : List Int))))) then
         (Kr false)
         else (l_4 v23 v30 Kr Ke0 (IntKind.i64.wrap (v16 + 1))))))))
    else (Ke0)

def ref25_SameReply_b {R : Type} (c_ref11_SameVerdict : Bool → (List Int) → Bool → (List Int) → (Bool → Option R) → Option R) (l_4 : (List (List Int)) → (List (List Int)) → (Bool → Option R) → (Option R) → Int → Option R) (v1 : Int) (v2 : Int) (v3 : Int) (v4 : Bool) (v5 : (List Int)) (v6 : (List Int)) (v7 : (List (List Int))) (v8 : Int) (v9 : Int) (v10 : Int) (v11 : Bool) (v12 : (List Int)) (v13 : (List Int)) (v14 : (List (List Int))) (K : Bool → Option R) : Option R :=
    let j32 : Bool → Option R := fun v15 =>
    (bif v15 then
     (K false)
     else (l_4 v7 v14
      (fun (v31 : Bool) =>
       K v31)
      (K true) 0))
    (bif (!(decide (v1 = v8))) then
     (j32 true)
     else (bif (!(decide (v2 = v9))) then
      (j32 true)
      else (bif (!(decide (v3 = v10))) then
       (j32 true)
       else (bif (!(decide (v6 = v13))) then
        (j32 true)
        else (c_ref11_SameVerdict v4 v5 v11 v12 (fun (v33 : Bool) =>
          bif (!v33) then
          (j32 true)
          else (j32 (!(decide ((v7.length : Int) = (v14.length : Int)))))))))))

def ref25_SameReply_l4 {R : Type} (kf : Nat) : Nat → (List (List Int)) → (List (List Int)) → (Bool → Option R) → (Option R) → Int → Option R
  | 0, _, _, _, _, _ => none
  | k + 1, y0, y1, y2, y3, y4 => ref25_SameReply_l4_b ref11_SameVerdict (ref25_SameReply_l4 kf k) y0 y1 y2 y3 y4

def ref25_SameReply {R : Type} (kf : Nat) (v1 : Int) (v2 : Int) (v3 : Int) (v4 : Bool) (v5 : (List Int)) (v6 : (List Int)) (v7 : (List (List Int))) (v8 : Int) (v9 : Int) (v10 : Int) (v11 : Bool) (v12 : (List Int)) (v13 : (List Int)) (v14 : (List (List Int))) (K : Bool → Option R) : Option R := ref25_SameReply_b ref11_SameVerdict (ref25_SameReply_l4 kf kf) v1 v2 v3 v4 v5 v6 v7 v8 v9 v10 v11 v12 v13 v14 K

def law29_WireBack_b {R : Type} (c_law29_begun : (Bool → Option R) → Option R) (c_law29_Light : Int → (List Int) → (List Int) → (List Int) → Int → (List Int) → Int → (List (Rose (Int × ((List Int) × ((List Int) × ((List Int) × (Int × ((List Int) × (Int × Unit))))))))) → (Bool → Option R) → Option R) (c_wire_PutCmd : (List Int) → Int → (List Int) → (List Int) → (List Int) → Int → (List Int) → Int → (List (Rose (Int × ((List Int) × ((List Int) × ((List Int) × (Int × ((List Int) × (Int × Unit))))))))) → (Int → (List Int) → Option R) → Option R) (c_wire_TakeCmd : (List Int) → (Int → (List Int) → (List Int) → (List Int) → Int → Int → Int → Int → (List Int) → (List (Rose (Int × ((List Int) × ((List Int) × ((List Int) × (Int × ((List Int) × (Int × Unit))))))))) → Option R) → Option R) (c_law0_Place : Int → Int → (Int → Option R) → Option R) (c_ref29_SameCmd : Int → (List Int) → (List Int) → (List Int) → Int → (List Int) → Int → (List (Rose (Int × ((List Int) × ((List Int) × ((List Int) × (Int × ((List Int) × (Int × Unit))))))))) → Int → (List Int) → (List Int) → (List Int) → Int → (List Int) → Int → (List (Rose (Int × ((List Int) × ((List Int) × ((List Int) × (Int × ((List Int) × (Int × Unit))))))))) → (Bool → Option R) → Option R) (c_wire_PutReply : (List Int) → Int → Int → Int → Bool → (List Int) → (List Int) → (List (List Int)) → (Int → (List Int) → Option R) → Option R) (c_wire_TakeReply : (List Int) → (Int → Int → Int → Bool → (List Int) → Int → Int → (List Int) → (List (List Int)) → Option R) → Option R) (c_ref25_SameReply : Int → Int → Int → Bool → (List Int) → (List Int) → (List (List Int)) → Int → Int → Int → Bool → (List Int) → (List Int) → (List (List Int)) → (Bool → Option R) → Option R) (v1 : Int) (v2 : (List Int)) (v3 : (List Int)) (v4 : (List Int)) (v5 : Int) (v6 : (List Int)) (v7 : Int) (v8 : (List (Rose (Int × ((List Int) × ((List Int) × ((List Int) × (Int × ((List Int) × (Int × Unit)))))))))) (v9 : Int) (v10 : Int) (v11 : Int) (v12 : Bool) (v13 : (List Int)) (v14 : (List Int)) (v15 : (List (List Int))) (v16 : (List Int)) (v17 : Int) (K : Bool → Option R) : Option R :=
    c_law29_begun (fun (v18 : Bool) =>
     bif (!v18) then
     (K false)
     else (let j69 : Bool → Option R := fun v19 =>
      (bif v19 then
       (K true)
       else (c_wire_PutCmd ([] : (List Int)) v1 v2 v3 v4 v5 v6 v7 v8 (fun (v20 : Int) (v21 : (List Int)) =>
         let j44 : Option R :=
         (c_wire_PutReply ([] : (List Int)) v9 v10 v11 v12 v13 v14 v15 (fun (v22 : Int) (v23 : (List Int)) =>
           bif (!(decide (v22 = 0))) then
           (K (decide (v22 = 1)))
           else (gd (decide (([] : List Int).length + v23.length < SMALL))
            (gd (decide ((([] : List Int) ++ v23).length + v16.length < SMALL))
             (c_wire_TakeReply ((([] : List Int) ++ v23) ++ v16) (fun (v24 : Int) (v25 : Int) (v26 : Int) (v27 : Bool) (v28 : (List Int)) (v29 : Int) (v30 : Int) (v31 : (List Int)) (v32 : (List (List Int))) =>
               c_law0_Place v17 (v23.length : Int) (fun (v33 : Int) =>
                gd (decide (0 ≤ v33))
                (gd (decide (v33 ≤ (v23.length : Int)))
                 (c_wire_TakeReply (v23.take (Int.toNat v33)) (fun (v34 : Int) (v35 : Int) (v36 : Int) (v37 : Bool) (v38 : (List Int)) (v39 : Int) (v40 : Int) (v41 : (List Int)) (v42 : (List (List Int))) =>
                   bif decide (v30 = 0) then
                   (bif decide (v29 = (v23.length : Int)) then
                    (c_ref25_SameReply v24 v25 v26 v27 v31 v28 v32 v9 v10 v11 v12 v13 v14 v15 (fun (v43 : Bool) =>
                      bif v43 then
                      (bif decide (v40 = 2) then
                       (K (decide (v39 = 0)))
                       else (K false))
                      else (K false)))
                    else (K false))
                   else (K false)))))))))))
         (bif decide (v20 = 0) then
          (gd (decide (([] : List Int).length + v21.length < SMALL))
           (gd (decide ((([] : List Int) ++ v21).length + v16.length < SMALL))
            (c_wire_TakeCmd ((([] : List Int) ++ v21) ++ v16) (fun (v45 : Int) (v46 : (List Int)) (v47 : (List Int)) (v48 : (List Int)) (v49 : Int) (v50 : Int) (v51 : Int) (v52 : Int) (v53 : (List Int)) (v54 : (List (Rose (Int × ((List Int) × ((List Int) × ((List Int) × (Int × ((List Int) × (Int × Unit)))))))))) =>
              c_law0_Place v17 (v21.length : Int) (fun (v55 : Int) =>
               gd (decide (0 ≤ v55))
               (gd (decide (v55 ≤ (v21.length : Int)))
                (c_wire_TakeCmd (v21.take (Int.toNat v55)) (fun (v56 : Int) (v57 : (List Int)) (v58 : (List Int)) (v59 : (List Int)) (v60 : Int) (v61 : Int) (v62 : Int) (v63 : Int) (v64 : (List Int)) (v65 : (List (Rose (Int × ((List Int) × ((List Int) × ((List Int) × (Int × ((List Int) × (Int × Unit)))))))))) =>
                  let j67 : Bool → Option R := fun v66 =>
                  (bif v66 then
                   (K false)
                   else (j44))
                  (bif (!(decide (v52 = 0))) then
                   (j67 true)
                   else (bif (!(decide (v51 = (v21.length : Int)))) then
                    (j67 true)
                    else (c_ref29_SameCmd v1 v2 v3 v4 v5 v6 v7 v8 v45 v46 v47 v48 v49 v53 v50 v54 (fun (v68 : Bool) =>
                      bif (!v68) then
                      (j67 true)
                      else (bif (!(decide (v63 = 2))) then
                       (j67 true)
                       else (j67 (!(decide (v62 = 0)))))))))))))))))
          else (j44)))))
      (bif decide (300 < (v16.length : Int)) then
       (j69 true)
       else (c_law29_Light v1 v2 v3 v4 v5 v6 v7 v8 (fun (v70 : Bool) =>
         bif (!v70) then
         (j69 true)
         else (bif decide (300 < (v15.length : Int)) then
          (j69 true)
          else (bif decide (2000 < (v14.length : Int)) then
           (j69 true)
           else (j69 (decide (2000 < (v13.length : Int)))))))))))

def law29_WireBack {R : Type} (kf : Nat) (v1 : Int) (v2 : (List Int)) (v3 : (List Int)) (v4 : (List Int)) (v5 : Int) (v6 : (List Int)) (v7 : Int) (v8 : (List (Rose (Int × ((List Int) × ((List Int) × ((List Int) × (Int × ((List Int) × (Int × Unit)))))))))) (v9 : Int) (v10 : Int) (v11 : Int) (v12 : Bool) (v13 : (List Int)) (v14 : (List Int)) (v15 : (List (List Int))) (v16 : (List Int)) (v17 : Int) (K : Bool → Option R) : Option R := law29_WireBack_b (law29_begun kf) (law29_Light kf) (wire_PutCmd kf) (wire_TakeCmd kf) law0_Place (ref29_SameCmd kf) (wire_PutReply kf) (wire_TakeReply kf) (ref25_SameReply kf) v1 v2 v3 v4 v5 v6 v7 v8 v9 v10 v11 v12 v13 v14 v15 v16 v17 K

def law29_WireOnly_b {R : Type} (c_law29_begun : (Bool → Option R) → Option R) (c_wire_TakeCmd : (List Int) → (Int → (List Int) → (List Int) → (List Int) → Int → Int → Int → Int → (List Int) → (List (Rose (Int × ((List Int) × ((List Int) × ((List Int) × (Int × ((List Int) × (Int × Unit))))))))) → Option R) → Option R) (c_wire_TakeReply : (List Int) → (Int → Int → Int → Bool → (List Int) → Int → Int → (List Int) → (List (List Int)) → Option R) → Option R) (c_wire_PutCmd : (List Int) → Int → (List Int) → (List Int) → (List Int) → Int → (List Int) → Int → (List (Rose (Int × ((List Int) × ((List Int) × ((List Int) × (Int × ((List Int) × (Int × Unit))))))))) → (Int → (List Int) → Option R) → Option R) (c_wire_PutReply : (List Int) → Int → Int → Int → Bool → (List Int) → (List Int) → (List (List Int)) → (Int → (List Int) → Option R) → Option R) (v1 : (List Int)) (K : Bool → Option R) : Option R :=
    c_law29_begun (fun (v2 : Bool) =>
     bif (!v2) then
     (K false)
     else (bif decide (5000 < (v1.length : Int)) then
      (K true)
      else (c_wire_TakeCmd v1 (fun (v3 : Int) (v4 : (List Int)) (v5 : (List Int)) (v6 : (List Int)) (v7 : Int) (v8 : Int) (v9 : Int) (v10 : Int) (v11 : (List Int)) (v12 : (List (Rose (Int × ((List Int) × ((List Int) × ((List Int) × (Int × ((List Int) × (Int × Unit)))))))))) =>
        c_wire_TakeReply v1 (fun (v13 : Int) (v14 : Int) (v15 : Int) (v16 : Bool) (v17 : (List Int)) (v18 : Int) (v19 : Int) (v20 : (List Int)) (v21 : (List (List Int))) =>
         c_wire_PutCmd ([] : (List Int)) v3 v4 v5 v6 v7 v11 v8 v12 (fun (v22 : Int) (v23 : (List Int)) =>
          c_wire_PutReply ([] : (List Int)) v13 v14 v15 v16 v20 v17 v21 (fun (v24 : Int) (v25 : (List Int)) =>
           bif (!(decide (v10 = 0))) then
           (bif (!(decide (v19 = 0))) then
            (K true)
            else (bif decide (v24 = 0) then
             (gd (decide (0 ≤ v18))
              (gd (decide (v18 ≤ (v1.length : Int)))
               (K (decide (v25 = (v1.take (Int.toNat v18)))))))
             else (K false)))
           else (bif decide (v22 = 0) then
            (gd (decide (0 ≤ v9))
             (gd (decide (v9 ≤ (v1.length : Int)))
              (bif decide (v23 = (v1.take (Int.toNat v9))) then
               (bif (!(decide (v19 = 0))) then
                (K true)
                else (bif decide (v24 = 0) then
                 (gd (decide (0 ≤ v18))
                  (gd (decide (v18 ≤ (v1.length : Int)))
                   (K (decide (v25 = (v1.take (Int.toNat v18)))))))
                 else (K false)))
               else (K false))))
            else (K false)))))))))

def law29_WireOnly {R : Type} (kf : Nat) (v1 : (List Int)) (K : Bool → Option R) : Option R := law29_WireOnly_b (law29_begun kf) (wire_TakeCmd kf) (wire_TakeReply kf) (wire_PutCmd kf) (wire_PutReply kf) v1 K

def law29_WireFields_b {R : Type} (c_law29_begun : (Bool → Option R) → Option R) (c_wire_PutCmd : (List Int) → Int → (List Int) → (List Int) → (List Int) → Int → (List Int) → Int → (List (Rose (Int × ((List Int) × ((List Int) × ((List Int) × (Int × ((List Int) × (Int × Unit))))))))) → (Int → (List Int) → Option R) → Option R) (v1 : Int) (v2 : Int) (K : Bool → Option R) : Option R :=
    c_law29_begun (fun (v3 : Bool) =>
     bif (!v3) then
     (K false)
     else (gd (decide (0 ≤ (IntKind.i64.wrap ((IntKind.i64.wrap (1 + (IntKind.i64.wrap (Int.tmod v1 8)))) - 1))))
      (gd (decide ((IntKind.i64.wrap ((IntKind.i64.wrap (1 + (IntKind.i64.wrap (Int.tmod v1 8)))) - 1)) < (([([true, false, true] : List Bool), ([true, false, true] : List Bool), ([true] : List Bool), ([true, true, false, true] : List Bool), ([true, false, false, false, true] : List Bool), ([true] : List Bool), ([true, false, false, false, false, true] : List Bool), ([false, false, false, false, false, false, true] : List Bool)] : List (List Bool)).length : Int)))
       (let j16 : (List Int) → (List Int) → (List Int) → Int → Int → (List Int) → (List (Rose (Int × ((List Int) × ((List Int) × ((List Int) × (Int × ((List Int) × (Int × Unit))))))))) → Option R := fun v4 v5 v6 v7 v8 v9 v10 =>
        (c_wire_PutCmd ([] : (List Int)) (IntKind.i64.wrap (1 + (IntKind.i64.wrap (Int.tmod v1 8)))) v4 v5 v6 v7 v9 v8 v10 (fun (v11 : Int) (v12 : (List Int)) =>
          let j14 : Bool → Option R := fun v13 =>
          (bif decide (decide (v11 = 0) = v13) then
           (bif v13 then
            (K true)
            else (bif decide (v11 = 1) then
             (K (decide ((v12.length : Int) = 0)))
             else (K false)))
           else (K false))
          (let v15 : Int := ((([([true, false, true] : List Bool), ([true, false, true] : List Bool), ([true] : List Bool), ([true, true, false, true] : List Bool), ([true, false, false, false, true] : List Bool), ([true] : List Bool), ([true, false, false, false, false, true] : List Bool), ([false, false, false, false, false, false, true] : List Bool)] : List (List Bool)).getD (Int.toNat (IntKind.i64.wrap ((IntKind.i64.wrap (1 + (IntKind.i64.wrap (Int.tmod v1 8)))) - 1))) ([] : (List Bool))).length : Int)
           bif decide ((IntKind.i64.wrap (Int.tmod v2 7)) < v15) then
           (gd (decide (0 ≤ (IntKind.i64.wrap (Int.tmod v2 7))))
            (gd (decide ((IntKind.i64.wrap (Int.tmod v2 7)) < ((([([true, false, true] : List Bool), ([true, false, true] : List Bool), ([true] : List Bool), ([true, true, false, true] : List Bool), ([true, false, false, false, true] : List Bool), ([true] : List Bool), ([true, false, false, false, false, true] : List Bool), ([false, false, false, false, false, false, true] : List Bool)] : List (List Bool)).getD (Int.toNat (IntKind.i64.wrap ((IntKind.i64.wrap (1 + (IntKind.i64.wrap (Int.tmod v1 8)))) - 1))) ([] : (List Bool))).length : Int)))
             (j14 ((([([true, false, true] : List Bool), ([true, false, true] : List Bool), ([true] : List Bool), ([true, true, false, true] : List Bool), ([true, false, false, false, true] : List Bool), ([true] : List Bool), ([true, false, false, false, false, true] : List Bool), ([false, false, false, false, false, false, true] : List Bool)] : List (List Bool)).getD (Int.toNat (IntKind.i64.wrap ((IntKind.i64.wrap (1 + (IntKind.i64.wrap (Int.tmod v1 8)))) - 1))) ([] : (List Bool))).getD (Int.toNat (IntKind.i64.wrap (Int.tmod v2 7))) false))))
           else (j14 false))))
        (bif decide ((IntKind.i64.wrap (Int.tmod v2 7)) = 0) then
         (j16 ([97]) ([]) ([]) 0 0 ([] : List Int) ([] : List (Rose (Int × ((List Int) × ((List Int) × ((List Int) × (Int × ((List Int) × (Int × Unit))))))))))
         else (bif decide ((IntKind.i64.wrap (Int.tmod v2 7)) = 1) then
          (j16 ([]) ([97]) ([]) 0 0 ([] : List Int) ([] : List (Rose (Int × ((List Int) × ((List Int) × ((List Int) × (Int × ((List Int) × (Int × Unit))))))))))
          else (bif decide ((IntKind.i64.wrap (Int.tmod v2 7)) = 2) then
           (j16 ([]) ([]) ([97]) 0 0 ([] : List Int) ([] : List (Rose (Int × ((List Int) × ((List Int) × ((List Int) × (Int × ((List Int) × (Int × Unit))))))))))
           else (bif decide ((IntKind.i64.wrap (Int.tmod v2 7)) = 3) then
            (j16 ([]) ([]) ([]) 1 0 ([] : List Int) ([] : List (Rose (Int × ((List Int) × ((List Int) × ((List Int) × (Int × ((List Int) × (Int × Unit))))))))))
            else (bif decide ((IntKind.i64.wrap (Int.tmod v2 7)) = 4) then
             (j16 ([]) ([]) ([]) 0 0 ([1] : List Int) ([] : List (Rose (Int × ((List Int) × ((List Int) × ((List Int) × (Int × ((List Int) × (Int × Unit))))))))))
             else (bif decide ((IntKind.i64.wrap (Int.tmod v2 7)) = 5) then
              (j16 ([]) ([]) ([]) 0 1 ([] : List Int) ([] : List (Rose (Int × ((List Int) × ((List Int) × ((List Int) × (Int × ((List Int) × (Int × Unit))))))))))
              else (j16 ([]) ([]) ([]) 0 0 ([] : List Int) ([(Rose.node (3, [], [], [], 0, ([] : List Int), 0, ()) ([] : List (Rose (Int × ((List Int) × ((List Int) × ((List Int) × (Int × ((List Int) × (Int × Unit))))))))))] : List (Rose (Int × ((List Int) × ((List Int) × ((List Int) × (Int × ((List Int) × (Int × Unit))))))))))))))))))))

def law29_WireFields {R : Type} (kf : Nat) (v1 : Int) (v2 : Int) (K : Bool → Option R) : Option R := law29_WireFields_b (law29_begun kf) (wire_PutCmd kf) v1 v2 K

def sh5 {R : Type} (c_law29_WireBack : Int → (List Int) → (List Int) → (List Int) → Int → (List Int) → Int → (List (Rose (Int × ((List Int) × ((List Int) × ((List Int) × (Int × ((List Int) × (Int × Unit))))))))) → Int → Int → Int → Bool → (List Int) → (List Int) → (List (List Int)) → (List Int) → Int → (Bool → Option R) → Option R) (av : List S) (es : List Ent) (K : S → List Ent → Option R) : Option R :=
  match av, es with
  | [.st [.int .i64 v1, .str v2, .str v3, .str v4, .int .i64 v5, .sl (.int .u8) v6, .int .i64 v7, .sl (.rose (.pair (.int .i64) (.pair .str (.pair .str (.pair .str (.pair (.int .i64) (.pair (.slice (.int .u8)) (.pair (.int .i64) .unit)))))))) v8], .st [.int .i64 v9, .int .i64 v10, .int .i64 v11, .st [.bool v12, .sl (.int .u8) v13], .str v14, .sl .str v15], .sl (.int .u8) v16, .int .i64 v17], [] => c_law29_WireBack v1 v2 v3 v4 v5 v6 v7 v8 v9 v10 v11 v12 v13 v14 v15 v16 v17 (fun (r0 : Bool) => K (.bool r0) [])
  | _, _ => none

def sh6 {R : Type} (c_law29_WireOnly : (List Int) → (Bool → Option R) → Option R) (av : List S) (es : List Ent) (K : S → List Ent → Option R) : Option R :=
  match av, es with
  | [.sl (.int .u8) v1], [] => c_law29_WireOnly v1 (fun (r0 : Bool) => K (.bool r0) [])
  | _, _ => none

def sh7 {R : Type} (c_law29_WireFields : Int → Int → (Bool → Option R) → Option R) (av : List S) (es : List Ent) (K : S → List Ent → Option R) : Option R :=
  match av, es with
  | [.int .u8 v1, .int .u8 v2], [] => c_law29_WireFields v1 v2 (fun (r0 : Bool) => K (.bool r0) [])
  | _, _ => none

def sh8 {R : Type} (c_law29_begun : (Bool → Option R) → Option R) (av : List S) (es : List Ent) (K : S → List Ent → Option R) : Option R :=
  match av, es with
  | [], [] => c_law29_begun (fun (r0 : Bool) => K (.bool r0) [])
  | _, _ => none

def sh9 {R : Type} (c_law29_Light : Int → (List Int) → (List Int) → (List Int) → Int → (List Int) → Int → (List (Rose (Int × ((List Int) × ((List Int) × ((List Int) × (Int × ((List Int) × (Int × Unit))))))))) → (Bool → Option R) → Option R) (av : List S) (es : List Ent) (K : S → List Ent → Option R) : Option R :=
  match av, es with
  | [.st [.int .i64 v1, .str v2, .str v3, .str v4, .int .i64 v5, .sl (.int .u8) v6, .int .i64 v7, .sl (.rose (.pair (.int .i64) (.pair .str (.pair .str (.pair .str (.pair (.int .i64) (.pair (.slice (.int .u8)) (.pair (.int .i64) .unit)))))))) v8]], [] => c_law29_Light v1 v2 v3 v4 v5 v6 v7 v8 (fun (r0 : Bool) => K (.bool r0) [])
  | _, _ => none

def sh11 {R : Type} (c_wire_PutCmd : (List Int) → Int → (List Int) → (List Int) → (List Int) → Int → (List Int) → Int → (List (Rose (Int × ((List Int) × ((List Int) × ((List Int) × (Int × ((List Int) × (Int × Unit))))))))) → (Int → (List Int) → Option R) → Option R) (av : List S) (es : List Ent) (K : S → List Ent → Option R) : Option R :=
  match av, es with
  | [.sl (.int .u8) v1, .st [.int .i64 v2, .str v3, .str v4, .str v5, .int .i64 v6, .sl (.int .u8) v7, .int .i64 v8, .sl (.rose (.pair (.int .i64) (.pair .str (.pair .str (.pair .str (.pair (.int .i64) (.pair (.slice (.int .u8)) (.pair (.int .i64) .unit)))))))) v9]], [] => c_wire_PutCmd v1 v2 v3 v4 v5 v6 v7 v8 v9 (fun (r0 : Int) (r1 : (List Int)) => K (.tup [.own (.int .u8) 0, .int .i64 r0]) [.buf (.int .u8) r1 false])
  | _, _ => none

def sh13 {R : Type} (c_wire_PutReply : (List Int) → Int → Int → Int → Bool → (List Int) → (List Int) → (List (List Int)) → (Int → (List Int) → Option R) → Option R) (av : List S) (es : List Ent) (K : S → List Ent → Option R) : Option R :=
  match av, es with
  | [.sl (.int .u8) v1, .st [.int .i64 v2, .int .i64 v3, .int .i64 v4, .st [.bool v5, .sl (.int .u8) v6], .str v7, .sl .str v8]], [] => c_wire_PutReply v1 v2 v3 v4 v5 v6 v7 v8 (fun (r0 : Int) (r1 : (List Int)) => K (.tup [.own (.int .u8) 0, .int .i64 r0]) [.buf (.int .u8) r1 false])
  | _, _ => none

def sh17 {R : Type} (c_wire_TakeCmd : (List Int) → (Int → (List Int) → (List Int) → (List Int) → Int → Int → Int → Int → (List Int) → (List (Rose (Int × ((List Int) × ((List Int) × ((List Int) × (Int × ((List Int) × (Int × Unit))))))))) → Option R) → Option R) (av : List S) (es : List Ent) (K : S → List Ent → Option R) : Option R :=
  match av, es with
  | [.sl (.int .u8) v1], [] => c_wire_TakeCmd v1 (fun (r0 : Int) (r1 : (List Int)) (r2 : (List Int)) (r3 : (List Int)) (r4 : Int) (r5 : Int) (r6 : Int) (r7 : Int) (r8 : (List Int)) (r9 : (List (Rose (Int × ((List Int) × ((List Int) × ((List Int) × (Int × ((List Int) × (Int × Unit)))))))))) => K (.tup [.st [.int .i64 r0, .str r1, .str r2, .str r3, .int .i64 r4, .own (.int .u8) 0, .int .i64 r5, .own (.rose (.pair (.int .i64) (.pair .str (.pair .str (.pair .str (.pair (.int .i64) (.pair (.slice (.int .u8)) (.pair (.int .i64) .unit)))))))) 1], .int .i64 r6, .int .i64 r7]) [.buf (.int .u8) r8 false, .buf (.rose (.pair (.int .i64) (.pair .str (.pair .str (.pair .str (.pair (.int .i64) (.pair (.slice (.int .u8)) (.pair (.int .i64) .unit)))))))) r9 false])
  | _, _ => none

def sh19 {R : Type} (c_wire_TakeReply : (List Int) → (Int → Int → Int → Bool → (List Int) → Int → Int → (List Int) → (List (List Int)) → Option R) → Option R) (av : List S) (es : List Ent) (K : S → List Ent → Option R) : Option R :=
  match av, es with
  | [.sl (.int .u8) v1], [] => c_wire_TakeReply v1 (fun (r0 : Int) (r1 : Int) (r2 : Int) (r3 : Bool) (r4 : (List Int)) (r5 : Int) (r6 : Int) (r7 : (List Int)) (r8 : (List (List Int))) => K (.tup [.st [.int .i64 r0, .int .i64 r1, .int .i64 r2, .st [.bool r3, .own (.int .u8) 0], .str r4, .own .str 1], .int .i64 r5, .int .i64 r6]) [.buf (.int .u8) r7 false, .buf .str r8 false])
  | _, _ => none

def sh21 {R : Type} (c_ref29_SameCmd : Int → (List Int) → (List Int) → (List Int) → Int → (List Int) → Int → (List (Rose (Int × ((List Int) × ((List Int) × ((List Int) × (Int × ((List Int) × (Int × Unit))))))))) → Int → (List Int) → (List Int) → (List Int) → Int → (List Int) → Int → (List (Rose (Int × ((List Int) × ((List Int) × ((List Int) × (Int × ((List Int) × (Int × Unit))))))))) → (Bool → Option R) → Option R) (av : List S) (es : List Ent) (K : S → List Ent → Option R) : Option R :=
  match av, es with
  | [.st [.int .i64 v1, .str v2, .str v3, .str v4, .int .i64 v5, .sl (.int .u8) v6, .int .i64 v7, .sl (.rose (.pair (.int .i64) (.pair .str (.pair .str (.pair .str (.pair (.int .i64) (.pair (.slice (.int .u8)) (.pair (.int .i64) .unit)))))))) v8], .st [.int .i64 v9, .str v10, .str v11, .str v12, .int .i64 v13, .sl (.int .u8) v14, .int .i64 v15, .sl (.rose (.pair (.int .i64) (.pair .str (.pair .str (.pair .str (.pair (.int .i64) (.pair (.slice (.int .u8)) (.pair (.int .i64) .unit)))))))) v16]], [] => c_ref29_SameCmd v1 v2 v3 v4 v5 v6 v7 v8 v9 v10 v11 v12 v13 v14 v15 v16 (fun (r0 : Bool) => K (.bool r0) [])
  | _, _ => none

def sh22 {R : Type} (c_ref25_SameReply : Int → Int → Int → Bool → (List Int) → (List Int) → (List (List Int)) → Int → Int → Int → Bool → (List Int) → (List Int) → (List (List Int)) → (Bool → Option R) → Option R) (av : List S) (es : List Ent) (K : S → List Ent → Option R) : Option R :=
  match av, es with
  | [.st [.int .i64 v1, .int .i64 v2, .int .i64 v3, .st [.bool v4, .sl (.int .u8) v5], .str v6, .sl .str v7], .st [.int .i64 v8, .int .i64 v9, .int .i64 v10, .st [.bool v11, .sl (.int .u8) v12], .str v13, .sl .str v14]], [] => c_ref25_SameReply v1 v2 v3 v4 v5 v6 v7 v8 v9 v10 v11 v12 v13 v14 (fun (r0 : Bool) => K (.bool r0) [])
  | _, _ => none

def sh23 {R : Type} (c_law0_Place : Int → Int → (Int → Option R) → Option R) (av : List S) (es : List Ent) (K : S → List Ent → Option R) : Option R :=
  match av, es with
  | [.int .i64 v1, .int .i64 v2], [] => c_law0_Place v1 v2 (fun (r0 : Int) => K (.int .i64 r0) [])
  | _, _ => none

def sh24 {R : Type} (c_wire_writer_cmd : Int → (List Int) → (List Int) → (List Int) → Int → (List Int) → Int → (List (Rose (Int × ((List Int) × ((List Int) × ((List Int) × (Int × ((List Int) × (Int × Unit))))))))) → Bool → Err → (List Int) → (Err → (List Int) → Option R) → Option R) (av : List S) (es : List Ent) (K : S → List Ent → Option R) : Option R :=
  match av, es with
  | [.ptr 0 [], .st [.int .i64 v1, .str v2, .str v3, .str v4, .int .i64 v5, .sl (.int .u8) v6, .int .i64 v7, .sl (.rose (.pair (.int .i64) (.pair .str (.pair .str (.pair .str (.pair (.int .i64) (.pair (.slice (.int .u8)) (.pair (.int .i64) .unit)))))))) v8], .bool v9], [.box (.st [.own (.int .u8) 1, .err v10]) false, .buf (.int .u8) v11 false] => c_wire_writer_cmd v1 v2 v3 v4 v5 v6 v7 v8 v9 v10 v11 (fun (r0 : Err) (r1 : (List Int)) => K (.tup []) [.box (.st [.own (.int .u8) 1, .err r0]) false, .buf (.int .u8) r1 false])
  | _, _ => none

def sh25 {R : Type} (c_wire_code : Err → (Int → Option R) → Option R) (av : List S) (es : List Ent) (K : S → List Ent → Option R) : Option R :=
  match av, es with
  | [.err v1], [] => c_wire_code v1 (fun (r0 : Int) => K (.int .i64 r0) [])
  | _, _ => none

def sh28 {R : Type} (c_wire_writer_num : Int → Int → Int → Err → (List Int) → (Err → (List Int) → Option R) → Option R) (av : List S) (es : List Ent) (K : S → List Ent → Option R) : Option R :=
  match av, es with
  | [.ptr 0 [], .int .i64 v1, .int .i64 v2, .int .i64 v3], [.box (.st [.own (.int .u8) 1, .err v4]) false, .buf (.int .u8) v5 false] => c_wire_writer_num v1 v2 v3 v4 v5 (fun (r0 : Err) (r1 : (List Int)) => K (.tup []) [.box (.st [.own (.int .u8) 1, .err r0]) false, .buf (.int .u8) r1 false])
  | _, _ => none

def sh29 {R : Type} (c_wire_writer_text : (List Int) → Err → (List Int) → (Err → (List Int) → Option R) → Option R) (av : List S) (es : List Ent) (K : S → List Ent → Option R) : Option R :=
  match av, es with
  | [.ptr 0 [], .str v1], [.box (.st [.own (.int .u8) 1, .err v2]) false, .buf (.int .u8) v3 false] => c_wire_writer_text v1 v2 v3 (fun (r0 : Err) (r1 : (List Int)) => K (.tup []) [.box (.st [.own (.int .u8) 1, .err r0]) false, .buf (.int .u8) r1 false])
  | _, _ => none

def sh34 {R : Type} (c_wire_reader_cmd : Bool → (List Int) → Err → (Int → (List Int) → (List Int) → (List Int) → Int → Int → (List Int) → Err → (List Int) → (List (Rose (Int × ((List Int) × ((List Int) × ((List Int) × (Int × ((List Int) × (Int × Unit))))))))) → Option R) → Option R) (av : List S) (es : List Ent) (K : S → List Ent → Option R) : Option R :=
  match av, es with
  | [.ptr 0 [], .bool v1], [.box (.st [.sl (.int .u8) v2, .err v3]) false] => c_wire_reader_cmd v1 v2 v3 (fun (r0 : Int) (r1 : (List Int)) (r2 : (List Int)) (r3 : (List Int)) (r4 : Int) (r5 : Int) (r6 : (List Int)) (r7 : Err) (r8 : (List Int)) (r9 : (List (Rose (Int × ((List Int) × ((List Int) × ((List Int) × (Int × ((List Int) × (Int × Unit)))))))))) => K (.st [.int .i64 r0, .str r1, .str r2, .str r3, .int .i64 r4, .own (.int .u8) 1, .int .i64 r5, .own (.rose (.pair (.int .i64) (.pair .str (.pair .str (.pair .str (.pair (.int .i64) (.pair (.slice (.int .u8)) (.pair (.int .i64) .unit)))))))) 2]) [.box (.st [.sl (.int .u8) r6, .err r7]) false, .buf (.int .u8) r8 false, .buf (.rose (.pair (.int .i64) (.pair .str (.pair .str (.pair .str (.pair (.int .i64) (.pair (.slice (.int .u8)) (.pair (.int .i64) .unit)))))))) r9 false])
  | _, _ => none

def sh36 {R : Type} (c_wire_reader_num : Int → (List Int) → Err → (Int → (List Int) → Err → Option R) → Option R) (av : List S) (es : List Ent) (K : S → List Ent → Option R) : Option R :=
  match av, es with
  | [.ptr 0 [], .int .i64 v1], [.box (.st [.sl (.int .u8) v2, .err v3]) false] => c_wire_reader_num v1 v2 v3 (fun (r0 : Int) (r1 : (List Int)) (r2 : Err) => K (.int .i64 r0) [.box (.st [.sl (.int .u8) r1, .err r2]) false])
  | _, _ => none

def sh37 {R : Type} (c_wire_reader_fails : Int → (List Int) → Err → ((List Int) → Err → Option R) → Option R) (av : List S) (es : List Ent) (K : S → List Ent → Option R) : Option R :=
  match av, es with
  | [.ptr 0 [], .int .i64 v1], [.box (.st [.sl (.int .u8) v2, .err v3]) false] => c_wire_reader_fails v1 v2 v3 (fun (r0 : (List Int)) (r1 : Err) => K (.tup []) [.box (.st [.sl (.int .u8) r0, .err r1]) false])
  | _, _ => none

def sh38 {R : Type} (c_wire_reader_text : (List Int) → Err → ((List Int) → (List Int) → Err → Option R) → Option R) (av : List S) (es : List Ent) (K : S → List Ent → Option R) : Option R :=
  match av, es with
  | [.ptr 0 []], [.box (.st [.sl (.int .u8) v1, .err v2]) false] => c_wire_reader_text v1 v2 (fun (r0 : (List Int)) (r1 : (List Int)) (r2 : Err) => K (.str r0) [.box (.st [.sl (.int .u8) r1, .err r2]) false])
  | _, _ => none

def sh42 {R : Type} (c_ref11_SameVerdict : Bool → (List Int) → Bool → (List Int) → (Bool → Option R) → Option R) (av : List S) (es : List Ent) (K : S → List Ent → Option R) : Option R :=
  match av, es with
  | [.st [.bool v1, .sl (.int .u8) v2], .st [.bool v3, .sl (.int .u8) v4]], [] => c_ref11_SameVerdict v1 v2 v3 v4 (fun (r0 : Bool) => K (.bool r0) [])
  | _, _ => none

def sh43 {R : Type} (c_wire_blank : Int → (List Int) → (List Int) → (List Int) → Int → (List Int) → Int → (List (Rose (Int × ((List Int) × ((List Int) × ((List Int) × (Int × ((List Int) × (Int × Unit))))))))) → (Bool → Option R) → Option R) (av : List S) (es : List Ent) (K : S → List Ent → Option R) : Option R :=
  match av, es with
  | [.st [.int .i64 v1, .str v2, .str v3, .str v4, .int .i64 v5, .sl (.int .u8) v6, .int .i64 v7, .sl (.rose (.pair (.int .i64) (.pair .str (.pair .str (.pair .str (.pair (.int .i64) (.pair (.slice (.int .u8)) (.pair (.int .i64) .unit)))))))) v8]], [] => c_wire_blank v1 v2 v3 v4 v5 v6 v7 v8 (fun (r0 : Bool) => K (.bool r0) [])
  | _, _ => none

def sh44 {R : Type} (c_wire_rest : Int → (List Int) → (List Int) → (List Int) → Int → (List Int) → Int → (List (Rose (Int × ((List Int) × ((List Int) × ((List Int) × (Int × ((List Int) × (Int × Unit))))))))) → (Int → (List Int) → (List Int) → (List Int) → Int → (List Int) → Int → (List (Rose (Int × ((List Int) × ((List Int) × ((List Int) × (Int × ((List Int) × (Int × Unit))))))))) → Option R) → Option R) (av : List S) (es : List Ent) (K : S → List Ent → Option R) : Option R :=
  match av, es with
  | [.st [.int .i64 v1, .str v2, .str v3, .str v4, .int .i64 v5, .sl (.int .u8) v6, .int .i64 v7, .sl (.rose (.pair (.int .i64) (.pair .str (.pair .str (.pair .str (.pair (.int .i64) (.pair (.slice (.int .u8)) (.pair (.int .i64) .unit)))))))) v8]], [] => c_wire_rest v1 v2 v3 v4 v5 v6 v7 v8 (fun (r0 : Int) (r1 : (List Int)) (r2 : (List Int)) (r3 : (List Int)) (r4 : Int) (r5 : (List Int)) (r6 : Int) (r7 : (List (Rose (Int × ((List Int) × ((List Int) × ((List Int) × (Int × ((List Int) × (Int × Unit)))))))))) => K (.st [.int .i64 r0, .str r1, .str r2, .str r3, .int .i64 r4, .sl (.int .u8) r5, .int .i64 r6, .sl (.rose (.pair (.int .i64) (.pair .str (.pair .str (.pair .str (.pair (.int .i64) (.pair (.slice (.int .u8)) (.pair (.int .i64) .unit)))))))) r7]) [])
  | _, _ => none

def sh45 {R : Type} (c_wire_bad : Int → (Err → Option R) → Option R) (av : List S) (es : List Ent) (K : S → List Ent → Option R) : Option R :=
  match av, es with
  | [.int .i64 v1], [] => c_wire_bad v1 (fun (r0 : Err) => K (.err r0) [])
  | _, _ => none

def sh46 {R : Type} (av : List S) (es : List Ent) (K : S → List Ent → Option R) : Option R :=
  match av, es with
  | [.err v1, .iface 84 (.ptr 0 [])], [.box .nilp false] => gd (Err.fit [(82, 1)] [(93, 0, 0)] v1) (optK (Err.find 82 v1) (fun (v : Err) => K (.bool true) [.box (.iref (.pair (.int .i64) .unit) ((Err.num 0 v), ())) false]) (K (.bool false) [.box .nilp false]))
  | _, _ => none

def sh49 {R : Type} (c_octet_Put : (List Int) → Int → Int → ((List Int) → Option R) → Option R) (av : List S) (es : List Ent) (K : S → List Ent → Option R) : Option R :=
  match av, es with
  | [.sl (.int .u8) v1, .int .u64 v2, .int .i64 v3], [] => c_octet_Put v1 v2 v3 (fun (r0 : (List Int)) => K (.own (.int .u8) 0) [.buf (.int .u8) r0 false])
  | _, _ => none

def sh50 {R : Type} (c_octet_Text : (List Int) → (List Int) → ((List Int) → Option R) → Option R) (av : List S) (es : List Ent) (K : S → List Ent → Option R) : Option R :=
  match av, es with
  | [.sl (.int .u8) v1, .sl (.int .u8) v2], [] => c_octet_Text v1 v2 (fun (r0 : (List Int)) => K (.own (.int .u8) 0) [.buf (.int .u8) r0 false])
  | _, _ => none

def sh52 {R : Type} (c_octet_Take : (List Int) → Int → Int → (Int → Int → Option R) → Option R) (av : List S) (es : List Ent) (K : S → List Ent → Option R) : Option R :=
  match av, es with
  | [.sl (.int .u8) v1, .int .i64 v2, .int .i64 v3], [] => c_octet_Take v1 v2 v3 (fun (r0 : Int) (r1 : Int) => K (.tup [.int .u64 r0, .int .i64 r1]) [])
  | _, _ => none

def sh53 {R : Type} (c_octet_TakeText : (List Int) → Int → (Int → Int → (List Int) → Option R) → Option R) (av : List S) (es : List Ent) (K : S → List Ent → Option R) : Option R :=
  match av, es with
  | [.sl (.int .u8) v1, .int .i64 v2], [] => c_octet_TakeText v1 v2 (fun (r0 : Int) (r1 : Int) (r2 : (List Int)) => K (.tup [.own (.int .u8) 0, .int .i64 r0, .int .i64 r1]) [.buf (.int .u8) r2 false])
  | _, _ => none

end
end Go.Ab.T
