/- WrdTA: a part of the proofs of this seat's statements. -/
import Derived.Test.YtlhinijgdffcdaaDoorDef
import Derived.Test.YtlhinijgdffcdaaDoorPrimX
import Derived.Test.YtlhinijgdffcdaaDoorProg
import Derived.KernelRfl




namespace Go.Ab.T

open Go Go.Ab Go.Proofs

set_option maxRecDepth 100000

set_option linter.unusedVariables false

noncomputable section

def glob : Nat → Option S := fun g => if g = 0 then some (.err (.raw 110 (.agg #[.pointer (some ⟨1, 55, none⟩)]))) else none

def raw : FuncId → Bool := fun f => [15, 16].contains f

def wire_rest_b {R : Type} (v1 : Int) (v2 : (List Int)) (v3 : (List Int)) (v4 : (List Int)) (v5 : Int) (v6 : (List Int)) (v7 : Int) (v8 : (List (Rose (Int × ((List Int) × ((List Int) × ((List Int) × (Int × ((List Int) × (Int × Unit)))))))))) (K : Int → (List Int) → (List Int) → (List Int) → Int → (List Int) → Int → (List (Rose (Int × ((List Int) × ((List Int) × ((List Int) × (Int × ((List Int) × (Int × Unit))))))))) → Option R) : Option R :=
    let j10 : (List Int) → Option R := fun v9 =>
    (K v1 ([]) v3 v9 v5 v6 v7 v8)
    (bif decide (v1 = 1) then
     (j10 ([]))
     else (bif decide (v1 = 2) then
      (j10 ([]))
      else (let j11 : Option R :=
       (bif decide (v1 = 4) then
        (K v1 ([]) ([]) v4 0 v6 v7 v8)
        else (bif decide (v1 = 5) then
         (K v1 ([]) v3 v4 v5 ([] : List Int) v7 v8)
         else (bif decide (v1 = 7) then
          (K v1 ([]) v3 v4 v5 v6 0 v8)
          else (bif decide (v1 = 8) then
           (K v1 v2 v3 v4 v5 v6 v7 ([] : List (Rose (Int × ((List Int) × ((List Int) × ((List Int) × (Int × ((List Int) × (Int × Unit))))))))))
           else (K v1 v2 v3 v4 v5 v6 v7 v8)))))
       (bif decide (v1 = 3) then
        (bif decide (v1 = 3) then
         (j10 v4)
         else (j11))
        else (bif decide (v1 = 6) then
         (j10 v4)
         else (j11))))))

def wire_rest {R : Type} (v1 : Int) (v2 : (List Int)) (v3 : (List Int)) (v4 : (List Int)) (v5 : Int) (v6 : (List Int)) (v7 : Int) (v8 : (List (Rose (Int × ((List Int) × ((List Int) × ((List Int) × (Int × ((List Int) × (Int × Unit)))))))))) (K : Int → (List Int) → (List Int) → (List Int) → Int → (List Int) → Int → (List (Rose (Int × ((List Int) × ((List Int) × ((List Int) × (Int × ((List Int) × (Int × Unit))))))))) → Option R) : Option R := wire_rest_b v1 v2 v3 v4 v5 v6 v7 v8 K

def wire_blank_b {R : Type} (v1 : Int) (v2 : (List Int)) (v3 : (List Int)) (v4 : (List Int)) (v5 : Int) (v6 : (List Int)) (v7 : Int) (v8 : (List (Rose (Int × ((List Int) × ((List Int) × ((List Int) × (Int × ((List Int) × (Int × Unit)))))))))) (K : Bool → Option R) : Option R :=
    bif decide (v2 = []) then
    (bif decide (v3 = []) then
     (bif decide (v4 = []) then
      (bif decide (v5 = 0) then
       (bif decide ((v6.length : Int) = 0) then
        (bif decide (v7 = 0) then
         (K (decide ((v8.length : Int) = 0)))
         else (K false))
        else (K false))
       else (K false))
      else (K false))
     else (K false))
    else (K false)

def wire_blank {R : Type} (v1 : Int) (v2 : (List Int)) (v3 : (List Int)) (v4 : (List Int)) (v5 : Int) (v6 : (List Int)) (v7 : Int) (v8 : (List (Rose (Int × ((List Int) × ((List Int) × ((List Int) × (Int × ((List Int) × (Int × Unit)))))))))) (K : Bool → Option R) : Option R := wire_blank_b v1 v2 v3 v4 v5 v6 v7 v8 K

def wire_bad_b {R : Type} (v1 : Int) (K : Err → Option R) : Option R :=
    K (Err.wrap 93 [] (Err.leaf 82 [v1]) [])

def wire_bad {R : Type} (v1 : Int) (K : Err → Option R) : Option R := wire_bad_b v1 K

def octet_Put_l4_b {R : Type} (l_4 : Int → ((List Int) → Option R) → Int → Int → (List Int) → Option R) (v5 : Int) (Ke0 : (List Int) → Option R) (v4 : Int) (v6 : Int) (v7 : (List Int)) : Option R :=
    bif decide (v6 < v5) then
    (gd (decide (v7.length + ([(IntKind.u8.wrap v4)] : List Int).length < SMALL))
     (l_4 v5 Ke0 (shr .u64 v4 8) (IntKind.i64.wrap (v6 + 1)) (v7 ++ ([(IntKind.u8.wrap v4)] : List Int))))
    else (Ke0 v7)

def octet_Put_b {R : Type} (l_4 : Int → ((List Int) → Option R) → Int → Int → (List Int) → Option R) (v1 : (List Int)) (v2 : Int) (v3 : Int) (K : (List Int) → Option R) : Option R :=
    gd (decide (0 ≤ (IntKind.i64.wrap ((v1.length : Int) + (mn (mx v3 0) 8)))))
    (gd (decide ((IntKind.i64.wrap ((v1.length : Int) + (mn (mx v3 0) 8))) < (SMALL : Int)))
     (gd (decide ((List.replicate 0 (0 : Int)).length + v1.length < SMALL))
      (l_4 (mn (mx v3 0) 8)
       (fun (v8 : (List Int)) =>
        K v8) v2 0 ((List.replicate 0 (0 : Int)) ++ v1))))

def octet_Put_l4 {R : Type} (kf : Nat) : Nat → Int → ((List Int) → Option R) → Int → Int → (List Int) → Option R
  | 0, _, _, _, _, _ => none
  | k + 1, y0, y1, y2, y3, y4 => octet_Put_l4_b (octet_Put_l4 kf k) y0 y1 y2 y3 y4

def octet_Put {R : Type} (kf : Nat) (v1 : (List Int)) (v2 : Int) (v3 : Int) (K : (List Int) → Option R) : Option R := octet_Put_b (octet_Put_l4 kf kf) v1 v2 v3 K

def wire_writer_num_b {R : Type} (c_wire_bad : Int → (Err → Option R) → Option R) (c_octet_Put : (List Int) → Int → Int → ((List Int) → Option R) → Option R) (v1 : Int) (v2 : Int) (v3 : Int) (v4 : Err) (v5 : (List Int)) (K : Err → (List Int) → Option R) : Option R :=
    let j8 : Err → Option R := fun v6 =>
    (c_octet_Put v5 (IntKind.u64.wrap v1) v3 (fun (v7 : (List Int)) =>
      K v6 v7))
    (let j11 : Bool → Option R := fun v9 =>
     (bif v9 then
      (c_wire_bad 1 (fun (v10 : Err) =>
        j8 v10))
      else (j8 v4))
     (bif decide (v1 < 0) then
      (j11 true)
      else (j11 (decide (v2 < v1)))))

def wire_writer_num {R : Type} (kf : Nat) (v1 : Int) (v2 : Int) (v3 : Int) (v4 : Err) (v5 : (List Int)) (K : Err → (List Int) → Option R) : Option R := wire_writer_num_b wire_bad (octet_Put kf) v1 v2 v3 v4 v5 K

def octet_Text_b {R : Type} (c_octet_Put : (List Int) → Int → Int → ((List Int) → Option R) → Option R) (v1 : (List Int)) (v2 : (List Int)) (K : (List Int) → Option R) : Option R :=
    c_octet_Put v1 (IntKind.u64.wrap (v2.length : Int)) 2 (fun (v3 : (List Int)) =>
     gd (decide (v3.length + v2.length < SMALL))
     (K (v3 ++ v2)))

def octet_Text {R : Type} (kf : Nat) (v1 : (List Int)) (v2 : (List Int)) (K : (List Int) → Option R) : Option R := octet_Text_b (octet_Put kf) v1 v2 K

def wire_writer_text_b {R : Type} (c_wire_bad : Int → (Err → Option R) → Option R) (c_octet_Text : (List Int) → (List Int) → ((List Int) → Option R) → Option R) (v1 : (List Int)) (v2 : Err) (v3 : (List Int)) (K : Err → (List Int) → Option R) : Option R :=
    bif decide (1000 < (v1.length : Int)) then
    (c_wire_bad 1 (fun (v4 : Err) =>
      K v4 v3))
    else (c_octet_Text v3 v1 (fun (v5 : (List Int)) =>
      K v2 v5))

def wire_writer_text {R : Type} (kf : Nat) (v1 : (List Int)) (v2 : Err) (v3 : (List Int)) (K : Err → (List Int) → Option R) : Option R := wire_writer_text_b wire_bad (octet_Text kf) v1 v2 v3 K

def wire_writer_cmd_l25_b {R : Type} (c_wire_rest : Int → (List Int) → (List Int) → (List Int) → Int → (List Int) → Int → (List (Rose (Int × ((List Int) × ((List Int) × ((List Int) × (Int × ((List Int) × (Int × Unit))))))))) → (Int → (List Int) → (List Int) → (List Int) → Int → (List Int) → Int → (List (Rose (Int × ((List Int) × ((List Int) × ((List Int) × (Int × ((List Int) × (Int × Unit))))))))) → Option R) → Option R) (c_wire_blank : Int → (List Int) → (List Int) → (List Int) → Int → (List Int) → Int → (List (Rose (Int × ((List Int) × ((List Int) × ((List Int) × (Int × ((List Int) × (Int × Unit))))))))) → (Bool → Option R) → Option R) (c_wire_bad : Int → (Err → Option R) → Option R) (c_wire_writer_num : Int → Int → Int → Err → (List Int) → (Err → (List Int) → Option R) → Option R) (c_wire_writer_text : (List Int) → Err → (List Int) → (Err → (List Int) → Option R) → Option R) (c_wire_writer_cmd : Int → (List Int) → (List Int) → (List Int) → Int → (List Int) → Int → (List (Rose (Int × ((List Int) × ((List Int) × ((List Int) × (Int × ((List Int) × (Int × Unit))))))))) → Bool → Err → (List Int) → (Err → (List Int) → Option R) → Option R) (l_25 : (List (Rose (Int × ((List Int) × ((List Int) × ((List Int) × (Int × ((List Int) × (Int × Unit))))))))) → Int → (Err → (List Int) → Option R) → Int → Err → (List Int) → Option R) (v40 : (List (Rose (Int × ((List Int) × ((List Int) × ((List Int) × (Int × ((List Int) × (Int × Unit)))))))))) (v41 : Int) (Ke8 : Err → (List Int) → Option R) (v42 : Int) (v43 : Err) (v44 : (List Int)) : Option R :=
    bif decide (v42 < v41) then
    (gd (decide (0 ≤ v42))
     (gd (decide (v42 < (v40.length : Int)))
      (c_wire_writer_cmd ((Rose.lab (v40.getD (Int.toNat v42) (Rose.node ((0 : Int), (([] : List Int), (([] : List Int), (([] : List Int), ((0 : Int), (([] : (List Int)), ((0 : Int), ()))))))) [] : (Rose (Int × ((List Int) × ((List Int) × ((List Int) × (Int × ((List Int) × (Int × Unit))))))))))).1) ((Rose.lab (v40.getD (Int.toNat v42) (Rose.node ((0 : Int), (([] : List Int), (([] : List Int), (([] : List Int), ((0 : Int), (([] : (List Int)), ((0 : Int), ()))))))) [] : (Rose (Int × ((List Int) × ((List Int) × ((List Int) × (Int × ((List Int) × (Int × Unit))))))))))).2.1) ((Rose.lab (v40.getD (Int.toNat v42) (Rose.node ((0 : Int), (([] : List Int), (([] : List Int), (([] : List Int), ((0 : Int), (([] : (List Int)), ((0 : Int), ()))))))) [] : (Rose (Int × ((List Int) × ((List Int) × ((List Int) × (Int × ((List Int) × (Int × Unit))))))))))).2.2.1) ((Rose.lab (v40.getD (Int.toNat v42) (Rose.node ((0 : Int), (([] : List Int), (([] : List Int), (([] : List Int), ((0 : Int), (([] : (List Int)), ((0 : Int), ()))))))) [] : (Rose (Int × ((List Int) × ((List Int) × ((List Int) × (Int × ((List Int) × (Int × Unit))))))))))).2.2.2.1) ((Rose.lab (v40.getD (Int.toNat v42) (Rose.node ((0 : Int), (([] : List Int), (([] : List Int), (([] : List Int), ((0 : Int), (([] : (List Int)), ((0 : Int), ()))))))) [] : (Rose (Int × ((List Int) × ((List Int) × ((List Int) × (Int × ((List Int) × (Int × Unit))))))))))).2.2.2.2.1) ((Rose.lab (v40.getD (Int.toNat v42) (Rose.node ((0 : Int), (([] : List Int), (([] : List Int), (([] : List Int), ((0 : Int), (([] : (List Int)), ((0 : Int), ()))))))) [] : (Rose (Int × ((List Int) × ((List Int) × ((List Int) × (Int × ((List Int) × (Int × Unit))))))))))).2.2.2.2.2.1) ((Rose.lab (v40.getD (Int.toNat v42) (Rose.node ((0 : Int), (([] : List Int), (([] : List Int), (([] : List Int), ((0 : Int), (([] : (List Int)), ((0 : Int), ()))))))) [] : (Rose (Int × ((List Int) × ((List Int) × ((List Int) × (Int × ((List Int) × (Int × Unit))))))))))).2.2.2.2.2.2.1) (Rose.kids (v40.getD (Int.toNat v42) (Rose.node ((0 : Int), (([] : List Int), (([] : List Int), (([] : List Int), ((0 : Int), (([] : (List Int)), ((0 : Int), ()))))))) [] : (Rose (Int × ((List Int) × ((List Int) × ((List Int) × (Int × ((List Int) × (Int × Unit))))))))))) true v43 v44 (fun (v45 : Err) (v46 : (List Int)) =>
        l_25 v40 v41 Ke8 (IntKind.i64.wrap (v42 + 1)) v45 v46))))
    else (Ke8 v43 v44)

def wire_writer_cmd_b {R : Type} (c_wire_rest : Int → (List Int) → (List Int) → (List Int) → Int → (List Int) → Int → (List (Rose (Int × ((List Int) × ((List Int) × ((List Int) × (Int × ((List Int) × (Int × Unit))))))))) → (Int → (List Int) → (List Int) → (List Int) → Int → (List Int) → Int → (List (Rose (Int × ((List Int) × ((List Int) × ((List Int) × (Int × ((List Int) × (Int × Unit))))))))) → Option R) → Option R) (c_wire_blank : Int → (List Int) → (List Int) → (List Int) → Int → (List Int) → Int → (List (Rose (Int × ((List Int) × ((List Int) × ((List Int) × (Int × ((List Int) × (Int × Unit))))))))) → (Bool → Option R) → Option R) (c_wire_bad : Int → (Err → Option R) → Option R) (c_wire_writer_num : Int → Int → Int → Err → (List Int) → (Err → (List Int) → Option R) → Option R) (c_wire_writer_text : (List Int) → Err → (List Int) → (Err → (List Int) → Option R) → Option R) (c_wire_writer_cmd : Int → (List Int) → (List Int) → (List Int) → Int → (List Int) → Int → (List (Rose (Int × ((List Int) × ((List Int) × ((List Int) × (Int × ((List Int) × (Int × Unit))))))))) → Bool → Err → (List Int) → (Err → (List Int) → Option R) → Option R) (l_25 : (List (Rose (Int × ((List Int) × ((List Int) × ((List Int) × (Int × ((List Int) × (Int × Unit))))))))) → Int → (Err → (List Int) → Option R) → Int → Err → (List Int) → Option R) (v1 : Int) (v2 : (List Int)) (v3 : (List Int)) (v4 : (List Int)) (v5 : Int) (v6 : (List Int)) (v7 : Int) (v8 : (List (Rose (Int × ((List Int) × ((List Int) × ((List Int) × (Int × ((List Int) × (Int × Unit)))))))))) (v9 : Bool) (v10 : Err) (v11 : (List Int)) (K : Err → (List Int) → Option R) : Option R :=
    let j50 : Bool → Option R := fun v12 =>
    (bif v12 then
     (c_wire_bad 1 (fun (v13 : Err) =>
       K v13 v11))
     else (c_wire_writer_num v1 255 1 v10 v11 (fun (v14 : Err) (v15 : (List Int)) =>
       let j18 : Option R :=
       (c_wire_writer_text v2 v14 v15 (fun (v16 : Err) (v17 : (List Int)) =>
         K v16 v17))
       (let j23 : Option R :=
        (c_wire_writer_text v2 v14 v15 (fun (v19 : Err) (v20 : (List Int)) =>
          c_wire_writer_text v4 v19 v20 (fun (v21 : Err) (v22 : (List Int)) =>
           K v21 v22)))
        (bif decide (v1 = 1) then
         (j23)
         else (bif decide (v1 = 2) then
          (j23)
          else (let j49 : Option R :=
           (bif decide (v1 = 4) then
            (c_wire_writer_num v5 255 1 v14 v15 (fun (v24 : Err) (v25 : (List Int)) =>
              c_wire_writer_text v2 v24 v25 (fun (v26 : Err) (v27 : (List Int)) =>
               c_wire_writer_text v3 v26 v27 (fun (v28 : Err) (v29 : (List Int)) =>
                K v28 v29))))
            else (bif decide (v1 = 5) then
             (c_wire_writer_text v2 v14 v15 (fun (v30 : Err) (v31 : (List Int)) =>
               c_wire_writer_text v6 v30 v31 (fun (v32 : Err) (v33 : (List Int)) =>
                K v32 v33)))
             else (bif decide (v1 = 7) then
              (c_wire_writer_text v2 v14 v15 (fun (v34 : Err) (v35 : (List Int)) =>
                c_wire_writer_num v7 65535 2 v34 v35 (fun (v36 : Err) (v37 : (List Int)) =>
                 K v36 v37)))
              else (bif decide (v1 = 8) then
               (c_wire_writer_num (v8.length : Int) 20 1 v14 v15 (fun (v38 : Err) (v39 : (List Int)) =>
                 gd (decide (0 ≤ (mn (v8.length : Int) 20)))
                 (gd (decide ((mn (v8.length : Int) 20) ≤ (v8.length : Int)))
                  (l_25 (v8.take (Int.toNat (mn (v8.length : Int) 20))) ((v8.take (Int.toNat (mn (v8.length : Int) 20))).length : Int)
                   (fun (v47 : Err) (v48 : (List Int)) =>
                    K v47 v48) 0 v38 v39))))
               else (K v14 v15)))))
           (bif decide (v1 = 3) then
            (bif decide (v1 = 3) then
             (j18)
             else (j49))
            else (bif decide (v1 = 6) then
             (j18)
             else (j49))))))))))
    (bif decide (v1 < 1) then
     (j50 true)
     else (bif decide (8 < v1) then
      (j50 true)
      else (bif v9 then
       (bif decide (v1 = 8) then
        (j50 true)
        else (c_wire_rest v1 v2 v3 v4 v5 v6 v7 v8 (fun (v51 : Int) (v52 : (List Int)) (v53 : (List Int)) (v54 : (List Int)) (v55 : Int) (v56 : (List Int)) (v57 : Int) (v58 : (List (Rose (Int × ((List Int) × ((List Int) × ((List Int) × (Int × ((List Int) × (Int × Unit)))))))))) =>
          c_wire_blank v51 v52 v53 v54 v55 v56 v57 v58 (fun (v59 : Bool) =>
           j50 (!v59)))))
       else (c_wire_rest v1 v2 v3 v4 v5 v6 v7 v8 (fun (v60 : Int) (v61 : (List Int)) (v62 : (List Int)) (v63 : (List Int)) (v64 : Int) (v65 : (List Int)) (v66 : Int) (v67 : (List (Rose (Int × ((List Int) × ((List Int) × ((List Int) × (Int × ((List Int) × (Int × Unit)))))))))) =>
         c_wire_blank v60 v61 v62 v63 v64 v65 v66 v67 (fun (v68 : Bool) =>
          j50 (!v68)))))))

def wire_writer_cmd_l25 {R : Type} (c_self : Int → (List Int) → (List Int) → (List Int) → Int → (List Int) → Int → (List (Rose (Int × ((List Int) × ((List Int) × ((List Int) × (Int × ((List Int) × (Int × Unit))))))))) → Bool → Err → (List Int) → (Err → (List Int) → Option R) → Option R) (kf : Nat) : Nat → (List (Rose (Int × ((List Int) × ((List Int) × ((List Int) × (Int × ((List Int) × (Int × Unit))))))))) → Int → (Err → (List Int) → Option R) → Int → Err → (List Int) → Option R
  | 0, _, _, _, _, _, _ => none
  | k + 1, y0, y1, y2, y3, y4, y5 => wire_writer_cmd_l25_b wire_rest wire_blank wire_bad (wire_writer_num kf) (wire_writer_text kf) c_self (wire_writer_cmd_l25 c_self kf k) y0 y1 y2 y3 y4 y5

def wire_writer_cmd {R : Type} : Nat → Int → (List Int) → (List Int) → (List Int) → Int → (List Int) → Int → (List (Rose (Int × ((List Int) × ((List Int) × ((List Int) × (Int × ((List Int) × (Int × Unit))))))))) → Bool → Err → (List Int) → (Err → (List Int) → Option R) → Option R
  | 0, _, _, _, _, _, _, _, _, _, _, _, _ => none
  | kf + 1, y0, y1, y2, y3, y4, y5, y6, y7, y8, y9, y10, y11 => wire_writer_cmd_b wire_rest wire_blank wire_bad (wire_writer_num kf) (wire_writer_text kf) (wire_writer_cmd kf) (wire_writer_cmd_l25 (wire_writer_cmd kf) kf kf) y0 y1 y2 y3 y4 y5 y6 y7 y8 y9 y10 y11

def wire_code_b {R : Type} (v1 : Err) (K : Int → Option R) : Option R :=
    gd (Err.fit [(82, 1)] [(93, 0, 0)] v1)
    (optK (Err.find 82 v1) (fun (v2 : Err) =>
      K (Err.num 0 v2))
     (K 0))

def wire_code {R : Type} (v1 : Err) (K : Int → Option R) : Option R := wire_code_b v1 K

def wire_PutCmd_b {R : Type} (c_wire_writer_cmd : Int → (List Int) → (List Int) → (List Int) → Int → (List Int) → Int → (List (Rose (Int × ((List Int) × ((List Int) × ((List Int) × (Int × ((List Int) × (Int × Unit))))))))) → Bool → Err → (List Int) → (Err → (List Int) → Option R) → Option R) (c_wire_code : Err → (Int → Option R) → Option R) (v1 : (List Int)) (v2 : Int) (v3 : (List Int)) (v4 : (List Int)) (v5 : (List Int)) (v6 : Int) (v7 : (List Int)) (v8 : Int) (v9 : (List (Rose (Int × ((List Int) × ((List Int) × ((List Int) × (Int × ((List Int) × (Int × Unit)))))))))) (K : Int → (List Int) → Option R) : Option R :=
    c_wire_writer_cmd v2 v3 v4 v5 v6 v7 v8 v9 false Err.nil ([] : List Int) (fun (v10 : Err) (v11 : (List Int)) =>
     bif (!(Err.isNil v10)) then
     (c_wire_code v10 (fun (v12 : Int) =>
       K v12 ([] : List Int)))
     else (gd (decide (([] : List Int).length + v1.length < SMALL))
      (gd (decide ((([] : List Int) ++ v1).length + v11.length < SMALL))
       (K 0 ((([] : List Int) ++ v1) ++ v11)))))

def wire_PutCmd {R : Type} (kf : Nat) (v1 : (List Int)) (v2 : Int) (v3 : (List Int)) (v4 : (List Int)) (v5 : (List Int)) (v6 : Int) (v7 : (List Int)) (v8 : Int) (v9 : (List (Rose (Int × ((List Int) × ((List Int) × ((List Int) × (Int × ((List Int) × (Int × Unit)))))))))) (K : Int → (List Int) → Option R) : Option R := wire_PutCmd_b (wire_writer_cmd kf) wire_code v1 v2 v3 v4 v5 v6 v7 v8 v9 K

def octet_Take_b {R : Type} (v1 : (List Int)) (v2 : Int) (v3 : Int) (K : Int → Int → Option R) : Option R :=
    let j31 : Bool → Option R := fun v4 =>
    (bif v4 then
     (K 0 1)
     else (let j30 : Bool → Option R := fun v5 =>
      (bif v5 then
       (K 0 2)
       else (gd (decide (0 ≤ (IntKind.i64.wrap (v2 + v3))))
        (gd (decide ((IntKind.i64.wrap (v2 + v3)) ≤ (v1.length : Int)))
         (gd (decide (0 ≤ (IntKind.i64.wrap (v2 + v3))))
          (gd (decide ((IntKind.i64.wrap (v2 + v3)) ≤ (IntKind.i64.wrap (v2 + v3))))
           (gd (decide (0 ≤ v2))
            (gd (decide (v2 ≤ (IntKind.i64.wrap (v2 + v3))))
             (let j7 : Int → Option R := fun v6 =>
              (K v6 0)
              (let j10 : Int → Option R := fun v8 =>
               (gd (decide (0 < (((v1.drop (Int.toNat v2)).take ((Int.toNat (IntKind.i64.wrap (v2 + v3))) - (Int.toNat v2))).length : Int)))
                (let v9 : Int := (bvop .u64 .or v8 (IntKind.u64.wrap (((v1.drop (Int.toNat v2)).take ((Int.toNat (IntKind.i64.wrap (v2 + v3))) - (Int.toNat v2))).getD 0 (0 : Int))))
                 j7 v9))
               (let j13 : Int → Option R := fun v11 =>
                (gd (decide (1 < (((v1.drop (Int.toNat v2)).take ((Int.toNat (IntKind.i64.wrap (v2 + v3))) - (Int.toNat v2))).length : Int)))
                 (let v12 : Int := (bvop .u64 .or v11 (shl .u64 (IntKind.u64.wrap (((v1.drop (Int.toNat v2)).take ((Int.toNat (IntKind.i64.wrap (v2 + v3))) - (Int.toNat v2))).getD 1 (0 : Int))) 8))
                  j10 v12))
                (let j16 : Int → Option R := fun v14 =>
                 (gd (decide (2 < (((v1.drop (Int.toNat v2)).take ((Int.toNat (IntKind.i64.wrap (v2 + v3))) - (Int.toNat v2))).length : Int)))
                  (let v15 : Int := (bvop .u64 .or v14 (shl .u64 (IntKind.u64.wrap (((v1.drop (Int.toNat v2)).take ((Int.toNat (IntKind.i64.wrap (v2 + v3))) - (Int.toNat v2))).getD 2 (0 : Int))) 16))
                   j13 v15))
                 (let j19 : Int → Option R := fun v17 =>
                  (gd (decide (3 < (((v1.drop (Int.toNat v2)).take ((Int.toNat (IntKind.i64.wrap (v2 + v3))) - (Int.toNat v2))).length : Int)))
                   (let v18 : Int := (bvop .u64 .or v17 (shl .u64 (IntKind.u64.wrap (((v1.drop (Int.toNat v2)).take ((Int.toNat (IntKind.i64.wrap (v2 + v3))) - (Int.toNat v2))).getD 3 (0 : Int))) 24))
                    j16 v18))
                  (let j22 : Int → Option R := fun v20 =>
                   (gd (decide (4 < (((v1.drop (Int.toNat v2)).take ((Int.toNat (IntKind.i64.wrap (v2 + v3))) - (Int.toNat v2))).length : Int)))
                    (let v21 : Int := (bvop .u64 .or v20 (shl .u64 (IntKind.u64.wrap (((v1.drop (Int.toNat v2)).take ((Int.toNat (IntKind.i64.wrap (v2 + v3))) - (Int.toNat v2))).getD 4 (0 : Int))) 32))
                     j19 v21))
                   (let j25 : Int → Option R := fun v23 =>
                    (gd (decide (5 < (((v1.drop (Int.toNat v2)).take ((Int.toNat (IntKind.i64.wrap (v2 + v3))) - (Int.toNat v2))).length : Int)))
                     (let v24 : Int := (bvop .u64 .or v23 (shl .u64 (IntKind.u64.wrap (((v1.drop (Int.toNat v2)).take ((Int.toNat (IntKind.i64.wrap (v2 + v3))) - (Int.toNat v2))).getD 5 (0 : Int))) 40))
                      j22 v24))
                    (let j28 : Int → Option R := fun v26 =>
                     (gd (decide (6 < (((v1.drop (Int.toNat v2)).take ((Int.toNat (IntKind.i64.wrap (v2 + v3))) - (Int.toNat v2))).length : Int)))
                      (let v27 : Int := (bvop .u64 .or v26 (shl .u64 (IntKind.u64.wrap (((v1.drop (Int.toNat v2)).take ((Int.toNat (IntKind.i64.wrap (v2 + v3))) - (Int.toNat v2))).getD 6 (0 : Int))) 48))
                       j25 v27))
                     (bif decide (v3 = 8) then
                      (gd (decide (7 < (((v1.drop (Int.toNat v2)).take ((Int.toNat (IntKind.i64.wrap (v2 + v3))) - (Int.toNat v2))).length : Int)))
                       (let v29 : Int := (shl .u64 (IntKind.u64.wrap (((v1.drop (Int.toNat v2)).take ((Int.toNat (IntKind.i64.wrap (v2 + v3))) - (Int.toNat v2))).getD 7 (0 : Int))) 56)
                        j28 v29))
                      else (bif decide (v3 = 7) then
                       (j28 0)
                       else (bif decide (v3 = 6) then
                        (j25 0)
                        else (bif decide (v3 = 5) then
                         (j22 0)
                         else (bif decide (v3 = 4) then
                          (j19 0)
                          else (bif decide (v3 = 3) then
                           (j16 0)
                           else (bif decide (v3 = 2) then
                            (j13 0)
                            else (bif decide (v3 = 1) then
                             (j10 0)
                             else (j7 0))))))))))))))))))))))))
      (bif decide ((v1.length : Int) < v2) then
       (j30 (decide ((v1.length : Int) < v2)))
       else (j30 (decide ((IntKind.i64.wrap ((v1.length : Int) - v2)) < v3))))))
    (bif decide (v2 < 0) then
     (j31 (decide (v2 < 0)))
     else (bif decide (v3 < 0) then
      (j31 (decide (v3 < 0)))
      else (j31 (decide (8 < v3)))))

def octet_Take {R : Type} (v1 : (List Int)) (v2 : Int) (v3 : Int) (K : Int → Int → Option R) : Option R := octet_Take_b v1 v2 v3 K

def wire_reader_fails_b {R : Type} (c_wire_bad : Int → (Err → Option R) → Option R) (v1 : Int) (v2 : (List Int)) (v3 : Err) (K : (List Int) → Err → Option R) : Option R :=
    bif (Err.isNil v3) then
    (c_wire_bad v1 (fun (v4 : Err) =>
      K v2 v4))
    else (K v2 v3)

def wire_reader_fails {R : Type} (v1 : Int) (v2 : (List Int)) (v3 : Err) (K : (List Int) → Err → Option R) : Option R := wire_reader_fails_b wire_bad v1 v2 v3 K

def wire_reader_num_b {R : Type} (c_octet_Take : (List Int) → Int → Int → (Int → Int → Option R) → Option R) (c_wire_reader_fails : Int → (List Int) → Err → ((List Int) → Err → Option R) → Option R) (v1 : Int) (v2 : (List Int)) (v3 : Err) (K : Int → (List Int) → Err → Option R) : Option R :=
    bif (!(Err.isNil v3)) then
    (K 0 v2 v3)
    else (c_octet_Take v2 0 v1 (fun (v4 : Int) (v5 : Int) =>
      bif (!(decide (v5 = 0))) then
      (c_wire_reader_fails v5 v2 v3 (fun (v6 : (List Int)) (v7 : Err) =>
        K 0 v6 v7))
      else (gd (decide (0 ≤ v1))
       (gd (decide (v1 ≤ (v2.length : Int)))
        (K (IntKind.i64.wrap v4) (v2.drop (Int.toNat v1)) v3)))))

def wire_reader_num {R : Type} (v1 : Int) (v2 : (List Int)) (v3 : Err) (K : Int → (List Int) → Err → Option R) : Option R := wire_reader_num_b octet_Take wire_reader_fails v1 v2 v3 K

def octet_TakeText_b {R : Type} (c_octet_Take : (List Int) → Int → Int → (Int → Int → Option R) → Option R) (v1 : (List Int)) (v2 : Int) (K : Int → Int → (List Int) → Option R) : Option R :=
    c_octet_Take v1 0 2 (fun (v3 : Int) (v4 : Int) =>
     bif (!(decide (v4 = 0))) then
     (K 0 v4 ([] : List Int))
     else (bif decide (v2 < (IntKind.i64.wrap v3)) then
      (K 0 4 ([] : List Int))
      else (bif decide ((v1.length : Int) < (IntKind.i64.wrap (2 + (IntKind.i64.wrap v3)))) then
       (K 0 2 ([] : List Int))
       else (gd (decide (0 ≤ (IntKind.i64.wrap (2 + (IntKind.i64.wrap v3)))))
        (gd (decide ((IntKind.i64.wrap (2 + (IntKind.i64.wrap v3))) ≤ (v1.length : Int)))
         (gd (decide (0 ≤ (IntKind.i64.wrap (2 + (IntKind.i64.wrap v3)))))
          (gd (decide ((IntKind.i64.wrap (2 + (IntKind.i64.wrap v3))) ≤ (IntKind.i64.wrap (2 + (IntKind.i64.wrap v3)))))
           (gd (decide (2 ≤ (IntKind.i64.wrap (2 + (IntKind.i64.wrap v3)))))
            (gd (decide (([] : List Int).length + ((v1.drop 2).take ((Int.toNat (IntKind.i64.wrap (2 + (IntKind.i64.wrap v3)))) - 2)).length < SMALL))
             (K (IntKind.i64.wrap (2 + (IntKind.i64.wrap v3))) 0 (([] : List Int) ++ ((v1.drop 2).take ((Int.toNat (IntKind.i64.wrap (2 + (IntKind.i64.wrap v3)))) - 2)))))))))))))

def octet_TakeText {R : Type} (v1 : (List Int)) (v2 : Int) (K : Int → Int → (List Int) → Option R) : Option R := octet_TakeText_b octet_Take v1 v2 K

def wire_reader_text_b {R : Type} (c_octet_TakeText : (List Int) → Int → (Int → Int → (List Int) → Option R) → Option R) (c_wire_reader_fails : Int → (List Int) → Err → ((List Int) → Err → Option R) → Option R) (v1 : (List Int)) (v2 : Err) (K : (List Int) → (List Int) → Err → Option R) : Option R :=
    bif (!(Err.isNil v2)) then
    (K ([]) v1 v2)
    else (c_octet_TakeText v1 1000 (fun (v3 : Int) (v4 : Int) (v5 : (List Int)) =>
      bif (!(decide (v4 = 0))) then
      (c_wire_reader_fails v4 v1 v2 (fun (v6 : (List Int)) (v7 : Err) =>
        K ([]) v6 v7))
      else (gd (decide (0 ≤ v3))
       (gd (decide (v3 ≤ (v1.length : Int)))
        (K v5 (v1.drop (Int.toNat v3)) v2)))))

def wire_reader_text {R : Type} (v1 : (List Int)) (v2 : Err) (K : (List Int) → (List Int) → Err → Option R) : Option R := wire_reader_text_b octet_TakeText wire_reader_fails v1 v2 K

def wire_reader_cmd_l27_b {R : Type} (c_wire_reader_num : Int → (List Int) → Err → (Int → (List Int) → Err → Option R) → Option R) (c_wire_reader_text : (List Int) → Err → ((List Int) → (List Int) → Err → Option R) → Option R) (c_wire_reader_fails : Int → (List Int) → Err → ((List Int) → Err → Option R) → Option R) (c_wire_reader_cmd : Bool → (List Int) → Err → (Int → (List Int) → (List Int) → (List Int) → Int → Int → (List Int) → Err → (List Int) → (List (Rose (Int × ((List Int) × ((List Int) × ((List Int) × (Int × ((List Int) × (Int × Unit))))))))) → Option R) → Option R) (l_27 : Int → Int → (List Int) → (List Int) → (List Int) → Int → Int → Int → (List Int) → (List Int) → (List Int) → Int → Int → (List Int) → (List (Rose (Int × ((List Int) × ((List Int) × ((List Int) × (Int × ((List Int) × (Int × Unit))))))))) → (List Int) → ((List Int) → Err → Int → (List Int) → (List Int) → (List Int) → Int → Int → Int → (List Int) → (List Int) → (List Int) → Int → Int → (List Int) → (List (Rose (Int × ((List Int) × ((List Int) × ((List Int) × (Int × ((List Int) × (Int × Unit))))))))) → (List Int) → (List (Rose (Int × ((List Int) × ((List Int) × ((List Int) × (Int × ((List Int) × (Int × Unit))))))))) → Option R) → Int → (List Int) → Err → (List (Rose (Int × ((List Int) × ((List Int) × ((List Int) × (Int × ((List Int) × (Int × Unit))))))))) → Option R) (v46 : Int) (v50 : Int) (v51 : (List Int)) (v52 : (List Int)) (v53 : (List Int)) (v54 : Int) (v55 : Int) (v56 : Int) (v57 : (List Int)) (v58 : (List Int)) (v59 : (List Int)) (v60 : Int) (v61 : Int) (v62 : (List Int)) (v63 : (List (Rose (Int × ((List Int) × ((List Int) × ((List Int) × (Int × ((List Int) × (Int × Unit)))))))))) (v64 : (List Int)) (Ke9 : (List Int) → Err → Int → (List Int) → (List Int) → (List Int) → Int → Int → Int → (List Int) → (List Int) → (List Int) → Int → Int → (List Int) → (List (Rose (Int × ((List Int) × ((List Int) × ((List Int) × (Int × ((List Int) × (Int × Unit))))))))) → (List Int) → (List (Rose (Int × ((List Int) × ((List Int) × ((List Int) × (Int × ((List Int) × (Int × Unit))))))))) → Option R) (v47 : Int) (v48 : (List Int)) (v49 : Err) (v65 : (List (Rose (Int × ((List Int) × ((List Int) × ((List Int) × (Int × ((List Int) × (Int × Unit)))))))))) : Option R :=
    bif decide (v47 < v46) then
    (bif (Err.isNil v49) then
     (c_wire_reader_cmd true v48 v49 (fun (v66 : Int) (v67 : (List Int)) (v68 : (List Int)) (v69 : (List Int)) (v70 : Int) (v71 : Int) (v72 : (List Int)) (v73 : Err) (v74 : (List Int)) (v75 : (List (Rose (Int × ((List Int) × ((List Int) × ((List Int) × (Int × ((List Int) × (Int × Unit)))))))))) =>
       gd (decide (v65.length + ([(Rose.node (v66, v67, v68, v69, v70, v74, v71, ()) v75)] : List (Rose (Int × ((List Int) × ((List Int) × ((List Int) × (Int × ((List Int) × (Int × Unit))))))))).length < SMALL))
       (l_27 v46 v50 v51 v52 v53 v54 v55 v56 v57 v58 v59 v60 v61 v62 v63 v64 Ke9 (IntKind.i64.wrap (v47 + 1)) v72 v73 (v65 ++ ([(Rose.node (v66, v67, v68, v69, v70, v74, v71, ()) v75)] : List (Rose (Int × ((List Int) × ((List Int) × ((List Int) × (Int × ((List Int) × (Int × Unit)))))))))))))
     else (l_27 v46 v50 v51 v52 v53 v54 v55 v56 v57 v58 v59 v60 v61 v62 v63 v64 Ke9 (IntKind.i64.wrap (v47 + 1)) v48 v49 v65))
    else (Ke9 v48 v49 v50 v51 v52 v53 v54 v55 v56 v57 v58 v59 v60 v61 v62 v63 v64 v65)

def wire_reader_cmd_b {R : Type} (c_wire_reader_num : Int → (List Int) → Err → (Int → (List Int) → Err → Option R) → Option R) (c_wire_reader_text : (List Int) → Err → ((List Int) → (List Int) → Err → Option R) → Option R) (c_wire_reader_fails : Int → (List Int) → Err → ((List Int) → Err → Option R) → Option R) (c_wire_reader_cmd : Bool → (List Int) → Err → (Int → (List Int) → (List Int) → (List Int) → Int → Int → (List Int) → Err → (List Int) → (List (Rose (Int × ((List Int) × ((List Int) × ((List Int) × (Int × ((List Int) × (Int × Unit))))))))) → Option R) → Option R) (l_27 : Int → Int → (List Int) → (List Int) → (List Int) → Int → Int → Int → (List Int) → (List Int) → (List Int) → Int → Int → (List Int) → (List (Rose (Int × ((List Int) × ((List Int) × ((List Int) × (Int × ((List Int) × (Int × Unit))))))))) → (List Int) → ((List Int) → Err → Int → (List Int) → (List Int) → (List Int) → Int → Int → Int → (List Int) → (List Int) → (List Int) → Int → Int → (List Int) → (List (Rose (Int × ((List Int) × ((List Int) × ((List Int) × (Int × ((List Int) × (Int × Unit))))))))) → (List Int) → (List (Rose (Int × ((List Int) × ((List Int) × ((List Int) × (Int × ((List Int) × (Int × Unit))))))))) → Option R) → Int → (List Int) → Err → (List (Rose (Int × ((List Int) × ((List Int) × ((List Int) × (Int × ((List Int) × (Int × Unit))))))))) → Option R) (v1 : Bool) (v2 : (List Int)) (v3 : Err) (K : Int → (List Int) → (List Int) → (List Int) → Int → Int → (List Int) → Err → (List Int) → (List (Rose (Int × ((List Int) × ((List Int) × ((List Int) × (Int × ((List Int) × (Int × Unit))))))))) → Option R) : Option R :=
    c_wire_reader_num 1 v2 v3 (fun (v4 : Int) (v5 : (List Int)) (v6 : Err) =>
     let j10 : Option R :=
     (c_wire_reader_text v5 v6 (fun (v7 : (List Int)) (v8 : (List Int)) (v9 : Err) =>
       K v4 v7 ([]) ([]) 0 0 v8 v9 ([] : List Int) ([] : List (Rose (Int × ((List Int) × ((List Int) × ((List Int) × (Int × ((List Int) × (Int × Unit)))))))))))
     (let j17 : Option R :=
      (c_wire_reader_text v5 v6 (fun (v11 : (List Int)) (v12 : (List Int)) (v13 : Err) =>
        c_wire_reader_text v12 v13 (fun (v14 : (List Int)) (v15 : (List Int)) (v16 : Err) =>
         K v4 v11 ([]) v14 0 0 v15 v16 ([] : List Int) ([] : List (Rose (Int × ((List Int) × ((List Int) × ((List Int) × (Int × ((List Int) × (Int × Unit))))))))))))
      (bif decide (v4 = 1) then
       (j17)
       else (bif decide (v4 = 2) then
        (j17)
        else (let j99 : Option R :=
         (bif decide (v4 = 4) then
          (c_wire_reader_num 1 v5 v6 (fun (v18 : Int) (v19 : (List Int)) (v20 : Err) =>
            c_wire_reader_text v19 v20 (fun (v21 : (List Int)) (v22 : (List Int)) (v23 : Err) =>
             c_wire_reader_text v22 v23 (fun (v24 : (List Int)) (v25 : (List Int)) (v26 : Err) =>
              K v4 v21 v24 ([]) v18 0 v25 v26 ([] : List Int) ([] : List (Rose (Int × ((List Int) × ((List Int) × ((List Int) × (Int × ((List Int) × (Int × Unit)))))))))))))
          else (bif decide (v4 = 5) then
           (c_wire_reader_text v5 v6 (fun (v27 : (List Int)) (v28 : (List Int)) (v29 : Err) =>
             c_wire_reader_text v28 v29 (fun (v30 : (List Int)) (v31 : (List Int)) (v32 : Err) =>
              K v4 v27 ([]) ([]) 0 0 v31 v32 v30 ([] : List (Rose (Int × ((List Int) × ((List Int) × ((List Int) × (Int × ((List Int) × (Int × Unit))))))))))))
           else (bif decide (v4 = 7) then
            (c_wire_reader_text v5 v6 (fun (v33 : (List Int)) (v34 : (List Int)) (v35 : Err) =>
              c_wire_reader_num 2 v34 v35 (fun (v36 : Int) (v37 : (List Int)) (v38 : Err) =>
               K v4 v33 ([]) ([]) 0 v36 v37 v38 ([] : List Int) ([] : List (Rose (Int × ((List Int) × ((List Int) × ((List Int) × (Int × ((List Int) × (Int × Unit))))))))))))
            else (bif decide (v4 = 8) then
             (bif v1 then
              (c_wire_reader_fails 3 v5 v6 (fun (v39 : (List Int)) (v40 : Err) =>
                K v4 ([]) ([]) ([]) 0 0 v39 v40 ([] : List Int) ([] : List (Rose (Int × ((List Int) × ((List Int) × ((List Int) × (Int × ((List Int) × (Int × Unit)))))))))))
              else (c_wire_reader_num 1 v5 v6 (fun (v41 : Int) (v42 : (List Int)) (v43 : Err) =>
                let j94 : (List Int) → Err → Option R := fun v44 v45 =>
                (l_27 v41 0 ([]) ([]) ([]) 0 0 v4 ([]) ([]) ([]) 0 0 ([] : List Int) ([] : List (Rose (Int × ((List Int) × ((List Int) × ((List Int) × (Int × ((List Int) × (Int × Unit))))))))) ([] : List Int)
                 (fun (v76 : (List Int)) (v77 : Err) (v78 : Int) (v79 : (List Int)) (v80 : (List Int)) (v81 : (List Int)) (v82 : Int) (v83 : Int) (v84 : Int) (v85 : (List Int)) (v86 : (List Int)) (v87 : (List Int)) (v88 : Int) (v89 : Int) (v90 : (List Int)) (v91 : (List (Rose (Int × ((List Int) × ((List Int) × ((List Int) × (Int × ((List Int) × (Int × Unit)))))))))) (v92 : (List Int)) (v93 : (List (Rose (Int × ((List Int) × ((List Int) × ((List Int) × (Int × ((List Int) × (Int × Unit)))))))))) =>
                  K v84 v85 v86 v87 v88 v89 v76 v77 v92 v93) 0 v44 v45 ([] : List (Rose (Int × ((List Int) × ((List Int) × ((List Int) × (Int × ((List Int) × (Int × Unit))))))))))
                (bif decide (20 < v41) then
                 (c_wire_reader_fails 3 v42 v43 (fun (v95 : (List Int)) (v96 : Err) =>
                   j94 v95 v96))
                 else (j94 v42 v43)))))
             else (c_wire_reader_fails 3 v5 v6 (fun (v97 : (List Int)) (v98 : Err) =>
               K v4 ([]) ([]) ([]) 0 0 v97 v98 ([] : List Int) ([] : List (Rose (Int × ((List Int) × ((List Int) × ((List Int) × (Int × ((List Int) × (Int × Unit)))))))))))))))
         (bif decide (v4 = 3) then
          (bif decide (v4 = 3) then
           (j10)
           else (j99))
          else (bif decide (v4 = 6) then
           (j10)
           else (j99))))))))

def wire_reader_cmd_l27 {R : Type} (c_self : Bool → (List Int) → Err → (Int → (List Int) → (List Int) → (List Int) → Int → Int → (List Int) → Err → (List Int) → (List (Rose (Int × ((List Int) × ((List Int) × ((List Int) × (Int × ((List Int) × (Int × Unit))))))))) → Option R) → Option R) (kf : Nat) : Nat → Int → Int → (List Int) → (List Int) → (List Int) → Int → Int → Int → (List Int) → (List Int) → (List Int) → Int → Int → (List Int) → (List (Rose (Int × ((List Int) × ((List Int) × ((List Int) × (Int × ((List Int) × (Int × Unit))))))))) → (List Int) → ((List Int) → Err → Int → (List Int) → (List Int) → (List Int) → Int → Int → Int → (List Int) → (List Int) → (List Int) → Int → Int → (List Int) → (List (Rose (Int × ((List Int) × ((List Int) × ((List Int) × (Int × ((List Int) × (Int × Unit))))))))) → (List Int) → (List (Rose (Int × ((List Int) × ((List Int) × ((List Int) × (Int × ((List Int) × (Int × Unit))))))))) → Option R) → Int → (List Int) → Err → (List (Rose (Int × ((List Int) × ((List Int) × ((List Int) × (Int × ((List Int) × (Int × Unit))))))))) → Option R
  | 0, _, _, _, _, _, _, _, _, _, _, _, _, _, _, _, _, _, _, _, _, _ => none
  | k + 1, y0, y1, y2, y3, y4, y5, y6, y7, y8, y9, y10, y11, y12, y13, y14, y15, y16, y17, y18, y19, y20 => wire_reader_cmd_l27_b wire_reader_num wire_reader_text wire_reader_fails c_self (wire_reader_cmd_l27 c_self kf k) y0 y1 y2 y3 y4 y5 y6 y7 y8 y9 y10 y11 y12 y13 y14 y15 y16 y17 y18 y19 y20

def wire_reader_cmd {R : Type} : Nat → Bool → (List Int) → Err → (Int → (List Int) → (List Int) → (List Int) → Int → Int → (List Int) → Err → (List Int) → (List (Rose (Int × ((List Int) × ((List Int) × ((List Int) × (Int × ((List Int) × (Int × Unit))))))))) → Option R) → Option R
  | 0, _, _, _, _ => none
  | kf + 1, y0, y1, y2, y3 => wire_reader_cmd_b wire_reader_num wire_reader_text wire_reader_fails (wire_reader_cmd kf) (wire_reader_cmd_l27 (wire_reader_cmd kf) kf kf) y0 y1 y2 y3

def wire_TakeCmd_b {R : Type} (c_wire_reader_cmd : Bool → (List Int) → Err → (Int → (List Int) → (List Int) → (List Int) → Int → Int → (List Int) → Err → (List Int) → (List (Rose (Int × ((List Int) × ((List Int) × ((List Int) × (Int × ((List Int) × (Int × Unit))))))))) → Option R) → Option R) (c_wire_code : Err → (Int → Option R) → Option R) (v1 : (List Int)) (K : Int → (List Int) → (List Int) → (List Int) → Int → Int → Int → Int → (List Int) → (List (Rose (Int × ((List Int) × ((List Int) × ((List Int) × (Int × ((List Int) × (Int × Unit))))))))) → Option R) : Option R :=
    c_wire_reader_cmd false v1 Err.nil (fun (v2 : Int) (v3 : (List Int)) (v4 : (List Int)) (v5 : (List Int)) (v6 : Int) (v7 : Int) (v8 : (List Int)) (v9 : Err) (v10 : (List Int)) (v11 : (List (Rose (Int × ((List Int) × ((List Int) × ((List Int) × (Int × ((List Int) × (Int × Unit)))))))))) =>
     bif (!(Err.isNil v9)) then
     (c_wire_code v9 (fun (v12 : Int) =>
       K 0 ([]) ([]) ([]) 0 0 0 v12 ([] : List Int) ([] : List (Rose (Int × ((List Int) × ((List Int) × ((List Int) × (Int × ((List Int) × (Int × Unit)))))))))))
     else (K v2 v3 v4 v5 v6 v7 (IntKind.i64.wrap ((v1.length : Int) - (v8.length : Int))) 0 v10 v11))

def wire_TakeCmd {R : Type} (kf : Nat) (v1 : (List Int)) (K : Int → (List Int) → (List Int) → (List Int) → Int → Int → Int → Int → (List Int) → (List (Rose (Int × ((List Int) × ((List Int) × ((List Int) × (Int × ((List Int) × (Int × Unit))))))))) → Option R) : Option R := wire_TakeCmd_b (wire_reader_cmd kf) wire_code v1 K

def wire_PutReply_l13_b {R : Type} (c_wire_writer_num : Int → Int → Int → Err → (List Int) → (Err → (List Int) → Option R) → Option R) (c_wire_writer_text : (List Int) → Err → (List Int) → (Err → (List Int) → Option R) → Option R) (c_wire_code : Err → (Int → Option R) → Option R) (l_13 : (List Int) → (List (List Int)) → Int → ((List Int) → Err → (List Int) → Option R) → Int → Err → (List Int) → Option R) (v24 : (List Int)) (v25 : (List (List Int))) (v26 : Int) (Ke0 : (List Int) → Err → (List Int) → Option R) (v27 : Int) (v28 : Err) (v29 : (List Int)) : Option R :=
    bif decide (v27 < v26) then
    (gd (decide (0 ≤ v27))
     (gd (decide (v27 < (v25.length : Int)))
      (c_wire_writer_text (v25.getD (Int.toNat v27) ([] : List Int)) v28 v29 (fun (v30 : Err) (v31 : (List Int)) =>
        l_13 v24 v25 v26 Ke0 (IntKind.i64.wrap (v27 + 1)) v30 v31))))
    else (Ke0 v24 v28 v29)

def wire_PutReply_b {R : Type} (c_wire_writer_num : Int → Int → Int → Err → (List Int) → (Err → (List Int) → Option R) → Option R) (c_wire_writer_text : (List Int) → Err → (List Int) → (Err → (List Int) → Option R) → Option R) (c_wire_code : Err → (Int → Option R) → Option R) (l_13 : (List Int) → (List (List Int)) → Int → ((List Int) → Err → (List Int) → Option R) → Int → Err → (List Int) → Option R) (v1 : (List Int)) (v2 : Int) (v3 : Int) (v4 : Int) (v5 : Bool) (v6 : (List Int)) (v7 : (List Int)) (v8 : (List (List Int))) (K : Int → (List Int) → Option R) : Option R :=
    c_wire_writer_num v2 255 1 Err.nil ([] : List Int) (fun (v9 : Err) (v10 : (List Int)) =>
     c_wire_writer_num v3 65535 2 v9 v10 (fun (v11 : Err) (v12 : (List Int)) =>
      c_wire_writer_num v4 255 1 v11 v12 (fun (v13 : Err) (v14 : (List Int)) =>
       let j36 : Int → Option R := fun v15 =>
       (c_wire_writer_num v15 1 1 v13 v14 (fun (v16 : Err) (v17 : (List Int)) =>
         c_wire_writer_text v6 v16 v17 (fun (v18 : Err) (v19 : (List Int)) =>
          c_wire_writer_text v7 v18 v19 (fun (v20 : Err) (v21 : (List Int)) =>
           c_wire_writer_num (v8.length : Int) 255 1 v20 v21 (fun (v22 : Err) (v23 : (List Int)) =>
            gd (decide (0 ≤ (mn (v8.length : Int) 255)))
            (gd (decide ((mn (v8.length : Int) 255) ≤ (v8.length : Int)))
             (l_13 v1 (v8.take (Int.toNat (mn (v8.length : Int) 255))) ((v8.take (Int.toNat (mn (v8.length : Int) 255))).length : Int)
              (fun (v32 : (List Int)) (v33 : Err) (v34 : (List Int)) =>
               bif (!(Err.isNil v33)) then
               (c_wire_code v33 (fun (v35 : Int) =>
                 K v35 ([] : List Int)))
               else (gd (decide (([] : List Int).length + v32.length < SMALL))
                (gd (decide ((([] : List Int) ++ v32).length + v34.length < SMALL))
                 (K 0 ((([] : List Int) ++ v32) ++ v34))))) 0 v22 v23)))))))
       (bif v5 then
        (j36 1)
        else (j36 0)))))

def wire_PutReply_l13 {R : Type} (kf : Nat) : Nat → (List Int) → (List (List Int)) → Int → ((List Int) → Err → (List Int) → Option R) → Int → Err → (List Int) → Option R
  | 0, _, _, _, _, _, _, _ => none
  | k + 1, y0, y1, y2, y3, y4, y5, y6 => wire_PutReply_l13_b (wire_writer_num kf) (wire_writer_text kf) wire_code (wire_PutReply_l13 kf k) y0 y1 y2 y3 y4 y5 y6

def wire_PutReply {R : Type} (kf : Nat) (v1 : (List Int)) (v2 : Int) (v3 : Int) (v4 : Int) (v5 : Bool) (v6 : (List Int)) (v7 : (List Int)) (v8 : (List (List Int))) (K : Int → (List Int) → Option R) : Option R := wire_PutReply_b (wire_writer_num kf) (wire_writer_text kf) wire_code (wire_PutReply_l13 kf kf) v1 v2 v3 v4 v5 v6 v7 v8 K

def wire_TakeReply_l12_b {R : Type} (c_wire_reader_num : Int → (List Int) → Err → (Int → (List Int) → Err → Option R) → Option R) (c_wire_reader_fails : Int → (List Int) → Err → ((List Int) → Err → Option R) → Option R) (c_wire_reader_text : (List Int) → Err → ((List Int) → (List Int) → Err → Option R) → Option R) (c_wire_code : Err → (Int → Option R) → Option R) (l_12 : (List Int) → Int → Int → Int → Bool → (List Int) → (List Int) → ((List Int) → Int → Int → Int → Bool → (List Int) → (List Int) → Err → (List Int) → (List (List Int)) → Option R) → Int → (List Int) → Err → (List (List Int)) → Option R) (v25 : (List Int)) (v27 : Int) (v28 : Int) (v29 : Int) (v30 : Bool) (v31 : (List Int)) (v34 : (List Int)) (Ke0 : (List Int) → Int → Int → Int → Bool → (List Int) → (List Int) → Err → (List Int) → (List (List Int)) → Option R) (v26 : Int) (v32 : (List Int)) (v33 : Err) (v35 : (List (List Int))) : Option R :=
    bif decide (0 < v26) then
    (bif (Err.isNil v33) then
     (c_wire_reader_text v32 v33 (fun (v36 : (List Int)) (v37 : (List Int)) (v38 : Err) =>
       gd (decide (v35.length + ([v36] : List (List Int)).length < SMALL))
       (l_12 v25 v27 v28 v29 v30 v31 v34 Ke0 (IntKind.i64.wrap (v26 - 1)) v37 v38 (v35 ++ ([v36] : List (List Int))))))
     else (Ke0 v25 v27 v28 v29 v30 v31 v32 v33 v34 v35))
    else (Ke0 v25 v27 v28 v29 v30 v31 v32 v33 v34 v35)

def wire_TakeReply_b {R : Type} (c_wire_reader_num : Int → (List Int) → Err → (Int → (List Int) → Err → Option R) → Option R) (c_wire_reader_fails : Int → (List Int) → Err → ((List Int) → Err → Option R) → Option R) (c_wire_reader_text : (List Int) → Err → ((List Int) → (List Int) → Err → Option R) → Option R) (c_wire_code : Err → (Int → Option R) → Option R) (l_12 : (List Int) → Int → Int → Int → Bool → (List Int) → (List Int) → ((List Int) → Int → Int → Int → Bool → (List Int) → (List Int) → Err → (List Int) → (List (List Int)) → Option R) → Int → (List Int) → Err → (List (List Int)) → Option R) (v1 : (List Int)) (K : Int → Int → Int → Bool → (List Int) → Int → Int → (List Int) → (List (List Int)) → Option R) : Option R :=
    c_wire_reader_num 1 v1 Err.nil (fun (v2 : Int) (v3 : (List Int)) (v4 : Err) =>
     c_wire_reader_num 2 v3 v4 (fun (v5 : Int) (v6 : (List Int)) (v7 : Err) =>
      c_wire_reader_num 1 v6 v7 (fun (v8 : Int) (v9 : (List Int)) (v10 : Err) =>
       c_wire_reader_num 1 v9 v10 (fun (v11 : Int) (v12 : (List Int)) (v13 : Err) =>
        let j50 : (List Int) → Err → Option R := fun v14 v15 =>
        (c_wire_reader_text v14 v15 (fun (v16 : (List Int)) (v17 : (List Int)) (v18 : Err) =>
          c_wire_reader_text v17 v18 (fun (v19 : (List Int)) (v20 : (List Int)) (v21 : Err) =>
           c_wire_reader_num 1 v20 v21 (fun (v22 : Int) (v23 : (List Int)) (v24 : Err) =>
            l_12 v1 v2 v5 v8 (decide (v11 = 1)) v19 v16
            (fun (v39 : (List Int)) (v40 : Int) (v41 : Int) (v42 : Int) (v43 : Bool) (v44 : (List Int)) (v45 : (List Int)) (v46 : Err) (v47 : (List Int)) (v48 : (List (List Int))) =>
             bif (!(Err.isNil v46)) then
             (c_wire_code v46 (fun (v49 : Int) =>
               K 0 0 0 false ([]) 0 v49 ([] : List Int) ([] : List (List Int))))
             else (K v40 v41 v42 v43 v44 (IntKind.i64.wrap ((v39.length : Int) - (v45.length : Int))) 0 v47 v48)) v22 v23 v24 ([] : List (List Int))))))
        (bif decide (1 < v11) then
         (c_wire_reader_fails 3 v12 v13 (fun (v51 : (List Int)) (v52 : Err) =>
           j50 v51 v52))
         else (j50 v12 v13))))))

def wire_TakeReply_l12 {R : Type} (kf : Nat) : Nat → (List Int) → Int → Int → Int → Bool → (List Int) → (List Int) → ((List Int) → Int → Int → Int → Bool → (List Int) → (List Int) → Err → (List Int) → (List (List Int)) → Option R) → Int → (List Int) → Err → (List (List Int)) → Option R
  | 0, _, _, _, _, _, _, _, _, _, _, _, _ => none
  | k + 1, y0, y1, y2, y3, y4, y5, y6, y7, y8, y9, y10, y11 => wire_TakeReply_l12_b wire_reader_num wire_reader_fails wire_reader_text wire_code (wire_TakeReply_l12 kf k) y0 y1 y2 y3 y4 y5 y6 y7 y8 y9 y10 y11

def wire_TakeReply {R : Type} (kf : Nat) (v1 : (List Int)) (K : Int → Int → Int → Bool → (List Int) → Int → Int → (List Int) → (List (List Int)) → Option R) : Option R := wire_TakeReply_b wire_reader_num wire_reader_fails wire_reader_text wire_code (wire_TakeReply_l12 kf kf) v1 K

def law29_begun_b {R : Type} (c_wire_PutCmd : (List Int) → Int → (List Int) → (List Int) → (List Int) → Int → (List Int) → Int → (List (Rose (Int × ((List Int) × ((List Int) × ((List Int) × (Int × ((List Int) × (Int × Unit))))))))) → (Int → (List Int) → Option R) → Option R) (c_wire_TakeCmd : (List Int) → (Int → (List Int) → (List Int) → (List Int) → Int → Int → Int → Int → (List Int) → (List (Rose (Int × ((List Int) × ((List Int) × ((List Int) × (Int × ((List Int) × (Int × Unit))))))))) → Option R) → Option R) (c_wire_PutReply : (List Int) → Int → Int → Int → Bool → (List Int) → (List Int) → (List (List Int)) → (Int → (List Int) → Option R) → Option R) (c_wire_TakeReply : (List Int) → (Int → Int → Int → Bool → (List Int) → Int → Int → (List Int) → (List (List Int)) → Option R) → Option R) (K : Bool → Option R) : Option R :=
    c_wire_PutCmd ([] : (List Int)) 3 ([97]) ([]) ([]) 0 ([] : List Int) 0 ([] : List (Rose (Int × ((List Int) × ((List Int) × ((List Int) × (Int × ((List Int) × (Int × Unit))))))))) (fun (v1 : Int) (v2 : (List Int)) =>
     c_wire_TakeCmd v2 (fun (v3 : Int) (v4 : (List Int)) (v5 : (List Int)) (v6 : (List Int)) (v7 : Int) (v8 : Int) (v9 : Int) (v10 : Int) (v11 : (List Int)) (v12 : (List (Rose (Int × ((List Int) × ((List Int) × ((List Int) × (Int × ((List Int) × (Int × Unit)))))))))) =>
      c_wire_PutReply ([] : (List Int)) 0 0 0 false ([] : List Int) ([120]) ([] : List (List Int)) (fun (v13 : Int) (v14 : (List Int)) =>
       c_wire_TakeReply v14 (fun (v15 : Int) (v16 : Int) (v17 : Int) (v18 : Bool) (v19 : (List Int)) (v20 : Int) (v21 : Int) (v22 : (List Int)) (v23 : (List (List Int))) =>
        bif decide (v1 = 0) then
        (bif decide (v2 = [3, 1, 0, 97]) then
         (bif decide (v10 = 0) then
          (bif decide (v9 = 4) then
           (bif decide (v4 = [97]) then
            (bif decide (v13 = 0) then
             (bif decide (v21 = 0) then
              (bif decide (v20 = (v14.length : Int)) then
               (K (decide (v19 = [120])))
               else (K false))
              else (K false))
             else (K false))
            else (K false))
           else (K false))
          else (K false))
         else (K false))
        else (K false)))))

def law29_begun {R : Type} (kf : Nat) (K : Bool → Option R) : Option R := law29_begun_b (wire_PutCmd kf) (wire_TakeCmd kf) (wire_PutReply kf) (wire_TakeReply kf) K

def law0_Twin_l4_b {R : Type} (l_4 : (List Int) → Int → ((List Int) → Int → (List Int) → Option R) → Int → (List Int) → Option R) (v3 : (List Int)) (v4 : Int) (Ke0 : (List Int) → Int → (List Int) → Option R) (v5 : Int) (v6 : (List Int)) : Option R :=
    bif decide (v5 < v4) then
    (gd (decide (0 ≤ v5))
     (gd (decide (v5 < v4))
      (l_4 v3 v4 Ke0 (IntKind.i64.wrap (v5 + 1)) (v6.set (Int.toNat v5) 229))))
    else (Ke0 v3 v4 v6)

def law0_Twin_b {R : Type} (l_4 : (List Int) → Int → ((List Int) → Int → (List Int) → Option R) → Int → (List Int) → Option R) (v1 : (List Int)) (K : Int → (List Int) → Option R) : Option R :=
    gd (decide (0 ≤ (IntKind.i64.wrap ((v1.length : Int) + 3))))
    (gd (decide ((IntKind.i64.wrap ((v1.length : Int) + 3)) = (IntKind.i64.wrap ((v1.length : Int) + 3))))
     (gd (decide ((IntKind.i64.wrap ((v1.length : Int) + 3)) < (SMALL : Int)))
      (let v2 : Int := ((Nat.min v1.length (List.replicate (Int.toNat (IntKind.i64.wrap ((v1.length : Int) + 3))) (0 : Int)).length : Nat) : Int)
       gd (decide ((IntKind.i64.wrap ((v1.length : Int) + 3)) = ((List.replicate (Int.toNat (IntKind.i64.wrap ((v1.length : Int) + 3))) (0 : Int)).length : Int)))
       (l_4 v1 (IntKind.i64.wrap ((v1.length : Int) + 3))
        (fun (v7 : (List Int)) (v8 : Int) (v9 : (List Int)) =>
         gd (decide (0 ≤ (v7.length : Int)))
         (gd (decide ((v7.length : Int) ≤ (v9.length : Int)))
          (K (v7.length : Int) v9))) (v1.length : Int) (v1.take (List.replicate (Int.toNat (IntKind.i64.wrap ((v1.length : Int) + 3))) (0 : Int)).length ++ (List.replicate (Int.toNat (IntKind.i64.wrap ((v1.length : Int) + 3))) (0 : Int)).drop v1.length)))))

def law0_Twin_l4 {R : Type} (kf : Nat) : Nat → (List Int) → Int → ((List Int) → Int → (List Int) → Option R) → Int → (List Int) → Option R
  | 0, _, _, _, _, _ => none
  | k + 1, y0, y1, y2, y3, y4 => law0_Twin_l4_b (law0_Twin_l4 kf k) y0 y1 y2 y3 y4

def law0_Twin {R : Type} (kf : Nat) (v1 : (List Int)) (K : Int → (List Int) → Option R) : Option R := law0_Twin_b (law0_Twin_l4 kf kf) v1 K

def ref1_Take_l7_b {R : Type} (l_7 : (List Int) → Int → (Int → Option R) → Int → Int → Option R) (v6 : (List Int)) (v7 : Int) (Ke0 : Int → Option R) (v8 : Int) (v9 : Int) : Option R :=
    bif decide (v7 ≤ v9) then
    (gd (decide (0 ≤ v9))
     (gd (decide (v9 < (v6.length : Int)))
      (let v10 : Int := (IntKind.u64.wrap ((IntKind.u64.wrap (mulZ v8 256)) + (IntKind.u64.wrap (v6.getD (Int.toNat v9) (0 : Int)))))
       l_7 v6 v7 Ke0 v10 (IntKind.i64.wrap (v9 - 1)))))
    else (Ke0 v8)

def ref1_Take_b {R : Type} (l_7 : (List Int) → Int → (Int → Option R) → Int → Int → Option R) (v1 : (List Int)) (v2 : Int) (v3 : Int) (K : Int → Int → Option R) : Option R :=
    let j13 : Bool → Option R := fun v4 =>
    (bif v4 then
     (K 0 1)
     else (let j12 : Bool → Option R := fun v5 =>
      (bif v5 then
       (K 0 2)
       else (l_7 v1 v2
        (fun (v11 : Int) =>
         K v11 0) 0 (IntKind.i64.wrap ((IntKind.i64.wrap (v2 + v3)) - 1))))
      (bif decide ((v1.length : Int) < v2) then
       (j12 true)
       else (j12 (decide ((IntKind.i64.wrap ((v1.length : Int) - v2)) < v3))))))
    (bif decide (v2 < 0) then
     (j13 true)
     else (bif decide (v3 < 0) then
      (j13 true)
      else (j13 (decide (8 < v3)))))

def ref1_Take_l7 {R : Type} (kf : Nat) : Nat → (List Int) → Int → (Int → Option R) → Int → Int → Option R
  | 0, _, _, _, _, _ => none
  | k + 1, y0, y1, y2, y3, y4 => ref1_Take_l7_b (ref1_Take_l7 kf k) y0 y1 y2 y3 y4

def ref1_Take {R : Type} (kf : Nat) (v1 : (List Int)) (v2 : Int) (v3 : Int) (K : Int → Int → Option R) : Option R := ref1_Take_b (ref1_Take_l7 kf kf) v1 v2 v3 K

def ref29_reader_fail_b {R : Type} (v1 : Int) (v2 : (List Int)) (v3 : Int) (v4 : Int) (K : (List Int) → Int → Int → Option R) : Option R :=
    bif decide (v4 = 0) then
    (K v2 v3 v1)
    else (K v2 v3 v4)

def ref29_reader_fail {R : Type} (v1 : Int) (v2 : (List Int)) (v3 : Int) (v4 : Int) (K : (List Int) → Int → Int → Option R) : Option R := ref29_reader_fail_b v1 v2 v3 v4 K

def ref29_reader_num_b {R : Type} (c_ref1_Take : (List Int) → Int → Int → (Int → Int → Option R) → Option R) (c_ref29_reader_fail : Int → (List Int) → Int → Int → ((List Int) → Int → Int → Option R) → Option R) (v1 : Int) (v2 : (List Int)) (v3 : Int) (v4 : Int) (K : Int → (List Int) → Int → Int → Option R) : Option R :=
    bif (!(decide (v4 = 0))) then
    (K 0 v2 v3 v4)
    else (c_ref1_Take v2 v3 v1 (fun (v5 : Int) (v6 : Int) =>
      bif (!(decide (v6 = 0))) then
      (c_ref29_reader_fail v6 v2 v3 v4 (fun (v7 : (List Int)) (v8 : Int) (v9 : Int) =>
        K 0 v7 v8 v9))
      else (K (IntKind.i64.wrap v5) v2 (IntKind.i64.wrap (v3 + v1)) v4)))

def ref29_reader_num {R : Type} (kf : Nat) (v1 : Int) (v2 : (List Int)) (v3 : Int) (v4 : Int) (K : Int → (List Int) → Int → Int → Option R) : Option R := ref29_reader_num_b (ref1_Take kf) ref29_reader_fail v1 v2 v3 v4 K

def ref29_fields_b {R : Type} (v1 : Int) (K : (List Int) → Option R) : Option R :=
    let j3 : Bool → Option R := fun v2 =>
    (bif v2 then
     (K ([]))
     else (gd (decide (0 ≤ (IntKind.i64.wrap (v1 - 1))))
      (gd (decide ((IntKind.i64.wrap (v1 - 1)) < (([[110, 116], [110, 116], [110], [97, 110, 111], [110, 119], [110], [110, 109], [112]] : List (List Int)).length : Int)))
       (K (([[110, 116], [110, 116], [110], [97, 110, 111], [110, 119], [110], [110, 109], [112]] : List (List Int)).getD (Int.toNat (IntKind.i64.wrap (v1 - 1))) ([] : List Int))))))
    (bif decide (v1 < 1) then
     (j3 true)
     else (j3 (decide (8 < v1))))

def ref29_fields {R : Type} (v1 : Int) (K : (List Int) → Option R) : Option R := ref29_fields_b v1 K

def ref1_TakeText_b {R : Type} (c_ref1_Take : (List Int) → Int → Int → (Int → Int → Option R) → Option R) (v1 : (List Int)) (v2 : Int) (K : Int → Int → (List Int) → Option R) : Option R :=
    c_ref1_Take v1 0 2 (fun (v3 : Int) (v4 : Int) =>
     bif (!(decide (v4 = 0))) then
     (K 0 v4 ([] : List Int))
     else (bif decide (v2 < (IntKind.i64.wrap v3)) then
      (K 0 4 ([] : List Int))
      else (bif decide ((IntKind.i64.wrap ((v1.length : Int) - 2)) < (IntKind.i64.wrap v3)) then
       (K 0 2 ([] : List Int))
       else (gd (decide (0 ≤ (IntKind.i64.wrap (2 + (IntKind.i64.wrap v3)))))
        (gd (decide ((IntKind.i64.wrap (2 + (IntKind.i64.wrap v3))) ≤ (v1.length : Int)))
         (gd (decide (2 ≤ (IntKind.i64.wrap (2 + (IntKind.i64.wrap v3)))))
          (gd (decide (([] : List Int).length + ((v1.drop 2).take ((Int.toNat (IntKind.i64.wrap (2 + (IntKind.i64.wrap v3)))) - 2)).length < SMALL))
           (K (IntKind.i64.wrap (2 + (IntKind.i64.wrap v3))) 0 (([] : List Int) ++ ((v1.drop 2).take ((Int.toNat (IntKind.i64.wrap (2 + (IntKind.i64.wrap v3)))) - 2)))))))))))

def ref1_TakeText {R : Type} (kf : Nat) (v1 : (List Int)) (v2 : Int) (K : Int → Int → (List Int) → Option R) : Option R := ref1_TakeText_b (ref1_Take kf) v1 v2 K

def ref29_reader_bytes_b {R : Type} (c_ref1_TakeText : (List Int) → Int → (Int → Int → (List Int) → Option R) → Option R) (c_ref29_reader_fail : Int → (List Int) → Int → Int → ((List Int) → Int → Int → Option R) → Option R) (v1 : (List Int)) (v2 : Int) (v3 : Int) (K : (List Int) → Int → Int → (List Int) → Option R) : Option R :=
    bif (!(decide (v3 = 0))) then
    (K v1 v2 v3 ([] : List Int))
    else (gd (decide (0 ≤ v2))
     (gd (decide (v2 ≤ (v1.length : Int)))
      (c_ref1_TakeText (v1.drop (Int.toNat v2)) 1000 (fun (v4 : Int) (v5 : Int) (v6 : (List Int)) =>
        bif (!(decide (v5 = 0))) then
        (c_ref29_reader_fail v5 v1 v2 v3 (fun (v7 : (List Int)) (v8 : Int) (v9 : Int) =>
          K v7 v8 v9 ([] : List Int)))
        else (K v1 (IntKind.i64.wrap (v2 + v4)) v3 v6)))))

def ref29_reader_bytes {R : Type} (kf : Nat) (v1 : (List Int)) (v2 : Int) (v3 : Int) (K : (List Int) → Int → Int → (List Int) → Option R) : Option R := ref29_reader_bytes_b (ref1_TakeText kf) ref29_reader_fail v1 v2 v3 K

def ref29_reader_cmd_l7_b {R : Type} (c_ref29_reader_num : Int → (List Int) → Int → Int → (Int → (List Int) → Int → Int → Option R) → Option R) (c_ref29_fields : Int → ((List Int) → Option R) → Option R) (c_ref29_reader_fail : Int → (List Int) → Int → Int → ((List Int) → Int → Int → Option R) → Option R) (c_ref29_reader_bytes : (List Int) → Int → Int → ((List Int) → Int → Int → (List Int) → Option R) → Option R) (c_ref29_reader_cmd : Bool → (List Int) → Int → Int → (Int → (List Int) → (List Int) → (List Int) → Int → Int → (List Int) → Int → Int → (List Int) → (List (Rose (Int × ((List Int) × ((List Int) × ((List Int) × (Int × ((List Int) × (Int × Unit))))))))) → Option R) → Option R) (l_7 : ((List Int) → Int → Int → Int → (List Int) → (List Int) → (List Int) → Int → Int → Int → (List Int) → (List Int) → (List Int) → Int → Int → (List Int) → (List (Rose (Int × ((List Int) × ((List Int) × ((List Int) × (Int × ((List Int) × (Int × Unit))))))))) → (List Int) → (List (Rose (Int × ((List Int) × ((List Int) × ((List Int) × (Int × ((List Int) × (Int × Unit))))))))) → Option R) → (List Int) → Int → (List Int) → Int → Int → Int → (List Int) → (List Int) → (List Int) → Int → Int → Int → (List Int) → (List Int) → (List Int) → Int → Int → (List Int) → (List (Rose (Int × ((List Int) × ((List Int) × ((List Int) × (Int × ((List Int) × (Int × Unit))))))))) → (List Int) → (List (Rose (Int × ((List Int) × ((List Int) × ((List Int) × (Int × ((List Int) × (Int × Unit))))))))) → Option R) (l_27 : (List Int) → Int → Int → Int → (List Int) → (List Int) → (List Int) → Int → Int → Int → (List Int) → (List Int) → (List Int) → Int → Int → (List Int) → (List (Rose (Int × ((List Int) × ((List Int) × ((List Int) × (Int × ((List Int) × (Int × Unit))))))))) → (List Int) → ((List Int) → Int → (List Int) → Int → Int → Int → (List Int) → (List Int) → (List Int) → Int → Int → Int → (List Int) → (List Int) → (List Int) → Int → Int → (List Int) → (List (Rose (Int × ((List Int) × ((List Int) × ((List Int) × (Int × ((List Int) × (Int × Unit))))))))) → (List Int) → (List (Rose (Int × ((List Int) × ((List Int) × ((List Int) × (Int × ((List Int) × (Int × Unit))))))))) → Option R) → Int → (List Int) → Int → Int → (List (Rose (Int × ((List Int) × ((List Int) × ((List Int) × (Int × ((List Int) × (Int × Unit))))))))) → Option R) (Ke0 : (List Int) → Int → Int → Int → (List Int) → (List Int) → (List Int) → Int → Int → Int → (List Int) → (List Int) → (List Int) → Int → Int → (List Int) → (List (Rose (Int × ((List Int) × ((List Int) × ((List Int) × (Int × ((List Int) × (Int × Unit))))))))) → (List Int) → (List (Rose (Int × ((List Int) × ((List Int) × ((List Int) × (Int × ((List Int) × (Int × Unit))))))))) → Option R) (v13 : (List Int)) (v14 : Int) (v15 : (List Int)) (v16 : Int) (v17 : Int) (v18 : Int) (v19 : (List Int)) (v20 : (List Int)) (v21 : (List Int)) (v22 : Int) (v23 : Int) (v24 : Int) (v25 : (List Int)) (v26 : (List Int)) (v27 : (List Int)) (v28 : Int) (v29 : Int) (v30 : (List Int)) (v31 : (List (Rose (Int × ((List Int) × ((List Int) × ((List Int) × (Int × ((List Int) × (Int × Unit)))))))))) (v32 : (List Int)) (v33 : (List (Rose (Int × ((List Int) × ((List Int) × ((List Int) × (Int × ((List Int) × (Int × Unit)))))))))) : Option R :=
    bif decide (v14 < (v13.length : Int)) then
    (bif decide (v17 = 0) then
     (gd (decide (0 ≤ v14))
      (gd (decide (v14 < (v13.length : Int)))
       (bif decide ((v13.getD (Int.toNat v14) 0) = 110) then
        (c_ref29_reader_bytes v15 v16 v17 (fun (v34 : (List Int)) (v35 : Int) (v36 : Int) (v37 : (List Int)) =>
          l_7 Ke0 v13 (IntKind.i64.wrap (v14 + 1)) v34 v35 v36 v18 v19 v20 v21 v22 v23 v24 v37 v26 v27 v28 v29 v30 v31 v32 v33))
        else (bif decide ((v13.getD (Int.toNat v14) 0) = 111) then
         (c_ref29_reader_bytes v15 v16 v17 (fun (v38 : (List Int)) (v39 : Int) (v40 : Int) (v41 : (List Int)) =>
           l_7 Ke0 v13 (IntKind.i64.wrap (v14 + 1)) v38 v39 v40 v18 v19 v20 v21 v22 v23 v24 v25 v41 v27 v28 v29 v30 v31 v32 v33))
         else (bif decide ((v13.getD (Int.toNat v14) 0) = 116) then
          (c_ref29_reader_bytes v15 v16 v17 (fun (v42 : (List Int)) (v43 : Int) (v44 : Int) (v45 : (List Int)) =>
            l_7 Ke0 v13 (IntKind.i64.wrap (v14 + 1)) v42 v43 v44 v18 v19 v20 v21 v22 v23 v24 v25 v26 v45 v28 v29 v30 v31 v32 v33))
          else (bif decide ((v13.getD (Int.toNat v14) 0) = 97) then
           (c_ref29_reader_num 1 v15 v16 v17 (fun (v46 : Int) (v47 : (List Int)) (v48 : Int) (v49 : Int) =>
             l_7 Ke0 v13 (IntKind.i64.wrap (v14 + 1)) v47 v48 v49 v18 v19 v20 v21 v22 v23 v24 v25 v26 v27 v46 v29 v30 v31 v32 v33))
           else (bif decide ((v13.getD (Int.toNat v14) 0) = 119) then
            (c_ref29_reader_bytes v15 v16 v17 (fun (v50 : (List Int)) (v51 : Int) (v52 : Int) (v53 : (List Int)) =>
              l_7 Ke0 v13 (IntKind.i64.wrap (v14 + 1)) v50 v51 v52 v18 v19 v20 v21 v22 v23 v24 v25 v26 v27 v28 v29 v30 v31 v53 v33))
            else (bif decide ((v13.getD (Int.toNat v14) 0) = 109) then
             (c_ref29_reader_num 2 v15 v16 v17 (fun (v54 : Int) (v55 : (List Int)) (v56 : Int) (v57 : Int) =>
               l_7 Ke0 v13 (IntKind.i64.wrap (v14 + 1)) v55 v56 v57 v18 v19 v20 v21 v22 v23 v24 v25 v26 v27 v28 v54 v30 v31 v32 v33))
             else (bif decide ((v13.getD (Int.toNat v14) 0) = 112) then
              (c_ref29_reader_num 1 v15 v16 v17 (fun (v58 : Int) (v59 : (List Int)) (v60 : Int) (v61 : Int) =>
                let j120 : (List Int) → Int → Int → Option R := fun v62 v63 v64 =>
                (l_27 v13 v14 v58 v18 v19 v20 v21 v22 v23 v24 v25 v26 v27 v28 v29 v30 v31 v32
                 (fun (v99 : (List Int)) (v100 : Int) (v101 : (List Int)) (v102 : Int) (v103 : Int) (v104 : Int) (v105 : (List Int)) (v106 : (List Int)) (v107 : (List Int)) (v108 : Int) (v109 : Int) (v110 : Int) (v111 : (List Int)) (v112 : (List Int)) (v113 : (List Int)) (v114 : Int) (v115 : Int) (v116 : (List Int)) (v117 : (List (Rose (Int × ((List Int) × ((List Int) × ((List Int) × (Int × ((List Int) × (Int × Unit)))))))))) (v118 : (List Int)) (v119 : (List (Rose (Int × ((List Int) × ((List Int) × ((List Int) × (Int × ((List Int) × (Int × Unit)))))))))) =>
                  l_7 Ke0 v99 (IntKind.i64.wrap (v100 + 1)) v101 v102 v103 v104 v105 v106 v107 v108 v109 v110 v111 v112 v113 v114 v115 v116 v117 v118 v119) 0 v62 v63 v64 v33)
                (bif decide (20 < v58) then
                 (c_ref29_reader_fail 3 v59 v60 v61 (fun (v121 : (List Int)) (v122 : Int) (v123 : Int) =>
                   j120 v121 v122 v123))
                 else (j120 v59 v60 v61))))
              else (l_7 Ke0 v13 (IntKind.i64.wrap (v14 + 1)) v15 v16 v17 v18 v19 v20 v21 v22 v23 v24 v25 v26 v27 v28 v29 v30 v31 v32 v33))))))))))
     else (Ke0 v15 v16 v17 v18 v19 v20 v21 v22 v23 v24 v25 v26 v27 v28 v29 v30 v31 v32 v33))
    else (Ke0 v15 v16 v17 v18 v19 v20 v21 v22 v23 v24 v25 v26 v27 v28 v29 v30 v31 v32 v33)

def ref29_reader_cmd_l27_b {R : Type} (c_ref29_reader_num : Int → (List Int) → Int → Int → (Int → (List Int) → Int → Int → Option R) → Option R) (c_ref29_fields : Int → ((List Int) → Option R) → Option R) (c_ref29_reader_fail : Int → (List Int) → Int → Int → ((List Int) → Int → Int → Option R) → Option R) (c_ref29_reader_bytes : (List Int) → Int → Int → ((List Int) → Int → Int → (List Int) → Option R) → Option R) (c_ref29_reader_cmd : Bool → (List Int) → Int → Int → (Int → (List Int) → (List Int) → (List Int) → Int → Int → (List Int) → Int → Int → (List Int) → (List (Rose (Int × ((List Int) × ((List Int) × ((List Int) × (Int × ((List Int) × (Int × Unit))))))))) → Option R) → Option R) (l_7 : ((List Int) → Int → Int → Int → (List Int) → (List Int) → (List Int) → Int → Int → Int → (List Int) → (List Int) → (List Int) → Int → Int → (List Int) → (List (Rose (Int × ((List Int) × ((List Int) × ((List Int) × (Int × ((List Int) × (Int × Unit))))))))) → (List Int) → (List (Rose (Int × ((List Int) × ((List Int) × ((List Int) × (Int × ((List Int) × (Int × Unit))))))))) → Option R) → (List Int) → Int → (List Int) → Int → Int → Int → (List Int) → (List Int) → (List Int) → Int → Int → Int → (List Int) → (List Int) → (List Int) → Int → Int → (List Int) → (List (Rose (Int × ((List Int) × ((List Int) × ((List Int) × (Int × ((List Int) × (Int × Unit))))))))) → (List Int) → (List (Rose (Int × ((List Int) × ((List Int) × ((List Int) × (Int × ((List Int) × (Int × Unit))))))))) → Option R) (l_27 : (List Int) → Int → Int → Int → (List Int) → (List Int) → (List Int) → Int → Int → Int → (List Int) → (List Int) → (List Int) → Int → Int → (List Int) → (List (Rose (Int × ((List Int) × ((List Int) × ((List Int) × (Int × ((List Int) × (Int × Unit))))))))) → (List Int) → ((List Int) → Int → (List Int) → Int → Int → Int → (List Int) → (List Int) → (List Int) → Int → Int → Int → (List Int) → (List Int) → (List Int) → Int → Int → (List Int) → (List (Rose (Int × ((List Int) × ((List Int) × ((List Int) × (Int × ((List Int) × (Int × Unit))))))))) → (List Int) → (List (Rose (Int × ((List Int) × ((List Int) × ((List Int) × (Int × ((List Int) × (Int × Unit))))))))) → Option R) → Int → (List Int) → Int → Int → (List (Rose (Int × ((List Int) × ((List Int) × ((List Int) × (Int × ((List Int) × (Int × Unit))))))))) → Option R) (v65 : (List Int)) (v66 : Int) (v67 : Int) (v72 : Int) (v73 : (List Int)) (v74 : (List Int)) (v75 : (List Int)) (v76 : Int) (v77 : Int) (v78 : Int) (v79 : (List Int)) (v80 : (List Int)) (v81 : (List Int)) (v82 : Int) (v83 : Int) (v84 : (List Int)) (v85 : (List (Rose (Int × ((List Int) × ((List Int) × ((List Int) × (Int × ((List Int) × (Int × Unit)))))))))) (v86 : (List Int)) (Ke3 : (List Int) → Int → (List Int) → Int → Int → Int → (List Int) → (List Int) → (List Int) → Int → Int → Int → (List Int) → (List Int) → (List Int) → Int → Int → (List Int) → (List (Rose (Int × ((List Int) × ((List Int) × ((List Int) × (Int × ((List Int) × (Int × Unit))))))))) → (List Int) → (List (Rose (Int × ((List Int) × ((List Int) × ((List Int) × (Int × ((List Int) × (Int × Unit))))))))) → Option R) (v68 : Int) (v69 : (List Int)) (v70 : Int) (v71 : Int) (v87 : (List (Rose (Int × ((List Int) × ((List Int) × ((List Int) × (Int × ((List Int) × (Int × Unit)))))))))) : Option R :=
    bif decide (v68 < v67) then
    (bif decide (v71 = 0) then
     (c_ref29_reader_cmd true v69 v70 v71 (fun (v88 : Int) (v89 : (List Int)) (v90 : (List Int)) (v91 : (List Int)) (v92 : Int) (v93 : Int) (v94 : (List Int)) (v95 : Int) (v96 : Int) (v97 : (List Int)) (v98 : (List (Rose (Int × ((List Int) × ((List Int) × ((List Int) × (Int × ((List Int) × (Int × Unit)))))))))) =>
       gd (decide (v87.length + ([(Rose.node (v88, v89, v90, v91, v92, v97, v93, ()) v98)] : List (Rose (Int × ((List Int) × ((List Int) × ((List Int) × (Int × ((List Int) × (Int × Unit))))))))).length < SMALL))
       (l_27 v65 v66 v67 v72 v73 v74 v75 v76 v77 v78 v79 v80 v81 v82 v83 v84 v85 v86 Ke3 (IntKind.i64.wrap (v68 + 1)) v94 v95 v96 (v87 ++ ([(Rose.node (v88, v89, v90, v91, v92, v97, v93, ()) v98)] : List (Rose (Int × ((List Int) × ((List Int) × ((List Int) × (Int × ((List Int) × (Int × Unit)))))))))))))
     else (Ke3 v65 v66 v69 v70 v71 v72 v73 v74 v75 v76 v77 v78 v79 v80 v81 v82 v83 v84 v85 v86 v87))
    else (Ke3 v65 v66 v69 v70 v71 v72 v73 v74 v75 v76 v77 v78 v79 v80 v81 v82 v83 v84 v85 v86 v87)

def ref29_reader_cmd_b {R : Type} (c_ref29_reader_num : Int → (List Int) → Int → Int → (Int → (List Int) → Int → Int → Option R) → Option R) (c_ref29_fields : Int → ((List Int) → Option R) → Option R) (c_ref29_reader_fail : Int → (List Int) → Int → Int → ((List Int) → Int → Int → Option R) → Option R) (c_ref29_reader_bytes : (List Int) → Int → Int → ((List Int) → Int → Int → (List Int) → Option R) → Option R) (c_ref29_reader_cmd : Bool → (List Int) → Int → Int → (Int → (List Int) → (List Int) → (List Int) → Int → Int → (List Int) → Int → Int → (List Int) → (List (Rose (Int × ((List Int) × ((List Int) × ((List Int) × (Int × ((List Int) × (Int × Unit))))))))) → Option R) → Option R) (l_7 : ((List Int) → Int → Int → Int → (List Int) → (List Int) → (List Int) → Int → Int → Int → (List Int) → (List Int) → (List Int) → Int → Int → (List Int) → (List (Rose (Int × ((List Int) × ((List Int) × ((List Int) × (Int × ((List Int) × (Int × Unit))))))))) → (List Int) → (List (Rose (Int × ((List Int) × ((List Int) × ((List Int) × (Int × ((List Int) × (Int × Unit))))))))) → Option R) → (List Int) → Int → (List Int) → Int → Int → Int → (List Int) → (List Int) → (List Int) → Int → Int → Int → (List Int) → (List Int) → (List Int) → Int → Int → (List Int) → (List (Rose (Int × ((List Int) × ((List Int) × ((List Int) × (Int × ((List Int) × (Int × Unit))))))))) → (List Int) → (List (Rose (Int × ((List Int) × ((List Int) × ((List Int) × (Int × ((List Int) × (Int × Unit))))))))) → Option R) (l_27 : (List Int) → Int → Int → Int → (List Int) → (List Int) → (List Int) → Int → Int → Int → (List Int) → (List Int) → (List Int) → Int → Int → (List Int) → (List (Rose (Int × ((List Int) × ((List Int) × ((List Int) × (Int × ((List Int) × (Int × Unit))))))))) → (List Int) → ((List Int) → Int → (List Int) → Int → Int → Int → (List Int) → (List Int) → (List Int) → Int → Int → Int → (List Int) → (List Int) → (List Int) → Int → Int → (List Int) → (List (Rose (Int × ((List Int) × ((List Int) × ((List Int) × (Int × ((List Int) × (Int × Unit))))))))) → (List Int) → (List (Rose (Int × ((List Int) × ((List Int) × ((List Int) × (Int × ((List Int) × (Int × Unit))))))))) → Option R) → Int → (List Int) → Int → Int → (List (Rose (Int × ((List Int) × ((List Int) × ((List Int) × (Int × ((List Int) × (Int × Unit))))))))) → Option R) (v1 : Bool) (v2 : (List Int)) (v3 : Int) (v4 : Int) (K : Int → (List Int) → (List Int) → (List Int) → Int → Int → (List Int) → Int → Int → (List Int) → (List (Rose (Int × ((List Int) × ((List Int) × ((List Int) × (Int × ((List Int) × (Int × Unit))))))))) → Option R) : Option R :=
    c_ref29_reader_num 1 v2 v3 v4 (fun (v5 : Int) (v6 : (List Int)) (v7 : Int) (v8 : Int) =>
     c_ref29_fields v5 (fun (v9 : (List Int)) =>
      let j143 : (List Int) → Int → Int → Option R := fun v10 v11 v12 =>
      (l_7
       (fun (v124 : (List Int)) (v125 : Int) (v126 : Int) (v127 : Int) (v128 : (List Int)) (v129 : (List Int)) (v130 : (List Int)) (v131 : Int) (v132 : Int) (v133 : Int) (v134 : (List Int)) (v135 : (List Int)) (v136 : (List Int)) (v137 : Int) (v138 : Int) (v139 : (List Int)) (v140 : (List (Rose (Int × ((List Int) × ((List Int) × ((List Int) × (Int × ((List Int) × (Int × Unit)))))))))) (v141 : (List Int)) (v142 : (List (Rose (Int × ((List Int) × ((List Int) × ((List Int) × (Int × ((List Int) × (Int × Unit)))))))))) =>
        K v133 v134 v135 v136 v137 v138 v124 v125 v126 v141 v142) v9 0 v10 v11 v12 0 ([]) ([]) ([]) 0 0 v5 ([]) ([]) ([]) 0 0 ([] : List Int) ([] : List (Rose (Int × ((List Int) × ((List Int) × ((List Int) × (Int × ((List Int) × (Int × Unit))))))))) ([] : List Int) ([] : List (Rose (Int × ((List Int) × ((List Int) × ((List Int) × (Int × ((List Int) × (Int × Unit))))))))))
      (let j148 : Bool → Option R := fun v144 =>
       (bif v144 then
        (c_ref29_reader_fail 3 v6 v7 v8 (fun (v145 : (List Int)) (v146 : Int) (v147 : Int) =>
          j143 v145 v146 v147))
        else (j143 v6 v7 v8))
       (bif decide (v8 = 0) then
        (bif decide (v9 = []) then
         (j148 true)
         else (bif v1 then
          (j148 (decide (v5 = 8)))
          else (j148 false)))
        else (j148 false)))))

def ref29_reader_cmd_l27 {R : Type} (c_self : Bool → (List Int) → Int → Int → (Int → (List Int) → (List Int) → (List Int) → Int → Int → (List Int) → Int → Int → (List Int) → (List (Rose (Int × ((List Int) × ((List Int) × ((List Int) × (Int × ((List Int) × (Int × Unit))))))))) → Option R) → Option R) (kf : Nat) : Nat → (List Int) → Int → Int → Int → (List Int) → (List Int) → (List Int) → Int → Int → Int → (List Int) → (List Int) → (List Int) → Int → Int → (List Int) → (List (Rose (Int × ((List Int) × ((List Int) × ((List Int) × (Int × ((List Int) × (Int × Unit))))))))) → (List Int) → ((List Int) → Int → (List Int) → Int → Int → Int → (List Int) → (List Int) → (List Int) → Int → Int → Int → (List Int) → (List Int) → (List Int) → Int → Int → (List Int) → (List (Rose (Int × ((List Int) × ((List Int) × ((List Int) × (Int × ((List Int) × (Int × Unit))))))))) → (List Int) → (List (Rose (Int × ((List Int) × ((List Int) × ((List Int) × (Int × ((List Int) × (Int × Unit))))))))) → Option R) → Int → (List Int) → Int → Int → (List (Rose (Int × ((List Int) × ((List Int) × ((List Int) × (Int × ((List Int) × (Int × Unit))))))))) → Option R
  | 0, _, _, _, _, _, _, _, _, _, _, _, _, _, _, _, _, _, _, _, _, _, _, _, _ => none
  | k + 1, y0, y1, y2, y3, y4, y5, y6, y7, y8, y9, y10, y11, y12, y13, y14, y15, y16, y17, y18, y19, y20, y21, y22, y23 => ref29_reader_cmd_l27_b (ref29_reader_num kf) ref29_fields ref29_reader_fail (ref29_reader_bytes kf) c_self (fun _ _ _ _ _ _ _ _ _ _ _ _ _ _ _ _ _ _ _ _ _ _ => none) (ref29_reader_cmd_l27 c_self kf k) y0 y1 y2 y3 y4 y5 y6 y7 y8 y9 y10 y11 y12 y13 y14 y15 y16 y17 y18 y19 y20 y21 y22 y23

def ref29_reader_cmd_l7 {R : Type} (c_self : Bool → (List Int) → Int → Int → (Int → (List Int) → (List Int) → (List Int) → Int → Int → (List Int) → Int → Int → (List Int) → (List (Rose (Int × ((List Int) × ((List Int) × ((List Int) × (Int × ((List Int) × (Int × Unit))))))))) → Option R) → Option R) (kf : Nat) : Nat → ((List Int) → Int → Int → Int → (List Int) → (List Int) → (List Int) → Int → Int → Int → (List Int) → (List Int) → (List Int) → Int → Int → (List Int) → (List (Rose (Int × ((List Int) × ((List Int) × ((List Int) × (Int × ((List Int) × (Int × Unit))))))))) → (List Int) → (List (Rose (Int × ((List Int) × ((List Int) × ((List Int) × (Int × ((List Int) × (Int × Unit))))))))) → Option R) → (List Int) → Int → (List Int) → Int → Int → Int → (List Int) → (List Int) → (List Int) → Int → Int → Int → (List Int) → (List Int) → (List Int) → Int → Int → (List Int) → (List (Rose (Int × ((List Int) × ((List Int) × ((List Int) × (Int × ((List Int) × (Int × Unit))))))))) → (List Int) → (List (Rose (Int × ((List Int) × ((List Int) × ((List Int) × (Int × ((List Int) × (Int × Unit))))))))) → Option R
  | 0, _, _, _, _, _, _, _, _, _, _, _, _, _, _, _, _, _, _, _, _, _, _ => none
  | k + 1, y0, y1, y2, y3, y4, y5, y6, y7, y8, y9, y10, y11, y12, y13, y14, y15, y16, y17, y18, y19, y20, y21 => ref29_reader_cmd_l7_b (ref29_reader_num kf) ref29_fields ref29_reader_fail (ref29_reader_bytes kf) c_self (ref29_reader_cmd_l7 c_self kf k) (ref29_reader_cmd_l27 c_self kf k) y0 y1 y2 y3 y4 y5 y6 y7 y8 y9 y10 y11 y12 y13 y14 y15 y16 y17 y18 y19 y20 y21

def ref29_reader_cmd {R : Type} : Nat → Bool → (List Int) → Int → Int → (Int → (List Int) → (List Int) → (List Int) → Int → Int → (List Int) → Int → Int → (List Int) → (List (Rose (Int × ((List Int) × ((List Int) × ((List Int) × (Int × ((List Int) × (Int × Unit))))))))) → Option R) → Option R
  | 0, _, _, _, _, _ => none
  | kf + 1, y0, y1, y2, y3, y4 => ref29_reader_cmd_b (ref29_reader_num kf) ref29_fields ref29_reader_fail (ref29_reader_bytes kf) (ref29_reader_cmd kf) (ref29_reader_cmd_l7 (ref29_reader_cmd kf) kf kf) (ref29_reader_cmd_l27 (ref29_reader_cmd kf) kf kf) y0 y1 y2 y3 y4

def ref29_TakeCmd_b {R : Type} (c_ref29_reader_cmd : Bool → (List Int) → Int → Int → (Int → (List Int) → (List Int) → (List Int) → Int → Int → (List Int) → Int → Int → (List Int) → (List (Rose (Int × ((List Int) × ((List Int) × ((List Int) × (Int × ((List Int) × (Int × Unit))))))))) → Option R) → Option R) (v1 : (List Int)) (K : Int → (List Int) → (List Int) → (List Int) → Int → Int → Int → Int → (List Int) → (List (Rose (Int × ((List Int) × ((List Int) × ((List Int) × (Int × ((List Int) × (Int × Unit))))))))) → Option R) : Option R :=
    c_ref29_reader_cmd false v1 0 0 (fun (v2 : Int) (v3 : (List Int)) (v4 : (List Int)) (v5 : (List Int)) (v6 : Int) (v7 : Int) (v8 : (List Int)) (v9 : Int) (v10 : Int) (v11 : (List Int)) (v12 : (List (Rose (Int × ((List Int) × ((List Int) × ((List Int) × (Int × ((List Int) × (Int × Unit)))))))))) =>
     bif (!(decide (v10 = 0))) then
     (K 0 ([]) ([]) ([]) 0 0 0 v10 ([] : List Int) ([] : List (Rose (Int × ((List Int) × ((List Int) × ((List Int) × (Int × ((List Int) × (Int × Unit))))))))))
     else (K v2 v3 v4 v5 v6 v7 v9 0 v11 v12))

def ref29_TakeCmd {R : Type} (kf : Nat) (v1 : (List Int)) (K : Int → (List Int) → (List Int) → (List Int) → Int → Int → Int → Int → (List Int) → (List (Rose (Int × ((List Int) × ((List Int) × ((List Int) × (Int × ((List Int) × (Int × Unit))))))))) → Option R) : Option R := ref29_TakeCmd_b (ref29_reader_cmd kf) v1 K

def ref29_TakeReply_l14_b {R : Type} (c_ref29_reader_num : Int → (List Int) → Int → Int → (Int → (List Int) → Int → Int → Option R) → Option R) (c_ref29_reader_fail : Int → (List Int) → Int → Int → ((List Int) → Int → Int → Option R) → Option R) (c_ref29_reader_bytes : (List Int) → Int → Int → ((List Int) → Int → Int → (List Int) → Option R) → Option R) (l_14 : Int → Int → Int → Int → Bool → (List Int) → Int → Int → Int → Bool → (List Int) → (List Int) → (List (List Int)) → (List Int) → (Int → Int → Int → Bool → (List Int) → (List Int) → Int → Int → Int → Int → Int → Bool → (List Int) → (List Int) → (List (List Int)) → (List Int) → (List (List Int)) → Option R) → Int → (List Int) → Int → Int → (List (List Int)) → Option R) (v33 : Int) (v35 : Int) (v36 : Int) (v37 : Int) (v38 : Bool) (v39 : (List Int)) (v43 : Int) (v44 : Int) (v45 : Int) (v46 : Bool) (v47 : (List Int)) (v48 : (List Int)) (v49 : (List (List Int))) (v50 : (List Int)) (Ke0 : Int → Int → Int → Bool → (List Int) → (List Int) → Int → Int → Int → Int → Int → Bool → (List Int) → (List Int) → (List (List Int)) → (List Int) → (List (List Int)) → Option R) (v34 : Int) (v40 : (List Int)) (v41 : Int) (v42 : Int) (v51 : (List (List Int))) : Option R :=
    bif decide (v34 < v33) then
    (bif decide (v42 = 0) then
     (c_ref29_reader_bytes v40 v41 v42 (fun (v52 : (List Int)) (v53 : Int) (v54 : Int) (v55 : (List Int)) =>
       gd (decide (v51.length + ([v55] : List (List Int)).length < SMALL))
       (l_14 v33 v35 v36 v37 v38 v39 v43 v44 v45 v46 v47 v48 v49 v50 Ke0 (IntKind.i64.wrap (v34 + 1)) v52 v53 v54 (v51 ++ ([v55] : List (List Int))))))
     else (Ke0 v35 v36 v37 v38 v39 v40 v41 v42 v43 v44 v45 v46 v47 v48 v49 v50 v51))
    else (Ke0 v35 v36 v37 v38 v39 v40 v41 v42 v43 v44 v45 v46 v47 v48 v49 v50 v51)

def ref29_TakeReply_b {R : Type} (c_ref29_reader_num : Int → (List Int) → Int → Int → (Int → (List Int) → Int → Int → Option R) → Option R) (c_ref29_reader_fail : Int → (List Int) → Int → Int → ((List Int) → Int → Int → Option R) → Option R) (c_ref29_reader_bytes : (List Int) → Int → Int → ((List Int) → Int → Int → (List Int) → Option R) → Option R) (l_14 : Int → Int → Int → Int → Bool → (List Int) → Int → Int → Int → Bool → (List Int) → (List Int) → (List (List Int)) → (List Int) → (Int → Int → Int → Bool → (List Int) → (List Int) → Int → Int → Int → Int → Int → Bool → (List Int) → (List Int) → (List (List Int)) → (List Int) → (List (List Int)) → Option R) → Int → (List Int) → Int → Int → (List (List Int)) → Option R) (v1 : (List Int)) (K : Int → Int → Int → Bool → (List Int) → Int → Int → (List Int) → (List (List Int)) → Option R) : Option R :=
    c_ref29_reader_num 1 v1 0 0 (fun (v2 : Int) (v3 : (List Int)) (v4 : Int) (v5 : Int) =>
     c_ref29_reader_num 2 v3 v4 v5 (fun (v6 : Int) (v7 : (List Int)) (v8 : Int) (v9 : Int) =>
      c_ref29_reader_num 1 v7 v8 v9 (fun (v10 : Int) (v11 : (List Int)) (v12 : Int) (v13 : Int) =>
       c_ref29_reader_num 1 v11 v12 v13 (fun (v14 : Int) (v15 : (List Int)) (v16 : Int) (v17 : Int) =>
        let j73 : (List Int) → Int → Int → Option R := fun v18 v19 v20 =>
        (c_ref29_reader_bytes v18 v19 v20 (fun (v21 : (List Int)) (v22 : Int) (v23 : Int) (v24 : (List Int)) =>
          c_ref29_reader_bytes v21 v22 v23 (fun (v25 : (List Int)) (v26 : Int) (v27 : Int) (v28 : (List Int)) =>
           c_ref29_reader_num 1 v25 v26 v27 (fun (v29 : Int) (v30 : (List Int)) (v31 : Int) (v32 : Int) =>
            l_14 v29 0 0 0 false ([]) v2 v6 v10 (decide (v14 = 1)) v28 ([] : List Int) ([] : List (List Int)) v24
            (fun (v56 : Int) (v57 : Int) (v58 : Int) (v59 : Bool) (v60 : (List Int)) (v61 : (List Int)) (v62 : Int) (v63 : Int) (v64 : Int) (v65 : Int) (v66 : Int) (v67 : Bool) (v68 : (List Int)) (v69 : (List Int)) (v70 : (List (List Int))) (v71 : (List Int)) (v72 : (List (List Int))) =>
             bif (!(decide (v63 = 0))) then
             (K 0 0 0 false ([]) 0 v63 ([] : List Int) ([] : List (List Int)))
             else (K v64 v65 v66 v67 v68 v62 0 v71 v72)) 0 v30 v31 v32 ([] : List (List Int))))))
        (bif decide (1 < v14) then
         (c_ref29_reader_fail 3 v15 v16 v17 (fun (v74 : (List Int)) (v75 : Int) (v76 : Int) =>
           j73 v74 v75 v76))
         else (j73 v15 v16 v17))))))

def ref29_TakeReply_l14 {R : Type} (kf : Nat) : Nat → Int → Int → Int → Int → Bool → (List Int) → Int → Int → Int → Bool → (List Int) → (List Int) → (List (List Int)) → (List Int) → (Int → Int → Int → Bool → (List Int) → (List Int) → Int → Int → Int → Int → Int → Bool → (List Int) → (List Int) → (List (List Int)) → (List Int) → (List (List Int)) → Option R) → Int → (List Int) → Int → Int → (List (List Int)) → Option R
  | 0, _, _, _, _, _, _, _, _, _, _, _, _, _, _, _, _, _, _, _, _ => none
  | k + 1, y0, y1, y2, y3, y4, y5, y6, y7, y8, y9, y10, y11, y12, y13, y14, y15, y16, y17, y18, y19 => ref29_TakeReply_l14_b (ref29_reader_num kf) ref29_reader_fail (ref29_reader_bytes kf) (ref29_TakeReply_l14 kf k) y0 y1 y2 y3 y4 y5 y6 y7 y8 y9 y10 y11 y12 y13 y14 y15 y16 y17 y18 y19

def ref29_TakeReply {R : Type} (kf : Nat) (v1 : (List Int)) (K : Int → Int → Int → Bool → (List Int) → Int → Int → (List Int) → (List (List Int)) → Option R) : Option R := ref29_TakeReply_b (ref29_reader_num kf) ref29_reader_fail (ref29_reader_bytes kf) (ref29_TakeReply_l14 kf kf) v1 K

def law0_Kept_l5_b {R : Type} (l_5 : (List Int) → Int → (List Int) → (Bool → (List Int) → Option R) → ((List Int) → Option R) → Int → Option R) (v5 : (List Int)) (v6 : Int) (v8 : (List Int)) (Kr : Bool → (List Int) → Option R) (Ke0 : (List Int) → Option R) (v7 : Int) : Option R :=
    bif decide (v7 < (IntKind.i64.wrap ((v5.length : Int) + 3))) then
    (gd (decide (0 ≤ v7))
     (gd (decide (v7 < v6))
      (bif (!(decide ((v8.getD (Int.toNat v7) (0 : Int)) = 229))) then
       (Kr false v8)
       else (l_5 v5 v6 v8 Kr Ke0 (IntKind.i64.wrap (v7 + 1))))))
    else (Ke0 v8)

def law0_Kept_b {R : Type} (l_5 : (List Int) → Int → (List Int) → (Bool → (List Int) → Option R) → ((List Int) → Option R) → Int → Option R) (v1 : Int) (v2 : (List Int)) (v3 : (List Int)) (K : Bool → (List Int) → Option R) : Option R :=
    gd (decide (0 ≤ (v3.length : Int)))
    (gd (decide ((v3.length : Int) ≤ (v3.length : Int)))
     (let j12 : Bool → Option R := fun v4 =>
      (bif v4 then
       (K false v3)
       else (l_5 v2 (v3.length : Int) v3
        (fun (v9 : Bool) (v10 : (List Int)) =>
         K v9 v10)
        (fun (v11 : (List Int)) =>
         K true v11) (v2.length : Int)))
      (bif (!(decide ((v3.take (Int.toNat v1)) = v2))) then
       (j12 true)
       else (j12 (decide ((v3.length : Int) < (IntKind.i64.wrap ((v2.length : Int) + 3))))))))

def law0_Kept_l5 {R : Type} (kf : Nat) : Nat → (List Int) → Int → (List Int) → (Bool → (List Int) → Option R) → ((List Int) → Option R) → Int → Option R
  | 0, _, _, _, _, _, _ => none
  | k + 1, y0, y1, y2, y3, y4, y5 => law0_Kept_l5_b (law0_Kept_l5 kf k) y0 y1 y2 y3 y4 y5

def law0_Kept {R : Type} (kf : Nat) (v1 : Int) (v2 : (List Int)) (v3 : (List Int)) (K : Bool → (List Int) → Option R) : Option R := law0_Kept_b (law0_Kept_l5 kf kf) v1 v2 v3 K

def ref29_SameCmd_l4_b {R : Type} (c_ref29_SameCmd : Int → (List Int) → (List Int) → (List Int) → Int → (List Int) → Int → (List (Rose (Int × ((List Int) × ((List Int) × ((List Int) × (Int × ((List Int) × (Int × Unit))))))))) → Int → (List Int) → (List Int) → (List Int) → Int → (List Int) → Int → (List (Rose (Int × ((List Int) × ((List Int) × ((List Int) × (Int × ((List Int) × (Int × Unit))))))))) → (Bool → Option R) → Option R) (l_4 : (List (Rose (Int × ((List Int) × ((List Int) × ((List Int) × (Int × ((List Int) × (Int × Unit))))))))) → (List (Rose (Int × ((List Int) × ((List Int) × ((List Int) × (Int × ((List Int) × (Int × Unit))))))))) → (Bool → Option R) → (Option R) → Int → Option R) (v26 : (List (Rose (Int × ((List Int) × ((List Int) × ((List Int) × (Int × ((List Int) × (Int × Unit)))))))))) (v34 : (List (Rose (Int × ((List Int) × ((List Int) × ((List Int) × (Int × ((List Int) × (Int × Unit)))))))))) (Kr : Bool → Option R) (Ke0 : Option R) (v18 : Int) : Option R :=
    bif decide (v18 < (v26.length : Int)) then
    (gd (decide (0 ≤ v18))
     (gd (decide (v18 < (v26.length : Int)))
      (gd (decide (0 ≤ v18))
       (gd (decide (v18 < (v34.length : Int)))
        (c_ref29_SameCmd ((Rose.lab (v26.getD (Int.toNat v18) (Rose.node ((0 : Int), (([] : List Int), (([] : List Int), (([] : List Int), ((0 : Int), (([] : (List Int)), ((0 : Int), ()))))))) [] : (Rose (Int × ((List Int) × ((List Int) × ((List Int) × (Int × ((List Int) × (Int × Unit))))))))))).1) ((Rose.lab (v26.getD (Int.toNat v18) (Rose.node ((0 : Int), (([] : List Int), (([] : List Int), (([] : List Int), ((0 : Int), (([] : (List Int)), ((0 : Int), ()))))))) [] : (Rose (Int × ((List Int) × ((List Int) × ((List Int) × (Int × ((List Int) × (Int × Unit))))))))))).2.1) ((Rose.lab (v26.getD (Int.toNat v18) (Rose.node ((0 : Int), (([] : List Int), (([] : List Int), (([] : List Int), ((0 : Int), (([] : (List Int)), ((0 : Int), ()))))))) [] : (Rose (Int × ((List Int) × ((List Int) × ((List Int) × (Int × ((List Int) × (Int × Unit))))))))))).2.2.1) ((Rose.lab (v26.getD (Int.toNat v18) (Rose.node ((0 : Int), (([] : List Int), (([] : List Int), (([] : List Int), ((0 : Int), (([] : (List Int)), ((0 : Int), ()))))))) [] : (Rose (Int × ((List Int) × ((List Int) × ((List Int) × (Int × ((List Int) × (Int × Unit))))))))))).2.2.2.1) ((Rose.lab (v26.getD (Int.toNat v18) (Rose.node ((0 : Int), (([] : List Int), (([] : List Int), (([] : List Int), ((0 : Int), (([] : (List Int)), ((0 : Int), ()))))))) [] : (Rose (Int × ((List Int) × ((List Int) × ((List Int) × (Int × ((List Int) × (Int × Unit))))))))))).2.2.2.2.1) ((Rose.lab (v26.getD (Int.toNat v18) (Rose.node ((0 : Int), (([] : List Int), (([] : List Int), (([] : List Int), ((0 : Int), (([] : (List Int)), ((0 : Int), ()))))))) [] : (Rose (Int × ((List Int) × ((List Int) × ((List Int) × (Int × ((List Int) × (Int × Unit))))))))))).2.2.2.2.2.1) ((Rose.lab (v26.getD (Int.toNat v18) (Rose.node ((0 : Int), (([] : List Int), (([] : List Int), (([] : List Int), ((0 : Int), (([] : (List Int)), ((0 : Int), ()))))))) [] : (Rose (Int × ((List Int) × ((List Int) × ((List Int) × (Int × ((List Int) × (Int × Unit))))))))))).2.2.2.2.2.2.1) (Rose.kids (v26.getD (Int.toNat v18) (Rose.node ((0 : Int), (([] : List Int), (([] : List Int), (([] : List Int), ((0 : Int), (([] : (List Int)), ((0 : Int), ()))))))) [] : (Rose (Int × ((List Int) × ((List Int) × ((List Int) × (Int × ((List Int) × (Int × Unit))))))))))) ((Rose.lab (v34.getD (Int.toNat v18) (Rose.node ((0 : Int), (([] : List Int), (([] : List Int), (([] : List Int), ((0 : Int), (([] : (List Int)), ((0 : Int), ()))))))) [] : (Rose (Int × ((List Int) × ((List Int) × ((List Int) × (Int × ((List Int) × (Int × Unit))))))))))).1) ((Rose.lab (v34.getD (Int.toNat v18) (Rose.node ((0 : Int), (([] : List Int), (([] : List Int), (([] : List Int), ((0 : Int), (([] : (List Int)), ((0 : Int), ()))))))) [] : (Rose (Int × ((List Int) × ((List Int) × ((List Int) × (Int × ((List Int) × (Int × Unit))))))))))).2.1) ((Rose.lab (v34.getD (Int.toNat v18) (Rose.node ((0 : Int), (([] : List Int), (([] : List Int), (([] : List Int), ((0 : Int), (([] : (List Int)), ((0 : Int), ()))))))) [] : (Rose (Int × ((List Int) × ((List Int) × ((List Int) × (Int × ((List Int) × (Int × Unit))))))))))).2.2.1) ((Rose.lab (v34.getD (Int.toNat v18) (Rose.node ((0 : Int), (([] : List Int), (([] : List Int), (([] : List Int), ((0 : Int), (([] : (List Int)), ((0 : Int), ()))))))) [] : (Rose (Int × ((List Int) × ((List Int) × ((List Int) × (Int × ((List Int) × (Int × Unit))))))))))).2.2.2.1) ((Rose.lab (v34.getD (Int.toNat v18) (Rose.node ((0 : Int), (([] : List Int), (([] : List Int), (([] : List Int), ((0 : Int), (([] : (List Int)), ((0 : Int), ()))))))) [] : (Rose (Int × ((List Int) × ((List Int) × ((List Int) × (Int × ((List Int) × (Int × Unit))))))))))).2.2.2.2.1) ((Rose.lab (v34.getD (Int.toNat v18) (Rose.node ((0 : Int), (([] : List Int), (([] : List Int), (([] : List Int), ((0 : Int), (([] : (List Int)), ((0 : Int), ()))))))) [] : (Rose (Int × ((List Int) × ((List Int) × ((List Int) × (Int × ((List Int) × (Int × Unit))))))))))).2.2.2.2.2.1) ((Rose.lab (v34.getD (Int.toNat v18) (Rose.node ((0 : Int), (([] : List Int), (([] : List Int), (([] : List Int), ((0 : Int), (([] : (List Int)), ((0 : Int), ()))))))) [] : (Rose (Int × ((List Int) × ((List Int) × ((List Int) × (Int × ((List Int) × (Int × Unit))))))))))).2.2.2.2.2.2.1) (Rose.kids (v34.getD (Int.toNat v18) (Rose.node ((0 : Int), (([] : List Int), (([] : List Int), (([] : List Int), ((0 : Int), (([] : (List Int)), ((0 : Int), ()))))))) [] : (Rose (Int × ((List Int) × ((List Int) × ((List Int) × (Int × ((List Int) × (Int × Unit))))))))))) (fun (v35 : Bool) =>
          bif (!v35) then
          (Kr false)
          else (l_4 v26 v34 Kr Ke0 (IntKind.i64.wrap (v18 + 1)))))))))
    else (Ke0)

def ref29_SameCmd_b {R : Type} (c_ref29_SameCmd : Int → (List Int) → (List Int) → (List Int) → Int → (List Int) → Int → (List (Rose (Int × ((List Int) × ((List Int) × ((List Int) × (Int × ((List Int) × (Int × Unit))))))))) → Int → (List Int) → (List Int) → (List Int) → Int → (List Int) → Int → (List (Rose (Int × ((List Int) × ((List Int) × ((List Int) × (Int × ((List Int) × (Int × Unit))))))))) → (Bool → Option R) → Option R) (l_4 : (List (Rose (Int × ((List Int) × ((List Int) × ((List Int) × (Int × ((List Int) × (Int × Unit))))))))) → (List (Rose (Int × ((List Int) × ((List Int) × ((List Int) × (Int × ((List Int) × (Int × Unit))))))))) → (Bool → Option R) → (Option R) → Int → Option R) (v1 : Int) (v2 : (List Int)) (v3 : (List Int)) (v4 : (List Int)) (v5 : Int) (v6 : (List Int)) (v7 : Int) (v8 : (List (Rose (Int × ((List Int) × ((List Int) × ((List Int) × (Int × ((List Int) × (Int × Unit)))))))))) (v9 : Int) (v10 : (List Int)) (v11 : (List Int)) (v12 : (List Int)) (v13 : Int) (v14 : (List Int)) (v15 : Int) (v16 : (List (Rose (Int × ((List Int) × ((List Int) × ((List Int) × (Int × ((List Int) × (Int × Unit)))))))))) (K : Bool → Option R) : Option R :=
    let j37 : Bool → Option R := fun v17 =>
    (bif v17 then
     (K false)
     else (l_4 v8 v16
      (fun (v36 : Bool) =>
       K v36)
      (K true) 0))
    (bif (!(decide (v1 = v9))) then
     (j37 true)
     else (bif (!(decide (v2 = v10))) then
      (j37 true)
      else (bif (!(decide (v3 = v11))) then
       (j37 true)
       else (bif (!(decide (v4 = v12))) then
        (j37 true)
        else (bif (!(decide (v5 = v13))) then
         (j37 true)
         else (bif (!(decide (v6 = v14))) then
          (j37 true)
          else (bif (!(decide (v7 = v15))) then
           (j37 true)
           else (j37 (!(decide ((v8.length : Int) = (v16.length : Int))))))))))))

def ref29_SameCmd_l4 {R : Type} (c_self : Int → (List Int) → (List Int) → (List Int) → Int → (List Int) → Int → (List (Rose (Int × ((List Int) × ((List Int) × ((List Int) × (Int × ((List Int) × (Int × Unit))))))))) → Int → (List Int) → (List Int) → (List Int) → Int → (List Int) → Int → (List (Rose (Int × ((List Int) × ((List Int) × ((List Int) × (Int × ((List Int) × (Int × Unit))))))))) → (Bool → Option R) → Option R) (kf : Nat) : Nat → (List (Rose (Int × ((List Int) × ((List Int) × ((List Int) × (Int × ((List Int) × (Int × Unit))))))))) → (List (Rose (Int × ((List Int) × ((List Int) × ((List Int) × (Int × ((List Int) × (Int × Unit))))))))) → (Bool → Option R) → (Option R) → Int → Option R
  | 0, _, _, _, _, _ => none
  | k + 1, y0, y1, y2, y3, y4 => ref29_SameCmd_l4_b c_self (ref29_SameCmd_l4 c_self kf k) y0 y1 y2 y3 y4

def ref29_SameCmd {R : Type} : Nat → Int → (List Int) → (List Int) → (List Int) → Int → (List Int) → Int → (List (Rose (Int × ((List Int) × ((List Int) × ((List Int) × (Int × ((List Int) × (Int × Unit))))))))) → Int → (List Int) → (List Int) → (List Int) → Int → (List Int) → Int → (List (Rose (Int × ((List Int) × ((List Int) × ((List Int) × (Int × ((List Int) × (Int × Unit))))))))) → (Bool → Option R) → Option R
  | 0, _, _, _, _, _, _, _, _, _, _, _, _, _, _, _, _, _ => none
  | kf + 1, y0, y1, y2, y3, y4, y5, y6, y7, y8, y9, y10, y11, y12, y13, y14, y15, y16 => ref29_SameCmd_b (ref29_SameCmd kf) (ref29_SameCmd_l4 (ref29_SameCmd kf) kf kf) y0 y1 y2 y3 y4 y5 y6 y7 y8 y9 y10 y11 y12 y13 y14 y15 y16

def ref11_SameVerdict_b {R : Type} (v1 : Bool) (v2 : (List Int)) (v3 : Bool) (v4 : (List Int)) (K : Bool → Option R) : Option R :=
    bif decide (v1 = v3) then
    (K (decide (v2 = v4)))
    else (K false)

def ref11_SameVerdict {R : Type} (v1 : Bool) (v2 : (List Int)) (v3 : Bool) (v4 : (List Int)) (K : Bool → Option R) : Option R := ref11_SameVerdict_b v1 v2 v3 v4 K

def ref25_SameReply_l4_b {R : Type} (c_ref11_SameVerdict : Bool → (List Int) → Bool → (List Int) → (Bool → Option R) → Option R) (l_4 : (List (List Int)) → (List (List Int)) → (Bool → Option R) → (Option R) → Int → Option R) (v23 : (List (List Int))) (v30 : (List (List Int))) (Kr : Bool → Option R) (Ke0 : Option R) (v16 : Int) : Option R :=
    bif decide (v16 < (v23.length : Int)) then
    (gd (decide (0 ≤ v16))
     (gd (decide (v16 < (v23.length : Int)))
      (gd (decide (0 ≤ v16))
       (gd (decide (v16 < (v30.length : Int)))
        (bif (!(decide ((v23.getD (Int.toNat v16) ([] : List Int)) = (v30.getD (Int.toNat v16) ([] : List Int))))) then
         (Kr false)
         else (l_4 v23 v30 Kr Ke0 (IntKind.i64.wrap (v16 + 1))))))))
    else (Ke0)

def ref25_SameReply_b {R : Type} (c_ref11_SameVerdict : Bool → (List Int) → Bool → (List Int) → (Bool → Option R) → Option R) (l_4 : (List (List Int)) → (List (List Int)) → (Bool → Option R) → (Option R) → Int → Option R) (v1 : Int) (v2 : Int) (v3 : Int) (v4 : Bool) (v5 : (List Int)) (v6 : (List Int)) (v7 : (List (List Int))) (v8 : Int) (v9 : Int) (v10 : Int) (v11 : Bool) (v12 : (List Int)) (v13 : (List Int)) (v14 : (List (List Int))) (K : Bool → Option R) : Option R :=
    let j32 : Bool → Option R := fun v15 =>
    (bif v15 then
     (K false)
     else (l_4 v7 v14
      (fun (v31 : Bool) =>
       K v31)
      (K true) 0))
    (bif (!(decide (v1 = v8))) then
     (j32 true)
     else (bif (!(decide (v2 = v9))) then
      (j32 true)
      else (bif (!(decide (v3 = v10))) then
       (j32 true)
       else (bif (!(decide (v6 = v13))) then
        (j32 true)
        else (c_ref11_SameVerdict v4 v5 v11 v12 (fun (v33 : Bool) =>
          bif (!v33) then
          (j32 true)
          else (j32 (!(decide ((v7.length : Int) = (v14.length : Int)))))))))))

def ref25_SameReply_l4 {R : Type} (kf : Nat) : Nat → (List (List Int)) → (List (List Int)) → (Bool → Option R) → (Option R) → Int → Option R
  | 0, _, _, _, _, _ => none
  | k + 1, y0, y1, y2, y3, y4 => ref25_SameReply_l4_b ref11_SameVerdict (ref25_SameReply_l4 kf k) y0 y1 y2 y3 y4

def ref25_SameReply {R : Type} (kf : Nat) (v1 : Int) (v2 : Int) (v3 : Int) (v4 : Bool) (v5 : (List Int)) (v6 : (List Int)) (v7 : (List (List Int))) (v8 : Int) (v9 : Int) (v10 : Int) (v11 : Bool) (v12 : (List Int)) (v13 : (List Int)) (v14 : (List (List Int))) (K : Bool → Option R) : Option R := ref25_SameReply_b ref11_SameVerdict (ref25_SameReply_l4 kf kf) v1 v2 v3 v4 v5 v6 v7 v8 v9 v10 v11 v12 v13 v14 K

def law29_WireReads_b {R : Type} (c_law29_begun : (Bool → Option R) → Option R) (c_law0_Twin : (List Int) → (Int → (List Int) → Option R) → Option R) (c_wire_TakeCmd : (List Int) → (Int → (List Int) → (List Int) → (List Int) → Int → Int → Int → Int → (List Int) → (List (Rose (Int × ((List Int) × ((List Int) × ((List Int) × (Int × ((List Int) × (Int × Unit))))))))) → Option R) → Option R) (c_ref29_TakeCmd : (List Int) → (Int → (List Int) → (List Int) → (List Int) → Int → Int → Int → Int → (List Int) → (List (Rose (Int × ((List Int) × ((List Int) × ((List Int) × (Int × ((List Int) × (Int × Unit))))))))) → Option R) → Option R) (c_wire_TakeReply : (List Int) → (Int → Int → Int → Bool → (List Int) → Int → Int → (List Int) → (List (List Int)) → Option R) → Option R) (c_ref29_TakeReply : (List Int) → (Int → Int → Int → Bool → (List Int) → Int → Int → (List Int) → (List (List Int)) → Option R) → Option R) (c_law0_Kept : Int → (List Int) → (List Int) → (Bool → (List Int) → Option R) → Option R) (c_ref29_SameCmd : Int → (List Int) → (List Int) → (List Int) → Int → (List Int) → Int → (List (Rose (Int × ((List Int) × ((List Int) × ((List Int) × (Int × ((List Int) × (Int × Unit))))))))) → Int → (List Int) → (List Int) → (List Int) → Int → (List Int) → Int → (List (Rose (Int × ((List Int) × ((List Int) × ((List Int) × (Int × ((List Int) × (Int × Unit))))))))) → (Bool → Option R) → Option R) (c_ref25_SameReply : Int → Int → Int → Bool → (List Int) → (List Int) → (List (List Int)) → Int → Int → Int → Bool → (List Int) → (List Int) → (List (List Int)) → (Bool → Option R) → Option R) (v1 : (List Int)) (K : Bool → Option R) : Option R :=
    c_law29_begun (fun (v2 : Bool) =>
     bif (!v2) then
     (K false)
     else (bif decide (5000 < (v1.length : Int)) then
      (K true)
      else (c_law0_Twin v1 (fun (v3 : Int) (v4 : (List Int)) =>
        c_wire_TakeCmd (v4.take (Int.toNat v3)) (fun (v5 : Int) (v6 : (List Int)) (v7 : (List Int)) (v8 : (List Int)) (v9 : Int) (v10 : Int) (v11 : Int) (v12 : Int) (v13 : (List Int)) (v14 : (List (Rose (Int × ((List Int) × ((List Int) × ((List Int) × (Int × ((List Int) × (Int × Unit)))))))))) =>
         c_ref29_TakeCmd v1 (fun (v15 : Int) (v16 : (List Int)) (v17 : (List Int)) (v18 : (List Int)) (v19 : Int) (v20 : Int) (v21 : Int) (v22 : Int) (v23 : (List Int)) (v24 : (List (Rose (Int × ((List Int) × ((List Int) × ((List Int) × (Int × ((List Int) × (Int × Unit)))))))))) =>
          c_wire_TakeReply (v4.take (Int.toNat v3)) (fun (v25 : Int) (v26 : Int) (v27 : Int) (v28 : Bool) (v29 : (List Int)) (v30 : Int) (v31 : Int) (v32 : (List Int)) (v33 : (List (List Int))) =>
           c_ref29_TakeReply v1 (fun (v34 : Int) (v35 : Int) (v36 : Int) (v37 : Bool) (v38 : (List Int)) (v39 : Int) (v40 : Int) (v41 : (List Int)) (v42 : (List (List Int))) =>
            let j47 : Bool → (List Int) → Option R := fun v43 v44 =>
            (bif v43 then
             (c_ref29_SameCmd v5 v6 v7 v8 v9 v13 v10 v14 v15 v16 v17 v18 v19 v23 v20 v24 (fun (v45 : Bool) =>
               bif v45 then
               (c_ref25_SameReply v25 v26 v27 v28 v32 v29 v33 v34 v35 v36 v37 v41 v38 v42 (fun (v46 : Bool) =>
                 K v46))
               else (K false)))
             else (K false))
            (bif decide (v11 = v21) then
             (bif decide (v12 = v22) then
              (bif decide (v30 = v39) then
               (bif decide (v31 = v40) then
                (c_law0_Kept v3 v1 v4 (fun (v48 : Bool) (v49 : (List Int)) =>
                  j47 v48 v49))
                else (j47 false v4))
               else (j47 false v4))
              else (j47 false v4))
             else (j47 false v4))))))))))

def law29_WireReads {R : Type} (kf : Nat) (v1 : (List Int)) (K : Bool → Option R) : Option R := law29_WireReads_b (law29_begun kf) (law0_Twin kf) (wire_TakeCmd kf) (ref29_TakeCmd kf) (wire_TakeReply kf) (ref29_TakeReply kf) (law0_Kept kf) (ref29_SameCmd kf) (ref25_SameReply kf) v1 K

def sh4 {R : Type} (c_law29_WireReads : (List Int) → (Bool → Option R) → Option R) (av : List S) (es : List Ent) (K : S → List Ent → Option R) : Option R :=
  match av, es with
  | [.sl (.int .u8) v1], [] => c_law29_WireReads v1 (fun (r0 : Bool) => K (.bool r0) [])
  | _, _ => none

def sh8 {R : Type} (c_law29_begun : (Bool → Option R) → Option R) (av : List S) (es : List Ent) (K : S → List Ent → Option R) : Option R :=
  match av, es with
  | [], [] => c_law29_begun (fun (r0 : Bool) => K (.bool r0) [])
  | _, _ => none

def sh10 {R : Type} (c_law0_Twin : (List Int) → (Int → (List Int) → Option R) → Option R) (av : List S) (es : List Ent) (K : S → List Ent → Option R) : Option R :=
  match av, es with
  | [.sl (.int .u8) v1], [] => c_law0_Twin v1 (fun (r0 : Int) (r1 : (List Int)) => K (.twn (.int .u8) 0 r0) [.buf (.int .u8) r1 false])
  | _, _ => none

def sh11 {R : Type} (c_wire_PutCmd : (List Int) → Int → (List Int) → (List Int) → (List Int) → Int → (List Int) → Int → (List (Rose (Int × ((List Int) × ((List Int) × ((List Int) × (Int × ((List Int) × (Int × Unit))))))))) → (Int → (List Int) → Option R) → Option R) (av : List S) (es : List Ent) (K : S → List Ent → Option R) : Option R :=
  match av, es with
  | [.sl (.int .u8) v1, .st [.int .i64 v2, .str v3, .str v4, .str v5, .int .i64 v6, .sl (.nw .u8) v7, .int .i64 v8, .sl (.rose (.pair (.int .i64) (.pair .str (.pair .str (.pair .str (.pair (.int .i64) (.pair (.slice (.nw .u8)) (.pair (.int .i64) .unit)))))))) v9]], [] => c_wire_PutCmd v1 v2 v3 v4 v5 v6 v7 v8 v9 (fun (r0 : Int) (r1 : (List Int)) => K (.tup [.own (.int .u8) 0, .int .i64 r0]) [.buf (.int .u8) r1 false])
  | _, _ => none

def sh13 {R : Type} (c_wire_PutReply : (List Int) → Int → Int → Int → Bool → (List Int) → (List Int) → (List (List Int)) → (Int → (List Int) → Option R) → Option R) (av : List S) (es : List Ent) (K : S → List Ent → Option R) : Option R :=
  match av, es with
  | [.sl (.int .u8) v1, .st [.int .i64 v2, .int .i64 v3, .int .i64 v4, .st [.bool v5, .sl (.int .u8) v6], .str v7, .sl .str v8]], [] => c_wire_PutReply v1 v2 v3 v4 v5 v6 v7 v8 (fun (r0 : Int) (r1 : (List Int)) => K (.tup [.own (.int .u8) 0, .int .i64 r0]) [.buf (.int .u8) r1 false])
  | _, _ => none

def sh15 {R : Type} (c_law0_Kept : Int → (List Int) → (List Int) → (Bool → (List Int) → Option R) → Option R) (av : List S) (es : List Ent) (K : S → List Ent → Option R) : Option R :=
  match av, es with
  | [.twn (.int .u8) 0 v1, .sl (.int .u8) v2], [.buf (.int .u8) v3 false] => c_law0_Kept v1 v2 v3 (fun (r0 : Bool) (r1 : (List Int)) => K (.bool r0) [.buf (.int .u8) r1 false])
  | _, _ => none

def sh16 {R : Type} (av : List S) (es : List Ent) (K : S → List Ent → Option R) : Option R :=
  match av, es with
  | [.own (.int .u8) 0], [.buf (.int .u8) v1 false] => K (.tup []) [.buf (.int .u8) (List.replicate v1.length (90 : Int)) false]
  | [.twn (.int .u8) 0 v2], [.buf (.int .u8) v1 false] => K (.tup []) [.buf (.int .u8) (List.replicate v1.length (90 : Int)) false]
  | _, _ => none

def sh17 {R : Type} (c_wire_TakeCmd : (List Int) → (Int → (List Int) → (List Int) → (List Int) → Int → Int → Int → Int → (List Int) → (List (Rose (Int × ((List Int) × ((List Int) × ((List Int) × (Int × ((List Int) × (Int × Unit))))))))) → Option R) → Option R) (av : List S) (es : List Ent) (K : S → List Ent → Option R) : Option R :=
  match av, es with
  | [.sl (.int .u8) v1], [] => c_wire_TakeCmd v1 (fun (r0 : Int) (r1 : (List Int)) (r2 : (List Int)) (r3 : (List Int)) (r4 : Int) (r5 : Int) (r6 : Int) (r7 : Int) (r8 : (List Int)) (r9 : (List (Rose (Int × ((List Int) × ((List Int) × ((List Int) × (Int × ((List Int) × (Int × Unit)))))))))) => K (.tup [.st [.int .i64 r0, .str r1, .str r2, .str r3, .int .i64 r4, .own (.int .u8) 0, .int .i64 r5, .own (.rose (.pair (.int .i64) (.pair .str (.pair .str (.pair .str (.pair (.int .i64) (.pair (.slice (.nw .u8)) (.pair (.int .i64) .unit)))))))) 1], .int .i64 r6, .int .i64 r7]) [.buf (.int .u8) r8 false, .buf (.rose (.pair (.int .i64) (.pair .str (.pair .str (.pair .str (.pair (.int .i64) (.pair (.slice (.nw .u8)) (.pair (.int .i64) .unit)))))))) r9 false])
  | _, _ => none

def sh18 {R : Type} (c_ref29_TakeCmd : (List Int) → (Int → (List Int) → (List Int) → (List Int) → Int → Int → Int → Int → (List Int) → (List (Rose (Int × ((List Int) × ((List Int) × ((List Int) × (Int × ((List Int) × (Int × Unit))))))))) → Option R) → Option R) (av : List S) (es : List Ent) (K : S → List Ent → Option R) : Option R :=
  match av, es with
  | [.sl (.int .u8) v1], [] => c_ref29_TakeCmd v1 (fun (r0 : Int) (r1 : (List Int)) (r2 : (List Int)) (r3 : (List Int)) (r4 : Int) (r5 : Int) (r6 : Int) (r7 : Int) (r8 : (List Int)) (r9 : (List (Rose (Int × ((List Int) × ((List Int) × ((List Int) × (Int × ((List Int) × (Int × Unit)))))))))) => K (.tup [.st [.int .i64 r0, .str r1, .str r2, .str r3, .int .i64 r4, .own (.int .u8) 0, .int .i64 r5, .own (.rose (.pair (.int .i64) (.pair .str (.pair .str (.pair .str (.pair (.int .i64) (.pair (.slice (.nw .u8)) (.pair (.int .i64) .unit)))))))) 1], .int .i64 r6, .int .i64 r7]) [.buf (.int .u8) r8 false, .buf (.rose (.pair (.int .i64) (.pair .str (.pair .str (.pair .str (.pair (.int .i64) (.pair (.slice (.nw .u8)) (.pair (.int .i64) .unit)))))))) r9 false])
  | _, _ => none

def sh19 {R : Type} (c_wire_TakeReply : (List Int) → (Int → Int → Int → Bool → (List Int) → Int → Int → (List Int) → (List (List Int)) → Option R) → Option R) (av : List S) (es : List Ent) (K : S → List Ent → Option R) : Option R :=
  match av, es with
  | [.sl (.int .u8) v1], [] => c_wire_TakeReply v1 (fun (r0 : Int) (r1 : Int) (r2 : Int) (r3 : Bool) (r4 : (List Int)) (r5 : Int) (r6 : Int) (r7 : (List Int)) (r8 : (List (List Int))) => K (.tup [.st [.int .i64 r0, .int .i64 r1, .int .i64 r2, .st [.bool r3, .own (.int .u8) 0], .str r4, .own .str 1], .int .i64 r5, .int .i64 r6]) [.buf (.int .u8) r7 false, .buf .str r8 false])
  | _, _ => none

def sh20 {R : Type} (c_ref29_TakeReply : (List Int) → (Int → Int → Int → Bool → (List Int) → Int → Int → (List Int) → (List (List Int)) → Option R) → Option R) (av : List S) (es : List Ent) (K : S → List Ent → Option R) : Option R :=
  match av, es with
  | [.sl (.int .u8) v1], [] => c_ref29_TakeReply v1 (fun (r0 : Int) (r1 : Int) (r2 : Int) (r3 : Bool) (r4 : (List Int)) (r5 : Int) (r6 : Int) (r7 : (List Int)) (r8 : (List (List Int))) => K (.tup [.st [.int .i64 r0, .int .i64 r1, .int .i64 r2, .st [.bool r3, .own (.int .u8) 0], .str r4, .own .str 1], .int .i64 r5, .int .i64 r6]) [.buf (.int .u8) r7 false, .buf .str r8 false])
  | _, _ => none

def sh21 {R : Type} (c_ref29_SameCmd : Int → (List Int) → (List Int) → (List Int) → Int → (List Int) → Int → (List (Rose (Int × ((List Int) × ((List Int) × ((List Int) × (Int × ((List Int) × (Int × Unit))))))))) → Int → (List Int) → (List Int) → (List Int) → Int → (List Int) → Int → (List (Rose (Int × ((List Int) × ((List Int) × ((List Int) × (Int × ((List Int) × (Int × Unit))))))))) → (Bool → Option R) → Option R) (av : List S) (es : List Ent) (K : S → List Ent → Option R) : Option R :=
  match av, es with
  | [.st [.int .i64 v1, .str v2, .str v3, .str v4, .int .i64 v5, .sl (.nw .u8) v6, .int .i64 v7, .sl (.rose (.pair (.int .i64) (.pair .str (.pair .str (.pair .str (.pair (.int .i64) (.pair (.slice (.nw .u8)) (.pair (.int .i64) .unit)))))))) v8], .st [.int .i64 v9, .str v10, .str v11, .str v12, .int .i64 v13, .sl (.nw .u8) v14, .int .i64 v15, .sl (.rose (.pair (.int .i64) (.pair .str (.pair .str (.pair .str (.pair (.int .i64) (.pair (.slice (.nw .u8)) (.pair (.int .i64) .unit)))))))) v16]], [] => c_ref29_SameCmd v1 v2 v3 v4 v5 v6 v7 v8 v9 v10 v11 v12 v13 v14 v15 v16 (fun (r0 : Bool) => K (.bool r0) [])
  | _, _ => none

def sh22 {R : Type} (c_ref25_SameReply : Int → Int → Int → Bool → (List Int) → (List Int) → (List (List Int)) → Int → Int → Int → Bool → (List Int) → (List Int) → (List (List Int)) → (Bool → Option R) → Option R) (av : List S) (es : List Ent) (K : S → List Ent → Option R) : Option R :=
  match av, es with
  | [.st [.int .i64 v1, .int .i64 v2, .int .i64 v3, .st [.bool v4, .sl (.int .u8) v5], .str v6, .sl .str v7], .st [.int .i64 v8, .int .i64 v9, .int .i64 v10, .st [.bool v11, .sl (.int .u8) v12], .str v13, .sl .str v14]], [] => c_ref25_SameReply v1 v2 v3 v4 v5 v6 v7 v8 v9 v10 v11 v12 v13 v14 (fun (r0 : Bool) => K (.bool r0) [])
  | _, _ => none

def sh24 {R : Type} (c_wire_writer_cmd : Int → (List Int) → (List Int) → (List Int) → Int → (List Int) → Int → (List (Rose (Int × ((List Int) × ((List Int) × ((List Int) × (Int × ((List Int) × (Int × Unit))))))))) → Bool → Err → (List Int) → (Err → (List Int) → Option R) → Option R) (av : List S) (es : List Ent) (K : S → List Ent → Option R) : Option R :=
  match av, es with
  | [.ptr 0 [], .st [.int .i64 v1, .str v2, .str v3, .str v4, .int .i64 v5, .sl (.nw .u8) v6, .int .i64 v7, .sl (.rose (.pair (.int .i64) (.pair .str (.pair .str (.pair .str (.pair (.int .i64) (.pair (.slice (.nw .u8)) (.pair (.int .i64) .unit)))))))) v8], .bool v9], [.box (.st [.own (.int .u8) 1, .err v10]) false, .buf (.int .u8) v11 false] => c_wire_writer_cmd v1 v2 v3 v4 v5 v6 v7 v8 v9 v10 v11 (fun (r0 : Err) (r1 : (List Int)) => K (.tup []) [.box (.st [.own (.int .u8) 1, .err r0]) false, .buf (.int .u8) r1 false])
  | _, _ => none

def sh25 {R : Type} (c_wire_code : Err → (Int → Option R) → Option R) (av : List S) (es : List Ent) (K : S → List Ent → Option R) : Option R :=
  match av, es with
  | [.err v1], [] => c_wire_code v1 (fun (r0 : Int) => K (.int .i64 r0) [])
  | _, _ => none

def sh28 {R : Type} (c_wire_writer_num : Int → Int → Int → Err → (List Int) → (Err → (List Int) → Option R) → Option R) (av : List S) (es : List Ent) (K : S → List Ent → Option R) : Option R :=
  match av, es with
  | [.ptr 0 [], .int .i64 v1, .int .i64 v2, .int .i64 v3], [.box (.st [.own (.int .u8) 1, .err v4]) false, .buf (.int .u8) v5 false] => c_wire_writer_num v1 v2 v3 v4 v5 (fun (r0 : Err) (r1 : (List Int)) => K (.tup []) [.box (.st [.own (.int .u8) 1, .err r0]) false, .buf (.int .u8) r1 false])
  | _, _ => none

def sh29 {R : Type} (c_wire_writer_text : (List Int) → Err → (List Int) → (Err → (List Int) → Option R) → Option R) (av : List S) (es : List Ent) (K : S → List Ent → Option R) : Option R :=
  match av, es with
  | [.ptr 0 [], .str v1], [.box (.st [.own (.int .u8) 1, .err v2]) false, .buf (.int .u8) v3 false] => c_wire_writer_text v1 v2 v3 (fun (r0 : Err) (r1 : (List Int)) => K (.tup []) [.box (.st [.own (.int .u8) 1, .err r0]) false, .buf (.int .u8) r1 false])
  | _, _ => none

def sh34 {R : Type} (c_wire_reader_cmd : Bool → (List Int) → Err → (Int → (List Int) → (List Int) → (List Int) → Int → Int → (List Int) → Err → (List Int) → (List (Rose (Int × ((List Int) × ((List Int) × ((List Int) × (Int × ((List Int) × (Int × Unit))))))))) → Option R) → Option R) (av : List S) (es : List Ent) (K : S → List Ent → Option R) : Option R :=
  match av, es with
  | [.ptr 0 [], .bool v1], [.box (.st [.sl (.int .u8) v2, .err v3]) false] => c_wire_reader_cmd v1 v2 v3 (fun (r0 : Int) (r1 : (List Int)) (r2 : (List Int)) (r3 : (List Int)) (r4 : Int) (r5 : Int) (r6 : (List Int)) (r7 : Err) (r8 : (List Int)) (r9 : (List (Rose (Int × ((List Int) × ((List Int) × ((List Int) × (Int × ((List Int) × (Int × Unit)))))))))) => K (.st [.int .i64 r0, .str r1, .str r2, .str r3, .int .i64 r4, .own (.int .u8) 1, .int .i64 r5, .own (.rose (.pair (.int .i64) (.pair .str (.pair .str (.pair .str (.pair (.int .i64) (.pair (.slice (.nw .u8)) (.pair (.int .i64) .unit)))))))) 2]) [.box (.st [.sl (.int .u8) r6, .err r7]) false, .buf (.int .u8) r8 false, .buf (.rose (.pair (.int .i64) (.pair .str (.pair .str (.pair .str (.pair (.int .i64) (.pair (.slice (.nw .u8)) (.pair (.int .i64) .unit)))))))) r9 false])
  | _, _ => none

def sh35 {R : Type} (c_ref29_reader_cmd : Bool → (List Int) → Int → Int → (Int → (List Int) → (List Int) → (List Int) → Int → Int → (List Int) → Int → Int → (List Int) → (List (Rose (Int × ((List Int) × ((List Int) × ((List Int) × (Int × ((List Int) × (Int × Unit))))))))) → Option R) → Option R) (av : List S) (es : List Ent) (K : S → List Ent → Option R) : Option R :=
  match av, es with
  | [.ptr 0 [], .bool v1], [.box (.st [.sl (.int .u8) v2, .int .i64 v3, .int .i64 v4]) false] => c_ref29_reader_cmd v1 v2 v3 v4 (fun (r0 : Int) (r1 : (List Int)) (r2 : (List Int)) (r3 : (List Int)) (r4 : Int) (r5 : Int) (r6 : (List Int)) (r7 : Int) (r8 : Int) (r9 : (List Int)) (r10 : (List (Rose (Int × ((List Int) × ((List Int) × ((List Int) × (Int × ((List Int) × (Int × Unit)))))))))) => K (.st [.int .i64 r0, .str r1, .str r2, .str r3, .int .i64 r4, .own (.int .u8) 1, .int .i64 r5, .own (.rose (.pair (.int .i64) (.pair .str (.pair .str (.pair .str (.pair (.int .i64) (.pair (.slice (.nw .u8)) (.pair (.int .i64) .unit)))))))) 2]) [.box (.st [.sl (.int .u8) r6, .int .i64 r7, .int .i64 r8]) false, .buf (.int .u8) r9 false, .buf (.rose (.pair (.int .i64) (.pair .str (.pair .str (.pair .str (.pair (.int .i64) (.pair (.slice (.nw .u8)) (.pair (.int .i64) .unit)))))))) r10 false])
  | _, _ => none

def sh36 {R : Type} (c_wire_reader_num : Int → (List Int) → Err → (Int → (List Int) → Err → Option R) → Option R) (av : List S) (es : List Ent) (K : S → List Ent → Option R) : Option R :=
  match av, es with
  | [.ptr 0 [], .int .i64 v1], [.box (.st [.sl (.int .u8) v2, .err v3]) false] => c_wire_reader_num v1 v2 v3 (fun (r0 : Int) (r1 : (List Int)) (r2 : Err) => K (.int .i64 r0) [.box (.st [.sl (.int .u8) r1, .err r2]) false])
  | _, _ => none

def sh37 {R : Type} (c_wire_reader_fails : Int → (List Int) → Err → ((List Int) → Err → Option R) → Option R) (av : List S) (es : List Ent) (K : S → List Ent → Option R) : Option R :=
  match av, es with
  | [.ptr 0 [], .int .i64 v1], [.box (.st [.sl (.int .u8) v2, .err v3]) false] => c_wire_reader_fails v1 v2 v3 (fun (r0 : (List Int)) (r1 : Err) => K (.tup []) [.box (.st [.sl (.int .u8) r0, .err r1]) false])
  | _, _ => none

def sh38 {R : Type} (c_wire_reader_text : (List Int) → Err → ((List Int) → (List Int) → Err → Option R) → Option R) (av : List S) (es : List Ent) (K : S → List Ent → Option R) : Option R :=
  match av, es with
  | [.ptr 0 []], [.box (.st [.sl (.int .u8) v1, .err v2]) false] => c_wire_reader_text v1 v2 (fun (r0 : (List Int)) (r1 : (List Int)) (r2 : Err) => K (.str r0) [.box (.st [.sl (.int .u8) r1, .err r2]) false])
  | _, _ => none

def sh39 {R : Type} (c_ref29_reader_num : Int → (List Int) → Int → Int → (Int → (List Int) → Int → Int → Option R) → Option R) (av : List S) (es : List Ent) (K : S → List Ent → Option R) : Option R :=
  match av, es with
  | [.ptr 0 [], .int .i64 v1], [.box (.st [.sl (.int .u8) v2, .int .i64 v3, .int .i64 v4]) false] => c_ref29_reader_num v1 v2 v3 v4 (fun (r0 : Int) (r1 : (List Int)) (r2 : Int) (r3 : Int) => K (.int .i64 r0) [.box (.st [.sl (.int .u8) r1, .int .i64 r2, .int .i64 r3]) false])
  | _, _ => none

def sh40 {R : Type} (c_ref29_reader_fail : Int → (List Int) → Int → Int → ((List Int) → Int → Int → Option R) → Option R) (av : List S) (es : List Ent) (K : S → List Ent → Option R) : Option R :=
  match av, es with
  | [.ptr 0 [], .int .i64 v1], [.box (.st [.sl (.int .u8) v2, .int .i64 v3, .int .i64 v4]) false] => c_ref29_reader_fail v1 v2 v3 v4 (fun (r0 : (List Int)) (r1 : Int) (r2 : Int) => K (.tup []) [.box (.st [.sl (.int .u8) r0, .int .i64 r1, .int .i64 r2]) false])
  | _, _ => none

def sh41 {R : Type} (c_ref29_reader_bytes : (List Int) → Int → Int → ((List Int) → Int → Int → (List Int) → Option R) → Option R) (av : List S) (es : List Ent) (K : S → List Ent → Option R) : Option R :=
  match av, es with
  | [.ptr 0 []], [.box (.st [.sl (.int .u8) v1, .int .i64 v2, .int .i64 v3]) false] => c_ref29_reader_bytes v1 v2 v3 (fun (r0 : (List Int)) (r1 : Int) (r2 : Int) (r3 : (List Int)) => K (.own (.int .u8) 1) [.box (.st [.sl (.int .u8) r0, .int .i64 r1, .int .i64 r2]) false, .buf (.int .u8) r3 false])
  | _, _ => none

def sh42 {R : Type} (c_ref11_SameVerdict : Bool → (List Int) → Bool → (List Int) → (Bool → Option R) → Option R) (av : List S) (es : List Ent) (K : S → List Ent → Option R) : Option R :=
  match av, es with
  | [.st [.bool v1, .sl (.int .u8) v2], .st [.bool v3, .sl (.int .u8) v4]], [] => c_ref11_SameVerdict v1 v2 v3 v4 (fun (r0 : Bool) => K (.bool r0) [])
  | _, _ => none

def sh43 {R : Type} (c_wire_blank : Int → (List Int) → (List Int) → (List Int) → Int → (List Int) → Int → (List (Rose (Int × ((List Int) × ((List Int) × ((List Int) × (Int × ((List Int) × (Int × Unit))))))))) → (Bool → Option R) → Option R) (av : List S) (es : List Ent) (K : S → List Ent → Option R) : Option R :=
  match av, es with
  | [.st [.int .i64 v1, .str v2, .str v3, .str v4, .int .i64 v5, .sl (.nw .u8) v6, .int .i64 v7, .sl (.rose (.pair (.int .i64) (.pair .str (.pair .str (.pair .str (.pair (.int .i64) (.pair (.slice (.nw .u8)) (.pair (.int .i64) .unit)))))))) v8]], [] => c_wire_blank v1 v2 v3 v4 v5 v6 v7 v8 (fun (r0 : Bool) => K (.bool r0) [])
  | _, _ => none

def sh44 {R : Type} (c_wire_rest : Int → (List Int) → (List Int) → (List Int) → Int → (List Int) → Int → (List (Rose (Int × ((List Int) × ((List Int) × ((List Int) × (Int × ((List Int) × (Int × Unit))))))))) → (Int → (List Int) → (List Int) → (List Int) → Int → (List Int) → Int → (List (Rose (Int × ((List Int) × ((List Int) × ((List Int) × (Int × ((List Int) × (Int × Unit))))))))) → Option R) → Option R) (av : List S) (es : List Ent) (K : S → List Ent → Option R) : Option R :=
  match av, es with
  | [.st [.int .i64 v1, .str v2, .str v3, .str v4, .int .i64 v5, .sl (.nw .u8) v6, .int .i64 v7, .sl (.rose (.pair (.int .i64) (.pair .str (.pair .str (.pair .str (.pair (.int .i64) (.pair (.slice (.nw .u8)) (.pair (.int .i64) .unit)))))))) v8]], [] => c_wire_rest v1 v2 v3 v4 v5 v6 v7 v8 (fun (r0 : Int) (r1 : (List Int)) (r2 : (List Int)) (r3 : (List Int)) (r4 : Int) (r5 : (List Int)) (r6 : Int) (r7 : (List (Rose (Int × ((List Int) × ((List Int) × ((List Int) × (Int × ((List Int) × (Int × Unit)))))))))) => K (.st [.int .i64 r0, .str r1, .str r2, .str r3, .int .i64 r4, .sl (.nw .u8) r5, .int .i64 r6, .sl (.rose (.pair (.int .i64) (.pair .str (.pair .str (.pair .str (.pair (.int .i64) (.pair (.slice (.nw .u8)) (.pair (.int .i64) .unit)))))))) r7]) [])
  | _, _ => none

def sh45 {R : Type} (c_wire_bad : Int → (Err → Option R) → Option R) (av : List S) (es : List Ent) (K : S → List Ent → Option R) : Option R :=
  match av, es with
  | [.int .i64 v1], [] => c_wire_bad v1 (fun (r0 : Err) => K (.err r0) [])
  | _, _ => none

def sh46 {R : Type} (av : List S) (es : List Ent) (K : S → List Ent → Option R) : Option R :=
  match av, es with
  | [.err v1, .iface 84 (.ptr 0 [])], [.box .nilp false] => gd (Err.fit [(82, 1)] [(93, 0, 0)] v1) (optK (Err.find 82 v1) (fun (v : Err) => K (.bool true) [.box (.iref (.pair (.int .i64) .unit) ((Err.num 0 v), ())) false]) (K (.bool false) [.box .nilp false]))
  | _, _ => none

def sh47 {R : Type} (c_ref29_fields : Int → ((List Int) → Option R) → Option R) (av : List S) (es : List Ent) (K : S → List Ent → Option R) : Option R :=
  match av, es with
  | [.int .i64 v1], [] => c_ref29_fields v1 (fun (r0 : (List Int)) => K (.str r0) [])
  | _, _ => none

def sh49 {R : Type} (c_octet_Put : (List Int) → Int → Int → ((List Int) → Option R) → Option R) (av : List S) (es : List Ent) (K : S → List Ent → Option R) : Option R :=
  match av, es with
  | [.sl (.int .u8) v1, .int .u64 v2, .int .i64 v3], [] => c_octet_Put v1 v2 v3 (fun (r0 : (List Int)) => K (.own (.int .u8) 0) [.buf (.int .u8) r0 false])
  | _, _ => none

def sh50 {R : Type} (c_octet_Text : (List Int) → (List Int) → ((List Int) → Option R) → Option R) (av : List S) (es : List Ent) (K : S → List Ent → Option R) : Option R :=
  match av, es with
  | [.sl (.int .u8) v1, .sl (.int .u8) v2], [] => c_octet_Text v1 v2 (fun (r0 : (List Int)) => K (.own (.int .u8) 0) [.buf (.int .u8) r0 false])
  | _, _ => none

def sh52 {R : Type} (c_octet_Take : (List Int) → Int → Int → (Int → Int → Option R) → Option R) (av : List S) (es : List Ent) (K : S → List Ent → Option R) : Option R :=
  match av, es with
  | [.sl (.int .u8) v1, .int .i64 v2, .int .i64 v3], [] => c_octet_Take v1 v2 v3 (fun (r0 : Int) (r1 : Int) => K (.tup [.int .u64 r0, .int .i64 r1]) [])
  | _, _ => none

def sh53 {R : Type} (c_octet_TakeText : (List Int) → Int → (Int → Int → (List Int) → Option R) → Option R) (av : List S) (es : List Ent) (K : S → List Ent → Option R) : Option R :=
  match av, es with
  | [.sl (.int .u8) v1, .int .i64 v2], [] => c_octet_TakeText v1 v2 (fun (r0 : Int) (r1 : Int) (r2 : (List Int)) => K (.tup [.own (.int .u8) 0, .int .i64 r0, .int .i64 r1]) [.buf (.int .u8) r2 false])
  | _, _ => none

def sh54 {R : Type} (c_ref1_Take : (List Int) → Int → Int → (Int → Int → Option R) → Option R) (av : List S) (es : List Ent) (K : S → List Ent → Option R) : Option R :=
  match av, es with
  | [.sl (.int .u8) v1, .int .i64 v2, .int .i64 v3], [] => c_ref1_Take v1 v2 v3 (fun (r0 : Int) (r1 : Int) => K (.tup [.int .u64 r0, .int .i64 r1]) [])
  | _, _ => none

def sh55 {R : Type} (c_ref1_TakeText : (List Int) → Int → (Int → Int → (List Int) → Option R) → Option R) (av : List S) (es : List Ent) (K : S → List Ent → Option R) : Option R :=
  match av, es with
  | [.sl (.int .u8) v1, .int .i64 v2], [] => c_ref1_TakeText v1 v2 (fun (r0 : Int) (r1 : Int) (r2 : (List Int)) => K (.tup [.own (.int .u8) 0, .int .i64 r0, .int .i64 r1]) [.buf (.int .u8) r2 false])
  | _, _ => none

end
end Go.Ab.T
