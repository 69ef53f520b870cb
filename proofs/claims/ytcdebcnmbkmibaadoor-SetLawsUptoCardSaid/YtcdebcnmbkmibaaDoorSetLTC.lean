/- SetLTC: a part of the proofs of this seat's statements. -/
import Derived.Test.YtcdebcnmbkmibaaDoorSetLTB
import Derived.Test.YtcdebcnmbkmibaaDoorKnot


namespace Go.Ab.T

open Go Go.Ab Go.Proofs

set_option maxRecDepth 100000

set_option linter.unusedVariables false

noncomputable section

def Ok_law4_SetLaws {R : Type} (c : (List Int) → (List Int) → (List Int) → Int → (Bool → Option R) → Option R) : Prop := ∀ (v1 : (List Int)) (v2 : (List Int)) (v3 : (List Int)) (v4 : Int) (K : S → List Ent → Option R) (r : R), c v1 v2 v3 v4 (fun (r0 : Bool) => K (.bool r0) []) = some r → ∃ v es, FnOk Tryd.prog glob 5 (npF raw 5 []) [.arr 4 (.int .u64) v1, .arr 4 (.int .u64) v2, .arr 4 (.int .u64) v3, .int .u8 v4] [] v es ∧ K v es = some r

theorem okn_law4_SetLaws {R : Type} : Ok_law4_SetLaws (R := R) (fun _ _ _ _ _ => none) := fun _ _ _ _ _ _ h => no_some h

theorem shok_5 {R : Type} {c_law4_SetLaws : (List Int) → (List Int) → (List Int) → Int → (Bool → Option R) → Option R} (h_law4_SetLaws : Ok_law4_SetLaws c_law4_SetLaws) : ShOk Tryd.prog glob raw 5 (sh5 c_law4_SetLaws) := by
  intro av es K r h
  unfold sh5 at h
  split at h
  · exact h_law4_SetLaws _ _ _ _ _ _ h
  · exact no_some h

def Ok_law4_begun {R : Type} (c : (Bool → Option R) → Option R) : Prop := ∀ (K : S → List Ent → Option R) (r : R), c (fun (r0 : Bool) => K (.bool r0) []) = some r → ∃ v es, FnOk Tryd.prog glob 10 (npF raw 10 []) [] [] v es ∧ K v es = some r

theorem okn_law4_begun {R : Type} : Ok_law4_begun (R := R) (fun _ => none) := fun _ _ h => no_some h

theorem shok_10 {R : Type} {c_law4_begun : (Bool → Option R) → Option R} (h_law4_begun : Ok_law4_begun c_law4_begun) : ShOk Tryd.prog glob raw 10 (sh10 c_law4_begun) := by
  intro av es K r h
  unfold sh10 at h
  split at h
  · exact h_law4_begun _ _ h
  · exact no_some h

def Ok_byteset_Of {R : Type} (c : (List Int) → ((List Int) → Option R) → Option R) : Prop := ∀ (v1 : (List Int)) (K : S → List Ent → Option R) (r : R), c v1 (fun (r0 : (List Int)) => K (.arr 4 (.int .u64) r0) []) = some r → ∃ v es, FnOk Tryd.prog glob 11 (npF raw 11 []) [.sl (.int .u8) v1] [] v es ∧ K v es = some r

theorem okn_byteset_Of {R : Type} : Ok_byteset_Of (R := R) (fun _ _ => none) := fun _ _ _ h => no_some h

theorem shok_11 {R : Type} {c_byteset_Of : (List Int) → ((List Int) → Option R) → Option R} (h_byteset_Of : Ok_byteset_Of c_byteset_Of) : ShOk Tryd.prog glob raw 11 (sh11 c_byteset_Of) := by
  intro av es K r h
  unfold sh11 at h
  split at h
  · exact h_byteset_Of _ _ _ h
  · exact no_some h

def Ok_byteset_Range {R : Type} (c : Int → Int → ((List Int) → Option R) → Option R) : Prop := ∀ (v1 : Int) (v2 : Int) (K : S → List Ent → Option R) (r : R), c v1 v2 (fun (r0 : (List Int)) => K (.arr 4 (.int .u64) r0) []) = some r → ∃ v es, FnOk Tryd.prog glob 13 (npF raw 13 []) [.int .u8 v1, .int .u8 v2] [] v es ∧ K v es = some r

theorem okn_byteset_Range {R : Type} : Ok_byteset_Range (R := R) (fun _ _ _ => none) := fun _ _ _ _ h => no_some h

theorem shok_13 {R : Type} {c_byteset_Range : Int → Int → ((List Int) → Option R) → Option R} (h_byteset_Range : Ok_byteset_Range c_byteset_Range) : ShOk Tryd.prog glob raw 13 (sh13 c_byteset_Range) := by
  intro av es K r h
  unfold sh13 at h
  split at h
  · exact h_byteset_Range _ _ _ _ h
  · exact no_some h

def Ok_byteset_Or {R : Type} (c : (List Int) → (List Int) → ((List Int) → Option R) → Option R) : Prop := ∀ (v1 : (List Int)) (v2 : (List Int)) (K : S → List Ent → Option R) (r : R), c v1 v2 (fun (r0 : (List Int)) => K (.arr 4 (.int .u64) r0) []) = some r → ∃ v es, FnOk Tryd.prog glob 15 (npF raw 15 []) [.arr 4 (.int .u64) v1, .arr 4 (.int .u64) v2] [] v es ∧ K v es = some r

theorem okn_byteset_Or {R : Type} : Ok_byteset_Or (R := R) (fun _ _ _ => none) := fun _ _ _ _ h => no_some h

theorem shok_15 {R : Type} {c_byteset_Or : (List Int) → (List Int) → ((List Int) → Option R) → Option R} (h_byteset_Or : Ok_byteset_Or c_byteset_Or) : ShOk Tryd.prog glob raw 15 (sh15 c_byteset_Or) := by
  intro av es K r h
  unfold sh15 at h
  split at h
  · exact h_byteset_Or _ _ _ _ h
  · exact no_some h

def Ok_byteset_And {R : Type} (c : (List Int) → (List Int) → ((List Int) → Option R) → Option R) : Prop := ∀ (v1 : (List Int)) (v2 : (List Int)) (K : S → List Ent → Option R) (r : R), c v1 v2 (fun (r0 : (List Int)) => K (.arr 4 (.int .u64) r0) []) = some r → ∃ v es, FnOk Tryd.prog glob 17 (npF raw 17 []) [.arr 4 (.int .u64) v1, .arr 4 (.int .u64) v2] [] v es ∧ K v es = some r

theorem okn_byteset_And {R : Type} : Ok_byteset_And (R := R) (fun _ _ _ => none) := fun _ _ _ _ h => no_some h

theorem shok_17 {R : Type} {c_byteset_And : (List Int) → (List Int) → ((List Int) → Option R) → Option R} (h_byteset_And : Ok_byteset_And c_byteset_And) : ShOk Tryd.prog glob raw 17 (sh17 c_byteset_And) := by
  intro av es K r h
  unfold sh17 at h
  split at h
  · exact h_byteset_And _ _ _ _ h
  · exact no_some h

def Ok_byteset_Not {R : Type} (c : (List Int) → ((List Int) → Option R) → Option R) : Prop := ∀ (v1 : (List Int)) (K : S → List Ent → Option R) (r : R), c v1 (fun (r0 : (List Int)) => K (.arr 4 (.int .u64) r0) []) = some r → ∃ v es, FnOk Tryd.prog glob 19 (npF raw 19 []) [.arr 4 (.int .u64) v1] [] v es ∧ K v es = some r

theorem okn_byteset_Not {R : Type} : Ok_byteset_Not (R := R) (fun _ _ => none) := fun _ _ _ h => no_some h

theorem shok_19 {R : Type} {c_byteset_Not : (List Int) → ((List Int) → Option R) → Option R} (h_byteset_Not : Ok_byteset_Not c_byteset_Not) : ShOk Tryd.prog glob raw 19 (sh19 c_byteset_Not) := by
  intro av es K r h
  unfold sh19 at h
  split at h
  · exact h_byteset_Not _ _ _ h
  · exact no_some h

def Ok_byteset_List {R : Type} (c : (List Int) → ((List Int) → Option R) → Option R) : Prop := ∀ (v1 : (List Int)) (K : S → List Ent → Option R) (r : R), c v1 (fun (r0 : (List Int)) => K (.own (.int .u8) 0) [.buf (.int .u8) r0 false]) = some r → ∃ v es, FnOk Tryd.prog glob 21 (npF raw 21 []) [.arr 4 (.int .u64) v1] [] v es ∧ K v es = some r

theorem okn_byteset_List {R : Type} : Ok_byteset_List (R := R) (fun _ _ => none) := fun _ _ _ h => no_some h

theorem shok_21 {R : Type} {c_byteset_List : (List Int) → ((List Int) → Option R) → Option R} (h_byteset_List : Ok_byteset_List c_byteset_List) : ShOk Tryd.prog glob raw 21 (sh21 c_byteset_List) := by
  intro av es K r h
  unfold sh21 at h
  split at h
  · exact h_byteset_List _ _ _ h
  · exact no_some h

def Ok_byteset_Len {R : Type} (c : (List Int) → (Int → Option R) → Option R) : Prop := ∀ (v1 : (List Int)) (K : S → List Ent → Option R) (r : R), c v1 (fun (r0 : Int) => K (.int .i64 r0) []) = some r → ∃ v es, FnOk Tryd.prog glob 23 (npF raw 23 []) [.arr 4 (.int .u64) v1] [] v es ∧ K v es = some r

theorem okn_byteset_Len {R : Type} : Ok_byteset_Len (R := R) (fun _ _ => none) := fun _ _ _ h => no_some h

theorem shok_23 {R : Type} {c_byteset_Len : (List Int) → (Int → Option R) → Option R} (h_byteset_Len : Ok_byteset_Len c_byteset_Len) : ShOk Tryd.prog glob raw 23 (sh23 c_byteset_Len) := by
  intro av es K r h
  unfold sh23 at h
  split at h
  · exact h_byteset_Len _ _ _ h
  · exact no_some h

def Ok_byteset_Less {R : Type} (c : (List Int) → (List Int) → (Bool → Option R) → Option R) : Prop := ∀ (v1 : (List Int)) (v2 : (List Int)) (K : S → List Ent → Option R) (r : R), c v1 v2 (fun (r0 : Bool) => K (.bool r0) []) = some r → ∃ v es, FnOk Tryd.prog glob 24 (npF raw 24 []) [.arr 4 (.int .u64) v1, .arr 4 (.int .u64) v2] [] v es ∧ K v es = some r

theorem okn_byteset_Less {R : Type} : Ok_byteset_Less (R := R) (fun _ _ _ => none) := fun _ _ _ _ h => no_some h

theorem shok_24 {R : Type} {c_byteset_Less : (List Int) → (List Int) → (Bool → Option R) → Option R} (h_byteset_Less : Ok_byteset_Less c_byteset_Less) : ShOk Tryd.prog glob raw 24 (sh24 c_byteset_Less) := by
  intro av es K r h
  unfold sh24 at h
  split at h
  · exact h_byteset_Less _ _ _ _ h
  · exact no_some h

def Ok_byteset_Has {R : Type} (c : (List Int) → Int → (Bool → Option R) → Option R) : Prop := ∀ (v1 : (List Int)) (v2 : Int) (K : S → List Ent → Option R) (r : R), c v1 v2 (fun (r0 : Bool) => K (.bool r0) []) = some r → ∃ v es, FnOk Tryd.prog glob 26 (npF raw 26 []) [.arr 4 (.int .u64) v1, .int .u8 v2] [] v es ∧ K v es = some r

theorem okn_byteset_Has {R : Type} : Ok_byteset_Has (R := R) (fun _ _ _ => none) := fun _ _ _ _ h => no_some h

theorem shok_26 {R : Type} {c_byteset_Has : (List Int) → Int → (Bool → Option R) → Option R} (h_byteset_Has : Ok_byteset_Has c_byteset_Has) : ShOk Tryd.prog glob raw 26 (sh26 c_byteset_Has) := by
  intro av es K r h
  unfold sh26 at h
  split at h
  · exact h_byteset_Has _ _ _ _ h
  · exact no_some h

def Ok_byteset_Parts {R : Type} (c : (List (List Int)) → ((List (List Int)) → Option R) → Option R) : Prop := ∀ (v1 : (List (List Int))) (K : S → List Ent → Option R) (r : R), c v1 (fun (r0 : (List (List Int))) => K (.own (.arr 4 (.int .u64)) 0) [.buf (.arr 4 (.int .u64)) r0 false]) = some r → ∃ v es, FnOk Tryd.prog glob 28 (npF raw 28 []) [.sl (.arr 4 (.int .u64)) v1] [] v es ∧ K v es = some r

theorem okn_byteset_Parts {R : Type} : Ok_byteset_Parts (R := R) (fun _ _ => none) := fun _ _ _ h => no_some h

theorem shok_28 {R : Type} {c_byteset_Parts : (List (List Int)) → ((List (List Int)) → Option R) → Option R} (h_byteset_Parts : Ok_byteset_Parts c_byteset_Parts) : ShOk Tryd.prog glob raw 28 (sh28 c_byteset_Parts) := by
  intro av es K r h
  unfold sh28 at h
  split at h
  · exact h_byteset_Parts _ _ _ h
  · exact no_some h

def Ok_byteset_with {R : Type} (c : (List Int) → (List Int) → ((List Int) → Option R) → Option R) : Prop := ∀ (v1 : (List Int)) (v2 : (List Int)) (K : S → List Ent → Option R) (r : R), c v1 v2 (fun (r0 : (List Int)) => K (.arr 4 (.int .u64) r0) []) = some r → ∃ v es, FnOk Tryd.prog glob 31 (npF raw 31 []) [.arr 4 (.int .u64) v1, .arr 4 (.int .u64) v2, .fn 34 []] [] v es ∧ K v es = some r

theorem okn_byteset_with {R : Type} : Ok_byteset_with (R := R) (fun _ _ _ => none) := fun _ _ _ _ h => no_some h

def Ok_byteset_with_s1 {R : Type} (c : (List Int) → (List Int) → ((List Int) → Option R) → Option R) : Prop := ∀ (v1 : (List Int)) (v2 : (List Int)) (K : S → List Ent → Option R) (r : R), c v1 v2 (fun (r0 : (List Int)) => K (.arr 4 (.int .u64) r0) []) = some r → ∃ v es, FnOk Tryd.prog glob 31 (npF raw 31 []) [.arr 4 (.int .u64) v1, .arr 4 (.int .u64) v2, .fn 33 []] [] v es ∧ K v es = some r

theorem okn_byteset_with_s1 {R : Type} : Ok_byteset_with_s1 (R := R) (fun _ _ _ => none) := fun _ _ _ _ h => no_some h

def Ok_byteset_with_s2 {R : Type} (c : (List Int) → (List Int) → ((List Int) → Option R) → Option R) : Prop := ∀ (v1 : (List Int)) (v2 : (List Int)) (K : S → List Ent → Option R) (r : R), c v1 v2 (fun (r0 : (List Int)) => K (.arr 4 (.int .u64) r0) []) = some r → ∃ v es, FnOk Tryd.prog glob 31 (npF raw 31 []) [.arr 4 (.int .u64) v1, .arr 4 (.int .u64) v2, .fn 32 []] [] v es ∧ K v es = some r

theorem okn_byteset_with_s2 {R : Type} : Ok_byteset_with_s2 (R := R) (fun _ _ _ => none) := fun _ _ _ _ h => no_some h

theorem shok_31 {R : Type} {c_byteset_with : (List Int) → (List Int) → ((List Int) → Option R) → Option R} {c_byteset_with_s1 : (List Int) → (List Int) → ((List Int) → Option R) → Option R} {c_byteset_with_s2 : (List Int) → (List Int) → ((List Int) → Option R) → Option R} (h_byteset_with : Ok_byteset_with c_byteset_with) (h_byteset_with_s1 : Ok_byteset_with_s1 c_byteset_with_s1) (h_byteset_with_s2 : Ok_byteset_with_s2 c_byteset_with_s2) : ShOk Tryd.prog glob raw 31 (sh31 c_byteset_with c_byteset_with_s1 c_byteset_with_s2) := by
  intro av es K r h
  unfold sh31 at h
  split at h
  · exact h_byteset_with _ _ _ _ h
  · exact h_byteset_with_s1 _ _ _ _ h
  · exact h_byteset_with_s2 _ _ _ _ h
  · exact no_some h

def Ok_byteset_Or_1 {R : Type} (c : Int → Int → (Int → Option R) → Option R) : Prop := ∀ (v1 : Int) (v2 : Int) (K : S → List Ent → Option R) (r : R), c v1 v2 (fun (r0 : Int) => K (.int .u64 r0) []) = some r → ∃ v es, FnOk Tryd.prog glob 32 (npF raw 32 []) [.int .u64 v1, .int .u64 v2] [] v es ∧ K v es = some r

theorem okn_byteset_Or_1 {R : Type} : Ok_byteset_Or_1 (R := R) (fun _ _ _ => none) := fun _ _ _ _ h => no_some h

theorem shok_32 {R : Type} {c_byteset_Or_1 : Int → Int → (Int → Option R) → Option R} (h_byteset_Or_1 : Ok_byteset_Or_1 c_byteset_Or_1) : ShOk Tryd.prog glob raw 32 (sh32 c_byteset_Or_1) := by
  intro av es K r h
  unfold sh32 at h
  split at h
  · exact h_byteset_Or_1 _ _ _ _ h
  · exact no_some h

def Ok_byteset_And_1 {R : Type} (c : Int → Int → (Int → Option R) → Option R) : Prop := ∀ (v1 : Int) (v2 : Int) (K : S → List Ent → Option R) (r : R), c v1 v2 (fun (r0 : Int) => K (.int .u64 r0) []) = some r → ∃ v es, FnOk Tryd.prog glob 33 (npF raw 33 []) [.int .u64 v1, .int .u64 v2] [] v es ∧ K v es = some r

theorem okn_byteset_And_1 {R : Type} : Ok_byteset_And_1 (R := R) (fun _ _ _ => none) := fun _ _ _ _ h => no_some h

theorem shok_33 {R : Type} {c_byteset_And_1 : Int → Int → (Int → Option R) → Option R} (h_byteset_And_1 : Ok_byteset_And_1 c_byteset_And_1) : ShOk Tryd.prog glob raw 33 (sh33 c_byteset_And_1) := by
  intro av es K r h
  unfold sh33 at h
  split at h
  · exact h_byteset_And_1 _ _ _ _ h
  · exact no_some h

def Ok_byteset_Not_1 {R : Type} (c : Int → Int → (Int → Option R) → Option R) : Prop := ∀ (v1 : Int) (v2 : Int) (K : S → List Ent → Option R) (r : R), c v1 v2 (fun (r0 : Int) => K (.int .u64 r0) []) = some r → ∃ v es, FnOk Tryd.prog glob 34 (npF raw 34 []) [.int .u64 v1, .int .u64 v2] [] v es ∧ K v es = some r

theorem okn_byteset_Not_1 {R : Type} : Ok_byteset_Not_1 (R := R) (fun _ _ _ => none) := fun _ _ _ _ h => no_some h

theorem shok_34 {R : Type} {c_byteset_Not_1 : Int → Int → (Int → Option R) → Option R} (h_byteset_Not_1 : Ok_byteset_Not_1 c_byteset_Not_1) : ShOk Tryd.prog glob raw 34 (sh34 c_byteset_Not_1) := by
  intro av es K r h
  unfold sh34 at h
  split at h
  · exact h_byteset_Not_1 _ _ _ _ h
  · exact no_some h

def Ok_math_bits_OnesCount64 {R : Type} (c : Int → (Int → Option R) → Option R) : Prop := ∀ (v1 : Int) (K : S → List Ent → Option R) (r : R), c v1 (fun (r0 : Int) => K (.int .i64 r0) []) = some r → ∃ v es, FnOk Tryd.prog glob 35 (npF raw 35 []) [.int .u64 v1] [] v es ∧ K v es = some r

theorem okn_math_bits_OnesCount64 {R : Type} : Ok_math_bits_OnesCount64 (R := R) (fun _ _ => none) := fun _ _ _ h => no_some h

theorem shok_35 {R : Type} {c_math_bits_OnesCount64 : Int → (Int → Option R) → Option R} (h_math_bits_OnesCount64 : Ok_math_bits_OnesCount64 c_math_bits_OnesCount64) : ShOk Tryd.prog glob raw 35 (sh35 c_math_bits_OnesCount64) := by
  intro av es K r h
  unfold sh35 at h
  split at h
  · exact h_math_bits_OnesCount64 _ _ _ h
  · exact no_some h

def Ok_math_bits_TrailingZeros64 {R : Type} (c : Int → (Int → Option R) → Option R) : Prop := ∀ (v1 : Int) (K : S → List Ent → Option R) (r : R), c v1 (fun (r0 : Int) => K (.int .i64 r0) []) = some r → ∃ v es, FnOk Tryd.prog glob 36 (npF raw 36 []) [.int .u64 v1] [] v es ∧ K v es = some r

theorem okn_math_bits_TrailingZeros64 {R : Type} : Ok_math_bits_TrailingZeros64 (R := R) (fun _ _ => none) := fun _ _ _ h => no_some h

theorem shok_36 {R : Type} {c_math_bits_TrailingZeros64 : Int → (Int → Option R) → Option R} (h_math_bits_TrailingZeros64 : Ok_math_bits_TrailingZeros64 c_math_bits_TrailingZeros64) : ShOk Tryd.prog glob raw 36 (sh36 c_math_bits_TrailingZeros64) := by
  intro av es K r h
  unfold sh36 at h
  split at h
  · exact h_math_bits_TrailingZeros64 _ _ _ h
  · exact no_some h

theorem t_byteset_Range : textOk C_byteset_Range.bef Tryd.prog 13 = true := by kernel_rfl

theorem sln_byteset_Range_l3 {R : Type} : SlOk (R := R) C_byteset_Range 13 25 0 3 (sl_byteset_Range_l3 (fun _ _ _ _ _ => none)) := by
  intro vs es K r h
  unfold sl_byteset_Range_l3 at h
  split at h <;> exact no_some h

theorem lok_byteset_Range_l3 {R : Type} (kf : Nat) : ∀ n, SlOk (R := R) C_byteset_Range 13 25 0 3 (sl_byteset_Range_l3 (byteset_Range_l3 kf n)) := by
  intro n
  induction n with
  | zero =>
    intro vs es K r h
    unfold sl_byteset_Range_l3 at h
    split at h <;> exact no_some h
  | succ k ih =>
    have hcf : CfOk (R := R) Tryd.prog glob raw (cf_byteset_Range (byteset_Range_l3 kf k)) := cf_nil
    have hlf : LfOk (R := R) C_byteset_Range 13 (lf_byteset_Range (byteset_Range_l3 kf k)) := (lf_top (lf_cons ih lf_nil))
    intro vs es K r h
    unfold sl_byteset_Range_l3 at h
    split at h
    · exact loop_good (text_mixed t_byteset_Range) hcf hlf (text_loop t_byteset_Range 3).1 (text_loop t_byteset_Range 3).2 ((eq_byteset_Range_l3 (byteset_Range_l3 kf k) _ _ _ _ K).trans h)
    · exact no_some h

theorem ok_byteset_Range {R : Type} (kf : Nat) : Ok_byteset_Range (R := R) (byteset_Range kf) := by
  have hcf : CfOk (R := R) Tryd.prog glob raw (cf_byteset_Range (byteset_Range_l3 kf kf)) := cf_nil
  have hlf : LfOk (R := R) C_byteset_Range 13 (lf_byteset_Range (byteset_Range_l3 kf kf)) := (lf_top (lf_cons (lok_byteset_Range_l3 kf kf) lf_nil))
  intro v1 v2 K r h
  exact run_good t_byteset_Range hcf hlf ((eq_byteset_Range (byteset_Range_l3 kf kf) v1 v2 K).trans h)

theorem t_byteset_Not_1 : textOk C_byteset_Not_1.bef Tryd.prog 34 = true := by kernel_rfl

theorem ok_byteset_Not_1 {R : Type} : Ok_byteset_Not_1 (R := R) byteset_Not_1 := by
  have hcf : CfOk (R := R) Tryd.prog glob raw (cf_byteset_Not_1) := cf_nil
  have hlf : LfOk (R := R) C_byteset_Not_1 34 (lf_byteset_Not_1) := lf_none
  intro v1 v2 K r h
  exact run_good t_byteset_Not_1 hcf hlf ((eq_byteset_Not_1 v1 v2 K).trans h)

theorem t_byteset_with : textOk C_byteset_with.bef Tryd.prog 31 = true := by kernel_rfl

theorem sln_byteset_with_l3 {R : Type} : SlOk (R := R) C_byteset_with 31 24 0 3 (sl_byteset_with_l3 (fun _ _ _ _ _ _ => none)) := by
  intro vs es K r h
  unfold sl_byteset_with_l3 at h
  split at h <;> exact no_some h

theorem lok_byteset_with_l3 {R : Type} (kf : Nat) : ∀ n, SlOk (R := R) C_byteset_with 31 24 0 3 (sl_byteset_with_l3 (byteset_with_l3 kf n)) := by
  intro n
  induction n with
  | zero =>
    intro vs es K r h
    unfold sl_byteset_with_l3 at h
    split at h <;> exact no_some h
  | succ k ih =>
    have hcf : CfOk (R := R) Tryd.prog glob raw (cf_byteset_with byteset_Not_1 (byteset_with_l3 kf k)) := (cf_cons (shok_34 (ok_byteset_Not_1)) cf_nil)
    have hlf : LfOk (R := R) C_byteset_with 31 (lf_byteset_with byteset_Not_1 (byteset_with_l3 kf k)) := (lf_top (lf_cons ih lf_nil))
    intro vs es K r h
    unfold sl_byteset_with_l3 at h
    split at h
    · exact loop_good (text_mixed t_byteset_with) hcf hlf (text_loop t_byteset_with 3).1 (text_loop t_byteset_with 3).2 ((eq_byteset_with_l3 byteset_Not_1 (byteset_with_l3 kf k) _ _ _ _ _ K).trans h)
    · exact no_some h

theorem ok_byteset_with {R : Type} (kf : Nat) : Ok_byteset_with (R := R) (byteset_with kf) := by
  have hcf : CfOk (R := R) Tryd.prog glob raw (cf_byteset_with byteset_Not_1 (byteset_with_l3 kf kf)) := (cf_cons (shok_34 (ok_byteset_Not_1)) cf_nil)
  have hlf : LfOk (R := R) C_byteset_with 31 (lf_byteset_with byteset_Not_1 (byteset_with_l3 kf kf)) := (lf_top (lf_cons (lok_byteset_with_l3 kf kf) lf_nil))
  intro v1 v2 K r h
  exact run_good t_byteset_with hcf hlf ((eq_byteset_with byteset_Not_1 (byteset_with_l3 kf kf) v1 v2 K).trans h)

theorem t_byteset_Not : textOk C_byteset_Not.bef Tryd.prog 19 = true := by kernel_rfl

theorem ok_byteset_Not {R : Type} (kf : Nat) : Ok_byteset_Not (R := R) (byteset_Not kf) := by
  have hcf : CfOk (R := R) Tryd.prog glob raw (cf_byteset_Not (byteset_with kf)) := (cf_cons (shok_31 (ok_byteset_with kf) okn_byteset_with_s1 okn_byteset_with_s2) cf_nil)
  have hlf : LfOk (R := R) C_byteset_Not 19 (lf_byteset_Not (byteset_with kf)) := lf_none
  intro v1 K r h
  exact run_good t_byteset_Not hcf hlf ((eq_byteset_Not (byteset_with kf) v1 K).trans h)

theorem t_byteset_And_1 : textOk C_byteset_And_1.bef Tryd.prog 33 = true := by kernel_rfl

theorem ok_byteset_And_1 {R : Type} : Ok_byteset_And_1 (R := R) byteset_And_1 := by
  have hcf : CfOk (R := R) Tryd.prog glob raw (cf_byteset_And_1) := cf_nil
  have hlf : LfOk (R := R) C_byteset_And_1 33 (lf_byteset_And_1) := lf_none
  intro v1 v2 K r h
  exact run_good t_byteset_And_1 hcf hlf ((eq_byteset_And_1 v1 v2 K).trans h)

theorem t_byteset_with_s1 : textOk C_byteset_with_s1.bef Tryd.prog 31 = true := by kernel_rfl

theorem sln_byteset_with_s1_l3 {R : Type} : SlOk (R := R) C_byteset_with_s1 31 24 0 3 (sl_byteset_with_s1_l3 (fun _ _ _ _ _ _ => none)) := by
  intro vs es K r h
  unfold sl_byteset_with_s1_l3 at h
  split at h <;> exact no_some h

theorem lok_byteset_with_s1_l3 {R : Type} (kf : Nat) : ∀ n, SlOk (R := R) C_byteset_with_s1 31 24 0 3 (sl_byteset_with_s1_l3 (byteset_with_s1_l3 kf n)) := by
  intro n
  induction n with
  | zero =>
    intro vs es K r h
    unfold sl_byteset_with_s1_l3 at h
    split at h <;> exact no_some h
  | succ k ih =>
    have hcf : CfOk (R := R) Tryd.prog glob raw (cf_byteset_with_s1 byteset_And_1 (byteset_with_s1_l3 kf k)) := (cf_cons (shok_33 (ok_byteset_And_1)) cf_nil)
    have hlf : LfOk (R := R) C_byteset_with_s1 31 (lf_byteset_with_s1 byteset_And_1 (byteset_with_s1_l3 kf k)) := (lf_top (lf_cons ih lf_nil))
    intro vs es K r h
    unfold sl_byteset_with_s1_l3 at h
    split at h
    · exact loop_good (text_mixed t_byteset_with_s1) hcf hlf (text_loop t_byteset_with_s1 3).1 (text_loop t_byteset_with_s1 3).2 ((eq_byteset_with_s1_l3 byteset_And_1 (byteset_with_s1_l3 kf k) _ _ _ _ _ K).trans h)
    · exact no_some h

theorem ok_byteset_with_s1 {R : Type} (kf : Nat) : Ok_byteset_with_s1 (R := R) (byteset_with_s1 kf) := by
  have hcf : CfOk (R := R) Tryd.prog glob raw (cf_byteset_with_s1 byteset_And_1 (byteset_with_s1_l3 kf kf)) := (cf_cons (shok_33 (ok_byteset_And_1)) cf_nil)
  have hlf : LfOk (R := R) C_byteset_with_s1 31 (lf_byteset_with_s1 byteset_And_1 (byteset_with_s1_l3 kf kf)) := (lf_top (lf_cons (lok_byteset_with_s1_l3 kf kf) lf_nil))
  intro v1 v2 K r h
  exact run_good t_byteset_with_s1 hcf hlf ((eq_byteset_with_s1 byteset_And_1 (byteset_with_s1_l3 kf kf) v1 v2 K).trans h)

theorem t_byteset_And : textOk C_byteset_And.bef Tryd.prog 17 = true := by kernel_rfl

theorem ok_byteset_And {R : Type} (kf : Nat) : Ok_byteset_And (R := R) (byteset_And kf) := by
  have hcf : CfOk (R := R) Tryd.prog glob raw (cf_byteset_And (byteset_with_s1 kf)) := (cf_cons (shok_31 okn_byteset_with (ok_byteset_with_s1 kf) okn_byteset_with_s2) cf_nil)
  have hlf : LfOk (R := R) C_byteset_And 17 (lf_byteset_And (byteset_with_s1 kf)) := lf_none
  intro v1 v2 K r h
  exact run_good t_byteset_And hcf hlf ((eq_byteset_And (byteset_with_s1 kf) v1 v2 K).trans h)

theorem t_byteset_Has : textOk C_byteset_Has.bef Tryd.prog 26 = true := by kernel_rfl

theorem ok_byteset_Has {R : Type} : Ok_byteset_Has (R := R) byteset_Has := by
  have hcf : CfOk (R := R) Tryd.prog glob raw (cf_byteset_Has) := cf_nil
  have hlf : LfOk (R := R) C_byteset_Has 26 (lf_byteset_Has) := lf_none
  intro v1 v2 K r h
  exact run_good t_byteset_Has hcf hlf ((eq_byteset_Has v1 v2 K).trans h)

theorem t_byteset_Or_1 : textOk C_byteset_Or_1.bef Tryd.prog 32 = true := by kernel_rfl

theorem ok_byteset_Or_1 {R : Type} : Ok_byteset_Or_1 (R := R) byteset_Or_1 := by
  have hcf : CfOk (R := R) Tryd.prog glob raw (cf_byteset_Or_1) := cf_nil
  have hlf : LfOk (R := R) C_byteset_Or_1 32 (lf_byteset_Or_1) := lf_none
  intro v1 v2 K r h
  exact run_good t_byteset_Or_1 hcf hlf ((eq_byteset_Or_1 v1 v2 K).trans h)

theorem t_byteset_with_s2 : textOk C_byteset_with_s2.bef Tryd.prog 31 = true := by kernel_rfl

theorem sln_byteset_with_s2_l3 {R : Type} : SlOk (R := R) C_byteset_with_s2 31 24 0 3 (sl_byteset_with_s2_l3 (fun _ _ _ _ _ _ => none)) := by
  intro vs es K r h
  unfold sl_byteset_with_s2_l3 at h
  split at h <;> exact no_some h

theorem lok_byteset_with_s2_l3 {R : Type} (kf : Nat) : ∀ n, SlOk (R := R) C_byteset_with_s2 31 24 0 3 (sl_byteset_with_s2_l3 (byteset_with_s2_l3 kf n)) := by
  intro n
  induction n with
  | zero =>
    intro vs es K r h
    unfold sl_byteset_with_s2_l3 at h
    split at h <;> exact no_some h
  | succ k ih =>
    have hcf : CfOk (R := R) Tryd.prog glob raw (cf_byteset_with_s2 byteset_Or_1 (byteset_with_s2_l3 kf k)) := (cf_cons (shok_32 (ok_byteset_Or_1)) cf_nil)
    have hlf : LfOk (R := R) C_byteset_with_s2 31 (lf_byteset_with_s2 byteset_Or_1 (byteset_with_s2_l3 kf k)) := (lf_top (lf_cons ih lf_nil))
    intro vs es K r h
    unfold sl_byteset_with_s2_l3 at h
    split at h
    · exact loop_good (text_mixed t_byteset_with_s2) hcf hlf (text_loop t_byteset_with_s2 3).1 (text_loop t_byteset_with_s2 3).2 ((eq_byteset_with_s2_l3 byteset_Or_1 (byteset_with_s2_l3 kf k) _ _ _ _ _ K).trans h)
    · exact no_some h

theorem ok_byteset_with_s2 {R : Type} (kf : Nat) : Ok_byteset_with_s2 (R := R) (byteset_with_s2 kf) := by
  have hcf : CfOk (R := R) Tryd.prog glob raw (cf_byteset_with_s2 byteset_Or_1 (byteset_with_s2_l3 kf kf)) := (cf_cons (shok_32 (ok_byteset_Or_1)) cf_nil)
  have hlf : LfOk (R := R) C_byteset_with_s2 31 (lf_byteset_with_s2 byteset_Or_1 (byteset_with_s2_l3 kf kf)) := (lf_top (lf_cons (lok_byteset_with_s2_l3 kf kf) lf_nil))
  intro v1 v2 K r h
  exact run_good t_byteset_with_s2 hcf hlf ((eq_byteset_with_s2 byteset_Or_1 (byteset_with_s2_l3 kf kf) v1 v2 K).trans h)

theorem t_byteset_Or : textOk C_byteset_Or.bef Tryd.prog 15 = true := by kernel_rfl

theorem ok_byteset_Or {R : Type} (kf : Nat) : Ok_byteset_Or (R := R) (byteset_Or kf) := by
  have hcf : CfOk (R := R) Tryd.prog glob raw (cf_byteset_Or (byteset_with_s2 kf)) := (cf_cons (shok_31 okn_byteset_with okn_byteset_with_s1 (ok_byteset_with_s2 kf)) cf_nil)
  have hlf : LfOk (R := R) C_byteset_Or 15 (lf_byteset_Or (byteset_with_s2 kf)) := lf_none
  intro v1 v2 K r h
  exact run_good t_byteset_Or hcf hlf ((eq_byteset_Or (byteset_with_s2 kf) v1 v2 K).trans h)

theorem t_byteset_Parts : textOk C_byteset_Parts.bef Tryd.prog 28 = true := by kernel_rfl

theorem sln_byteset_Parts_l3 {R : Type} : SlOk (R := R) C_byteset_Parts 28 82 0 3 (sl_byteset_Parts_l3 (fun _ _ _ _ _ => none)) := by
  intro vs es K r h
  unfold sl_byteset_Parts_l3 at h
  split at h <;> exact no_some h

theorem sln_byteset_Parts_l7 {R : Type} : SlOk (R := R) C_byteset_Parts 28 82 0 7 (sl_byteset_Parts_l7 (fun _ _ _ _ _ _ _ _ _ => none)) := by
  intro vs es K r h
  unfold sl_byteset_Parts_l7 at h
  split at h <;> exact no_some h

theorem sln_byteset_Parts_l10 {R : Type} : SlOk (R := R) C_byteset_Parts 28 82 0 10 (sl_byteset_Parts_l10 (fun _ _ _ _ _ _ _ _ _ _ _ _ => none)) := by
  intro vs es K r h
  unfold sl_byteset_Parts_l10 at h
  split at h <;> exact no_some h

theorem sln_byteset_Parts_l21 {R : Type} : SlOk (R := R) C_byteset_Parts 28 82 0 21 (sl_byteset_Parts_l21 (fun _ _ _ _ _ => none)) := by
  intro vs es K r h
  unfold sl_byteset_Parts_l21 at h
  split at h <;> exact no_some h

theorem sln_byteset_Parts_l25 {R : Type} : SlOk (R := R) C_byteset_Parts 28 82 0 25 (sl_byteset_Parts_l25 (fun _ _ _ _ _ _ _ _ => none)) := by
  intro vs es K r h
  unfold sl_byteset_Parts_l25 at h
  split at h <;> exact no_some h

theorem lok_byteset_Parts_l10 {R : Type} (kf : Nat) : ∀ n, SlOk (R := R) C_byteset_Parts 28 82 0 10 (sl_byteset_Parts_l10 (byteset_Parts_l10 kf n)) := by
  intro n
  induction n with
  | zero =>
    intro vs es K r h
    unfold sl_byteset_Parts_l10 at h
    split at h <;> exact no_some h
  | succ k ih =>
    have hcf : CfOk (R := R) Tryd.prog glob raw (cf_byteset_Parts (byteset_Not kf) (byteset_And kf) byteset_Has (byteset_Or kf) (fun _ _ _ _ _ => none) (fun _ _ _ _ _ _ _ _ _ => none) (byteset_Parts_l10 kf k) (fun _ _ _ _ _ => none) (fun _ _ _ _ _ _ _ _ => none)) := (cf_cons (shok_19 (ok_byteset_Not kf)) (cf_cons (shok_17 (ok_byteset_And kf)) (cf_cons (shok_26 (ok_byteset_Has)) (cf_cons (shok_15 (ok_byteset_Or kf)) cf_nil))))
    have hlf : LfOk (R := R) C_byteset_Parts 28 (lf_byteset_Parts (byteset_Not kf) (byteset_And kf) byteset_Has (byteset_Or kf) (fun _ _ _ _ _ => none) (fun _ _ _ _ _ _ _ _ _ => none) (byteset_Parts_l10 kf k) (fun _ _ _ _ _ => none) (fun _ _ _ _ _ _ _ _ => none)) := (lf_top (lf_cons (sln_byteset_Parts_l3) (lf_cons (sln_byteset_Parts_l7) (lf_cons ih (lf_cons (sln_byteset_Parts_l21) (lf_cons (sln_byteset_Parts_l25) lf_nil))))))
    intro vs es K r h
    unfold sl_byteset_Parts_l10 at h
    split at h
    · exact loop_good (text_mixed t_byteset_Parts) hcf hlf (text_loop t_byteset_Parts 10).1 (text_loop t_byteset_Parts 10).2 ((eq_byteset_Parts_l10 (byteset_Not kf) (byteset_And kf) byteset_Has (byteset_Or kf) (fun _ _ _ _ _ => none) (fun _ _ _ _ _ _ _ _ _ => none) (byteset_Parts_l10 kf k) (fun _ _ _ _ _ => none) (fun _ _ _ _ _ _ _ _ => none) _ _ _ _ _ _ _ _ _ _ _ K).trans h)
    · exact no_some h

theorem lok_byteset_Parts_l7 {R : Type} (kf : Nat) : ∀ n, SlOk (R := R) C_byteset_Parts 28 82 0 7 (sl_byteset_Parts_l7 (byteset_Parts_l7 kf n)) := by
  intro n
  induction n with
  | zero =>
    intro vs es K r h
    unfold sl_byteset_Parts_l7 at h
    split at h <;> exact no_some h
  | succ k ih =>
    have hcf : CfOk (R := R) Tryd.prog glob raw (cf_byteset_Parts (byteset_Not kf) (byteset_And kf) byteset_Has (byteset_Or kf) (fun _ _ _ _ _ => none) (byteset_Parts_l7 kf k) (byteset_Parts_l10 kf k) (fun _ _ _ _ _ => none) (fun _ _ _ _ _ _ _ _ => none)) := (cf_cons (shok_19 (ok_byteset_Not kf)) (cf_cons (shok_17 (ok_byteset_And kf)) (cf_cons (shok_26 (ok_byteset_Has)) (cf_cons (shok_15 (ok_byteset_Or kf)) cf_nil))))
    have hlf : LfOk (R := R) C_byteset_Parts 28 (lf_byteset_Parts (byteset_Not kf) (byteset_And kf) byteset_Has (byteset_Or kf) (fun _ _ _ _ _ => none) (byteset_Parts_l7 kf k) (byteset_Parts_l10 kf k) (fun _ _ _ _ _ => none) (fun _ _ _ _ _ _ _ _ => none)) := (lf_top (lf_cons (sln_byteset_Parts_l3) (lf_cons ih (lf_cons (lok_byteset_Parts_l10 kf k) (lf_cons (sln_byteset_Parts_l21) (lf_cons (sln_byteset_Parts_l25) lf_nil))))))
    intro vs es K r h
    unfold sl_byteset_Parts_l7 at h
    split at h
    · exact loop_good (text_mixed t_byteset_Parts) hcf hlf (text_loop t_byteset_Parts 7).1 (text_loop t_byteset_Parts 7).2 ((eq_byteset_Parts_l7 (byteset_Not kf) (byteset_And kf) byteset_Has (byteset_Or kf) (fun _ _ _ _ _ => none) (byteset_Parts_l7 kf k) (byteset_Parts_l10 kf k) (fun _ _ _ _ _ => none) (fun _ _ _ _ _ _ _ _ => none) _ _ _ _ _ _ _ _ K).trans h)
    · exact no_some h

theorem lok_byteset_Parts_l3 {R : Type} (kf : Nat) : ∀ n, SlOk (R := R) C_byteset_Parts 28 82 0 3 (sl_byteset_Parts_l3 (byteset_Parts_l3 kf n)) := by
  intro n
  induction n with
  | zero =>
    intro vs es K r h
    unfold sl_byteset_Parts_l3 at h
    split at h <;> exact no_some h
  | succ k ih =>
    have hcf : CfOk (R := R) Tryd.prog glob raw (cf_byteset_Parts (byteset_Not kf) (byteset_And kf) byteset_Has (byteset_Or kf) (byteset_Parts_l3 kf k) (byteset_Parts_l7 kf k) (byteset_Parts_l10 kf k) (fun _ _ _ _ _ => none) (fun _ _ _ _ _ _ _ _ => none)) := (cf_cons (shok_19 (ok_byteset_Not kf)) (cf_cons (shok_17 (ok_byteset_And kf)) (cf_cons (shok_26 (ok_byteset_Has)) (cf_cons (shok_15 (ok_byteset_Or kf)) cf_nil))))
    have hlf : LfOk (R := R) C_byteset_Parts 28 (lf_byteset_Parts (byteset_Not kf) (byteset_And kf) byteset_Has (byteset_Or kf) (byteset_Parts_l3 kf k) (byteset_Parts_l7 kf k) (byteset_Parts_l10 kf k) (fun _ _ _ _ _ => none) (fun _ _ _ _ _ _ _ _ => none)) := (lf_top (lf_cons ih (lf_cons (lok_byteset_Parts_l7 kf k) (lf_cons (lok_byteset_Parts_l10 kf k) (lf_cons (sln_byteset_Parts_l21) (lf_cons (sln_byteset_Parts_l25) lf_nil))))))
    intro vs es K r h
    unfold sl_byteset_Parts_l3 at h
    split at h
    · exact loop_good (text_mixed t_byteset_Parts) hcf hlf (text_loop t_byteset_Parts 3).1 (text_loop t_byteset_Parts 3).2 ((eq_byteset_Parts_l3 (byteset_Not kf) (byteset_And kf) byteset_Has (byteset_Or kf) (byteset_Parts_l3 kf k) (byteset_Parts_l7 kf k) (byteset_Parts_l10 kf k) (fun _ _ _ _ _ => none) (fun _ _ _ _ _ _ _ _ => none) _ _ _ _ K).trans h)
    · exact no_some h

theorem lok_byteset_Parts_l25 {R : Type} (kf : Nat) : ∀ n, SlOk (R := R) C_byteset_Parts 28 82 0 25 (sl_byteset_Parts_l25 (byteset_Parts_l25 kf n)) := by
  intro n
  induction n with
  | zero =>
    intro vs es K r h
    unfold sl_byteset_Parts_l25 at h
    split at h <;> exact no_some h
  | succ k ih =>
    have hcf : CfOk (R := R) Tryd.prog glob raw (cf_byteset_Parts (byteset_Not kf) (byteset_And kf) byteset_Has (byteset_Or kf) (byteset_Parts_l3 kf k) (byteset_Parts_l7 kf k) (byteset_Parts_l10 kf k) (fun _ _ _ _ _ => none) (byteset_Parts_l25 kf k)) := (cf_cons (shok_19 (ok_byteset_Not kf)) (cf_cons (shok_17 (ok_byteset_And kf)) (cf_cons (shok_26 (ok_byteset_Has)) (cf_cons (shok_15 (ok_byteset_Or kf)) cf_nil))))
    have hlf : LfOk (R := R) C_byteset_Parts 28 (lf_byteset_Parts (byteset_Not kf) (byteset_And kf) byteset_Has (byteset_Or kf) (byteset_Parts_l3 kf k) (byteset_Parts_l7 kf k) (byteset_Parts_l10 kf k) (fun _ _ _ _ _ => none) (byteset_Parts_l25 kf k)) := (lf_top (lf_cons (lok_byteset_Parts_l3 kf k) (lf_cons (lok_byteset_Parts_l7 kf k) (lf_cons (lok_byteset_Parts_l10 kf k) (lf_cons (sln_byteset_Parts_l21) (lf_cons ih lf_nil))))))
    intro vs es K r h
    unfold sl_byteset_Parts_l25 at h
    split at h
    · exact loop_good (text_mixed t_byteset_Parts) hcf hlf (text_loop t_byteset_Parts 25).1 (text_loop t_byteset_Parts 25).2 ((eq_byteset_Parts_l25 (byteset_Not kf) (byteset_And kf) byteset_Has (byteset_Or kf) (byteset_Parts_l3 kf k) (byteset_Parts_l7 kf k) (byteset_Parts_l10 kf k) (fun _ _ _ _ _ => none) (byteset_Parts_l25 kf k) _ _ _ _ _ _ _ K).trans h)
    · exact no_some h

theorem lok_byteset_Parts_l21 {R : Type} (kf : Nat) : ∀ n, SlOk (R := R) C_byteset_Parts 28 82 0 21 (sl_byteset_Parts_l21 (byteset_Parts_l21 kf n)) := by
  intro n
  induction n with
  | zero =>
    intro vs es K r h
    unfold sl_byteset_Parts_l21 at h
    split at h <;> exact no_some h
  | succ k ih =>
    have hcf : CfOk (R := R) Tryd.prog glob raw (cf_byteset_Parts (byteset_Not kf) (byteset_And kf) byteset_Has (byteset_Or kf) (byteset_Parts_l3 kf k) (byteset_Parts_l7 kf k) (byteset_Parts_l10 kf k) (byteset_Parts_l21 kf k) (byteset_Parts_l25 kf k)) := (cf_cons (shok_19 (ok_byteset_Not kf)) (cf_cons (shok_17 (ok_byteset_And kf)) (cf_cons (shok_26 (ok_byteset_Has)) (cf_cons (shok_15 (ok_byteset_Or kf)) cf_nil))))
    have hlf : LfOk (R := R) C_byteset_Parts 28 (lf_byteset_Parts (byteset_Not kf) (byteset_And kf) byteset_Has (byteset_Or kf) (byteset_Parts_l3 kf k) (byteset_Parts_l7 kf k) (byteset_Parts_l10 kf k) (byteset_Parts_l21 kf k) (byteset_Parts_l25 kf k)) := (lf_top (lf_cons (lok_byteset_Parts_l3 kf k) (lf_cons (lok_byteset_Parts_l7 kf k) (lf_cons (lok_byteset_Parts_l10 kf k) (lf_cons ih (lf_cons (lok_byteset_Parts_l25 kf k) lf_nil))))))
    intro vs es K r h
    unfold sl_byteset_Parts_l21 at h
    split at h
    · exact loop_good (text_mixed t_byteset_Parts) hcf hlf (text_loop t_byteset_Parts 21).1 (text_loop t_byteset_Parts 21).2 ((eq_byteset_Parts_l21 (byteset_Not kf) (byteset_And kf) byteset_Has (byteset_Or kf) (byteset_Parts_l3 kf k) (byteset_Parts_l7 kf k) (byteset_Parts_l10 kf k) (byteset_Parts_l21 kf k) (byteset_Parts_l25 kf k) _ _ _ _ K).trans h)
    · exact no_some h

theorem ok_byteset_Parts {R : Type} (kf : Nat) : Ok_byteset_Parts (R := R) (byteset_Parts kf) := by
  have hcf : CfOk (R := R) Tryd.prog glob raw (cf_byteset_Parts (byteset_Not kf) (byteset_And kf) byteset_Has (byteset_Or kf) (byteset_Parts_l3 kf kf) (byteset_Parts_l7 kf kf) (byteset_Parts_l10 kf kf) (byteset_Parts_l21 kf kf) (byteset_Parts_l25 kf kf)) := (cf_cons (shok_19 (ok_byteset_Not kf)) (cf_cons (shok_17 (ok_byteset_And kf)) (cf_cons (shok_26 (ok_byteset_Has)) (cf_cons (shok_15 (ok_byteset_Or kf)) cf_nil))))
  have hlf : LfOk (R := R) C_byteset_Parts 28 (lf_byteset_Parts (byteset_Not kf) (byteset_And kf) byteset_Has (byteset_Or kf) (byteset_Parts_l3 kf kf) (byteset_Parts_l7 kf kf) (byteset_Parts_l10 kf kf) (byteset_Parts_l21 kf kf) (byteset_Parts_l25 kf kf)) := (lf_top (lf_cons (lok_byteset_Parts_l3 kf kf) (lf_cons (lok_byteset_Parts_l7 kf kf) (lf_cons (lok_byteset_Parts_l10 kf kf) (lf_cons (lok_byteset_Parts_l21 kf kf) (lf_cons (lok_byteset_Parts_l25 kf kf) lf_nil))))))
  intro v1 K r h
  exact run_good t_byteset_Parts hcf hlf ((eq_byteset_Parts (byteset_Not kf) (byteset_And kf) byteset_Has (byteset_Or kf) (byteset_Parts_l3 kf kf) (byteset_Parts_l7 kf kf) (byteset_Parts_l10 kf kf) (byteset_Parts_l21 kf kf) (byteset_Parts_l25 kf kf) v1 K).trans h)

theorem t_math_bits_OnesCount64 : textOk C_math_bits_OnesCount64.bef Tryd.prog 35 = true := by kernel_rfl

theorem ok_math_bits_OnesCount64 {R : Type} : Ok_math_bits_OnesCount64 (R := R) math_bits_OnesCount64 := by
  have hcf : CfOk (R := R) Tryd.prog glob raw (cf_math_bits_OnesCount64) := cf_nil
  have hlf : LfOk (R := R) C_math_bits_OnesCount64 35 (lf_math_bits_OnesCount64) := lf_none
  intro v1 K r h
  exact run_good t_math_bits_OnesCount64 hcf hlf ((eq_math_bits_OnesCount64 v1 K).trans h)

theorem t_byteset_Len : textOk C_byteset_Len.bef Tryd.prog 23 = true := by kernel_rfl

theorem sln_byteset_Len_l3 {R : Type} : SlOk (R := R) C_byteset_Len 23 16 0 3 (sl_byteset_Len_l3 (fun _ _ _ _ => none)) := by
  intro vs es K r h
  unfold sl_byteset_Len_l3 at h
  split at h <;> exact no_some h

theorem lok_byteset_Len_l3 {R : Type} (kf : Nat) : ∀ n, SlOk (R := R) C_byteset_Len 23 16 0 3 (sl_byteset_Len_l3 (byteset_Len_l3 kf n)) := by
  intro n
  induction n with
  | zero =>
    intro vs es K r h
    unfold sl_byteset_Len_l3 at h
    split at h <;> exact no_some h
  | succ k ih =>
    have hcf : CfOk (R := R) Tryd.prog glob raw (cf_byteset_Len math_bits_OnesCount64 (byteset_Len_l3 kf k)) := (cf_cons (shok_35 (ok_math_bits_OnesCount64)) cf_nil)
    have hlf : LfOk (R := R) C_byteset_Len 23 (lf_byteset_Len math_bits_OnesCount64 (byteset_Len_l3 kf k)) := (lf_top (lf_cons ih lf_nil))
    intro vs es K r h
    unfold sl_byteset_Len_l3 at h
    split at h
    · exact loop_good (text_mixed t_byteset_Len) hcf hlf (text_loop t_byteset_Len 3).1 (text_loop t_byteset_Len 3).2 ((eq_byteset_Len_l3 math_bits_OnesCount64 (byteset_Len_l3 kf k) _ _ _ K).trans h)
    · exact no_some h

theorem ok_byteset_Len {R : Type} (kf : Nat) : Ok_byteset_Len (R := R) (byteset_Len kf) := by
  have hcf : CfOk (R := R) Tryd.prog glob raw (cf_byteset_Len math_bits_OnesCount64 (byteset_Len_l3 kf kf)) := (cf_cons (shok_35 (ok_math_bits_OnesCount64)) cf_nil)
  have hlf : LfOk (R := R) C_byteset_Len 23 (lf_byteset_Len math_bits_OnesCount64 (byteset_Len_l3 kf kf)) := (lf_top (lf_cons (lok_byteset_Len_l3 kf kf) lf_nil))
  intro v1 K r h
  exact run_good t_byteset_Len hcf hlf ((eq_byteset_Len math_bits_OnesCount64 (byteset_Len_l3 kf kf) v1 K).trans h)

theorem t_byteset_List : textOk C_byteset_List.bef Tryd.prog 21 = true := by kernel_rfl

theorem sln_byteset_List_l3 {R : Type} : SlOk (R := R) C_byteset_List 21 19 0 3 (sl_byteset_List_l3 (fun _ _ _ _ => none)) := by
  intro vs es K r h
  unfold sl_byteset_List_l3 at h
  split at h <;> exact no_some h

theorem lok_byteset_List_l3 {R : Type} (kf : Nat) : ∀ n, SlOk (R := R) C_byteset_List 21 19 0 3 (sl_byteset_List_l3 (byteset_List_l3 kf n)) := by
  intro n
  induction n with
  | zero =>
    intro vs es K r h
    unfold sl_byteset_List_l3 at h
    split at h <;> exact no_some h
  | succ k ih =>
    have hcf : CfOk (R := R) Tryd.prog glob raw (cf_byteset_List byteset_Has (byteset_List_l3 kf k)) := (cf_cons (shok_26 (ok_byteset_Has)) cf_nil)
    have hlf : LfOk (R := R) C_byteset_List 21 (lf_byteset_List byteset_Has (byteset_List_l3 kf k)) := (lf_top (lf_cons ih lf_nil))
    intro vs es K r h
    unfold sl_byteset_List_l3 at h
    split at h
    · exact loop_good (text_mixed t_byteset_List) hcf hlf (text_loop t_byteset_List 3).1 (text_loop t_byteset_List 3).2 ((eq_byteset_List_l3 byteset_Has (byteset_List_l3 kf k) _ _ _ K).trans h)
    · exact no_some h

theorem ok_byteset_List {R : Type} (kf : Nat) : Ok_byteset_List (R := R) (byteset_List kf) := by
  have hcf : CfOk (R := R) Tryd.prog glob raw (cf_byteset_List byteset_Has (byteset_List_l3 kf kf)) := (cf_cons (shok_26 (ok_byteset_Has)) cf_nil)
  have hlf : LfOk (R := R) C_byteset_List 21 (lf_byteset_List byteset_Has (byteset_List_l3 kf kf)) := (lf_top (lf_cons (lok_byteset_List_l3 kf kf) lf_nil))
  intro v1 K r h
  exact run_good t_byteset_List hcf hlf ((eq_byteset_List byteset_Has (byteset_List_l3 kf kf) v1 K).trans h)

theorem t_math_bits_TrailingZeros64 : textOk C_math_bits_TrailingZeros64.bef Tryd.prog 36 = true := by kernel_rfl

theorem ok_math_bits_TrailingZeros64 {R : Type} : Ok_math_bits_TrailingZeros64 (R := R) math_bits_TrailingZeros64 := by
  have hcf : CfOk (R := R) Tryd.prog glob raw (cf_math_bits_TrailingZeros64) := cf_nil
  have hlf : LfOk (R := R) C_math_bits_TrailingZeros64 36 (lf_math_bits_TrailingZeros64) := lf_none
  intro v1 K r h
  exact run_good t_math_bits_TrailingZeros64 hcf hlf ((eq_math_bits_TrailingZeros64 v1 K).trans h)

theorem t_byteset_Less : textOk C_byteset_Less.bef Tryd.prog 24 = true := by kernel_rfl

theorem sln_byteset_Less_l2 {R : Type} : SlOk (R := R) C_byteset_Less 24 28 0 2 (sl_byteset_Less_l2 (fun _ _ _ _ _ => none)) := by
  intro vs es K r h
  unfold sl_byteset_Less_l2 at h
  split at h <;> exact no_some h

theorem lok_byteset_Less_l2 {R : Type} (kf : Nat) : ∀ n, SlOk (R := R) C_byteset_Less 24 28 0 2 (sl_byteset_Less_l2 (byteset_Less_l2 kf n)) := by
  intro n
  induction n with
  | zero =>
    intro vs es K r h
    unfold sl_byteset_Less_l2 at h
    split at h <;> exact no_some h
  | succ k ih =>
    have hcf : CfOk (R := R) Tryd.prog glob raw (cf_byteset_Less math_bits_TrailingZeros64 (byteset_Less_l2 kf k)) := (cf_cons (shok_36 (ok_math_bits_TrailingZeros64)) cf_nil)
    have hlf : LfOk (R := R) C_byteset_Less 24 (lf_byteset_Less math_bits_TrailingZeros64 (byteset_Less_l2 kf k)) := (lf_top (lf_cons ih lf_nil))
    intro vs es K r h
    unfold sl_byteset_Less_l2 at h
    split at h
    · exact loop_good (text_mixed t_byteset_Less) hcf hlf (text_loop t_byteset_Less 2).1 (text_loop t_byteset_Less 2).2 ((eq_byteset_Less_l2 math_bits_TrailingZeros64 (byteset_Less_l2 kf k) _ _ _ K).trans h)
    · exact no_some h

theorem ok_byteset_Less {R : Type} (kf : Nat) : Ok_byteset_Less (R := R) (byteset_Less kf) := by
  have hcf : CfOk (R := R) Tryd.prog glob raw (cf_byteset_Less math_bits_TrailingZeros64 (byteset_Less_l2 kf kf)) := (cf_cons (shok_36 (ok_math_bits_TrailingZeros64)) cf_nil)
  have hlf : LfOk (R := R) C_byteset_Less 24 (lf_byteset_Less math_bits_TrailingZeros64 (byteset_Less_l2 kf kf)) := (lf_top (lf_cons (lok_byteset_Less_l2 kf kf) lf_nil))
  intro v1 v2 K r h
  exact run_good t_byteset_Less hcf hlf ((eq_byteset_Less math_bits_TrailingZeros64 (byteset_Less_l2 kf kf) v1 v2 K).trans h)

theorem t_byteset_Of : textOk C_byteset_Of.bef Tryd.prog 11 = true := by kernel_rfl

theorem sln_byteset_Of_l3 {R : Type} : SlOk (R := R) C_byteset_Of 11 23 0 3 (sl_byteset_Of_l3 (fun _ _ _ _ _ _ => none)) := by
  intro vs es K r h
  unfold sl_byteset_Of_l3 at h
  split at h <;> exact no_some h

theorem lok_byteset_Of_l3 {R : Type} (kf : Nat) : ∀ n, SlOk (R := R) C_byteset_Of 11 23 0 3 (sl_byteset_Of_l3 (byteset_Of_l3 kf n)) := by
  intro n
  induction n with
  | zero =>
    intro vs es K r h
    unfold sl_byteset_Of_l3 at h
    split at h <;> exact no_some h
  | succ k ih =>
    have hcf : CfOk (R := R) Tryd.prog glob raw (cf_byteset_Of (byteset_Of_l3 kf k)) := cf_nil
    have hlf : LfOk (R := R) C_byteset_Of 11 (lf_byteset_Of (byteset_Of_l3 kf k)) := (lf_top (lf_cons ih lf_nil))
    intro vs es K r h
    unfold sl_byteset_Of_l3 at h
    split at h
    · exact loop_good (text_mixed t_byteset_Of) hcf hlf (text_loop t_byteset_Of 3).1 (text_loop t_byteset_Of 3).2 ((eq_byteset_Of_l3 (byteset_Of_l3 kf k) _ _ _ _ _ K).trans h)
    · exact no_some h

theorem ok_byteset_Of {R : Type} (kf : Nat) : Ok_byteset_Of (R := R) (byteset_Of kf) := by
  have hcf : CfOk (R := R) Tryd.prog glob raw (cf_byteset_Of (byteset_Of_l3 kf kf)) := cf_nil
  have hlf : LfOk (R := R) C_byteset_Of 11 (lf_byteset_Of (byteset_Of_l3 kf kf)) := (lf_top (lf_cons (lok_byteset_Of_l3 kf kf) lf_nil))
  intro v1 K r h
  exact run_good t_byteset_Of hcf hlf ((eq_byteset_Of (byteset_Of_l3 kf kf) v1 K).trans h)

theorem t_law4_begun : textOk C_law4_begun.bef Tryd.prog 10 = true := by kernel_rfl

theorem ok_law4_begun {R : Type} (kf : Nat) : Ok_law4_begun (R := R) (law4_begun kf) := by
  have hcf : CfOk (R := R) Tryd.prog glob raw (cf_law4_begun (byteset_Range kf) (byteset_Parts kf) byteset_Has (byteset_Len kf) (byteset_List kf) (byteset_Less kf) (byteset_Of kf)) := (cf_cons (shok_13 (ok_byteset_Range kf)) (cf_cons (shok_28 (ok_byteset_Parts kf)) (cf_cons (shok_26 (ok_byteset_Has)) (cf_cons (shok_23 (ok_byteset_Len kf)) (cf_cons (shok_21 (ok_byteset_List kf)) (cf_cons (shok_24 (ok_byteset_Less kf)) (cf_cons (shok_11 (ok_byteset_Of kf)) cf_nil)))))))
  have hlf : LfOk (R := R) C_law4_begun 10 (lf_law4_begun (byteset_Range kf) (byteset_Parts kf) byteset_Has (byteset_Len kf) (byteset_List kf) (byteset_Less kf) (byteset_Of kf)) := lf_none
  intro K r h
  exact run_good t_law4_begun hcf hlf ((eq_law4_begun (byteset_Range kf) (byteset_Parts kf) byteset_Has (byteset_Len kf) (byteset_List kf) (byteset_Less kf) (byteset_Of kf) K).trans h)

theorem t_law4_SetLaws : textOk C_law4_SetLaws.bef Tryd.prog 5 = true := by kernel_rfl


end
end Go.Ab.T
