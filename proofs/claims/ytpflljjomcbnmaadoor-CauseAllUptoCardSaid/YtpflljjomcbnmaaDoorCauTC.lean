/- CauTC: a part of the proofs of this seat's statements. -/
import Derived.Test.YtpflljjomcbnmaaDoorCauTB
import Derived.Test.YtpflljjomcbnmaaDoorKnot
import Derived.Test.YtpflljjomcbnmaaDoorCauTP



namespace Go.Ab.T

open Go Go.Ab Go.Proofs

set_option maxRecDepth 100000

set_option linter.unusedVariables false

noncomputable section

def Ok_law2_CauseAll {R : Type} (c : (List Int) → Int → (List Int) → (Bool → Option R) → Option R) : Prop := ∀ (v1 : (List Int)) (v2 : Int) (v3 : (List Int)) (K : S → List Ent → Option R) (r : R), c v1 v2 v3 (fun (r0 : Bool) => K (.bool r0) []) = some r → ∃ v es, FnOk Tryd.prog glob 3 (npF raw 3 []) [.sl (.int .i64) v1, .int .i64 v2, .sl (.int .i64) v3] [] v es ∧ K v es = some r

theorem okn_law2_CauseAll {R : Type} : Ok_law2_CauseAll (R := R) (fun _ _ _ _ => none) := fun _ _ _ _ _ h => no_some h

theorem shok_3 {R : Type} {c_law2_CauseAll : (List Int) → Int → (List Int) → (Bool → Option R) → Option R} (h_law2_CauseAll : Ok_law2_CauseAll c_law2_CauseAll) : ShOk Tryd.prog glob raw 3 (sh3 c_law2_CauseAll) := by
  intro av es K r h
  unfold sh3 at h
  split at h
  · exact h_law2_CauseAll _ _ _ _ _ h
  · exact no_some h

def Ok_law2_CauseWraps {R : Type} (c : (List Int) → Int → Int → (Bool → Option R) → Option R) : Prop := ∀ (v1 : (List Int)) (v2 : Int) (v3 : Int) (K : S → List Ent → Option R) (r : R), c v1 v2 v3 (fun (r0 : Bool) => K (.bool r0) []) = some r → ∃ v es, FnOk Tryd.prog glob 4 (npF raw 4 []) [.sl (.int .i64) v1, .int .i64 v2, .int .i64 v3] [] v es ∧ K v es = some r

theorem okn_law2_CauseWraps {R : Type} : Ok_law2_CauseWraps (R := R) (fun _ _ _ _ => none) := fun _ _ _ _ _ h => no_some h

theorem shok_4 {R : Type} {c_law2_CauseWraps : (List Int) → Int → Int → (Bool → Option R) → Option R} (h_law2_CauseWraps : Ok_law2_CauseWraps c_law2_CauseWraps) : ShOk Tryd.prog glob raw 4 (sh4 c_law2_CauseWraps) := by
  intro av es K r h
  unfold sh4 at h
  split at h
  · exact h_law2_CauseWraps _ _ _ _ _ h
  · exact no_some h

def Ok_law2_CauseCodes {R : Type} (c : (List Int) → Int → Int → (Bool → Option R) → Option R) : Prop := ∀ (v1 : (List Int)) (v2 : Int) (v3 : Int) (K : S → List Ent → Option R) (r : R), c v1 v2 v3 (fun (r0 : Bool) => K (.bool r0) []) = some r → ∃ v es, FnOk Tryd.prog glob 5 (npF raw 5 []) [.sl (.int .i64) v1, .int .i64 v2, .int .u8 v3] [] v es ∧ K v es = some r

theorem okn_law2_CauseCodes {R : Type} : Ok_law2_CauseCodes (R := R) (fun _ _ _ _ => none) := fun _ _ _ _ _ h => no_some h

theorem shok_5 {R : Type} {c_law2_CauseCodes : (List Int) → Int → Int → (Bool → Option R) → Option R} (h_law2_CauseCodes : Ok_law2_CauseCodes c_law2_CauseCodes) : ShOk Tryd.prog glob raw 5 (sh5 c_law2_CauseCodes) := by
  intro av es K r h
  unfold sh5 at h
  split at h
  · exact h_law2_CauseCodes _ _ _ _ _ h
  · exact no_some h

def Ok_law2_CausePlaces {R : Type} (c : (List Int) → Int → (Bool → Option R) → Option R) : Prop := ∀ (v1 : (List Int)) (v2 : Int) (K : S → List Ent → Option R) (r : R), c v1 v2 (fun (r0 : Bool) => K (.bool r0) []) = some r → ∃ v es, FnOk Tryd.prog glob 6 (npF raw 6 []) [.sl (.int .i64) v1, .int .i64 v2] [] v es ∧ K v es = some r

theorem okn_law2_CausePlaces {R : Type} : Ok_law2_CausePlaces (R := R) (fun _ _ _ => none) := fun _ _ _ _ h => no_some h

theorem shok_6 {R : Type} {c_law2_CausePlaces : (List Int) → Int → (Bool → Option R) → Option R} (h_law2_CausePlaces : Ok_law2_CausePlaces c_law2_CausePlaces) : ShOk Tryd.prog glob raw 6 (sh6 c_law2_CausePlaces) := by
  intro av es K r h
  unfold sh6 at h
  split at h
  · exact h_law2_CausePlaces _ _ _ _ h
  · exact no_some h

def Ok_law2_begun {R : Type} (c : (Bool → Option R) → Option R) : Prop := ∀ (K : S → List Ent → Option R) (r : R), c (fun (r0 : Bool) => K (.bool r0) []) = some r → ∃ v es, FnOk Tryd.prog glob 7 (npF raw 7 []) [] [] v es ∧ K v es = some r

theorem okn_law2_begun {R : Type} : Ok_law2_begun (R := R) (fun _ => none) := fun _ _ h => no_some h

theorem shok_7 {R : Type} {c_law2_begun : (Bool → Option R) → Option R} (h_law2_begun : Ok_law2_begun c_law2_begun) : ShOk Tryd.prog glob raw 7 (sh7 c_law2_begun) := by
  intro av es K r h
  unfold sh7 at h
  split at h
  · exact h_law2_begun _ _ h
  · exact no_some h

def Ok_law2_kinds {R : Type} (c : (List Int) → (Bool → Option R) → Option R) : Prop := ∀ (v1 : (List Int)) (K : S → List Ent → Option R) (r : R), c v1 (fun (r0 : Bool) => K (.bool r0) []) = some r → ∃ v es, FnOk Tryd.prog glob 8 (npF raw 8 []) [.sl (.int .i64) v1] [] v es ∧ K v es = some r

theorem okn_law2_kinds {R : Type} : Ok_law2_kinds (R := R) (fun _ _ => none) := fun _ _ _ h => no_some h

theorem shok_8 {R : Type} {c_law2_kinds : (List Int) → (Bool → Option R) → Option R} (h_law2_kinds : Ok_law2_kinds c_law2_kinds) : ShOk Tryd.prog glob raw 8 (sh8 c_law2_kinds) := by
  intro av es K r h
  unfold sh8 at h
  split at h
  · exact h_law2_kinds _ _ _ h
  · exact no_some h

def Ok_cause_Chain {R : Type} (c : (List Int) → Int → (List Int) → (Int → Int → Bool → Int → (List Bool) → Option R) → Option R) : Prop := ∀ (v1 : (List Int)) (v2 : Int) (v3 : (List Int)) (K : S → List Ent → Option R) (r : R), c v1 v2 v3 (fun (r0 : Int) (r1 : Int) (r2 : Bool) (r3 : Int) (r4 : (List Bool)) => K (.st [.own .bool 0, .int .i64 r0, .int .i64 r1, .bool r2, .int .i64 r3]) [.buf .bool r4 false]) = some r → ∃ v es, FnOk Tryd.prog glob 9 (npF raw 9 []) [.sl (.int .i64) v1, .int .i64 v2, .sl (.int .i64) v3] [] v es ∧ K v es = some r

theorem okn_cause_Chain {R : Type} : Ok_cause_Chain (R := R) (fun _ _ _ _ => none) := fun _ _ _ _ _ h => no_some h

theorem shok_9 {R : Type} {c_cause_Chain : (List Int) → Int → (List Int) → (Int → Int → Bool → Int → (List Bool) → Option R) → Option R} (h_cause_Chain : Ok_cause_Chain c_cause_Chain) : ShOk Tryd.prog glob raw 9 (sh9 c_cause_Chain) := by
  intro av es K r h
  unfold sh9 at h
  split at h
  · exact h_cause_Chain _ _ _ _ _ h
  · exact no_some h

def Ok_ref1_Chain {R : Type} (c : (List Int) → Int → (List Int) → (Int → Int → Bool → Int → (List Bool) → Option R) → Option R) : Prop := ∀ (v1 : (List Int)) (v2 : Int) (v3 : (List Int)) (K : S → List Ent → Option R) (r : R), c v1 v2 v3 (fun (r0 : Int) (r1 : Int) (r2 : Bool) (r3 : Int) (r4 : (List Bool)) => K (.st [.own .bool 0, .int .i64 r0, .int .i64 r1, .bool r2, .int .i64 r3]) [.buf .bool r4 false]) = some r → ∃ v es, FnOk Tryd.prog glob 10 (npF raw 10 []) [.sl (.int .i64) v1, .int .i64 v2, .sl (.int .i64) v3] [] v es ∧ K v es = some r

theorem okn_ref1_Chain {R : Type} : Ok_ref1_Chain (R := R) (fun _ _ _ _ => none) := fun _ _ _ _ _ h => no_some h

theorem shok_10 {R : Type} {c_ref1_Chain : (List Int) → Int → (List Int) → (Int → Int → Bool → Int → (List Bool) → Option R) → Option R} (h_ref1_Chain : Ok_ref1_Chain c_ref1_Chain) : ShOk Tryd.prog glob raw 10 (sh10 c_ref1_Chain) := by
  intro av es K r h
  unfold sh10 at h
  split at h
  · exact h_ref1_Chain _ _ _ _ _ h
  · exact no_some h

def Ok_cause_Code {R : Type} (c : (List Int) → Int → (Int → Int → Option R) → Option R) : Prop := ∀ (v1 : (List Int)) (v2 : Int) (K : S → List Ent → Option R) (r : R), c v1 v2 (fun (r0 : Int) (r1 : Int) => K (.tup [.int .i64 r0, .int .i64 r1]) []) = some r → ∃ v es, FnOk Tryd.prog glob 11 (npF raw 11 []) [.sl (.int .i64) v1, .int .i64 v2] [] v es ∧ K v es = some r

theorem okn_cause_Code {R : Type} : Ok_cause_Code (R := R) (fun _ _ _ => none) := fun _ _ _ _ h => no_some h

theorem shok_11 {R : Type} {c_cause_Code : (List Int) → Int → (Int → Int → Option R) → Option R} (h_cause_Code : Ok_cause_Code c_cause_Code) : ShOk Tryd.prog glob raw 11 (sh11 c_cause_Code) := by
  intro av es K r h
  unfold sh11 at h
  split at h
  · exact h_cause_Code _ _ _ _ h
  · exact no_some h

def Ok_ref1_Code {R : Type} (c : (List Int) → Int → (Int → Int → Option R) → Option R) : Prop := ∀ (v1 : (List Int)) (v2 : Int) (K : S → List Ent → Option R) (r : R), c v1 v2 (fun (r0 : Int) (r1 : Int) => K (.tup [.int .i64 r0, .int .i64 r1]) []) = some r → ∃ v es, FnOk Tryd.prog glob 12 (npF raw 12 []) [.sl (.int .i64) v1, .int .i64 v2] [] v es ∧ K v es = some r

theorem okn_ref1_Code {R : Type} : Ok_ref1_Code (R := R) (fun _ _ _ => none) := fun _ _ _ _ h => no_some h

theorem shok_12 {R : Type} {c_ref1_Code : (List Int) → Int → (Int → Int → Option R) → Option R} (h_ref1_Code : Ok_ref1_Code c_ref1_Code) : ShOk Tryd.prog glob raw 12 (sh12 c_ref1_Code) := by
  intro av es K r h
  unfold sh12 at h
  split at h
  · exact h_ref1_Code _ _ _ _ h
  · exact no_some h

def Ok_cause_made {R : Type} (c : (List Int) → Int → (Err → Option R) → Option R) : Prop := ∀ (v1 : (List Int)) (v2 : Int) (K : S → List Ent → Option R) (r : R), c v1 v2 (fun (r0 : Err) => K (.err r0) []) = some r → ∃ v es, FnOk Tryd.prog glob 13 (npF raw 13 []) [.sl (.int .i64) v1, .int .i64 v2] [] v es ∧ K v es = some r

theorem okn_cause_made {R : Type} : Ok_cause_made (R := R) (fun _ _ _ => none) := fun _ _ _ _ h => no_some h

theorem shok_13 {R : Type} {c_cause_made : (List Int) → Int → (Err → Option R) → Option R} (h_cause_made : Ok_cause_made c_cause_made) : ShOk Tryd.prog glob raw 13 (sh13 c_cause_made) := by
  intro av es K r h
  unfold sh13 at h
  split at h
  · exact h_cause_made _ _ _ _ h
  · exact no_some h

def Ok_ref1_in {R : Type} (c : (List Int) → Int → (Bool → Option R) → Option R) : Prop := ∀ (v1 : (List Int)) (v2 : Int) (K : S → List Ent → Option R) (r : R), c v1 v2 (fun (r0 : Bool) => K (.bool r0) []) = some r → ∃ v es, FnOk Tryd.prog glob 18 (npF raw 18 []) [.sl (.int .i64) v1, .int .i64 v2] [] v es ∧ K v es = some r

theorem okn_ref1_in {R : Type} : Ok_ref1_in (R := R) (fun _ _ _ => none) := fun _ _ _ _ h => no_some h

theorem shok_18 {R : Type} {c_ref1_in : (List Int) → Int → (Bool → Option R) → Option R} (h_ref1_in : Ok_ref1_in c_ref1_in) : ShOk Tryd.prog glob raw 18 (sh18 c_ref1_in) := by
  intro av es K r h
  unfold sh18 at h
  split at h
  · exact h_ref1_in _ _ _ _ h
  · exact no_some h

theorem t_cause_made : textOk C_cause_made.bef Tryd.prog 13 = true := by kernel_rfl

theorem sln_cause_made_l3 {R : Type} : SlOk (R := R) C_cause_made 13 38 0 3 (sl_cause_made_l3 (fun _ _ _ _ _ _ => none)) := by
  intro vs es K r h
  unfold sl_cause_made_l3 at h
  split at h <;> exact no_some h

theorem lok_cause_made_l3 {R : Type} (kf : Nat) : ∀ n, SlOk (R := R) C_cause_made 13 38 0 3 (sl_cause_made_l3 (cause_made_l3 kf n)) := by
  intro n
  induction n with
  | zero =>
    intro vs es K r h
    unfold sl_cause_made_l3 at h
    split at h <;> exact no_some h
  | succ k ih =>
    have hcf : CfOk (R := R) Tryd.prog glob raw (cf_cause_made (cause_made_l3 kf k)) := cf_nil
    have hlf : LfOk (R := R) C_cause_made 13 (lf_cause_made (cause_made_l3 kf k)) := (lf_top (lf_cons ih lf_nil))
    intro vs es K r h
    unfold sl_cause_made_l3 at h
    split at h
    · exact loop_good (text_mixed t_cause_made) hcf hlf (text_loop t_cause_made 3).1 (text_loop t_cause_made 3).2 ((eq_cause_made_l3 (cause_made_l3 kf k) _ _ _ _ _ K).trans h)
    · exact no_some h

theorem ok_cause_made {R : Type} (kf : Nat) : Ok_cause_made (R := R) (cause_made kf) := by
  have hcf : CfOk (R := R) Tryd.prog glob raw (cf_cause_made (cause_made_l3 kf kf)) := cf_nil
  have hlf : LfOk (R := R) C_cause_made 13 (lf_cause_made (cause_made_l3 kf kf)) := (lf_top (lf_cons (lok_cause_made_l3 kf kf) lf_nil))
  intro v1 v2 K r h
  exact run_good t_cause_made hcf hlf ((eq_cause_made (cause_made_l3 kf kf) v1 v2 K).trans h)

theorem t_cause_Chain : textOk C_cause_Chain.bef Tryd.prog 9 = true := by kernel_rfl

theorem sln_cause_Chain_l4 {R : Type} : SlOk (R := R) C_cause_Chain 9 53 0 4 (sl_cause_Chain_l4 (fun _ _ _ _ _ _ _ _ _ _ _ _ _ _ _ => none)) := by
  intro vs es K r h
  unfold sl_cause_Chain_l4 at h
  split at h <;> exact no_some h

theorem sln_cause_Chain_l12 {R : Type} : SlOk (R := R) C_cause_Chain 9 53 0 12 (sl_cause_Chain_l12 (fun _ _ _ _ _ _ _ _ _ _ _ _ => none)) := by
  intro vs es K r h
  unfold sl_cause_Chain_l12 at h
  split at h <;> exact no_some h

theorem lok_cause_Chain_l4 {R : Type} (kf : Nat) : ∀ n, SlOk (R := R) C_cause_Chain 9 53 0 4 (sl_cause_Chain_l4 (cause_Chain_l4 kf n)) := by
  intro n
  induction n with
  | zero =>
    intro vs es K r h
    unfold sl_cause_Chain_l4 at h
    split at h <;> exact no_some h
  | succ k ih =>
    have hcf : CfOk (R := R) Tryd.prog glob raw (cf_cause_Chain (cause_made kf) (cause_Chain_l4 kf k) (fun _ _ _ _ _ _ _ _ _ _ _ _ => none)) := (cf_cons (shok_13 (ok_cause_made kf)) (cf_cons (pok_14) (cf_cons (pok_15) (cf_cons (pok_16) (cf_cons (pok_17) cf_nil)))))
    have hlf : LfOk (R := R) C_cause_Chain 9 (lf_cause_Chain (cause_made kf) (cause_Chain_l4 kf k) (fun _ _ _ _ _ _ _ _ _ _ _ _ => none)) := (lf_top (lf_cons ih (lf_cons (sln_cause_Chain_l12) lf_nil)))
    intro vs es K r h
    unfold sl_cause_Chain_l4 at h
    split at h
    · exact loop_good (text_mixed t_cause_Chain) hcf hlf (text_loop t_cause_Chain 4).1 (text_loop t_cause_Chain 4).2 ((eq_cause_Chain_l4 (cause_made kf) (cause_Chain_l4 kf k) (fun _ _ _ _ _ _ _ _ _ _ _ _ => none) _ _ _ _ _ _ _ _ _ _ _ _ _ _ K).trans h)
    · exact no_some h

theorem lok_cause_Chain_l12 {R : Type} (kf : Nat) : ∀ n, SlOk (R := R) C_cause_Chain 9 53 0 12 (sl_cause_Chain_l12 (cause_Chain_l12 kf n)) := by
  intro n
  induction n with
  | zero =>
    intro vs es K r h
    unfold sl_cause_Chain_l12 at h
    split at h <;> exact no_some h
  | succ k ih =>
    have hcf : CfOk (R := R) Tryd.prog glob raw (cf_cause_Chain (cause_made kf) (cause_Chain_l4 kf k) (cause_Chain_l12 kf k)) := (cf_cons (shok_13 (ok_cause_made kf)) (cf_cons (pok_14) (cf_cons (pok_15) (cf_cons (pok_16) (cf_cons (pok_17) cf_nil)))))
    have hlf : LfOk (R := R) C_cause_Chain 9 (lf_cause_Chain (cause_made kf) (cause_Chain_l4 kf k) (cause_Chain_l12 kf k)) := (lf_top (lf_cons (lok_cause_Chain_l4 kf k) (lf_cons ih lf_nil)))
    intro vs es K r h
    unfold sl_cause_Chain_l12 at h
    split at h
    · exact loop_good (text_mixed t_cause_Chain) hcf hlf (text_loop t_cause_Chain 12).1 (text_loop t_cause_Chain 12).2 ((eq_cause_Chain_l12 (cause_made kf) (cause_Chain_l4 kf k) (cause_Chain_l12 kf k) _ _ _ _ _ _ _ _ _ _ _ K).trans h)
    · exact no_some h

theorem ok_cause_Chain {R : Type} (kf : Nat) : Ok_cause_Chain (R := R) (cause_Chain kf) := by
  have hcf : CfOk (R := R) Tryd.prog glob raw (cf_cause_Chain (cause_made kf) (cause_Chain_l4 kf kf) (cause_Chain_l12 kf kf)) := (cf_cons (shok_13 (ok_cause_made kf)) (cf_cons (pok_14) (cf_cons (pok_15) (cf_cons (pok_16) (cf_cons (pok_17) cf_nil)))))
  have hlf : LfOk (R := R) C_cause_Chain 9 (lf_cause_Chain (cause_made kf) (cause_Chain_l4 kf kf) (cause_Chain_l12 kf kf)) := (lf_top (lf_cons (lok_cause_Chain_l4 kf kf) (lf_cons (lok_cause_Chain_l12 kf kf) lf_nil)))
  intro v1 v2 v3 K r h
  exact run_good t_cause_Chain hcf hlf ((eq_cause_Chain (cause_made kf) (cause_Chain_l4 kf kf) (cause_Chain_l12 kf kf) v1 v2 v3 K).trans h)

theorem t_cause_Code : textOk C_cause_Code.bef Tryd.prog 11 = true := by kernel_rfl

theorem sln_cause_Code_l4 {R : Type} : SlOk (R := R) C_cause_Code 11 39 0 4 (sl_cause_Code_l4 (fun _ _ _ _ _ _ _ => none)) := by
  intro vs es K r h
  unfold sl_cause_Code_l4 at h
  split at h <;> exact no_some h

theorem lok_cause_Code_l4 {R : Type} (kf : Nat) : ∀ n, SlOk (R := R) C_cause_Code 11 39 0 4 (sl_cause_Code_l4 (cause_Code_l4 kf n)) := by
  intro n
  induction n with
  | zero =>
    intro vs es K r h
    unfold sl_cause_Code_l4 at h
    split at h <;> exact no_some h
  | succ k ih =>
    have hcf : CfOk (R := R) Tryd.prog glob raw (cf_cause_Code (cause_made kf) (cause_Code_l4 kf k)) := (cf_cons (shok_13 (ok_cause_made kf)) (cf_cons (pok_14) (cf_cons (pok_15) (cf_cons (pok_16) cf_nil))))
    have hlf : LfOk (R := R) C_cause_Code 11 (lf_cause_Code (cause_made kf) (cause_Code_l4 kf k)) := (lf_top (lf_cons ih lf_nil))
    intro vs es K r h
    unfold sl_cause_Code_l4 at h
    split at h
    · exact loop_good (text_mixed t_cause_Code) hcf hlf (text_loop t_cause_Code 4).1 (text_loop t_cause_Code 4).2 ((eq_cause_Code_l4 (cause_made kf) (cause_Code_l4 kf k) _ _ _ _ _ _ K).trans h)
    · exact no_some h

theorem ok_cause_Code {R : Type} (kf : Nat) : Ok_cause_Code (R := R) (cause_Code kf) := by
  have hcf : CfOk (R := R) Tryd.prog glob raw (cf_cause_Code (cause_made kf) (cause_Code_l4 kf kf)) := (cf_cons (shok_13 (ok_cause_made kf)) (cf_cons (pok_14) (cf_cons (pok_15) (cf_cons (pok_16) cf_nil))))
  have hlf : LfOk (R := R) C_cause_Code 11 (lf_cause_Code (cause_made kf) (cause_Code_l4 kf kf)) := (lf_top (lf_cons (lok_cause_Code_l4 kf kf) lf_nil))
  intro v1 v2 K r h
  exact run_good t_cause_Code hcf hlf ((eq_cause_Code (cause_made kf) (cause_Code_l4 kf kf) v1 v2 K).trans h)

theorem t_law2_begun : textOk C_law2_begun.bef Tryd.prog 7 = true := by kernel_rfl

theorem ok_law2_begun {R : Type} (kf : Nat) : Ok_law2_begun (R := R) (law2_begun kf) := by
  have hcf : CfOk (R := R) Tryd.prog glob raw (cf_law2_begun (cause_Chain kf) (cause_Code kf)) := (cf_cons (shok_9 (ok_cause_Chain kf)) (cf_cons (shok_11 (ok_cause_Code kf)) cf_nil))
  have hlf : LfOk (R := R) C_law2_begun 7 (lf_law2_begun (cause_Chain kf) (cause_Code kf)) := lf_none
  intro K r h
  exact run_good t_law2_begun hcf hlf ((eq_law2_begun (cause_Chain kf) (cause_Code kf) K).trans h)

theorem t_law2_kinds : textOk C_law2_kinds.bef Tryd.prog 8 = true := by kernel_rfl

theorem sln_law2_kinds_l4 {R : Type} : SlOk (R := R) C_law2_kinds 8 25 0 4 (sl_law2_kinds_l4 (fun _ _ _ _ => none)) := by
  intro vs es K r h
  unfold sl_law2_kinds_l4 at h
  split at h <;> exact no_some h

theorem lok_law2_kinds_l4 {R : Type} (kf : Nat) : ∀ n, SlOk (R := R) C_law2_kinds 8 25 0 4 (sl_law2_kinds_l4 (law2_kinds_l4 kf n)) := by
  intro n
  induction n with
  | zero =>
    intro vs es K r h
    unfold sl_law2_kinds_l4 at h
    split at h <;> exact no_some h
  | succ k ih =>
    have hcf : CfOk (R := R) Tryd.prog glob raw (cf_law2_kinds (law2_kinds_l4 kf k)) := cf_nil
    have hlf : LfOk (R := R) C_law2_kinds 8 (lf_law2_kinds (law2_kinds_l4 kf k)) := (lf_top (lf_cons ih lf_nil))
    intro vs es K r h
    unfold sl_law2_kinds_l4 at h
    split at h
    · exact loop_good (text_mixed t_law2_kinds) hcf hlf (text_loop t_law2_kinds 4).1 (text_loop t_law2_kinds 4).2 ((eq_law2_kinds_l4 (law2_kinds_l4 kf k) _ _ K).trans h)
    · exact no_some h

theorem ok_law2_kinds {R : Type} (kf : Nat) : Ok_law2_kinds (R := R) (law2_kinds kf) := by
  have hcf : CfOk (R := R) Tryd.prog glob raw (cf_law2_kinds (law2_kinds_l4 kf kf)) := cf_nil
  have hlf : LfOk (R := R) C_law2_kinds 8 (lf_law2_kinds (law2_kinds_l4 kf kf)) := (lf_top (lf_cons (lok_law2_kinds_l4 kf kf) lf_nil))
  intro v1 K r h
  exact run_good t_law2_kinds hcf hlf ((eq_law2_kinds (law2_kinds_l4 kf kf) v1 K).trans h)

theorem t_ref1_in : textOk C_ref1_in.bef Tryd.prog 18 = true := by kernel_rfl

theorem sln_ref1_in_l2 {R : Type} : SlOk (R := R) C_ref1_in 18 18 0 2 (sl_ref1_in_l2 (fun _ _ _ _ _ => none)) := by
  intro vs es K r h
  unfold sl_ref1_in_l2 at h
  split at h <;> exact no_some h

theorem lok_ref1_in_l2 {R : Type} (kf : Nat) : ∀ n, SlOk (R := R) C_ref1_in 18 18 0 2 (sl_ref1_in_l2 (ref1_in_l2 kf n)) := by
  intro n
  induction n with
  | zero =>
    intro vs es K r h
    unfold sl_ref1_in_l2 at h
    split at h <;> exact no_some h
  | succ k ih =>
    have hcf : CfOk (R := R) Tryd.prog glob raw (cf_ref1_in (ref1_in_l2 kf k)) := cf_nil
    have hlf : LfOk (R := R) C_ref1_in 18 (lf_ref1_in (ref1_in_l2 kf k)) := (lf_top (lf_cons ih lf_nil))
    intro vs es K r h
    unfold sl_ref1_in_l2 at h
    split at h
    · exact loop_good (text_mixed t_ref1_in) hcf hlf (text_loop t_ref1_in 2).1 (text_loop t_ref1_in 2).2 ((eq_ref1_in_l2 (ref1_in_l2 kf k) _ _ _ K).trans h)
    · exact no_some h

theorem ok_ref1_in {R : Type} (kf : Nat) : Ok_ref1_in (R := R) (ref1_in kf) := by
  have hcf : CfOk (R := R) Tryd.prog glob raw (cf_ref1_in (ref1_in_l2 kf kf)) := cf_nil
  have hlf : LfOk (R := R) C_ref1_in 18 (lf_ref1_in (ref1_in_l2 kf kf)) := (lf_top (lf_cons (lok_ref1_in_l2 kf kf) lf_nil))
  intro v1 v2 K r h
  exact run_good t_ref1_in hcf hlf ((eq_ref1_in (ref1_in_l2 kf kf) v1 v2 K).trans h)

theorem t_ref1_Chain : textOk C_ref1_Chain.bef Tryd.prog 10 = true := by kernel_rfl

theorem sln_ref1_Chain_l4 {R : Type} : SlOk (R := R) C_ref1_Chain 10 79 0 4 (sl_ref1_Chain_l4 (fun _ _ _ _ _ _ _ _ _ _ _ _ _ _ _ _ => none)) := by
  intro vs es K r h
  unfold sl_ref1_Chain_l4 at h
  split at h <;> exact no_some h

theorem sln_ref1_Chain_l9 {R : Type} : SlOk (R := R) C_ref1_Chain 10 79 0 9 (sl_ref1_Chain_l9 (fun _ _ _ _ _ _ _ _ _ _ _ _ _ _ _ _ => none)) := by
  intro vs es K r h
  unfold sl_ref1_Chain_l9 at h
  split at h <;> exact no_some h

theorem lok_ref1_Chain_l4 {R : Type} (kf : Nat) : ∀ n, SlOk (R := R) C_ref1_Chain 10 79 0 4 (sl_ref1_Chain_l4 (ref1_Chain_l4 kf n)) := by
  intro n
  induction n with
  | zero =>
    intro vs es K r h
    unfold sl_ref1_Chain_l4 at h
    split at h <;> exact no_some h
  | succ k ih =>
    have hcf : CfOk (R := R) Tryd.prog glob raw (cf_ref1_Chain (ref1_in kf) (ref1_Chain_l4 kf k) (fun _ _ _ _ _ _ _ _ _ _ _ _ _ _ _ _ => none)) := (cf_cons (shok_18 (ok_ref1_in kf)) cf_nil)
    have hlf : LfOk (R := R) C_ref1_Chain 10 (lf_ref1_Chain (ref1_in kf) (ref1_Chain_l4 kf k) (fun _ _ _ _ _ _ _ _ _ _ _ _ _ _ _ _ => none)) := (lf_top (lf_cons ih (lf_cons (sln_ref1_Chain_l9) lf_nil)))
    intro vs es K r h
    unfold sl_ref1_Chain_l4 at h
    split at h
    · exact loop_good (text_mixed t_ref1_Chain) hcf hlf (text_loop t_ref1_Chain 4).1 (text_loop t_ref1_Chain 4).2 ((eq_ref1_Chain_l4 (ref1_in kf) (ref1_Chain_l4 kf k) (fun _ _ _ _ _ _ _ _ _ _ _ _ _ _ _ _ => none) _ _ _ _ _ _ _ _ _ _ _ _ _ _ _ K).trans h)
    · exact no_some h

theorem lok_ref1_Chain_l9 {R : Type} (kf : Nat) : ∀ n, SlOk (R := R) C_ref1_Chain 10 79 0 9 (sl_ref1_Chain_l9 (ref1_Chain_l9 kf n)) := by
  intro n
  induction n with
  | zero =>
    intro vs es K r h
    unfold sl_ref1_Chain_l9 at h
    split at h <;> exact no_some h
  | succ k ih =>
    have hcf : CfOk (R := R) Tryd.prog glob raw (cf_ref1_Chain (ref1_in kf) (ref1_Chain_l4 kf k) (ref1_Chain_l9 kf k)) := (cf_cons (shok_18 (ok_ref1_in kf)) cf_nil)
    have hlf : LfOk (R := R) C_ref1_Chain 10 (lf_ref1_Chain (ref1_in kf) (ref1_Chain_l4 kf k) (ref1_Chain_l9 kf k)) := (lf_top (lf_cons (lok_ref1_Chain_l4 kf k) (lf_cons ih lf_nil)))
    intro vs es K r h
    unfold sl_ref1_Chain_l9 at h
    split at h
    · exact loop_good (text_mixed t_ref1_Chain) hcf hlf (text_loop t_ref1_Chain 9).1 (text_loop t_ref1_Chain 9).2 ((eq_ref1_Chain_l9 (ref1_in kf) (ref1_Chain_l4 kf k) (ref1_Chain_l9 kf k) _ _ _ _ _ _ _ _ _ _ _ _ _ _ _ K).trans h)
    · exact no_some h

theorem ok_ref1_Chain {R : Type} (kf : Nat) : Ok_ref1_Chain (R := R) (ref1_Chain kf) := by
  have hcf : CfOk (R := R) Tryd.prog glob raw (cf_ref1_Chain (ref1_in kf) (ref1_Chain_l4 kf kf) (ref1_Chain_l9 kf kf)) := (cf_cons (shok_18 (ok_ref1_in kf)) cf_nil)
  have hlf : LfOk (R := R) C_ref1_Chain 10 (lf_ref1_Chain (ref1_in kf) (ref1_Chain_l4 kf kf) (ref1_Chain_l9 kf kf)) := (lf_top (lf_cons (lok_ref1_Chain_l4 kf kf) (lf_cons (lok_ref1_Chain_l9 kf kf) lf_nil)))
  intro v1 v2 v3 K r h
  exact run_good t_ref1_Chain hcf hlf ((eq_ref1_Chain (ref1_in kf) (ref1_Chain_l4 kf kf) (ref1_Chain_l9 kf kf) v1 v2 v3 K).trans h)

theorem t_ref1_Code : textOk C_ref1_Code.bef Tryd.prog 12 = true := by kernel_rfl

theorem sln_ref1_Code_l5 {R : Type} : SlOk (R := R) C_ref1_Code 12 39 0 5 (sl_ref1_Code_l5 (fun _ _ _ _ _ _ _ _ _ => none)) := by
  intro vs es K r h
  unfold sl_ref1_Code_l5 at h
  split at h <;> exact no_some h

theorem lok_ref1_Code_l5 {R : Type} (kf : Nat) : ∀ n, SlOk (R := R) C_ref1_Code 12 39 0 5 (sl_ref1_Code_l5 (ref1_Code_l5 kf n)) := by
  intro n
  induction n with
  | zero =>
    intro vs es K r h
    unfold sl_ref1_Code_l5 at h
    split at h <;> exact no_some h
  | succ k ih =>
    have hcf : CfOk (R := R) Tryd.prog glob raw (cf_ref1_Code (ref1_Chain kf) (ref1_Code_l5 kf k)) := (cf_cons (shok_10 (ok_ref1_Chain kf)) cf_nil)
    have hlf : LfOk (R := R) C_ref1_Code 12 (lf_ref1_Code (ref1_Chain kf) (ref1_Code_l5 kf k)) := (lf_top (lf_cons ih lf_nil))
    intro vs es K r h
    unfold sl_ref1_Code_l5 at h
    split at h
    · exact loop_good (text_mixed t_ref1_Code) hcf hlf (text_loop t_ref1_Code 5).1 (text_loop t_ref1_Code 5).2 ((eq_ref1_Code_l5 (ref1_Chain kf) (ref1_Code_l5 kf k) _ _ _ _ _ _ _ _ K).trans h)
    · exact no_some h

theorem ok_ref1_Code {R : Type} (kf : Nat) : Ok_ref1_Code (R := R) (ref1_Code kf) := by
  have hcf : CfOk (R := R) Tryd.prog glob raw (cf_ref1_Code (ref1_Chain kf) (ref1_Code_l5 kf kf)) := (cf_cons (shok_10 (ok_ref1_Chain kf)) cf_nil)
  have hlf : LfOk (R := R) C_ref1_Code 12 (lf_ref1_Code (ref1_Chain kf) (ref1_Code_l5 kf kf)) := (lf_top (lf_cons (lok_ref1_Code_l5 kf kf) lf_nil))
  intro v1 v2 K r h
  exact run_good t_ref1_Code hcf hlf ((eq_ref1_Code (ref1_Chain kf) (ref1_Code_l5 kf kf) v1 v2 K).trans h)

theorem t_law2_CauseAll : textOk C_law2_CauseAll.bef Tryd.prog 3 = true := by kernel_rfl

theorem sln_law2_CauseAll_l11 {R : Type} : SlOk (R := R) C_law2_CauseAll 3 105 0 11 (sl_law2_CauseAll_l11 (fun _ _ _ _ _ _ _ _ _ => none)) := by
  intro vs es K r h
  unfold sl_law2_CauseAll_l11 at h
  split at h <;> exact no_some h

theorem lok_law2_CauseAll_l11 {R : Type} (kf : Nat) : ∀ n, SlOk (R := R) C_law2_CauseAll 3 105 0 11 (sl_law2_CauseAll_l11 (law2_CauseAll_l11 kf n)) := by
  intro n
  induction n with
  | zero =>
    intro vs es K r h
    unfold sl_law2_CauseAll_l11 at h
    split at h <;> exact no_some h
  | succ k ih =>
    have hcf : CfOk (R := R) Tryd.prog glob raw (cf_law2_CauseAll (law2_begun kf) (law2_kinds kf) (cause_Chain kf) (ref1_Chain kf) (cause_Code kf) (ref1_Code kf) (law2_CauseAll_l11 kf k)) := (cf_cons (shok_7 (ok_law2_begun kf)) (cf_cons (shok_8 (ok_law2_kinds kf)) (cf_cons (shok_9 (ok_cause_Chain kf)) (cf_cons (shok_10 (ok_ref1_Chain kf)) (cf_cons (shok_11 (ok_cause_Code kf)) (cf_cons (shok_12 (ok_ref1_Code kf)) cf_nil))))))
    have hlf : LfOk (R := R) C_law2_CauseAll 3 (lf_law2_CauseAll (law2_begun kf) (law2_kinds kf) (cause_Chain kf) (ref1_Chain kf) (cause_Code kf) (ref1_Code kf) (law2_CauseAll_l11 kf k)) := (lf_top (lf_cons ih lf_nil))
    intro vs es K r h
    unfold sl_law2_CauseAll_l11 at h
    split at h
    · exact loop_good (text_mixed t_law2_CauseAll) hcf hlf (text_loop t_law2_CauseAll 11).1 (text_loop t_law2_CauseAll 11).2 ((eq_law2_CauseAll_l11 (law2_begun kf) (law2_kinds kf) (cause_Chain kf) (ref1_Chain kf) (cause_Code kf) (ref1_Code kf) (law2_CauseAll_l11 kf k) _ _ _ _ _ _ _ _ _ _ _ _ _ _ _ K).trans h)
    · exact no_some h

theorem ok_law2_CauseAll {R : Type} (kf : Nat) : Ok_law2_CauseAll (R := R) (law2_CauseAll kf) := by
  have hcf : CfOk (R := R) Tryd.prog glob raw (cf_law2_CauseAll (law2_begun kf) (law2_kinds kf) (cause_Chain kf) (ref1_Chain kf) (cause_Code kf) (ref1_Code kf) (law2_CauseAll_l11 kf kf)) := (cf_cons (shok_7 (ok_law2_begun kf)) (cf_cons (shok_8 (ok_law2_kinds kf)) (cf_cons (shok_9 (ok_cause_Chain kf)) (cf_cons (shok_10 (ok_ref1_Chain kf)) (cf_cons (shok_11 (ok_cause_Code kf)) (cf_cons (shok_12 (ok_ref1_Code kf)) cf_nil))))))
  have hlf : LfOk (R := R) C_law2_CauseAll 3 (lf_law2_CauseAll (law2_begun kf) (law2_kinds kf) (cause_Chain kf) (ref1_Chain kf) (cause_Code kf) (ref1_Code kf) (law2_CauseAll_l11 kf kf)) := (lf_top (lf_cons (lok_law2_CauseAll_l11 kf kf) lf_nil))
  intro v1 v2 v3 K r h
  exact run_good t_law2_CauseAll hcf hlf ((eq_law2_CauseAll (law2_begun kf) (law2_kinds kf) (cause_Chain kf) (ref1_Chain kf) (cause_Code kf) (ref1_Code kf) (law2_CauseAll_l11 kf kf) v1 v2 v3 K).trans h)

theorem t_law2_CauseWraps : textOk C_law2_CauseWraps.bef Tryd.prog 4 = true := by kernel_rfl

theorem sln_law2_CauseWraps_l10 {R : Type} : SlOk (R := R) C_law2_CauseWraps 4 134 0 10 (sl_law2_CauseWraps_l10 (fun _ _ _ _ _ _ _ _ _ _ _ _ _ _ _ => none)) := by
  intro vs es K r h
  unfold sl_law2_CauseWraps_l10 at h
  split at h <;> exact no_some h

theorem lok_law2_CauseWraps_l10 {R : Type} (kf : Nat) : ∀ n, SlOk (R := R) C_law2_CauseWraps 4 134 0 10 (sl_law2_CauseWraps_l10 (law2_CauseWraps_l10 kf n)) := by
  intro n
  induction n with
  | zero =>
    intro vs es K r h
    unfold sl_law2_CauseWraps_l10 at h
    split at h <;> exact no_some h
  | succ k ih =>
    have hcf : CfOk (R := R) Tryd.prog glob raw (cf_law2_CauseWraps (law2_begun kf) (law2_kinds kf) (cause_Chain kf) (law2_CauseWraps_l10 kf k)) := (cf_cons (shok_7 (ok_law2_begun kf)) (cf_cons (shok_8 (ok_law2_kinds kf)) (cf_cons (shok_9 (ok_cause_Chain kf)) cf_nil)))
    have hlf : LfOk (R := R) C_law2_CauseWraps 4 (lf_law2_CauseWraps (law2_begun kf) (law2_kinds kf) (cause_Chain kf) (law2_CauseWraps_l10 kf k)) := (lf_top (lf_cons ih lf_nil))
    intro vs es K r h
    unfold sl_law2_CauseWraps_l10 at h
    split at h
    · exact loop_good (text_mixed t_law2_CauseWraps) hcf hlf (text_loop t_law2_CauseWraps 10).1 (text_loop t_law2_CauseWraps 10).2 ((eq_law2_CauseWraps_l10 (law2_begun kf) (law2_kinds kf) (cause_Chain kf) (law2_CauseWraps_l10 kf k) _ _ _ _ _ _ _ _ _ _ _ _ _ K).trans h)
    · exact no_some h

theorem ok_law2_CauseWraps {R : Type} (kf : Nat) : Ok_law2_CauseWraps (R := R) (law2_CauseWraps kf) := by
  have hcf : CfOk (R := R) Tryd.prog glob raw (cf_law2_CauseWraps (law2_begun kf) (law2_kinds kf) (cause_Chain kf) (law2_CauseWraps_l10 kf kf)) := (cf_cons (shok_7 (ok_law2_begun kf)) (cf_cons (shok_8 (ok_law2_kinds kf)) (cf_cons (shok_9 (ok_cause_Chain kf)) cf_nil)))
  have hlf : LfOk (R := R) C_law2_CauseWraps 4 (lf_law2_CauseWraps (law2_begun kf) (law2_kinds kf) (cause_Chain kf) (law2_CauseWraps_l10 kf kf)) := (lf_top (lf_cons (lok_law2_CauseWraps_l10 kf kf) lf_nil))
  intro v1 v2 v3 K r h
  exact run_good t_law2_CauseWraps hcf hlf ((eq_law2_CauseWraps (law2_begun kf) (law2_kinds kf) (cause_Chain kf) (law2_CauseWraps_l10 kf kf) v1 v2 v3 K).trans h)

theorem t_law2_CauseCodes : textOk C_law2_CauseCodes.bef Tryd.prog 5 = true := by kernel_rfl

theorem sln_law2_CauseCodes_l12 {R : Type} : SlOk (R := R) C_law2_CauseCodes 5 115 0 12 (sl_law2_CauseCodes_l12 (fun _ _ _ _ _ _ _ _ _ => none)) := by
  intro vs es K r h
  unfold sl_law2_CauseCodes_l12 at h
  split at h <;> exact no_some h

theorem sln_law2_CauseCodes_l15 {R : Type} : SlOk (R := R) C_law2_CauseCodes 5 115 0 15 (sl_law2_CauseCodes_l15 (fun _ _ _ _ _ _ _ _ _ _ => none)) := by
  intro vs es K r h
  unfold sl_law2_CauseCodes_l15 at h
  split at h <;> exact no_some h

theorem lok_law2_CauseCodes_l15 {R : Type} (kf : Nat) : ∀ n, SlOk (R := R) C_law2_CauseCodes 5 115 0 15 (sl_law2_CauseCodes_l15 (law2_CauseCodes_l15 kf n)) := by
  intro n
  induction n with
  | zero =>
    intro vs es K r h
    unfold sl_law2_CauseCodes_l15 at h
    split at h <;> exact no_some h
  | succ k ih =>
    have hcf : CfOk (R := R) Tryd.prog glob raw (cf_law2_CauseCodes (law2_begun kf) (law2_kinds kf) (cause_Code kf) (fun _ _ _ _ _ _ _ _ _ => none) (law2_CauseCodes_l15 kf k)) := (cf_cons (shok_7 (ok_law2_begun kf)) (cf_cons (shok_8 (ok_law2_kinds kf)) (cf_cons (shok_11 (ok_cause_Code kf)) cf_nil)))
    have hlf : LfOk (R := R) C_law2_CauseCodes 5 (lf_law2_CauseCodes (law2_begun kf) (law2_kinds kf) (cause_Code kf) (fun _ _ _ _ _ _ _ _ _ => none) (law2_CauseCodes_l15 kf k)) := (lf_top (lf_cons (sln_law2_CauseCodes_l12) (lf_cons ih lf_nil)))
    intro vs es K r h
    unfold sl_law2_CauseCodes_l15 at h
    split at h
    · exact loop_good (text_mixed t_law2_CauseCodes) hcf hlf (text_loop t_law2_CauseCodes 15).1 (text_loop t_law2_CauseCodes 15).2 ((eq_law2_CauseCodes_l15 (law2_begun kf) (law2_kinds kf) (cause_Code kf) (fun _ _ _ _ _ _ _ _ _ => none) (law2_CauseCodes_l15 kf k) _ _ _ _ _ _ _ _ _ K).trans h)
    · exact no_some h

theorem lok_law2_CauseCodes_l12 {R : Type} (kf : Nat) : ∀ n, SlOk (R := R) C_law2_CauseCodes 5 115 0 12 (sl_law2_CauseCodes_l12 (law2_CauseCodes_l12 kf n)) := by
  intro n
  induction n with
  | zero =>
    intro vs es K r h
    unfold sl_law2_CauseCodes_l12 at h
    split at h <;> exact no_some h
  | succ k ih =>
    have hcf : CfOk (R := R) Tryd.prog glob raw (cf_law2_CauseCodes (law2_begun kf) (law2_kinds kf) (cause_Code kf) (law2_CauseCodes_l12 kf k) (law2_CauseCodes_l15 kf k)) := (cf_cons (shok_7 (ok_law2_begun kf)) (cf_cons (shok_8 (ok_law2_kinds kf)) (cf_cons (shok_11 (ok_cause_Code kf)) cf_nil)))
    have hlf : LfOk (R := R) C_law2_CauseCodes 5 (lf_law2_CauseCodes (law2_begun kf) (law2_kinds kf) (cause_Code kf) (law2_CauseCodes_l12 kf k) (law2_CauseCodes_l15 kf k)) := (lf_top (lf_cons ih (lf_cons (lok_law2_CauseCodes_l15 kf k) lf_nil)))
    intro vs es K r h
    unfold sl_law2_CauseCodes_l12 at h
    split at h
    · exact loop_good (text_mixed t_law2_CauseCodes) hcf hlf (text_loop t_law2_CauseCodes 12).1 (text_loop t_law2_CauseCodes 12).2 ((eq_law2_CauseCodes_l12 (law2_begun kf) (law2_kinds kf) (cause_Code kf) (law2_CauseCodes_l12 kf k) (law2_CauseCodes_l15 kf k) _ _ _ _ _ _ _ _ K).trans h)
    · exact no_some h

theorem ok_law2_CauseCodes {R : Type} (kf : Nat) : Ok_law2_CauseCodes (R := R) (law2_CauseCodes kf) := by
  have hcf : CfOk (R := R) Tryd.prog glob raw (cf_law2_CauseCodes (law2_begun kf) (law2_kinds kf) (cause_Code kf) (law2_CauseCodes_l12 kf kf) (law2_CauseCodes_l15 kf kf)) := (cf_cons (shok_7 (ok_law2_begun kf)) (cf_cons (shok_8 (ok_law2_kinds kf)) (cf_cons (shok_11 (ok_cause_Code kf)) cf_nil)))
  have hlf : LfOk (R := R) C_law2_CauseCodes 5 (lf_law2_CauseCodes (law2_begun kf) (law2_kinds kf) (cause_Code kf) (law2_CauseCodes_l12 kf kf) (law2_CauseCodes_l15 kf kf)) := (lf_top (lf_cons (lok_law2_CauseCodes_l12 kf kf) (lf_cons (lok_law2_CauseCodes_l15 kf kf) lf_nil)))
  intro v1 v2 v3 K r h
  exact run_good t_law2_CauseCodes hcf hlf ((eq_law2_CauseCodes (law2_begun kf) (law2_kinds kf) (cause_Code kf) (law2_CauseCodes_l12 kf kf) (law2_CauseCodes_l15 kf kf) v1 v2 v3 K).trans h)

theorem t_law2_CausePlaces : textOk C_law2_CausePlaces.bef Tryd.prog 6 = true := by kernel_rfl

theorem ok_law2_CausePlaces {R : Type} (kf : Nat) : Ok_law2_CausePlaces (R := R) (law2_CausePlaces kf) := by
  have hcf : CfOk (R := R) Tryd.prog glob raw (cf_law2_CausePlaces (law2_begun kf) (law2_kinds kf) (cause_Chain kf)) := (cf_cons (shok_7 (ok_law2_begun kf)) (cf_cons (shok_8 (ok_law2_kinds kf)) (cf_cons (shok_9 (ok_cause_Chain kf)) cf_nil)))
  have hlf : LfOk (R := R) C_law2_CausePlaces 6 (lf_law2_CausePlaces (law2_begun kf) (law2_kinds kf) (cause_Chain kf)) := lf_none
  intro v1 v2 K r h
  exact run_good t_law2_CausePlaces hcf hlf ((eq_law2_CausePlaces (law2_begun kf) (law2_kinds kf) (cause_Chain kf) v1 v2 K).trans h)

end
end Go.Ab.T
