/- OctTC: a part of the proofs of this seat's statements. -/
import Derived.Test.YtnccecmjilnocaaOctTB
import Derived.Test.YtnccecmjilnocaaKnot
import Derived.Test.YtnccecmjilnocaaOctTP



namespace Go.Ab.T

open Go Go.Ab Go.Proofs

set_option maxRecDepth 100000

set_option linter.unusedVariables false

noncomputable section

def Ok_law1_OctetWrites {R : Type} (c : (List Int) → (List Int) → Int → Int → (Bool → Option R) → Option R) : Prop := ∀ (v1 : (List Int)) (v2 : (List Int)) (v3 : Int) (v4 : Int) (K : S → List Ent → Option R) (r : R), c v1 v2 v3 v4 (fun (r0 : Bool) => K (.bool r0) []) = some r → ∃ v es, FnOk Try.prog glob 3 (npF raw 3 []) [.sl (.int .u8) v1, .sl (.int .u8) v2, .int .u64 v3, .int .i64 v4] [] v es ∧ K v es = some r

theorem okn_law1_OctetWrites {R : Type} : Ok_law1_OctetWrites (R := R) (fun _ _ _ _ _ => none) := fun _ _ _ _ _ _ h => no_some h

theorem shok_3 {R : Type} {c_law1_OctetWrites : (List Int) → (List Int) → Int → Int → (Bool → Option R) → Option R} (h_law1_OctetWrites : Ok_law1_OctetWrites c_law1_OctetWrites) : ShOk Try.prog glob raw 3 (sh3 c_law1_OctetWrites) := by
  intro av es K r h
  unfold sh3 at h
  split at h
  · exact h_law1_OctetWrites _ _ _ _ _ _ h
  · exact no_some h

def Ok_law1_begun {R : Type} (c : (Bool → Option R) → Option R) : Prop := ∀ (K : S → List Ent → Option R) (r : R), c (fun (r0 : Bool) => K (.bool r0) []) = some r → ∃ v es, FnOk Try.prog glob 8 (npF raw 8 []) [] [] v es ∧ K v es = some r

theorem okn_law1_begun {R : Type} : Ok_law1_begun (R := R) (fun _ => none) := fun _ _ h => no_some h

theorem shok_8 {R : Type} {c_law1_begun : (Bool → Option R) → Option R} (h_law1_begun : Ok_law1_begun c_law1_begun) : ShOk Try.prog glob raw 8 (sh8 c_law1_begun) := by
  intro av es K r h
  unfold sh8 at h
  split at h
  · exact h_law1_begun _ _ h
  · exact no_some h

def Ok_law0_Twin {R : Type} (c : (List Int) → (Int → (List Int) → Option R) → Option R) : Prop := ∀ (v1 : (List Int)) (K : S → List Ent → Option R) (r : R), c v1 (fun (r0 : Int) (r1 : (List Int)) => K (.twn (.int .u8) 0 r0) [.buf (.int .u8) r1 false]) = some r → ∃ v es, FnOk Try.prog glob 9 (npF raw 9 []) [.sl (.int .u8) v1] [] v es ∧ K v es = some r

theorem okn_law0_Twin {R : Type} : Ok_law0_Twin (R := R) (fun _ _ => none) := fun _ _ _ h => no_some h

theorem shok_9 {R : Type} {c_law0_Twin : (List Int) → (Int → (List Int) → Option R) → Option R} (h_law0_Twin : Ok_law0_Twin c_law0_Twin) : ShOk Try.prog glob raw 9 (sh9 c_law0_Twin) := by
  intro av es K r h
  unfold sh9 at h
  split at h
  · exact h_law0_Twin _ _ _ h
  · exact no_some h

def Ok_octet_Put {R : Type} (c : (List Int) → Int → Int → ((List Int) → Option R) → Option R) : Prop := ∀ (v1 : (List Int)) (v2 : Int) (v3 : Int) (K : S → List Ent → Option R) (r : R), c v1 v2 v3 (fun (r0 : (List Int)) => K (.own (.int .u8) 0) [.buf (.int .u8) r0 false]) = some r → ∃ v es, FnOk Try.prog glob 10 (npF raw 10 []) [.sl (.int .u8) v1, .int .u64 v2, .int .i64 v3] [] v es ∧ K v es = some r

theorem okn_octet_Put {R : Type} : Ok_octet_Put (R := R) (fun _ _ _ _ => none) := fun _ _ _ _ _ h => no_some h

theorem shok_10 {R : Type} {c_octet_Put : (List Int) → Int → Int → ((List Int) → Option R) → Option R} (h_octet_Put : Ok_octet_Put c_octet_Put) : ShOk Try.prog glob raw 10 (sh10 c_octet_Put) := by
  intro av es K r h
  unfold sh10 at h
  split at h
  · exact h_octet_Put _ _ _ _ _ h
  · exact no_some h

def Ok_octet_Text {R : Type} (c : (List Int) → (List Int) → ((List Int) → Option R) → Option R) : Prop := ∀ (v1 : (List Int)) (v2 : (List Int)) (K : S → List Ent → Option R) (r : R), c v1 v2 (fun (r0 : (List Int)) => K (.own (.int .u8) 0) [.buf (.int .u8) r0 false]) = some r → ∃ v es, FnOk Try.prog glob 11 (npF raw 11 []) [.sl (.int .u8) v1, .sl (.int .u8) v2] [] v es ∧ K v es = some r

theorem okn_octet_Text {R : Type} : Ok_octet_Text (R := R) (fun _ _ _ => none) := fun _ _ _ _ h => no_some h

theorem shok_11 {R : Type} {c_octet_Text : (List Int) → (List Int) → ((List Int) → Option R) → Option R} (h_octet_Text : Ok_octet_Text c_octet_Text) : ShOk Try.prog glob raw 11 (sh11 c_octet_Text) := by
  intro av es K r h
  unfold sh11 at h
  split at h
  · exact h_octet_Text _ _ _ _ h
  · exact no_some h

def Ok_ref1_Put {R : Type} (c : (List Int) → Int → Int → ((List Int) → Option R) → Option R) : Prop := ∀ (v1 : (List Int)) (v2 : Int) (v3 : Int) (K : S → List Ent → Option R) (r : R), c v1 v2 v3 (fun (r0 : (List Int)) => K (.own (.int .u8) 0) [.buf (.int .u8) r0 false]) = some r → ∃ v es, FnOk Try.prog glob 12 (npF raw 12 []) [.sl (.int .u8) v1, .int .u64 v2, .int .i64 v3] [] v es ∧ K v es = some r

theorem okn_ref1_Put {R : Type} : Ok_ref1_Put (R := R) (fun _ _ _ _ => none) := fun _ _ _ _ _ h => no_some h

theorem shok_12 {R : Type} {c_ref1_Put : (List Int) → Int → Int → ((List Int) → Option R) → Option R} (h_ref1_Put : Ok_ref1_Put c_ref1_Put) : ShOk Try.prog glob raw 12 (sh12 c_ref1_Put) := by
  intro av es K r h
  unfold sh12 at h
  split at h
  · exact h_ref1_Put _ _ _ _ _ h
  · exact no_some h

def Ok_ref1_Text {R : Type} (c : (List Int) → (List Int) → ((List Int) → Option R) → Option R) : Prop := ∀ (v1 : (List Int)) (v2 : (List Int)) (K : S → List Ent → Option R) (r : R), c v1 v2 (fun (r0 : (List Int)) => K (.own (.int .u8) 0) [.buf (.int .u8) r0 false]) = some r → ∃ v es, FnOk Try.prog glob 13 (npF raw 13 []) [.sl (.int .u8) v1, .sl (.int .u8) v2] [] v es ∧ K v es = some r

theorem okn_ref1_Text {R : Type} : Ok_ref1_Text (R := R) (fun _ _ _ => none) := fun _ _ _ _ h => no_some h

theorem shok_13 {R : Type} {c_ref1_Text : (List Int) → (List Int) → ((List Int) → Option R) → Option R} (h_ref1_Text : Ok_ref1_Text c_ref1_Text) : ShOk Try.prog glob raw 13 (sh13 c_ref1_Text) := by
  intro av es K r h
  unfold sh13 at h
  split at h
  · exact h_ref1_Text _ _ _ _ h
  · exact no_some h

def Ok_law0_Kept {R : Type} (c : Int → (List Int) → (List Int) → (Bool → (List Int) → Option R) → Option R) : Prop := ∀ (v1 : Int) (v2 : (List Int)) (v3 : (List Int)) (K : S → List Ent → Option R) (r : R), c v1 v2 v3 (fun (r0 : Bool) (r1 : (List Int)) => K (.bool r0) [.buf (.int .u8) r1 false]) = some r → ∃ v es, FnOk Try.prog glob 14 (npF raw 14 [.buf (.int .u8) v3 false]) [.twn (.int .u8) 0 v1, .sl (.int .u8) v2] [.buf (.int .u8) v3 false] v es ∧ K v es = some r

theorem okn_law0_Kept {R : Type} : Ok_law0_Kept (R := R) (fun _ _ _ _ => none) := fun _ _ _ _ _ h => no_some h

theorem shok_14 {R : Type} {c_law0_Kept : Int → (List Int) → (List Int) → (Bool → (List Int) → Option R) → Option R} (h_law0_Kept : Ok_law0_Kept c_law0_Kept) : ShOk Try.prog glob raw 14 (sh14 c_law0_Kept) := by
  intro av es K r h
  unfold sh14 at h
  split at h
  · exact h_law0_Kept _ _ _ _ _ h
  · exact no_some h

def Ok_octet_Take {R : Type} (c : (List Int) → Int → Int → (Int → Int → Option R) → Option R) : Prop := ∀ (v1 : (List Int)) (v2 : Int) (v3 : Int) (K : S → List Ent → Option R) (r : R), c v1 v2 v3 (fun (r0 : Int) (r1 : Int) => K (.tup [.int .u64 r0, .int .i64 r1]) []) = some r → ∃ v es, FnOk Try.prog glob 16 (npF raw 16 []) [.sl (.int .u8) v1, .int .i64 v2, .int .i64 v3] [] v es ∧ K v es = some r

theorem okn_octet_Take {R : Type} : Ok_octet_Take (R := R) (fun _ _ _ _ => none) := fun _ _ _ _ _ h => no_some h

theorem shok_16 {R : Type} {c_octet_Take : (List Int) → Int → Int → (Int → Int → Option R) → Option R} (h_octet_Take : Ok_octet_Take c_octet_Take) : ShOk Try.prog glob raw 16 (sh16 c_octet_Take) := by
  intro av es K r h
  unfold sh16 at h
  split at h
  · exact h_octet_Take _ _ _ _ _ h
  · exact no_some h

def Ok_octet_TakeText {R : Type} (c : (List Int) → Int → (Int → Int → (List Int) → Option R) → Option R) : Prop := ∀ (v1 : (List Int)) (v2 : Int) (K : S → List Ent → Option R) (r : R), c v1 v2 (fun (r0 : Int) (r1 : Int) (r2 : (List Int)) => K (.tup [.own (.int .u8) 0, .int .i64 r0, .int .i64 r1]) [.buf (.int .u8) r2 false]) = some r → ∃ v es, FnOk Try.prog glob 17 (npF raw 17 []) [.sl (.int .u8) v1, .int .i64 v2] [] v es ∧ K v es = some r

theorem okn_octet_TakeText {R : Type} : Ok_octet_TakeText (R := R) (fun _ _ _ => none) := fun _ _ _ _ h => no_some h

theorem shok_17 {R : Type} {c_octet_TakeText : (List Int) → Int → (Int → Int → (List Int) → Option R) → Option R} (h_octet_TakeText : Ok_octet_TakeText c_octet_TakeText) : ShOk Try.prog glob raw 17 (sh17 c_octet_TakeText) := by
  intro av es K r h
  unfold sh17 at h
  split at h
  · exact h_octet_TakeText _ _ _ _ h
  · exact no_some h

theorem t_octet_Take : textOk C_octet_Take.bef Try.prog 16 = true := by kernel_rfl

theorem ok_octet_Take {R : Type} : Ok_octet_Take (R := R) (octet_Take) := by
  have hcf : CfOk (R := R) Try.prog glob raw (cf_octet_Take) := cf_nil
  have hlf : LfOk (R := R) C_octet_Take 16 (lf_octet_Take) := lf_none
  intro v1 v2 v3 K r h
  exact run_good t_octet_Take hcf hlf ((eq_octet_Take v1 v2 v3 K).trans h)

theorem t_octet_TakeText : textOk C_octet_TakeText.bef Try.prog 17 = true := by kernel_rfl

theorem ok_octet_TakeText {R : Type} : Ok_octet_TakeText (R := R) (octet_TakeText) := by
  have hcf : CfOk (R := R) Try.prog glob raw (cf_octet_TakeText octet_Take) := (cf_cons (shok_16 ok_octet_Take) cf_nil)
  have hlf : LfOk (R := R) C_octet_TakeText 17 (lf_octet_TakeText octet_Take) := lf_none
  intro v1 v2 K r h
  exact run_good t_octet_TakeText hcf hlf ((eq_octet_TakeText octet_Take v1 v2 K).trans h)

theorem t_octet_Put : textOk C_octet_Put.bef Try.prog 10 = true := by kernel_rfl

theorem sln_octet_Put_l4 {R : Type} : SlOk (R := R) C_octet_Put 10 30 0 4 (sl_octet_Put_l4 (fun _ _ _ _ _ => none)) := by
  intro vs es K r h
  unfold sl_octet_Put_l4 at h
  split at h <;> exact no_some h

theorem lok_octet_Put_l4 {R : Type} (kf : Nat) : ∀ n, SlOk (R := R) C_octet_Put 10 30 0 4 (sl_octet_Put_l4 (octet_Put_l4 kf n)) := by
  intro n
  induction n with
  | zero =>
    intro vs es K r h
    unfold sl_octet_Put_l4 at h
    split at h <;> exact no_some h
  | succ k ih =>
    have hcf : CfOk (R := R) Try.prog glob raw (cf_octet_Put (octet_Put_l4 kf k)) := cf_nil
    have hlf : LfOk (R := R) C_octet_Put 10 (lf_octet_Put (octet_Put_l4 kf k)) := (lf_top (lf_cons ih lf_nil))
    intro vs es K r h
    unfold sl_octet_Put_l4 at h
    split at h
    · exact loop_good (text_mixed t_octet_Put) hcf hlf (text_loop t_octet_Put 4).1 (text_loop t_octet_Put 4).2 ((eq_octet_Put_l4 (octet_Put_l4 kf k) _ _ _ _ K).trans h)
    · exact no_some h

theorem ok_octet_Put {R : Type} (kf : Nat) : Ok_octet_Put (R := R) (octet_Put kf) := by
  have hcf : CfOk (R := R) Try.prog glob raw (cf_octet_Put (octet_Put_l4 kf kf)) := cf_nil
  have hlf : LfOk (R := R) C_octet_Put 10 (lf_octet_Put (octet_Put_l4 kf kf)) := (lf_top (lf_cons (lok_octet_Put_l4 kf kf) lf_nil))
  intro v1 v2 v3 K r h
  exact run_good t_octet_Put hcf hlf ((eq_octet_Put (octet_Put_l4 kf kf) v1 v2 v3 K).trans h)

theorem t_law1_begun : textOk C_law1_begun.bef Try.prog 8 = true := by kernel_rfl

theorem ok_law1_begun {R : Type} (kf : Nat) : Ok_law1_begun (R := R) (law1_begun kf) := by
  have hcf : CfOk (R := R) Try.prog glob raw (cf_law1_begun octet_Take octet_TakeText (octet_Put kf)) := (cf_cons (shok_16 ok_octet_Take) (cf_cons (shok_17 ok_octet_TakeText) (cf_cons (shok_10 (ok_octet_Put kf)) cf_nil)))
  have hlf : LfOk (R := R) C_law1_begun 8 (lf_law1_begun octet_Take octet_TakeText (octet_Put kf)) := lf_none
  intro K r h
  exact run_good t_law1_begun hcf hlf ((eq_law1_begun octet_Take octet_TakeText (octet_Put kf) K).trans h)

theorem t_law0_Twin : textOk C_law0_Twin.bef Try.prog 9 = true := by kernel_rfl

theorem sln_law0_Twin_l4 {R : Type} : SlOk (R := R) C_law0_Twin 9 27 0 4 (sl_law0_Twin_l4 (fun _ _ _ _ _ => none)) := by
  intro vs es K r h
  unfold sl_law0_Twin_l4 at h
  split at h <;> exact no_some h

theorem lok_law0_Twin_l4 {R : Type} (kf : Nat) : ∀ n, SlOk (R := R) C_law0_Twin 9 27 0 4 (sl_law0_Twin_l4 (law0_Twin_l4 kf n)) := by
  intro n
  induction n with
  | zero =>
    intro vs es K r h
    unfold sl_law0_Twin_l4 at h
    split at h <;> exact no_some h
  | succ k ih =>
    have hcf : CfOk (R := R) Try.prog glob raw (cf_law0_Twin (law0_Twin_l4 kf k)) := cf_nil
    have hlf : LfOk (R := R) C_law0_Twin 9 (lf_law0_Twin (law0_Twin_l4 kf k)) := (lf_top (lf_cons ih lf_nil))
    intro vs es K r h
    unfold sl_law0_Twin_l4 at h
    split at h
    · exact loop_good (text_mixed t_law0_Twin) hcf hlf (text_loop t_law0_Twin 4).1 (text_loop t_law0_Twin 4).2 ((eq_law0_Twin_l4 (law0_Twin_l4 kf k) _ _ _ _ K).trans h)
    · exact no_some h

theorem ok_law0_Twin {R : Type} (kf : Nat) : Ok_law0_Twin (R := R) (law0_Twin kf) := by
  have hcf : CfOk (R := R) Try.prog glob raw (cf_law0_Twin (law0_Twin_l4 kf kf)) := cf_nil
  have hlf : LfOk (R := R) C_law0_Twin 9 (lf_law0_Twin (law0_Twin_l4 kf kf)) := (lf_top (lf_cons (lok_law0_Twin_l4 kf kf) lf_nil))
  intro v1 K r h
  exact run_good t_law0_Twin hcf hlf ((eq_law0_Twin (law0_Twin_l4 kf kf) v1 K).trans h)

theorem t_octet_Text : textOk C_octet_Text.bef Try.prog 11 = true := by kernel_rfl

theorem ok_octet_Text {R : Type} (kf : Nat) : Ok_octet_Text (R := R) (octet_Text kf) := by
  have hcf : CfOk (R := R) Try.prog glob raw (cf_octet_Text (octet_Put kf)) := (cf_cons (shok_10 (ok_octet_Put kf)) cf_nil)
  have hlf : LfOk (R := R) C_octet_Text 11 (lf_octet_Text (octet_Put kf)) := lf_none
  intro v1 v2 K r h
  exact run_good t_octet_Text hcf hlf ((eq_octet_Text (octet_Put kf) v1 v2 K).trans h)

theorem t_ref1_Put : textOk C_ref1_Put.bef Try.prog 12 = true := by kernel_rfl

theorem sln_ref1_Put_l3 {R : Type} : SlOk (R := R) C_ref1_Put 12 28 0 3 (sl_ref1_Put_l3 (fun _ _ _ _ _ => none)) := by
  intro vs es K r h
  unfold sl_ref1_Put_l3 at h
  split at h <;> exact no_some h

theorem lok_ref1_Put_l3 {R : Type} (kf : Nat) : ∀ n, SlOk (R := R) C_ref1_Put 12 28 0 3 (sl_ref1_Put_l3 (ref1_Put_l3 kf n)) := by
  intro n
  induction n with
  | zero =>
    intro vs es K r h
    unfold sl_ref1_Put_l3 at h
    split at h <;> exact no_some h
  | succ k ih =>
    have hcf : CfOk (R := R) Try.prog glob raw (cf_ref1_Put (ref1_Put_l3 kf k)) := cf_nil
    have hlf : LfOk (R := R) C_ref1_Put 12 (lf_ref1_Put (ref1_Put_l3 kf k)) := (lf_top (lf_cons ih lf_nil))
    intro vs es K r h
    unfold sl_ref1_Put_l3 at h
    split at h
    · exact loop_good (text_mixed t_ref1_Put) hcf hlf (text_loop t_ref1_Put 3).1 (text_loop t_ref1_Put 3).2 ((eq_ref1_Put_l3 (ref1_Put_l3 kf k) _ _ _ _ K).trans h)
    · exact no_some h

theorem ok_ref1_Put {R : Type} (kf : Nat) : Ok_ref1_Put (R := R) (ref1_Put kf) := by
  have hcf : CfOk (R := R) Try.prog glob raw (cf_ref1_Put (ref1_Put_l3 kf kf)) := cf_nil
  have hlf : LfOk (R := R) C_ref1_Put 12 (lf_ref1_Put (ref1_Put_l3 kf kf)) := (lf_top (lf_cons (lok_ref1_Put_l3 kf kf) lf_nil))
  intro v1 v2 v3 K r h
  exact run_good t_ref1_Put hcf hlf ((eq_ref1_Put (ref1_Put_l3 kf kf) v1 v2 v3 K).trans h)

theorem t_ref1_Text : textOk C_ref1_Text.bef Try.prog 13 = true := by kernel_rfl

theorem ok_ref1_Text {R : Type} (kf : Nat) : Ok_ref1_Text (R := R) (ref1_Text kf) := by
  have hcf : CfOk (R := R) Try.prog glob raw (cf_ref1_Text (ref1_Put kf)) := (cf_cons (shok_12 (ok_ref1_Put kf)) cf_nil)
  have hlf : LfOk (R := R) C_ref1_Text 13 (lf_ref1_Text (ref1_Put kf)) := lf_none
  intro v1 v2 K r h
  exact run_good t_ref1_Text hcf hlf ((eq_ref1_Text (ref1_Put kf) v1 v2 K).trans h)

theorem t_law0_Kept : textOk C_law0_Kept.bef Try.prog 14 = true := by kernel_rfl

theorem sln_law0_Kept_l5 {R : Type} : SlOk (R := R) C_law0_Kept 14 38 1 5 (sl_law0_Kept_l5 (fun _ _ _ _ _ _ => none)) := by
  intro vs es K r h
  unfold sl_law0_Kept_l5 at h
  split at h <;> exact no_some h

theorem lok_law0_Kept_l5 {R : Type} (kf : Nat) : ∀ n, SlOk (R := R) C_law0_Kept 14 38 1 5 (sl_law0_Kept_l5 (law0_Kept_l5 kf n)) := by
  intro n
  induction n with
  | zero =>
    intro vs es K r h
    unfold sl_law0_Kept_l5 at h
    split at h <;> exact no_some h
  | succ k ih =>
    have hcf : CfOk (R := R) Try.prog glob raw (cf_law0_Kept (law0_Kept_l5 kf k)) := cf_nil
    have hlf : LfOk (R := R) C_law0_Kept 14 (lf_law0_Kept (law0_Kept_l5 kf k)) := (lf_top (lf_cons ih lf_nil))
    intro vs es K r h
    unfold sl_law0_Kept_l5 at h
    split at h
    · exact loop_good (text_mixed t_law0_Kept) hcf hlf (text_loop t_law0_Kept 5).1 (text_loop t_law0_Kept 5).2 ((eq_law0_Kept_l5 (law0_Kept_l5 kf k) _ _ _ _ K).trans h)
    · exact no_some h

theorem ok_law0_Kept {R : Type} (kf : Nat) : Ok_law0_Kept (R := R) (law0_Kept kf) := by
  have hcf : CfOk (R := R) Try.prog glob raw (cf_law0_Kept (law0_Kept_l5 kf kf)) := cf_nil
  have hlf : LfOk (R := R) C_law0_Kept 14 (lf_law0_Kept (law0_Kept_l5 kf kf)) := (lf_top (lf_cons (lok_law0_Kept_l5 kf kf) lf_nil))
  intro v1 v2 v3 K r h
  exact run_good t_law0_Kept hcf hlf ((eq_law0_Kept (law0_Kept_l5 kf kf) v1 v2 v3 K).trans h)

theorem t_law1_OctetWrites : textOk C_law1_OctetWrites.bef Try.prog 3 = true := by kernel_rfl

theorem ok_law1_OctetWrites {R : Type} (kf : Nat) : Ok_law1_OctetWrites (R := R) (law1_OctetWrites kf) := by
  have hcf : CfOk (R := R) Try.prog glob raw (cf_law1_OctetWrites (law1_begun kf) (law0_Twin kf) (octet_Put kf) (octet_Text kf) (ref1_Put kf) (ref1_Text kf) (law0_Kept kf)) := (cf_cons (shok_8 (ok_law1_begun kf)) (cf_cons (shok_9 (ok_law0_Twin kf)) (cf_cons (shok_10 (ok_octet_Put kf)) (cf_cons (shok_11 (ok_octet_Text kf)) (cf_cons (shok_12 (ok_ref1_Put kf)) (cf_cons (shok_13 (ok_ref1_Text kf)) (cf_cons (shok_14 (ok_law0_Kept kf)) (cf_cons (pok_15) cf_nil))))))))
  have hlf : LfOk (R := R) C_law1_OctetWrites 3 (lf_law1_OctetWrites (law1_begun kf) (law0_Twin kf) (octet_Put kf) (octet_Text kf) (ref1_Put kf) (ref1_Text kf) (law0_Kept kf)) := lf_none
  intro v1 v2 v3 v4 K r h
  exact run_good t_law1_OctetWrites hcf hlf ((eq_law1_OctetWrites (law1_begun kf) (law0_Twin kf) (octet_Put kf) (octet_Text kf) (ref1_Put kf) (ref1_Text kf) (law0_Kept kf) v1 v2 v3 v4 K).trans h)

end
end Go.Ab.T
