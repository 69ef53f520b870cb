/- OctetTC: a part of the proofs of this seat's statements; printed by a program of the prover's. -/
import Derived.Test.YtnccecmjilnocaaOctetTB

import Derived.Test.YtnccecmjilnocaaTie

namespace Go.Ab.T

open Go Go.Ab Go.Proofs

set_option maxRecDepth 100000

set_option linter.unusedVariables false

noncomputable section

def Ok_law1_OctetBack {R : Type} (c : (List Int) → (List Int) → (List Int) → Int → Int → Int → (Bool → Option R) → Option R) : Prop := ∀ (v1 : (List Int)) (v2 : (List Int)) (v3 : (List Int)) (v4 : Int) (v5 : Int) (v6 : Int) (K : S → List Ent → Option R) (r : R), c v1 v2 v3 v4 v5 v6 (fun (r0 : Bool) => K (.bool r0) []) = some r → ∃ v es, FnOk Try.prog glob 4 (npF raw 4 []) [.sl (.int .u8) v1, .sl (.int .u8) v2, .sl (.int .u8) v3, .int .u64 v4, .int .u8 v5, .int .i64 v6] [] v es ∧ K v es = some r

theorem okn_law1_OctetBack {R : Type} : Ok_law1_OctetBack (R := R) (fun _ _ _ _ _ _ _ => none) := fun _ _ _ _ _ _ _ _ h => no_some h

theorem shok_4 {R : Type} {c_law1_OctetBack : (List Int) → (List Int) → (List Int) → Int → Int → Int → (Bool → Option R) → Option R} (h_law1_OctetBack : Ok_law1_OctetBack c_law1_OctetBack) : ShOk Try.prog glob raw 4 (sh4 c_law1_OctetBack) := by
  intro av es K r h
  unfold sh4 at h
  split at h
  · exact h_law1_OctetBack _ _ _ _ _ _ _ _ h
  · exact no_some h

def Ok_law1_OctetApart {R : Type} (c : Int → Int → (List Int) → (List Int) → (Bool → Option R) → Option R) : Prop := ∀ (v1 : Int) (v2 : Int) (v3 : (List Int)) (v4 : (List Int)) (K : S → List Ent → Option R) (r : R), c v1 v2 v3 v4 (fun (r0 : Bool) => K (.bool r0) []) = some r → ∃ v es, FnOk Try.prog glob 5 (npF raw 5 []) [.int .u64 v1, .int .u64 v2, .sl (.int .u8) v3, .sl (.int .u8) v4] [] v es ∧ K v es = some r

theorem okn_law1_OctetApart {R : Type} : Ok_law1_OctetApart (R := R) (fun _ _ _ _ _ => none) := fun _ _ _ _ _ _ h => no_some h

theorem shok_5 {R : Type} {c_law1_OctetApart : Int → Int → (List Int) → (List Int) → (Bool → Option R) → Option R} (h_law1_OctetApart : Ok_law1_OctetApart c_law1_OctetApart) : ShOk Try.prog glob raw 5 (sh5 c_law1_OctetApart) := by
  intro av es K r h
  unfold sh5 at h
  split at h
  · exact h_law1_OctetApart _ _ _ _ _ _ h
  · exact no_some h

def Ok_law1_OctetRows {R : Type} (c : (List Int) → (List (List Int)) → (Bool → Option R) → Option R) : Prop := ∀ (v1 : (List Int)) (v2 : (List (List Int))) (K : S → List Ent → Option R) (r : R), c v1 v2 (fun (r0 : Bool) => K (.bool r0) []) = some r → ∃ v es, FnOk Try.prog glob 6 (npF raw 6 []) [.sl (.int .u64) v1, .sl (.slice (.int .u8)) v2] [] v es ∧ K v es = some r

theorem okn_law1_OctetRows {R : Type} : Ok_law1_OctetRows (R := R) (fun _ _ _ => none) := fun _ _ _ _ h => no_some h

theorem shok_6 {R : Type} {c_law1_OctetRows : (List Int) → (List (List Int)) → (Bool → Option R) → Option R} (h_law1_OctetRows : Ok_law1_OctetRows c_law1_OctetRows) : ShOk Try.prog glob raw 6 (sh6 c_law1_OctetRows) := by
  intro av es K r h
  unfold sh6 at h
  split at h
  · exact h_law1_OctetRows _ _ _ _ h
  · exact no_some h

def Ok_law1_OctetMost {R : Type} (c : (List Int) → Int → (Bool → Option R) → Option R) : Prop := ∀ (v1 : (List Int)) (v2 : Int) (K : S → List Ent → Option R) (r : R), c v1 v2 (fun (r0 : Bool) => K (.bool r0) []) = some r → ∃ v es, FnOk Try.prog glob 7 (npF raw 7 []) [.sl (.int .u8) v1, .int .u16 v2] [] v es ∧ K v es = some r

theorem okn_law1_OctetMost {R : Type} : Ok_law1_OctetMost (R := R) (fun _ _ _ => none) := fun _ _ _ _ h => no_some h

theorem shok_7 {R : Type} {c_law1_OctetMost : (List Int) → Int → (Bool → Option R) → Option R} (h_law1_OctetMost : Ok_law1_OctetMost c_law1_OctetMost) : ShOk Try.prog glob raw 7 (sh7 c_law1_OctetMost) := by
  intro av es K r h
  unfold sh7 at h
  split at h
  · exact h_law1_OctetMost _ _ _ _ h
  · exact no_some h

def Ok_law1_begun {R : Type} (c : (Bool → Option R) → Option R) : Prop := ∀ (K : S → List Ent → Option R) (r : R), c (fun (r0 : Bool) => K (.bool r0) []) = some r → ∃ v es, FnOk Try.prog glob 8 (npF raw 8 []) [] [] v es ∧ K v es = some r

theorem okn_law1_begun {R : Type} : Ok_law1_begun (R := R) (fun _ => none) := fun _ _ h => no_some h

theorem shok_8 {R : Type} {c_law1_begun : (Bool → Option R) → Option R} (h_law1_begun : Ok_law1_begun c_law1_begun) : ShOk Try.prog glob raw 8 (sh8 c_law1_begun) := by
  intro av es K r h
  unfold sh8 at h
  split at h
  · exact h_law1_begun _ _ h
  · exact no_some h

def Ok_octet_Put {R : Type} (c : (List Int) → Int → Int → ((List Int) → Option R) → Option R) : Prop := ∀ (v1 : (List Int)) (v2 : Int) (v3 : Int) (K : S → List Ent → Option R) (r : R), c v1 v2 v3 (fun (r0 : (List Int)) => K (.own (.int .u8) 0) [.buf (.int .u8) r0 false]) = some r → ∃ v es, FnOk Try.prog glob 10 (npF raw 10 []) [.sl (.int .u8) v1, .int .u64 v2, .int .i64 v3] [] v es ∧ K v es = some r

theorem okn_octet_Put {R : Type} : Ok_octet_Put (R := R) (fun _ _ _ _ => none) := fun _ _ _ _ _ h => no_some h

theorem shok_10 {R : Type} {c_octet_Put : (List Int) → Int → Int → ((List Int) → Option R) → Option R} (h_octet_Put : Ok_octet_Put c_octet_Put) : ShOk Try.prog glob raw 10 (sh10 c_octet_Put) := by
  intro av es K r h
  unfold sh10 at h
  split at h
  · exact h_octet_Put _ _ _ _ _ h
  · exact no_some h

def Ok_octet_Text {R : Type} (c : (List Int) → (List Int) → ((List Int) → Option R) → Option R) : Prop := ∀ (v1 : (List Int)) (v2 : (List Int)) (K : S → List Ent → Option R) (r : R), c v1 v2 (fun (r0 : (List Int)) => K (.own (.int .u8) 0) [.buf (.int .u8) r0 false]) = some r → ∃ v es, FnOk Try.prog glob 11 (npF raw 11 []) [.sl (.int .u8) v1, .sl (.int .u8) v2] [] v es ∧ K v es = some r

theorem okn_octet_Text {R : Type} : Ok_octet_Text (R := R) (fun _ _ _ => none) := fun _ _ _ _ h => no_some h

theorem shok_11 {R : Type} {c_octet_Text : (List Int) → (List Int) → ((List Int) → Option R) → Option R} (h_octet_Text : Ok_octet_Text c_octet_Text) : ShOk Try.prog glob raw 11 (sh11 c_octet_Text) := by
  intro av es K r h
  unfold sh11 at h
  split at h
  · exact h_octet_Text _ _ _ _ h
  · exact no_some h

def Ok_octet_Take {R : Type} (c : (List Int) → Int → Int → (Int → Int → Option R) → Option R) : Prop := ∀ (v1 : (List Int)) (v2 : Int) (v3 : Int) (K : S → List Ent → Option R) (r : R), c v1 v2 v3 (fun (r0 : Int) (r1 : Int) => K (.tup [.int .u64 r0, .int .i64 r1]) []) = some r → ∃ v es, FnOk Try.prog glob 16 (npF raw 16 []) [.sl (.int .u8) v1, .int .i64 v2, .int .i64 v3] [] v es ∧ K v es = some r

theorem okn_octet_Take {R : Type} : Ok_octet_Take (R := R) (fun _ _ _ _ => none) := fun _ _ _ _ _ h => no_some h

theorem shok_16 {R : Type} {c_octet_Take : (List Int) → Int → Int → (Int → Int → Option R) → Option R} (h_octet_Take : Ok_octet_Take c_octet_Take) : ShOk Try.prog glob raw 16 (sh16 c_octet_Take) := by
  intro av es K r h
  unfold sh16 at h
  split at h
  · exact h_octet_Take _ _ _ _ _ h
  · exact no_some h

def Ok_octet_TakeText {R : Type} (c : (List Int) → Int → (Int → Int → (List Int) → Option R) → Option R) : Prop := ∀ (v1 : (List Int)) (v2 : Int) (K : S → List Ent → Option R) (r : R), c v1 v2 (fun (r0 : Int) (r1 : Int) (r2 : (List Int)) => K (.tup [.own (.int .u8) 0, .int .i64 r0, .int .i64 r1]) [.buf (.int .u8) r2 false]) = some r → ∃ v es, FnOk Try.prog glob 17 (npF raw 17 []) [.sl (.int .u8) v1, .int .i64 v2] [] v es ∧ K v es = some r

theorem okn_octet_TakeText {R : Type} : Ok_octet_TakeText (R := R) (fun _ _ _ => none) := fun _ _ _ _ h => no_some h

theorem shok_17 {R : Type} {c_octet_TakeText : (List Int) → Int → (Int → Int → (List Int) → Option R) → Option R} (h_octet_TakeText : Ok_octet_TakeText c_octet_TakeText) : ShOk Try.prog glob raw 17 (sh17 c_octet_TakeText) := by
  intro av es K r h
  unfold sh17 at h
  split at h
  · exact h_octet_TakeText _ _ _ _ h
  · exact no_some h

def Ok_law0_Place {R : Type} (c : Int → Int → (Int → Option R) → Option R) : Prop := ∀ (v1 : Int) (v2 : Int) (K : S → List Ent → Option R) (r : R), c v1 v2 (fun (r0 : Int) => K (.int .i64 r0) []) = some r → ∃ v es, FnOk Try.prog glob 18 (npF raw 18 []) [.int .i64 v1, .int .i64 v2] [] v es ∧ K v es = some r

theorem okn_law0_Place {R : Type} : Ok_law0_Place (R := R) (fun _ _ _ => none) := fun _ _ _ _ h => no_some h

theorem shok_18 {R : Type} {c_law0_Place : Int → Int → (Int → Option R) → Option R} (h_law0_Place : Ok_law0_Place c_law0_Place) : ShOk Try.prog glob raw 18 (sh18 c_law0_Place) := by
  intro av es K r h
  unfold sh18 at h
  split at h
  · exact h_law0_Place _ _ _ _ h
  · exact no_some h

theorem t_octet_Take : textOk C_octet_Take.bef Try.prog 16 = true := by kernel_rfl

theorem ok_octet_Take {R : Type} : Ok_octet_Take (R := R) octet_Take := by
  have hcf : CfOk (R := R) Try.prog glob raw (cf_octet_Take) := cf_nil
  have hlf : LfOk (R := R) C_octet_Take 16 (lf_octet_Take) := lf_none
  intro v1 v2 v3 K r h
  exact run_good t_octet_Take hcf hlf ((eq_octet_Take v1 v2 v3 K).trans h)

theorem t_octet_TakeText : textOk C_octet_TakeText.bef Try.prog 17 = true := by kernel_rfl

theorem ok_octet_TakeText {R : Type} : Ok_octet_TakeText (R := R) octet_TakeText := by
  have hcf : CfOk (R := R) Try.prog glob raw (cf_octet_TakeText octet_Take) := (cf_cons (shok_16 (ok_octet_Take)) cf_nil)
  have hlf : LfOk (R := R) C_octet_TakeText 17 (lf_octet_TakeText octet_Take) := lf_none
  intro v1 v2 K r h
  exact run_good t_octet_TakeText hcf hlf ((eq_octet_TakeText octet_Take v1 v2 K).trans h)

theorem t_octet_Put : textOk C_octet_Put.bef Try.prog 10 = true := by kernel_rfl

theorem sln_octet_Put_l4 {R : Type} : SlOk (R := R) C_octet_Put 10 30 0 4 (sl_octet_Put_l4 (fun _ _ _ _ _ => none)) := by
  intro vs es K r h
  unfold sl_octet_Put_l4 at h
  split at h <;> exact no_some h

theorem lok_octet_Put_l4 {R : Type} (kf : Nat) : ∀ n, SlOk (R := R) C_octet_Put 10 30 0 4 (sl_octet_Put_l4 (octet_Put_l4 kf n)) := by
  intro n
  induction n with
  | zero =>
    intro vs es K r h
    unfold sl_octet_Put_l4 at h
    split at h <;> exact no_some h
  | succ k ih =>
    have hcf : CfOk (R := R) Try.prog glob raw (cf_octet_Put (octet_Put_l4 kf k)) := cf_nil
    have hlf : LfOk (R := R) C_octet_Put 10 (lf_octet_Put (octet_Put_l4 kf k)) := (lf_top (lf_cons ih lf_nil))
    intro vs es K r h
    unfold sl_octet_Put_l4 at h
    split at h
    · exact loop_good (text_mixed t_octet_Put) hcf hlf (text_loop t_octet_Put 4).1 (text_loop t_octet_Put 4).2 ((eq_octet_Put_l4 (octet_Put_l4 kf k) _ _ _ _ K).trans h)
    · exact no_some h

theorem ok_octet_Put {R : Type} (kf : Nat) : Ok_octet_Put (R := R) (octet_Put kf) := by
  have hcf : CfOk (R := R) Try.prog glob raw (cf_octet_Put (octet_Put_l4 kf kf)) := cf_nil
  have hlf : LfOk (R := R) C_octet_Put 10 (lf_octet_Put (octet_Put_l4 kf kf)) := (lf_top (lf_cons (lok_octet_Put_l4 kf kf) lf_nil))
  intro v1 v2 v3 K r h
  exact run_good t_octet_Put hcf hlf ((eq_octet_Put (octet_Put_l4 kf kf) v1 v2 v3 K).trans h)

theorem t_law1_begun : textOk C_law1_begun.bef Try.prog 8 = true := by kernel_rfl

theorem ok_law1_begun {R : Type} (kf : Nat) : Ok_law1_begun (R := R) (law1_begun kf) := by
  have hcf : CfOk (R := R) Try.prog glob raw (cf_law1_begun octet_Take octet_TakeText (octet_Put kf)) := (cf_cons (shok_16 (ok_octet_Take)) (cf_cons (shok_17 (ok_octet_TakeText)) (cf_cons (shok_10 (ok_octet_Put kf)) cf_nil)))
  have hlf : LfOk (R := R) C_law1_begun 8 (lf_law1_begun octet_Take octet_TakeText (octet_Put kf)) := lf_none
  intro K r h
  exact run_good t_law1_begun hcf hlf ((eq_law1_begun octet_Take octet_TakeText (octet_Put kf) K).trans h)

theorem t_octet_Text : textOk C_octet_Text.bef Try.prog 11 = true := by kernel_rfl

theorem ok_octet_Text {R : Type} (kf : Nat) : Ok_octet_Text (R := R) (octet_Text kf) := by
  have hcf : CfOk (R := R) Try.prog glob raw (cf_octet_Text (octet_Put kf)) := (cf_cons (shok_10 (ok_octet_Put kf)) cf_nil)
  have hlf : LfOk (R := R) C_octet_Text 11 (lf_octet_Text (octet_Put kf)) := lf_none
  intro v1 v2 K r h
  exact run_good t_octet_Text hcf hlf ((eq_octet_Text (octet_Put kf) v1 v2 K).trans h)

theorem t_law0_Place : textOk C_law0_Place.bef Try.prog 18 = true := by kernel_rfl

theorem ok_law0_Place {R : Type} : Ok_law0_Place (R := R) law0_Place := by
  have hcf : CfOk (R := R) Try.prog glob raw (cf_law0_Place) := cf_nil
  have hlf : LfOk (R := R) C_law0_Place 18 (lf_law0_Place) := lf_none
  intro v1 v2 K r h
  exact run_good t_law0_Place hcf hlf ((eq_law0_Place v1 v2 K).trans h)

theorem t_law1_OctetBack : textOk C_law1_OctetBack.bef Try.prog 4 = true := by kernel_rfl

theorem ok_law1_OctetBack {R : Type} (kf : Nat) : Ok_law1_OctetBack (R := R) (law1_OctetBack kf) := by
  have hcf : CfOk (R := R) Try.prog glob raw (cf_law1_OctetBack (law1_begun kf) (octet_Put kf) octet_Take (octet_Text kf) octet_TakeText law0_Place) := (cf_cons (shok_8 (ok_law1_begun kf)) (cf_cons (shok_10 (ok_octet_Put kf)) (cf_cons (shok_16 (ok_octet_Take)) (cf_cons (shok_11 (ok_octet_Text kf)) (cf_cons (shok_17 (ok_octet_TakeText)) (cf_cons (shok_18 (ok_law0_Place)) cf_nil))))))
  have hlf : LfOk (R := R) C_law1_OctetBack 4 (lf_law1_OctetBack (law1_begun kf) (octet_Put kf) octet_Take (octet_Text kf) octet_TakeText law0_Place) := lf_none
  intro v1 v2 v3 v4 v5 v6 K r h
  exact run_good t_law1_OctetBack hcf hlf ((eq_law1_OctetBack (law1_begun kf) (octet_Put kf) octet_Take (octet_Text kf) octet_TakeText law0_Place v1 v2 v3 v4 v5 v6 K).trans h)

theorem t_law1_OctetApart : textOk C_law1_OctetApart.bef Try.prog 5 = true := by kernel_rfl

theorem ok_law1_OctetApart {R : Type} (kf : Nat) : Ok_law1_OctetApart (R := R) (law1_OctetApart kf) := by
  have hcf : CfOk (R := R) Try.prog glob raw (cf_law1_OctetApart (law1_begun kf) (octet_Text kf) (octet_Put kf)) := (cf_cons (shok_8 (ok_law1_begun kf)) (cf_cons (shok_11 (ok_octet_Text kf)) (cf_cons (shok_10 (ok_octet_Put kf)) cf_nil)))
  have hlf : LfOk (R := R) C_law1_OctetApart 5 (lf_law1_OctetApart (law1_begun kf) (octet_Text kf) (octet_Put kf)) := lf_none
  intro v1 v2 v3 v4 K r h
  exact run_good t_law1_OctetApart hcf hlf ((eq_law1_OctetApart (law1_begun kf) (octet_Text kf) (octet_Put kf) v1 v2 v3 v4 K).trans h)

theorem t_law1_OctetRows : textOk C_law1_OctetRows.bef Try.prog 6 = true := by kernel_rfl

theorem sln_law1_OctetRows_l7 {R : Type} : SlOk (R := R) C_law1_OctetRows 6 134 0 7 (sl_law1_OctetRows_l7 (fun _ _ _ _ _ => none)) := by
  intro vs es K r h
  unfold sl_law1_OctetRows_l7 at h
  split at h <;> exact no_some h

theorem sln_law1_OctetRows_l12 {R : Type} : SlOk (R := R) C_law1_OctetRows 6 134 0 12 (sl_law1_OctetRows_l12 (fun _ _ _ _ _ _ _ => none)) := by
  intro vs es K r h
  unfold sl_law1_OctetRows_l12 at h
  split at h <;> exact no_some h

theorem sln_law1_OctetRows_l19 {R : Type} : SlOk (R := R) C_law1_OctetRows 6 134 0 19 (sl_law1_OctetRows_l19 (fun _ _ _ _ _ _ _ _ => none)) := by
  intro vs es K r h
  unfold sl_law1_OctetRows_l19 at h
  split at h <;> exact no_some h

theorem sln_law1_OctetRows_l30 {R : Type} : SlOk (R := R) C_law1_OctetRows 6 134 0 30 (sl_law1_OctetRows_l30 (fun _ _ _ _ _ _ => none)) := by
  intro vs es K r h
  unfold sl_law1_OctetRows_l30 at h
  split at h <;> exact no_some h

theorem lok_law1_OctetRows_l7 {R : Type} (kf : Nat) : ∀ n, SlOk (R := R) C_law1_OctetRows 6 134 0 7 (sl_law1_OctetRows_l7 (law1_OctetRows_l7 kf n)) := by
  intro n
  induction n with
  | zero =>
    intro vs es K r h
    unfold sl_law1_OctetRows_l7 at h
    split at h <;> exact no_some h
  | succ k ih =>
    have hcf : CfOk (R := R) Try.prog glob raw (cf_law1_OctetRows (law1_begun kf) (octet_Put kf) (octet_Text kf) octet_Take octet_TakeText (law1_OctetRows_l7 kf k) (fun _ _ _ _ _ _ _ => none) (fun _ _ _ _ _ _ _ _ => none) (fun _ _ _ _ _ _ => none)) := (cf_cons (shok_8 (ok_law1_begun kf)) (cf_cons (shok_10 (ok_octet_Put kf)) (cf_cons (shok_11 (ok_octet_Text kf)) (cf_cons (shok_16 (ok_octet_Take)) (cf_cons (shok_17 (ok_octet_TakeText)) cf_nil)))))
    have hlf : LfOk (R := R) C_law1_OctetRows 6 (lf_law1_OctetRows (law1_begun kf) (octet_Put kf) (octet_Text kf) octet_Take octet_TakeText (law1_OctetRows_l7 kf k) (fun _ _ _ _ _ _ _ => none) (fun _ _ _ _ _ _ _ _ => none) (fun _ _ _ _ _ _ => none)) := (lf_top (lf_cons ih (lf_cons (sln_law1_OctetRows_l12) (lf_cons (sln_law1_OctetRows_l19) (lf_cons (sln_law1_OctetRows_l30) lf_nil)))))
    intro vs es K r h
    unfold sl_law1_OctetRows_l7 at h
    split at h
    · exact loop_good (text_mixed t_law1_OctetRows) hcf hlf (text_loop t_law1_OctetRows 7).1 (text_loop t_law1_OctetRows 7).2 ((eq_law1_OctetRows_l7 (law1_begun kf) (octet_Put kf) (octet_Text kf) octet_Take octet_TakeText (law1_OctetRows_l7 kf k) (fun _ _ _ _ _ _ _ => none) (fun _ _ _ _ _ _ _ _ => none) (fun _ _ _ _ _ _ => none) _ _ _ _ K).trans h)
    · exact no_some h

theorem lok_law1_OctetRows_l12 {R : Type} (kf : Nat) : ∀ n, SlOk (R := R) C_law1_OctetRows 6 134 0 12 (sl_law1_OctetRows_l12 (law1_OctetRows_l12 kf n)) := by
  intro n
  induction n with
  | zero =>
    intro vs es K r h
    unfold sl_law1_OctetRows_l12 at h
    split at h <;> exact no_some h
  | succ k ih =>
    have hcf : CfOk (R := R) Try.prog glob raw (cf_law1_OctetRows (law1_begun kf) (octet_Put kf) (octet_Text kf) octet_Take octet_TakeText (law1_OctetRows_l7 kf k) (law1_OctetRows_l12 kf k) (fun _ _ _ _ _ _ _ _ => none) (fun _ _ _ _ _ _ => none)) := (cf_cons (shok_8 (ok_law1_begun kf)) (cf_cons (shok_10 (ok_octet_Put kf)) (cf_cons (shok_11 (ok_octet_Text kf)) (cf_cons (shok_16 (ok_octet_Take)) (cf_cons (shok_17 (ok_octet_TakeText)) cf_nil)))))
    have hlf : LfOk (R := R) C_law1_OctetRows 6 (lf_law1_OctetRows (law1_begun kf) (octet_Put kf) (octet_Text kf) octet_Take octet_TakeText (law1_OctetRows_l7 kf k) (law1_OctetRows_l12 kf k) (fun _ _ _ _ _ _ _ _ => none) (fun _ _ _ _ _ _ => none)) := (lf_top (lf_cons (lok_law1_OctetRows_l7 kf k) (lf_cons ih (lf_cons (sln_law1_OctetRows_l19) (lf_cons (sln_law1_OctetRows_l30) lf_nil)))))
    intro vs es K r h
    unfold sl_law1_OctetRows_l12 at h
    split at h
    · exact loop_good (text_mixed t_law1_OctetRows) hcf hlf (text_loop t_law1_OctetRows 12).1 (text_loop t_law1_OctetRows 12).2 ((eq_law1_OctetRows_l12 (law1_begun kf) (octet_Put kf) (octet_Text kf) octet_Take octet_TakeText (law1_OctetRows_l7 kf k) (law1_OctetRows_l12 kf k) (fun _ _ _ _ _ _ _ _ => none) (fun _ _ _ _ _ _ => none) _ _ _ _ _ K).trans h)
    · exact no_some h

theorem lok_law1_OctetRows_l19 {R : Type} (kf : Nat) : ∀ n, SlOk (R := R) C_law1_OctetRows 6 134 0 19 (sl_law1_OctetRows_l19 (law1_OctetRows_l19 kf n)) := by
  intro n
  induction n with
  | zero =>
    intro vs es K r h
    unfold sl_law1_OctetRows_l19 at h
    split at h <;> exact no_some h
  | succ k ih =>
    have hcf : CfOk (R := R) Try.prog glob raw (cf_law1_OctetRows (law1_begun kf) (octet_Put kf) (octet_Text kf) octet_Take octet_TakeText (law1_OctetRows_l7 kf k) (law1_OctetRows_l12 kf k) (law1_OctetRows_l19 kf k) (fun _ _ _ _ _ _ => none)) := (cf_cons (shok_8 (ok_law1_begun kf)) (cf_cons (shok_10 (ok_octet_Put kf)) (cf_cons (shok_11 (ok_octet_Text kf)) (cf_cons (shok_16 (ok_octet_Take)) (cf_cons (shok_17 (ok_octet_TakeText)) cf_nil)))))
    have hlf : LfOk (R := R) C_law1_OctetRows 6 (lf_law1_OctetRows (law1_begun kf) (octet_Put kf) (octet_Text kf) octet_Take octet_TakeText (law1_OctetRows_l7 kf k) (law1_OctetRows_l12 kf k) (law1_OctetRows_l19 kf k) (fun _ _ _ _ _ _ => none)) := (lf_top (lf_cons (lok_law1_OctetRows_l7 kf k) (lf_cons (lok_law1_OctetRows_l12 kf k) (lf_cons ih (lf_cons (sln_law1_OctetRows_l30) lf_nil)))))
    intro vs es K r h
    unfold sl_law1_OctetRows_l19 at h
    split at h
    · exact loop_good (text_mixed t_law1_OctetRows) hcf hlf (text_loop t_law1_OctetRows 19).1 (text_loop t_law1_OctetRows 19).2 ((eq_law1_OctetRows_l19 (law1_begun kf) (octet_Put kf) (octet_Text kf) octet_Take octet_TakeText (law1_OctetRows_l7 kf k) (law1_OctetRows_l12 kf k) (law1_OctetRows_l19 kf k) (fun _ _ _ _ _ _ => none) _ _ _ _ _ _ K).trans h)
    · exact no_some h

theorem lok_law1_OctetRows_l30 {R : Type} (kf : Nat) : ∀ n, SlOk (R := R) C_law1_OctetRows 6 134 0 30 (sl_law1_OctetRows_l30 (law1_OctetRows_l30 kf n)) := by
  intro n
  induction n with
  | zero =>
    intro vs es K r h
    unfold sl_law1_OctetRows_l30 at h
    split at h <;> exact no_some h
  | succ k ih =>
    have hcf : CfOk (R := R) Try.prog glob raw (cf_law1_OctetRows (law1_begun kf) (octet_Put kf) (octet_Text kf) octet_Take octet_TakeText (law1_OctetRows_l7 kf k) (law1_OctetRows_l12 kf k) (law1_OctetRows_l19 kf k) (law1_OctetRows_l30 kf k)) := (cf_cons (shok_8 (ok_law1_begun kf)) (cf_cons (shok_10 (ok_octet_Put kf)) (cf_cons (shok_11 (ok_octet_Text kf)) (cf_cons (shok_16 (ok_octet_Take)) (cf_cons (shok_17 (ok_octet_TakeText)) cf_nil)))))
    have hlf : LfOk (R := R) C_law1_OctetRows 6 (lf_law1_OctetRows (law1_begun kf) (octet_Put kf) (octet_Text kf) octet_Take octet_TakeText (law1_OctetRows_l7 kf k) (law1_OctetRows_l12 kf k) (law1_OctetRows_l19 kf k) (law1_OctetRows_l30 kf k)) := (lf_top (lf_cons (lok_law1_OctetRows_l7 kf k) (lf_cons (lok_law1_OctetRows_l12 kf k) (lf_cons (lok_law1_OctetRows_l19 kf k) (lf_cons ih lf_nil)))))
    intro vs es K r h
    unfold sl_law1_OctetRows_l30 at h
    split at h
    · exact loop_good (text_mixed t_law1_OctetRows) hcf hlf (text_loop t_law1_OctetRows 30).1 (text_loop t_law1_OctetRows 30).2 ((eq_law1_OctetRows_l30 (law1_begun kf) (octet_Put kf) (octet_Text kf) octet_Take octet_TakeText (law1_OctetRows_l7 kf k) (law1_OctetRows_l12 kf k) (law1_OctetRows_l19 kf k) (law1_OctetRows_l30 kf k) _ _ _ _ K).trans h)
    · exact no_some h

theorem ok_law1_OctetRows {R : Type} (kf : Nat) : Ok_law1_OctetRows (R := R) (law1_OctetRows kf) := by
  have hcf : CfOk (R := R) Try.prog glob raw (cf_law1_OctetRows (law1_begun kf) (octet_Put kf) (octet_Text kf) octet_Take octet_TakeText (law1_OctetRows_l7 kf kf) (law1_OctetRows_l12 kf kf) (law1_OctetRows_l19 kf kf) (law1_OctetRows_l30 kf kf)) := (cf_cons (shok_8 (ok_law1_begun kf)) (cf_cons (shok_10 (ok_octet_Put kf)) (cf_cons (shok_11 (ok_octet_Text kf)) (cf_cons (shok_16 (ok_octet_Take)) (cf_cons (shok_17 (ok_octet_TakeText)) cf_nil)))))
  have hlf : LfOk (R := R) C_law1_OctetRows 6 (lf_law1_OctetRows (law1_begun kf) (octet_Put kf) (octet_Text kf) octet_Take octet_TakeText (law1_OctetRows_l7 kf kf) (law1_OctetRows_l12 kf kf) (law1_OctetRows_l19 kf kf) (law1_OctetRows_l30 kf kf)) := (lf_top (lf_cons (lok_law1_OctetRows_l7 kf kf) (lf_cons (lok_law1_OctetRows_l12 kf kf) (lf_cons (lok_law1_OctetRows_l19 kf kf) (lf_cons (lok_law1_OctetRows_l30 kf kf) lf_nil)))))
  intro v1 v2 K r h
  exact run_good t_law1_OctetRows hcf hlf ((eq_law1_OctetRows (law1_begun kf) (octet_Put kf) (octet_Text kf) octet_Take octet_TakeText (law1_OctetRows_l7 kf kf) (law1_OctetRows_l12 kf kf) (law1_OctetRows_l19 kf kf) (law1_OctetRows_l30 kf kf) v1 v2 K).trans h)

theorem t_law1_OctetMost : textOk C_law1_OctetMost.bef Try.prog 7 = true := by kernel_rfl

theorem ok_law1_OctetMost {R : Type} (kf : Nat) : Ok_law1_OctetMost (R := R) (law1_OctetMost kf) := by
  have hcf : CfOk (R := R) Try.prog glob raw (cf_law1_OctetMost (law1_begun kf) (octet_Text kf) octet_TakeText) := (cf_cons (shok_8 (ok_law1_begun kf)) (cf_cons (shok_11 (ok_octet_Text kf)) (cf_cons (shok_17 (ok_octet_TakeText)) cf_nil)))
  have hlf : LfOk (R := R) C_law1_OctetMost 7 (lf_law1_OctetMost (law1_begun kf) (octet_Text kf) octet_TakeText) := lf_none
  intro v1 v2 K r h
  exact run_good t_law1_OctetMost hcf hlf ((eq_law1_OctetMost (law1_begun kf) (octet_Text kf) octet_TakeText v1 v2 K).trans h)

end
end Go.Ab.T
