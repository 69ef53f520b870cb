/- MchTC: a part of the proofs of this seat's statements. -/
import Derived.Test.YtepemhpippkmiaaMchLA
import Derived.Test.YtepemhpippkmiaaMchTB
import Derived.Test.YtepemhpippkmiaaKnot
import Derived.Test.YtepemhpippkmiaaMchTD



namespace Go.Ab.T

open Go Go.Ab Go.Proofs

set_option maxRecDepth 100000

set_option linter.unusedVariables false

noncomputable section

def Ok_law11_MachineMade {R : Type} (c : Int → Int → (List Int) → (List Int) → (Bool → Option R) → Option R) : Prop := ∀ (v1 : Int) (v2 : Int) (v3 : (List Int)) (v4 : (List Int)) (K : S → List Ent → Option R) (r : R), c v1 v2 v3 v4 (fun (r0 : Bool) => K (.bool r0) []) = some r → ∃ v es, FnOk Try.prog glob 3 (npF raw 3 []) [.int .u8 v1, .int .u8 v2, .sl (.int .u8) v3, .sl (.int .u8) v4] [] v es ∧ K v es = some r

theorem okn_law11_MachineMade {R : Type} : Ok_law11_MachineMade (R := R) (fun _ _ _ _ _ => none) := fun _ _ _ _ _ _ h => no_some h

theorem shok_3 {R : Type} {c_law11_MachineMade : Int → Int → (List Int) → (List Int) → (Bool → Option R) → Option R} (h_law11_MachineMade : Ok_law11_MachineMade c_law11_MachineMade) : ShOk Try.prog glob raw 3 (sh3 c_law11_MachineMade) := by
  intro av es K r h
  unfold sh3 at h
  split at h
  · exact h_law11_MachineMade _ _ _ _ _ _ h
  · exact no_some h

def Ok_law11_MachineGoes {R : Type} (c : Int → Int → (List Int) → (List Int) → (List Int) → Int → (Bool → Option R) → Option R) : Prop := ∀ (v1 : Int) (v2 : Int) (v3 : (List Int)) (v4 : (List Int)) (v5 : (List Int)) (v6 : Int) (K : S → List Ent → Option R) (r : R), c v1 v2 v3 v4 v5 v6 (fun (r0 : Bool) => K (.bool r0) []) = some r → ∃ v es, FnOk Try.prog glob 4 (npF raw 4 []) [.int .u8 v1, .int .u8 v2, .sl (.int .u8) v3, .sl (.int .u8) v4, .sl (.int .u8) v5, .int .u8 v6] [] v es ∧ K v es = some r

theorem okn_law11_MachineGoes {R : Type} : Ok_law11_MachineGoes (R := R) (fun _ _ _ _ _ _ _ => none) := fun _ _ _ _ _ _ _ _ h => no_some h

theorem shok_4 {R : Type} {c_law11_MachineGoes : Int → Int → (List Int) → (List Int) → (List Int) → Int → (Bool → Option R) → Option R} (h_law11_MachineGoes : Ok_law11_MachineGoes c_law11_MachineGoes) : ShOk Try.prog glob raw 4 (sh4 c_law11_MachineGoes) := by
  intro av es K r h
  unfold sh4 at h
  split at h
  · exact h_law11_MachineGoes _ _ _ _ _ _ _ _ h
  · exact no_some h

def Ok_law11_MachineFlips {R : Type} (c : Int → Int → (List Int) → (Bool → Option R) → Option R) : Prop := ∀ (v1 : Int) (v2 : Int) (v3 : (List Int)) (K : S → List Ent → Option R) (r : R), c v1 v2 v3 (fun (r0 : Bool) => K (.bool r0) []) = some r → ∃ v es, FnOk Try.prog glob 5 (npF raw 5 []) [.int .u8 v1, .int .u8 v2, .sl (.int .u8) v3] [] v es ∧ K v es = some r

theorem okn_law11_MachineFlips {R : Type} : Ok_law11_MachineFlips (R := R) (fun _ _ _ _ => none) := fun _ _ _ _ _ h => no_some h

theorem shok_5 {R : Type} {c_law11_MachineFlips : Int → Int → (List Int) → (Bool → Option R) → Option R} (h_law11_MachineFlips : Ok_law11_MachineFlips c_law11_MachineFlips) : ShOk Try.prog glob raw 5 (sh5 c_law11_MachineFlips) := by
  intro av es K r h
  unfold sh5 at h
  split at h
  · exact h_law11_MachineFlips _ _ _ _ _ h
  · exact no_some h

def Ok_law11_begun {R : Type} (c : (Bool → Option R) → Option R) : Prop := ∀ (K : S → List Ent → Option R) (r : R), c (fun (r0 : Bool) => K (.bool r0) []) = some r → ∃ v es, FnOk Try.prog glob 7 (npF raw 7 []) [] [] v es ∧ K v es = some r

theorem okn_law11_begun {R : Type} : Ok_law11_begun (R := R) (fun _ => none) := fun _ _ h => no_some h

theorem shok_7 {R : Type} {c_law11_begun : (Bool → Option R) → Option R} (h_law11_begun : Ok_law11_begun c_law11_begun) : ShOk Try.prog glob raw 7 (sh7 c_law11_begun) := by
  intro av es K r h
  unfold sh7 at h
  split at h
  · exact h_law11_begun _ _ h
  · exact no_some h

def Ok_play_Dfa {R : Type} (c : Int → Int → (List Int) → ((List Int) → (List (List Int)) → (List Bool) → Option R) → Option R) : Prop := ∀ (v1 : Int) (v2 : Int) (v3 : (List Int)) (K : S → List Ent → Option R) (r : R), c v1 v2 v3 (fun (r0 : (List Int)) (r1 : (List (List Int))) (r2 : (List Bool)) => K (.st [.arr 256 (.int .u8) r0, .own (.slice (.int .i64)) 0, .own .bool 1]) [.buf (.slice (.int .i64)) r1 false, .buf .bool r2 false]) = some r → ∃ v es, FnOk Try.prog glob 8 (npF raw 8 []) [.int .u8 v1, .int .u8 v2, .sl (.int .u8) v3] [] v es ∧ K v es = some r

theorem okn_play_Dfa {R : Type} : Ok_play_Dfa (R := R) (fun _ _ _ _ => none) := fun _ _ _ _ _ h => no_some h

theorem shok_8 {R : Type} {c_play_Dfa : Int → Int → (List Int) → ((List Int) → (List (List Int)) → (List Bool) → Option R) → Option R} (h_play_Dfa : Ok_play_Dfa c_play_Dfa) : ShOk Try.prog glob raw 8 (sh8 c_play_Dfa) := by
  intro av es K r h
  unfold sh8 at h
  split at h
  · exact h_play_Dfa _ _ _ _ _ h
  · exact no_some h

def Ok_machine_May {R : Type} (c : (List Int) → (List (List Int)) → (List Bool) → (Bool → Option R) → Option R) : Prop := ∀ (v1 : (List Int)) (v2 : (List (List Int))) (v3 : (List Bool)) (K : S → List Ent → Option R) (r : R), c v1 v2 v3 (fun (r0 : Bool) => K (.bool r0) []) = some r → ∃ v es, FnOk Try.prog glob 9 (npF raw 9 []) [.st [.arr 256 (.int .u8) v1, .sl (.slice (.int .i64)) v2, .sl .bool v3]] [] v es ∧ K v es = some r

theorem okn_machine_May {R : Type} : Ok_machine_May (R := R) (fun _ _ _ _ => none) := fun _ _ _ _ _ h => no_some h

theorem shok_9 {R : Type} {c_machine_May : (List Int) → (List (List Int)) → (List Bool) → (Bool → Option R) → Option R} (h_machine_May : Ok_machine_May c_machine_May) : ShOk Try.prog glob raw 9 (sh9 c_machine_May) := by
  intro av es K r h
  unfold sh9 at h
  split at h
  · exact h_machine_May _ _ _ _ _ h
  · exact no_some h

def Ok_machine_Run {R : Type} (c : (List Int) → (List (List Int)) → (List Bool) → (List Int) → (Bool → Option R) → Option R) : Prop := ∀ (v1 : (List Int)) (v2 : (List (List Int))) (v3 : (List Bool)) (v4 : (List Int)) (K : S → List Ent → Option R) (r : R), c v1 v2 v3 v4 (fun (r0 : Bool) => K (.bool r0) []) = some r → ∃ v es, FnOk Try.prog glob 10 (npF raw 10 []) [.st [.arr 256 (.int .u8) v1, .sl (.slice (.int .i64)) v2, .sl .bool v3], .sl (.int .u8) v4] [] v es ∧ K v es = some r

theorem okn_machine_Run {R : Type} : Ok_machine_Run (R := R) (fun _ _ _ _ _ => none) := fun _ _ _ _ _ _ h => no_some h

theorem shok_10 {R : Type} {c_machine_Run : (List Int) → (List (List Int)) → (List Bool) → (List Int) → (Bool → Option R) → Option R} (h_machine_Run : Ok_machine_Run c_machine_Run) : ShOk Try.prog glob raw 10 (sh10 c_machine_Run) := by
  intro av es K r h
  unfold sh10 at h
  split at h
  · exact h_machine_Run _ _ _ _ _ _ h
  · exact no_some h

def Ok_ref11_Run {R : Type} (c : (List Int) → (List (List Int)) → (List Bool) → (List Int) → (Bool → Option R) → Option R) : Prop := ∀ (v1 : (List Int)) (v2 : (List (List Int))) (v3 : (List Bool)) (v4 : (List Int)) (K : S → List Ent → Option R) (r : R), c v1 v2 v3 v4 (fun (r0 : Bool) => K (.bool r0) []) = some r → ∃ v es, FnOk Try.prog glob 11 (npF raw 11 []) [.st [.arr 256 (.int .u8) v1, .sl (.slice (.int .i64)) v2, .sl .bool v3], .sl (.int .u8) v4] [] v es ∧ K v es = some r

theorem okn_ref11_Run {R : Type} : Ok_ref11_Run (R := R) (fun _ _ _ _ _ => none) := fun _ _ _ _ _ _ h => no_some h

theorem shok_11 {R : Type} {c_ref11_Run : (List Int) → (List (List Int)) → (List Bool) → (List Int) → (Bool → Option R) → Option R} (h_ref11_Run : Ok_ref11_Run c_ref11_Run) : ShOk Try.prog glob raw 11 (sh11 c_ref11_Run) := by
  intro av es K r h
  unfold sh11 at h
  split at h
  · exact h_ref11_Run _ _ _ _ _ _ h
  · exact no_some h

def Ok_machine_Flip {R : Type} (c : (List Int) → (List (List Int)) → (List Bool) → ((List Int) → (List (List Int)) → (List Bool) → Option R) → Option R) : Prop := ∀ (v1 : (List Int)) (v2 : (List (List Int))) (v3 : (List Bool)) (K : S → List Ent → Option R) (r : R), c v1 v2 v3 (fun (r0 : (List Int)) (r1 : (List (List Int))) (r2 : (List Bool)) => K (.st [.arr 256 (.int .u8) r0, .own (.slice (.int .i64)) 0, .own .bool 1]) [.buf (.slice (.int .i64)) r1 false, .buf .bool r2 false]) = some r → ∃ v es, FnOk Try.prog glob 12 (npF raw 12 []) [.st [.arr 256 (.int .u8) v1, .sl (.slice (.int .i64)) v2, .sl .bool v3]] [] v es ∧ K v es = some r

theorem okn_machine_Flip {R : Type} : Ok_machine_Flip (R := R) (fun _ _ _ _ => none) := fun _ _ _ _ _ h => no_some h

theorem shok_12 {R : Type} {c_machine_Flip : (List Int) → (List (List Int)) → (List Bool) → ((List Int) → (List (List Int)) → (List Bool) → Option R) → Option R} (h_machine_Flip : Ok_machine_Flip c_machine_Flip) : ShOk Try.prog glob raw 12 (sh12 c_machine_Flip) := by
  intro av es K r h
  unfold sh12 at h
  split at h
  · exact h_machine_Flip _ _ _ _ _ h
  · exact no_some h

def Ok_law11_sameBools {R : Type} (c : (List Bool) → (List Bool) → (Bool → Option R) → Option R) : Prop := ∀ (v1 : (List Bool)) (v2 : (List Bool)) (K : S → List Ent → Option R) (r : R), c v1 v2 (fun (r0 : Bool) => K (.bool r0) []) = some r → ∃ v es, FnOk Try.prog glob 13 (npF raw 13 []) [.sl .bool v1, .sl .bool v2] [] v es ∧ K v es = some r

theorem okn_law11_sameBools {R : Type} : Ok_law11_sameBools (R := R) (fun _ _ _ => none) := fun _ _ _ _ h => no_some h

theorem shok_13 {R : Type} {c_law11_sameBools : (List Bool) → (List Bool) → (Bool → Option R) → Option R} (h_law11_sameBools : Ok_law11_sameBools c_law11_sameBools) : ShOk Try.prog glob raw 13 (sh13 c_law11_sameBools) := by
  intro av es K r h
  unfold sh13 at h
  split at h
  · exact h_law11_sameBools _ _ _ _ h
  · exact no_some h

def Ok_machine_Reach {R : Type} (c : (List Int) → (List (List Int)) → (List Bool) → ((List Bool) → Option R) → Option R) : Prop := ∀ (v1 : (List Int)) (v2 : (List (List Int))) (v3 : (List Bool)) (K : S → List Ent → Option R) (r : R), c v1 v2 v3 (fun (r0 : (List Bool)) => K (.own .bool 0) [.buf .bool r0 false]) = some r → ∃ v es, FnOk Try.prog glob 14 (npF raw 14 []) [.st [.arr 256 (.int .u8) v1, .sl (.slice (.int .i64)) v2, .sl .bool v3]] [] v es ∧ K v es = some r

theorem okn_machine_Reach {R : Type} : Ok_machine_Reach (R := R) (fun _ _ _ _ => none) := fun _ _ _ _ _ h => no_some h

theorem shok_14 {R : Type} {c_machine_Reach : (List Int) → (List (List Int)) → (List Bool) → ((List Bool) → Option R) → Option R} (h_machine_Reach : Ok_machine_Reach c_machine_Reach) : ShOk Try.prog glob raw 14 (sh14 c_machine_Reach) := by
  intro av es K r h
  unfold sh14 at h
  split at h
  · exact h_machine_Reach _ _ _ _ _ h
  · exact no_some h

def Ok_ref11_Reach {R : Type} (c : (List Int) → (List (List Int)) → (List Bool) → ((List Bool) → Option R) → Option R) : Prop := ∀ (v1 : (List Int)) (v2 : (List (List Int))) (v3 : (List Bool)) (K : S → List Ent → Option R) (r : R), c v1 v2 v3 (fun (r0 : (List Bool)) => K (.own .bool 0) [.buf .bool r0 false]) = some r → ∃ v es, FnOk Try.prog glob 15 (npF raw 15 []) [.st [.arr 256 (.int .u8) v1, .sl (.slice (.int .i64)) v2, .sl .bool v3]] [] v es ∧ K v es = some r

theorem okn_ref11_Reach {R : Type} : Ok_ref11_Reach (R := R) (fun _ _ _ _ => none) := fun _ _ _ _ _ h => no_some h

theorem shok_15 {R : Type} {c_ref11_Reach : (List Int) → (List (List Int)) → (List Bool) → ((List Bool) → Option R) → Option R} (h_ref11_Reach : Ok_ref11_Reach c_ref11_Reach) : ShOk Try.prog glob raw 15 (sh15 c_ref11_Reach) := by
  intro av es K r h
  unfold sh15 at h
  split at h
  · exact h_ref11_Reach _ _ _ _ _ h
  · exact no_some h

def Ok_machine_Live {R : Type} (c : (List Int) → (List (List Int)) → (List Bool) → ((List Bool) → Option R) → Option R) : Prop := ∀ (v1 : (List Int)) (v2 : (List (List Int))) (v3 : (List Bool)) (K : S → List Ent → Option R) (r : R), c v1 v2 v3 (fun (r0 : (List Bool)) => K (.own .bool 0) [.buf .bool r0 false]) = some r → ∃ v es, FnOk Try.prog glob 16 (npF raw 16 []) [.st [.arr 256 (.int .u8) v1, .sl (.slice (.int .i64)) v2, .sl .bool v3]] [] v es ∧ K v es = some r

theorem okn_machine_Live {R : Type} : Ok_machine_Live (R := R) (fun _ _ _ _ => none) := fun _ _ _ _ _ h => no_some h

theorem shok_16 {R : Type} {c_machine_Live : (List Int) → (List (List Int)) → (List Bool) → ((List Bool) → Option R) → Option R} (h_machine_Live : Ok_machine_Live c_machine_Live) : ShOk Try.prog glob raw 16 (sh16 c_machine_Live) := by
  intro av es K r h
  unfold sh16 at h
  split at h
  · exact h_machine_Live _ _ _ _ _ h
  · exact no_some h

def Ok_ref11_Live {R : Type} (c : (List Int) → (List (List Int)) → (List Bool) → ((List Bool) → Option R) → Option R) : Prop := ∀ (v1 : (List Int)) (v2 : (List (List Int))) (v3 : (List Bool)) (K : S → List Ent → Option R) (r : R), c v1 v2 v3 (fun (r0 : (List Bool)) => K (.own .bool 0) [.buf .bool r0 false]) = some r → ∃ v es, FnOk Try.prog glob 17 (npF raw 17 []) [.st [.arr 256 (.int .u8) v1, .sl (.slice (.int .i64)) v2, .sl .bool v3]] [] v es ∧ K v es = some r

theorem okn_ref11_Live {R : Type} : Ok_ref11_Live (R := R) (fun _ _ _ _ => none) := fun _ _ _ _ _ h => no_some h

theorem shok_17 {R : Type} {c_ref11_Live : (List Int) → (List (List Int)) → (List Bool) → ((List Bool) → Option R) → Option R} (h_ref11_Live : Ok_ref11_Live c_ref11_Live) : ShOk Try.prog glob raw 17 (sh17 c_ref11_Live) := by
  intro av es K r h
  unfold sh17 at h
  split at h
  · exact h_ref11_Live _ _ _ _ _ h
  · exact no_some h

def Ok_machine_To {R : Type} (c : (List Int) → (List (List Int)) → (List Bool) → Int → (List Int) → (Int → Option R) → Option R) : Prop := ∀ (v1 : (List Int)) (v2 : (List (List Int))) (v3 : (List Bool)) (v4 : Int) (v5 : (List Int)) (K : S → List Ent → Option R) (r : R), c v1 v2 v3 v4 v5 (fun (r0 : Int) => K (.int .i64 r0) []) = some r → ∃ v es, FnOk Try.prog glob 18 (npF raw 18 []) [.st [.arr 256 (.int .u8) v1, .sl (.slice (.int .i64)) v2, .sl .bool v3], .int .i64 v4, .sl (.int .u8) v5] [] v es ∧ K v es = some r

theorem okn_machine_To {R : Type} : Ok_machine_To (R := R) (fun _ _ _ _ _ _ => none) := fun _ _ _ _ _ _ _ h => no_some h

theorem shok_18 {R : Type} {c_machine_To : (List Int) → (List (List Int)) → (List Bool) → Int → (List Int) → (Int → Option R) → Option R} (h_machine_To : Ok_machine_To c_machine_To) : ShOk Try.prog glob raw 18 (sh18 c_machine_To) := by
  intro av es K r h
  unfold sh18 at h
  split at h
  · exact h_machine_To _ _ _ _ _ _ _ h
  · exact no_some h

def Ok_machine_Same {R : Type} (c : (List Int) → (List (List Int)) → (List Bool) → (List Int) → (List (List Int)) → (List Bool) → (Bool → Option R) → Option R) : Prop := ∀ (v1 : (List Int)) (v2 : (List (List Int))) (v3 : (List Bool)) (v4 : (List Int)) (v5 : (List (List Int))) (v6 : (List Bool)) (K : S → List Ent → Option R) (r : R), c v1 v2 v3 v4 v5 v6 (fun (r0 : Bool) => K (.bool r0) []) = some r → ∃ v es, FnOk Try.prog glob 19 (npF raw 19 []) [.st [.arr 256 (.int .u8) v1, .sl (.slice (.int .i64)) v2, .sl .bool v3], .st [.arr 256 (.int .u8) v4, .sl (.slice (.int .i64)) v5, .sl .bool v6]] [] v es ∧ K v es = some r

theorem okn_machine_Same {R : Type} : Ok_machine_Same (R := R) (fun _ _ _ _ _ _ _ => none) := fun _ _ _ _ _ _ _ _ h => no_some h

theorem shok_19 {R : Type} {c_machine_Same : (List Int) → (List (List Int)) → (List Bool) → (List Int) → (List (List Int)) → (List Bool) → (Bool → Option R) → Option R} (h_machine_Same : Ok_machine_Same c_machine_Same) : ShOk Try.prog glob raw 19 (sh19 c_machine_Same) := by
  intro av es K r h
  unfold sh19 at h
  split at h
  · exact h_machine_Same _ _ _ _ _ _ _ _ h
  · exact no_some h

def Ok_machine_Classes {R : Type} (c : (List Int) → (List (List Int)) → (List Bool) → (Int → Option R) → Option R) : Prop := ∀ (v1 : (List Int)) (v2 : (List (List Int))) (v3 : (List Bool)) (K : S → List Ent → Option R) (r : R), c v1 v2 v3 (fun (r0 : Int) => K (.int .i64 r0) []) = some r → ∃ v es, FnOk Try.prog glob 20 (npF raw 20 []) [.st [.arr 256 (.int .u8) v1, .sl (.slice (.int .i64)) v2, .sl .bool v3]] [] v es ∧ K v es = some r

theorem okn_machine_Classes {R : Type} : Ok_machine_Classes (R := R) (fun _ _ _ _ => none) := fun _ _ _ _ _ h => no_some h

theorem shok_20 {R : Type} {c_machine_Classes : (List Int) → (List (List Int)) → (List Bool) → (Int → Option R) → Option R} (h_machine_Classes : Ok_machine_Classes c_machine_Classes) : ShOk Try.prog glob raw 20 (sh20 c_machine_Classes) := by
  intro av es K r h
  unfold sh20 at h
  split at h
  · exact h_machine_Classes _ _ _ _ _ h
  · exact no_some h

def Ok_machine_Copy {R : Type} (c : (List Int) → (List (List Int)) → (List Bool) → ((List Int) → (List (List Int)) → (List Bool) → Option R) → Option R) : Prop := ∀ (v1 : (List Int)) (v2 : (List (List Int))) (v3 : (List Bool)) (K : S → List Ent → Option R) (r : R), c v1 v2 v3 (fun (r0 : (List Int)) (r1 : (List (List Int))) (r2 : (List Bool)) => K (.st [.arr 256 (.int .u8) r0, .own (.slice (.int .i64)) 0, .own .bool 1]) [.buf (.slice (.int .i64)) r1 false, .buf .bool r2 false]) = some r → ∃ v es, FnOk Try.prog glob 22 (npF raw 22 []) [.st [.arr 256 (.int .u8) v1, .sl (.slice (.int .i64)) v2, .sl .bool v3]] [] v es ∧ K v es = some r

theorem okn_machine_Copy {R : Type} : Ok_machine_Copy (R := R) (fun _ _ _ _ => none) := fun _ _ _ _ _ h => no_some h

theorem shok_22 {R : Type} {c_machine_Copy : (List Int) → (List (List Int)) → (List Bool) → ((List Int) → (List (List Int)) → (List Bool) → Option R) → Option R} (h_machine_Copy : Ok_machine_Copy c_machine_Copy) : ShOk Try.prog glob raw 22 (sh22 c_machine_Copy) := by
  intro av es K r h
  unfold sh22 at h
  split at h
  · exact h_machine_Copy _ _ _ _ _ h
  · exact no_some h

def Ok_play_Made {R : Type} (c : (List Int) → ((List Int) → Int → Option R) → Option R) : Prop := ∀ (v1 : (List Int)) (K : S → List Ent → Option R) (r : R), c v1 (fun (r0 : (List Int)) (r1 : Int) => K (.ptr 0 []) [.box (.st [.sl (.int .u8) r0, .int .i64 r1]) false]) = some r → ∃ v es, FnOk Try.prog glob 23 (npF raw 23 []) [.sl (.int .u8) v1] [] v es ∧ K v es = some r

theorem okn_play_Made {R : Type} : Ok_play_Made (R := R) (fun _ _ => none) := fun _ _ _ h => no_some h

theorem shok_23 {R : Type} {c_play_Made : (List Int) → ((List Int) → Int → Option R) → Option R} (h_play_Made : Ok_play_Made c_play_Made) : ShOk Try.prog glob raw 23 (sh23 c_play_Made) := by
  intro av es K r h
  unfold sh23 at h
  split at h
  · exact h_play_Made _ _ _ h
  · exact no_some h

def Ok_play_Picks_num {R : Type} (c : Int → (List Int) → Int → (Int → (List Int) → Int → Option R) → Option R) : Prop := ∀ (v1 : Int) (v2 : (List Int)) (v3 : Int) (K : S → List Ent → Option R) (r : R), c v1 v2 v3 (fun (r0 : Int) (r1 : (List Int)) (r2 : Int) => K (.int .i64 r0) [.box (.st [.sl (.int .u8) r1, .int .i64 r2]) false]) = some r → ∃ v es, FnOk Try.prog glob 24 (npF raw 24 [.box (.st [.sl (.int .u8) v2, .int .i64 v3]) false]) [.ptr 0 [], .int .i64 v1] [.box (.st [.sl (.int .u8) v2, .int .i64 v3]) false] v es ∧ K v es = some r

theorem okn_play_Picks_num {R : Type} : Ok_play_Picks_num (R := R) (fun _ _ _ _ => none) := fun _ _ _ _ _ h => no_some h

theorem shok_24 {R : Type} {c_play_Picks_num : Int → (List Int) → Int → (Int → (List Int) → Int → Option R) → Option R} (h_play_Picks_num : Ok_play_Picks_num c_play_Picks_num) : ShOk Try.prog glob raw 24 (sh24 c_play_Picks_num) := by
  intro av es K r h
  unfold sh24 at h
  split at h
  · exact h_play_Picks_num _ _ _ _ _ h
  · exact no_some h

def Ok_machine_classes {R : Type} (c : (List Int) → (List (List Int)) → (List Bool) → (Int → Option R) → Option R) : Prop := ∀ (v1 : (List Int)) (v2 : (List (List Int))) (v3 : (List Bool)) (K : S → List Ent → Option R) (r : R), c v1 v2 v3 (fun (r0 : Int) => K (.int .i64 r0) []) = some r → ∃ v es, FnOk Try.prog glob 25 (npF raw 25 []) [.st [.arr 256 (.int .u8) v1, .sl (.slice (.int .i64)) v2, .sl .bool v3]] [] v es ∧ K v es = some r

theorem okn_machine_classes {R : Type} : Ok_machine_classes (R := R) (fun _ _ _ _ => none) := fun _ _ _ _ _ h => no_some h

theorem shok_25 {R : Type} {c_machine_classes : (List Int) → (List (List Int)) → (List Bool) → (Int → Option R) → Option R} (h_machine_classes : Ok_machine_classes c_machine_classes) : ShOk Try.prog glob raw 25 (sh25 c_machine_classes) := by
  intro av es K r h
  unfold sh25 at h
  split at h
  · exact h_machine_classes _ _ _ _ _ h
  · exact no_some h

def Ok_slices_ContainsFunc_int_int {R : Type} (c : (List Int) → Int → (Bool → Int → Option R) → Option R) : Prop := ∀ (v1 : (List Int)) (v2 : Int) (K : S → List Ent → Option R) (r : R), c v1 v2 (fun (r0 : Bool) (r1 : Int) => K (.bool r0) [.box (.int .i64 r1) false]) = some r → ∃ v es, FnOk Try.prog glob 26 (npF raw 26 [.box (.int .i64 v2) false]) [.sl (.int .i64) v1, .fn 27 [.ptr 0 []]] [.box (.int .i64 v2) false] v es ∧ K v es = some r

theorem okn_slices_ContainsFunc_int_int {R : Type} : Ok_slices_ContainsFunc_int_int (R := R) (fun _ _ _ => none) := fun _ _ _ _ h => no_some h

theorem shok_26 {R : Type} {c_slices_ContainsFunc_int_int : (List Int) → Int → (Bool → Int → Option R) → Option R} (h_slices_ContainsFunc_int_int : Ok_slices_ContainsFunc_int_int c_slices_ContainsFunc_int_int) : ShOk Try.prog glob raw 26 (sh26 c_slices_ContainsFunc_int_int) := by
  intro av es K r h
  unfold sh26 at h
  split at h
  · exact h_slices_ContainsFunc_int_int _ _ _ _ h
  · exact no_some h

def Ok_machine_May_1 {R : Type} (c : Int → Int → (Bool → Int → Option R) → Option R) : Prop := ∀ (v1 : Int) (v2 : Int) (K : S → List Ent → Option R) (r : R), c v1 v2 (fun (r0 : Bool) (r1 : Int) => K (.bool r0) [.box (.int .i64 r1) false]) = some r → ∃ v es, FnOk Try.prog glob 27 (npF raw 27 [.box (.int .i64 v2) false]) [.int .i64 v1, .ptr 0 []] [.box (.int .i64 v2) false] v es ∧ K v es = some r

theorem okn_machine_May_1 {R : Type} : Ok_machine_May_1 (R := R) (fun _ _ _ => none) := fun _ _ _ _ h => no_some h

theorem shok_27 {R : Type} {c_machine_May_1 : Int → Int → (Bool → Int → Option R) → Option R} (h_machine_May_1 : Ok_machine_May_1 c_machine_May_1) : ShOk Try.prog glob raw 27 (sh27 c_machine_May_1) := by
  intro av es K r h
  unfold sh27 at h
  split at h
  · exact h_machine_May_1 _ _ _ _ h
  · exact no_some h

def Ok_ref11_To {R : Type} (c : (List Int) → (List (List Int)) → (List Bool) → Int → (List Int) → (Int → Option R) → Option R) : Prop := ∀ (v1 : (List Int)) (v2 : (List (List Int))) (v3 : (List Bool)) (v4 : Int) (v5 : (List Int)) (K : S → List Ent → Option R) (r : R), c v1 v2 v3 v4 v5 (fun (r0 : Int) => K (.int .i64 r0) []) = some r → ∃ v es, FnOk Try.prog glob 28 (npF raw 28 []) [.st [.arr 256 (.int .u8) v1, .sl (.slice (.int .i64)) v2, .sl .bool v3], .int .i64 v4, .sl (.int .u8) v5] [] v es ∧ K v es = some r

theorem okn_ref11_To {R : Type} : Ok_ref11_To (R := R) (fun _ _ _ _ _ _ => none) := fun _ _ _ _ _ _ _ h => no_some h

theorem shok_28 {R : Type} {c_ref11_To : (List Int) → (List (List Int)) → (List Bool) → Int → (List Int) → (Int → Option R) → Option R} (h_ref11_To : Ok_ref11_To c_ref11_To) : ShOk Try.prog glob raw 28 (sh28 c_ref11_To) := by
  intro av es K r h
  unfold sh28 at h
  split at h
  · exact h_ref11_To _ _ _ _ _ _ _ h
  · exact no_some h

def Ok_ref11_May {R : Type} (c : (List Int) → (List (List Int)) → (List Bool) → (Bool → Option R) → Option R) : Prop := ∀ (v1 : (List Int)) (v2 : (List (List Int))) (v3 : (List Bool)) (K : S → List Ent → Option R) (r : R), c v1 v2 v3 (fun (r0 : Bool) => K (.bool r0) []) = some r → ∃ v es, FnOk Try.prog glob 29 (npF raw 29 []) [.st [.arr 256 (.int .u8) v1, .sl (.slice (.int .i64)) v2, .sl .bool v3]] [] v es ∧ K v es = some r

theorem okn_ref11_May {R : Type} : Ok_ref11_May (R := R) (fun _ _ _ _ => none) := fun _ _ _ _ _ h => no_some h

theorem shok_29 {R : Type} {c_ref11_May : (List Int) → (List (List Int)) → (List Bool) → (Bool → Option R) → Option R} (h_ref11_May : Ok_ref11_May c_ref11_May) : ShOk Try.prog glob raw 29 (sh29 c_ref11_May) := by
  intro av es K r h
  unfold sh29 at h
  split at h
  · exact h_ref11_May _ _ _ _ _ h
  · exact no_some h

def Ok_slices_Equal_bool_bool {R : Type} (c : (List Bool) → (List Bool) → (Bool → Option R) → Option R) : Prop := ∀ (v1 : (List Bool)) (v2 : (List Bool)) (K : S → List Ent → Option R) (r : R), c v1 v2 (fun (r0 : Bool) => K (.bool r0) []) = some r → ∃ v es, FnOk Try.prog glob 31 (npF raw 31 []) [.sl .bool v1, .sl .bool v2] [] v es ∧ K v es = some r

theorem okn_slices_Equal_bool_bool {R : Type} : Ok_slices_Equal_bool_bool (R := R) (fun _ _ _ => none) := fun _ _ _ _ h => no_some h

theorem shok_31 {R : Type} {c_slices_Equal_bool_bool : (List Bool) → (List Bool) → (Bool → Option R) → Option R} (h_slices_Equal_bool_bool : Ok_slices_Equal_bool_bool c_slices_Equal_bool_bool) : ShOk Try.prog glob raw 31 (sh31 c_slices_Equal_bool_bool) := by
  intro av es K r h
  unfold sh31 at h
  split at h
  · exact h_slices_Equal_bool_bool _ _ _ _ h
  · exact no_some h

def Ok_slices_EqualFunc_int_int_int_int {R : Type} (c : (List (List Int)) → (List (List Int)) → (Bool → Option R) → Option R) : Prop := ∀ (v1 : (List (List Int))) (v2 : (List (List Int))) (K : S → List Ent → Option R) (r : R), c v1 v2 (fun (r0 : Bool) => K (.bool r0) []) = some r → ∃ v es, FnOk Try.prog glob 32 (npF raw 32 []) [.sl (.slice (.int .i64)) v1, .sl (.slice (.int .i64)) v2, .fn 33 []] [] v es ∧ K v es = some r

theorem okn_slices_EqualFunc_int_int_int_int {R : Type} : Ok_slices_EqualFunc_int_int_int_int (R := R) (fun _ _ _ => none) := fun _ _ _ _ h => no_some h

theorem shok_32 {R : Type} {c_slices_EqualFunc_int_int_int_int : (List (List Int)) → (List (List Int)) → (Bool → Option R) → Option R} (h_slices_EqualFunc_int_int_int_int : Ok_slices_EqualFunc_int_int_int_int c_slices_EqualFunc_int_int_int_int) : ShOk Try.prog glob raw 32 (sh32 c_slices_EqualFunc_int_int_int_int) := by
  intro av es K r h
  unfold sh32 at h
  split at h
  · exact h_slices_EqualFunc_int_int_int_int _ _ _ _ h
  · exact no_some h

def Ok_machine_Same_1 {R : Type} (c : (List Int) → (List Int) → (Bool → Option R) → Option R) : Prop := ∀ (v1 : (List Int)) (v2 : (List Int)) (K : S → List Ent → Option R) (r : R), c v1 v2 (fun (r0 : Bool) => K (.bool r0) []) = some r → ∃ v es, FnOk Try.prog glob 33 (npF raw 33 []) [.sl (.int .i64) v1, .sl (.int .i64) v2] [] v es ∧ K v es = some r

theorem okn_machine_Same_1 {R : Type} : Ok_machine_Same_1 (R := R) (fun _ _ _ => none) := fun _ _ _ _ h => no_some h

theorem shok_33 {R : Type} {c_machine_Same_1 : (List Int) → (List Int) → (Bool → Option R) → Option R} (h_machine_Same_1 : Ok_machine_Same_1 c_machine_Same_1) : ShOk Try.prog glob raw 33 (sh33 c_machine_Same_1) := by
  intro av es K r h
  unfold sh33 at h
  split at h
  · exact h_machine_Same_1 _ _ _ _ h
  · exact no_some h

def Ok_slices_Equal_int_int {R : Type} (c : (List Int) → (List Int) → (Bool → Option R) → Option R) : Prop := ∀ (v1 : (List Int)) (v2 : (List Int)) (K : S → List Ent → Option R) (r : R), c v1 v2 (fun (r0 : Bool) => K (.bool r0) []) = some r → ∃ v es, FnOk Try.prog glob 34 (npF raw 34 []) [.sl (.int .i64) v1, .sl (.int .i64) v2] [] v es ∧ K v es = some r

theorem okn_slices_Equal_int_int {R : Type} : Ok_slices_Equal_int_int (R := R) (fun _ _ _ => none) := fun _ _ _ _ h => no_some h

theorem shok_34 {R : Type} {c_slices_Equal_int_int : (List Int) → (List Int) → (Bool → Option R) → Option R} (h_slices_Equal_int_int : Ok_slices_Equal_int_int c_slices_Equal_int_int) : ShOk Try.prog glob raw 34 (sh34 c_slices_Equal_int_int) := by
  intro av es K r h
  unfold sh34 at h
  split at h
  · exact h_slices_Equal_int_int _ _ _ _ h
  · exact no_some h

def Ok_slices_Max_uint8_uint8 {R : Type} (c : (List Int) → (Int → Option R) → Option R) : Prop := ∀ (v1 : (List Int)) (K : S → List Ent → Option R) (r : R), c v1 (fun (r0 : Int) => K (.int .u8 r0) []) = some r → ∃ v es, FnOk Try.prog glob 36 (npF raw 36 []) [.sl (.int .u8) v1] [] v es ∧ K v es = some r

theorem okn_slices_Max_uint8_uint8 {R : Type} : Ok_slices_Max_uint8_uint8 (R := R) (fun _ _ => none) := fun _ _ _ h => no_some h

theorem shok_36 {R : Type} {c_slices_Max_uint8_uint8 : (List Int) → (Int → Option R) → Option R} (h_slices_Max_uint8_uint8 : Ok_slices_Max_uint8_uint8 c_slices_Max_uint8_uint8) : ShOk Try.prog glob raw 36 (sh36 c_slices_Max_uint8_uint8) := by
  intro av es K r h
  unfold sh36 at h
  split at h
  · exact h_slices_Max_uint8_uint8 _ _ _ h
  · exact no_some h

def Ok_slices_IndexFunc_int_int {R : Type} (c : (List Int) → Int → (Int → Int → Option R) → Option R) : Prop := ∀ (v1 : (List Int)) (v2 : Int) (K : S → List Ent → Option R) (r : R), c v1 v2 (fun (r0 : Int) (r1 : Int) => K (.int .i64 r0) [.box (.int .i64 r1) false]) = some r → ∃ v es, FnOk Try.prog glob 37 (npF raw 37 [.box (.int .i64 v2) false]) [.sl (.int .i64) v1, .fn 27 [.ptr 0 []]] [.box (.int .i64 v2) false] v es ∧ K v es = some r

theorem okn_slices_IndexFunc_int_int {R : Type} : Ok_slices_IndexFunc_int_int (R := R) (fun _ _ _ => none) := fun _ _ _ _ h => no_some h

theorem shok_37 {R : Type} {c_slices_IndexFunc_int_int : (List Int) → Int → (Int → Int → Option R) → Option R} (h_slices_IndexFunc_int_int : Ok_slices_IndexFunc_int_int c_slices_IndexFunc_int_int) : ShOk Try.prog glob raw 37 (sh37 c_slices_IndexFunc_int_int) := by
  intro av es K r h
  unfold sh37 at h
  split at h
  · exact h_slices_IndexFunc_int_int _ _ _ _ h
  · exact no_some h

def Ok_ref11_Classes {R : Type} (c : (List Int) → (List (List Int)) → (List Bool) → (Int → Option R) → Option R) : Prop := ∀ (v1 : (List Int)) (v2 : (List (List Int))) (v3 : (List Bool)) (K : S → List Ent → Option R) (r : R), c v1 v2 v3 (fun (r0 : Int) => K (.int .i64 r0) []) = some r → ∃ v es, FnOk Try.prog glob 38 (npF raw 38 []) [.st [.arr 256 (.int .u8) v1, .sl (.slice (.int .i64)) v2, .sl .bool v3]] [] v es ∧ K v es = some r

theorem okn_ref11_Classes {R : Type} : Ok_ref11_Classes (R := R) (fun _ _ _ _ => none) := fun _ _ _ _ _ h => no_some h

theorem shok_38 {R : Type} {c_ref11_Classes : (List Int) → (List (List Int)) → (List Bool) → (Int → Option R) → Option R} (h_ref11_Classes : Ok_ref11_Classes c_ref11_Classes) : ShOk Try.prog glob raw 38 (sh38 c_ref11_Classes) := by
  intro av es K r h
  unfold sh38 at h
  split at h
  · exact h_ref11_Classes _ _ _ _ _ h
  · exact no_some h

theorem t_slices_Max_uint8_uint8 : textOk C_slices_Max_uint8_uint8.bef Try.prog 36 = true := by kernel_rfl

theorem sln_slices_Max_uint8_uint8_l5 {R : Type} : SlOk (R := R) C_slices_Max_uint8_uint8 36 25 0 5 (sl_slices_Max_uint8_uint8_l5 (fun _ _ _ _ => none)) := by
  intro vs es K r h
  unfold sl_slices_Max_uint8_uint8_l5 at h
  split at h <;> exact no_some h

theorem lok_slices_Max_uint8_uint8_l5 {R : Type} (kf : Nat) : ∀ n, SlOk (R := R) C_slices_Max_uint8_uint8 36 25 0 5 (sl_slices_Max_uint8_uint8_l5 (slices_Max_uint8_uint8_l5 kf n)) := by
  intro n
  induction n with
  | zero =>
    intro vs es K r h
    unfold sl_slices_Max_uint8_uint8_l5 at h
    split at h <;> exact no_some h
  | succ k ih =>
    have hcf : CfOk (R := R) Try.prog glob raw (cf_slices_Max_uint8_uint8 (slices_Max_uint8_uint8_l5 kf k)) := cf_nil
    have hlf : LfOk (R := R) C_slices_Max_uint8_uint8 36 (lf_slices_Max_uint8_uint8 (slices_Max_uint8_uint8_l5 kf k)) := (lf_top (lf_cons ih lf_nil))
    intro vs es K r h
    unfold sl_slices_Max_uint8_uint8_l5 at h
    split at h
    · exact loop_good (text_mixed t_slices_Max_uint8_uint8) hcf hlf (text_loop t_slices_Max_uint8_uint8 5).1 (text_loop t_slices_Max_uint8_uint8 5).2 ((eq_slices_Max_uint8_uint8_l5 (slices_Max_uint8_uint8_l5 kf k) _ _ _ K).trans h)
    · exact no_some h

theorem ok_slices_Max_uint8_uint8 {R : Type} (kf : Nat) : Ok_slices_Max_uint8_uint8 (R := R) (slices_Max_uint8_uint8 kf) := by
  have hcf : CfOk (R := R) Try.prog glob raw (cf_slices_Max_uint8_uint8 (slices_Max_uint8_uint8_l5 kf kf)) := cf_nil
  have hlf : LfOk (R := R) C_slices_Max_uint8_uint8 36 (lf_slices_Max_uint8_uint8 (slices_Max_uint8_uint8_l5 kf kf)) := (lf_top (lf_cons (lok_slices_Max_uint8_uint8_l5 kf kf) lf_nil))
  intro v1 K r h
  exact run_good t_slices_Max_uint8_uint8 hcf hlf ((eq_slices_Max_uint8_uint8 (slices_Max_uint8_uint8_l5 kf kf) v1 K).trans h)

theorem t_machine_classes : textOk C_machine_classes.bef Try.prog 25 = true := by kernel_rfl

theorem ok_machine_classes {R : Type} (kf : Nat) : Ok_machine_classes (R := R) (machine_classes kf) := by
  have hcf : CfOk (R := R) Try.prog glob raw (cf_machine_classes (slices_Max_uint8_uint8 kf)) := (cf_cons (shok_36 (ok_slices_Max_uint8_uint8 kf)) cf_nil)
  have hlf : LfOk (R := R) C_machine_classes 25 (lf_machine_classes (slices_Max_uint8_uint8 kf)) := lf_none
  intro v1 v2 v3 K r h
  exact run_good t_machine_classes hcf hlf ((eq_machine_classes (slices_Max_uint8_uint8 kf) v1 v2 v3 K).trans h)

theorem t_machine_May_1 : textOk C_machine_May_1.bef Try.prog 27 = true := by kernel_rfl

theorem ok_machine_May_1 {R : Type} : Ok_machine_May_1 (R := R) (machine_May_1) := by
  have hcf : CfOk (R := R) Try.prog glob raw (cf_machine_May_1) := cf_nil
  have hlf : LfOk (R := R) C_machine_May_1 27 (lf_machine_May_1) := lf_none
  intro v1 v2 K r h
  exact run_good t_machine_May_1 hcf hlf ((eq_machine_May_1 v1 v2 K).trans h)

theorem t_slices_IndexFunc_int_int : textOk C_slices_IndexFunc_int_int.bef Try.prog 37 = true := by kernel_rfl

theorem sln_slices_IndexFunc_int_int_l2 {R : Type} : SlOk (R := R) C_slices_IndexFunc_int_int 37 19 1 2 (sl_slices_IndexFunc_int_int_l2 (fun _ _ _ _ _ _ => none)) := by
  intro vs es K r h
  unfold sl_slices_IndexFunc_int_int_l2 at h
  split at h <;> exact no_some h

theorem lok_slices_IndexFunc_int_int_l2 {R : Type} (kf : Nat) : ∀ n, SlOk (R := R) C_slices_IndexFunc_int_int 37 19 1 2 (sl_slices_IndexFunc_int_int_l2 (slices_IndexFunc_int_int_l2 kf n)) := by
  intro n
  induction n with
  | zero =>
    intro vs es K r h
    unfold sl_slices_IndexFunc_int_int_l2 at h
    split at h <;> exact no_some h
  | succ k ih =>
    have hcf : CfOk (R := R) Try.prog glob raw (cf_slices_IndexFunc_int_int machine_May_1 (slices_IndexFunc_int_int_l2 kf k)) := (cf_cons (shok_27 ok_machine_May_1) cf_nil)
    have hlf : LfOk (R := R) C_slices_IndexFunc_int_int 37 (lf_slices_IndexFunc_int_int machine_May_1 (slices_IndexFunc_int_int_l2 kf k)) := (lf_top (lf_cons ih lf_nil))
    intro vs es K r h
    unfold sl_slices_IndexFunc_int_int_l2 at h
    split at h
    · exact loop_good (text_mixed t_slices_IndexFunc_int_int) hcf hlf (text_loop t_slices_IndexFunc_int_int 2).1 (text_loop t_slices_IndexFunc_int_int 2).2 ((eq_slices_IndexFunc_int_int_l2 machine_May_1 (slices_IndexFunc_int_int_l2 kf k) _ _ _ _ K).trans h)
    · exact no_some h

theorem ok_slices_IndexFunc_int_int {R : Type} (kf : Nat) : Ok_slices_IndexFunc_int_int (R := R) (slices_IndexFunc_int_int kf) := by
  have hcf : CfOk (R := R) Try.prog glob raw (cf_slices_IndexFunc_int_int machine_May_1 (slices_IndexFunc_int_int_l2 kf kf)) := (cf_cons (shok_27 ok_machine_May_1) cf_nil)
  have hlf : LfOk (R := R) C_slices_IndexFunc_int_int 37 (lf_slices_IndexFunc_int_int machine_May_1 (slices_IndexFunc_int_int_l2 kf kf)) := (lf_top (lf_cons (lok_slices_IndexFunc_int_int_l2 kf kf) lf_nil))
  intro v1 v2 K r h
  exact run_good t_slices_IndexFunc_int_int hcf hlf ((eq_slices_IndexFunc_int_int machine_May_1 (slices_IndexFunc_int_int_l2 kf kf) v1 v2 K).trans h)

theorem t_slices_ContainsFunc_int_int : textOk C_slices_ContainsFunc_int_int.bef Try.prog 26 = true := by kernel_rfl

theorem ok_slices_ContainsFunc_int_int {R : Type} (kf : Nat) : Ok_slices_ContainsFunc_int_int (R := R) (slices_ContainsFunc_int_int kf) := by
  have hcf : CfOk (R := R) Try.prog glob raw (cf_slices_ContainsFunc_int_int (slices_IndexFunc_int_int kf)) := (cf_cons (shok_37 (ok_slices_IndexFunc_int_int kf)) cf_nil)
  have hlf : LfOk (R := R) C_slices_ContainsFunc_int_int 26 (lf_slices_ContainsFunc_int_int (slices_IndexFunc_int_int kf)) := lf_none
  intro v1 v2 K r h
  exact run_good t_slices_ContainsFunc_int_int hcf hlf ((eq_slices_ContainsFunc_int_int (slices_IndexFunc_int_int kf) v1 v2 K).trans h)

theorem t_machine_May : textOk C_machine_May.bef Try.prog 9 = true := by kernel_rfl

theorem sln_machine_May_l6 {R : Type} : SlOk (R := R) C_machine_May 9 42 0 6 (sl_machine_May_l6 (fun _ _ _ _ _ _ _ => none)) := by
  intro vs es K r h
  unfold sl_machine_May_l6 at h
  split at h <;> exact no_some h

theorem lok_machine_May_l6 {R : Type} (kf : Nat) : ∀ n, SlOk (R := R) C_machine_May 9 42 0 6 (sl_machine_May_l6 (machine_May_l6 kf n)) := by
  intro n
  induction n with
  | zero =>
    intro vs es K r h
    unfold sl_machine_May_l6 at h
    split at h <;> exact no_some h
  | succ k ih =>
    have hcf : CfOk (R := R) Try.prog glob raw (cf_machine_May (machine_classes kf) (slices_ContainsFunc_int_int kf) (machine_May_l6 kf k)) := (cf_cons (shok_25 (ok_machine_classes kf)) (cf_cons (shok_26 (ok_slices_ContainsFunc_int_int kf)) cf_nil))
    have hlf : LfOk (R := R) C_machine_May 9 (lf_machine_May (machine_classes kf) (slices_ContainsFunc_int_int kf) (machine_May_l6 kf k)) := (lf_top (lf_cons ih lf_nil))
    intro vs es K r h
    unfold sl_machine_May_l6 at h
    split at h
    · exact loop_good (text_mixed t_machine_May) hcf hlf (text_loop t_machine_May 6).1 (text_loop t_machine_May 6).2 ((eq_machine_May_l6 (machine_classes kf) (slices_ContainsFunc_int_int kf) (machine_May_l6 kf k) _ _ _ _ _ K).trans h)
    · exact no_some h

theorem ok_machine_May {R : Type} (kf : Nat) : Ok_machine_May (R := R) (machine_May kf) := by
  have hcf : CfOk (R := R) Try.prog glob raw (cf_machine_May (machine_classes kf) (slices_ContainsFunc_int_int kf) (machine_May_l6 kf kf)) := (cf_cons (shok_25 (ok_machine_classes kf)) (cf_cons (shok_26 (ok_slices_ContainsFunc_int_int kf)) cf_nil))
  have hlf : LfOk (R := R) C_machine_May 9 (lf_machine_May (machine_classes kf) (slices_ContainsFunc_int_int kf) (machine_May_l6 kf kf)) := (lf_top (lf_cons (lok_machine_May_l6 kf kf) lf_nil))
  intro v1 v2 v3 K r h
  exact run_good t_machine_May hcf hlf ((eq_machine_May (machine_classes kf) (slices_ContainsFunc_int_int kf) (machine_May_l6 kf kf) v1 v2 v3 K).trans h)

theorem t_machine_Classes : textOk C_machine_Classes.bef Try.prog 20 = true := by kernel_rfl

theorem ok_machine_Classes {R : Type} (kf : Nat) : Ok_machine_Classes (R := R) (machine_Classes kf) := by
  have hcf : CfOk (R := R) Try.prog glob raw (cf_machine_Classes (machine_May kf) (machine_classes kf)) := (cf_cons (shok_9 (ok_machine_May kf)) (cf_cons (shok_25 (ok_machine_classes kf)) cf_nil))
  have hlf : LfOk (R := R) C_machine_Classes 20 (lf_machine_Classes (machine_May kf) (machine_classes kf)) := lf_none
  intro v1 v2 v3 K r h
  exact run_good t_machine_Classes hcf hlf ((eq_machine_Classes (machine_May kf) (machine_classes kf) v1 v2 v3 K).trans h)

theorem t_machine_To : textOk C_machine_To.bef Try.prog 18 = true := by kernel_rfl

theorem sln_machine_To_l4 {R : Type} : SlOk (R := R) C_machine_To 18 42 0 4 (sl_machine_To_l4 (fun _ _ _ _ _ _ _ => none)) := by
  intro vs es K r h
  unfold sl_machine_To_l4 at h
  split at h <;> exact no_some h

theorem lok_machine_To_l4 {R : Type} (kf : Nat) : ∀ n, SlOk (R := R) C_machine_To 18 42 0 4 (sl_machine_To_l4 (machine_To_l4 kf n)) := by
  intro n
  induction n with
  | zero =>
    intro vs es K r h
    unfold sl_machine_To_l4 at h
    split at h <;> exact no_some h
  | succ k ih =>
    have hcf : CfOk (R := R) Try.prog glob raw (cf_machine_To (machine_May kf) (machine_To_l4 kf k)) := (cf_cons (shok_9 (ok_machine_May kf)) cf_nil)
    have hlf : LfOk (R := R) C_machine_To 18 (lf_machine_To (machine_May kf) (machine_To_l4 kf k)) := (lf_top (lf_cons ih lf_nil))
    intro vs es K r h
    unfold sl_machine_To_l4 at h
    split at h
    · exact loop_good (text_mixed t_machine_To) hcf hlf (text_loop t_machine_To 4).1 (text_loop t_machine_To 4).2 ((eq_machine_To_l4 (machine_May kf) (machine_To_l4 kf k) _ _ _ _ _ _ _ K).trans h)
    · exact no_some h

theorem ok_machine_To {R : Type} (kf : Nat) : Ok_machine_To (R := R) (machine_To kf) := by
  have hcf : CfOk (R := R) Try.prog glob raw (cf_machine_To (machine_May kf) (machine_To_l4 kf kf)) := (cf_cons (shok_9 (ok_machine_May kf)) cf_nil)
  have hlf : LfOk (R := R) C_machine_To 18 (lf_machine_To (machine_May kf) (machine_To_l4 kf kf)) := (lf_top (lf_cons (lok_machine_To_l4 kf kf) lf_nil))
  intro v1 v2 v3 v4 v5 K r h
  exact run_good t_machine_To hcf hlf ((eq_machine_To (machine_May kf) (machine_To_l4 kf kf) v1 v2 v3 v4 v5 K).trans h)

theorem t_machine_Run : textOk C_machine_Run.bef Try.prog 10 = true := by kernel_rfl

theorem ok_machine_Run {R : Type} (kf : Nat) : Ok_machine_Run (R := R) (machine_Run kf) := by
  have hcf : CfOk (R := R) Try.prog glob raw (cf_machine_Run (machine_To kf)) := (cf_cons (shok_18 (ok_machine_To kf)) cf_nil)
  have hlf : LfOk (R := R) C_machine_Run 10 (lf_machine_Run (machine_To kf)) := lf_none
  intro v1 v2 v3 v4 K r h
  exact run_good t_machine_Run hcf hlf ((eq_machine_Run (machine_To kf) v1 v2 v3 v4 K).trans h)

theorem t_machine_Copy : textOk C_machine_Copy.bef Try.prog 22 = true := by kernel_rfl

theorem sln_machine_Copy_l3 {R : Type} : SlOk (R := R) C_machine_Copy 22 26 0 3 (sl_machine_Copy_l3 (fun _ _ _ _ _ _ _ _ _ _ _ => none)) := by
  intro vs es K r h
  unfold sl_machine_Copy_l3 at h
  split at h <;> exact no_some h

theorem lok_machine_Copy_l3 {R : Type} (kf : Nat) : ∀ n, SlOk (R := R) C_machine_Copy 22 26 0 3 (sl_machine_Copy_l3 (machine_Copy_l3 kf n)) := by
  intro n
  induction n with
  | zero =>
    intro vs es K r h
    unfold sl_machine_Copy_l3 at h
    split at h <;> exact no_some h
  | succ k ih =>
    have hcf : CfOk (R := R) Try.prog glob raw (cf_machine_Copy (machine_Copy_l3 kf k)) := (cf_cons (clok_35) (cf_cons (clok_30) cf_nil))
    have hlf : LfOk (R := R) C_machine_Copy 22 (lf_machine_Copy (machine_Copy_l3 kf k)) := (lf_top (lf_cons ih lf_nil))
    intro vs es K r h
    unfold sl_machine_Copy_l3 at h
    split at h
    · exact loop_good (text_mixed t_machine_Copy) hcf hlf (text_loop t_machine_Copy 3).1 (text_loop t_machine_Copy 3).2 ((eq_machine_Copy_l3 (machine_Copy_l3 kf k) _ _ _ _ _ _ _ _ _ _ K).trans h)
    · exact no_some h

theorem ok_machine_Copy {R : Type} (kf : Nat) : Ok_machine_Copy (R := R) (machine_Copy kf) := by
  have hcf : CfOk (R := R) Try.prog glob raw (cf_machine_Copy (machine_Copy_l3 kf kf)) := (cf_cons (clok_35) (cf_cons (clok_30) cf_nil))
  have hlf : LfOk (R := R) C_machine_Copy 22 (lf_machine_Copy (machine_Copy_l3 kf kf)) := (lf_top (lf_cons (lok_machine_Copy_l3 kf kf) lf_nil))
  intro v1 v2 v3 K r h
  exact run_good t_machine_Copy hcf hlf ((eq_machine_Copy (machine_Copy_l3 kf kf) v1 v2 v3 K).trans h)

theorem t_machine_Flip : textOk C_machine_Flip.bef Try.prog 12 = true := by kernel_rfl

theorem sln_machine_Flip_l5 {R : Type} : SlOk (R := R) C_machine_Flip 12 29 0 5 (sl_machine_Flip_l5 (fun _ _ _ _ _ _ _ _ _ => none)) := by
  intro vs es K r h
  unfold sl_machine_Flip_l5 at h
  split at h <;> exact no_some h

theorem lok_machine_Flip_l5 {R : Type} (kf : Nat) : ∀ n, SlOk (R := R) C_machine_Flip 12 29 0 5 (sl_machine_Flip_l5 (machine_Flip_l5 kf n)) := by
  intro n
  induction n with
  | zero =>
    intro vs es K r h
    unfold sl_machine_Flip_l5 at h
    split at h <;> exact no_some h
  | succ k ih =>
    have hcf : CfOk (R := R) Try.prog glob raw (cf_machine_Flip (machine_May kf) (machine_Copy kf) (machine_Flip_l5 kf k)) := (cf_cons (shok_9 (ok_machine_May kf)) (cf_cons (shok_22 (ok_machine_Copy kf)) cf_nil))
    have hlf : LfOk (R := R) C_machine_Flip 12 (lf_machine_Flip (machine_May kf) (machine_Copy kf) (machine_Flip_l5 kf k)) := (lf_top (lf_cons ih lf_nil))
    intro vs es K r h
    unfold sl_machine_Flip_l5 at h
    split at h
    · exact loop_good (text_mixed t_machine_Flip) hcf hlf (text_loop t_machine_Flip 5).1 (text_loop t_machine_Flip 5).2 ((eq_machine_Flip_l5 (machine_May kf) (machine_Copy kf) (machine_Flip_l5 kf k) _ _ _ _ _ _ _ _ K).trans h)
    · exact no_some h

theorem ok_machine_Flip {R : Type} (kf : Nat) : Ok_machine_Flip (R := R) (machine_Flip kf) := by
  have hcf : CfOk (R := R) Try.prog glob raw (cf_machine_Flip (machine_May kf) (machine_Copy kf) (machine_Flip_l5 kf kf)) := (cf_cons (shok_9 (ok_machine_May kf)) (cf_cons (shok_22 (ok_machine_Copy kf)) cf_nil))
  have hlf : LfOk (R := R) C_machine_Flip 12 (lf_machine_Flip (machine_May kf) (machine_Copy kf) (machine_Flip_l5 kf kf)) := (lf_top (lf_cons (lok_machine_Flip_l5 kf kf) lf_nil))
  intro v1 v2 v3 K r h
  exact run_good t_machine_Flip hcf hlf ((eq_machine_Flip (machine_May kf) (machine_Copy kf) (machine_Flip_l5 kf kf) v1 v2 v3 K).trans h)

theorem t_machine_Reach : textOk C_machine_Reach.bef Try.prog 14 = true := by kernel_rfl

theorem sln_machine_Reach_l6 {R : Type} : SlOk (R := R) C_machine_Reach 14 50 0 6 (sl_machine_Reach_l6 (fun _ _ _ _ _ _ => none)) := by
  intro vs es K r h
  unfold sl_machine_Reach_l6 at h
  split at h <;> exact no_some h

theorem sln_machine_Reach_l10 {R : Type} : SlOk (R := R) C_machine_Reach 14 50 0 10 (sl_machine_Reach_l10 (fun _ _ _ _ _ _ _ _ _ => none)) := by
  intro vs es K r h
  unfold sl_machine_Reach_l10 at h
  split at h <;> exact no_some h

theorem lok_machine_Reach_l10 {R : Type} (kf : Nat) : ∀ n, SlOk (R := R) C_machine_Reach 14 50 0 10 (sl_machine_Reach_l10 (machine_Reach_l10 kf n)) := by
  intro n
  induction n with
  | zero =>
    intro vs es K r h
    unfold sl_machine_Reach_l10 at h
    split at h <;> exact no_some h
  | succ k ih =>
    have hcf : CfOk (R := R) Try.prog glob raw (cf_machine_Reach (machine_May kf) (fun _ _ _ _ _ _ => none) (machine_Reach_l10 kf k)) := (cf_cons (shok_9 (ok_machine_May kf)) cf_nil)
    have hlf : LfOk (R := R) C_machine_Reach 14 (lf_machine_Reach (machine_May kf) (fun _ _ _ _ _ _ => none) (machine_Reach_l10 kf k)) := (lf_top (lf_cons (sln_machine_Reach_l6) (lf_cons ih lf_nil)))
    intro vs es K r h
    unfold sl_machine_Reach_l10 at h
    split at h
    · exact loop_good (text_mixed t_machine_Reach) hcf hlf (text_loop t_machine_Reach 10).1 (text_loop t_machine_Reach 10).2 ((eq_machine_Reach_l10 (machine_May kf) (fun _ _ _ _ _ _ => none) (machine_Reach_l10 kf k) _ _ _ _ _ _ _ _ K).trans h)
    · exact no_some h

theorem lok_machine_Reach_l6 {R : Type} (kf : Nat) : ∀ n, SlOk (R := R) C_machine_Reach 14 50 0 6 (sl_machine_Reach_l6 (machine_Reach_l6 kf n)) := by
  intro n
  induction n with
  | zero =>
    intro vs es K r h
    unfold sl_machine_Reach_l6 at h
    split at h <;> exact no_some h
  | succ k ih =>
    have hcf : CfOk (R := R) Try.prog glob raw (cf_machine_Reach (machine_May kf) (machine_Reach_l6 kf k) (machine_Reach_l10 kf k)) := (cf_cons (shok_9 (ok_machine_May kf)) cf_nil)
    have hlf : LfOk (R := R) C_machine_Reach 14 (lf_machine_Reach (machine_May kf) (machine_Reach_l6 kf k) (machine_Reach_l10 kf k)) := (lf_top (lf_cons ih (lf_cons (lok_machine_Reach_l10 kf k) lf_nil)))
    intro vs es K r h
    unfold sl_machine_Reach_l6 at h
    split at h
    · exact loop_good (text_mixed t_machine_Reach) hcf hlf (text_loop t_machine_Reach 6).1 (text_loop t_machine_Reach 6).2 ((eq_machine_Reach_l6 (machine_May kf) (machine_Reach_l6 kf k) (machine_Reach_l10 kf k) _ _ _ _ _ K).trans h)
    · exact no_some h

theorem ok_machine_Reach {R : Type} (kf : Nat) : Ok_machine_Reach (R := R) (machine_Reach kf) := by
  have hcf : CfOk (R := R) Try.prog glob raw (cf_machine_Reach (machine_May kf) (machine_Reach_l6 kf kf) (machine_Reach_l10 kf kf)) := (cf_cons (shok_9 (ok_machine_May kf)) cf_nil)
  have hlf : LfOk (R := R) C_machine_Reach 14 (lf_machine_Reach (machine_May kf) (machine_Reach_l6 kf kf) (machine_Reach_l10 kf kf)) := (lf_top (lf_cons (lok_machine_Reach_l6 kf kf) (lf_cons (lok_machine_Reach_l10 kf kf) lf_nil)))
  intro v1 v2 v3 K r h
  exact run_good t_machine_Reach hcf hlf ((eq_machine_Reach (machine_May kf) (machine_Reach_l6 kf kf) (machine_Reach_l10 kf kf) v1 v2 v3 K).trans h)

theorem t_machine_Live : textOk C_machine_Live.bef Try.prog 16 = true := by kernel_rfl

theorem sln_machine_Live_l16 {R : Type} : SlOk (R := R) C_machine_Live 16 94 0 16 (sl_machine_Live_l16 (fun _ _ _ _ _ _ => none)) := by
  intro vs es K r h
  unfold sl_machine_Live_l16 at h
  split at h <;> exact no_some h

theorem sln_machine_Live_l21 {R : Type} : SlOk (R := R) C_machine_Live 16 94 0 21 (sl_machine_Live_l21 (fun _ _ _ _ => none)) := by
  intro vs es K r h
  unfold sl_machine_Live_l21 at h
  split at h <;> exact no_some h

theorem sln_machine_Live_l25 {R : Type} : SlOk (R := R) C_machine_Live 16 94 0 25 (sl_machine_Live_l25 (fun _ _ _ _ _ _ _ => none)) := by
  intro vs es K r h
  unfold sl_machine_Live_l25 at h
  split at h <;> exact no_some h

theorem lok_machine_Live_l16 {R : Type} (kf : Nat) : ∀ n, SlOk (R := R) C_machine_Live 16 94 0 16 (sl_machine_Live_l16 (machine_Live_l16 kf n)) := by
  intro n
  induction n with
  | zero =>
    intro vs es K r h
    unfold sl_machine_Live_l16 at h
    split at h <;> exact no_some h
  | succ k ih =>
    have hcf : CfOk (R := R) Try.prog glob raw (cf_machine_Live (machine_May kf) (machine_Live_l16 kf k) (fun _ _ _ _ => none) (fun _ _ _ _ _ _ _ => none)) := (cf_cons (shok_9 (ok_machine_May kf)) (cf_cons (clok_30) cf_nil))
    have hlf : LfOk (R := R) C_machine_Live 16 (lf_machine_Live (machine_May kf) (machine_Live_l16 kf k) (fun _ _ _ _ => none) (fun _ _ _ _ _ _ _ => none)) := (lf_top (lf_cons ih (lf_cons (sln_machine_Live_l21) (lf_cons (sln_machine_Live_l25) lf_nil))))
    intro vs es K r h
    unfold sl_machine_Live_l16 at h
    split at h
    · exact loop_good (text_mixed t_machine_Live) hcf hlf (text_loop t_machine_Live 16).1 (text_loop t_machine_Live 16).2 ((eq_machine_Live_l16 (machine_May kf) (machine_Live_l16 kf k) (fun _ _ _ _ => none) (fun _ _ _ _ _ _ _ => none) _ _ _ _ _ K).trans h)
    · exact no_some h

theorem lok_machine_Live_l25 {R : Type} (kf : Nat) : ∀ n, SlOk (R := R) C_machine_Live 16 94 0 25 (sl_machine_Live_l25 (machine_Live_l25 kf n)) := by
  intro n
  induction n with
  | zero =>
    intro vs es K r h
    unfold sl_machine_Live_l25 at h
    split at h <;> exact no_some h
  | succ k ih =>
    have hcf : CfOk (R := R) Try.prog glob raw (cf_machine_Live (machine_May kf) (machine_Live_l16 kf k) (fun _ _ _ _ => none) (machine_Live_l25 kf k)) := (cf_cons (shok_9 (ok_machine_May kf)) (cf_cons (clok_30) cf_nil))
    have hlf : LfOk (R := R) C_machine_Live 16 (lf_machine_Live (machine_May kf) (machine_Live_l16 kf k) (fun _ _ _ _ => none) (machine_Live_l25 kf k)) := (lf_top (lf_cons (lok_machine_Live_l16 kf k) (lf_cons (sln_machine_Live_l21) (lf_cons ih lf_nil))))
    intro vs es K r h
    unfold sl_machine_Live_l25 at h
    split at h
    · exact loop_good (text_mixed t_machine_Live) hcf hlf (text_loop t_machine_Live 25).1 (text_loop t_machine_Live 25).2 ((eq_machine_Live_l25 (machine_May kf) (machine_Live_l16 kf k) (fun _ _ _ _ => none) (machine_Live_l25 kf k) _ _ _ _ _ _ K).trans h)
    · exact no_some h

theorem lok_machine_Live_l21 {R : Type} (kf : Nat) : ∀ n, SlOk (R := R) C_machine_Live 16 94 0 21 (sl_machine_Live_l21 (machine_Live_l21 kf n)) := by
  intro n
  induction n with
  | zero =>
    intro vs es K r h
    unfold sl_machine_Live_l21 at h
    split at h <;> exact no_some h
  | succ k ih =>
    have hcf : CfOk (R := R) Try.prog glob raw (cf_machine_Live (machine_May kf) (machine_Live_l16 kf k) (machine_Live_l21 kf k) (machine_Live_l25 kf k)) := (cf_cons (shok_9 (ok_machine_May kf)) (cf_cons (clok_30) cf_nil))
    have hlf : LfOk (R := R) C_machine_Live 16 (lf_machine_Live (machine_May kf) (machine_Live_l16 kf k) (machine_Live_l21 kf k) (machine_Live_l25 kf k)) := (lf_top (lf_cons (lok_machine_Live_l16 kf k) (lf_cons ih (lf_cons (lok_machine_Live_l25 kf k) lf_nil))))
    intro vs es K r h
    unfold sl_machine_Live_l21 at h
    split at h
    · exact loop_good (text_mixed t_machine_Live) hcf hlf (text_loop t_machine_Live 21).1 (text_loop t_machine_Live 21).2 ((eq_machine_Live_l21 (machine_May kf) (machine_Live_l16 kf k) (machine_Live_l21 kf k) (machine_Live_l25 kf k) _ _ _ K).trans h)
    · exact no_some h

theorem gd_some {R : Type} {b : Bool} {x : Option R} {r : R} (h : gd b x = some r) : b = true ∧ x = some r := by
  cases b with
  | true => exact ⟨rfl, h⟩
  | false => exact absurd h (by simp [gd])

theorem ok_machine_Live {R : Type} (kf : Nat) : Ok_machine_Live (R := R) (machine_Live kf) := by
  have hcf : CfOk (R := R) Try.prog glob raw (cf_machine_Live (machine_May kf) (machine_Live_l16 kf kf) (machine_Live_l21 kf kf) (machine_Live_l25 kf kf)) := (cf_cons (shok_9 (ok_machine_May kf)) (cf_cons (clok_30) cf_nil))
  have hlf : LfOk (R := R) C_machine_Live 16 (lf_machine_Live (machine_May kf) (machine_Live_l16 kf kf) (machine_Live_l21 kf kf) (machine_Live_l25 kf kf)) := (lf_top (lf_cons (lok_machine_Live_l16 kf kf) (lf_cons (lok_machine_Live_l21 kf kf) (lf_cons (lok_machine_Live_l25 kf kf) lf_nil))))
  intro v1 v2 v3 K r h
  have hm := text_mixed t_machine_Live
  refine run_good_of (C := C_machine_Live) t_machine_Live (show Try.prog.funcs[16]? = some Try.f16 by kernel_rfl) ?_
  refine good_spine hm hcf hlf 1 (bodyOf Try.prog 16) _ (show codeOk C_machine_Live.bef (restC 0 (bodyOf Try.prog 16)) = true by kernel_rfl) (fun b hb => find_own live_nd hb) ((le0 (machine_May kf) (machine_Live_l16 kf kf) (machine_Live_l21 kf kf) (machine_Live_l25 kf kf) v1 v2 v3 K).trans h) fun st0 h0 => ?_
  refine good_cut h0 fun vs es h1 => ?_
  unfold ljf0 at h1
  split at h1
  rotate_left
  · exact no_some h1
  rw [liveX]
  refine good_scope (good_spine hm hcf hlf 1 (scC (restC 1 (bodyOf Try.prog 16))) _ (by kernel_rfl) (live_hl 0) ((le1 (machine_May kf) (machine_Live_l16 kf kf) (machine_Live_l21 kf kf) (machine_Live_l25 kf kf) _ _ _ K).trans h1) fun st1 h1' => ?_)
  refine good_cut h1' fun vs es h2 => ?_
  unfold ljf1 at h2
  split at h2
  rotate_left
  · exact no_some h2
  obtain ⟨hg, h3⟩ := gd_some h2
  rw [liveY]
  obtain ⟨inf, z, hT⟩ := liveT
  obtain ⟨f1, infI, zI, hP⟩ := liveP
  refine good_from (C := C_machine_Live) hT liveO hP (by decide) hg ?_
  refine good_cut (jf := ljf2 (machine_May kf) (machine_Live_l16 kf kf) (machine_Live_l21 kf kf) (machine_Live_l25 kf kf) K) ((le2 (machine_May kf) (machine_Live_l16 kf kf) (machine_Live_l21 kf kf) (machine_Live_l25 kf kf) _ _ _ _ K).trans h3) fun vs es h4 => ?_
  unfold ljf2 at h4
  split at h4
  rotate_left
  · exact no_some h4
  exact good_code hm hcf hlf (by kernel_rfl) (live_hl 3) ((le3 (machine_May kf) (machine_Live_l16 kf kf) (machine_Live_l21 kf kf) (machine_Live_l25 kf kf) _ _ _ _ K).trans h4)

theorem t_slices_Equal_bool_bool : textOk C_slices_Equal_bool_bool.bef Try.prog 31 = true := by kernel_rfl

theorem sln_slices_Equal_bool_bool_l4 {R : Type} : SlOk (R := R) C_slices_Equal_bool_bool 31 26 0 4 (sl_slices_Equal_bool_bool_l4 (fun _ _ _ _ _ _ => none)) := by
  intro vs es K r h
  unfold sl_slices_Equal_bool_bool_l4 at h
  split at h <;> exact no_some h

theorem lok_slices_Equal_bool_bool_l4 {R : Type} (kf : Nat) : ∀ n, SlOk (R := R) C_slices_Equal_bool_bool 31 26 0 4 (sl_slices_Equal_bool_bool_l4 (slices_Equal_bool_bool_l4 kf n)) := by
  intro n
  induction n with
  | zero =>
    intro vs es K r h
    unfold sl_slices_Equal_bool_bool_l4 at h
    split at h <;> exact no_some h
  | succ k ih =>
    have hcf : CfOk (R := R) Try.prog glob raw (cf_slices_Equal_bool_bool (slices_Equal_bool_bool_l4 kf k)) := cf_nil
    have hlf : LfOk (R := R) C_slices_Equal_bool_bool 31 (lf_slices_Equal_bool_bool (slices_Equal_bool_bool_l4 kf k)) := (lf_top (lf_cons ih lf_nil))
    intro vs es K r h
    unfold sl_slices_Equal_bool_bool_l4 at h
    split at h
    · exact loop_good (text_mixed t_slices_Equal_bool_bool) hcf hlf (text_loop t_slices_Equal_bool_bool 4).1 (text_loop t_slices_Equal_bool_bool 4).2 ((eq_slices_Equal_bool_bool_l4 (slices_Equal_bool_bool_l4 kf k) _ _ _ _ K).trans h)
    · exact no_some h

theorem ok_slices_Equal_bool_bool {R : Type} (kf : Nat) : Ok_slices_Equal_bool_bool (R := R) (slices_Equal_bool_bool kf) := by
  have hcf : CfOk (R := R) Try.prog glob raw (cf_slices_Equal_bool_bool (slices_Equal_bool_bool_l4 kf kf)) := cf_nil
  have hlf : LfOk (R := R) C_slices_Equal_bool_bool 31 (lf_slices_Equal_bool_bool (slices_Equal_bool_bool_l4 kf kf)) := (lf_top (lf_cons (lok_slices_Equal_bool_bool_l4 kf kf) lf_nil))
  intro v1 v2 K r h
  exact run_good t_slices_Equal_bool_bool hcf hlf ((eq_slices_Equal_bool_bool (slices_Equal_bool_bool_l4 kf kf) v1 v2 K).trans h)

theorem t_slices_Equal_int_int : textOk C_slices_Equal_int_int.bef Try.prog 34 = true := by kernel_rfl

theorem sln_slices_Equal_int_int_l4 {R : Type} : SlOk (R := R) C_slices_Equal_int_int 34 26 0 4 (sl_slices_Equal_int_int_l4 (fun _ _ _ _ _ _ => none)) := by
  intro vs es K r h
  unfold sl_slices_Equal_int_int_l4 at h
  split at h <;> exact no_some h

theorem lok_slices_Equal_int_int_l4 {R : Type} (kf : Nat) : ∀ n, SlOk (R := R) C_slices_Equal_int_int 34 26 0 4 (sl_slices_Equal_int_int_l4 (slices_Equal_int_int_l4 kf n)) := by
  intro n
  induction n with
  | zero =>
    intro vs es K r h
    unfold sl_slices_Equal_int_int_l4 at h
    split at h <;> exact no_some h
  | succ k ih =>
    have hcf : CfOk (R := R) Try.prog glob raw (cf_slices_Equal_int_int (slices_Equal_int_int_l4 kf k)) := cf_nil
    have hlf : LfOk (R := R) C_slices_Equal_int_int 34 (lf_slices_Equal_int_int (slices_Equal_int_int_l4 kf k)) := (lf_top (lf_cons ih lf_nil))
    intro vs es K r h
    unfold sl_slices_Equal_int_int_l4 at h
    split at h
    · exact loop_good (text_mixed t_slices_Equal_int_int) hcf hlf (text_loop t_slices_Equal_int_int 4).1 (text_loop t_slices_Equal_int_int 4).2 ((eq_slices_Equal_int_int_l4 (slices_Equal_int_int_l4 kf k) _ _ _ _ K).trans h)
    · exact no_some h

theorem ok_slices_Equal_int_int {R : Type} (kf : Nat) : Ok_slices_Equal_int_int (R := R) (slices_Equal_int_int kf) := by
  have hcf : CfOk (R := R) Try.prog glob raw (cf_slices_Equal_int_int (slices_Equal_int_int_l4 kf kf)) := cf_nil
  have hlf : LfOk (R := R) C_slices_Equal_int_int 34 (lf_slices_Equal_int_int (slices_Equal_int_int_l4 kf kf)) := (lf_top (lf_cons (lok_slices_Equal_int_int_l4 kf kf) lf_nil))
  intro v1 v2 K r h
  exact run_good t_slices_Equal_int_int hcf hlf ((eq_slices_Equal_int_int (slices_Equal_int_int_l4 kf kf) v1 v2 K).trans h)

theorem t_machine_Same_1 : textOk C_machine_Same_1.bef Try.prog 33 = true := by kernel_rfl

theorem ok_machine_Same_1 {R : Type} (kf : Nat) : Ok_machine_Same_1 (R := R) (machine_Same_1 kf) := by
  have hcf : CfOk (R := R) Try.prog glob raw (cf_machine_Same_1 (slices_Equal_int_int kf)) := (cf_cons (shok_34 (ok_slices_Equal_int_int kf)) cf_nil)
  have hlf : LfOk (R := R) C_machine_Same_1 33 (lf_machine_Same_1 (slices_Equal_int_int kf)) := lf_none
  intro v1 v2 K r h
  exact run_good t_machine_Same_1 hcf hlf ((eq_machine_Same_1 (slices_Equal_int_int kf) v1 v2 K).trans h)

theorem t_slices_EqualFunc_int_int_int_int : textOk C_slices_EqualFunc_int_int_int_int.bef Try.prog 32 = true := by kernel_rfl

theorem sln_slices_EqualFunc_int_int_int_int_l4 {R : Type} : SlOk (R := R) C_slices_EqualFunc_int_int_int_int 32 32 0 4 (sl_slices_EqualFunc_int_int_int_int_l4 (fun _ _ _ _ _ _ => none)) := by
  intro vs es K r h
  unfold sl_slices_EqualFunc_int_int_int_int_l4 at h
  split at h <;> exact no_some h

theorem lok_slices_EqualFunc_int_int_int_int_l4 {R : Type} (kf : Nat) : ∀ n, SlOk (R := R) C_slices_EqualFunc_int_int_int_int 32 32 0 4 (sl_slices_EqualFunc_int_int_int_int_l4 (slices_EqualFunc_int_int_int_int_l4 kf n)) := by
  intro n
  induction n with
  | zero =>
    intro vs es K r h
    unfold sl_slices_EqualFunc_int_int_int_int_l4 at h
    split at h <;> exact no_some h
  | succ k ih =>
    have hcf : CfOk (R := R) Try.prog glob raw (cf_slices_EqualFunc_int_int_int_int (machine_Same_1 kf) (slices_EqualFunc_int_int_int_int_l4 kf k)) := (cf_cons (shok_33 (ok_machine_Same_1 kf)) cf_nil)
    have hlf : LfOk (R := R) C_slices_EqualFunc_int_int_int_int 32 (lf_slices_EqualFunc_int_int_int_int (machine_Same_1 kf) (slices_EqualFunc_int_int_int_int_l4 kf k)) := (lf_top (lf_cons ih lf_nil))
    intro vs es K r h
    unfold sl_slices_EqualFunc_int_int_int_int_l4 at h
    split at h
    · exact loop_good (text_mixed t_slices_EqualFunc_int_int_int_int) hcf hlf (text_loop t_slices_EqualFunc_int_int_int_int 4).1 (text_loop t_slices_EqualFunc_int_int_int_int 4).2 ((eq_slices_EqualFunc_int_int_int_int_l4 (machine_Same_1 kf) (slices_EqualFunc_int_int_int_int_l4 kf k) _ _ _ _ K).trans h)
    · exact no_some h

theorem ok_slices_EqualFunc_int_int_int_int {R : Type} (kf : Nat) : Ok_slices_EqualFunc_int_int_int_int (R := R) (slices_EqualFunc_int_int_int_int kf) := by
  have hcf : CfOk (R := R) Try.prog glob raw (cf_slices_EqualFunc_int_int_int_int (machine_Same_1 kf) (slices_EqualFunc_int_int_int_int_l4 kf kf)) := (cf_cons (shok_33 (ok_machine_Same_1 kf)) cf_nil)
  have hlf : LfOk (R := R) C_slices_EqualFunc_int_int_int_int 32 (lf_slices_EqualFunc_int_int_int_int (machine_Same_1 kf) (slices_EqualFunc_int_int_int_int_l4 kf kf)) := (lf_top (lf_cons (lok_slices_EqualFunc_int_int_int_int_l4 kf kf) lf_nil))
  intro v1 v2 K r h
  exact run_good t_slices_EqualFunc_int_int_int_int hcf hlf ((eq_slices_EqualFunc_int_int_int_int (machine_Same_1 kf) (slices_EqualFunc_int_int_int_int_l4 kf kf) v1 v2 K).trans h)

theorem t_machine_Same : textOk C_machine_Same.bef Try.prog 19 = true := by kernel_rfl

theorem ok_machine_Same {R : Type} (kf : Nat) : Ok_machine_Same (R := R) (machine_Same kf) := by
  have hcf : CfOk (R := R) Try.prog glob raw (cf_machine_Same (slices_Equal_bool_bool kf) (slices_EqualFunc_int_int_int_int kf)) := (cf_cons (shok_31 (ok_slices_Equal_bool_bool kf)) (cf_cons (shok_32 (ok_slices_EqualFunc_int_int_int_int kf)) cf_nil))
  have hlf : LfOk (R := R) C_machine_Same 19 (lf_machine_Same (slices_Equal_bool_bool kf) (slices_EqualFunc_int_int_int_int kf)) := lf_none
  intro v1 v2 v3 v4 v5 v6 K r h
  exact run_good t_machine_Same hcf hlf ((eq_machine_Same (slices_Equal_bool_bool kf) (slices_EqualFunc_int_int_int_int kf) v1 v2 v3 v4 v5 v6 K).trans h)

theorem t_law11_begun : textOk C_law11_begun.bef Try.prog 7 = true := by kernel_rfl

theorem ok_law11_begun {R : Type} (kf : Nat) : Ok_law11_begun (R := R) (law11_begun kf) := by
  have hcf : CfOk (R := R) Try.prog glob raw (cf_law11_begun (machine_May kf) (machine_Classes kf) (machine_Run kf) (machine_Flip kf) (machine_To kf) (machine_Reach kf) (machine_Live kf) (machine_Copy kf) (machine_Same kf)) := (cf_cons (shok_9 (ok_machine_May kf)) (cf_cons (shok_20 (ok_machine_Classes kf)) (cf_cons (shok_10 (ok_machine_Run kf)) (cf_cons (shok_12 (ok_machine_Flip kf)) (cf_cons (shok_18 (ok_machine_To kf)) (cf_cons (shok_14 (ok_machine_Reach kf)) (cf_cons (shok_16 (ok_machine_Live kf)) (cf_cons (shok_22 (ok_machine_Copy kf)) (cf_cons (shok_19 (ok_machine_Same kf)) cf_nil)))))))))
  have hlf : LfOk (R := R) C_law11_begun 7 (lf_law11_begun (machine_May kf) (machine_Classes kf) (machine_Run kf) (machine_Flip kf) (machine_To kf) (machine_Reach kf) (machine_Live kf) (machine_Copy kf) (machine_Same kf)) := lf_none
  intro K r h
  exact run_good t_law11_begun hcf hlf ((eq_law11_begun (machine_May kf) (machine_Classes kf) (machine_Run kf) (machine_Flip kf) (machine_To kf) (machine_Reach kf) (machine_Live kf) (machine_Copy kf) (machine_Same kf) K).trans h)

theorem t_play_Made : textOk C_play_Made.bef Try.prog 23 = true := by kernel_rfl

theorem ok_play_Made {R : Type} : Ok_play_Made (R := R) (play_Made) := by
  have hcf : CfOk (R := R) Try.prog glob raw (cf_play_Made) := cf_nil
  have hlf : LfOk (R := R) C_play_Made 23 (lf_play_Made) := lf_none
  intro v1 K r h
  exact run_good t_play_Made hcf hlf ((eq_play_Made v1 K).trans h)

theorem t_play_Picks_num : textOk C_play_Picks_num.bef Try.prog 24 = true := by kernel_rfl

theorem ok_play_Picks_num {R : Type} : Ok_play_Picks_num (R := R) (play_Picks_num) := by
  have hcf : CfOk (R := R) Try.prog glob raw (cf_play_Picks_num) := cf_nil
  have hlf : LfOk (R := R) C_play_Picks_num 24 (lf_play_Picks_num) := lf_none
  intro v1 v2 v3 K r h
  exact run_good t_play_Picks_num hcf hlf ((eq_play_Picks_num v1 v2 v3 K).trans h)

theorem t_play_Dfa : textOk C_play_Dfa.bef Try.prog 8 = true := by kernel_rfl

theorem sln_play_Dfa_l5 {R : Type} : SlOk (R := R) C_play_Dfa 8 80 0 5 (sl_play_Dfa_l5 (fun _ _ _ _ _ _ _ _ _ _ _ _ => none)) := by
  intro vs es K r h
  unfold sl_play_Dfa_l5 at h
  split at h <;> exact no_some h

theorem sln_play_Dfa_l12 {R : Type} : SlOk (R := R) C_play_Dfa 8 80 0 12 (sl_play_Dfa_l12 (fun _ _ _ _ _ _ _ _ _ _ _ _ => none)) := by
  intro vs es K r h
  unfold sl_play_Dfa_l12 at h
  split at h <;> exact no_some h

theorem sln_play_Dfa_l16 {R : Type} : SlOk (R := R) C_play_Dfa 8 80 0 16 (sl_play_Dfa_l16 (fun _ _ _ _ _ _ _ _ _ _ _ _ _ _ => none)) := by
  intro vs es K r h
  unfold sl_play_Dfa_l16 at h
  split at h <;> exact no_some h

theorem lok_play_Dfa_l5 {R : Type} (kf : Nat) : ∀ n, SlOk (R := R) C_play_Dfa 8 80 0 5 (sl_play_Dfa_l5 (play_Dfa_l5 kf n)) := by
  intro n
  induction n with
  | zero =>
    intro vs es K r h
    unfold sl_play_Dfa_l5 at h
    split at h <;> exact no_some h
  | succ k ih =>
    have hcf : CfOk (R := R) Try.prog glob raw (cf_play_Dfa play_Made play_Picks_num (play_Dfa_l5 kf k) (fun _ _ _ _ _ _ _ _ _ _ _ _ => none) (fun _ _ _ _ _ _ _ _ _ _ _ _ _ _ => none)) := (cf_cons (shok_23 ok_play_Made) (cf_cons (shok_24 ok_play_Picks_num) cf_nil))
    have hlf : LfOk (R := R) C_play_Dfa 8 (lf_play_Dfa play_Made play_Picks_num (play_Dfa_l5 kf k) (fun _ _ _ _ _ _ _ _ _ _ _ _ => none) (fun _ _ _ _ _ _ _ _ _ _ _ _ _ _ => none)) := (lf_top (lf_cons ih (lf_cons (sln_play_Dfa_l12) (lf_cons (sln_play_Dfa_l16) lf_nil))))
    intro vs es K r h
    unfold sl_play_Dfa_l5 at h
    split at h
    · exact loop_good (text_mixed t_play_Dfa) hcf hlf (text_loop t_play_Dfa 5).1 (text_loop t_play_Dfa 5).2 ((eq_play_Dfa_l5 play_Made play_Picks_num (play_Dfa_l5 kf k) (fun _ _ _ _ _ _ _ _ _ _ _ _ => none) (fun _ _ _ _ _ _ _ _ _ _ _ _ _ _ => none) _ _ _ _ _ _ _ _ _ _ _ K).trans h)
    · exact no_some h

theorem lok_play_Dfa_l16 {R : Type} (kf : Nat) : ∀ n, SlOk (R := R) C_play_Dfa 8 80 0 16 (sl_play_Dfa_l16 (play_Dfa_l16 kf n)) := by
  intro n
  induction n with
  | zero =>
    intro vs es K r h
    unfold sl_play_Dfa_l16 at h
    split at h <;> exact no_some h
  | succ k ih =>
    have hcf : CfOk (R := R) Try.prog glob raw (cf_play_Dfa play_Made play_Picks_num (play_Dfa_l5 kf k) (fun _ _ _ _ _ _ _ _ _ _ _ _ => none) (play_Dfa_l16 kf k)) := (cf_cons (shok_23 ok_play_Made) (cf_cons (shok_24 ok_play_Picks_num) cf_nil))
    have hlf : LfOk (R := R) C_play_Dfa 8 (lf_play_Dfa play_Made play_Picks_num (play_Dfa_l5 kf k) (fun _ _ _ _ _ _ _ _ _ _ _ _ => none) (play_Dfa_l16 kf k)) := (lf_top (lf_cons (lok_play_Dfa_l5 kf k) (lf_cons (sln_play_Dfa_l12) (lf_cons ih lf_nil))))
    intro vs es K r h
    unfold sl_play_Dfa_l16 at h
    split at h
    · exact loop_good (text_mixed t_play_Dfa) hcf hlf (text_loop t_play_Dfa 16).1 (text_loop t_play_Dfa 16).2 ((eq_play_Dfa_l16 play_Made play_Picks_num (play_Dfa_l5 kf k) (fun _ _ _ _ _ _ _ _ _ _ _ _ => none) (play_Dfa_l16 kf k) _ _ _ _ _ _ _ _ _ _ _ _ _ K).trans h)
    · exact no_some h

theorem lok_play_Dfa_l12 {R : Type} (kf : Nat) : ∀ n, SlOk (R := R) C_play_Dfa 8 80 0 12 (sl_play_Dfa_l12 (play_Dfa_l12 kf n)) := by
  intro n
  induction n with
  | zero =>
    intro vs es K r h
    unfold sl_play_Dfa_l12 at h
    split at h <;> exact no_some h
  | succ k ih =>
    have hcf : CfOk (R := R) Try.prog glob raw (cf_play_Dfa play_Made play_Picks_num (play_Dfa_l5 kf k) (play_Dfa_l12 kf k) (play_Dfa_l16 kf k)) := (cf_cons (shok_23 ok_play_Made) (cf_cons (shok_24 ok_play_Picks_num) cf_nil))
    have hlf : LfOk (R := R) C_play_Dfa 8 (lf_play_Dfa play_Made play_Picks_num (play_Dfa_l5 kf k) (play_Dfa_l12 kf k) (play_Dfa_l16 kf k)) := (lf_top (lf_cons (lok_play_Dfa_l5 kf k) (lf_cons ih (lf_cons (lok_play_Dfa_l16 kf k) lf_nil))))
    intro vs es K r h
    unfold sl_play_Dfa_l12 at h
    split at h
    · exact loop_good (text_mixed t_play_Dfa) hcf hlf (text_loop t_play_Dfa 12).1 (text_loop t_play_Dfa 12).2 ((eq_play_Dfa_l12 play_Made play_Picks_num (play_Dfa_l5 kf k) (play_Dfa_l12 kf k) (play_Dfa_l16 kf k) _ _ _ _ _ _ _ _ _ _ _ K).trans h)
    · exact no_some h

theorem ok_play_Dfa {R : Type} (kf : Nat) : Ok_play_Dfa (R := R) (play_Dfa kf) := by
  have hcf : CfOk (R := R) Try.prog glob raw (cf_play_Dfa play_Made play_Picks_num (play_Dfa_l5 kf kf) (play_Dfa_l12 kf kf) (play_Dfa_l16 kf kf)) := (cf_cons (shok_23 ok_play_Made) (cf_cons (shok_24 ok_play_Picks_num) cf_nil))
  have hlf : LfOk (R := R) C_play_Dfa 8 (lf_play_Dfa play_Made play_Picks_num (play_Dfa_l5 kf kf) (play_Dfa_l12 kf kf) (play_Dfa_l16 kf kf)) := (lf_top (lf_cons (lok_play_Dfa_l5 kf kf) (lf_cons (lok_play_Dfa_l12 kf kf) (lf_cons (lok_play_Dfa_l16 kf kf) lf_nil))))
  intro v1 v2 v3 K r h
  exact run_good t_play_Dfa hcf hlf ((eq_play_Dfa play_Made play_Picks_num (play_Dfa_l5 kf kf) (play_Dfa_l12 kf kf) (play_Dfa_l16 kf kf) v1 v2 v3 K).trans h)

theorem t_ref11_Classes : textOk C_ref11_Classes.bef Try.prog 38 = true := by kernel_rfl

theorem sln_ref11_Classes_l3 {R : Type} : SlOk (R := R) C_ref11_Classes 38 18 0 3 (sl_ref11_Classes_l3 (fun _ _ _ _ => none)) := by
  intro vs es K r h
  unfold sl_ref11_Classes_l3 at h
  split at h <;> exact no_some h

theorem lok_ref11_Classes_l3 {R : Type} (kf : Nat) : ∀ n, SlOk (R := R) C_ref11_Classes 38 18 0 3 (sl_ref11_Classes_l3 (ref11_Classes_l3 kf n)) := by
  intro n
  induction n with
  | zero =>
    intro vs es K r h
    unfold sl_ref11_Classes_l3 at h
    split at h <;> exact no_some h
  | succ k ih =>
    have hcf : CfOk (R := R) Try.prog glob raw (cf_ref11_Classes (ref11_Classes_l3 kf k)) := cf_nil
    have hlf : LfOk (R := R) C_ref11_Classes 38 (lf_ref11_Classes (ref11_Classes_l3 kf k)) := (lf_top (lf_cons ih lf_nil))
    intro vs es K r h
    unfold sl_ref11_Classes_l3 at h
    split at h
    · exact loop_good (text_mixed t_ref11_Classes) hcf hlf (text_loop t_ref11_Classes 3).1 (text_loop t_ref11_Classes 3).2 ((eq_ref11_Classes_l3 (ref11_Classes_l3 kf k) _ _ _ _ _ K).trans h)
    · exact no_some h

theorem ok_ref11_Classes {R : Type} (kf : Nat) : Ok_ref11_Classes (R := R) (ref11_Classes kf) := by
  have hcf : CfOk (R := R) Try.prog glob raw (cf_ref11_Classes (ref11_Classes_l3 kf kf)) := cf_nil
  have hlf : LfOk (R := R) C_ref11_Classes 38 (lf_ref11_Classes (ref11_Classes_l3 kf kf)) := (lf_top (lf_cons (lok_ref11_Classes_l3 kf kf) lf_nil))
  intro v1 v2 v3 K r h
  exact run_good t_ref11_Classes hcf hlf ((eq_ref11_Classes (ref11_Classes_l3 kf kf) v1 v2 v3 K).trans h)

theorem t_ref11_May : textOk C_ref11_May.bef Try.prog 29 = true := by kernel_rfl

theorem sln_ref11_May_l5 {R : Type} : SlOk (R := R) C_ref11_May 29 64 0 5 (sl_ref11_May_l5 (fun _ _ _ _ _ _ _ _ => none)) := by
  intro vs es K r h
  unfold sl_ref11_May_l5 at h
  split at h <;> exact no_some h

theorem sln_ref11_May_l10 {R : Type} : SlOk (R := R) C_ref11_May 29 64 0 10 (sl_ref11_May_l10 (fun _ _ _ _ _ _ _ _ _ => none)) := by
  intro vs es K r h
  unfold sl_ref11_May_l10 at h
  split at h <;> exact no_some h

theorem lok_ref11_May_l10 {R : Type} (kf : Nat) : ∀ n, SlOk (R := R) C_ref11_May 29 64 0 10 (sl_ref11_May_l10 (ref11_May_l10 kf n)) := by
  intro n
  induction n with
  | zero =>
    intro vs es K r h
    unfold sl_ref11_May_l10 at h
    split at h <;> exact no_some h
  | succ k ih =>
    have hcf : CfOk (R := R) Try.prog glob raw (cf_ref11_May (ref11_Classes kf) (fun _ _ _ _ _ _ _ _ => none) (ref11_May_l10 kf k)) := (cf_cons (shok_38 (ok_ref11_Classes kf)) cf_nil)
    have hlf : LfOk (R := R) C_ref11_May 29 (lf_ref11_May (ref11_Classes kf) (fun _ _ _ _ _ _ _ _ => none) (ref11_May_l10 kf k)) := (lf_top (lf_cons (sln_ref11_May_l5) (lf_cons ih lf_nil)))
    intro vs es K r h
    unfold sl_ref11_May_l10 at h
    split at h
    · exact loop_good (text_mixed t_ref11_May) hcf hlf (text_loop t_ref11_May 10).1 (text_loop t_ref11_May 10).2 ((eq_ref11_May_l10 (ref11_Classes kf) (fun _ _ _ _ _ _ _ _ => none) (ref11_May_l10 kf k) _ _ _ _ _ _ _ K).trans h)
    · exact no_some h

theorem lok_ref11_May_l5 {R : Type} (kf : Nat) : ∀ n, SlOk (R := R) C_ref11_May 29 64 0 5 (sl_ref11_May_l5 (ref11_May_l5 kf n)) := by
  intro n
  induction n with
  | zero =>
    intro vs es K r h
    unfold sl_ref11_May_l5 at h
    split at h <;> exact no_some h
  | succ k ih =>
    have hcf : CfOk (R := R) Try.prog glob raw (cf_ref11_May (ref11_Classes kf) (ref11_May_l5 kf k) (ref11_May_l10 kf k)) := (cf_cons (shok_38 (ok_ref11_Classes kf)) cf_nil)
    have hlf : LfOk (R := R) C_ref11_May 29 (lf_ref11_May (ref11_Classes kf) (ref11_May_l5 kf k) (ref11_May_l10 kf k)) := (lf_top (lf_cons ih (lf_cons (lok_ref11_May_l10 kf k) lf_nil)))
    intro vs es K r h
    unfold sl_ref11_May_l5 at h
    split at h
    · exact loop_good (text_mixed t_ref11_May) hcf hlf (text_loop t_ref11_May 5).1 (text_loop t_ref11_May 5).2 ((eq_ref11_May_l5 (ref11_Classes kf) (ref11_May_l5 kf k) (ref11_May_l10 kf k) _ _ _ _ _ _ K).trans h)
    · exact no_some h

theorem ok_ref11_May {R : Type} (kf : Nat) : Ok_ref11_May (R := R) (ref11_May kf) := by
  have hcf : CfOk (R := R) Try.prog glob raw (cf_ref11_May (ref11_Classes kf) (ref11_May_l5 kf kf) (ref11_May_l10 kf kf)) := (cf_cons (shok_38 (ok_ref11_Classes kf)) cf_nil)
  have hlf : LfOk (R := R) C_ref11_May 29 (lf_ref11_May (ref11_Classes kf) (ref11_May_l5 kf kf) (ref11_May_l10 kf kf)) := (lf_top (lf_cons (lok_ref11_May_l5 kf kf) (lf_cons (lok_ref11_May_l10 kf kf) lf_nil)))
  intro v1 v2 v3 K r h
  exact run_good t_ref11_May hcf hlf ((eq_ref11_May (ref11_Classes kf) (ref11_May_l5 kf kf) (ref11_May_l10 kf kf) v1 v2 v3 K).trans h)

theorem t_ref11_To : textOk C_ref11_To.bef Try.prog 28 = true := by kernel_rfl

theorem sln_ref11_To_l4 {R : Type} : SlOk (R := R) C_ref11_To 28 43 0 4 (sl_ref11_To_l4 (fun _ _ _ _ _ _ => none)) := by
  intro vs es K r h
  unfold sl_ref11_To_l4 at h
  split at h <;> exact no_some h

theorem lok_ref11_To_l4 {R : Type} (kf : Nat) : ∀ n, SlOk (R := R) C_ref11_To 28 43 0 4 (sl_ref11_To_l4 (ref11_To_l4 kf n)) := by
  intro n
  induction n with
  | zero =>
    intro vs es K r h
    unfold sl_ref11_To_l4 at h
    split at h <;> exact no_some h
  | succ k ih =>
    have hcf : CfOk (R := R) Try.prog glob raw (cf_ref11_To (ref11_May kf) (ref11_To_l4 kf k)) := (cf_cons (shok_29 (ok_ref11_May kf)) cf_nil)
    have hlf : LfOk (R := R) C_ref11_To 28 (lf_ref11_To (ref11_May kf) (ref11_To_l4 kf k)) := (lf_top (lf_cons ih lf_nil))
    intro vs es K r h
    unfold sl_ref11_To_l4 at h
    split at h
    · exact loop_good (text_mixed t_ref11_To) hcf hlf (text_loop t_ref11_To 4).1 (text_loop t_ref11_To 4).2 ((eq_ref11_To_l4 (ref11_May kf) (ref11_To_l4 kf k) _ _ _ _ _ _ K).trans h)
    · exact no_some h

theorem ok_ref11_To {R : Type} (kf : Nat) : Ok_ref11_To (R := R) (ref11_To kf) := by
  have hcf : CfOk (R := R) Try.prog glob raw (cf_ref11_To (ref11_May kf) (ref11_To_l4 kf kf)) := (cf_cons (shok_29 (ok_ref11_May kf)) cf_nil)
  have hlf : LfOk (R := R) C_ref11_To 28 (lf_ref11_To (ref11_May kf) (ref11_To_l4 kf kf)) := (lf_top (lf_cons (lok_ref11_To_l4 kf kf) lf_nil))
  intro v1 v2 v3 v4 v5 K r h
  exact run_good t_ref11_To hcf hlf ((eq_ref11_To (ref11_May kf) (ref11_To_l4 kf kf) v1 v2 v3 v4 v5 K).trans h)

theorem t_ref11_Run : textOk C_ref11_Run.bef Try.prog 11 = true := by kernel_rfl

theorem ok_ref11_Run {R : Type} (kf : Nat) : Ok_ref11_Run (R := R) (ref11_Run kf) := by
  have hcf : CfOk (R := R) Try.prog glob raw (cf_ref11_Run (ref11_To kf)) := (cf_cons (shok_28 (ok_ref11_To kf)) cf_nil)
  have hlf : LfOk (R := R) C_ref11_Run 11 (lf_ref11_Run (ref11_To kf)) := lf_none
  intro v1 v2 v3 v4 K r h
  exact run_good t_ref11_Run hcf hlf ((eq_ref11_Run (ref11_To kf) v1 v2 v3 v4 K).trans h)

theorem t_ref11_Reach : textOk C_ref11_Reach.bef Try.prog 15 = true := by kernel_rfl

theorem sln_ref11_Reach_l6 {R : Type} : SlOk (R := R) C_ref11_Reach 15 65 0 6 (sl_ref11_Reach_l6 (fun _ _ _ _ _ _ => none)) := by
  intro vs es K r h
  unfold sl_ref11_Reach_l6 at h
  split at h <;> exact no_some h

theorem sln_ref11_Reach_l9 {R : Type} : SlOk (R := R) C_ref11_Reach 15 65 0 9 (sl_ref11_Reach_l9 (fun _ _ _ _ _ _ _ => none)) := by
  intro vs es K r h
  unfold sl_ref11_Reach_l9 at h
  split at h <;> exact no_some h

theorem sln_ref11_Reach_l12 {R : Type} : SlOk (R := R) C_ref11_Reach 15 65 0 12 (sl_ref11_Reach_l12 (fun _ _ _ _ _ _ _ _ => none)) := by
  intro vs es K r h
  unfold sl_ref11_Reach_l12 at h
  split at h <;> exact no_some h

theorem lok_ref11_Reach_l12 {R : Type} (kf : Nat) : ∀ n, SlOk (R := R) C_ref11_Reach 15 65 0 12 (sl_ref11_Reach_l12 (ref11_Reach_l12 kf n)) := by
  intro n
  induction n with
  | zero =>
    intro vs es K r h
    unfold sl_ref11_Reach_l12 at h
    split at h <;> exact no_some h
  | succ k ih =>
    have hcf : CfOk (R := R) Try.prog glob raw (cf_ref11_Reach (ref11_May kf) (fun _ _ _ _ _ _ => none) (fun _ _ _ _ _ _ _ => none) (ref11_Reach_l12 kf k)) := (cf_cons (shok_29 (ok_ref11_May kf)) cf_nil)
    have hlf : LfOk (R := R) C_ref11_Reach 15 (lf_ref11_Reach (ref11_May kf) (fun _ _ _ _ _ _ => none) (fun _ _ _ _ _ _ _ => none) (ref11_Reach_l12 kf k)) := (lf_top (lf_cons (sln_ref11_Reach_l6) (lf_cons (sln_ref11_Reach_l9) (lf_cons ih lf_nil))))
    intro vs es K r h
    unfold sl_ref11_Reach_l12 at h
    split at h
    · exact loop_good (text_mixed t_ref11_Reach) hcf hlf (text_loop t_ref11_Reach 12).1 (text_loop t_ref11_Reach 12).2 ((eq_ref11_Reach_l12 (ref11_May kf) (fun _ _ _ _ _ _ => none) (fun _ _ _ _ _ _ _ => none) (ref11_Reach_l12 kf k) _ _ _ _ _ _ _ K).trans h)
    · exact no_some h

theorem lok_ref11_Reach_l9 {R : Type} (kf : Nat) : ∀ n, SlOk (R := R) C_ref11_Reach 15 65 0 9 (sl_ref11_Reach_l9 (ref11_Reach_l9 kf n)) := by
  intro n
  induction n with
  | zero =>
    intro vs es K r h
    unfold sl_ref11_Reach_l9 at h
    split at h <;> exact no_some h
  | succ k ih =>
    have hcf : CfOk (R := R) Try.prog glob raw (cf_ref11_Reach (ref11_May kf) (fun _ _ _ _ _ _ => none) (ref11_Reach_l9 kf k) (ref11_Reach_l12 kf k)) := (cf_cons (shok_29 (ok_ref11_May kf)) cf_nil)
    have hlf : LfOk (R := R) C_ref11_Reach 15 (lf_ref11_Reach (ref11_May kf) (fun _ _ _ _ _ _ => none) (ref11_Reach_l9 kf k) (ref11_Reach_l12 kf k)) := (lf_top (lf_cons (sln_ref11_Reach_l6) (lf_cons ih (lf_cons (lok_ref11_Reach_l12 kf k) lf_nil))))
    intro vs es K r h
    unfold sl_ref11_Reach_l9 at h
    split at h
    · exact loop_good (text_mixed t_ref11_Reach) hcf hlf (text_loop t_ref11_Reach 9).1 (text_loop t_ref11_Reach 9).2 ((eq_ref11_Reach_l9 (ref11_May kf) (fun _ _ _ _ _ _ => none) (ref11_Reach_l9 kf k) (ref11_Reach_l12 kf k) _ _ _ _ _ _ K).trans h)
    · exact no_some h

theorem lok_ref11_Reach_l6 {R : Type} (kf : Nat) : ∀ n, SlOk (R := R) C_ref11_Reach 15 65 0 6 (sl_ref11_Reach_l6 (ref11_Reach_l6 kf n)) := by
  intro n
  induction n with
  | zero =>
    intro vs es K r h
    unfold sl_ref11_Reach_l6 at h
    split at h <;> exact no_some h
  | succ k ih =>
    have hcf : CfOk (R := R) Try.prog glob raw (cf_ref11_Reach (ref11_May kf) (ref11_Reach_l6 kf k) (ref11_Reach_l9 kf k) (ref11_Reach_l12 kf k)) := (cf_cons (shok_29 (ok_ref11_May kf)) cf_nil)
    have hlf : LfOk (R := R) C_ref11_Reach 15 (lf_ref11_Reach (ref11_May kf) (ref11_Reach_l6 kf k) (ref11_Reach_l9 kf k) (ref11_Reach_l12 kf k)) := (lf_top (lf_cons ih (lf_cons (lok_ref11_Reach_l9 kf k) (lf_cons (lok_ref11_Reach_l12 kf k) lf_nil))))
    intro vs es K r h
    unfold sl_ref11_Reach_l6 at h
    split at h
    · exact loop_good (text_mixed t_ref11_Reach) hcf hlf (text_loop t_ref11_Reach 6).1 (text_loop t_ref11_Reach 6).2 ((eq_ref11_Reach_l6 (ref11_May kf) (ref11_Reach_l6 kf k) (ref11_Reach_l9 kf k) (ref11_Reach_l12 kf k) _ _ _ _ _ K).trans h)
    · exact no_some h

theorem ok_ref11_Reach {R : Type} (kf : Nat) : Ok_ref11_Reach (R := R) (ref11_Reach kf) := by
  have hcf : CfOk (R := R) Try.prog glob raw (cf_ref11_Reach (ref11_May kf) (ref11_Reach_l6 kf kf) (ref11_Reach_l9 kf kf) (ref11_Reach_l12 kf kf)) := (cf_cons (shok_29 (ok_ref11_May kf)) cf_nil)
  have hlf : LfOk (R := R) C_ref11_Reach 15 (lf_ref11_Reach (ref11_May kf) (ref11_Reach_l6 kf kf) (ref11_Reach_l9 kf kf) (ref11_Reach_l12 kf kf)) := (lf_top (lf_cons (lok_ref11_Reach_l6 kf kf) (lf_cons (lok_ref11_Reach_l9 kf kf) (lf_cons (lok_ref11_Reach_l12 kf kf) lf_nil))))
  intro v1 v2 v3 K r h
  exact run_good t_ref11_Reach hcf hlf ((eq_ref11_Reach (ref11_May kf) (ref11_Reach_l6 kf kf) (ref11_Reach_l9 kf kf) (ref11_Reach_l12 kf kf) v1 v2 v3 K).trans h)

theorem t_law11_sameBools : textOk C_law11_sameBools.bef Try.prog 13 = true := by kernel_rfl

theorem sln_law11_sameBools_l4 {R : Type} : SlOk (R := R) C_law11_sameBools 13 26 0 4 (sl_law11_sameBools_l4 (fun _ _ _ _ _ => none)) := by
  intro vs es K r h
  unfold sl_law11_sameBools_l4 at h
  split at h <;> exact no_some h

theorem lok_law11_sameBools_l4 {R : Type} (kf : Nat) : ∀ n, SlOk (R := R) C_law11_sameBools 13 26 0 4 (sl_law11_sameBools_l4 (law11_sameBools_l4 kf n)) := by
  intro n
  induction n with
  | zero =>
    intro vs es K r h
    unfold sl_law11_sameBools_l4 at h
    split at h <;> exact no_some h
  | succ k ih =>
    have hcf : CfOk (R := R) Try.prog glob raw (cf_law11_sameBools (law11_sameBools_l4 kf k)) := cf_nil
    have hlf : LfOk (R := R) C_law11_sameBools 13 (lf_law11_sameBools (law11_sameBools_l4 kf k)) := (lf_top (lf_cons ih lf_nil))
    intro vs es K r h
    unfold sl_law11_sameBools_l4 at h
    split at h
    · exact loop_good (text_mixed t_law11_sameBools) hcf hlf (text_loop t_law11_sameBools 4).1 (text_loop t_law11_sameBools 4).2 ((eq_law11_sameBools_l4 (law11_sameBools_l4 kf k) _ _ _ K).trans h)
    · exact no_some h

theorem ok_law11_sameBools {R : Type} (kf : Nat) : Ok_law11_sameBools (R := R) (law11_sameBools kf) := by
  have hcf : CfOk (R := R) Try.prog glob raw (cf_law11_sameBools (law11_sameBools_l4 kf kf)) := cf_nil
  have hlf : LfOk (R := R) C_law11_sameBools 13 (lf_law11_sameBools (law11_sameBools_l4 kf kf)) := (lf_top (lf_cons (lok_law11_sameBools_l4 kf kf) lf_nil))
  intro v1 v2 K r h
  exact run_good t_law11_sameBools hcf hlf ((eq_law11_sameBools (law11_sameBools_l4 kf kf) v1 v2 K).trans h)

theorem t_ref11_Live : textOk C_ref11_Live.bef Try.prog 17 = true := by kernel_rfl

theorem sln_ref11_Live_l5 {R : Type} : SlOk (R := R) C_ref11_Live 17 53 0 5 (sl_ref11_Live_l5 (fun _ _ _ _ _ _ => none)) := by
  intro vs es K r h
  unfold sl_ref11_Live_l5 at h
  split at h <;> exact no_some h

theorem sln_ref11_Live_l8 {R : Type} : SlOk (R := R) C_ref11_Live 17 53 0 8 (sl_ref11_Live_l8 (fun _ _ _ _ _ _ _ => none)) := by
  intro vs es K r h
  unfold sl_ref11_Live_l8 at h
  split at h <;> exact no_some h

theorem sln_ref11_Live_l11 {R : Type} : SlOk (R := R) C_ref11_Live 17 53 0 11 (sl_ref11_Live_l11 (fun _ _ _ _ _ _ _ _ => none)) := by
  intro vs es K r h
  unfold sl_ref11_Live_l11 at h
  split at h <;> exact no_some h

theorem lok_ref11_Live_l11 {R : Type} (kf : Nat) : ∀ n, SlOk (R := R) C_ref11_Live 17 53 0 11 (sl_ref11_Live_l11 (ref11_Live_l11 kf n)) := by
  intro n
  induction n with
  | zero =>
    intro vs es K r h
    unfold sl_ref11_Live_l11 at h
    split at h <;> exact no_some h
  | succ k ih =>
    have hcf : CfOk (R := R) Try.prog glob raw (cf_ref11_Live (ref11_May kf) (fun _ _ _ _ _ _ => none) (fun _ _ _ _ _ _ _ => none) (ref11_Live_l11 kf k)) := (cf_cons (shok_29 (ok_ref11_May kf)) cf_nil)
    have hlf : LfOk (R := R) C_ref11_Live 17 (lf_ref11_Live (ref11_May kf) (fun _ _ _ _ _ _ => none) (fun _ _ _ _ _ _ _ => none) (ref11_Live_l11 kf k)) := (lf_top (lf_cons (sln_ref11_Live_l5) (lf_cons (sln_ref11_Live_l8) (lf_cons ih lf_nil))))
    intro vs es K r h
    unfold sl_ref11_Live_l11 at h
    split at h
    · exact loop_good (text_mixed t_ref11_Live) hcf hlf (text_loop t_ref11_Live 11).1 (text_loop t_ref11_Live 11).2 ((eq_ref11_Live_l11 (ref11_May kf) (fun _ _ _ _ _ _ => none) (fun _ _ _ _ _ _ _ => none) (ref11_Live_l11 kf k) _ _ _ _ _ _ _ K).trans h)
    · exact no_some h

theorem lok_ref11_Live_l8 {R : Type} (kf : Nat) : ∀ n, SlOk (R := R) C_ref11_Live 17 53 0 8 (sl_ref11_Live_l8 (ref11_Live_l8 kf n)) := by
  intro n
  induction n with
  | zero =>
    intro vs es K r h
    unfold sl_ref11_Live_l8 at h
    split at h <;> exact no_some h
  | succ k ih =>
    have hcf : CfOk (R := R) Try.prog glob raw (cf_ref11_Live (ref11_May kf) (fun _ _ _ _ _ _ => none) (ref11_Live_l8 kf k) (ref11_Live_l11 kf k)) := (cf_cons (shok_29 (ok_ref11_May kf)) cf_nil)
    have hlf : LfOk (R := R) C_ref11_Live 17 (lf_ref11_Live (ref11_May kf) (fun _ _ _ _ _ _ => none) (ref11_Live_l8 kf k) (ref11_Live_l11 kf k)) := (lf_top (lf_cons (sln_ref11_Live_l5) (lf_cons ih (lf_cons (lok_ref11_Live_l11 kf k) lf_nil))))
    intro vs es K r h
    unfold sl_ref11_Live_l8 at h
    split at h
    · exact loop_good (text_mixed t_ref11_Live) hcf hlf (text_loop t_ref11_Live 8).1 (text_loop t_ref11_Live 8).2 ((eq_ref11_Live_l8 (ref11_May kf) (fun _ _ _ _ _ _ => none) (ref11_Live_l8 kf k) (ref11_Live_l11 kf k) _ _ _ _ _ _ K).trans h)
    · exact no_some h

theorem lok_ref11_Live_l5 {R : Type} (kf : Nat) : ∀ n, SlOk (R := R) C_ref11_Live 17 53 0 5 (sl_ref11_Live_l5 (ref11_Live_l5 kf n)) := by
  intro n
  induction n with
  | zero =>
    intro vs es K r h
    unfold sl_ref11_Live_l5 at h
    split at h <;> exact no_some h
  | succ k ih =>
    have hcf : CfOk (R := R) Try.prog glob raw (cf_ref11_Live (ref11_May kf) (ref11_Live_l5 kf k) (ref11_Live_l8 kf k) (ref11_Live_l11 kf k)) := (cf_cons (shok_29 (ok_ref11_May kf)) cf_nil)
    have hlf : LfOk (R := R) C_ref11_Live 17 (lf_ref11_Live (ref11_May kf) (ref11_Live_l5 kf k) (ref11_Live_l8 kf k) (ref11_Live_l11 kf k)) := (lf_top (lf_cons ih (lf_cons (lok_ref11_Live_l8 kf k) (lf_cons (lok_ref11_Live_l11 kf k) lf_nil))))
    intro vs es K r h
    unfold sl_ref11_Live_l5 at h
    split at h
    · exact loop_good (text_mixed t_ref11_Live) hcf hlf (text_loop t_ref11_Live 5).1 (text_loop t_ref11_Live 5).2 ((eq_ref11_Live_l5 (ref11_May kf) (ref11_Live_l5 kf k) (ref11_Live_l8 kf k) (ref11_Live_l11 kf k) _ _ _ _ _ K).trans h)
    · exact no_some h

theorem ok_ref11_Live {R : Type} (kf : Nat) : Ok_ref11_Live (R := R) (ref11_Live kf) := by
  have hcf : CfOk (R := R) Try.prog glob raw (cf_ref11_Live (ref11_May kf) (ref11_Live_l5 kf kf) (ref11_Live_l8 kf kf) (ref11_Live_l11 kf kf)) := (cf_cons (shok_29 (ok_ref11_May kf)) cf_nil)
  have hlf : LfOk (R := R) C_ref11_Live 17 (lf_ref11_Live (ref11_May kf) (ref11_Live_l5 kf kf) (ref11_Live_l8 kf kf) (ref11_Live_l11 kf kf)) := (lf_top (lf_cons (lok_ref11_Live_l5 kf kf) (lf_cons (lok_ref11_Live_l8 kf kf) (lf_cons (lok_ref11_Live_l11 kf kf) lf_nil))))
  intro v1 v2 v3 K r h
  exact run_good t_ref11_Live hcf hlf ((eq_ref11_Live (ref11_May kf) (ref11_Live_l5 kf kf) (ref11_Live_l8 kf kf) (ref11_Live_l11 kf kf) v1 v2 v3 K).trans h)

theorem t_law11_MachineMade : textOk C_law11_MachineMade.bef Try.prog 3 = true := by kernel_rfl

theorem ok_law11_MachineMade {R : Type} (kf : Nat) : Ok_law11_MachineMade (R := R) (law11_MachineMade kf) := by
  have hcf : CfOk (R := R) Try.prog glob raw (cf_law11_MachineMade (law11_begun kf) (play_Dfa kf) (machine_May kf) (machine_Run kf) (ref11_Run kf) (machine_Flip kf) (machine_Reach kf) (ref11_Reach kf) (law11_sameBools kf) (machine_Live kf) (ref11_Live kf)) := (cf_cons (shok_7 (ok_law11_begun kf)) (cf_cons (shok_8 (ok_play_Dfa kf)) (cf_cons (shok_9 (ok_machine_May kf)) (cf_cons (shok_10 (ok_machine_Run kf)) (cf_cons (shok_11 (ok_ref11_Run kf)) (cf_cons (shok_12 (ok_machine_Flip kf)) (cf_cons (shok_14 (ok_machine_Reach kf)) (cf_cons (shok_15 (ok_ref11_Reach kf)) (cf_cons (shok_13 (ok_law11_sameBools kf)) (cf_cons (shok_16 (ok_machine_Live kf)) (cf_cons (shok_17 (ok_ref11_Live kf)) cf_nil)))))))))))
  have hlf : LfOk (R := R) C_law11_MachineMade 3 (lf_law11_MachineMade (law11_begun kf) (play_Dfa kf) (machine_May kf) (machine_Run kf) (ref11_Run kf) (machine_Flip kf) (machine_Reach kf) (ref11_Reach kf) (law11_sameBools kf) (machine_Live kf) (ref11_Live kf)) := lf_none
  intro v1 v2 v3 v4 K r h
  exact run_good t_law11_MachineMade hcf hlf ((eq_law11_MachineMade (law11_begun kf) (play_Dfa kf) (machine_May kf) (machine_Run kf) (ref11_Run kf) (machine_Flip kf) (machine_Reach kf) (ref11_Reach kf) (law11_sameBools kf) (machine_Live kf) (ref11_Live kf) v1 v2 v3 v4 K).trans h)

theorem t_law11_MachineGoes : textOk C_law11_MachineGoes.bef Try.prog 4 = true := by kernel_rfl

theorem ok_law11_MachineGoes {R : Type} (kf : Nat) : Ok_law11_MachineGoes (R := R) (law11_MachineGoes kf) := by
  have hcf : CfOk (R := R) Try.prog glob raw (cf_law11_MachineGoes (law11_begun kf) (play_Dfa kf) (machine_Reach kf) (machine_Live kf) (machine_To kf)) := (cf_cons (shok_7 (ok_law11_begun kf)) (cf_cons (shok_8 (ok_play_Dfa kf)) (cf_cons (shok_14 (ok_machine_Reach kf)) (cf_cons (shok_16 (ok_machine_Live kf)) (cf_cons (shok_18 (ok_machine_To kf)) cf_nil)))))
  have hlf : LfOk (R := R) C_law11_MachineGoes 4 (lf_law11_MachineGoes (law11_begun kf) (play_Dfa kf) (machine_Reach kf) (machine_Live kf) (machine_To kf)) := lf_none
  intro v1 v2 v3 v4 v5 v6 K r h
  exact run_good t_law11_MachineGoes hcf hlf ((eq_law11_MachineGoes (law11_begun kf) (play_Dfa kf) (machine_Reach kf) (machine_Live kf) (machine_To kf) v1 v2 v3 v4 v5 v6 K).trans h)

theorem t_law11_MachineFlips : textOk C_law11_MachineFlips.bef Try.prog 5 = true := by kernel_rfl

theorem sln_law11_MachineFlips_l11 {R : Type} : SlOk (R := R) C_law11_MachineFlips 5 82 0 11 (sl_law11_MachineFlips_l11 (fun _ _ _ _ _ _ _ _ _ _ _ => none)) := by
  intro vs es K r h
  unfold sl_law11_MachineFlips_l11 at h
  split at h <;> exact no_some h

theorem lok_law11_MachineFlips_l11 {R : Type} (kf : Nat) : ∀ n, SlOk (R := R) C_law11_MachineFlips 5 82 0 11 (sl_law11_MachineFlips_l11 (law11_MachineFlips_l11 kf n)) := by
  intro n
  induction n with
  | zero =>
    intro vs es K r h
    unfold sl_law11_MachineFlips_l11 at h
    split at h <;> exact no_some h
  | succ k ih =>
    have hcf : CfOk (R := R) Try.prog glob raw (cf_law11_MachineFlips (law11_begun kf) (play_Dfa kf) (machine_Flip kf) (machine_Live kf) (machine_Same kf) (machine_Classes kf) (machine_Reach kf) (law11_sameBools kf) (law11_MachineFlips_l11 kf k)) := (cf_cons (shok_7 (ok_law11_begun kf)) (cf_cons (shok_8 (ok_play_Dfa kf)) (cf_cons (shok_12 (ok_machine_Flip kf)) (cf_cons (shok_16 (ok_machine_Live kf)) (cf_cons (shok_19 (ok_machine_Same kf)) (cf_cons (shok_20 (ok_machine_Classes kf)) (cf_cons (shok_14 (ok_machine_Reach kf)) (cf_cons (shok_13 (ok_law11_sameBools kf)) cf_nil))))))))
    have hlf : LfOk (R := R) C_law11_MachineFlips 5 (lf_law11_MachineFlips (law11_begun kf) (play_Dfa kf) (machine_Flip kf) (machine_Live kf) (machine_Same kf) (machine_Classes kf) (machine_Reach kf) (law11_sameBools kf) (law11_MachineFlips_l11 kf k)) := (lf_top (lf_cons ih lf_nil))
    intro vs es K r h
    unfold sl_law11_MachineFlips_l11 at h
    split at h
    · exact loop_good (text_mixed t_law11_MachineFlips) hcf hlf (text_loop t_law11_MachineFlips 11).1 (text_loop t_law11_MachineFlips 11).2 ((eq_law11_MachineFlips_l11 (law11_begun kf) (play_Dfa kf) (machine_Flip kf) (machine_Live kf) (machine_Same kf) (machine_Classes kf) (machine_Reach kf) (law11_sameBools kf) (law11_MachineFlips_l11 kf k) _ _ _ _ _ _ _ _ _ K).trans h)
    · exact no_some h

theorem ok_law11_MachineFlips {R : Type} (kf : Nat) : Ok_law11_MachineFlips (R := R) (law11_MachineFlips kf) := by
  have hcf : CfOk (R := R) Try.prog glob raw (cf_law11_MachineFlips (law11_begun kf) (play_Dfa kf) (machine_Flip kf) (machine_Live kf) (machine_Same kf) (machine_Classes kf) (machine_Reach kf) (law11_sameBools kf) (law11_MachineFlips_l11 kf kf)) := (cf_cons (shok_7 (ok_law11_begun kf)) (cf_cons (shok_8 (ok_play_Dfa kf)) (cf_cons (shok_12 (ok_machine_Flip kf)) (cf_cons (shok_16 (ok_machine_Live kf)) (cf_cons (shok_19 (ok_machine_Same kf)) (cf_cons (shok_20 (ok_machine_Classes kf)) (cf_cons (shok_14 (ok_machine_Reach kf)) (cf_cons (shok_13 (ok_law11_sameBools kf)) cf_nil))))))))
  have hlf : LfOk (R := R) C_law11_MachineFlips 5 (lf_law11_MachineFlips (law11_begun kf) (play_Dfa kf) (machine_Flip kf) (machine_Live kf) (machine_Same kf) (machine_Classes kf) (machine_Reach kf) (law11_sameBools kf) (law11_MachineFlips_l11 kf kf)) := (lf_top (lf_cons (lok_law11_MachineFlips_l11 kf kf) lf_nil))
  intro v1 v2 v3 K r h
  exact run_good t_law11_MachineFlips hcf hlf ((eq_law11_MachineFlips (law11_begun kf) (play_Dfa kf) (machine_Flip kf) (machine_Live kf) (machine_Same kf) (machine_Classes kf) (machine_Reach kf) (law11_sameBools kf) (law11_MachineFlips_l11 kf kf) v1 v2 v3 K).trans h)

end
end Go.Ab.T
