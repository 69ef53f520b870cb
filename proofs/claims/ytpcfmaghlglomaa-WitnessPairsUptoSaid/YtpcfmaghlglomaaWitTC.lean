/- WitTC: a part of the proofs of this seat's statements. -/
import Derived.Test.YtpcfmaghlglomaaWitTB
import Derived.Test.YtpcfmaghlglomaaKnot
import Derived.Test.YtpcfmaghlglomaaWitTD



namespace Go.Ab.T

open Go Go.Ab Go.Proofs

set_option maxRecDepth 100000

set_option linter.unusedVariables false

noncomputable section

def Ok_law14_WitnessLeast {R : Type} (c : Int → Int → (List Int) → (Bool → Option R) → Option R) : Prop := ∀ (v1 : Int) (v2 : Int) (v3 : (List Int)) (K : S → List Ent → Option R) (r : R), c v1 v2 v3 (fun (r0 : Bool) => K (.bool r0) []) = some r → ∃ v es, FnOk Try.prog glob 4 (npF raw 4 []) [.int .u8 v1, .int .u8 v2, .sl (.int .u8) v3] [] v es ∧ K v es = some r

theorem okn_law14_WitnessLeast {R : Type} : Ok_law14_WitnessLeast (R := R) (fun _ _ _ _ => none) := fun _ _ _ _ _ h => no_some h

theorem shok_4 {R : Type} {c_law14_WitnessLeast : Int → Int → (List Int) → (Bool → Option R) → Option R} (h_law14_WitnessLeast : Ok_law14_WitnessLeast c_law14_WitnessLeast) : ShOk Try.prog glob raw 4 (sh4 c_law14_WitnessLeast) := by
  intro av es K r h
  unfold sh4 at h
  split at h
  · exact h_law14_WitnessLeast _ _ _ _ _ h
  · exact no_some h

def Ok_law14_WitnessWords {R : Type} (c : Int → Int → (List Int) → Int → (Bool → Option R) → Option R) : Prop := ∀ (v1 : Int) (v2 : Int) (v3 : (List Int)) (v4 : Int) (K : S → List Ent → Option R) (r : R), c v1 v2 v3 v4 (fun (r0 : Bool) => K (.bool r0) []) = some r → ∃ v es, FnOk Try.prog glob 5 (npF raw 5 []) [.int .u8 v1, .int .u8 v2, .sl (.int .u8) v3, .int .u8 v4] [] v es ∧ K v es = some r

theorem okn_law14_WitnessWords {R : Type} : Ok_law14_WitnessWords (R := R) (fun _ _ _ _ _ => none) := fun _ _ _ _ _ _ h => no_some h

theorem shok_5 {R : Type} {c_law14_WitnessWords : Int → Int → (List Int) → Int → (Bool → Option R) → Option R} (h_law14_WitnessWords : Ok_law14_WitnessWords c_law14_WitnessWords) : ShOk Try.prog glob raw 5 (sh5 c_law14_WitnessWords) := by
  intro av es K r h
  unfold sh5 at h
  split at h
  · exact h_law14_WitnessWords _ _ _ _ _ _ h
  · exact no_some h

def Ok_law14_WitnessFlip {R : Type} (c : Int → Int → (List Int) → Int → (Bool → Option R) → Option R) : Prop := ∀ (v1 : Int) (v2 : Int) (v3 : (List Int)) (v4 : Int) (K : S → List Ent → Option R) (r : R), c v1 v2 v3 v4 (fun (r0 : Bool) => K (.bool r0) []) = some r → ∃ v es, FnOk Try.prog glob 6 (npF raw 6 []) [.int .u8 v1, .int .u8 v2, .sl (.int .u8) v3, .int .u8 v4] [] v es ∧ K v es = some r

theorem okn_law14_WitnessFlip {R : Type} : Ok_law14_WitnessFlip (R := R) (fun _ _ _ _ _ => none) := fun _ _ _ _ _ _ h => no_some h

theorem shok_6 {R : Type} {c_law14_WitnessFlip : Int → Int → (List Int) → Int → (Bool → Option R) → Option R} (h_law14_WitnessFlip : Ok_law14_WitnessFlip c_law14_WitnessFlip) : ShOk Try.prog glob raw 6 (sh6 c_law14_WitnessFlip) := by
  intro av es K r h
  unfold sh6 at h
  split at h
  · exact h_law14_WitnessFlip _ _ _ _ _ _ h
  · exact no_some h

def Ok_law14_WitnessPairs {R : Type} (c : Int → Int → (List Int) → Int → Int → (List Int) → Int → (Bool → Option R) → Option R) : Prop := ∀ (v1 : Int) (v2 : Int) (v3 : (List Int)) (v4 : Int) (v5 : Int) (v6 : (List Int)) (v7 : Int) (K : S → List Ent → Option R) (r : R), c v1 v2 v3 v4 v5 v6 v7 (fun (r0 : Bool) => K (.bool r0) []) = some r → ∃ v es, FnOk Try.prog glob 7 (npF raw 7 []) [.int .u8 v1, .int .u8 v2, .sl (.int .u8) v3, .int .u8 v4, .int .u8 v5, .sl (.int .u8) v6, .int .u8 v7] [] v es ∧ K v es = some r

theorem okn_law14_WitnessPairs {R : Type} : Ok_law14_WitnessPairs (R := R) (fun _ _ _ _ _ _ _ _ => none) := fun _ _ _ _ _ _ _ _ _ h => no_some h

theorem shok_7 {R : Type} {c_law14_WitnessPairs : Int → Int → (List Int) → Int → Int → (List Int) → Int → (Bool → Option R) → Option R} (h_law14_WitnessPairs : Ok_law14_WitnessPairs c_law14_WitnessPairs) : ShOk Try.prog glob raw 7 (sh7 c_law14_WitnessPairs) := by
  intro av es K r h
  unfold sh7 at h
  split at h
  · exact h_law14_WitnessPairs _ _ _ _ _ _ _ _ _ h
  · exact no_some h

def Ok_law14_WitnessFirst {R : Type} (c : Int → Int → (List Int) → Int → Int → (Bool → Option R) → Option R) : Prop := ∀ (v1 : Int) (v2 : Int) (v3 : (List Int)) (v4 : Int) (v5 : Int) (K : S → List Ent → Option R) (r : R), c v1 v2 v3 v4 v5 (fun (r0 : Bool) => K (.bool r0) []) = some r → ∃ v es, FnOk Try.prog glob 8 (npF raw 8 []) [.int .u8 v1, .int .u8 v2, .sl (.int .u8) v3, .int .u8 v4, .int .u8 v5] [] v es ∧ K v es = some r

theorem okn_law14_WitnessFirst {R : Type} : Ok_law14_WitnessFirst (R := R) (fun _ _ _ _ _ _ => none) := fun _ _ _ _ _ _ _ h => no_some h

theorem shok_8 {R : Type} {c_law14_WitnessFirst : Int → Int → (List Int) → Int → Int → (Bool → Option R) → Option R} (h_law14_WitnessFirst : Ok_law14_WitnessFirst c_law14_WitnessFirst) : ShOk Try.prog glob raw 8 (sh8 c_law14_WitnessFirst) := by
  intro av es K r h
  unfold sh8 at h
  split at h
  · exact h_law14_WitnessFirst _ _ _ _ _ _ _ h
  · exact no_some h

def Ok_law14_begun {R : Type} (c : (Bool → Option R) → Option R) : Prop := ∀ (K : S → List Ent → Option R) (r : R), c (fun (r0 : Bool) => K (.bool r0) []) = some r → ∃ v es, FnOk Try.prog glob 9 (npF raw 9 []) [] [] v es ∧ K v es = some r

theorem okn_law14_begun {R : Type} : Ok_law14_begun (R := R) (fun _ => none) := fun _ _ h => no_some h

theorem shok_9 {R : Type} {c_law14_begun : (Bool → Option R) → Option R} (h_law14_begun : Ok_law14_begun c_law14_begun) : ShOk Try.prog glob raw 9 (sh9 c_law14_begun) := by
  intro av es K r h
  unfold sh9 at h
  split at h
  · exact h_law14_begun _ _ h
  · exact no_some h

def Ok_play_Dfa {R : Type} (c : Int → Int → (List Int) → ((List Int) → (List (List Int)) → (List Bool) → Option R) → Option R) : Prop := ∀ (v1 : Int) (v2 : Int) (v3 : (List Int)) (K : S → List Ent → Option R) (r : R), c v1 v2 v3 (fun (r0 : (List Int)) (r1 : (List (List Int))) (r2 : (List Bool)) => K (.st [.arr 256 (.int .u8) r0, .own (.slice (.int .i64)) 0, .own .bool 1]) [.buf (.slice (.int .i64)) r1 false, .buf .bool r2 false]) = some r → ∃ v es, FnOk Try.prog glob 10 (npF raw 10 []) [.int .u8 v1, .int .u8 v2, .sl (.int .u8) v3] [] v es ∧ K v es = some r

theorem okn_play_Dfa {R : Type} : Ok_play_Dfa (R := R) (fun _ _ _ _ => none) := fun _ _ _ _ _ h => no_some h

theorem shok_10 {R : Type} {c_play_Dfa : Int → Int → (List Int) → ((List Int) → (List (List Int)) → (List Bool) → Option R) → Option R} (h_play_Dfa : Ok_play_Dfa c_play_Dfa) : ShOk Try.prog glob raw 10 (sh10 c_play_Dfa) := by
  intro av es K r h
  unfold sh10 at h
  split at h
  · exact h_play_Dfa _ _ _ _ _ h
  · exact no_some h

def Ok_witness_Shortest {R : Type} (c : (List Int) → (List (List Int)) → (List Bool) → (Bool → (List Int) → Option R) → Option R) : Prop := ∀ (v1 : (List Int)) (v2 : (List (List Int))) (v3 : (List Bool)) (K : S → List Ent → Option R) (r : R), c v1 v2 v3 (fun (r0 : Bool) (r1 : (List Int)) => K (.tup [.own (.int .u8) 0, .bool r0]) [.buf (.int .u8) r1 false]) = some r → ∃ v es, FnOk Try.prog glob 11 (npF raw 11 []) [.st [.arr 256 (.int .u8) v1, .sl (.slice (.int .i64)) v2, .sl .bool v3]] [] v es ∧ K v es = some r

theorem okn_witness_Shortest {R : Type} : Ok_witness_Shortest (R := R) (fun _ _ _ _ => none) := fun _ _ _ _ _ h => no_some h

theorem shok_11 {R : Type} {c_witness_Shortest : (List Int) → (List (List Int)) → (List Bool) → (Bool → (List Int) → Option R) → Option R} (h_witness_Shortest : Ok_witness_Shortest c_witness_Shortest) : ShOk Try.prog glob raw 11 (sh11 c_witness_Shortest) := by
  intro av es K r h
  unfold sh11 at h
  split at h
  · exact h_witness_Shortest _ _ _ _ _ h
  · exact no_some h

def Ok_witness_Count {R : Type} (c : (List Int) → (List (List Int)) → (List Bool) → Int → (Int → Option R) → Option R) : Prop := ∀ (v1 : (List Int)) (v2 : (List (List Int))) (v3 : (List Bool)) (v4 : Int) (K : S → List Ent → Option R) (r : R), c v1 v2 v3 v4 (fun (r0 : Int) => K (.int .u64 r0) []) = some r → ∃ v es, FnOk Try.prog glob 13 (npF raw 13 []) [.st [.arr 256 (.int .u8) v1, .sl (.slice (.int .i64)) v2, .sl .bool v3], .int .i64 v4] [] v es ∧ K v es = some r

theorem okn_witness_Count {R : Type} : Ok_witness_Count (R := R) (fun _ _ _ _ _ => none) := fun _ _ _ _ _ _ h => no_some h

theorem shok_13 {R : Type} {c_witness_Count : (List Int) → (List (List Int)) → (List Bool) → Int → (Int → Option R) → Option R} (h_witness_Count : Ok_witness_Count c_witness_Count) : ShOk Try.prog glob raw 13 (sh13 c_witness_Count) := by
  intro av es K r h
  unfold sh13 at h
  split at h
  · exact h_witness_Count _ _ _ _ _ _ h
  · exact no_some h

def Ok_witness_Words {R : Type} (c : (List Int) → (List (List Int)) → (List Bool) → Int → Int → ((List (List Int)) → Option R) → Option R) : Prop := ∀ (v1 : (List Int)) (v2 : (List (List Int))) (v3 : (List Bool)) (v4 : Int) (v5 : Int) (K : S → List Ent → Option R) (r : R), c v1 v2 v3 v4 v5 (fun (r0 : (List (List Int))) => K (.own (.slice (.int .u8)) 0) [.buf (.slice (.int .u8)) r0 false]) = some r → ∃ v es, FnOk Try.prog glob 16 (npF raw 16 []) [.st [.arr 256 (.int .u8) v1, .sl (.slice (.int .i64)) v2, .sl .bool v3], .int .i64 v4, .int .i64 v5] [] v es ∧ K v es = some r

theorem okn_witness_Words {R : Type} : Ok_witness_Words (R := R) (fun _ _ _ _ _ _ => none) := fun _ _ _ _ _ _ _ h => no_some h

theorem shok_16 {R : Type} {c_witness_Words : (List Int) → (List (List Int)) → (List Bool) → Int → Int → ((List (List Int)) → Option R) → Option R} (h_witness_Words : Ok_witness_Words c_witness_Words) : ShOk Try.prog glob raw 16 (sh16 c_witness_Words) := by
  intro av es K r h
  unfold sh16 at h
  split at h
  · exact h_witness_Words _ _ _ _ _ _ _ h
  · exact no_some h

def Ok_ref11_Live {R : Type} (c : (List Int) → (List (List Int)) → (List Bool) → ((List Bool) → Option R) → Option R) : Prop := ∀ (v1 : (List Int)) (v2 : (List (List Int))) (v3 : (List Bool)) (K : S → List Ent → Option R) (r : R), c v1 v2 v3 (fun (r0 : (List Bool)) => K (.own .bool 0) [.buf .bool r0 false]) = some r → ∃ v es, FnOk Try.prog glob 18 (npF raw 18 []) [.st [.arr 256 (.int .u8) v1, .sl (.slice (.int .i64)) v2, .sl .bool v3]] [] v es ∧ K v es = some r

theorem okn_ref11_Live {R : Type} : Ok_ref11_Live (R := R) (fun _ _ _ _ => none) := fun _ _ _ _ _ h => no_some h

theorem shok_18 {R : Type} {c_ref11_Live : (List Int) → (List (List Int)) → (List Bool) → ((List Bool) → Option R) → Option R} (h_ref11_Live : Ok_ref11_Live c_ref11_Live) : ShOk Try.prog glob raw 18 (sh18 c_ref11_Live) := by
  intro av es K r h
  unfold sh18 at h
  split at h
  · exact h_ref11_Live _ _ _ _ _ h
  · exact no_some h

def Ok_ref11_Run {R : Type} (c : (List Int) → (List (List Int)) → (List Bool) → (List Int) → (Bool → Option R) → Option R) : Prop := ∀ (v1 : (List Int)) (v2 : (List (List Int))) (v3 : (List Bool)) (v4 : (List Int)) (K : S → List Ent → Option R) (r : R), c v1 v2 v3 v4 (fun (r0 : Bool) => K (.bool r0) []) = some r → ∃ v es, FnOk Try.prog glob 19 (npF raw 19 []) [.st [.arr 256 (.int .u8) v1, .sl (.slice (.int .i64)) v2, .sl .bool v3], .sl (.int .u8) v4] [] v es ∧ K v es = some r

theorem okn_ref11_Run {R : Type} : Ok_ref11_Run (R := R) (fun _ _ _ _ _ => none) := fun _ _ _ _ _ _ h => no_some h

theorem shok_19 {R : Type} {c_ref11_Run : (List Int) → (List (List Int)) → (List Bool) → (List Int) → (Bool → Option R) → Option R} (h_ref11_Run : Ok_ref11_Run c_ref11_Run) : ShOk Try.prog glob raw 19 (sh19 c_ref11_Run) := by
  intro av es K r h
  unfold sh19 at h
  split at h
  · exact h_ref11_Run _ _ _ _ _ _ h
  · exact no_some h

def Ok_ref11_Flip {R : Type} (c : (List Int) → (List (List Int)) → (List Bool) → ((List Int) → (List (List Int)) → (List Bool) → Option R) → Option R) : Prop := ∀ (v1 : (List Int)) (v2 : (List (List Int))) (v3 : (List Bool)) (K : S → List Ent → Option R) (r : R), c v1 v2 v3 (fun (r0 : (List Int)) (r1 : (List (List Int))) (r2 : (List Bool)) => K (.st [.arr 256 (.int .u8) r0, .own (.slice (.int .i64)) 0, .own .bool 1]) [.buf (.slice (.int .i64)) r1 false, .buf .bool r2 false]) = some r → ∃ v es, FnOk Try.prog glob 20 (npF raw 20 []) [.st [.arr 256 (.int .u8) v1, .sl (.slice (.int .i64)) v2, .sl .bool v3]] [] v es ∧ K v es = some r

theorem okn_ref11_Flip {R : Type} : Ok_ref11_Flip (R := R) (fun _ _ _ _ => none) := fun _ _ _ _ _ h => no_some h

theorem shok_20 {R : Type} {c_ref11_Flip : (List Int) → (List (List Int)) → (List Bool) → ((List Int) → (List (List Int)) → (List Bool) → Option R) → Option R} (h_ref11_Flip : Ok_ref11_Flip c_ref11_Flip) : ShOk Try.prog glob raw 20 (sh20 c_ref11_Flip) := by
  intro av es K r h
  unfold sh20 at h
  split at h
  · exact h_ref11_Flip _ _ _ _ _ h
  · exact no_some h

def Ok_ref11_Product {R : Type} (c : (List Int) → (List (List Int)) → (List Bool) → (List Int) → (List (List Int)) → (List Bool) → Int → Int → ((List Int) → Int → (List (List Int)) → (List Bool) → Option R) → Option R) : Prop := ∀ (v1 : (List Int)) (v2 : (List (List Int))) (v3 : (List Bool)) (v4 : (List Int)) (v5 : (List (List Int))) (v6 : (List Bool)) (v7 : Int) (v8 : Int) (K : S → List Ent → Option R) (r : R), c v1 v2 v3 v4 v5 v6 v7 v8 (fun (r0 : (List Int)) (r1 : Int) (r2 : (List (List Int))) (r3 : (List Bool)) => K (.tup [.st [.arr 256 (.int .u8) r0, .own (.slice (.int .i64)) 0, .own .bool 1], .int .i64 r1]) [.buf (.slice (.int .i64)) r2 false, .buf .bool r3 false]) = some r → ∃ v es, FnOk Try.prog glob 21 (npF raw 21 []) [.st [.arr 256 (.int .u8) v1, .sl (.slice (.int .i64)) v2, .sl .bool v3], .st [.arr 256 (.int .u8) v4, .sl (.slice (.int .i64)) v5, .sl .bool v6], .int .i64 v7, .int .i64 v8] [] v es ∧ K v es = some r

theorem okn_ref11_Product {R : Type} : Ok_ref11_Product (R := R) (fun _ _ _ _ _ _ _ _ _ => none) := fun _ _ _ _ _ _ _ _ _ _ h => no_some h

theorem shok_21 {R : Type} {c_ref11_Product : (List Int) → (List (List Int)) → (List Bool) → (List Int) → (List (List Int)) → (List Bool) → Int → Int → ((List Int) → Int → (List (List Int)) → (List Bool) → Option R) → Option R} (h_ref11_Product : Ok_ref11_Product c_ref11_Product) : ShOk Try.prog glob raw 21 (sh21 c_ref11_Product) := by
  intro av es K r h
  unfold sh21 at h
  split at h
  · exact h_ref11_Product _ _ _ _ _ _ _ _ _ _ h
  · exact no_some h

def Ok_play_Made {R : Type} (c : (List Int) → ((List Int) → Int → Option R) → Option R) : Prop := ∀ (v1 : (List Int)) (K : S → List Ent → Option R) (r : R), c v1 (fun (r0 : (List Int)) (r1 : Int) => K (.ptr 0 []) [.box (.st [.sl (.int .u8) r0, .int .i64 r1]) false]) = some r → ∃ v es, FnOk Try.prog glob 22 (npF raw 22 []) [.sl (.int .u8) v1] [] v es ∧ K v es = some r

theorem okn_play_Made {R : Type} : Ok_play_Made (R := R) (fun _ _ => none) := fun _ _ _ h => no_some h

theorem shok_22 {R : Type} {c_play_Made : (List Int) → ((List Int) → Int → Option R) → Option R} (h_play_Made : Ok_play_Made c_play_Made) : ShOk Try.prog glob raw 22 (sh22 c_play_Made) := by
  intro av es K r h
  unfold sh22 at h
  split at h
  · exact h_play_Made _ _ _ h
  · exact no_some h

def Ok_play_Picks_num {R : Type} (c : Int → (List Int) → Int → (Int → (List Int) → Int → Option R) → Option R) : Prop := ∀ (v1 : Int) (v2 : (List Int)) (v3 : Int) (K : S → List Ent → Option R) (r : R), c v1 v2 v3 (fun (r0 : Int) (r1 : (List Int)) (r2 : Int) => K (.int .i64 r0) [.box (.st [.sl (.int .u8) r1, .int .i64 r2]) false]) = some r → ∃ v es, FnOk Try.prog glob 23 (npF raw 23 [.box (.st [.sl (.int .u8) v2, .int .i64 v3]) false]) [.ptr 0 [], .int .i64 v1] [.box (.st [.sl (.int .u8) v2, .int .i64 v3]) false] v es ∧ K v es = some r

theorem okn_play_Picks_num {R : Type} : Ok_play_Picks_num (R := R) (fun _ _ _ _ => none) := fun _ _ _ _ _ h => no_some h

theorem shok_23 {R : Type} {c_play_Picks_num : Int → (List Int) → Int → (Int → (List Int) → Int → Option R) → Option R} (h_play_Picks_num : Ok_play_Picks_num c_play_Picks_num) : ShOk Try.prog glob raw 23 (sh23 c_play_Picks_num) := by
  intro av es K r h
  unfold sh23 at h
  split at h
  · exact h_play_Picks_num _ _ _ _ _ h
  · exact no_some h

def Ok_machine_May {R : Type} (c : (List Int) → (List (List Int)) → (List Bool) → (Bool → Option R) → Option R) : Prop := ∀ (v1 : (List Int)) (v2 : (List (List Int))) (v3 : (List Bool)) (K : S → List Ent → Option R) (r : R), c v1 v2 v3 (fun (r0 : Bool) => K (.bool r0) []) = some r → ∃ v es, FnOk Try.prog glob 24 (npF raw 24 []) [.st [.arr 256 (.int .u8) v1, .sl (.slice (.int .i64)) v2, .sl .bool v3]] [] v es ∧ K v es = some r

theorem okn_machine_May {R : Type} : Ok_machine_May (R := R) (fun _ _ _ _ => none) := fun _ _ _ _ _ h => no_some h

theorem shok_24 {R : Type} {c_machine_May : (List Int) → (List (List Int)) → (List Bool) → (Bool → Option R) → Option R} (h_machine_May : Ok_machine_May c_machine_May) : ShOk Try.prog glob raw 24 (sh24 c_machine_May) := by
  intro av es K r h
  unfold sh24 at h
  split at h
  · exact h_machine_May _ _ _ _ _ h
  · exact no_some h

def Ok_witness_firsts {R : Type} (c : (List Int) → (List (List Int)) → (List Bool) → ((List Int) → Option R) → Option R) : Prop := ∀ (v1 : (List Int)) (v2 : (List (List Int))) (v3 : (List Bool)) (K : S → List Ent → Option R) (r : R), c v1 v2 v3 (fun (r0 : (List Int)) => K (.own (.int .u8) 0) [.buf (.int .u8) r0 false]) = some r → ∃ v es, FnOk Try.prog glob 25 (npF raw 25 []) [.st [.arr 256 (.int .u8) v1, .sl (.slice (.int .i64)) v2, .sl .bool v3]] [] v es ∧ K v es = some r

theorem okn_witness_firsts {R : Type} : Ok_witness_firsts (R := R) (fun _ _ _ _ => none) := fun _ _ _ _ _ h => no_some h

theorem shok_25 {R : Type} {c_witness_firsts : (List Int) → (List (List Int)) → (List Bool) → ((List Int) → Option R) → Option R} (h_witness_firsts : Ok_witness_firsts c_witness_firsts) : ShOk Try.prog glob raw 25 (sh25 c_witness_firsts) := by
  intro av es K r h
  unfold sh25 at h
  split at h
  · exact h_witness_firsts _ _ _ _ _ h
  · exact no_some h

def Ok_slices_Reverse_byte_byte {R : Type} (c : (List Int) → ((List Int) → Option R) → Option R) : Prop := ∀ (v1 : (List Int)) (K : S → List Ent → Option R) (r : R), c v1 (fun (r0 : (List Int)) => K (.tup []) [.buf (.int .u8) r0 false]) = some r → ∃ v es, FnOk Try.prog glob 26 (npF raw 26 [.buf (.int .u8) v1 false]) [.own (.int .u8) 0] [.buf (.int .u8) v1 false] v es ∧ K v es = some r

theorem okn_slices_Reverse_byte_byte {R : Type} : Ok_slices_Reverse_byte_byte (R := R) (fun _ _ => none) := fun _ _ _ h => no_some h

theorem shok_26 {R : Type} {c_slices_Reverse_byte_byte : (List Int) → ((List Int) → Option R) → Option R} (h_slices_Reverse_byte_byte : Ok_slices_Reverse_byte_byte c_slices_Reverse_byte_byte) : ShOk Try.prog glob raw 26 (sh26 c_slices_Reverse_byte_byte) := by
  intro av es K r h
  unfold sh26 at h
  split at h
  · exact h_slices_Reverse_byte_byte _ _ _ h
  · exact no_some h

def Ok_ref11_May {R : Type} (c : (List Int) → (List (List Int)) → (List Bool) → (Bool → Option R) → Option R) : Prop := ∀ (v1 : (List Int)) (v2 : (List (List Int))) (v3 : (List Bool)) (K : S → List Ent → Option R) (r : R), c v1 v2 v3 (fun (r0 : Bool) => K (.bool r0) []) = some r → ∃ v es, FnOk Try.prog glob 27 (npF raw 27 []) [.st [.arr 256 (.int .u8) v1, .sl (.slice (.int .i64)) v2, .sl .bool v3]] [] v es ∧ K v es = some r

theorem okn_ref11_May {R : Type} : Ok_ref11_May (R := R) (fun _ _ _ _ => none) := fun _ _ _ _ _ h => no_some h

theorem shok_27 {R : Type} {c_ref11_May : (List Int) → (List (List Int)) → (List Bool) → (Bool → Option R) → Option R} (h_ref11_May : Ok_ref11_May c_ref11_May) : ShOk Try.prog glob raw 27 (sh27 c_ref11_May) := by
  intro av es K r h
  unfold sh27 at h
  split at h
  · exact h_ref11_May _ _ _ _ _ h
  · exact no_some h

def Ok_ref11_Classes {R : Type} (c : (List Int) → (List (List Int)) → (List Bool) → (Int → Option R) → Option R) : Prop := ∀ (v1 : (List Int)) (v2 : (List (List Int))) (v3 : (List Bool)) (K : S → List Ent → Option R) (r : R), c v1 v2 v3 (fun (r0 : Int) => K (.int .i64 r0) []) = some r → ∃ v es, FnOk Try.prog glob 29 (npF raw 29 []) [.st [.arr 256 (.int .u8) v1, .sl (.slice (.int .i64)) v2, .sl .bool v3]] [] v es ∧ K v es = some r

theorem okn_ref11_Classes {R : Type} : Ok_ref11_Classes (R := R) (fun _ _ _ _ => none) := fun _ _ _ _ _ h => no_some h

theorem shok_29 {R : Type} {c_ref11_Classes : (List Int) → (List (List Int)) → (List Bool) → (Int → Option R) → Option R} (h_ref11_Classes : Ok_ref11_Classes c_ref11_Classes) : ShOk Try.prog glob raw 29 (sh29 c_ref11_Classes) := by
  intro av es K r h
  unfold sh29 at h
  split at h
  · exact h_ref11_Classes _ _ _ _ _ h
  · exact no_some h

def Ok_slices_ContainsFunc_int_int {R : Type} (c : (List Int) → Int → (Bool → Int → Option R) → Option R) : Prop := ∀ (v1 : (List Int)) (v2 : Int) (K : S → List Ent → Option R) (r : R), c v1 v2 (fun (r0 : Bool) (r1 : Int) => K (.bool r0) [.box (.int .i64 r1) false]) = some r → ∃ v es, FnOk Try.prog glob 30 (npF raw 30 [.box (.int .i64 v2) false]) [.sl (.int .i64) v1, .fn 37 [.ptr 0 []]] [.box (.int .i64 v2) false] v es ∧ K v es = some r

theorem okn_slices_ContainsFunc_int_int {R : Type} : Ok_slices_ContainsFunc_int_int (R := R) (fun _ _ _ => none) := fun _ _ _ _ h => no_some h

def Ok_slices_ContainsFunc_int_int_s1 {R : Type} (c : (List Int) → (List Bool) → (Bool → (List Bool) → Option R) → Option R) : Prop := ∀ (v1 : (List Int)) (v2 : (List Bool)) (K : S → List Ent → Option R) (r : R), c v1 v2 (fun (r0 : Bool) (r1 : (List Bool)) => K (.bool r0) [.box (.sl .bool r1) false]) = some r → ∃ v es, FnOk Try.prog glob 30 (npF raw 30 [.box (.sl .bool v2) false]) [.sl (.int .i64) v1, .fn 31 [.ptr 0 []]] [.box (.sl .bool v2) false] v es ∧ K v es = some r

theorem okn_slices_ContainsFunc_int_int_s1 {R : Type} : Ok_slices_ContainsFunc_int_int_s1 (R := R) (fun _ _ _ => none) := fun _ _ _ _ h => no_some h

theorem shok_30 {R : Type} {c_slices_ContainsFunc_int_int : (List Int) → Int → (Bool → Int → Option R) → Option R} {c_slices_ContainsFunc_int_int_s1 : (List Int) → (List Bool) → (Bool → (List Bool) → Option R) → Option R} (h_slices_ContainsFunc_int_int : Ok_slices_ContainsFunc_int_int c_slices_ContainsFunc_int_int) (h_slices_ContainsFunc_int_int_s1 : Ok_slices_ContainsFunc_int_int_s1 c_slices_ContainsFunc_int_int_s1) : ShOk Try.prog glob raw 30 (sh30 c_slices_ContainsFunc_int_int c_slices_ContainsFunc_int_int_s1) := by
  intro av es K r h
  unfold sh30 at h
  split at h
  · exact h_slices_ContainsFunc_int_int _ _ _ _ h
  · exact h_slices_ContainsFunc_int_int_s1 _ _ _ _ h
  · exact no_some h

def Ok_witness_Words_1 {R : Type} (c : Int → (List Bool) → (Bool → (List Bool) → Option R) → Option R) : Prop := ∀ (v1 : Int) (v2 : (List Bool)) (K : S → List Ent → Option R) (r : R), c v1 v2 (fun (r0 : Bool) (r1 : (List Bool)) => K (.bool r0) [.box (.sl .bool r1) false]) = some r → ∃ v es, FnOk Try.prog glob 31 (npF raw 31 [.box (.sl .bool v2) false]) [.int .i64 v1, .ptr 0 []] [.box (.sl .bool v2) false] v es ∧ K v es = some r

theorem okn_witness_Words_1 {R : Type} : Ok_witness_Words_1 (R := R) (fun _ _ _ => none) := fun _ _ _ _ h => no_some h

theorem shok_31 {R : Type} {c_witness_Words_1 : Int → (List Bool) → (Bool → (List Bool) → Option R) → Option R} (h_witness_Words_1 : Ok_witness_Words_1 c_witness_Words_1) : ShOk Try.prog glob raw 31 (sh31 c_witness_Words_1) := by
  intro av es K r h
  unfold sh31 at h
  split at h
  · exact h_witness_Words_1 _ _ _ _ h
  · exact no_some h

def Ok_witness_finder_finds {R : Type} (c : Int → Int → (List Int) → (List (List Int)) → (List Bool) → Int → (List (List Bool)) → (List Int) → (List (List Int)) → ((List Int) → (List (List Int)) → (List Bool) → Int → (List (List Bool)) → (List Int) → (List (List Int)) → Option R) → Option R) : Prop := ∀ (v1 : Int) (v2 : Int) (v3 : (List Int)) (v4 : (List (List Int))) (v5 : (List Bool)) (v6 : Int) (v7 : (List (List Bool))) (v8 : (List Int)) (v9 : (List (List Int))) (K : S → List Ent → Option R) (r : R), c v1 v2 v3 v4 v5 v6 v7 v8 v9 (fun (r0 : (List Int)) (r1 : (List (List Int))) (r2 : (List Bool)) (r3 : Int) (r4 : (List (List Bool))) (r5 : (List Int)) (r6 : (List (List Int))) => K (.tup []) [.box (.st [.st [.arr 256 (.int .u8) r0, .sl (.slice (.int .i64)) r1, .sl .bool r2], .own (.slice .bool) 1, .int .i64 r3, .own (.int .u8) 2, .own (.slice (.int .u8)) 3]) false, .buf (.slice .bool) r4 false, .buf (.int .u8) r5 false, .buf (.slice (.int .u8)) r6 false]) = some r → ∃ v es, FnOk Try.prog glob 32 (npF raw 32 [.box (.st [.st [.arr 256 (.int .u8) v3, .sl (.slice (.int .i64)) v4, .sl .bool v5], .own (.slice .bool) 1, .int .i64 v6, .own (.int .u8) 2, .own (.slice (.int .u8)) 3]) false, .buf (.slice .bool) v7 false, .buf (.int .u8) v8 false, .buf (.slice (.int .u8)) v9 false]) [.ptr 0 [], .int .i64 v1, .int .i64 v2] [.box (.st [.st [.arr 256 (.int .u8) v3, .sl (.slice (.int .i64)) v4, .sl .bool v5], .own (.slice .bool) 1, .int .i64 v6, .own (.int .u8) 2, .own (.slice (.int .u8)) 3]) false, .buf (.slice .bool) v7 false, .buf (.int .u8) v8 false, .buf (.slice (.int .u8)) v9 false] v es ∧ K v es = some r

theorem okn_witness_finder_finds {R : Type} : Ok_witness_finder_finds (R := R) (fun _ _ _ _ _ _ _ _ _ _ => none) := fun _ _ _ _ _ _ _ _ _ _ _ h => no_some h

theorem shok_32 {R : Type} {c_witness_finder_finds : Int → Int → (List Int) → (List (List Int)) → (List Bool) → Int → (List (List Bool)) → (List Int) → (List (List Int)) → ((List Int) → (List (List Int)) → (List Bool) → Int → (List (List Bool)) → (List Int) → (List (List Int)) → Option R) → Option R} (h_witness_finder_finds : Ok_witness_finder_finds c_witness_finder_finds) : ShOk Try.prog glob raw 32 (sh32 c_witness_finder_finds) := by
  intro av es K r h
  unfold sh32 at h
  split at h
  · exact h_witness_finder_finds _ _ _ _ _ _ _ _ _ _ _ h
  · exact no_some h

def Ok_ref11_To {R : Type} (c : (List Int) → (List (List Int)) → (List Bool) → Int → (List Int) → (Int → Option R) → Option R) : Prop := ∀ (v1 : (List Int)) (v2 : (List (List Int))) (v3 : (List Bool)) (v4 : Int) (v5 : (List Int)) (K : S → List Ent → Option R) (r : R), c v1 v2 v3 v4 v5 (fun (r0 : Int) => K (.int .i64 r0) []) = some r → ∃ v es, FnOk Try.prog glob 34 (npF raw 34 []) [.st [.arr 256 (.int .u8) v1, .sl (.slice (.int .i64)) v2, .sl .bool v3], .int .i64 v4, .sl (.int .u8) v5] [] v es ∧ K v es = some r

theorem okn_ref11_To {R : Type} : Ok_ref11_To (R := R) (fun _ _ _ _ _ _ => none) := fun _ _ _ _ _ _ _ h => no_some h

theorem shok_34 {R : Type} {c_ref11_To : (List Int) → (List (List Int)) → (List Bool) → Int → (List Int) → (Int → Option R) → Option R} (h_ref11_To : Ok_ref11_To c_ref11_To) : ShOk Try.prog glob raw 34 (sh34 c_ref11_To) := by
  intro av es K r h
  unfold sh34 at h
  split at h
  · exact h_ref11_To _ _ _ _ _ _ _ h
  · exact no_some h

def Ok_ref11_Copy {R : Type} (c : (List Int) → (List (List Int)) → (List Bool) → ((List Int) → (List (List Int)) → (List Bool) → Option R) → Option R) : Prop := ∀ (v1 : (List Int)) (v2 : (List (List Int))) (v3 : (List Bool)) (K : S → List Ent → Option R) (r : R), c v1 v2 v3 (fun (r0 : (List Int)) (r1 : (List (List Int))) (r2 : (List Bool)) => K (.st [.arr 256 (.int .u8) r0, .own (.slice (.int .i64)) 0, .own .bool 1]) [.buf (.slice (.int .i64)) r1 false, .buf .bool r2 false]) = some r → ∃ v es, FnOk Try.prog glob 35 (npF raw 35 []) [.st [.arr 256 (.int .u8) v1, .sl (.slice (.int .i64)) v2, .sl .bool v3]] [] v es ∧ K v es = some r

theorem okn_ref11_Copy {R : Type} : Ok_ref11_Copy (R := R) (fun _ _ _ _ => none) := fun _ _ _ _ _ h => no_some h

theorem shok_35 {R : Type} {c_ref11_Copy : (List Int) → (List (List Int)) → (List Bool) → ((List Int) → (List (List Int)) → (List Bool) → Option R) → Option R} (h_ref11_Copy : Ok_ref11_Copy c_ref11_Copy) : ShOk Try.prog glob raw 35 (sh35 c_ref11_Copy) := by
  intro av es K r h
  unfold sh35 at h
  split at h
  · exact h_ref11_Copy _ _ _ _ _ h
  · exact no_some h

def Ok_machine_classes {R : Type} (c : (List Int) → (List (List Int)) → (List Bool) → (Int → Option R) → Option R) : Prop := ∀ (v1 : (List Int)) (v2 : (List (List Int))) (v3 : (List Bool)) (K : S → List Ent → Option R) (r : R), c v1 v2 v3 (fun (r0 : Int) => K (.int .i64 r0) []) = some r → ∃ v es, FnOk Try.prog glob 36 (npF raw 36 []) [.st [.arr 256 (.int .u8) v1, .sl (.slice (.int .i64)) v2, .sl .bool v3]] [] v es ∧ K v es = some r

theorem okn_machine_classes {R : Type} : Ok_machine_classes (R := R) (fun _ _ _ _ => none) := fun _ _ _ _ _ h => no_some h

theorem shok_36 {R : Type} {c_machine_classes : (List Int) → (List (List Int)) → (List Bool) → (Int → Option R) → Option R} (h_machine_classes : Ok_machine_classes c_machine_classes) : ShOk Try.prog glob raw 36 (sh36 c_machine_classes) := by
  intro av es K r h
  unfold sh36 at h
  split at h
  · exact h_machine_classes _ _ _ _ _ h
  · exact no_some h

def Ok_machine_May_1 {R : Type} (c : Int → Int → (Bool → Int → Option R) → Option R) : Prop := ∀ (v1 : Int) (v2 : Int) (K : S → List Ent → Option R) (r : R), c v1 v2 (fun (r0 : Bool) (r1 : Int) => K (.bool r0) [.box (.int .i64 r1) false]) = some r → ∃ v es, FnOk Try.prog glob 37 (npF raw 37 [.box (.int .i64 v2) false]) [.int .i64 v1, .ptr 0 []] [.box (.int .i64 v2) false] v es ∧ K v es = some r

theorem okn_machine_May_1 {R : Type} : Ok_machine_May_1 (R := R) (fun _ _ _ => none) := fun _ _ _ _ h => no_some h

theorem shok_37 {R : Type} {c_machine_May_1 : Int → Int → (Bool → Int → Option R) → Option R} (h_machine_May_1 : Ok_machine_May_1 c_machine_May_1) : ShOk Try.prog glob raw 37 (sh37 c_machine_May_1) := by
  intro av es K r h
  unfold sh37 at h
  split at h
  · exact h_machine_May_1 _ _ _ _ h
  · exact no_some h

def Ok_slices_IndexFunc_int_int {R : Type} (c : (List Int) → Int → (Int → Int → Option R) → Option R) : Prop := ∀ (v1 : (List Int)) (v2 : Int) (K : S → List Ent → Option R) (r : R), c v1 v2 (fun (r0 : Int) (r1 : Int) => K (.int .i64 r0) [.box (.int .i64 r1) false]) = some r → ∃ v es, FnOk Try.prog glob 38 (npF raw 38 [.box (.int .i64 v2) false]) [.sl (.int .i64) v1, .fn 37 [.ptr 0 []]] [.box (.int .i64 v2) false] v es ∧ K v es = some r

theorem okn_slices_IndexFunc_int_int {R : Type} : Ok_slices_IndexFunc_int_int (R := R) (fun _ _ _ => none) := fun _ _ _ _ h => no_some h

def Ok_slices_IndexFunc_int_int_s1 {R : Type} (c : (List Int) → (List Bool) → (Int → (List Bool) → Option R) → Option R) : Prop := ∀ (v1 : (List Int)) (v2 : (List Bool)) (K : S → List Ent → Option R) (r : R), c v1 v2 (fun (r0 : Int) (r1 : (List Bool)) => K (.int .i64 r0) [.box (.sl .bool r1) false]) = some r → ∃ v es, FnOk Try.prog glob 38 (npF raw 38 [.box (.sl .bool v2) false]) [.sl (.int .i64) v1, .fn 31 [.ptr 0 []]] [.box (.sl .bool v2) false] v es ∧ K v es = some r

theorem okn_slices_IndexFunc_int_int_s1 {R : Type} : Ok_slices_IndexFunc_int_int_s1 (R := R) (fun _ _ _ => none) := fun _ _ _ _ h => no_some h

theorem shok_38 {R : Type} {c_slices_IndexFunc_int_int : (List Int) → Int → (Int → Int → Option R) → Option R} {c_slices_IndexFunc_int_int_s1 : (List Int) → (List Bool) → (Int → (List Bool) → Option R) → Option R} (h_slices_IndexFunc_int_int : Ok_slices_IndexFunc_int_int c_slices_IndexFunc_int_int) (h_slices_IndexFunc_int_int_s1 : Ok_slices_IndexFunc_int_int_s1 c_slices_IndexFunc_int_int_s1) : ShOk Try.prog glob raw 38 (sh38 c_slices_IndexFunc_int_int c_slices_IndexFunc_int_int_s1) := by
  intro av es K r h
  unfold sh38 at h
  split at h
  · exact h_slices_IndexFunc_int_int _ _ _ _ h
  · exact h_slices_IndexFunc_int_int_s1 _ _ _ _ h
  · exact no_some h

def Ok_slices_Max_uint8_uint8 {R : Type} (c : (List Int) → (Int → Option R) → Option R) : Prop := ∀ (v1 : (List Int)) (K : S → List Ent → Option R) (r : R), c v1 (fun (r0 : Int) => K (.int .u8 r0) []) = some r → ∃ v es, FnOk Try.prog glob 40 (npF raw 40 []) [.sl (.int .u8) v1] [] v es ∧ K v es = some r

theorem okn_slices_Max_uint8_uint8 {R : Type} : Ok_slices_Max_uint8_uint8 (R := R) (fun _ _ => none) := fun _ _ _ h => no_some h

theorem shok_40 {R : Type} {c_slices_Max_uint8_uint8 : (List Int) → (Int → Option R) → Option R} (h_slices_Max_uint8_uint8 : Ok_slices_Max_uint8_uint8 c_slices_Max_uint8_uint8) : ShOk Try.prog glob raw 40 (sh40 c_slices_Max_uint8_uint8) := by
  intro av es K r h
  unfold sh40 at h
  split at h
  · exact h_slices_Max_uint8_uint8 _ _ _ h
  · exact no_some h

theorem t_slices_Max_uint8_uint8 : textOk C_slices_Max_uint8_uint8.bef Try.prog 40 = true := by kernel_rfl

theorem sln_slices_Max_uint8_uint8_l5 {R : Type} : SlOk (R := R) C_slices_Max_uint8_uint8 40 25 0 5 (sl_slices_Max_uint8_uint8_l5 (fun _ _ _ _ => none)) := by
  intro vs es K r h
  unfold sl_slices_Max_uint8_uint8_l5 at h
  split at h <;> exact no_some h

theorem lok_slices_Max_uint8_uint8_l5 {R : Type} (kf : Nat) : ∀ n, SlOk (R := R) C_slices_Max_uint8_uint8 40 25 0 5 (sl_slices_Max_uint8_uint8_l5 (slices_Max_uint8_uint8_l5 kf n)) := by
  intro n
  induction n with
  | zero =>
    intro vs es K r h
    unfold sl_slices_Max_uint8_uint8_l5 at h
    split at h <;> exact no_some h
  | succ k ih =>
    have hcf : CfOk (R := R) Try.prog glob raw (cf_slices_Max_uint8_uint8 (slices_Max_uint8_uint8_l5 kf k)) := cf_nil
    have hlf : LfOk (R := R) C_slices_Max_uint8_uint8 40 (lf_slices_Max_uint8_uint8 (slices_Max_uint8_uint8_l5 kf k)) := (lf_top (lf_cons ih lf_nil))
    intro vs es K r h
    unfold sl_slices_Max_uint8_uint8_l5 at h
    split at h
    · exact loop_good (text_mixed t_slices_Max_uint8_uint8) hcf hlf (text_loop t_slices_Max_uint8_uint8 5).1 (text_loop t_slices_Max_uint8_uint8 5).2 ((eq_slices_Max_uint8_uint8_l5 (slices_Max_uint8_uint8_l5 kf k) _ _ _ K).trans h)
    · exact no_some h

theorem ok_slices_Max_uint8_uint8 {R : Type} (kf : Nat) : Ok_slices_Max_uint8_uint8 (R := R) (slices_Max_uint8_uint8 kf) := by
  have hcf : CfOk (R := R) Try.prog glob raw (cf_slices_Max_uint8_uint8 (slices_Max_uint8_uint8_l5 kf kf)) := cf_nil
  have hlf : LfOk (R := R) C_slices_Max_uint8_uint8 40 (lf_slices_Max_uint8_uint8 (slices_Max_uint8_uint8_l5 kf kf)) := (lf_top (lf_cons (lok_slices_Max_uint8_uint8_l5 kf kf) lf_nil))
  intro v1 K r h
  exact run_good t_slices_Max_uint8_uint8 hcf hlf ((eq_slices_Max_uint8_uint8 (slices_Max_uint8_uint8_l5 kf kf) v1 K).trans h)

theorem t_machine_classes : textOk C_machine_classes.bef Try.prog 36 = true := by kernel_rfl

theorem ok_machine_classes {R : Type} (kf : Nat) : Ok_machine_classes (R := R) (machine_classes kf) := by
  have hcf : CfOk (R := R) Try.prog glob raw (cf_machine_classes (slices_Max_uint8_uint8 kf)) := (cf_cons (shok_40 (ok_slices_Max_uint8_uint8 kf)) cf_nil)
  have hlf : LfOk (R := R) C_machine_classes 36 (lf_machine_classes (slices_Max_uint8_uint8 kf)) := lf_none
  intro v1 v2 v3 K r h
  exact run_good t_machine_classes hcf hlf ((eq_machine_classes (slices_Max_uint8_uint8 kf) v1 v2 v3 K).trans h)

theorem t_machine_May_1 : textOk C_machine_May_1.bef Try.prog 37 = true := by kernel_rfl

theorem ok_machine_May_1 {R : Type} : Ok_machine_May_1 (R := R) machine_May_1 := by
  have hcf : CfOk (R := R) Try.prog glob raw (cf_machine_May_1) := cf_nil
  have hlf : LfOk (R := R) C_machine_May_1 37 (lf_machine_May_1) := lf_none
  intro v1 v2 K r h
  exact run_good t_machine_May_1 hcf hlf ((eq_machine_May_1 v1 v2 K).trans h)

theorem t_slices_IndexFunc_int_int : textOk C_slices_IndexFunc_int_int.bef Try.prog 38 = true := by kernel_rfl

theorem sln_slices_IndexFunc_int_int_l2 {R : Type} : SlOk (R := R) C_slices_IndexFunc_int_int 38 19 1 2 (sl_slices_IndexFunc_int_int_l2 (fun _ _ _ _ _ _ => none)) := by
  intro vs es K r h
  unfold sl_slices_IndexFunc_int_int_l2 at h
  split at h <;> exact no_some h

theorem lok_slices_IndexFunc_int_int_l2 {R : Type} (kf : Nat) : ∀ n, SlOk (R := R) C_slices_IndexFunc_int_int 38 19 1 2 (sl_slices_IndexFunc_int_int_l2 (slices_IndexFunc_int_int_l2 kf n)) := by
  intro n
  induction n with
  | zero =>
    intro vs es K r h
    unfold sl_slices_IndexFunc_int_int_l2 at h
    split at h <;> exact no_some h
  | succ k ih =>
    have hcf : CfOk (R := R) Try.prog glob raw (cf_slices_IndexFunc_int_int machine_May_1 (slices_IndexFunc_int_int_l2 kf k)) := (cf_cons (shok_37 (ok_machine_May_1)) cf_nil)
    have hlf : LfOk (R := R) C_slices_IndexFunc_int_int 38 (lf_slices_IndexFunc_int_int machine_May_1 (slices_IndexFunc_int_int_l2 kf k)) := (lf_top (lf_cons ih lf_nil))
    intro vs es K r h
    unfold sl_slices_IndexFunc_int_int_l2 at h
    split at h
    · exact loop_good (text_mixed t_slices_IndexFunc_int_int) hcf hlf (text_loop t_slices_IndexFunc_int_int 2).1 (text_loop t_slices_IndexFunc_int_int 2).2 ((eq_slices_IndexFunc_int_int_l2 machine_May_1 (slices_IndexFunc_int_int_l2 kf k) _ _ _ _ K).trans h)
    · exact no_some h

theorem ok_slices_IndexFunc_int_int {R : Type} (kf : Nat) : Ok_slices_IndexFunc_int_int (R := R) (slices_IndexFunc_int_int kf) := by
  have hcf : CfOk (R := R) Try.prog glob raw (cf_slices_IndexFunc_int_int machine_May_1 (slices_IndexFunc_int_int_l2 kf kf)) := (cf_cons (shok_37 (ok_machine_May_1)) cf_nil)
  have hlf : LfOk (R := R) C_slices_IndexFunc_int_int 38 (lf_slices_IndexFunc_int_int machine_May_1 (slices_IndexFunc_int_int_l2 kf kf)) := (lf_top (lf_cons (lok_slices_IndexFunc_int_int_l2 kf kf) lf_nil))
  intro v1 v2 K r h
  exact run_good t_slices_IndexFunc_int_int hcf hlf ((eq_slices_IndexFunc_int_int machine_May_1 (slices_IndexFunc_int_int_l2 kf kf) v1 v2 K).trans h)

theorem t_slices_ContainsFunc_int_int : textOk C_slices_ContainsFunc_int_int.bef Try.prog 30 = true := by kernel_rfl

theorem ok_slices_ContainsFunc_int_int {R : Type} (kf : Nat) : Ok_slices_ContainsFunc_int_int (R := R) (slices_ContainsFunc_int_int kf) := by
  have hcf : CfOk (R := R) Try.prog glob raw (cf_slices_ContainsFunc_int_int (slices_IndexFunc_int_int kf)) := (cf_cons (shok_38 (ok_slices_IndexFunc_int_int kf) okn_slices_IndexFunc_int_int_s1) cf_nil)
  have hlf : LfOk (R := R) C_slices_ContainsFunc_int_int 30 (lf_slices_ContainsFunc_int_int (slices_IndexFunc_int_int kf)) := lf_none
  intro v1 v2 K r h
  exact run_good t_slices_ContainsFunc_int_int hcf hlf ((eq_slices_ContainsFunc_int_int (slices_IndexFunc_int_int kf) v1 v2 K).trans h)

theorem t_machine_May : textOk C_machine_May.bef Try.prog 24 = true := by kernel_rfl

theorem sln_machine_May_l6 {R : Type} : SlOk (R := R) C_machine_May 24 42 0 6 (sl_machine_May_l6 (fun _ _ _ _ _ _ _ => none)) := by
  intro vs es K r h
  unfold sl_machine_May_l6 at h
  split at h <;> exact no_some h

theorem lok_machine_May_l6 {R : Type} (kf : Nat) : ∀ n, SlOk (R := R) C_machine_May 24 42 0 6 (sl_machine_May_l6 (machine_May_l6 kf n)) := by
  intro n
  induction n with
  | zero =>
    intro vs es K r h
    unfold sl_machine_May_l6 at h
    split at h <;> exact no_some h
  | succ k ih =>
    have hcf : CfOk (R := R) Try.prog glob raw (cf_machine_May (machine_classes kf) (slices_ContainsFunc_int_int kf) (machine_May_l6 kf k)) := (cf_cons (shok_36 (ok_machine_classes kf)) (cf_cons (shok_30 (ok_slices_ContainsFunc_int_int kf) okn_slices_ContainsFunc_int_int_s1) cf_nil))
    have hlf : LfOk (R := R) C_machine_May 24 (lf_machine_May (machine_classes kf) (slices_ContainsFunc_int_int kf) (machine_May_l6 kf k)) := (lf_top (lf_cons ih lf_nil))
    intro vs es K r h
    unfold sl_machine_May_l6 at h
    split at h
    · exact loop_good (text_mixed t_machine_May) hcf hlf (text_loop t_machine_May 6).1 (text_loop t_machine_May 6).2 ((eq_machine_May_l6 (machine_classes kf) (slices_ContainsFunc_int_int kf) (machine_May_l6 kf k) _ _ _ _ _ K).trans h)
    · exact no_some h

theorem ok_machine_May {R : Type} (kf : Nat) : Ok_machine_May (R := R) (machine_May kf) := by
  have hcf : CfOk (R := R) Try.prog glob raw (cf_machine_May (machine_classes kf) (slices_ContainsFunc_int_int kf) (machine_May_l6 kf kf)) := (cf_cons (shok_36 (ok_machine_classes kf)) (cf_cons (shok_30 (ok_slices_ContainsFunc_int_int kf) okn_slices_ContainsFunc_int_int_s1) cf_nil))
  have hlf : LfOk (R := R) C_machine_May 24 (lf_machine_May (machine_classes kf) (slices_ContainsFunc_int_int kf) (machine_May_l6 kf kf)) := (lf_top (lf_cons (lok_machine_May_l6 kf kf) lf_nil))
  intro v1 v2 v3 K r h
  exact run_good t_machine_May hcf hlf ((eq_machine_May (machine_classes kf) (slices_ContainsFunc_int_int kf) (machine_May_l6 kf kf) v1 v2 v3 K).trans h)

theorem t_witness_firsts : textOk C_witness_firsts.bef Try.prog 25 = true := by kernel_rfl

theorem sln_witness_firsts_l4 {R : Type} : SlOk (R := R) C_witness_firsts 25 26 0 4 (sl_witness_firsts_l4 (fun _ _ _ _ _ => none)) := by
  intro vs es K r h
  unfold sl_witness_firsts_l4 at h
  split at h <;> exact no_some h

theorem lok_witness_firsts_l4 {R : Type} (kf : Nat) : ∀ n, SlOk (R := R) C_witness_firsts 25 26 0 4 (sl_witness_firsts_l4 (witness_firsts_l4 kf n)) := by
  intro n
  induction n with
  | zero =>
    intro vs es K r h
    unfold sl_witness_firsts_l4 at h
    split at h <;> exact no_some h
  | succ k ih =>
    have hcf : CfOk (R := R) Try.prog glob raw (cf_witness_firsts (witness_firsts_l4 kf k)) := cf_nil
    have hlf : LfOk (R := R) C_witness_firsts 25 (lf_witness_firsts (witness_firsts_l4 kf k)) := (lf_top (lf_cons ih lf_nil))
    intro vs es K r h
    unfold sl_witness_firsts_l4 at h
    split at h
    · exact loop_good (text_mixed t_witness_firsts) hcf hlf (text_loop t_witness_firsts 4).1 (text_loop t_witness_firsts 4).2 ((eq_witness_firsts_l4 (witness_firsts_l4 kf k) _ _ _ _ K).trans h)
    · exact no_some h

theorem ok_witness_firsts {R : Type} (kf : Nat) : Ok_witness_firsts (R := R) (witness_firsts kf) := by
  have hcf : CfOk (R := R) Try.prog glob raw (cf_witness_firsts (witness_firsts_l4 kf kf)) := cf_nil
  have hlf : LfOk (R := R) C_witness_firsts 25 (lf_witness_firsts (witness_firsts_l4 kf kf)) := (lf_top (lf_cons (lok_witness_firsts_l4 kf kf) lf_nil))
  intro v1 v2 v3 K r h
  exact run_good t_witness_firsts hcf hlf ((eq_witness_firsts (witness_firsts_l4 kf kf) v1 v2 v3 K).trans h)

theorem t_slices_Reverse_byte_byte : textOk C_slices_Reverse_byte_byte.bef Try.prog 26 = true := by kernel_rfl

theorem sln_slices_Reverse_byte_byte_l1 {R : Type} : SlOk (R := R) C_slices_Reverse_byte_byte 26 28 1 1 (sl_slices_Reverse_byte_byte_l1 (fun _ _ _ _ => none)) := by
  intro vs es K r h
  unfold sl_slices_Reverse_byte_byte_l1 at h
  split at h <;> exact no_some h

theorem lok_slices_Reverse_byte_byte_l1 {R : Type} (kf : Nat) : ∀ n, SlOk (R := R) C_slices_Reverse_byte_byte 26 28 1 1 (sl_slices_Reverse_byte_byte_l1 (slices_Reverse_byte_byte_l1 kf n)) := by
  intro n
  induction n with
  | zero =>
    intro vs es K r h
    unfold sl_slices_Reverse_byte_byte_l1 at h
    split at h <;> exact no_some h
  | succ k ih =>
    have hcf : CfOk (R := R) Try.prog glob raw (cf_slices_Reverse_byte_byte (slices_Reverse_byte_byte_l1 kf k)) := cf_nil
    have hlf : LfOk (R := R) C_slices_Reverse_byte_byte 26 (lf_slices_Reverse_byte_byte (slices_Reverse_byte_byte_l1 kf k)) := (lf_top (lf_cons ih lf_nil))
    intro vs es K r h
    unfold sl_slices_Reverse_byte_byte_l1 at h
    split at h
    · exact loop_good (text_mixed t_slices_Reverse_byte_byte) hcf hlf (text_loop t_slices_Reverse_byte_byte 1).1 (text_loop t_slices_Reverse_byte_byte 1).2 ((eq_slices_Reverse_byte_byte_l1 (slices_Reverse_byte_byte_l1 kf k) _ _ _ K).trans h)
    · exact no_some h

theorem ok_slices_Reverse_byte_byte {R : Type} (kf : Nat) : Ok_slices_Reverse_byte_byte (R := R) (slices_Reverse_byte_byte kf) := by
  have hcf : CfOk (R := R) Try.prog glob raw (cf_slices_Reverse_byte_byte (slices_Reverse_byte_byte_l1 kf kf)) := cf_nil
  have hlf : LfOk (R := R) C_slices_Reverse_byte_byte 26 (lf_slices_Reverse_byte_byte (slices_Reverse_byte_byte_l1 kf kf)) := (lf_top (lf_cons (lok_slices_Reverse_byte_byte_l1 kf kf) lf_nil))
  intro v1 K r h
  exact run_good t_slices_Reverse_byte_byte hcf hlf ((eq_slices_Reverse_byte_byte (slices_Reverse_byte_byte_l1 kf kf) v1 K).trans h)

theorem t_witness_Shortest : textOk C_witness_Shortest.bef Try.prog 11 = true := by kernel_rfl

theorem sln_witness_Shortest_l6 {R : Type} : SlOk (R := R) C_witness_Shortest 11 90 0 6 (sl_witness_Shortest_l6 (fun _ _ _ _ _ _ _ _ _ => none)) := by
  intro vs es K r h
  unfold sl_witness_Shortest_l6 at h
  split at h <;> exact no_some h

theorem sln_witness_Shortest_l11 {R : Type} : SlOk (R := R) C_witness_Shortest 11 90 0 11 (sl_witness_Shortest_l11 (fun _ _ _ _ _ => none)) := by
  intro vs es K r h
  unfold sl_witness_Shortest_l11 at h
  split at h <;> exact no_some h

theorem sln_witness_Shortest_l19 {R : Type} : SlOk (R := R) C_witness_Shortest 11 90 0 19 (sl_witness_Shortest_l19 (fun _ _ _ _ _ _ _ _ _ _ _ => none)) := by
  intro vs es K r h
  unfold sl_witness_Shortest_l19 at h
  split at h <;> exact no_some h

theorem lok_witness_Shortest_l11 {R : Type} (kf : Nat) : ∀ n, SlOk (R := R) C_witness_Shortest 11 90 0 11 (sl_witness_Shortest_l11 (witness_Shortest_l11 kf n)) := by
  intro n
  induction n with
  | zero =>
    intro vs es K r h
    unfold sl_witness_Shortest_l11 at h
    split at h <;> exact no_some h
  | succ k ih =>
    have hcf : CfOk (R := R) Try.prog glob raw (cf_witness_Shortest (machine_May kf) (witness_firsts kf) (slices_Reverse_byte_byte kf) (fun _ _ _ _ _ _ _ _ _ => none) (witness_Shortest_l11 kf k) (fun _ _ _ _ _ _ _ _ _ _ _ => none)) := (cf_cons (shok_24 (ok_machine_May kf)) (cf_cons (shok_25 (ok_witness_firsts kf)) (cf_cons (shok_26 (ok_slices_Reverse_byte_byte kf)) cf_nil)))
    have hlf : LfOk (R := R) C_witness_Shortest 11 (lf_witness_Shortest (machine_May kf) (witness_firsts kf) (slices_Reverse_byte_byte kf) (fun _ _ _ _ _ _ _ _ _ => none) (witness_Shortest_l11 kf k) (fun _ _ _ _ _ _ _ _ _ _ _ => none)) := (lf_top (lf_cons (sln_witness_Shortest_l6) (lf_cons ih (lf_cons (sln_witness_Shortest_l19) lf_nil))))
    intro vs es K r h
    unfold sl_witness_Shortest_l11 at h
    split at h
    · exact loop_good (text_mixed t_witness_Shortest) hcf hlf (text_loop t_witness_Shortest 11).1 (text_loop t_witness_Shortest 11).2 ((eq_witness_Shortest_l11 (machine_May kf) (witness_firsts kf) (slices_Reverse_byte_byte kf) (fun _ _ _ _ _ _ _ _ _ => none) (witness_Shortest_l11 kf k) (fun _ _ _ _ _ _ _ _ _ _ _ => none) _ _ _ _ K).trans h)
    · exact no_some h

theorem lok_witness_Shortest_l19 {R : Type} (kf : Nat) : ∀ n, SlOk (R := R) C_witness_Shortest 11 90 0 19 (sl_witness_Shortest_l19 (witness_Shortest_l19 kf n)) := by
  intro n
  induction n with
  | zero =>
    intro vs es K r h
    unfold sl_witness_Shortest_l19 at h
    split at h <;> exact no_some h
  | succ k ih =>
    have hcf : CfOk (R := R) Try.prog glob raw (cf_witness_Shortest (machine_May kf) (witness_firsts kf) (slices_Reverse_byte_byte kf) (fun _ _ _ _ _ _ _ _ _ => none) (witness_Shortest_l11 kf k) (witness_Shortest_l19 kf k)) := (cf_cons (shok_24 (ok_machine_May kf)) (cf_cons (shok_25 (ok_witness_firsts kf)) (cf_cons (shok_26 (ok_slices_Reverse_byte_byte kf)) cf_nil)))
    have hlf : LfOk (R := R) C_witness_Shortest 11 (lf_witness_Shortest (machine_May kf) (witness_firsts kf) (slices_Reverse_byte_byte kf) (fun _ _ _ _ _ _ _ _ _ => none) (witness_Shortest_l11 kf k) (witness_Shortest_l19 kf k)) := (lf_top (lf_cons (sln_witness_Shortest_l6) (lf_cons (lok_witness_Shortest_l11 kf k) (lf_cons ih lf_nil))))
    intro vs es K r h
    unfold sl_witness_Shortest_l19 at h
    split at h
    · exact loop_good (text_mixed t_witness_Shortest) hcf hlf (text_loop t_witness_Shortest 19).1 (text_loop t_witness_Shortest 19).2 ((eq_witness_Shortest_l19 (machine_May kf) (witness_firsts kf) (slices_Reverse_byte_byte kf) (fun _ _ _ _ _ _ _ _ _ => none) (witness_Shortest_l11 kf k) (witness_Shortest_l19 kf k) _ _ _ _ _ _ _ _ _ _ K).trans h)
    · exact no_some h

theorem lok_witness_Shortest_l6 {R : Type} (kf : Nat) : ∀ n, SlOk (R := R) C_witness_Shortest 11 90 0 6 (sl_witness_Shortest_l6 (witness_Shortest_l6 kf n)) := by
  intro n
  induction n with
  | zero =>
    intro vs es K r h
    unfold sl_witness_Shortest_l6 at h
    split at h <;> exact no_some h
  | succ k ih =>
    have hcf : CfOk (R := R) Try.prog glob raw (cf_witness_Shortest (machine_May kf) (witness_firsts kf) (slices_Reverse_byte_byte kf) (witness_Shortest_l6 kf k) (witness_Shortest_l11 kf k) (witness_Shortest_l19 kf k)) := (cf_cons (shok_24 (ok_machine_May kf)) (cf_cons (shok_25 (ok_witness_firsts kf)) (cf_cons (shok_26 (ok_slices_Reverse_byte_byte kf)) cf_nil)))
    have hlf : LfOk (R := R) C_witness_Shortest 11 (lf_witness_Shortest (machine_May kf) (witness_firsts kf) (slices_Reverse_byte_byte kf) (witness_Shortest_l6 kf k) (witness_Shortest_l11 kf k) (witness_Shortest_l19 kf k)) := (lf_top (lf_cons ih (lf_cons (lok_witness_Shortest_l11 kf k) (lf_cons (lok_witness_Shortest_l19 kf k) lf_nil))))
    intro vs es K r h
    unfold sl_witness_Shortest_l6 at h
    split at h
    · exact loop_good (text_mixed t_witness_Shortest) hcf hlf (text_loop t_witness_Shortest 6).1 (text_loop t_witness_Shortest 6).2 ((eq_witness_Shortest_l6 (machine_May kf) (witness_firsts kf) (slices_Reverse_byte_byte kf) (witness_Shortest_l6 kf k) (witness_Shortest_l11 kf k) (witness_Shortest_l19 kf k) _ _ _ _ _ _ _ K).trans h)
    · exact no_some h

theorem ok_witness_Shortest {R : Type} (kf : Nat) : Ok_witness_Shortest (R := R) (witness_Shortest kf) := by
  have hcf : CfOk (R := R) Try.prog glob raw (cf_witness_Shortest (machine_May kf) (witness_firsts kf) (slices_Reverse_byte_byte kf) (witness_Shortest_l6 kf kf) (witness_Shortest_l11 kf kf) (witness_Shortest_l19 kf kf)) := (cf_cons (shok_24 (ok_machine_May kf)) (cf_cons (shok_25 (ok_witness_firsts kf)) (cf_cons (shok_26 (ok_slices_Reverse_byte_byte kf)) cf_nil)))
  have hlf : LfOk (R := R) C_witness_Shortest 11 (lf_witness_Shortest (machine_May kf) (witness_firsts kf) (slices_Reverse_byte_byte kf) (witness_Shortest_l6 kf kf) (witness_Shortest_l11 kf kf) (witness_Shortest_l19 kf kf)) := (lf_top (lf_cons (lok_witness_Shortest_l6 kf kf) (lf_cons (lok_witness_Shortest_l11 kf kf) (lf_cons (lok_witness_Shortest_l19 kf kf) lf_nil))))
  intro v1 v2 v3 K r h
  exact run_good t_witness_Shortest hcf hlf ((eq_witness_Shortest (machine_May kf) (witness_firsts kf) (slices_Reverse_byte_byte kf) (witness_Shortest_l6 kf kf) (witness_Shortest_l11 kf kf) (witness_Shortest_l19 kf kf) v1 v2 v3 K).trans h)

theorem t_witness_Count : textOk C_witness_Count.bef Try.prog 13 = true := by kernel_rfl

theorem sln_witness_Count_l5 {R : Type} : SlOk (R := R) C_witness_Count 13 94 0 5 (sl_witness_Count_l5 (fun _ _ _ _ _ _ _ _ => none)) := by
  intro vs es K r h
  unfold sl_witness_Count_l5 at h
  split at h <;> exact no_some h

theorem sln_witness_Count_l11 {R : Type} : SlOk (R := R) C_witness_Count 13 94 0 11 (sl_witness_Count_l11 (fun _ _ _ _ _ _ _ _ _ _ => none)) := by
  intro vs es K r h
  unfold sl_witness_Count_l11 at h
  split at h <;> exact no_some h

theorem sln_witness_Count_l17 {R : Type} : SlOk (R := R) C_witness_Count 13 94 0 17 (sl_witness_Count_l17 (fun _ _ _ _ _ _ _ _ => none)) := by
  intro vs es K r h
  unfold sl_witness_Count_l17 at h
  split at h <;> exact no_some h

theorem sln_witness_Count_l20 {R : Type} : SlOk (R := R) C_witness_Count 13 94 0 20 (sl_witness_Count_l20 (fun _ _ _ _ _ _ _ _ _ _ _ _ => none)) := by
  intro vs es K r h
  unfold sl_witness_Count_l20 at h
  split at h <;> exact no_some h

theorem sln_witness_Count_l23 {R : Type} : SlOk (R := R) C_witness_Count 13 94 0 23 (sl_witness_Count_l23 (fun _ _ _ _ _ _ _ _ _ _ _ _ _ _ _ _ => none)) := by
  intro vs es K r h
  unfold sl_witness_Count_l23 at h
  split at h <;> exact no_some h

theorem lok_witness_Count_l5 {R : Type} (kf : Nat) : ∀ n, SlOk (R := R) C_witness_Count 13 94 0 5 (sl_witness_Count_l5 (witness_Count_l5 kf n)) := by
  intro n
  induction n with
  | zero =>
    intro vs es K r h
    unfold sl_witness_Count_l5 at h
    split at h <;> exact no_some h
  | succ k ih =>
    have hcf : CfOk (R := R) Try.prog glob raw (cf_witness_Count (machine_May kf) (witness_Count_l5 kf k) (fun _ _ _ _ _ _ _ _ _ _ => none) (fun _ _ _ _ _ _ _ _ => none) (fun _ _ _ _ _ _ _ _ _ _ _ _ => none) (fun _ _ _ _ _ _ _ _ _ _ _ _ _ _ _ _ => none)) := (cf_cons (shok_24 (ok_machine_May kf)) cf_nil)
    have hlf : LfOk (R := R) C_witness_Count 13 (lf_witness_Count (machine_May kf) (witness_Count_l5 kf k) (fun _ _ _ _ _ _ _ _ _ _ => none) (fun _ _ _ _ _ _ _ _ => none) (fun _ _ _ _ _ _ _ _ _ _ _ _ => none) (fun _ _ _ _ _ _ _ _ _ _ _ _ _ _ _ _ => none)) := (lf_top (lf_cons ih (lf_cons (sln_witness_Count_l11) (lf_cons (sln_witness_Count_l17) (lf_cons (sln_witness_Count_l20) (lf_cons (sln_witness_Count_l23) lf_nil))))))
    intro vs es K r h
    unfold sl_witness_Count_l5 at h
    split at h
    · exact loop_good (text_mixed t_witness_Count) hcf hlf (text_loop t_witness_Count 5).1 (text_loop t_witness_Count 5).2 ((eq_witness_Count_l5 (machine_May kf) (witness_Count_l5 kf k) (fun _ _ _ _ _ _ _ _ _ _ => none) (fun _ _ _ _ _ _ _ _ => none) (fun _ _ _ _ _ _ _ _ _ _ _ _ => none) (fun _ _ _ _ _ _ _ _ _ _ _ _ _ _ _ _ => none) _ _ _ _ _ _ _ K).trans h)
    · exact no_some h

theorem lok_witness_Count_l11 {R : Type} (kf : Nat) : ∀ n, SlOk (R := R) C_witness_Count 13 94 0 11 (sl_witness_Count_l11 (witness_Count_l11 kf n)) := by
  intro n
  induction n with
  | zero =>
    intro vs es K r h
    unfold sl_witness_Count_l11 at h
    split at h <;> exact no_some h
  | succ k ih =>
    have hcf : CfOk (R := R) Try.prog glob raw (cf_witness_Count (machine_May kf) (witness_Count_l5 kf k) (witness_Count_l11 kf k) (fun _ _ _ _ _ _ _ _ => none) (fun _ _ _ _ _ _ _ _ _ _ _ _ => none) (fun _ _ _ _ _ _ _ _ _ _ _ _ _ _ _ _ => none)) := (cf_cons (shok_24 (ok_machine_May kf)) cf_nil)
    have hlf : LfOk (R := R) C_witness_Count 13 (lf_witness_Count (machine_May kf) (witness_Count_l5 kf k) (witness_Count_l11 kf k) (fun _ _ _ _ _ _ _ _ => none) (fun _ _ _ _ _ _ _ _ _ _ _ _ => none) (fun _ _ _ _ _ _ _ _ _ _ _ _ _ _ _ _ => none)) := (lf_top (lf_cons (lok_witness_Count_l5 kf k) (lf_cons ih (lf_cons (sln_witness_Count_l17) (lf_cons (sln_witness_Count_l20) (lf_cons (sln_witness_Count_l23) lf_nil))))))
    intro vs es K r h
    unfold sl_witness_Count_l11 at h
    split at h
    · exact loop_good (text_mixed t_witness_Count) hcf hlf (text_loop t_witness_Count 11).1 (text_loop t_witness_Count 11).2 ((eq_witness_Count_l11 (machine_May kf) (witness_Count_l5 kf k) (witness_Count_l11 kf k) (fun _ _ _ _ _ _ _ _ => none) (fun _ _ _ _ _ _ _ _ _ _ _ _ => none) (fun _ _ _ _ _ _ _ _ _ _ _ _ _ _ _ _ => none) _ _ _ _ _ _ _ _ _ K).trans h)
    · exact no_some h

theorem lok_witness_Count_l23 {R : Type} (kf : Nat) : ∀ n, SlOk (R := R) C_witness_Count 13 94 0 23 (sl_witness_Count_l23 (witness_Count_l23 kf n)) := by
  intro n
  induction n with
  | zero =>
    intro vs es K r h
    unfold sl_witness_Count_l23 at h
    split at h <;> exact no_some h
  | succ k ih =>
    have hcf : CfOk (R := R) Try.prog glob raw (cf_witness_Count (machine_May kf) (witness_Count_l5 kf k) (witness_Count_l11 kf k) (fun _ _ _ _ _ _ _ _ => none) (fun _ _ _ _ _ _ _ _ _ _ _ _ => none) (witness_Count_l23 kf k)) := (cf_cons (shok_24 (ok_machine_May kf)) cf_nil)
    have hlf : LfOk (R := R) C_witness_Count 13 (lf_witness_Count (machine_May kf) (witness_Count_l5 kf k) (witness_Count_l11 kf k) (fun _ _ _ _ _ _ _ _ => none) (fun _ _ _ _ _ _ _ _ _ _ _ _ => none) (witness_Count_l23 kf k)) := (lf_top (lf_cons (lok_witness_Count_l5 kf k) (lf_cons (lok_witness_Count_l11 kf k) (lf_cons (sln_witness_Count_l17) (lf_cons (sln_witness_Count_l20) (lf_cons ih lf_nil))))))
    intro vs es K r h
    unfold sl_witness_Count_l23 at h
    split at h
    · exact loop_good (text_mixed t_witness_Count) hcf hlf (text_loop t_witness_Count 23).1 (text_loop t_witness_Count 23).2 ((eq_witness_Count_l23 (machine_May kf) (witness_Count_l5 kf k) (witness_Count_l11 kf k) (fun _ _ _ _ _ _ _ _ => none) (fun _ _ _ _ _ _ _ _ _ _ _ _ => none) (witness_Count_l23 kf k) _ _ _ _ _ _ _ _ _ _ _ _ _ _ _ K).trans h)
    · exact no_some h

theorem lok_witness_Count_l20 {R : Type} (kf : Nat) : ∀ n, SlOk (R := R) C_witness_Count 13 94 0 20 (sl_witness_Count_l20 (witness_Count_l20 kf n)) := by
  intro n
  induction n with
  | zero =>
    intro vs es K r h
    unfold sl_witness_Count_l20 at h
    split at h <;> exact no_some h
  | succ k ih =>
    have hcf : CfOk (R := R) Try.prog glob raw (cf_witness_Count (machine_May kf) (witness_Count_l5 kf k) (witness_Count_l11 kf k) (fun _ _ _ _ _ _ _ _ => none) (witness_Count_l20 kf k) (witness_Count_l23 kf k)) := (cf_cons (shok_24 (ok_machine_May kf)) cf_nil)
    have hlf : LfOk (R := R) C_witness_Count 13 (lf_witness_Count (machine_May kf) (witness_Count_l5 kf k) (witness_Count_l11 kf k) (fun _ _ _ _ _ _ _ _ => none) (witness_Count_l20 kf k) (witness_Count_l23 kf k)) := (lf_top (lf_cons (lok_witness_Count_l5 kf k) (lf_cons (lok_witness_Count_l11 kf k) (lf_cons (sln_witness_Count_l17) (lf_cons ih (lf_cons (lok_witness_Count_l23 kf k) lf_nil))))))
    intro vs es K r h
    unfold sl_witness_Count_l20 at h
    split at h
    · exact loop_good (text_mixed t_witness_Count) hcf hlf (text_loop t_witness_Count 20).1 (text_loop t_witness_Count 20).2 ((eq_witness_Count_l20 (machine_May kf) (witness_Count_l5 kf k) (witness_Count_l11 kf k) (fun _ _ _ _ _ _ _ _ => none) (witness_Count_l20 kf k) (witness_Count_l23 kf k) _ _ _ _ _ _ _ _ _ _ _ K).trans h)
    · exact no_some h

theorem lok_witness_Count_l17 {R : Type} (kf : Nat) : ∀ n, SlOk (R := R) C_witness_Count 13 94 0 17 (sl_witness_Count_l17 (witness_Count_l17 kf n)) := by
  intro n
  induction n with
  | zero =>
    intro vs es K r h
    unfold sl_witness_Count_l17 at h
    split at h <;> exact no_some h
  | succ k ih =>
    have hcf : CfOk (R := R) Try.prog glob raw (cf_witness_Count (machine_May kf) (witness_Count_l5 kf k) (witness_Count_l11 kf k) (witness_Count_l17 kf k) (witness_Count_l20 kf k) (witness_Count_l23 kf k)) := (cf_cons (shok_24 (ok_machine_May kf)) cf_nil)
    have hlf : LfOk (R := R) C_witness_Count 13 (lf_witness_Count (machine_May kf) (witness_Count_l5 kf k) (witness_Count_l11 kf k) (witness_Count_l17 kf k) (witness_Count_l20 kf k) (witness_Count_l23 kf k)) := (lf_top (lf_cons (lok_witness_Count_l5 kf k) (lf_cons (lok_witness_Count_l11 kf k) (lf_cons ih (lf_cons (lok_witness_Count_l20 kf k) (lf_cons (lok_witness_Count_l23 kf k) lf_nil))))))
    intro vs es K r h
    unfold sl_witness_Count_l17 at h
    split at h
    · exact loop_good (text_mixed t_witness_Count) hcf hlf (text_loop t_witness_Count 17).1 (text_loop t_witness_Count 17).2 ((eq_witness_Count_l17 (machine_May kf) (witness_Count_l5 kf k) (witness_Count_l11 kf k) (witness_Count_l17 kf k) (witness_Count_l20 kf k) (witness_Count_l23 kf k) _ _ _ _ _ _ _ K).trans h)
    · exact no_some h

theorem ok_witness_Count {R : Type} (kf : Nat) : Ok_witness_Count (R := R) (witness_Count kf) := by
  have hcf : CfOk (R := R) Try.prog glob raw (cf_witness_Count (machine_May kf) (witness_Count_l5 kf kf) (witness_Count_l11 kf kf) (witness_Count_l17 kf kf) (witness_Count_l20 kf kf) (witness_Count_l23 kf kf)) := (cf_cons (shok_24 (ok_machine_May kf)) cf_nil)
  have hlf : LfOk (R := R) C_witness_Count 13 (lf_witness_Count (machine_May kf) (witness_Count_l5 kf kf) (witness_Count_l11 kf kf) (witness_Count_l17 kf kf) (witness_Count_l20 kf kf) (witness_Count_l23 kf kf)) := (lf_top (lf_cons (lok_witness_Count_l5 kf kf) (lf_cons (lok_witness_Count_l11 kf kf) (lf_cons (lok_witness_Count_l17 kf kf) (lf_cons (lok_witness_Count_l20 kf kf) (lf_cons (lok_witness_Count_l23 kf kf) lf_nil))))))
  intro v1 v2 v3 v4 K r h
  exact run_good t_witness_Count hcf hlf ((eq_witness_Count (machine_May kf) (witness_Count_l5 kf kf) (witness_Count_l11 kf kf) (witness_Count_l17 kf kf) (witness_Count_l20 kf kf) (witness_Count_l23 kf kf) v1 v2 v3 v4 K).trans h)

theorem t_witness_Words_1 : textOk C_witness_Words_1.bef Try.prog 31 = true := by kernel_rfl

theorem ok_witness_Words_1 {R : Type} : Ok_witness_Words_1 (R := R) witness_Words_1 := by
  have hcf : CfOk (R := R) Try.prog glob raw (cf_witness_Words_1) := cf_nil
  have hlf : LfOk (R := R) C_witness_Words_1 31 (lf_witness_Words_1) := lf_none
  intro v1 v2 K r h
  exact run_good t_witness_Words_1 hcf hlf ((eq_witness_Words_1 v1 v2 K).trans h)

theorem t_slices_IndexFunc_int_int_s1 : textOk C_slices_IndexFunc_int_int_s1.bef Try.prog 38 = true := by kernel_rfl

theorem sln_slices_IndexFunc_int_int_s1_l2 {R : Type} : SlOk (R := R) C_slices_IndexFunc_int_int_s1 38 19 1 2 (sl_slices_IndexFunc_int_int_s1_l2 (fun _ _ _ _ _ _ => none)) := by
  intro vs es K r h
  unfold sl_slices_IndexFunc_int_int_s1_l2 at h
  split at h <;> exact no_some h

theorem lok_slices_IndexFunc_int_int_s1_l2 {R : Type} (kf : Nat) : ∀ n, SlOk (R := R) C_slices_IndexFunc_int_int_s1 38 19 1 2 (sl_slices_IndexFunc_int_int_s1_l2 (slices_IndexFunc_int_int_s1_l2 kf n)) := by
  intro n
  induction n with
  | zero =>
    intro vs es K r h
    unfold sl_slices_IndexFunc_int_int_s1_l2 at h
    split at h <;> exact no_some h
  | succ k ih =>
    have hcf : CfOk (R := R) Try.prog glob raw (cf_slices_IndexFunc_int_int_s1 witness_Words_1 (slices_IndexFunc_int_int_s1_l2 kf k)) := (cf_cons (shok_31 (ok_witness_Words_1)) cf_nil)
    have hlf : LfOk (R := R) C_slices_IndexFunc_int_int_s1 38 (lf_slices_IndexFunc_int_int_s1 witness_Words_1 (slices_IndexFunc_int_int_s1_l2 kf k)) := (lf_top (lf_cons ih lf_nil))
    intro vs es K r h
    unfold sl_slices_IndexFunc_int_int_s1_l2 at h
    split at h
    · exact loop_good (text_mixed t_slices_IndexFunc_int_int_s1) hcf hlf (text_loop t_slices_IndexFunc_int_int_s1 2).1 (text_loop t_slices_IndexFunc_int_int_s1 2).2 ((eq_slices_IndexFunc_int_int_s1_l2 witness_Words_1 (slices_IndexFunc_int_int_s1_l2 kf k) _ _ _ _ K).trans h)
    · exact no_some h

theorem ok_slices_IndexFunc_int_int_s1 {R : Type} (kf : Nat) : Ok_slices_IndexFunc_int_int_s1 (R := R) (slices_IndexFunc_int_int_s1 kf) := by
  have hcf : CfOk (R := R) Try.prog glob raw (cf_slices_IndexFunc_int_int_s1 witness_Words_1 (slices_IndexFunc_int_int_s1_l2 kf kf)) := (cf_cons (shok_31 (ok_witness_Words_1)) cf_nil)
  have hlf : LfOk (R := R) C_slices_IndexFunc_int_int_s1 38 (lf_slices_IndexFunc_int_int_s1 witness_Words_1 (slices_IndexFunc_int_int_s1_l2 kf kf)) := (lf_top (lf_cons (lok_slices_IndexFunc_int_int_s1_l2 kf kf) lf_nil))
  intro v1 v2 K r h
  exact run_good t_slices_IndexFunc_int_int_s1 hcf hlf ((eq_slices_IndexFunc_int_int_s1 witness_Words_1 (slices_IndexFunc_int_int_s1_l2 kf kf) v1 v2 K).trans h)

theorem t_slices_ContainsFunc_int_int_s1 : textOk C_slices_ContainsFunc_int_int_s1.bef Try.prog 30 = true := by kernel_rfl

theorem ok_slices_ContainsFunc_int_int_s1 {R : Type} (kf : Nat) : Ok_slices_ContainsFunc_int_int_s1 (R := R) (slices_ContainsFunc_int_int_s1 kf) := by
  have hcf : CfOk (R := R) Try.prog glob raw (cf_slices_ContainsFunc_int_int_s1 (slices_IndexFunc_int_int_s1 kf)) := (cf_cons (shok_38 okn_slices_IndexFunc_int_int (ok_slices_IndexFunc_int_int_s1 kf)) cf_nil)
  have hlf : LfOk (R := R) C_slices_ContainsFunc_int_int_s1 30 (lf_slices_ContainsFunc_int_int_s1 (slices_IndexFunc_int_int_s1 kf)) := lf_none
  intro v1 v2 K r h
  exact run_good t_slices_ContainsFunc_int_int_s1 hcf hlf ((eq_slices_ContainsFunc_int_int_s1 (slices_IndexFunc_int_int_s1 kf) v1 v2 K).trans h)

theorem t_witness_finder_finds : textOk C_witness_finder_finds.bef Try.prog 32 = true := by kernel_rfl

theorem sln_witness_finder_finds_l4 {R : Type} : SlOk (R := R) C_witness_finder_finds 32 96 1 4 (sl_witness_finder_finds_l4 (fun _ _ _ _ _ _ _ _ _ _ _ => none)) := by
  intro vs es K r h
  unfold sl_witness_finder_finds_l4 at h
  split at h <;> exact no_some h

theorem lok_witness_finder_finds_l4 {R : Type} {c_self : Int → Int → (List Int) → (List (List Int)) → (List Bool) → Int → (List (List Bool)) → (List Int) → (List (List Int)) → ((List Int) → (List (List Int)) → (List Bool) → Int → (List (List Bool)) → (List Int) → (List (List Int)) → Option R) → Option R} (hs : Ok_witness_finder_finds c_self) (kf : Nat) : ∀ n, SlOk (R := R) C_witness_finder_finds 32 96 1 4 (sl_witness_finder_finds_l4 (witness_finder_finds_l4 c_self kf n)) := by
  intro n
  induction n with
  | zero =>
    intro vs es K r h
    unfold sl_witness_finder_finds_l4 at h
    split at h <;> exact no_some h
  | succ k ih =>
    have hcf : CfOk (R := R) Try.prog glob raw (cf_witness_finder_finds c_self (witness_finder_finds_l4 c_self kf k)) := (cf_cons (clok_39) (cf_cons (shok_32 (hs)) cf_nil))
    have hlf : LfOk (R := R) C_witness_finder_finds 32 (lf_witness_finder_finds c_self (witness_finder_finds_l4 c_self kf k)) := (lf_top (lf_cons ih lf_nil))
    intro vs es K r h
    unfold sl_witness_finder_finds_l4 at h
    split at h
    · exact loop_good (text_mixed t_witness_finder_finds) hcf hlf (text_loop t_witness_finder_finds 4).1 (text_loop t_witness_finder_finds 4).2 ((eq_witness_finder_finds_l4 c_self (witness_finder_finds_l4 c_self kf k) _ _ _ _ _ _ _ _ _ _ K).trans h)
    · exact no_some h

theorem ok_witness_finder_finds {R : Type} : ∀ kf, Ok_witness_finder_finds (R := R) (witness_finder_finds kf) := by
  intro kf
  induction kf with
  | zero =>
    intro v1 v2 v3 v4 v5 v6 v7 v8 v9 K r h
    exact no_some h
  | succ kf hs =>
    have hcf : CfOk (R := R) Try.prog glob raw (cf_witness_finder_finds (witness_finder_finds kf) (witness_finder_finds_l4 (witness_finder_finds kf) kf kf)) := (cf_cons (clok_39) (cf_cons (shok_32 (hs)) cf_nil))
    have hlf : LfOk (R := R) C_witness_finder_finds 32 (lf_witness_finder_finds (witness_finder_finds kf) (witness_finder_finds_l4 (witness_finder_finds kf) kf kf)) := (lf_top (lf_cons (lok_witness_finder_finds_l4 hs kf kf) lf_nil))
    intro v1 v2 v3 v4 v5 v6 v7 v8 v9 K r h
    exact run_good t_witness_finder_finds hcf hlf ((eq_witness_finder_finds (witness_finder_finds kf) (witness_finder_finds_l4 (witness_finder_finds kf) kf kf) v1 v2 v3 v4 v5 v6 v7 v8 v9 K).trans h)

theorem t_witness_Words : textOk C_witness_Words.bef Try.prog 16 = true := by kernel_rfl

theorem sln_witness_Words_l5 {R : Type} : SlOk (R := R) C_witness_Words 16 86 0 5 (sl_witness_Words_l5 (fun _ _ _ _ _ _ _ _ _ _ _ _ _ _ => none)) := by
  intro vs es K r h
  unfold sl_witness_Words_l5 at h
  split at h <;> exact no_some h

theorem sln_witness_Words_l9 {R : Type} : SlOk (R := R) C_witness_Words 16 86 0 9 (sl_witness_Words_l9 (fun _ _ _ _ _ _ _ _ _ _ _ _ _ _ _ _ _ _ _ => none)) := by
  intro vs es K r h
  unfold sl_witness_Words_l9 at h
  split at h <;> exact no_some h

theorem lok_witness_Words_l9 {R : Type} (kf : Nat) : ∀ n, SlOk (R := R) C_witness_Words 16 86 0 9 (sl_witness_Words_l9 (witness_Words_l9 kf n)) := by
  intro n
  induction n with
  | zero =>
    intro vs es K r h
    unfold sl_witness_Words_l9 at h
    split at h <;> exact no_some h
  | succ k ih =>
    have hcf : CfOk (R := R) Try.prog glob raw (cf_witness_Words (machine_May kf) (slices_ContainsFunc_int_int_s1 kf) (witness_finder_finds kf) (fun _ _ _ _ _ _ _ _ _ _ _ _ _ _ => none) (witness_Words_l9 kf k)) := (cf_cons (shok_24 (ok_machine_May kf)) (cf_cons (shok_30 okn_slices_ContainsFunc_int_int (ok_slices_ContainsFunc_int_int_s1 kf)) (cf_cons (shok_32 (ok_witness_finder_finds kf)) cf_nil)))
    have hlf : LfOk (R := R) C_witness_Words 16 (lf_witness_Words (machine_May kf) (slices_ContainsFunc_int_int_s1 kf) (witness_finder_finds kf) (fun _ _ _ _ _ _ _ _ _ _ _ _ _ _ => none) (witness_Words_l9 kf k)) := (lf_top (lf_cons (sln_witness_Words_l5) (lf_cons ih lf_nil)))
    intro vs es K r h
    unfold sl_witness_Words_l9 at h
    split at h
    · exact loop_good (text_mixed t_witness_Words) hcf hlf (text_loop t_witness_Words 9).1 (text_loop t_witness_Words 9).2 ((eq_witness_Words_l9 (machine_May kf) (slices_ContainsFunc_int_int_s1 kf) (witness_finder_finds kf) (fun _ _ _ _ _ _ _ _ _ _ _ _ _ _ => none) (witness_Words_l9 kf k) _ _ _ _ _ _ _ _ _ _ _ _ _ _ _ _ _ _ K).trans h)
    · exact no_some h

theorem lok_witness_Words_l5 {R : Type} (kf : Nat) : ∀ n, SlOk (R := R) C_witness_Words 16 86 0 5 (sl_witness_Words_l5 (witness_Words_l5 kf n)) := by
  intro n
  induction n with
  | zero =>
    intro vs es K r h
    unfold sl_witness_Words_l5 at h
    split at h <;> exact no_some h
  | succ k ih =>
    have hcf : CfOk (R := R) Try.prog glob raw (cf_witness_Words (machine_May kf) (slices_ContainsFunc_int_int_s1 kf) (witness_finder_finds kf) (witness_Words_l5 kf k) (witness_Words_l9 kf k)) := (cf_cons (shok_24 (ok_machine_May kf)) (cf_cons (shok_30 okn_slices_ContainsFunc_int_int (ok_slices_ContainsFunc_int_int_s1 kf)) (cf_cons (shok_32 (ok_witness_finder_finds kf)) cf_nil)))
    have hlf : LfOk (R := R) C_witness_Words 16 (lf_witness_Words (machine_May kf) (slices_ContainsFunc_int_int_s1 kf) (witness_finder_finds kf) (witness_Words_l5 kf k) (witness_Words_l9 kf k)) := (lf_top (lf_cons ih (lf_cons (lok_witness_Words_l9 kf k) lf_nil)))
    intro vs es K r h
    unfold sl_witness_Words_l5 at h
    split at h
    · exact loop_good (text_mixed t_witness_Words) hcf hlf (text_loop t_witness_Words 5).1 (text_loop t_witness_Words 5).2 ((eq_witness_Words_l5 (machine_May kf) (slices_ContainsFunc_int_int_s1 kf) (witness_finder_finds kf) (witness_Words_l5 kf k) (witness_Words_l9 kf k) _ _ _ _ _ _ _ _ _ _ _ _ _ K).trans h)
    · exact no_some h

theorem ok_witness_Words {R : Type} (kf : Nat) : Ok_witness_Words (R := R) (witness_Words kf) := by
  have hcf : CfOk (R := R) Try.prog glob raw (cf_witness_Words (machine_May kf) (slices_ContainsFunc_int_int_s1 kf) (witness_finder_finds kf) (witness_Words_l5 kf kf) (witness_Words_l9 kf kf)) := (cf_cons (shok_24 (ok_machine_May kf)) (cf_cons (shok_30 okn_slices_ContainsFunc_int_int (ok_slices_ContainsFunc_int_int_s1 kf)) (cf_cons (shok_32 (ok_witness_finder_finds kf)) cf_nil)))
  have hlf : LfOk (R := R) C_witness_Words 16 (lf_witness_Words (machine_May kf) (slices_ContainsFunc_int_int_s1 kf) (witness_finder_finds kf) (witness_Words_l5 kf kf) (witness_Words_l9 kf kf)) := (lf_top (lf_cons (lok_witness_Words_l5 kf kf) (lf_cons (lok_witness_Words_l9 kf kf) lf_nil)))
  intro v1 v2 v3 v4 v5 K r h
  exact run_good t_witness_Words hcf hlf ((eq_witness_Words (machine_May kf) (slices_ContainsFunc_int_int_s1 kf) (witness_finder_finds kf) (witness_Words_l5 kf kf) (witness_Words_l9 kf kf) v1 v2 v3 v4 v5 K).trans h)

theorem t_law14_begun : textOk C_law14_begun.bef Try.prog 9 = true := by kernel_rfl

theorem ok_law14_begun {R : Type} (kf : Nat) : Ok_law14_begun (R := R) (law14_begun kf) := by
  have hcf : CfOk (R := R) Try.prog glob raw (cf_law14_begun (witness_Shortest kf) (witness_Count kf) (witness_Words kf)) := (cf_cons (shok_11 (ok_witness_Shortest kf)) (cf_cons (shok_13 (ok_witness_Count kf)) (cf_cons (shok_16 (ok_witness_Words kf)) cf_nil)))
  have hlf : LfOk (R := R) C_law14_begun 9 (lf_law14_begun (witness_Shortest kf) (witness_Count kf) (witness_Words kf)) := lf_none
  intro K r h
  exact run_good t_law14_begun hcf hlf ((eq_law14_begun (witness_Shortest kf) (witness_Count kf) (witness_Words kf) K).trans h)

theorem t_play_Made : textOk C_play_Made.bef Try.prog 22 = true := by kernel_rfl

theorem ok_play_Made {R : Type} : Ok_play_Made (R := R) play_Made := by
  have hcf : CfOk (R := R) Try.prog glob raw (cf_play_Made) := cf_nil
  have hlf : LfOk (R := R) C_play_Made 22 (lf_play_Made) := lf_none
  intro v1 K r h
  exact run_good t_play_Made hcf hlf ((eq_play_Made v1 K).trans h)

theorem t_play_Picks_num : textOk C_play_Picks_num.bef Try.prog 23 = true := by kernel_rfl

theorem ok_play_Picks_num {R : Type} : Ok_play_Picks_num (R := R) play_Picks_num := by
  have hcf : CfOk (R := R) Try.prog glob raw (cf_play_Picks_num) := cf_nil
  have hlf : LfOk (R := R) C_play_Picks_num 23 (lf_play_Picks_num) := lf_none
  intro v1 v2 v3 K r h
  exact run_good t_play_Picks_num hcf hlf ((eq_play_Picks_num v1 v2 v3 K).trans h)

theorem t_play_Dfa : textOk C_play_Dfa.bef Try.prog 10 = true := by kernel_rfl

theorem sln_play_Dfa_l5 {R : Type} : SlOk (R := R) C_play_Dfa 10 80 0 5 (sl_play_Dfa_l5 (fun _ _ _ _ _ _ _ _ _ _ _ _ => none)) := by
  intro vs es K r h
  unfold sl_play_Dfa_l5 at h
  split at h <;> exact no_some h

theorem sln_play_Dfa_l12 {R : Type} : SlOk (R := R) C_play_Dfa 10 80 0 12 (sl_play_Dfa_l12 (fun _ _ _ _ _ _ _ _ _ _ _ _ => none)) := by
  intro vs es K r h
  unfold sl_play_Dfa_l12 at h
  split at h <;> exact no_some h

theorem sln_play_Dfa_l16 {R : Type} : SlOk (R := R) C_play_Dfa 10 80 0 16 (sl_play_Dfa_l16 (fun _ _ _ _ _ _ _ _ _ _ _ _ _ _ => none)) := by
  intro vs es K r h
  unfold sl_play_Dfa_l16 at h
  split at h <;> exact no_some h

theorem lok_play_Dfa_l5 {R : Type} (kf : Nat) : ∀ n, SlOk (R := R) C_play_Dfa 10 80 0 5 (sl_play_Dfa_l5 (play_Dfa_l5 kf n)) := by
  intro n
  induction n with
  | zero =>
    intro vs es K r h
    unfold sl_play_Dfa_l5 at h
    split at h <;> exact no_some h
  | succ k ih =>
    have hcf : CfOk (R := R) Try.prog glob raw (cf_play_Dfa play_Made play_Picks_num (play_Dfa_l5 kf k) (fun _ _ _ _ _ _ _ _ _ _ _ _ => none) (fun _ _ _ _ _ _ _ _ _ _ _ _ _ _ => none)) := (cf_cons (shok_22 (ok_play_Made)) (cf_cons (shok_23 (ok_play_Picks_num)) cf_nil))
    have hlf : LfOk (R := R) C_play_Dfa 10 (lf_play_Dfa play_Made play_Picks_num (play_Dfa_l5 kf k) (fun _ _ _ _ _ _ _ _ _ _ _ _ => none) (fun _ _ _ _ _ _ _ _ _ _ _ _ _ _ => none)) := (lf_top (lf_cons ih (lf_cons (sln_play_Dfa_l12) (lf_cons (sln_play_Dfa_l16) lf_nil))))
    intro vs es K r h
    unfold sl_play_Dfa_l5 at h
    split at h
    · exact loop_good (text_mixed t_play_Dfa) hcf hlf (text_loop t_play_Dfa 5).1 (text_loop t_play_Dfa 5).2 ((eq_play_Dfa_l5 play_Made play_Picks_num (play_Dfa_l5 kf k) (fun _ _ _ _ _ _ _ _ _ _ _ _ => none) (fun _ _ _ _ _ _ _ _ _ _ _ _ _ _ => none) _ _ _ _ _ _ _ _ _ _ _ K).trans h)
    · exact no_some h

theorem lok_play_Dfa_l16 {R : Type} (kf : Nat) : ∀ n, SlOk (R := R) C_play_Dfa 10 80 0 16 (sl_play_Dfa_l16 (play_Dfa_l16 kf n)) := by
  intro n
  induction n with
  | zero =>
    intro vs es K r h
    unfold sl_play_Dfa_l16 at h
    split at h <;> exact no_some h
  | succ k ih =>
    have hcf : CfOk (R := R) Try.prog glob raw (cf_play_Dfa play_Made play_Picks_num (play_Dfa_l5 kf k) (fun _ _ _ _ _ _ _ _ _ _ _ _ => none) (play_Dfa_l16 kf k)) := (cf_cons (shok_22 (ok_play_Made)) (cf_cons (shok_23 (ok_play_Picks_num)) cf_nil))
    have hlf : LfOk (R := R) C_play_Dfa 10 (lf_play_Dfa play_Made play_Picks_num (play_Dfa_l5 kf k) (fun _ _ _ _ _ _ _ _ _ _ _ _ => none) (play_Dfa_l16 kf k)) := (lf_top (lf_cons (lok_play_Dfa_l5 kf k) (lf_cons (sln_play_Dfa_l12) (lf_cons ih lf_nil))))
    intro vs es K r h
    unfold sl_play_Dfa_l16 at h
    split at h
    · exact loop_good (text_mixed t_play_Dfa) hcf hlf (text_loop t_play_Dfa 16).1 (text_loop t_play_Dfa 16).2 ((eq_play_Dfa_l16 play_Made play_Picks_num (play_Dfa_l5 kf k) (fun _ _ _ _ _ _ _ _ _ _ _ _ => none) (play_Dfa_l16 kf k) _ _ _ _ _ _ _ _ _ _ _ _ _ K).trans h)
    · exact no_some h

theorem lok_play_Dfa_l12 {R : Type} (kf : Nat) : ∀ n, SlOk (R := R) C_play_Dfa 10 80 0 12 (sl_play_Dfa_l12 (play_Dfa_l12 kf n)) := by
  intro n
  induction n with
  | zero =>
    intro vs es K r h
    unfold sl_play_Dfa_l12 at h
    split at h <;> exact no_some h
  | succ k ih =>
    have hcf : CfOk (R := R) Try.prog glob raw (cf_play_Dfa play_Made play_Picks_num (play_Dfa_l5 kf k) (play_Dfa_l12 kf k) (play_Dfa_l16 kf k)) := (cf_cons (shok_22 (ok_play_Made)) (cf_cons (shok_23 (ok_play_Picks_num)) cf_nil))
    have hlf : LfOk (R := R) C_play_Dfa 10 (lf_play_Dfa play_Made play_Picks_num (play_Dfa_l5 kf k) (play_Dfa_l12 kf k) (play_Dfa_l16 kf k)) := (lf_top (lf_cons (lok_play_Dfa_l5 kf k) (lf_cons ih (lf_cons (lok_play_Dfa_l16 kf k) lf_nil))))
    intro vs es K r h
    unfold sl_play_Dfa_l12 at h
    split at h
    · exact loop_good (text_mixed t_play_Dfa) hcf hlf (text_loop t_play_Dfa 12).1 (text_loop t_play_Dfa 12).2 ((eq_play_Dfa_l12 play_Made play_Picks_num (play_Dfa_l5 kf k) (play_Dfa_l12 kf k) (play_Dfa_l16 kf k) _ _ _ _ _ _ _ _ _ _ _ K).trans h)
    · exact no_some h

theorem ok_play_Dfa {R : Type} (kf : Nat) : Ok_play_Dfa (R := R) (play_Dfa kf) := by
  have hcf : CfOk (R := R) Try.prog glob raw (cf_play_Dfa play_Made play_Picks_num (play_Dfa_l5 kf kf) (play_Dfa_l12 kf kf) (play_Dfa_l16 kf kf)) := (cf_cons (shok_22 (ok_play_Made)) (cf_cons (shok_23 (ok_play_Picks_num)) cf_nil))
  have hlf : LfOk (R := R) C_play_Dfa 10 (lf_play_Dfa play_Made play_Picks_num (play_Dfa_l5 kf kf) (play_Dfa_l12 kf kf) (play_Dfa_l16 kf kf)) := (lf_top (lf_cons (lok_play_Dfa_l5 kf kf) (lf_cons (lok_play_Dfa_l12 kf kf) (lf_cons (lok_play_Dfa_l16 kf kf) lf_nil))))
  intro v1 v2 v3 K r h
  exact run_good t_play_Dfa hcf hlf ((eq_play_Dfa play_Made play_Picks_num (play_Dfa_l5 kf kf) (play_Dfa_l12 kf kf) (play_Dfa_l16 kf kf) v1 v2 v3 K).trans h)

theorem t_ref11_Classes : textOk C_ref11_Classes.bef Try.prog 29 = true := by kernel_rfl

theorem sln_ref11_Classes_l3 {R : Type} : SlOk (R := R) C_ref11_Classes 29 18 0 3 (sl_ref11_Classes_l3 (fun _ _ _ _ => none)) := by
  intro vs es K r h
  unfold sl_ref11_Classes_l3 at h
  split at h <;> exact no_some h

theorem lok_ref11_Classes_l3 {R : Type} (kf : Nat) : ∀ n, SlOk (R := R) C_ref11_Classes 29 18 0 3 (sl_ref11_Classes_l3 (ref11_Classes_l3 kf n)) := by
  intro n
  induction n with
  | zero =>
    intro vs es K r h
    unfold sl_ref11_Classes_l3 at h
    split at h <;> exact no_some h
  | succ k ih =>
    have hcf : CfOk (R := R) Try.prog glob raw (cf_ref11_Classes (ref11_Classes_l3 kf k)) := cf_nil
    have hlf : LfOk (R := R) C_ref11_Classes 29 (lf_ref11_Classes (ref11_Classes_l3 kf k)) := (lf_top (lf_cons ih lf_nil))
    intro vs es K r h
    unfold sl_ref11_Classes_l3 at h
    split at h
    · exact loop_good (text_mixed t_ref11_Classes) hcf hlf (text_loop t_ref11_Classes 3).1 (text_loop t_ref11_Classes 3).2 ((eq_ref11_Classes_l3 (ref11_Classes_l3 kf k) _ _ _ _ _ K).trans h)
    · exact no_some h

theorem ok_ref11_Classes {R : Type} (kf : Nat) : Ok_ref11_Classes (R := R) (ref11_Classes kf) := by
  have hcf : CfOk (R := R) Try.prog glob raw (cf_ref11_Classes (ref11_Classes_l3 kf kf)) := cf_nil
  have hlf : LfOk (R := R) C_ref11_Classes 29 (lf_ref11_Classes (ref11_Classes_l3 kf kf)) := (lf_top (lf_cons (lok_ref11_Classes_l3 kf kf) lf_nil))
  intro v1 v2 v3 K r h
  exact run_good t_ref11_Classes hcf hlf ((eq_ref11_Classes (ref11_Classes_l3 kf kf) v1 v2 v3 K).trans h)

theorem t_ref11_May : textOk C_ref11_May.bef Try.prog 27 = true := by kernel_rfl

theorem sln_ref11_May_l5 {R : Type} : SlOk (R := R) C_ref11_May 27 64 0 5 (sl_ref11_May_l5 (fun _ _ _ _ _ _ _ _ => none)) := by
  intro vs es K r h
  unfold sl_ref11_May_l5 at h
  split at h <;> exact no_some h

theorem sln_ref11_May_l10 {R : Type} : SlOk (R := R) C_ref11_May 27 64 0 10 (sl_ref11_May_l10 (fun _ _ _ _ _ _ _ _ _ => none)) := by
  intro vs es K r h
  unfold sl_ref11_May_l10 at h
  split at h <;> exact no_some h

theorem lok_ref11_May_l10 {R : Type} (kf : Nat) : ∀ n, SlOk (R := R) C_ref11_May 27 64 0 10 (sl_ref11_May_l10 (ref11_May_l10 kf n)) := by
  intro n
  induction n with
  | zero =>
    intro vs es K r h
    unfold sl_ref11_May_l10 at h
    split at h <;> exact no_some h
  | succ k ih =>
    have hcf : CfOk (R := R) Try.prog glob raw (cf_ref11_May (ref11_Classes kf) (fun _ _ _ _ _ _ _ _ => none) (ref11_May_l10 kf k)) := (cf_cons (shok_29 (ok_ref11_Classes kf)) cf_nil)
    have hlf : LfOk (R := R) C_ref11_May 27 (lf_ref11_May (ref11_Classes kf) (fun _ _ _ _ _ _ _ _ => none) (ref11_May_l10 kf k)) := (lf_top (lf_cons (sln_ref11_May_l5) (lf_cons ih lf_nil)))
    intro vs es K r h
    unfold sl_ref11_May_l10 at h
    split at h
    · exact loop_good (text_mixed t_ref11_May) hcf hlf (text_loop t_ref11_May 10).1 (text_loop t_ref11_May 10).2 ((eq_ref11_May_l10 (ref11_Classes kf) (fun _ _ _ _ _ _ _ _ => none) (ref11_May_l10 kf k) _ _ _ _ _ _ _ K).trans h)
    · exact no_some h

theorem lok_ref11_May_l5 {R : Type} (kf : Nat) : ∀ n, SlOk (R := R) C_ref11_May 27 64 0 5 (sl_ref11_May_l5 (ref11_May_l5 kf n)) := by
  intro n
  induction n with
  | zero =>
    intro vs es K r h
    unfold sl_ref11_May_l5 at h
    split at h <;> exact no_some h
  | succ k ih =>
    have hcf : CfOk (R := R) Try.prog glob raw (cf_ref11_May (ref11_Classes kf) (ref11_May_l5 kf k) (ref11_May_l10 kf k)) := (cf_cons (shok_29 (ok_ref11_Classes kf)) cf_nil)
    have hlf : LfOk (R := R) C_ref11_May 27 (lf_ref11_May (ref11_Classes kf) (ref11_May_l5 kf k) (ref11_May_l10 kf k)) := (lf_top (lf_cons ih (lf_cons (lok_ref11_May_l10 kf k) lf_nil)))
    intro vs es K r h
    unfold sl_ref11_May_l5 at h
    split at h
    · exact loop_good (text_mixed t_ref11_May) hcf hlf (text_loop t_ref11_May 5).1 (text_loop t_ref11_May 5).2 ((eq_ref11_May_l5 (ref11_Classes kf) (ref11_May_l5 kf k) (ref11_May_l10 kf k) _ _ _ _ _ _ K).trans h)
    · exact no_some h

theorem ok_ref11_May {R : Type} (kf : Nat) : Ok_ref11_May (R := R) (ref11_May kf) := by
  have hcf : CfOk (R := R) Try.prog glob raw (cf_ref11_May (ref11_Classes kf) (ref11_May_l5 kf kf) (ref11_May_l10 kf kf)) := (cf_cons (shok_29 (ok_ref11_Classes kf)) cf_nil)
  have hlf : LfOk (R := R) C_ref11_May 27 (lf_ref11_May (ref11_Classes kf) (ref11_May_l5 kf kf) (ref11_May_l10 kf kf)) := (lf_top (lf_cons (lok_ref11_May_l5 kf kf) (lf_cons (lok_ref11_May_l10 kf kf) lf_nil)))
  intro v1 v2 v3 K r h
  exact run_good t_ref11_May hcf hlf ((eq_ref11_May (ref11_Classes kf) (ref11_May_l5 kf kf) (ref11_May_l10 kf kf) v1 v2 v3 K).trans h)

theorem t_ref11_Live : textOk C_ref11_Live.bef Try.prog 18 = true := by kernel_rfl

theorem sln_ref11_Live_l5 {R : Type} : SlOk (R := R) C_ref11_Live 18 53 0 5 (sl_ref11_Live_l5 (fun _ _ _ _ _ _ => none)) := by
  intro vs es K r h
  unfold sl_ref11_Live_l5 at h
  split at h <;> exact no_some h

theorem sln_ref11_Live_l8 {R : Type} : SlOk (R := R) C_ref11_Live 18 53 0 8 (sl_ref11_Live_l8 (fun _ _ _ _ _ _ _ => none)) := by
  intro vs es K r h
  unfold sl_ref11_Live_l8 at h
  split at h <;> exact no_some h

theorem sln_ref11_Live_l11 {R : Type} : SlOk (R := R) C_ref11_Live 18 53 0 11 (sl_ref11_Live_l11 (fun _ _ _ _ _ _ _ _ => none)) := by
  intro vs es K r h
  unfold sl_ref11_Live_l11 at h
  split at h <;> exact no_some h

theorem lok_ref11_Live_l11 {R : Type} (kf : Nat) : ∀ n, SlOk (R := R) C_ref11_Live 18 53 0 11 (sl_ref11_Live_l11 (ref11_Live_l11 kf n)) := by
  intro n
  induction n with
  | zero =>
    intro vs es K r h
    unfold sl_ref11_Live_l11 at h
    split at h <;> exact no_some h
  | succ k ih =>
    have hcf : CfOk (R := R) Try.prog glob raw (cf_ref11_Live (ref11_May kf) (fun _ _ _ _ _ _ => none) (fun _ _ _ _ _ _ _ => none) (ref11_Live_l11 kf k)) := (cf_cons (shok_27 (ok_ref11_May kf)) cf_nil)
    have hlf : LfOk (R := R) C_ref11_Live 18 (lf_ref11_Live (ref11_May kf) (fun _ _ _ _ _ _ => none) (fun _ _ _ _ _ _ _ => none) (ref11_Live_l11 kf k)) := (lf_top (lf_cons (sln_ref11_Live_l5) (lf_cons (sln_ref11_Live_l8) (lf_cons ih lf_nil))))
    intro vs es K r h
    unfold sl_ref11_Live_l11 at h
    split at h
    · exact loop_good (text_mixed t_ref11_Live) hcf hlf (text_loop t_ref11_Live 11).1 (text_loop t_ref11_Live 11).2 ((eq_ref11_Live_l11 (ref11_May kf) (fun _ _ _ _ _ _ => none) (fun _ _ _ _ _ _ _ => none) (ref11_Live_l11 kf k) _ _ _ _ _ _ _ K).trans h)
    · exact no_some h

theorem lok_ref11_Live_l8 {R : Type} (kf : Nat) : ∀ n, SlOk (R := R) C_ref11_Live 18 53 0 8 (sl_ref11_Live_l8 (ref11_Live_l8 kf n)) := by
  intro n
  induction n with
  | zero =>
    intro vs es K r h
    unfold sl_ref11_Live_l8 at h
    split at h <;> exact no_some h
  | succ k ih =>
    have hcf : CfOk (R := R) Try.prog glob raw (cf_ref11_Live (ref11_May kf) (fun _ _ _ _ _ _ => none) (ref11_Live_l8 kf k) (ref11_Live_l11 kf k)) := (cf_cons (shok_27 (ok_ref11_May kf)) cf_nil)
    have hlf : LfOk (R := R) C_ref11_Live 18 (lf_ref11_Live (ref11_May kf) (fun _ _ _ _ _ _ => none) (ref11_Live_l8 kf k) (ref11_Live_l11 kf k)) := (lf_top (lf_cons (sln_ref11_Live_l5) (lf_cons ih (lf_cons (lok_ref11_Live_l11 kf k) lf_nil))))
    intro vs es K r h
    unfold sl_ref11_Live_l8 at h
    split at h
    · exact loop_good (text_mixed t_ref11_Live) hcf hlf (text_loop t_ref11_Live 8).1 (text_loop t_ref11_Live 8).2 ((eq_ref11_Live_l8 (ref11_May kf) (fun _ _ _ _ _ _ => none) (ref11_Live_l8 kf k) (ref11_Live_l11 kf k) _ _ _ _ _ _ K).trans h)
    · exact no_some h

theorem lok_ref11_Live_l5 {R : Type} (kf : Nat) : ∀ n, SlOk (R := R) C_ref11_Live 18 53 0 5 (sl_ref11_Live_l5 (ref11_Live_l5 kf n)) := by
  intro n
  induction n with
  | zero =>
    intro vs es K r h
    unfold sl_ref11_Live_l5 at h
    split at h <;> exact no_some h
  | succ k ih =>
    have hcf : CfOk (R := R) Try.prog glob raw (cf_ref11_Live (ref11_May kf) (ref11_Live_l5 kf k) (ref11_Live_l8 kf k) (ref11_Live_l11 kf k)) := (cf_cons (shok_27 (ok_ref11_May kf)) cf_nil)
    have hlf : LfOk (R := R) C_ref11_Live 18 (lf_ref11_Live (ref11_May kf) (ref11_Live_l5 kf k) (ref11_Live_l8 kf k) (ref11_Live_l11 kf k)) := (lf_top (lf_cons ih (lf_cons (lok_ref11_Live_l8 kf k) (lf_cons (lok_ref11_Live_l11 kf k) lf_nil))))
    intro vs es K r h
    unfold sl_ref11_Live_l5 at h
    split at h
    · exact loop_good (text_mixed t_ref11_Live) hcf hlf (text_loop t_ref11_Live 5).1 (text_loop t_ref11_Live 5).2 ((eq_ref11_Live_l5 (ref11_May kf) (ref11_Live_l5 kf k) (ref11_Live_l8 kf k) (ref11_Live_l11 kf k) _ _ _ _ _ K).trans h)
    · exact no_some h

theorem ok_ref11_Live {R : Type} (kf : Nat) : Ok_ref11_Live (R := R) (ref11_Live kf) := by
  have hcf : CfOk (R := R) Try.prog glob raw (cf_ref11_Live (ref11_May kf) (ref11_Live_l5 kf kf) (ref11_Live_l8 kf kf) (ref11_Live_l11 kf kf)) := (cf_cons (shok_27 (ok_ref11_May kf)) cf_nil)
  have hlf : LfOk (R := R) C_ref11_Live 18 (lf_ref11_Live (ref11_May kf) (ref11_Live_l5 kf kf) (ref11_Live_l8 kf kf) (ref11_Live_l11 kf kf)) := (lf_top (lf_cons (lok_ref11_Live_l5 kf kf) (lf_cons (lok_ref11_Live_l8 kf kf) (lf_cons (lok_ref11_Live_l11 kf kf) lf_nil))))
  intro v1 v2 v3 K r h
  exact run_good t_ref11_Live hcf hlf ((eq_ref11_Live (ref11_May kf) (ref11_Live_l5 kf kf) (ref11_Live_l8 kf kf) (ref11_Live_l11 kf kf) v1 v2 v3 K).trans h)

theorem t_ref11_To : textOk C_ref11_To.bef Try.prog 34 = true := by kernel_rfl

theorem sln_ref11_To_l4 {R : Type} : SlOk (R := R) C_ref11_To 34 43 0 4 (sl_ref11_To_l4 (fun _ _ _ _ _ _ => none)) := by
  intro vs es K r h
  unfold sl_ref11_To_l4 at h
  split at h <;> exact no_some h

theorem lok_ref11_To_l4 {R : Type} (kf : Nat) : ∀ n, SlOk (R := R) C_ref11_To 34 43 0 4 (sl_ref11_To_l4 (ref11_To_l4 kf n)) := by
  intro n
  induction n with
  | zero =>
    intro vs es K r h
    unfold sl_ref11_To_l4 at h
    split at h <;> exact no_some h
  | succ k ih =>
    have hcf : CfOk (R := R) Try.prog glob raw (cf_ref11_To (ref11_May kf) (ref11_To_l4 kf k)) := (cf_cons (shok_27 (ok_ref11_May kf)) cf_nil)
    have hlf : LfOk (R := R) C_ref11_To 34 (lf_ref11_To (ref11_May kf) (ref11_To_l4 kf k)) := (lf_top (lf_cons ih lf_nil))
    intro vs es K r h
    unfold sl_ref11_To_l4 at h
    split at h
    · exact loop_good (text_mixed t_ref11_To) hcf hlf (text_loop t_ref11_To 4).1 (text_loop t_ref11_To 4).2 ((eq_ref11_To_l4 (ref11_May kf) (ref11_To_l4 kf k) _ _ _ _ _ _ K).trans h)
    · exact no_some h

theorem ok_ref11_To {R : Type} (kf : Nat) : Ok_ref11_To (R := R) (ref11_To kf) := by
  have hcf : CfOk (R := R) Try.prog glob raw (cf_ref11_To (ref11_May kf) (ref11_To_l4 kf kf)) := (cf_cons (shok_27 (ok_ref11_May kf)) cf_nil)
  have hlf : LfOk (R := R) C_ref11_To 34 (lf_ref11_To (ref11_May kf) (ref11_To_l4 kf kf)) := (lf_top (lf_cons (lok_ref11_To_l4 kf kf) lf_nil))
  intro v1 v2 v3 v4 v5 K r h
  exact run_good t_ref11_To hcf hlf ((eq_ref11_To (ref11_May kf) (ref11_To_l4 kf kf) v1 v2 v3 v4 v5 K).trans h)

theorem t_ref11_Run : textOk C_ref11_Run.bef Try.prog 19 = true := by kernel_rfl

theorem ok_ref11_Run {R : Type} (kf : Nat) : Ok_ref11_Run (R := R) (ref11_Run kf) := by
  have hcf : CfOk (R := R) Try.prog glob raw (cf_ref11_Run (ref11_To kf)) := (cf_cons (shok_34 (ok_ref11_To kf)) cf_nil)
  have hlf : LfOk (R := R) C_ref11_Run 19 (lf_ref11_Run (ref11_To kf)) := lf_none
  intro v1 v2 v3 v4 K r h
  exact run_good t_ref11_Run hcf hlf ((eq_ref11_Run (ref11_To kf) v1 v2 v3 v4 K).trans h)

theorem t_law14_WitnessLeast : textOk C_law14_WitnessLeast.bef Try.prog 4 = true := by kernel_rfl

theorem sln_law14_WitnessLeast_l9 {R : Type} : SlOk (R := R) C_law14_WitnessLeast 4 90 0 9 (sl_law14_WitnessLeast_l9 (fun _ _ _ _ _ _ _ => none)) := by
  intro vs es K r h
  unfold sl_law14_WitnessLeast_l9 at h
  split at h <;> exact no_some h

theorem sln_law14_WitnessLeast_l15 {R : Type} : SlOk (R := R) C_law14_WitnessLeast 4 90 0 15 (sl_law14_WitnessLeast_l15 (fun _ _ _ _ _ _ _ => none)) := by
  intro vs es K r h
  unfold sl_law14_WitnessLeast_l15 at h
  split at h <;> exact no_some h

theorem lok_law14_WitnessLeast_l9 {R : Type} (kf : Nat) : ∀ n, SlOk (R := R) C_law14_WitnessLeast 4 90 0 9 (sl_law14_WitnessLeast_l9 (law14_WitnessLeast_l9 kf n)) := by
  intro n
  induction n with
  | zero =>
    intro vs es K r h
    unfold sl_law14_WitnessLeast_l9 at h
    split at h <;> exact no_some h
  | succ k ih =>
    have hcf : CfOk (R := R) Try.prog glob raw (cf_law14_WitnessLeast (law14_begun kf) (play_Dfa kf) (witness_Shortest kf) (witness_Count kf) (ref11_Live kf) (witness_Words kf) (ref11_Run kf) (law14_WitnessLeast_l9 kf k) (fun _ _ _ _ _ _ _ => none)) := (cf_cons (shok_9 (ok_law14_begun kf)) (cf_cons (shok_10 (ok_play_Dfa kf)) (cf_cons (shok_11 (ok_witness_Shortest kf)) (cf_cons (shok_13 (ok_witness_Count kf)) (cf_cons (shok_18 (ok_ref11_Live kf)) (cf_cons (shok_16 (ok_witness_Words kf)) (cf_cons (shok_19 (ok_ref11_Run kf)) cf_nil)))))))
    have hlf : LfOk (R := R) C_law14_WitnessLeast 4 (lf_law14_WitnessLeast (law14_begun kf) (play_Dfa kf) (witness_Shortest kf) (witness_Count kf) (ref11_Live kf) (witness_Words kf) (ref11_Run kf) (law14_WitnessLeast_l9 kf k) (fun _ _ _ _ _ _ _ => none)) := (lf_top (lf_cons ih (lf_cons (sln_law14_WitnessLeast_l15) lf_nil)))
    intro vs es K r h
    unfold sl_law14_WitnessLeast_l9 at h
    split at h
    · exact loop_good (text_mixed t_law14_WitnessLeast) hcf hlf (text_loop t_law14_WitnessLeast 9).1 (text_loop t_law14_WitnessLeast 9).2 ((eq_law14_WitnessLeast_l9 (law14_begun kf) (play_Dfa kf) (witness_Shortest kf) (witness_Count kf) (ref11_Live kf) (witness_Words kf) (ref11_Run kf) (law14_WitnessLeast_l9 kf k) (fun _ _ _ _ _ _ _ => none) _ _ _ _ _ K).trans h)
    · exact no_some h

theorem lok_law14_WitnessLeast_l15 {R : Type} (kf : Nat) : ∀ n, SlOk (R := R) C_law14_WitnessLeast 4 90 0 15 (sl_law14_WitnessLeast_l15 (law14_WitnessLeast_l15 kf n)) := by
  intro n
  induction n with
  | zero =>
    intro vs es K r h
    unfold sl_law14_WitnessLeast_l15 at h
    split at h <;> exact no_some h
  | succ k ih =>
    have hcf : CfOk (R := R) Try.prog glob raw (cf_law14_WitnessLeast (law14_begun kf) (play_Dfa kf) (witness_Shortest kf) (witness_Count kf) (ref11_Live kf) (witness_Words kf) (ref11_Run kf) (law14_WitnessLeast_l9 kf k) (law14_WitnessLeast_l15 kf k)) := (cf_cons (shok_9 (ok_law14_begun kf)) (cf_cons (shok_10 (ok_play_Dfa kf)) (cf_cons (shok_11 (ok_witness_Shortest kf)) (cf_cons (shok_13 (ok_witness_Count kf)) (cf_cons (shok_18 (ok_ref11_Live kf)) (cf_cons (shok_16 (ok_witness_Words kf)) (cf_cons (shok_19 (ok_ref11_Run kf)) cf_nil)))))))
    have hlf : LfOk (R := R) C_law14_WitnessLeast 4 (lf_law14_WitnessLeast (law14_begun kf) (play_Dfa kf) (witness_Shortest kf) (witness_Count kf) (ref11_Live kf) (witness_Words kf) (ref11_Run kf) (law14_WitnessLeast_l9 kf k) (law14_WitnessLeast_l15 kf k)) := (lf_top (lf_cons (lok_law14_WitnessLeast_l9 kf k) (lf_cons ih lf_nil)))
    intro vs es K r h
    unfold sl_law14_WitnessLeast_l15 at h
    split at h
    · exact loop_good (text_mixed t_law14_WitnessLeast) hcf hlf (text_loop t_law14_WitnessLeast 15).1 (text_loop t_law14_WitnessLeast 15).2 ((eq_law14_WitnessLeast_l15 (law14_begun kf) (play_Dfa kf) (witness_Shortest kf) (witness_Count kf) (ref11_Live kf) (witness_Words kf) (ref11_Run kf) (law14_WitnessLeast_l9 kf k) (law14_WitnessLeast_l15 kf k) _ _ _ _ _ K).trans h)
    · exact no_some h

theorem ok_law14_WitnessLeast {R : Type} (kf : Nat) : Ok_law14_WitnessLeast (R := R) (law14_WitnessLeast kf) := by
  have hcf : CfOk (R := R) Try.prog glob raw (cf_law14_WitnessLeast (law14_begun kf) (play_Dfa kf) (witness_Shortest kf) (witness_Count kf) (ref11_Live kf) (witness_Words kf) (ref11_Run kf) (law14_WitnessLeast_l9 kf kf) (law14_WitnessLeast_l15 kf kf)) := (cf_cons (shok_9 (ok_law14_begun kf)) (cf_cons (shok_10 (ok_play_Dfa kf)) (cf_cons (shok_11 (ok_witness_Shortest kf)) (cf_cons (shok_13 (ok_witness_Count kf)) (cf_cons (shok_18 (ok_ref11_Live kf)) (cf_cons (shok_16 (ok_witness_Words kf)) (cf_cons (shok_19 (ok_ref11_Run kf)) cf_nil)))))))
  have hlf : LfOk (R := R) C_law14_WitnessLeast 4 (lf_law14_WitnessLeast (law14_begun kf) (play_Dfa kf) (witness_Shortest kf) (witness_Count kf) (ref11_Live kf) (witness_Words kf) (ref11_Run kf) (law14_WitnessLeast_l9 kf kf) (law14_WitnessLeast_l15 kf kf)) := (lf_top (lf_cons (lok_law14_WitnessLeast_l9 kf kf) (lf_cons (lok_law14_WitnessLeast_l15 kf kf) lf_nil)))
  intro v1 v2 v3 K r h
  exact run_good t_law14_WitnessLeast hcf hlf ((eq_law14_WitnessLeast (law14_begun kf) (play_Dfa kf) (witness_Shortest kf) (witness_Count kf) (ref11_Live kf) (witness_Words kf) (ref11_Run kf) (law14_WitnessLeast_l9 kf kf) (law14_WitnessLeast_l15 kf kf) v1 v2 v3 K).trans h)

theorem t_law14_WitnessWords : textOk C_law14_WitnessWords.bef Try.prog 5 = true := by kernel_rfl

theorem sln_law14_WitnessWords_l9 {R : Type} : SlOk (R := R) C_law14_WitnessWords 5 86 0 9 (sl_law14_WitnessWords_l9 (fun _ _ _ _ _ _ _ _ => none)) := by
  intro vs es K r h
  unfold sl_law14_WitnessWords_l9 at h
  split at h <;> exact no_some h

theorem lok_law14_WitnessWords_l9 {R : Type} (kf : Nat) : ∀ n, SlOk (R := R) C_law14_WitnessWords 5 86 0 9 (sl_law14_WitnessWords_l9 (law14_WitnessWords_l9 kf n)) := by
  intro n
  induction n with
  | zero =>
    intro vs es K r h
    unfold sl_law14_WitnessWords_l9 at h
    split at h <;> exact no_some h
  | succ k ih =>
    have hcf : CfOk (R := R) Try.prog glob raw (cf_law14_WitnessWords (law14_begun kf) (play_Dfa kf) (witness_Words kf) (ref11_Run kf) (witness_Count kf) (law14_WitnessWords_l9 kf k)) := (cf_cons (shok_9 (ok_law14_begun kf)) (cf_cons (shok_10 (ok_play_Dfa kf)) (cf_cons (shok_16 (ok_witness_Words kf)) (cf_cons (shok_19 (ok_ref11_Run kf)) (cf_cons (shok_13 (ok_witness_Count kf)) cf_nil)))))
    have hlf : LfOk (R := R) C_law14_WitnessWords 5 (lf_law14_WitnessWords (law14_begun kf) (play_Dfa kf) (witness_Words kf) (ref11_Run kf) (witness_Count kf) (law14_WitnessWords_l9 kf k)) := (lf_top (lf_cons ih lf_nil))
    intro vs es K r h
    unfold sl_law14_WitnessWords_l9 at h
    split at h
    · exact loop_good (text_mixed t_law14_WitnessWords) hcf hlf (text_loop t_law14_WitnessWords 9).1 (text_loop t_law14_WitnessWords 9).2 ((eq_law14_WitnessWords_l9 (law14_begun kf) (play_Dfa kf) (witness_Words kf) (ref11_Run kf) (witness_Count kf) (law14_WitnessWords_l9 kf k) _ _ _ _ _ _ K).trans h)
    · exact no_some h

theorem ok_law14_WitnessWords {R : Type} (kf : Nat) : Ok_law14_WitnessWords (R := R) (law14_WitnessWords kf) := by
  have hcf : CfOk (R := R) Try.prog glob raw (cf_law14_WitnessWords (law14_begun kf) (play_Dfa kf) (witness_Words kf) (ref11_Run kf) (witness_Count kf) (law14_WitnessWords_l9 kf kf)) := (cf_cons (shok_9 (ok_law14_begun kf)) (cf_cons (shok_10 (ok_play_Dfa kf)) (cf_cons (shok_16 (ok_witness_Words kf)) (cf_cons (shok_19 (ok_ref11_Run kf)) (cf_cons (shok_13 (ok_witness_Count kf)) cf_nil)))))
  have hlf : LfOk (R := R) C_law14_WitnessWords 5 (lf_law14_WitnessWords (law14_begun kf) (play_Dfa kf) (witness_Words kf) (ref11_Run kf) (witness_Count kf) (law14_WitnessWords_l9 kf kf)) := (lf_top (lf_cons (lok_law14_WitnessWords_l9 kf kf) lf_nil))
  intro v1 v2 v3 v4 K r h
  exact run_good t_law14_WitnessWords hcf hlf ((eq_law14_WitnessWords (law14_begun kf) (play_Dfa kf) (witness_Words kf) (ref11_Run kf) (witness_Count kf) (law14_WitnessWords_l9 kf kf) v1 v2 v3 v4 K).trans h)

theorem t_ref11_Copy : textOk C_ref11_Copy.bef Try.prog 35 = true := by kernel_rfl

theorem sln_ref11_Copy_l3 {R : Type} : SlOk (R := R) C_ref11_Copy 35 32 0 3 (sl_ref11_Copy_l3 (fun _ _ _ _ _ _ _ _ _ => none)) := by
  intro vs es K r h
  unfold sl_ref11_Copy_l3 at h
  split at h <;> exact no_some h

theorem lok_ref11_Copy_l3 {R : Type} (kf : Nat) : ∀ n, SlOk (R := R) C_ref11_Copy 35 32 0 3 (sl_ref11_Copy_l3 (ref11_Copy_l3 kf n)) := by
  intro n
  induction n with
  | zero =>
    intro vs es K r h
    unfold sl_ref11_Copy_l3 at h
    split at h <;> exact no_some h
  | succ k ih =>
    have hcf : CfOk (R := R) Try.prog glob raw (cf_ref11_Copy (ref11_Copy_l3 kf k)) := cf_nil
    have hlf : LfOk (R := R) C_ref11_Copy 35 (lf_ref11_Copy (ref11_Copy_l3 kf k)) := (lf_top (lf_cons ih lf_nil))
    intro vs es K r h
    unfold sl_ref11_Copy_l3 at h
    split at h
    · exact loop_good (text_mixed t_ref11_Copy) hcf hlf (text_loop t_ref11_Copy 3).1 (text_loop t_ref11_Copy 3).2 ((eq_ref11_Copy_l3 (ref11_Copy_l3 kf k) _ _ _ _ _ _ _ _ _ _ K).trans h)
    · exact no_some h

theorem ok_ref11_Copy {R : Type} (kf : Nat) : Ok_ref11_Copy (R := R) (ref11_Copy kf) := by
  have hcf : CfOk (R := R) Try.prog glob raw (cf_ref11_Copy (ref11_Copy_l3 kf kf)) := cf_nil
  have hlf : LfOk (R := R) C_ref11_Copy 35 (lf_ref11_Copy (ref11_Copy_l3 kf kf)) := (lf_top (lf_cons (lok_ref11_Copy_l3 kf kf) lf_nil))
  intro v1 v2 v3 K r h
  exact run_good t_ref11_Copy hcf hlf ((eq_ref11_Copy (ref11_Copy_l3 kf kf) v1 v2 v3 K).trans h)

theorem t_ref11_Flip : textOk C_ref11_Flip.bef Try.prog 20 = true := by kernel_rfl

theorem sln_ref11_Flip_l5 {R : Type} : SlOk (R := R) C_ref11_Flip 20 29 0 5 (sl_ref11_Flip_l5 (fun _ _ _ _ _ _ _ _ => none)) := by
  intro vs es K r h
  unfold sl_ref11_Flip_l5 at h
  split at h <;> exact no_some h

theorem lok_ref11_Flip_l5 {R : Type} (kf : Nat) : ∀ n, SlOk (R := R) C_ref11_Flip 20 29 0 5 (sl_ref11_Flip_l5 (ref11_Flip_l5 kf n)) := by
  intro n
  induction n with
  | zero =>
    intro vs es K r h
    unfold sl_ref11_Flip_l5 at h
    split at h <;> exact no_some h
  | succ k ih =>
    have hcf : CfOk (R := R) Try.prog glob raw (cf_ref11_Flip (ref11_May kf) (ref11_Copy kf) (ref11_Flip_l5 kf k)) := (cf_cons (shok_27 (ok_ref11_May kf)) (cf_cons (shok_35 (ok_ref11_Copy kf)) cf_nil))
    have hlf : LfOk (R := R) C_ref11_Flip 20 (lf_ref11_Flip (ref11_May kf) (ref11_Copy kf) (ref11_Flip_l5 kf k)) := (lf_top (lf_cons ih lf_nil))
    intro vs es K r h
    unfold sl_ref11_Flip_l5 at h
    split at h
    · exact loop_good (text_mixed t_ref11_Flip) hcf hlf (text_loop t_ref11_Flip 5).1 (text_loop t_ref11_Flip 5).2 ((eq_ref11_Flip_l5 (ref11_May kf) (ref11_Copy kf) (ref11_Flip_l5 kf k) _ _ _ _ _ _ _ K).trans h)
    · exact no_some h

theorem ok_ref11_Flip {R : Type} (kf : Nat) : Ok_ref11_Flip (R := R) (ref11_Flip kf) := by
  have hcf : CfOk (R := R) Try.prog glob raw (cf_ref11_Flip (ref11_May kf) (ref11_Copy kf) (ref11_Flip_l5 kf kf)) := (cf_cons (shok_27 (ok_ref11_May kf)) (cf_cons (shok_35 (ok_ref11_Copy kf)) cf_nil))
  have hlf : LfOk (R := R) C_ref11_Flip 20 (lf_ref11_Flip (ref11_May kf) (ref11_Copy kf) (ref11_Flip_l5 kf kf)) := (lf_top (lf_cons (lok_ref11_Flip_l5 kf kf) lf_nil))
  intro v1 v2 v3 K r h
  exact run_good t_ref11_Flip hcf hlf ((eq_ref11_Flip (ref11_May kf) (ref11_Copy kf) (ref11_Flip_l5 kf kf) v1 v2 v3 K).trans h)

theorem t_law14_WitnessFlip : textOk C_law14_WitnessFlip.bef Try.prog 6 = true := by kernel_rfl

theorem sln_law14_WitnessFlip_l9 {R : Type} : SlOk (R := R) C_law14_WitnessFlip 6 42 0 9 (sl_law14_WitnessFlip_l9 (fun _ _ _ _ _ _ _ => none)) := by
  intro vs es K r h
  unfold sl_law14_WitnessFlip_l9 at h
  split at h <;> exact no_some h

theorem lok_law14_WitnessFlip_l9 {R : Type} (kf : Nat) : ∀ n, SlOk (R := R) C_law14_WitnessFlip 6 42 0 9 (sl_law14_WitnessFlip_l9 (law14_WitnessFlip_l9 kf n)) := by
  intro n
  induction n with
  | zero =>
    intro vs es K r h
    unfold sl_law14_WitnessFlip_l9 at h
    split at h <;> exact no_some h
  | succ k ih =>
    have hcf : CfOk (R := R) Try.prog glob raw (cf_law14_WitnessFlip (law14_begun kf) (play_Dfa kf) (witness_Count kf) (ref11_Flip kf) (law14_WitnessFlip_l9 kf k)) := (cf_cons (shok_9 (ok_law14_begun kf)) (cf_cons (shok_10 (ok_play_Dfa kf)) (cf_cons (shok_13 (ok_witness_Count kf)) (cf_cons (shok_20 (ok_ref11_Flip kf)) cf_nil))))
    have hlf : LfOk (R := R) C_law14_WitnessFlip 6 (lf_law14_WitnessFlip (law14_begun kf) (play_Dfa kf) (witness_Count kf) (ref11_Flip kf) (law14_WitnessFlip_l9 kf k)) := (lf_top (lf_cons ih lf_nil))
    intro vs es K r h
    unfold sl_law14_WitnessFlip_l9 at h
    split at h
    · exact loop_good (text_mixed t_law14_WitnessFlip) hcf hlf (text_loop t_law14_WitnessFlip 9).1 (text_loop t_law14_WitnessFlip 9).2 ((eq_law14_WitnessFlip_l9 (law14_begun kf) (play_Dfa kf) (witness_Count kf) (ref11_Flip kf) (law14_WitnessFlip_l9 kf k) _ _ _ _ _ _ K).trans h)
    · exact no_some h

theorem ok_law14_WitnessFlip {R : Type} (kf : Nat) : Ok_law14_WitnessFlip (R := R) (law14_WitnessFlip kf) := by
  have hcf : CfOk (R := R) Try.prog glob raw (cf_law14_WitnessFlip (law14_begun kf) (play_Dfa kf) (witness_Count kf) (ref11_Flip kf) (law14_WitnessFlip_l9 kf kf)) := (cf_cons (shok_9 (ok_law14_begun kf)) (cf_cons (shok_10 (ok_play_Dfa kf)) (cf_cons (shok_13 (ok_witness_Count kf)) (cf_cons (shok_20 (ok_ref11_Flip kf)) cf_nil))))
  have hlf : LfOk (R := R) C_law14_WitnessFlip 6 (lf_law14_WitnessFlip (law14_begun kf) (play_Dfa kf) (witness_Count kf) (ref11_Flip kf) (law14_WitnessFlip_l9 kf kf)) := (lf_top (lf_cons (lok_law14_WitnessFlip_l9 kf kf) lf_nil))
  intro v1 v2 v3 v4 K r h
  exact run_good t_law14_WitnessFlip hcf hlf ((eq_law14_WitnessFlip (law14_begun kf) (play_Dfa kf) (witness_Count kf) (ref11_Flip kf) (law14_WitnessFlip_l9 kf kf) v1 v2 v3 v4 K).trans h)

theorem t_ref11_Product : textOk C_ref11_Product.bef Try.prog 21 = true := by kernel_rfl

theorem sln_ref11_Product_l8 {R : Type} : SlOk (R := R) C_ref11_Product 21 234 0 8 (sl_ref11_Product_l8 (fun _ _ _ _ _ _ _ _ _ _ _ _ _ _ _ _ _ => none)) := by
  intro vs es K r h
  unfold sl_ref11_Product_l8 at h
  split at h <;> exact no_some h

theorem sln_ref11_Product_l11 {R : Type} : SlOk (R := R) C_ref11_Product 21 234 0 11 (sl_ref11_Product_l11 (fun _ _ _ _ _ _ _ _ _ _ _ _ _ _ _ _ _ _ => none)) := by
  intro vs es K r h
  unfold sl_ref11_Product_l11 at h
  split at h <;> exact no_some h

theorem sln_ref11_Product_l18 {R : Type} : SlOk (R := R) C_ref11_Product 21 234 0 18 (sl_ref11_Product_l18 (fun _ _ _ _ _ _ _ _ _ _ _ _ _ _ _ _ _ _ => none)) := by
  intro vs es K r h
  unfold sl_ref11_Product_l18 at h
  split at h <;> exact no_some h

theorem sln_ref11_Product_l22 {R : Type} : SlOk (R := R) C_ref11_Product 21 234 0 22 (sl_ref11_Product_l22 (fun _ _ _ _ _ _ _ _ _ _ _ _ _ _ _ _ _ _ _ _ => none)) := by
  intro vs es K r h
  unfold sl_ref11_Product_l22 at h
  split at h <;> exact no_some h

theorem sln_ref11_Product_l26 {R : Type} : SlOk (R := R) C_ref11_Product 21 234 0 26 (sl_ref11_Product_l26 (fun _ _ _ _ _ _ _ _ _ _ _ _ _ _ _ _ _ _ _ _ _ _ => none)) := by
  intro vs es K r h
  unfold sl_ref11_Product_l26 at h
  split at h <;> exact no_some h

theorem lok_ref11_Product_l11 {R : Type} (kf : Nat) : ∀ n, SlOk (R := R) C_ref11_Product 21 234 0 11 (sl_ref11_Product_l11 (ref11_Product_l11 kf n)) := by
  intro n
  induction n with
  | zero =>
    intro vs es K r h
    unfold sl_ref11_Product_l11 at h
    split at h <;> exact no_some h
  | succ k ih =>
    have hcf : CfOk (R := R) Try.prog glob raw (cf_ref11_Product (ref11_May kf) (fun _ _ _ _ _ _ _ _ _ _ _ _ _ _ _ _ _ => none) (ref11_Product_l11 kf k) (fun _ _ _ _ _ _ _ _ _ _ _ _ _ _ _ _ _ _ => none) (fun _ _ _ _ _ _ _ _ _ _ _ _ _ _ _ _ _ _ _ _ => none) (fun _ _ _ _ _ _ _ _ _ _ _ _ _ _ _ _ _ _ _ _ _ _ => none)) := (cf_cons (shok_27 (ok_ref11_May kf)) cf_nil)
    have hlf : LfOk (R := R) C_ref11_Product 21 (lf_ref11_Product (ref11_May kf) (fun _ _ _ _ _ _ _ _ _ _ _ _ _ _ _ _ _ => none) (ref11_Product_l11 kf k) (fun _ _ _ _ _ _ _ _ _ _ _ _ _ _ _ _ _ _ => none) (fun _ _ _ _ _ _ _ _ _ _ _ _ _ _ _ _ _ _ _ _ => none) (fun _ _ _ _ _ _ _ _ _ _ _ _ _ _ _ _ _ _ _ _ _ _ => none)) := (lf_top (lf_cons (sln_ref11_Product_l8) (lf_cons ih (lf_cons (sln_ref11_Product_l18) (lf_cons (sln_ref11_Product_l22) (lf_cons (sln_ref11_Product_l26) lf_nil))))))
    intro vs es K r h
    unfold sl_ref11_Product_l11 at h
    split at h
    · exact loop_good (text_mixed t_ref11_Product) hcf hlf (text_loop t_ref11_Product 11).1 (text_loop t_ref11_Product 11).2 ((eq_ref11_Product_l11 (ref11_May kf) (fun _ _ _ _ _ _ _ _ _ _ _ _ _ _ _ _ _ => none) (ref11_Product_l11 kf k) (fun _ _ _ _ _ _ _ _ _ _ _ _ _ _ _ _ _ _ => none) (fun _ _ _ _ _ _ _ _ _ _ _ _ _ _ _ _ _ _ _ _ => none) (fun _ _ _ _ _ _ _ _ _ _ _ _ _ _ _ _ _ _ _ _ _ _ => none) _ _ _ _ _ _ _ _ _ _ _ _ _ _ _ _ _ K).trans h)
    · exact no_some h

theorem lok_ref11_Product_l8 {R : Type} (kf : Nat) : ∀ n, SlOk (R := R) C_ref11_Product 21 234 0 8 (sl_ref11_Product_l8 (ref11_Product_l8 kf n)) := by
  intro n
  induction n with
  | zero =>
    intro vs es K r h
    unfold sl_ref11_Product_l8 at h
    split at h <;> exact no_some h
  | succ k ih =>
    have hcf : CfOk (R := R) Try.prog glob raw (cf_ref11_Product (ref11_May kf) (ref11_Product_l8 kf k) (ref11_Product_l11 kf k) (fun _ _ _ _ _ _ _ _ _ _ _ _ _ _ _ _ _ _ => none) (fun _ _ _ _ _ _ _ _ _ _ _ _ _ _ _ _ _ _ _ _ => none) (fun _ _ _ _ _ _ _ _ _ _ _ _ _ _ _ _ _ _ _ _ _ _ => none)) := (cf_cons (shok_27 (ok_ref11_May kf)) cf_nil)
    have hlf : LfOk (R := R) C_ref11_Product 21 (lf_ref11_Product (ref11_May kf) (ref11_Product_l8 kf k) (ref11_Product_l11 kf k) (fun _ _ _ _ _ _ _ _ _ _ _ _ _ _ _ _ _ _ => none) (fun _ _ _ _ _ _ _ _ _ _ _ _ _ _ _ _ _ _ _ _ => none) (fun _ _ _ _ _ _ _ _ _ _ _ _ _ _ _ _ _ _ _ _ _ _ => none)) := (lf_top (lf_cons ih (lf_cons (lok_ref11_Product_l11 kf k) (lf_cons (sln_ref11_Product_l18) (lf_cons (sln_ref11_Product_l22) (lf_cons (sln_ref11_Product_l26) lf_nil))))))
    intro vs es K r h
    unfold sl_ref11_Product_l8 at h
    split at h
    · exact loop_good (text_mixed t_ref11_Product) hcf hlf (text_loop t_ref11_Product 8).1 (text_loop t_ref11_Product 8).2 ((eq_ref11_Product_l8 (ref11_May kf) (ref11_Product_l8 kf k) (ref11_Product_l11 kf k) (fun _ _ _ _ _ _ _ _ _ _ _ _ _ _ _ _ _ _ => none) (fun _ _ _ _ _ _ _ _ _ _ _ _ _ _ _ _ _ _ _ _ => none) (fun _ _ _ _ _ _ _ _ _ _ _ _ _ _ _ _ _ _ _ _ _ _ => none) _ _ _ _ _ _ _ _ _ _ _ _ _ _ _ _ K).trans h)
    · exact no_some h

theorem lok_ref11_Product_l26 {R : Type} (kf : Nat) : ∀ n, SlOk (R := R) C_ref11_Product 21 234 0 26 (sl_ref11_Product_l26 (ref11_Product_l26 kf n)) := by
  intro n
  induction n with
  | zero =>
    intro vs es K r h
    unfold sl_ref11_Product_l26 at h
    split at h <;> exact no_some h
  | succ k ih =>
    have hcf : CfOk (R := R) Try.prog glob raw (cf_ref11_Product (ref11_May kf) (ref11_Product_l8 kf k) (ref11_Product_l11 kf k) (fun _ _ _ _ _ _ _ _ _ _ _ _ _ _ _ _ _ _ => none) (fun _ _ _ _ _ _ _ _ _ _ _ _ _ _ _ _ _ _ _ _ => none) (ref11_Product_l26 kf k)) := (cf_cons (shok_27 (ok_ref11_May kf)) cf_nil)
    have hlf : LfOk (R := R) C_ref11_Product 21 (lf_ref11_Product (ref11_May kf) (ref11_Product_l8 kf k) (ref11_Product_l11 kf k) (fun _ _ _ _ _ _ _ _ _ _ _ _ _ _ _ _ _ _ => none) (fun _ _ _ _ _ _ _ _ _ _ _ _ _ _ _ _ _ _ _ _ => none) (ref11_Product_l26 kf k)) := (lf_top (lf_cons (lok_ref11_Product_l8 kf k) (lf_cons (lok_ref11_Product_l11 kf k) (lf_cons (sln_ref11_Product_l18) (lf_cons (sln_ref11_Product_l22) (lf_cons ih lf_nil))))))
    intro vs es K r h
    unfold sl_ref11_Product_l26 at h
    split at h
    · exact loop_good (text_mixed t_ref11_Product) hcf hlf (text_loop t_ref11_Product 26).1 (text_loop t_ref11_Product 26).2 ((eq_ref11_Product_l26 (ref11_May kf) (ref11_Product_l8 kf k) (ref11_Product_l11 kf k) (fun _ _ _ _ _ _ _ _ _ _ _ _ _ _ _ _ _ _ => none) (fun _ _ _ _ _ _ _ _ _ _ _ _ _ _ _ _ _ _ _ _ => none) (ref11_Product_l26 kf k) _ _ _ _ _ _ _ _ _ _ _ _ _ _ _ _ _ _ _ _ _ K).trans h)
    · exact no_some h

theorem lok_ref11_Product_l22 {R : Type} (kf : Nat) : ∀ n, SlOk (R := R) C_ref11_Product 21 234 0 22 (sl_ref11_Product_l22 (ref11_Product_l22 kf n)) := by
  intro n
  induction n with
  | zero =>
    intro vs es K r h
    unfold sl_ref11_Product_l22 at h
    split at h <;> exact no_some h
  | succ k ih =>
    have hcf : CfOk (R := R) Try.prog glob raw (cf_ref11_Product (ref11_May kf) (ref11_Product_l8 kf k) (ref11_Product_l11 kf k) (fun _ _ _ _ _ _ _ _ _ _ _ _ _ _ _ _ _ _ => none) (ref11_Product_l22 kf k) (ref11_Product_l26 kf k)) := (cf_cons (shok_27 (ok_ref11_May kf)) cf_nil)
    have hlf : LfOk (R := R) C_ref11_Product 21 (lf_ref11_Product (ref11_May kf) (ref11_Product_l8 kf k) (ref11_Product_l11 kf k) (fun _ _ _ _ _ _ _ _ _ _ _ _ _ _ _ _ _ _ => none) (ref11_Product_l22 kf k) (ref11_Product_l26 kf k)) := (lf_top (lf_cons (lok_ref11_Product_l8 kf k) (lf_cons (lok_ref11_Product_l11 kf k) (lf_cons (sln_ref11_Product_l18) (lf_cons ih (lf_cons (lok_ref11_Product_l26 kf k) lf_nil))))))
    intro vs es K r h
    unfold sl_ref11_Product_l22 at h
    split at h
    · exact loop_good (text_mixed t_ref11_Product) hcf hlf (text_loop t_ref11_Product 22).1 (text_loop t_ref11_Product 22).2 ((eq_ref11_Product_l22 (ref11_May kf) (ref11_Product_l8 kf k) (ref11_Product_l11 kf k) (fun _ _ _ _ _ _ _ _ _ _ _ _ _ _ _ _ _ _ => none) (ref11_Product_l22 kf k) (ref11_Product_l26 kf k) _ _ _ _ _ _ _ _ _ _ _ _ _ _ _ _ _ _ _ K).trans h)
    · exact no_some h

theorem lok_ref11_Product_l18 {R : Type} (kf : Nat) : ∀ n, SlOk (R := R) C_ref11_Product 21 234 0 18 (sl_ref11_Product_l18 (ref11_Product_l18 kf n)) := by
  intro n
  induction n with
  | zero =>
    intro vs es K r h
    unfold sl_ref11_Product_l18 at h
    split at h <;> exact no_some h
  | succ k ih =>
    have hcf : CfOk (R := R) Try.prog glob raw (cf_ref11_Product (ref11_May kf) (ref11_Product_l8 kf k) (ref11_Product_l11 kf k) (ref11_Product_l18 kf k) (ref11_Product_l22 kf k) (ref11_Product_l26 kf k)) := (cf_cons (shok_27 (ok_ref11_May kf)) cf_nil)
    have hlf : LfOk (R := R) C_ref11_Product 21 (lf_ref11_Product (ref11_May kf) (ref11_Product_l8 kf k) (ref11_Product_l11 kf k) (ref11_Product_l18 kf k) (ref11_Product_l22 kf k) (ref11_Product_l26 kf k)) := (lf_top (lf_cons (lok_ref11_Product_l8 kf k) (lf_cons (lok_ref11_Product_l11 kf k) (lf_cons ih (lf_cons (lok_ref11_Product_l22 kf k) (lf_cons (lok_ref11_Product_l26 kf k) lf_nil))))))
    intro vs es K r h
    unfold sl_ref11_Product_l18 at h
    split at h
    · exact loop_good (text_mixed t_ref11_Product) hcf hlf (text_loop t_ref11_Product 18).1 (text_loop t_ref11_Product 18).2 ((eq_ref11_Product_l18 (ref11_May kf) (ref11_Product_l8 kf k) (ref11_Product_l11 kf k) (ref11_Product_l18 kf k) (ref11_Product_l22 kf k) (ref11_Product_l26 kf k) _ _ _ _ _ _ _ _ _ _ _ _ _ _ _ _ _ K).trans h)
    · exact no_some h

theorem ok_ref11_Product {R : Type} (kf : Nat) : Ok_ref11_Product (R := R) (ref11_Product kf) := by
  have hcf : CfOk (R := R) Try.prog glob raw (cf_ref11_Product (ref11_May kf) (ref11_Product_l8 kf kf) (ref11_Product_l11 kf kf) (ref11_Product_l18 kf kf) (ref11_Product_l22 kf kf) (ref11_Product_l26 kf kf)) := (cf_cons (shok_27 (ok_ref11_May kf)) cf_nil)
  have hlf : LfOk (R := R) C_ref11_Product 21 (lf_ref11_Product (ref11_May kf) (ref11_Product_l8 kf kf) (ref11_Product_l11 kf kf) (ref11_Product_l18 kf kf) (ref11_Product_l22 kf kf) (ref11_Product_l26 kf kf)) := (lf_top (lf_cons (lok_ref11_Product_l8 kf kf) (lf_cons (lok_ref11_Product_l11 kf kf) (lf_cons (lok_ref11_Product_l18 kf kf) (lf_cons (lok_ref11_Product_l22 kf kf) (lf_cons (lok_ref11_Product_l26 kf kf) lf_nil))))))
  intro v1 v2 v3 v4 v5 v6 v7 v8 K r h
  exact run_good t_ref11_Product hcf hlf ((eq_ref11_Product (ref11_May kf) (ref11_Product_l8 kf kf) (ref11_Product_l11 kf kf) (ref11_Product_l18 kf kf) (ref11_Product_l22 kf kf) (ref11_Product_l26 kf kf) v1 v2 v3 v4 v5 v6 v7 v8 K).trans h)

theorem t_law14_WitnessPairs : textOk C_law14_WitnessPairs.bef Try.prog 7 = true := by kernel_rfl

theorem ok_law14_WitnessPairs {R : Type} (kf : Nat) : Ok_law14_WitnessPairs (R := R) (law14_WitnessPairs kf) := by
  have hcf : CfOk (R := R) Try.prog glob raw (cf_law14_WitnessPairs (law14_begun kf) (play_Dfa kf) (ref11_Product kf) (witness_Count kf)) := (cf_cons (shok_9 (ok_law14_begun kf)) (cf_cons (shok_10 (ok_play_Dfa kf)) (cf_cons (shok_21 (ok_ref11_Product kf)) (cf_cons (shok_13 (ok_witness_Count kf)) cf_nil))))
  have hlf : LfOk (R := R) C_law14_WitnessPairs 7 (lf_law14_WitnessPairs (law14_begun kf) (play_Dfa kf) (ref11_Product kf) (witness_Count kf)) := lf_none
  intro v1 v2 v3 v4 v5 v6 v7 K r h
  exact run_good t_law14_WitnessPairs hcf hlf ((eq_law14_WitnessPairs (law14_begun kf) (play_Dfa kf) (ref11_Product kf) (witness_Count kf) v1 v2 v3 v4 v5 v6 v7 K).trans h)

theorem t_law14_WitnessFirst : textOk C_law14_WitnessFirst.bef Try.prog 8 = true := by kernel_rfl

theorem sln_law14_WitnessFirst_l10 {R : Type} : SlOk (R := R) C_law14_WitnessFirst 8 76 0 10 (sl_law14_WitnessFirst_l10 (fun _ _ _ _ _ _ _ _ => none)) := by
  intro vs es K r h
  unfold sl_law14_WitnessFirst_l10 at h
  split at h <;> exact no_some h

theorem lok_law14_WitnessFirst_l10 {R : Type} (kf : Nat) : ∀ n, SlOk (R := R) C_law14_WitnessFirst 8 76 0 10 (sl_law14_WitnessFirst_l10 (law14_WitnessFirst_l10 kf n)) := by
  intro n
  induction n with
  | zero =>
    intro vs es K r h
    unfold sl_law14_WitnessFirst_l10 at h
    split at h <;> exact no_some h
  | succ k ih =>
    have hcf : CfOk (R := R) Try.prog glob raw (cf_law14_WitnessFirst (law14_begun kf) (play_Dfa kf) (witness_Words kf) (witness_Count kf) (law14_WitnessFirst_l10 kf k)) := (cf_cons (shok_9 (ok_law14_begun kf)) (cf_cons (shok_10 (ok_play_Dfa kf)) (cf_cons (shok_16 (ok_witness_Words kf)) (cf_cons (shok_13 (ok_witness_Count kf)) cf_nil))))
    have hlf : LfOk (R := R) C_law14_WitnessFirst 8 (lf_law14_WitnessFirst (law14_begun kf) (play_Dfa kf) (witness_Words kf) (witness_Count kf) (law14_WitnessFirst_l10 kf k)) := (lf_top (lf_cons ih lf_nil))
    intro vs es K r h
    unfold sl_law14_WitnessFirst_l10 at h
    split at h
    · exact loop_good (text_mixed t_law14_WitnessFirst) hcf hlf (text_loop t_law14_WitnessFirst 10).1 (text_loop t_law14_WitnessFirst 10).2 ((eq_law14_WitnessFirst_l10 (law14_begun kf) (play_Dfa kf) (witness_Words kf) (witness_Count kf) (law14_WitnessFirst_l10 kf k) _ _ _ _ _ _ K).trans h)
    · exact no_some h

theorem ok_law14_WitnessFirst {R : Type} (kf : Nat) : Ok_law14_WitnessFirst (R := R) (law14_WitnessFirst kf) := by
  have hcf : CfOk (R := R) Try.prog glob raw (cf_law14_WitnessFirst (law14_begun kf) (play_Dfa kf) (witness_Words kf) (witness_Count kf) (law14_WitnessFirst_l10 kf kf)) := (cf_cons (shok_9 (ok_law14_begun kf)) (cf_cons (shok_10 (ok_play_Dfa kf)) (cf_cons (shok_16 (ok_witness_Words kf)) (cf_cons (shok_13 (ok_witness_Count kf)) cf_nil))))
  have hlf : LfOk (R := R) C_law14_WitnessFirst 8 (lf_law14_WitnessFirst (law14_begun kf) (play_Dfa kf) (witness_Words kf) (witness_Count kf) (law14_WitnessFirst_l10 kf kf)) := (lf_top (lf_cons (lok_law14_WitnessFirst_l10 kf kf) lf_nil))
  intro v1 v2 v3 v4 v5 K r h
  exact run_good t_law14_WitnessFirst hcf hlf ((eq_law14_WitnessFirst (law14_begun kf) (play_Dfa kf) (witness_Words kf) (witness_Count kf) (law14_WitnessFirst_l10 kf kf) v1 v2 v3 v4 v5 K).trans h)

end
end Go.Ab.T
