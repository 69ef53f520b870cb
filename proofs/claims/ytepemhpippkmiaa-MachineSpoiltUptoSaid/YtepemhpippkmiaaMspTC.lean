/- MspTC: a part of the proofs of this seat's statements. -/
import Derived.Test.YtepemhpippkmiaaMspSA
import Derived.Test.YtepemhpippkmiaaMspLA
import Derived.Test.YtepemhpippkmiaaMspTB
import Derived.Test.YtepemhpippkmiaaKnot
import Derived.Test.YtepemhpippkmiaaMspTD



namespace Go.Ab.T

open Go Go.Ab Go.Proofs

set_option maxRecDepth 100000

set_option linter.unusedVariables false

noncomputable section

def Ok_law11_begun {R : Type} (c : (Bool → Option R) → Option R) : Prop := ∀ (K : S → List Ent → Option R) (r : R), c (fun (r0 : Bool) => K (.bool r0) []) = some r → ∃ v es, FnOk Try.prog glob 7 (npF raw 7 []) [] [] v es ∧ K v es = some r

theorem okn_law11_begun {R : Type} : Ok_law11_begun (R := R) (fun _ => none) := fun _ _ h => no_some h

theorem shok_7 {R : Type} {c_law11_begun : (Bool → Option R) → Option R} (h_law11_begun : Ok_law11_begun c_law11_begun) : ShOk Try.prog glob raw 7 (sh7 c_law11_begun) := by
  intro av es K r h
  unfold sh7 at h
  split at h
  · exact h_law11_begun _ _ h
  · exact no_some h

def Ok_play_Dfa {R : Type} (c : Int → Int → (List Int) → ((List Int) → (List (List Int)) → (List Bool) → Option R) → Option R) : Prop := ∀ (v1 : Int) (v2 : Int) (v3 : (List Int)) (K : S → List Ent → Option R) (r : R), c v1 v2 v3 (fun (r0 : (List Int)) (r1 : (List (List Int))) (r2 : (List Bool)) => K (.st [.arr 256 (.int .u8) r0, .own (.slice (.int .i64)) 0, .own .bool 1]) [.buf (.slice (.int .i64)) r1 false, .buf .bool r2 false]) = some r → ∃ v es, FnOk Try.prog glob 8 (npF raw 8 []) [.int .u8 v1, .int .u8 v2, .sl (.int .u8) v3] [] v es ∧ K v es = some r

theorem okn_play_Dfa {R : Type} : Ok_play_Dfa (R := R) (fun _ _ _ _ => none) := fun _ _ _ _ _ h => no_some h

theorem shok_8 {R : Type} {c_play_Dfa : Int → Int → (List Int) → ((List Int) → (List (List Int)) → (List Bool) → Option R) → Option R} (h_play_Dfa : Ok_play_Dfa c_play_Dfa) : ShOk Try.prog glob raw 8 (sh8 c_play_Dfa) := by
  intro av es K r h
  unfold sh8 at h
  split at h
  · exact h_play_Dfa _ _ _ _ _ h
  · exact no_some h

def Ok_machine_May {R : Type} (c : (List Int) → (List (List Int)) → (List Bool) → (Bool → Option R) → Option R) : Prop := ∀ (v1 : (List Int)) (v2 : (List (List Int))) (v3 : (List Bool)) (K : S → List Ent → Option R) (r : R), c v1 v2 v3 (fun (r0 : Bool) => K (.bool r0) []) = some r → ∃ v es, FnOk Try.prog glob 9 (npF raw 9 []) [.st [.arr 256 (.int .u8) v1, .sl (.slice (.int .i64)) v2, .sl .bool v3]] [] v es ∧ K v es = some r

theorem okn_machine_May {R : Type} : Ok_machine_May (R := R) (fun _ _ _ _ => none) := fun _ _ _ _ _ h => no_some h

theorem shok_9 {R : Type} {c_machine_May : (List Int) → (List (List Int)) → (List Bool) → (Bool → Option R) → Option R} (h_machine_May : Ok_machine_May c_machine_May) : ShOk Try.prog glob raw 9 (sh9 c_machine_May) := by
  intro av es K r h
  unfold sh9 at h
  split at h
  · exact h_machine_May _ _ _ _ _ h
  · exact no_some h

def Ok_machine_Run {R : Type} (c : (List Int) → (List (List Int)) → (List Bool) → (List Int) → (Bool → Option R) → Option R) : Prop := ∀ (v1 : (List Int)) (v2 : (List (List Int))) (v3 : (List Bool)) (v4 : (List Int)) (K : S → List Ent → Option R) (r : R), c v1 v2 v3 v4 (fun (r0 : Bool) => K (.bool r0) []) = some r → ∃ v es, FnOk Try.prog glob 10 (npF raw 10 []) [.st [.arr 256 (.int .u8) v1, .sl (.slice (.int .i64)) v2, .sl .bool v3], .sl (.int .u8) v4] [] v es ∧ K v es = some r

theorem okn_machine_Run {R : Type} : Ok_machine_Run (R := R) (fun _ _ _ _ _ => none) := fun _ _ _ _ _ _ h => no_some h

theorem shok_10 {R : Type} {c_machine_Run : (List Int) → (List (List Int)) → (List Bool) → (List Int) → (Bool → Option R) → Option R} (h_machine_Run : Ok_machine_Run c_machine_Run) : ShOk Try.prog glob raw 10 (sh10 c_machine_Run) := by
  intro av es K r h
  unfold sh10 at h
  split at h
  · exact h_machine_Run _ _ _ _ _ _ h
  · exact no_some h

def Ok_machine_Flip {R : Type} (c : (List Int) → (List (List Int)) → (List Bool) → ((List Int) → (List (List Int)) → (List Bool) → Option R) → Option R) : Prop := ∀ (v1 : (List Int)) (v2 : (List (List Int))) (v3 : (List Bool)) (K : S → List Ent → Option R) (r : R), c v1 v2 v3 (fun (r0 : (List Int)) (r1 : (List (List Int))) (r2 : (List Bool)) => K (.st [.arr 256 (.int .u8) r0, .own (.slice (.int .i64)) 0, .own .bool 1]) [.buf (.slice (.int .i64)) r1 false, .buf .bool r2 false]) = some r → ∃ v es, FnOk Try.prog glob 12 (npF raw 12 []) [.st [.arr 256 (.int .u8) v1, .sl (.slice (.int .i64)) v2, .sl .bool v3]] [] v es ∧ K v es = some r

theorem okn_machine_Flip {R : Type} : Ok_machine_Flip (R := R) (fun _ _ _ _ => none) := fun _ _ _ _ _ h => no_some h

theorem shok_12 {R : Type} {c_machine_Flip : (List Int) → (List (List Int)) → (List Bool) → ((List Int) → (List (List Int)) → (List Bool) → Option R) → Option R} (h_machine_Flip : Ok_machine_Flip c_machine_Flip) : ShOk Try.prog glob raw 12 (sh12 c_machine_Flip) := by
  intro av es K r h
  unfold sh12 at h
  split at h
  · exact h_machine_Flip _ _ _ _ _ h
  · exact no_some h

def Ok_machine_Reach {R : Type} (c : (List Int) → (List (List Int)) → (List Bool) → ((List Bool) → Option R) → Option R) : Prop := ∀ (v1 : (List Int)) (v2 : (List (List Int))) (v3 : (List Bool)) (K : S → List Ent → Option R) (r : R), c v1 v2 v3 (fun (r0 : (List Bool)) => K (.own .bool 0) [.buf .bool r0 false]) = some r → ∃ v es, FnOk Try.prog glob 14 (npF raw 14 []) [.st [.arr 256 (.int .u8) v1, .sl (.slice (.int .i64)) v2, .sl .bool v3]] [] v es ∧ K v es = some r

theorem okn_machine_Reach {R : Type} : Ok_machine_Reach (R := R) (fun _ _ _ _ => none) := fun _ _ _ _ _ h => no_some h

theorem shok_14 {R : Type} {c_machine_Reach : (List Int) → (List (List Int)) → (List Bool) → ((List Bool) → Option R) → Option R} (h_machine_Reach : Ok_machine_Reach c_machine_Reach) : ShOk Try.prog glob raw 14 (sh14 c_machine_Reach) := by
  intro av es K r h
  unfold sh14 at h
  split at h
  · exact h_machine_Reach _ _ _ _ _ h
  · exact no_some h

def Ok_machine_Live {R : Type} (c : (List Int) → (List (List Int)) → (List Bool) → ((List Bool) → Option R) → Option R) : Prop := ∀ (v1 : (List Int)) (v2 : (List (List Int))) (v3 : (List Bool)) (K : S → List Ent → Option R) (r : R), c v1 v2 v3 (fun (r0 : (List Bool)) => K (.own .bool 0) [.buf .bool r0 false]) = some r → ∃ v es, FnOk Try.prog glob 16 (npF raw 16 []) [.st [.arr 256 (.int .u8) v1, .sl (.slice (.int .i64)) v2, .sl .bool v3]] [] v es ∧ K v es = some r

theorem okn_machine_Live {R : Type} : Ok_machine_Live (R := R) (fun _ _ _ _ => none) := fun _ _ _ _ _ h => no_some h

theorem shok_16 {R : Type} {c_machine_Live : (List Int) → (List (List Int)) → (List Bool) → ((List Bool) → Option R) → Option R} (h_machine_Live : Ok_machine_Live c_machine_Live) : ShOk Try.prog glob raw 16 (sh16 c_machine_Live) := by
  intro av es K r h
  unfold sh16 at h
  split at h
  · exact h_machine_Live _ _ _ _ _ h
  · exact no_some h

def Ok_machine_To {R : Type} (c : (List Int) → (List (List Int)) → (List Bool) → Int → (List Int) → (Int → Option R) → Option R) : Prop := ∀ (v1 : (List Int)) (v2 : (List (List Int))) (v3 : (List Bool)) (v4 : Int) (v5 : (List Int)) (K : S → List Ent → Option R) (r : R), c v1 v2 v3 v4 v5 (fun (r0 : Int) => K (.int .i64 r0) []) = some r → ∃ v es, FnOk Try.prog glob 18 (npF raw 18 []) [.st [.arr 256 (.int .u8) v1, .sl (.slice (.int .i64)) v2, .sl .bool v3], .int .i64 v4, .sl (.int .u8) v5] [] v es ∧ K v es = some r

theorem okn_machine_To {R : Type} : Ok_machine_To (R := R) (fun _ _ _ _ _ _ => none) := fun _ _ _ _ _ _ _ h => no_some h

theorem shok_18 {R : Type} {c_machine_To : (List Int) → (List (List Int)) → (List Bool) → Int → (List Int) → (Int → Option R) → Option R} (h_machine_To : Ok_machine_To c_machine_To) : ShOk Try.prog glob raw 18 (sh18 c_machine_To) := by
  intro av es K r h
  unfold sh18 at h
  split at h
  · exact h_machine_To _ _ _ _ _ _ _ h
  · exact no_some h

def Ok_machine_Same {R : Type} (c : (List Int) → (List (List Int)) → (List Bool) → (List Int) → (List (List Int)) → (List Bool) → (Bool → Option R) → Option R) : Prop := ∀ (v1 : (List Int)) (v2 : (List (List Int))) (v3 : (List Bool)) (v4 : (List Int)) (v5 : (List (List Int))) (v6 : (List Bool)) (K : S → List Ent → Option R) (r : R), c v1 v2 v3 v4 v5 v6 (fun (r0 : Bool) => K (.bool r0) []) = some r → ∃ v es, FnOk Try.prog glob 19 (npF raw 19 []) [.st [.arr 256 (.int .u8) v1, .sl (.slice (.int .i64)) v2, .sl .bool v3], .st [.arr 256 (.int .u8) v4, .sl (.slice (.int .i64)) v5, .sl .bool v6]] [] v es ∧ K v es = some r

theorem okn_machine_Same {R : Type} : Ok_machine_Same (R := R) (fun _ _ _ _ _ _ _ => none) := fun _ _ _ _ _ _ _ _ h => no_some h

theorem shok_19 {R : Type} {c_machine_Same : (List Int) → (List (List Int)) → (List Bool) → (List Int) → (List (List Int)) → (List Bool) → (Bool → Option R) → Option R} (h_machine_Same : Ok_machine_Same c_machine_Same) : ShOk Try.prog glob raw 19 (sh19 c_machine_Same) := by
  intro av es K r h
  unfold sh19 at h
  split at h
  · exact h_machine_Same _ _ _ _ _ _ _ _ h
  · exact no_some h

def Ok_machine_Classes {R : Type} (c : (List Int) → (List (List Int)) → (List Bool) → (Int → Option R) → Option R) : Prop := ∀ (v1 : (List Int)) (v2 : (List (List Int))) (v3 : (List Bool)) (K : S → List Ent → Option R) (r : R), c v1 v2 v3 (fun (r0 : Int) => K (.int .i64 r0) []) = some r → ∃ v es, FnOk Try.prog glob 20 (npF raw 20 []) [.st [.arr 256 (.int .u8) v1, .sl (.slice (.int .i64)) v2, .sl .bool v3]] [] v es ∧ K v es = some r

theorem okn_machine_Classes {R : Type} : Ok_machine_Classes (R := R) (fun _ _ _ _ => none) := fun _ _ _ _ _ h => no_some h

theorem shok_20 {R : Type} {c_machine_Classes : (List Int) → (List (List Int)) → (List Bool) → (Int → Option R) → Option R} (h_machine_Classes : Ok_machine_Classes c_machine_Classes) : ShOk Try.prog glob raw 20 (sh20 c_machine_Classes) := by
  intro av es K r h
  unfold sh20 at h
  split at h
  · exact h_machine_Classes _ _ _ _ _ h
  · exact no_some h

def Ok_ref11_Same {R : Type} (c : (List Int) → (List (List Int)) → (List Bool) → (List Int) → (List (List Int)) → (List Bool) → (Bool → Option R) → Option R) : Prop := ∀ (v1 : (List Int)) (v2 : (List (List Int))) (v3 : (List Bool)) (v4 : (List Int)) (v5 : (List (List Int))) (v6 : (List Bool)) (K : S → List Ent → Option R) (r : R), c v1 v2 v3 v4 v5 v6 (fun (r0 : Bool) => K (.bool r0) []) = some r → ∃ v es, FnOk Try.prog glob 21 (npF raw 21 []) [.st [.arr 256 (.int .u8) v1, .sl (.slice (.int .i64)) v2, .sl .bool v3], .st [.arr 256 (.int .u8) v4, .sl (.slice (.int .i64)) v5, .sl .bool v6]] [] v es ∧ K v es = some r

theorem okn_ref11_Same {R : Type} : Ok_ref11_Same (R := R) (fun _ _ _ _ _ _ _ => none) := fun _ _ _ _ _ _ _ _ h => no_some h

theorem shok_21 {R : Type} {c_ref11_Same : (List Int) → (List (List Int)) → (List Bool) → (List Int) → (List (List Int)) → (List Bool) → (Bool → Option R) → Option R} (h_ref11_Same : Ok_ref11_Same c_ref11_Same) : ShOk Try.prog glob raw 21 (sh21 c_ref11_Same) := by
  intro av es K r h
  unfold sh21 at h
  split at h
  · exact h_ref11_Same _ _ _ _ _ _ _ _ h
  · exact no_some h

def Ok_machine_Copy {R : Type} (c : (List Int) → (List (List Int)) → (List Bool) → ((List Int) → (List (List Int)) → (List Bool) → Option R) → Option R) : Prop := ∀ (v1 : (List Int)) (v2 : (List (List Int))) (v3 : (List Bool)) (K : S → List Ent → Option R) (r : R), c v1 v2 v3 (fun (r0 : (List Int)) (r1 : (List (List Int))) (r2 : (List Bool)) => K (.st [.arr 256 (.int .u8) r0, .own (.slice (.int .i64)) 0, .own .bool 1]) [.buf (.slice (.int .i64)) r1 false, .buf .bool r2 false]) = some r → ∃ v es, FnOk Try.prog glob 22 (npF raw 22 []) [.st [.arr 256 (.int .u8) v1, .sl (.slice (.int .i64)) v2, .sl .bool v3]] [] v es ∧ K v es = some r

theorem okn_machine_Copy {R : Type} : Ok_machine_Copy (R := R) (fun _ _ _ _ => none) := fun _ _ _ _ _ h => no_some h

theorem shok_22 {R : Type} {c_machine_Copy : (List Int) → (List (List Int)) → (List Bool) → ((List Int) → (List (List Int)) → (List Bool) → Option R) → Option R} (h_machine_Copy : Ok_machine_Copy c_machine_Copy) : ShOk Try.prog glob raw 22 (sh22 c_machine_Copy) := by
  intro av es K r h
  unfold sh22 at h
  split at h
  · exact h_machine_Copy _ _ _ _ _ h
  · exact no_some h

def Ok_play_Made {R : Type} (c : (List Int) → ((List Int) → Int → Option R) → Option R) : Prop := ∀ (v1 : (List Int)) (K : S → List Ent → Option R) (r : R), c v1 (fun (r0 : (List Int)) (r1 : Int) => K (.ptr 0 []) [.box (.st [.sl (.int .u8) r0, .int .i64 r1]) false]) = some r → ∃ v es, FnOk Try.prog glob 23 (npF raw 23 []) [.sl (.int .u8) v1] [] v es ∧ K v es = some r

theorem okn_play_Made {R : Type} : Ok_play_Made (R := R) (fun _ _ => none) := fun _ _ _ h => no_some h

theorem shok_23 {R : Type} {c_play_Made : (List Int) → ((List Int) → Int → Option R) → Option R} (h_play_Made : Ok_play_Made c_play_Made) : ShOk Try.prog glob raw 23 (sh23 c_play_Made) := by
  intro av es K r h
  unfold sh23 at h
  split at h
  · exact h_play_Made _ _ _ h
  · exact no_some h

def Ok_play_Picks_num {R : Type} (c : Int → (List Int) → Int → (Int → (List Int) → Int → Option R) → Option R) : Prop := ∀ (v1 : Int) (v2 : (List Int)) (v3 : Int) (K : S → List Ent → Option R) (r : R), c v1 v2 v3 (fun (r0 : Int) (r1 : (List Int)) (r2 : Int) => K (.int .i64 r0) [.box (.st [.sl (.int .u8) r1, .int .i64 r2]) false]) = some r → ∃ v es, FnOk Try.prog glob 24 (npF raw 24 [.box (.st [.sl (.int .u8) v2, .int .i64 v3]) false]) [.ptr 0 [], .int .i64 v1] [.box (.st [.sl (.int .u8) v2, .int .i64 v3]) false] v es ∧ K v es = some r

theorem okn_play_Picks_num {R : Type} : Ok_play_Picks_num (R := R) (fun _ _ _ _ => none) := fun _ _ _ _ _ h => no_some h

theorem shok_24 {R : Type} {c_play_Picks_num : Int → (List Int) → Int → (Int → (List Int) → Int → Option R) → Option R} (h_play_Picks_num : Ok_play_Picks_num c_play_Picks_num) : ShOk Try.prog glob raw 24 (sh24 c_play_Picks_num) := by
  intro av es K r h
  unfold sh24 at h
  split at h
  · exact h_play_Picks_num _ _ _ _ _ h
  · exact no_some h

def Ok_machine_classes {R : Type} (c : (List Int) → (List (List Int)) → (List Bool) → (Int → Option R) → Option R) : Prop := ∀ (v1 : (List Int)) (v2 : (List (List Int))) (v3 : (List Bool)) (K : S → List Ent → Option R) (r : R), c v1 v2 v3 (fun (r0 : Int) => K (.int .i64 r0) []) = some r → ∃ v es, FnOk Try.prog glob 25 (npF raw 25 []) [.st [.arr 256 (.int .u8) v1, .sl (.slice (.int .i64)) v2, .sl .bool v3]] [] v es ∧ K v es = some r

theorem okn_machine_classes {R : Type} : Ok_machine_classes (R := R) (fun _ _ _ _ => none) := fun _ _ _ _ _ h => no_some h

theorem shok_25 {R : Type} {c_machine_classes : (List Int) → (List (List Int)) → (List Bool) → (Int → Option R) → Option R} (h_machine_classes : Ok_machine_classes c_machine_classes) : ShOk Try.prog glob raw 25 (sh25 c_machine_classes) := by
  intro av es K r h
  unfold sh25 at h
  split at h
  · exact h_machine_classes _ _ _ _ _ h
  · exact no_some h

def Ok_slices_ContainsFunc_int_int {R : Type} (c : (List Int) → Int → (Bool → Int → Option R) → Option R) : Prop := ∀ (v1 : (List Int)) (v2 : Int) (K : S → List Ent → Option R) (r : R), c v1 v2 (fun (r0 : Bool) (r1 : Int) => K (.bool r0) [.box (.int .i64 r1) false]) = some r → ∃ v es, FnOk Try.prog glob 26 (npF raw 26 [.box (.int .i64 v2) false]) [.sl (.int .i64) v1, .fn 27 [.ptr 0 []]] [.box (.int .i64 v2) false] v es ∧ K v es = some r

theorem okn_slices_ContainsFunc_int_int {R : Type} : Ok_slices_ContainsFunc_int_int (R := R) (fun _ _ _ => none) := fun _ _ _ _ h => no_some h

theorem shok_26 {R : Type} {c_slices_ContainsFunc_int_int : (List Int) → Int → (Bool → Int → Option R) → Option R} (h_slices_ContainsFunc_int_int : Ok_slices_ContainsFunc_int_int c_slices_ContainsFunc_int_int) : ShOk Try.prog glob raw 26 (sh26 c_slices_ContainsFunc_int_int) := by
  intro av es K r h
  unfold sh26 at h
  split at h
  · exact h_slices_ContainsFunc_int_int _ _ _ _ h
  · exact no_some h

def Ok_machine_May_1 {R : Type} (c : Int → Int → (Bool → Int → Option R) → Option R) : Prop := ∀ (v1 : Int) (v2 : Int) (K : S → List Ent → Option R) (r : R), c v1 v2 (fun (r0 : Bool) (r1 : Int) => K (.bool r0) [.box (.int .i64 r1) false]) = some r → ∃ v es, FnOk Try.prog glob 27 (npF raw 27 [.box (.int .i64 v2) false]) [.int .i64 v1, .ptr 0 []] [.box (.int .i64 v2) false] v es ∧ K v es = some r

theorem okn_machine_May_1 {R : Type} : Ok_machine_May_1 (R := R) (fun _ _ _ => none) := fun _ _ _ _ h => no_some h

theorem shok_27 {R : Type} {c_machine_May_1 : Int → Int → (Bool → Int → Option R) → Option R} (h_machine_May_1 : Ok_machine_May_1 c_machine_May_1) : ShOk Try.prog glob raw 27 (sh27 c_machine_May_1) := by
  intro av es K r h
  unfold sh27 at h
  split at h
  · exact h_machine_May_1 _ _ _ _ h
  · exact no_some h

def Ok_slices_Equal_bool_bool {R : Type} (c : (List Bool) → (List Bool) → (Bool → Option R) → Option R) : Prop := ∀ (v1 : (List Bool)) (v2 : (List Bool)) (K : S → List Ent → Option R) (r : R), c v1 v2 (fun (r0 : Bool) => K (.bool r0) []) = some r → ∃ v es, FnOk Try.prog glob 31 (npF raw 31 []) [.sl .bool v1, .sl .bool v2] [] v es ∧ K v es = some r

theorem okn_slices_Equal_bool_bool {R : Type} : Ok_slices_Equal_bool_bool (R := R) (fun _ _ _ => none) := fun _ _ _ _ h => no_some h

theorem shok_31 {R : Type} {c_slices_Equal_bool_bool : (List Bool) → (List Bool) → (Bool → Option R) → Option R} (h_slices_Equal_bool_bool : Ok_slices_Equal_bool_bool c_slices_Equal_bool_bool) : ShOk Try.prog glob raw 31 (sh31 c_slices_Equal_bool_bool) := by
  intro av es K r h
  unfold sh31 at h
  split at h
  · exact h_slices_Equal_bool_bool _ _ _ _ h
  · exact no_some h

def Ok_slices_EqualFunc_int_int_int_int {R : Type} (c : (List (List Int)) → (List (List Int)) → (Bool → Option R) → Option R) : Prop := ∀ (v1 : (List (List Int))) (v2 : (List (List Int))) (K : S → List Ent → Option R) (r : R), c v1 v2 (fun (r0 : Bool) => K (.bool r0) []) = some r → ∃ v es, FnOk Try.prog glob 32 (npF raw 32 []) [.sl (.slice (.int .i64)) v1, .sl (.slice (.int .i64)) v2, .fn 33 []] [] v es ∧ K v es = some r

theorem okn_slices_EqualFunc_int_int_int_int {R : Type} : Ok_slices_EqualFunc_int_int_int_int (R := R) (fun _ _ _ => none) := fun _ _ _ _ h => no_some h

theorem shok_32 {R : Type} {c_slices_EqualFunc_int_int_int_int : (List (List Int)) → (List (List Int)) → (Bool → Option R) → Option R} (h_slices_EqualFunc_int_int_int_int : Ok_slices_EqualFunc_int_int_int_int c_slices_EqualFunc_int_int_int_int) : ShOk Try.prog glob raw 32 (sh32 c_slices_EqualFunc_int_int_int_int) := by
  intro av es K r h
  unfold sh32 at h
  split at h
  · exact h_slices_EqualFunc_int_int_int_int _ _ _ _ h
  · exact no_some h

def Ok_machine_Same_1 {R : Type} (c : (List Int) → (List Int) → (Bool → Option R) → Option R) : Prop := ∀ (v1 : (List Int)) (v2 : (List Int)) (K : S → List Ent → Option R) (r : R), c v1 v2 (fun (r0 : Bool) => K (.bool r0) []) = some r → ∃ v es, FnOk Try.prog glob 33 (npF raw 33 []) [.sl (.int .i64) v1, .sl (.int .i64) v2] [] v es ∧ K v es = some r

theorem okn_machine_Same_1 {R : Type} : Ok_machine_Same_1 (R := R) (fun _ _ _ => none) := fun _ _ _ _ h => no_some h

theorem shok_33 {R : Type} {c_machine_Same_1 : (List Int) → (List Int) → (Bool → Option R) → Option R} (h_machine_Same_1 : Ok_machine_Same_1 c_machine_Same_1) : ShOk Try.prog glob raw 33 (sh33 c_machine_Same_1) := by
  intro av es K r h
  unfold sh33 at h
  split at h
  · exact h_machine_Same_1 _ _ _ _ h
  · exact no_some h

def Ok_slices_Equal_int_int {R : Type} (c : (List Int) → (List Int) → (Bool → Option R) → Option R) : Prop := ∀ (v1 : (List Int)) (v2 : (List Int)) (K : S → List Ent → Option R) (r : R), c v1 v2 (fun (r0 : Bool) => K (.bool r0) []) = some r → ∃ v es, FnOk Try.prog glob 34 (npF raw 34 []) [.sl (.int .i64) v1, .sl (.int .i64) v2] [] v es ∧ K v es = some r

theorem okn_slices_Equal_int_int {R : Type} : Ok_slices_Equal_int_int (R := R) (fun _ _ _ => none) := fun _ _ _ _ h => no_some h

theorem shok_34 {R : Type} {c_slices_Equal_int_int : (List Int) → (List Int) → (Bool → Option R) → Option R} (h_slices_Equal_int_int : Ok_slices_Equal_int_int c_slices_Equal_int_int) : ShOk Try.prog glob raw 34 (sh34 c_slices_Equal_int_int) := by
  intro av es K r h
  unfold sh34 at h
  split at h
  · exact h_slices_Equal_int_int _ _ _ _ h
  · exact no_some h

def Ok_slices_Max_uint8_uint8 {R : Type} (c : (List Int) → (Int → Option R) → Option R) : Prop := ∀ (v1 : (List Int)) (K : S → List Ent → Option R) (r : R), c v1 (fun (r0 : Int) => K (.int .u8 r0) []) = some r → ∃ v es, FnOk Try.prog glob 36 (npF raw 36 []) [.sl (.int .u8) v1] [] v es ∧ K v es = some r

theorem okn_slices_Max_uint8_uint8 {R : Type} : Ok_slices_Max_uint8_uint8 (R := R) (fun _ _ => none) := fun _ _ _ h => no_some h

theorem shok_36 {R : Type} {c_slices_Max_uint8_uint8 : (List Int) → (Int → Option R) → Option R} (h_slices_Max_uint8_uint8 : Ok_slices_Max_uint8_uint8 c_slices_Max_uint8_uint8) : ShOk Try.prog glob raw 36 (sh36 c_slices_Max_uint8_uint8) := by
  intro av es K r h
  unfold sh36 at h
  split at h
  · exact h_slices_Max_uint8_uint8 _ _ _ h
  · exact no_some h

def Ok_slices_IndexFunc_int_int {R : Type} (c : (List Int) → Int → (Int → Int → Option R) → Option R) : Prop := ∀ (v1 : (List Int)) (v2 : Int) (K : S → List Ent → Option R) (r : R), c v1 v2 (fun (r0 : Int) (r1 : Int) => K (.int .i64 r0) [.box (.int .i64 r1) false]) = some r → ∃ v es, FnOk Try.prog glob 37 (npF raw 37 [.box (.int .i64 v2) false]) [.sl (.int .i64) v1, .fn 27 [.ptr 0 []]] [.box (.int .i64 v2) false] v es ∧ K v es = some r

theorem okn_slices_IndexFunc_int_int {R : Type} : Ok_slices_IndexFunc_int_int (R := R) (fun _ _ _ => none) := fun _ _ _ _ h => no_some h

theorem shok_37 {R : Type} {c_slices_IndexFunc_int_int : (List Int) → Int → (Int → Int → Option R) → Option R} (h_slices_IndexFunc_int_int : Ok_slices_IndexFunc_int_int c_slices_IndexFunc_int_int) : ShOk Try.prog glob raw 37 (sh37 c_slices_IndexFunc_int_int) := by
  intro av es K r h
  unfold sh37 at h
  split at h
  · exact h_slices_IndexFunc_int_int _ _ _ _ h
  · exact no_some h

theorem t_slices_Max_uint8_uint8 : textOk C_slices_Max_uint8_uint8.bef Try.prog 36 = true := by kernel_rfl

theorem sln_slices_Max_uint8_uint8_l5 {R : Type} : SlOk (R := R) C_slices_Max_uint8_uint8 36 25 0 5 (sl_slices_Max_uint8_uint8_l5 (fun _ _ _ _ => none)) := by
  intro vs es K r h
  unfold sl_slices_Max_uint8_uint8_l5 at h
  split at h <;> exact no_some h

theorem lok_slices_Max_uint8_uint8_l5 {R : Type} (kf : Nat) : ∀ n, SlOk (R := R) C_slices_Max_uint8_uint8 36 25 0 5 (sl_slices_Max_uint8_uint8_l5 (slices_Max_uint8_uint8_l5 kf n)) := by
  intro n
  induction n with
  | zero =>
    intro vs es K r h
    unfold sl_slices_Max_uint8_uint8_l5 at h
    split at h <;> exact no_some h
  | succ k ih =>
    have hcf : CfOk (R := R) Try.prog glob raw (cf_slices_Max_uint8_uint8 (slices_Max_uint8_uint8_l5 kf k)) := cf_nil
    have hlf : LfOk (R := R) C_slices_Max_uint8_uint8 36 (lf_slices_Max_uint8_uint8 (slices_Max_uint8_uint8_l5 kf k)) := (lf_top (lf_cons ih lf_nil))
    intro vs es K r h
    unfold sl_slices_Max_uint8_uint8_l5 at h
    split at h
    · exact loop_good (text_mixed t_slices_Max_uint8_uint8) hcf hlf (text_loop t_slices_Max_uint8_uint8 5).1 (text_loop t_slices_Max_uint8_uint8 5).2 ((eq_slices_Max_uint8_uint8_l5 (slices_Max_uint8_uint8_l5 kf k) _ _ _ K).trans h)
    · exact no_some h

theorem ok_slices_Max_uint8_uint8 {R : Type} (kf : Nat) : Ok_slices_Max_uint8_uint8 (R := R) (slices_Max_uint8_uint8 kf) := by
  have hcf : CfOk (R := R) Try.prog glob raw (cf_slices_Max_uint8_uint8 (slices_Max_uint8_uint8_l5 kf kf)) := cf_nil
  have hlf : LfOk (R := R) C_slices_Max_uint8_uint8 36 (lf_slices_Max_uint8_uint8 (slices_Max_uint8_uint8_l5 kf kf)) := (lf_top (lf_cons (lok_slices_Max_uint8_uint8_l5 kf kf) lf_nil))
  intro v1 K r h
  exact run_good t_slices_Max_uint8_uint8 hcf hlf ((eq_slices_Max_uint8_uint8 (slices_Max_uint8_uint8_l5 kf kf) v1 K).trans h)

theorem t_machine_classes : textOk C_machine_classes.bef Try.prog 25 = true := by kernel_rfl

theorem ok_machine_classes {R : Type} (kf : Nat) : Ok_machine_classes (R := R) (machine_classes kf) := by
  have hcf : CfOk (R := R) Try.prog glob raw (cf_machine_classes (slices_Max_uint8_uint8 kf)) := (cf_cons (shok_36 (ok_slices_Max_uint8_uint8 kf)) cf_nil)
  have hlf : LfOk (R := R) C_machine_classes 25 (lf_machine_classes (slices_Max_uint8_uint8 kf)) := lf_none
  intro v1 v2 v3 K r h
  exact run_good t_machine_classes hcf hlf ((eq_machine_classes (slices_Max_uint8_uint8 kf) v1 v2 v3 K).trans h)

theorem t_machine_May_1 : textOk C_machine_May_1.bef Try.prog 27 = true := by kernel_rfl

theorem ok_machine_May_1 {R : Type} : Ok_machine_May_1 (R := R) (machine_May_1) := by
  have hcf : CfOk (R := R) Try.prog glob raw (cf_machine_May_1) := cf_nil
  have hlf : LfOk (R := R) C_machine_May_1 27 (lf_machine_May_1) := lf_none
  intro v1 v2 K r h
  exact run_good t_machine_May_1 hcf hlf ((eq_machine_May_1 v1 v2 K).trans h)

theorem t_slices_IndexFunc_int_int : textOk C_slices_IndexFunc_int_int.bef Try.prog 37 = true := by kernel_rfl

theorem sln_slices_IndexFunc_int_int_l2 {R : Type} : SlOk (R := R) C_slices_IndexFunc_int_int 37 19 1 2 (sl_slices_IndexFunc_int_int_l2 (fun _ _ _ _ _ _ => none)) := by
  intro vs es K r h
  unfold sl_slices_IndexFunc_int_int_l2 at h
  split at h <;> exact no_some h

theorem lok_slices_IndexFunc_int_int_l2 {R : Type} (kf : Nat) : ∀ n, SlOk (R := R) C_slices_IndexFunc_int_int 37 19 1 2 (sl_slices_IndexFunc_int_int_l2 (slices_IndexFunc_int_int_l2 kf n)) := by
  intro n
  induction n with
  | zero =>
    intro vs es K r h
    unfold sl_slices_IndexFunc_int_int_l2 at h
    split at h <;> exact no_some h
  | succ k ih =>
    have hcf : CfOk (R := R) Try.prog glob raw (cf_slices_IndexFunc_int_int machine_May_1 (slices_IndexFunc_int_int_l2 kf k)) := (cf_cons (shok_27 ok_machine_May_1) cf_nil)
    have hlf : LfOk (R := R) C_slices_IndexFunc_int_int 37 (lf_slices_IndexFunc_int_int machine_May_1 (slices_IndexFunc_int_int_l2 kf k)) := (lf_top (lf_cons ih lf_nil))
    intro vs es K r h
    unfold sl_slices_IndexFunc_int_int_l2 at h
    split at h
    · exact loop_good (text_mixed t_slices_IndexFunc_int_int) hcf hlf (text_loop t_slices_IndexFunc_int_int 2).1 (text_loop t_slices_IndexFunc_int_int 2).2 ((eq_slices_IndexFunc_int_int_l2 machine_May_1 (slices_IndexFunc_int_int_l2 kf k) _ _ _ _ K).trans h)
    · exact no_some h

theorem ok_slices_IndexFunc_int_int {R : Type} (kf : Nat) : Ok_slices_IndexFunc_int_int (R := R) (slices_IndexFunc_int_int kf) := by
  have hcf : CfOk (R := R) Try.prog glob raw (cf_slices_IndexFunc_int_int machine_May_1 (slices_IndexFunc_int_int_l2 kf kf)) := (cf_cons (shok_27 ok_machine_May_1) cf_nil)
  have hlf : LfOk (R := R) C_slices_IndexFunc_int_int 37 (lf_slices_IndexFunc_int_int machine_May_1 (slices_IndexFunc_int_int_l2 kf kf)) := (lf_top (lf_cons (lok_slices_IndexFunc_int_int_l2 kf kf) lf_nil))
  intro v1 v2 K r h
  exact run_good t_slices_IndexFunc_int_int hcf hlf ((eq_slices_IndexFunc_int_int machine_May_1 (slices_IndexFunc_int_int_l2 kf kf) v1 v2 K).trans h)

theorem t_slices_ContainsFunc_int_int : textOk C_slices_ContainsFunc_int_int.bef Try.prog 26 = true := by kernel_rfl

theorem ok_slices_ContainsFunc_int_int {R : Type} (kf : Nat) : Ok_slices_ContainsFunc_int_int (R := R) (slices_ContainsFunc_int_int kf) := by
  have hcf : CfOk (R := R) Try.prog glob raw (cf_slices_ContainsFunc_int_int (slices_IndexFunc_int_int kf)) := (cf_cons (shok_37 (ok_slices_IndexFunc_int_int kf)) cf_nil)
  have hlf : LfOk (R := R) C_slices_ContainsFunc_int_int 26 (lf_slices_ContainsFunc_int_int (slices_IndexFunc_int_int kf)) := lf_none
  intro v1 v2 K r h
  exact run_good t_slices_ContainsFunc_int_int hcf hlf ((eq_slices_ContainsFunc_int_int (slices_IndexFunc_int_int kf) v1 v2 K).trans h)

theorem t_machine_May : textOk C_machine_May.bef Try.prog 9 = true := by kernel_rfl

theorem sln_machine_May_l6 {R : Type} : SlOk (R := R) C_machine_May 9 42 0 6 (sl_machine_May_l6 (fun _ _ _ _ _ _ _ => none)) := by
  intro vs es K r h
  unfold sl_machine_May_l6 at h
  split at h <;> exact no_some h

theorem lok_machine_May_l6 {R : Type} (kf : Nat) : ∀ n, SlOk (R := R) C_machine_May 9 42 0 6 (sl_machine_May_l6 (machine_May_l6 kf n)) := by
  intro n
  induction n with
  | zero =>
    intro vs es K r h
    unfold sl_machine_May_l6 at h
    split at h <;> exact no_some h
  | succ k ih =>
    have hcf : CfOk (R := R) Try.prog glob raw (cf_machine_May (machine_classes kf) (slices_ContainsFunc_int_int kf) (machine_May_l6 kf k)) := (cf_cons (shok_25 (ok_machine_classes kf)) (cf_cons (shok_26 (ok_slices_ContainsFunc_int_int kf)) cf_nil))
    have hlf : LfOk (R := R) C_machine_May 9 (lf_machine_May (machine_classes kf) (slices_ContainsFunc_int_int kf) (machine_May_l6 kf k)) := (lf_top (lf_cons ih lf_nil))
    intro vs es K r h
    unfold sl_machine_May_l6 at h
    split at h
    · exact loop_good (text_mixed t_machine_May) hcf hlf (text_loop t_machine_May 6).1 (text_loop t_machine_May 6).2 ((eq_machine_May_l6 (machine_classes kf) (slices_ContainsFunc_int_int kf) (machine_May_l6 kf k) _ _ _ _ _ K).trans h)
    · exact no_some h

theorem ok_machine_May {R : Type} (kf : Nat) : Ok_machine_May (R := R) (machine_May kf) := by
  have hcf : CfOk (R := R) Try.prog glob raw (cf_machine_May (machine_classes kf) (slices_ContainsFunc_int_int kf) (machine_May_l6 kf kf)) := (cf_cons (shok_25 (ok_machine_classes kf)) (cf_cons (shok_26 (ok_slices_ContainsFunc_int_int kf)) cf_nil))
  have hlf : LfOk (R := R) C_machine_May 9 (lf_machine_May (machine_classes kf) (slices_ContainsFunc_int_int kf) (machine_May_l6 kf kf)) := (lf_top (lf_cons (lok_machine_May_l6 kf kf) lf_nil))
  intro v1 v2 v3 K r h
  exact run_good t_machine_May hcf hlf ((eq_machine_May (machine_classes kf) (slices_ContainsFunc_int_int kf) (machine_May_l6 kf kf) v1 v2 v3 K).trans h)

theorem t_machine_Classes : textOk C_machine_Classes.bef Try.prog 20 = true := by kernel_rfl

theorem ok_machine_Classes {R : Type} (kf : Nat) : Ok_machine_Classes (R := R) (machine_Classes kf) := by
  have hcf : CfOk (R := R) Try.prog glob raw (cf_machine_Classes (machine_May kf) (machine_classes kf)) := (cf_cons (shok_9 (ok_machine_May kf)) (cf_cons (shok_25 (ok_machine_classes kf)) cf_nil))
  have hlf : LfOk (R := R) C_machine_Classes 20 (lf_machine_Classes (machine_May kf) (machine_classes kf)) := lf_none
  intro v1 v2 v3 K r h
  exact run_good t_machine_Classes hcf hlf ((eq_machine_Classes (machine_May kf) (machine_classes kf) v1 v2 v3 K).trans h)

theorem t_machine_To : textOk C_machine_To.bef Try.prog 18 = true := by kernel_rfl

theorem sln_machine_To_l4 {R : Type} : SlOk (R := R) C_machine_To 18 42 0 4 (sl_machine_To_l4 (fun _ _ _ _ _ _ _ => none)) := by
  intro vs es K r h
  unfold sl_machine_To_l4 at h
  split at h <;> exact no_some h

theorem lok_machine_To_l4 {R : Type} (kf : Nat) : ∀ n, SlOk (R := R) C_machine_To 18 42 0 4 (sl_machine_To_l4 (machine_To_l4 kf n)) := by
  intro n
  induction n with
  | zero =>
    intro vs es K r h
    unfold sl_machine_To_l4 at h
    split at h <;> exact no_some h
  | succ k ih =>
    have hcf : CfOk (R := R) Try.prog glob raw (cf_machine_To (machine_May kf) (machine_To_l4 kf k)) := (cf_cons (shok_9 (ok_machine_May kf)) cf_nil)
    have hlf : LfOk (R := R) C_machine_To 18 (lf_machine_To (machine_May kf) (machine_To_l4 kf k)) := (lf_top (lf_cons ih lf_nil))
    intro vs es K r h
    unfold sl_machine_To_l4 at h
    split at h
    · exact loop_good (text_mixed t_machine_To) hcf hlf (text_loop t_machine_To 4).1 (text_loop t_machine_To 4).2 ((eq_machine_To_l4 (machine_May kf) (machine_To_l4 kf k) _ _ _ _ _ _ _ K).trans h)
    · exact no_some h

theorem ok_machine_To {R : Type} (kf : Nat) : Ok_machine_To (R := R) (machine_To kf) := by
  have hcf : CfOk (R := R) Try.prog glob raw (cf_machine_To (machine_May kf) (machine_To_l4 kf kf)) := (cf_cons (shok_9 (ok_machine_May kf)) cf_nil)
  have hlf : LfOk (R := R) C_machine_To 18 (lf_machine_To (machine_May kf) (machine_To_l4 kf kf)) := (lf_top (lf_cons (lok_machine_To_l4 kf kf) lf_nil))
  intro v1 v2 v3 v4 v5 K r h
  exact run_good t_machine_To hcf hlf ((eq_machine_To (machine_May kf) (machine_To_l4 kf kf) v1 v2 v3 v4 v5 K).trans h)

theorem t_machine_Run : textOk C_machine_Run.bef Try.prog 10 = true := by kernel_rfl

theorem ok_machine_Run {R : Type} (kf : Nat) : Ok_machine_Run (R := R) (machine_Run kf) := by
  have hcf : CfOk (R := R) Try.prog glob raw (cf_machine_Run (machine_To kf)) := (cf_cons (shok_18 (ok_machine_To kf)) cf_nil)
  have hlf : LfOk (R := R) C_machine_Run 10 (lf_machine_Run (machine_To kf)) := lf_none
  intro v1 v2 v3 v4 K r h
  exact run_good t_machine_Run hcf hlf ((eq_machine_Run (machine_To kf) v1 v2 v3 v4 K).trans h)

theorem t_machine_Copy : textOk C_machine_Copy.bef Try.prog 22 = true := by kernel_rfl

theorem sln_machine_Copy_l3 {R : Type} : SlOk (R := R) C_machine_Copy 22 26 0 3 (sl_machine_Copy_l3 (fun _ _ _ _ _ _ _ _ _ _ _ => none)) := by
  intro vs es K r h
  unfold sl_machine_Copy_l3 at h
  split at h <;> exact no_some h

theorem lok_machine_Copy_l3 {R : Type} (kf : Nat) : ∀ n, SlOk (R := R) C_machine_Copy 22 26 0 3 (sl_machine_Copy_l3 (machine_Copy_l3 kf n)) := by
  intro n
  induction n with
  | zero =>
    intro vs es K r h
    unfold sl_machine_Copy_l3 at h
    split at h <;> exact no_some h
  | succ k ih =>
    have hcf : CfOk (R := R) Try.prog glob raw (cf_machine_Copy (machine_Copy_l3 kf k)) := (cf_cons (clok_35) (cf_cons (clok_30) cf_nil))
    have hlf : LfOk (R := R) C_machine_Copy 22 (lf_machine_Copy (machine_Copy_l3 kf k)) := (lf_top (lf_cons ih lf_nil))
    intro vs es K r h
    unfold sl_machine_Copy_l3 at h
    split at h
    · exact loop_good (text_mixed t_machine_Copy) hcf hlf (text_loop t_machine_Copy 3).1 (text_loop t_machine_Copy 3).2 ((eq_machine_Copy_l3 (machine_Copy_l3 kf k) _ _ _ _ _ _ _ _ _ _ K).trans h)
    · exact no_some h

theorem ok_machine_Copy {R : Type} (kf : Nat) : Ok_machine_Copy (R := R) (machine_Copy kf) := by
  have hcf : CfOk (R := R) Try.prog glob raw (cf_machine_Copy (machine_Copy_l3 kf kf)) := (cf_cons (clok_35) (cf_cons (clok_30) cf_nil))
  have hlf : LfOk (R := R) C_machine_Copy 22 (lf_machine_Copy (machine_Copy_l3 kf kf)) := (lf_top (lf_cons (lok_machine_Copy_l3 kf kf) lf_nil))
  intro v1 v2 v3 K r h
  exact run_good t_machine_Copy hcf hlf ((eq_machine_Copy (machine_Copy_l3 kf kf) v1 v2 v3 K).trans h)

theorem t_machine_Flip : textOk C_machine_Flip.bef Try.prog 12 = true := by kernel_rfl

theorem sln_machine_Flip_l5 {R : Type} : SlOk (R := R) C_machine_Flip 12 29 0 5 (sl_machine_Flip_l5 (fun _ _ _ _ _ _ _ _ _ => none)) := by
  intro vs es K r h
  unfold sl_machine_Flip_l5 at h
  split at h <;> exact no_some h

theorem lok_machine_Flip_l5 {R : Type} (kf : Nat) : ∀ n, SlOk (R := R) C_machine_Flip 12 29 0 5 (sl_machine_Flip_l5 (machine_Flip_l5 kf n)) := by
  intro n
  induction n with
  | zero =>
    intro vs es K r h
    unfold sl_machine_Flip_l5 at h
    split at h <;> exact no_some h
  | succ k ih =>
    have hcf : CfOk (R := R) Try.prog glob raw (cf_machine_Flip (machine_May kf) (machine_Copy kf) (machine_Flip_l5 kf k)) := (cf_cons (shok_9 (ok_machine_May kf)) (cf_cons (shok_22 (ok_machine_Copy kf)) cf_nil))
    have hlf : LfOk (R := R) C_machine_Flip 12 (lf_machine_Flip (machine_May kf) (machine_Copy kf) (machine_Flip_l5 kf k)) := (lf_top (lf_cons ih lf_nil))
    intro vs es K r h
    unfold sl_machine_Flip_l5 at h
    split at h
    · exact loop_good (text_mixed t_machine_Flip) hcf hlf (text_loop t_machine_Flip 5).1 (text_loop t_machine_Flip 5).2 ((eq_machine_Flip_l5 (machine_May kf) (machine_Copy kf) (machine_Flip_l5 kf k) _ _ _ _ _ _ _ _ K).trans h)
    · exact no_some h

theorem ok_machine_Flip {R : Type} (kf : Nat) : Ok_machine_Flip (R := R) (machine_Flip kf) := by
  have hcf : CfOk (R := R) Try.prog glob raw (cf_machine_Flip (machine_May kf) (machine_Copy kf) (machine_Flip_l5 kf kf)) := (cf_cons (shok_9 (ok_machine_May kf)) (cf_cons (shok_22 (ok_machine_Copy kf)) cf_nil))
  have hlf : LfOk (R := R) C_machine_Flip 12 (lf_machine_Flip (machine_May kf) (machine_Copy kf) (machine_Flip_l5 kf kf)) := (lf_top (lf_cons (lok_machine_Flip_l5 kf kf) lf_nil))
  intro v1 v2 v3 K r h
  exact run_good t_machine_Flip hcf hlf ((eq_machine_Flip (machine_May kf) (machine_Copy kf) (machine_Flip_l5 kf kf) v1 v2 v3 K).trans h)

theorem t_machine_Reach : textOk C_machine_Reach.bef Try.prog 14 = true := by kernel_rfl

theorem sln_machine_Reach_l6 {R : Type} : SlOk (R := R) C_machine_Reach 14 50 0 6 (sl_machine_Reach_l6 (fun _ _ _ _ _ _ => none)) := by
  intro vs es K r h
  unfold sl_machine_Reach_l6 at h
  split at h <;> exact no_some h

theorem sln_machine_Reach_l10 {R : Type} : SlOk (R := R) C_machine_Reach 14 50 0 10 (sl_machine_Reach_l10 (fun _ _ _ _ _ _ _ _ _ => none)) := by
  intro vs es K r h
  unfold sl_machine_Reach_l10 at h
  split at h <;> exact no_some h

theorem lok_machine_Reach_l10 {R : Type} (kf : Nat) : ∀ n, SlOk (R := R) C_machine_Reach 14 50 0 10 (sl_machine_Reach_l10 (machine_Reach_l10 kf n)) := by
  intro n
  induction n with
  | zero =>
    intro vs es K r h
    unfold sl_machine_Reach_l10 at h
    split at h <;> exact no_some h
  | succ k ih =>
    have hcf : CfOk (R := R) Try.prog glob raw (cf_machine_Reach (machine_May kf) (fun _ _ _ _ _ _ => none) (machine_Reach_l10 kf k)) := (cf_cons (shok_9 (ok_machine_May kf)) cf_nil)
    have hlf : LfOk (R := R) C_machine_Reach 14 (lf_machine_Reach (machine_May kf) (fun _ _ _ _ _ _ => none) (machine_Reach_l10 kf k)) := (lf_top (lf_cons (sln_machine_Reach_l6) (lf_cons ih lf_nil)))
    intro vs es K r h
    unfold sl_machine_Reach_l10 at h
    split at h
    · exact loop_good (text_mixed t_machine_Reach) hcf hlf (text_loop t_machine_Reach 10).1 (text_loop t_machine_Reach 10).2 ((eq_machine_Reach_l10 (machine_May kf) (fun _ _ _ _ _ _ => none) (machine_Reach_l10 kf k) _ _ _ _ _ _ _ _ K).trans h)
    · exact no_some h

theorem lok_machine_Reach_l6 {R : Type} (kf : Nat) : ∀ n, SlOk (R := R) C_machine_Reach 14 50 0 6 (sl_machine_Reach_l6 (machine_Reach_l6 kf n)) := by
  intro n
  induction n with
  | zero =>
    intro vs es K r h
    unfold sl_machine_Reach_l6 at h
    split at h <;> exact no_some h
  | succ k ih =>
    have hcf : CfOk (R := R) Try.prog glob raw (cf_machine_Reach (machine_May kf) (machine_Reach_l6 kf k) (machine_Reach_l10 kf k)) := (cf_cons (shok_9 (ok_machine_May kf)) cf_nil)
    have hlf : LfOk (R := R) C_machine_Reach 14 (lf_machine_Reach (machine_May kf) (machine_Reach_l6 kf k) (machine_Reach_l10 kf k)) := (lf_top (lf_cons ih (lf_cons (lok_machine_Reach_l10 kf k) lf_nil)))
    intro vs es K r h
    unfold sl_machine_Reach_l6 at h
    split at h
    · exact loop_good (text_mixed t_machine_Reach) hcf hlf (text_loop t_machine_Reach 6).1 (text_loop t_machine_Reach 6).2 ((eq_machine_Reach_l6 (machine_May kf) (machine_Reach_l6 kf k) (machine_Reach_l10 kf k) _ _ _ _ _ K).trans h)
    · exact no_some h

theorem ok_machine_Reach {R : Type} (kf : Nat) : Ok_machine_Reach (R := R) (machine_Reach kf) := by
  have hcf : CfOk (R := R) Try.prog glob raw (cf_machine_Reach (machine_May kf) (machine_Reach_l6 kf kf) (machine_Reach_l10 kf kf)) := (cf_cons (shok_9 (ok_machine_May kf)) cf_nil)
  have hlf : LfOk (R := R) C_machine_Reach 14 (lf_machine_Reach (machine_May kf) (machine_Reach_l6 kf kf) (machine_Reach_l10 kf kf)) := (lf_top (lf_cons (lok_machine_Reach_l6 kf kf) (lf_cons (lok_machine_Reach_l10 kf kf) lf_nil)))
  intro v1 v2 v3 K r h
  exact run_good t_machine_Reach hcf hlf ((eq_machine_Reach (machine_May kf) (machine_Reach_l6 kf kf) (machine_Reach_l10 kf kf) v1 v2 v3 K).trans h)

theorem t_machine_Live : textOk C_machine_Live.bef Try.prog 16 = true := by kernel_rfl

theorem sln_machine_Live_l16 {R : Type} : SlOk (R := R) C_machine_Live 16 94 0 16 (sl_machine_Live_l16 (fun _ _ _ _ _ _ => none)) := by
  intro vs es K r h
  unfold sl_machine_Live_l16 at h
  split at h <;> exact no_some h

theorem sln_machine_Live_l21 {R : Type} : SlOk (R := R) C_machine_Live 16 94 0 21 (sl_machine_Live_l21 (fun _ _ _ _ => none)) := by
  intro vs es K r h
  unfold sl_machine_Live_l21 at h
  split at h <;> exact no_some h

theorem sln_machine_Live_l25 {R : Type} : SlOk (R := R) C_machine_Live 16 94 0 25 (sl_machine_Live_l25 (fun _ _ _ _ _ _ _ => none)) := by
  intro vs es K r h
  unfold sl_machine_Live_l25 at h
  split at h <;> exact no_some h

theorem lok_machine_Live_l16 {R : Type} (kf : Nat) : ∀ n, SlOk (R := R) C_machine_Live 16 94 0 16 (sl_machine_Live_l16 (machine_Live_l16 kf n)) := by
  intro n
  induction n with
  | zero =>
    intro vs es K r h
    unfold sl_machine_Live_l16 at h
    split at h <;> exact no_some h
  | succ k ih =>
    have hcf : CfOk (R := R) Try.prog glob raw (cf_machine_Live (machine_May kf) (machine_Live_l16 kf k) (fun _ _ _ _ => none) (fun _ _ _ _ _ _ _ => none)) := (cf_cons (shok_9 (ok_machine_May kf)) (cf_cons (clok_30) cf_nil))
    have hlf : LfOk (R := R) C_machine_Live 16 (lf_machine_Live (machine_May kf) (machine_Live_l16 kf k) (fun _ _ _ _ => none) (fun _ _ _ _ _ _ _ => none)) := (lf_top (lf_cons ih (lf_cons (sln_machine_Live_l21) (lf_cons (sln_machine_Live_l25) lf_nil))))
    intro vs es K r h
    unfold sl_machine_Live_l16 at h
    split at h
    · exact loop_good (text_mixed t_machine_Live) hcf hlf (text_loop t_machine_Live 16).1 (text_loop t_machine_Live 16).2 ((eq_machine_Live_l16 (machine_May kf) (machine_Live_l16 kf k) (fun _ _ _ _ => none) (fun _ _ _ _ _ _ _ => none) _ _ _ _ _ K).trans h)
    · exact no_some h

theorem lok_machine_Live_l25 {R : Type} (kf : Nat) : ∀ n, SlOk (R := R) C_machine_Live 16 94 0 25 (sl_machine_Live_l25 (machine_Live_l25 kf n)) := by
  intro n
  induction n with
  | zero =>
    intro vs es K r h
    unfold sl_machine_Live_l25 at h
    split at h <;> exact no_some h
  | succ k ih =>
    have hcf : CfOk (R := R) Try.prog glob raw (cf_machine_Live (machine_May kf) (machine_Live_l16 kf k) (fun _ _ _ _ => none) (machine_Live_l25 kf k)) := (cf_cons (shok_9 (ok_machine_May kf)) (cf_cons (clok_30) cf_nil))
    have hlf : LfOk (R := R) C_machine_Live 16 (lf_machine_Live (machine_May kf) (machine_Live_l16 kf k) (fun _ _ _ _ => none) (machine_Live_l25 kf k)) := (lf_top (lf_cons (lok_machine_Live_l16 kf k) (lf_cons (sln_machine_Live_l21) (lf_cons ih lf_nil))))
    intro vs es K r h
    unfold sl_machine_Live_l25 at h
    split at h
    · exact loop_good (text_mixed t_machine_Live) hcf hlf (text_loop t_machine_Live 25).1 (text_loop t_machine_Live 25).2 ((eq_machine_Live_l25 (machine_May kf) (machine_Live_l16 kf k) (fun _ _ _ _ => none) (machine_Live_l25 kf k) _ _ _ _ _ _ K).trans h)
    · exact no_some h

theorem lok_machine_Live_l21 {R : Type} (kf : Nat) : ∀ n, SlOk (R := R) C_machine_Live 16 94 0 21 (sl_machine_Live_l21 (machine_Live_l21 kf n)) := by
  intro n
  induction n with
  | zero =>
    intro vs es K r h
    unfold sl_machine_Live_l21 at h
    split at h <;> exact no_some h
  | succ k ih =>
    have hcf : CfOk (R := R) Try.prog glob raw (cf_machine_Live (machine_May kf) (machine_Live_l16 kf k) (machine_Live_l21 kf k) (machine_Live_l25 kf k)) := (cf_cons (shok_9 (ok_machine_May kf)) (cf_cons (clok_30) cf_nil))
    have hlf : LfOk (R := R) C_machine_Live 16 (lf_machine_Live (machine_May kf) (machine_Live_l16 kf k) (machine_Live_l21 kf k) (machine_Live_l25 kf k)) := (lf_top (lf_cons (lok_machine_Live_l16 kf k) (lf_cons ih (lf_cons (lok_machine_Live_l25 kf k) lf_nil))))
    intro vs es K r h
    unfold sl_machine_Live_l21 at h
    split at h
    · exact loop_good (text_mixed t_machine_Live) hcf hlf (text_loop t_machine_Live 21).1 (text_loop t_machine_Live 21).2 ((eq_machine_Live_l21 (machine_May kf) (machine_Live_l16 kf k) (machine_Live_l21 kf k) (machine_Live_l25 kf k) _ _ _ K).trans h)
    · exact no_some h

theorem gd_some {R : Type} {b : Bool} {x : Option R} {r : R} (h : gd b x = some r) : b = true ∧ x = some r := by
  cases b with
  | true => exact ⟨rfl, h⟩
  | false => exact absurd h (by simp [gd])

theorem ok_machine_Live {R : Type} (kf : Nat) : Ok_machine_Live (R := R) (machine_Live kf) := by
  have hcf : CfOk (R := R) Try.prog glob raw (cf_machine_Live (machine_May kf) (machine_Live_l16 kf kf) (machine_Live_l21 kf kf) (machine_Live_l25 kf kf)) := (cf_cons (shok_9 (ok_machine_May kf)) (cf_cons (clok_30) cf_nil))
  have hlf : LfOk (R := R) C_machine_Live 16 (lf_machine_Live (machine_May kf) (machine_Live_l16 kf kf) (machine_Live_l21 kf kf) (machine_Live_l25 kf kf)) := (lf_top (lf_cons (lok_machine_Live_l16 kf kf) (lf_cons (lok_machine_Live_l21 kf kf) (lf_cons (lok_machine_Live_l25 kf kf) lf_nil))))
  intro v1 v2 v3 K r h
  have hm := text_mixed t_machine_Live
  refine run_good_of (C := C_machine_Live) t_machine_Live (show Try.prog.funcs[16]? = some Try.f16 by kernel_rfl) ?_
  refine good_spine hm hcf hlf 1 (bodyOf Try.prog 16) _ (show codeOk C_machine_Live.bef (restC 0 (bodyOf Try.prog 16)) = true by kernel_rfl) (fun b hb => find_own live_nd hb) ((le0 (machine_May kf) (machine_Live_l16 kf kf) (machine_Live_l21 kf kf) (machine_Live_l25 kf kf) v1 v2 v3 K).trans h) fun st0 h0 => ?_
  refine good_cut h0 fun vs es h1 => ?_
  unfold ljf0 at h1
  split at h1
  rotate_left
  · exact no_some h1
  rw [liveX]
  refine good_scope (good_spine hm hcf hlf 1 (scC (restC 1 (bodyOf Try.prog 16))) _ (by kernel_rfl) (live_hl 0) ((le1 (machine_May kf) (machine_Live_l16 kf kf) (machine_Live_l21 kf kf) (machine_Live_l25 kf kf) _ _ _ K).trans h1) fun st1 h1' => ?_)
  refine good_cut h1' fun vs es h2 => ?_
  unfold ljf1 at h2
  split at h2
  rotate_left
  · exact no_some h2
  obtain ⟨hg, h3⟩ := gd_some h2
  rw [liveY]
  obtain ⟨inf, z, hT⟩ := liveT
  obtain ⟨f1, infI, zI, hP⟩ := liveP
  refine good_from (C := C_machine_Live) hT liveO hP (by decide) hg ?_
  refine good_cut (jf := ljf2 (machine_May kf) (machine_Live_l16 kf kf) (machine_Live_l21 kf kf) (machine_Live_l25 kf kf) K) ((le2 (machine_May kf) (machine_Live_l16 kf kf) (machine_Live_l21 kf kf) (machine_Live_l25 kf kf) _ _ _ _ K).trans h3) fun vs es h4 => ?_
  unfold ljf2 at h4
  split at h4
  rotate_left
  · exact no_some h4
  exact good_code hm hcf hlf (by kernel_rfl) (live_hl 3) ((le3 (machine_May kf) (machine_Live_l16 kf kf) (machine_Live_l21 kf kf) (machine_Live_l25 kf kf) _ _ _ _ K).trans h4)

theorem t_slices_Equal_bool_bool : textOk C_slices_Equal_bool_bool.bef Try.prog 31 = true := by kernel_rfl

theorem sln_slices_Equal_bool_bool_l4 {R : Type} : SlOk (R := R) C_slices_Equal_bool_bool 31 26 0 4 (sl_slices_Equal_bool_bool_l4 (fun _ _ _ _ _ _ => none)) := by
  intro vs es K r h
  unfold sl_slices_Equal_bool_bool_l4 at h
  split at h <;> exact no_some h

theorem lok_slices_Equal_bool_bool_l4 {R : Type} (kf : Nat) : ∀ n, SlOk (R := R) C_slices_Equal_bool_bool 31 26 0 4 (sl_slices_Equal_bool_bool_l4 (slices_Equal_bool_bool_l4 kf n)) := by
  intro n
  induction n with
  | zero =>
    intro vs es K r h
    unfold sl_slices_Equal_bool_bool_l4 at h
    split at h <;> exact no_some h
  | succ k ih =>
    have hcf : CfOk (R := R) Try.prog glob raw (cf_slices_Equal_bool_bool (slices_Equal_bool_bool_l4 kf k)) := cf_nil
    have hlf : LfOk (R := R) C_slices_Equal_bool_bool 31 (lf_slices_Equal_bool_bool (slices_Equal_bool_bool_l4 kf k)) := (lf_top (lf_cons ih lf_nil))
    intro vs es K r h
    unfold sl_slices_Equal_bool_bool_l4 at h
    split at h
    · exact loop_good (text_mixed t_slices_Equal_bool_bool) hcf hlf (text_loop t_slices_Equal_bool_bool 4).1 (text_loop t_slices_Equal_bool_bool 4).2 ((eq_slices_Equal_bool_bool_l4 (slices_Equal_bool_bool_l4 kf k) _ _ _ _ K).trans h)
    · exact no_some h

theorem ok_slices_Equal_bool_bool {R : Type} (kf : Nat) : Ok_slices_Equal_bool_bool (R := R) (slices_Equal_bool_bool kf) := by
  have hcf : CfOk (R := R) Try.prog glob raw (cf_slices_Equal_bool_bool (slices_Equal_bool_bool_l4 kf kf)) := cf_nil
  have hlf : LfOk (R := R) C_slices_Equal_bool_bool 31 (lf_slices_Equal_bool_bool (slices_Equal_bool_bool_l4 kf kf)) := (lf_top (lf_cons (lok_slices_Equal_bool_bool_l4 kf kf) lf_nil))
  intro v1 v2 K r h
  exact run_good t_slices_Equal_bool_bool hcf hlf ((eq_slices_Equal_bool_bool (slices_Equal_bool_bool_l4 kf kf) v1 v2 K).trans h)

theorem t_slices_Equal_int_int : textOk C_slices_Equal_int_int.bef Try.prog 34 = true := by kernel_rfl

theorem sln_slices_Equal_int_int_l4 {R : Type} : SlOk (R := R) C_slices_Equal_int_int 34 26 0 4 (sl_slices_Equal_int_int_l4 (fun _ _ _ _ _ _ => none)) := by
  intro vs es K r h
  unfold sl_slices_Equal_int_int_l4 at h
  split at h <;> exact no_some h

theorem lok_slices_Equal_int_int_l4 {R : Type} (kf : Nat) : ∀ n, SlOk (R := R) C_slices_Equal_int_int 34 26 0 4 (sl_slices_Equal_int_int_l4 (slices_Equal_int_int_l4 kf n)) := by
  intro n
  induction n with
  | zero =>
    intro vs es K r h
    unfold sl_slices_Equal_int_int_l4 at h
    split at h <;> exact no_some h
  | succ k ih =>
    have hcf : CfOk (R := R) Try.prog glob raw (cf_slices_Equal_int_int (slices_Equal_int_int_l4 kf k)) := cf_nil
    have hlf : LfOk (R := R) C_slices_Equal_int_int 34 (lf_slices_Equal_int_int (slices_Equal_int_int_l4 kf k)) := (lf_top (lf_cons ih lf_nil))
    intro vs es K r h
    unfold sl_slices_Equal_int_int_l4 at h
    split at h
    · exact loop_good (text_mixed t_slices_Equal_int_int) hcf hlf (text_loop t_slices_Equal_int_int 4).1 (text_loop t_slices_Equal_int_int 4).2 ((eq_slices_Equal_int_int_l4 (slices_Equal_int_int_l4 kf k) _ _ _ _ K).trans h)
    · exact no_some h

theorem ok_slices_Equal_int_int {R : Type} (kf : Nat) : Ok_slices_Equal_int_int (R := R) (slices_Equal_int_int kf) := by
  have hcf : CfOk (R := R) Try.prog glob raw (cf_slices_Equal_int_int (slices_Equal_int_int_l4 kf kf)) := cf_nil
  have hlf : LfOk (R := R) C_slices_Equal_int_int 34 (lf_slices_Equal_int_int (slices_Equal_int_int_l4 kf kf)) := (lf_top (lf_cons (lok_slices_Equal_int_int_l4 kf kf) lf_nil))
  intro v1 v2 K r h
  exact run_good t_slices_Equal_int_int hcf hlf ((eq_slices_Equal_int_int (slices_Equal_int_int_l4 kf kf) v1 v2 K).trans h)

theorem t_machine_Same_1 : textOk C_machine_Same_1.bef Try.prog 33 = true := by kernel_rfl

theorem ok_machine_Same_1 {R : Type} (kf : Nat) : Ok_machine_Same_1 (R := R) (machine_Same_1 kf) := by
  have hcf : CfOk (R := R) Try.prog glob raw (cf_machine_Same_1 (slices_Equal_int_int kf)) := (cf_cons (shok_34 (ok_slices_Equal_int_int kf)) cf_nil)
  have hlf : LfOk (R := R) C_machine_Same_1 33 (lf_machine_Same_1 (slices_Equal_int_int kf)) := lf_none
  intro v1 v2 K r h
  exact run_good t_machine_Same_1 hcf hlf ((eq_machine_Same_1 (slices_Equal_int_int kf) v1 v2 K).trans h)

theorem t_slices_EqualFunc_int_int_int_int : textOk C_slices_EqualFunc_int_int_int_int.bef Try.prog 32 = true := by kernel_rfl

theorem sln_slices_EqualFunc_int_int_int_int_l4 {R : Type} : SlOk (R := R) C_slices_EqualFunc_int_int_int_int 32 32 0 4 (sl_slices_EqualFunc_int_int_int_int_l4 (fun _ _ _ _ _ _ => none)) := by
  intro vs es K r h
  unfold sl_slices_EqualFunc_int_int_int_int_l4 at h
  split at h <;> exact no_some h

theorem lok_slices_EqualFunc_int_int_int_int_l4 {R : Type} (kf : Nat) : ∀ n, SlOk (R := R) C_slices_EqualFunc_int_int_int_int 32 32 0 4 (sl_slices_EqualFunc_int_int_int_int_l4 (slices_EqualFunc_int_int_int_int_l4 kf n)) := by
  intro n
  induction n with
  | zero =>
    intro vs es K r h
    unfold sl_slices_EqualFunc_int_int_int_int_l4 at h
    split at h <;> exact no_some h
  | succ k ih =>
    have hcf : CfOk (R := R) Try.prog glob raw (cf_slices_EqualFunc_int_int_int_int (machine_Same_1 kf) (slices_EqualFunc_int_int_int_int_l4 kf k)) := (cf_cons (shok_33 (ok_machine_Same_1 kf)) cf_nil)
    have hlf : LfOk (R := R) C_slices_EqualFunc_int_int_int_int 32 (lf_slices_EqualFunc_int_int_int_int (machine_Same_1 kf) (slices_EqualFunc_int_int_int_int_l4 kf k)) := (lf_top (lf_cons ih lf_nil))
    intro vs es K r h
    unfold sl_slices_EqualFunc_int_int_int_int_l4 at h
    split at h
    · exact loop_good (text_mixed t_slices_EqualFunc_int_int_int_int) hcf hlf (text_loop t_slices_EqualFunc_int_int_int_int 4).1 (text_loop t_slices_EqualFunc_int_int_int_int 4).2 ((eq_slices_EqualFunc_int_int_int_int_l4 (machine_Same_1 kf) (slices_EqualFunc_int_int_int_int_l4 kf k) _ _ _ _ K).trans h)
    · exact no_some h

theorem ok_slices_EqualFunc_int_int_int_int {R : Type} (kf : Nat) : Ok_slices_EqualFunc_int_int_int_int (R := R) (slices_EqualFunc_int_int_int_int kf) := by
  have hcf : CfOk (R := R) Try.prog glob raw (cf_slices_EqualFunc_int_int_int_int (machine_Same_1 kf) (slices_EqualFunc_int_int_int_int_l4 kf kf)) := (cf_cons (shok_33 (ok_machine_Same_1 kf)) cf_nil)
  have hlf : LfOk (R := R) C_slices_EqualFunc_int_int_int_int 32 (lf_slices_EqualFunc_int_int_int_int (machine_Same_1 kf) (slices_EqualFunc_int_int_int_int_l4 kf kf)) := (lf_top (lf_cons (lok_slices_EqualFunc_int_int_int_int_l4 kf kf) lf_nil))
  intro v1 v2 K r h
  exact run_good t_slices_EqualFunc_int_int_int_int hcf hlf ((eq_slices_EqualFunc_int_int_int_int (machine_Same_1 kf) (slices_EqualFunc_int_int_int_int_l4 kf kf) v1 v2 K).trans h)

theorem t_machine_Same : textOk C_machine_Same.bef Try.prog 19 = true := by kernel_rfl

theorem ok_machine_Same {R : Type} (kf : Nat) : Ok_machine_Same (R := R) (machine_Same kf) := by
  have hcf : CfOk (R := R) Try.prog glob raw (cf_machine_Same (slices_Equal_bool_bool kf) (slices_EqualFunc_int_int_int_int kf)) := (cf_cons (shok_31 (ok_slices_Equal_bool_bool kf)) (cf_cons (shok_32 (ok_slices_EqualFunc_int_int_int_int kf)) cf_nil))
  have hlf : LfOk (R := R) C_machine_Same 19 (lf_machine_Same (slices_Equal_bool_bool kf) (slices_EqualFunc_int_int_int_int kf)) := lf_none
  intro v1 v2 v3 v4 v5 v6 K r h
  exact run_good t_machine_Same hcf hlf ((eq_machine_Same (slices_Equal_bool_bool kf) (slices_EqualFunc_int_int_int_int kf) v1 v2 v3 v4 v5 v6 K).trans h)

theorem t_law11_begun : textOk C_law11_begun.bef Try.prog 7 = true := by kernel_rfl

theorem ok_law11_begun {R : Type} (kf : Nat) : Ok_law11_begun (R := R) (law11_begun kf) := by
  have hcf : CfOk (R := R) Try.prog glob raw (cf_law11_begun (machine_May kf) (machine_Classes kf) (machine_Run kf) (machine_Flip kf) (machine_To kf) (machine_Reach kf) (machine_Live kf) (machine_Copy kf) (machine_Same kf)) := (cf_cons (shok_9 (ok_machine_May kf)) (cf_cons (shok_20 (ok_machine_Classes kf)) (cf_cons (shok_10 (ok_machine_Run kf)) (cf_cons (shok_12 (ok_machine_Flip kf)) (cf_cons (shok_18 (ok_machine_To kf)) (cf_cons (shok_14 (ok_machine_Reach kf)) (cf_cons (shok_16 (ok_machine_Live kf)) (cf_cons (shok_22 (ok_machine_Copy kf)) (cf_cons (shok_19 (ok_machine_Same kf)) cf_nil)))))))))
  have hlf : LfOk (R := R) C_law11_begun 7 (lf_law11_begun (machine_May kf) (machine_Classes kf) (machine_Run kf) (machine_Flip kf) (machine_To kf) (machine_Reach kf) (machine_Live kf) (machine_Copy kf) (machine_Same kf)) := lf_none
  intro K r h
  exact run_good t_law11_begun hcf hlf ((eq_law11_begun (machine_May kf) (machine_Classes kf) (machine_Run kf) (machine_Flip kf) (machine_To kf) (machine_Reach kf) (machine_Live kf) (machine_Copy kf) (machine_Same kf) K).trans h)

theorem t_play_Made : textOk C_play_Made.bef Try.prog 23 = true := by kernel_rfl

theorem ok_play_Made {R : Type} : Ok_play_Made (R := R) (play_Made) := by
  have hcf : CfOk (R := R) Try.prog glob raw (cf_play_Made) := cf_nil
  have hlf : LfOk (R := R) C_play_Made 23 (lf_play_Made) := lf_none
  intro v1 K r h
  exact run_good t_play_Made hcf hlf ((eq_play_Made v1 K).trans h)

theorem t_play_Picks_num : textOk C_play_Picks_num.bef Try.prog 24 = true := by kernel_rfl

theorem ok_play_Picks_num {R : Type} : Ok_play_Picks_num (R := R) (play_Picks_num) := by
  have hcf : CfOk (R := R) Try.prog glob raw (cf_play_Picks_num) := cf_nil
  have hlf : LfOk (R := R) C_play_Picks_num 24 (lf_play_Picks_num) := lf_none
  intro v1 v2 v3 K r h
  exact run_good t_play_Picks_num hcf hlf ((eq_play_Picks_num v1 v2 v3 K).trans h)

theorem t_play_Dfa : textOk C_play_Dfa.bef Try.prog 8 = true := by kernel_rfl

theorem sln_play_Dfa_l5 {R : Type} : SlOk (R := R) C_play_Dfa 8 80 0 5 (sl_play_Dfa_l5 (fun _ _ _ _ _ _ _ _ _ _ _ _ => none)) := by
  intro vs es K r h
  unfold sl_play_Dfa_l5 at h
  split at h <;> exact no_some h

theorem sln_play_Dfa_l12 {R : Type} : SlOk (R := R) C_play_Dfa 8 80 0 12 (sl_play_Dfa_l12 (fun _ _ _ _ _ _ _ _ _ _ _ _ => none)) := by
  intro vs es K r h
  unfold sl_play_Dfa_l12 at h
  split at h <;> exact no_some h

theorem sln_play_Dfa_l16 {R : Type} : SlOk (R := R) C_play_Dfa 8 80 0 16 (sl_play_Dfa_l16 (fun _ _ _ _ _ _ _ _ _ _ _ _ _ _ => none)) := by
  intro vs es K r h
  unfold sl_play_Dfa_l16 at h
  split at h <;> exact no_some h

theorem lok_play_Dfa_l5 {R : Type} (kf : Nat) : ∀ n, SlOk (R := R) C_play_Dfa 8 80 0 5 (sl_play_Dfa_l5 (play_Dfa_l5 kf n)) := by
  intro n
  induction n with
  | zero =>
    intro vs es K r h
    unfold sl_play_Dfa_l5 at h
    split at h <;> exact no_some h
  | succ k ih =>
    have hcf : CfOk (R := R) Try.prog glob raw (cf_play_Dfa play_Made play_Picks_num (play_Dfa_l5 kf k) (fun _ _ _ _ _ _ _ _ _ _ _ _ => none) (fun _ _ _ _ _ _ _ _ _ _ _ _ _ _ => none)) := (cf_cons (shok_23 ok_play_Made) (cf_cons (shok_24 ok_play_Picks_num) cf_nil))
    have hlf : LfOk (R := R) C_play_Dfa 8 (lf_play_Dfa play_Made play_Picks_num (play_Dfa_l5 kf k) (fun _ _ _ _ _ _ _ _ _ _ _ _ => none) (fun _ _ _ _ _ _ _ _ _ _ _ _ _ _ => none)) := (lf_top (lf_cons ih (lf_cons (sln_play_Dfa_l12) (lf_cons (sln_play_Dfa_l16) lf_nil))))
    intro vs es K r h
    unfold sl_play_Dfa_l5 at h
    split at h
    · exact loop_good (text_mixed t_play_Dfa) hcf hlf (text_loop t_play_Dfa 5).1 (text_loop t_play_Dfa 5).2 ((eq_play_Dfa_l5 play_Made play_Picks_num (play_Dfa_l5 kf k) (fun _ _ _ _ _ _ _ _ _ _ _ _ => none) (fun _ _ _ _ _ _ _ _ _ _ _ _ _ _ => none) _ _ _ _ _ _ _ _ _ _ _ K).trans h)
    · exact no_some h

theorem lok_play_Dfa_l16 {R : Type} (kf : Nat) : ∀ n, SlOk (R := R) C_play_Dfa 8 80 0 16 (sl_play_Dfa_l16 (play_Dfa_l16 kf n)) := by
  intro n
  induction n with
  | zero =>
    intro vs es K r h
    unfold sl_play_Dfa_l16 at h
    split at h <;> exact no_some h
  | succ k ih =>
    have hcf : CfOk (R := R) Try.prog glob raw (cf_play_Dfa play_Made play_Picks_num (play_Dfa_l5 kf k) (fun _ _ _ _ _ _ _ _ _ _ _ _ => none) (play_Dfa_l16 kf k)) := (cf_cons (shok_23 ok_play_Made) (cf_cons (shok_24 ok_play_Picks_num) cf_nil))
    have hlf : LfOk (R := R) C_play_Dfa 8 (lf_play_Dfa play_Made play_Picks_num (play_Dfa_l5 kf k) (fun _ _ _ _ _ _ _ _ _ _ _ _ => none) (play_Dfa_l16 kf k)) := (lf_top (lf_cons (lok_play_Dfa_l5 kf k) (lf_cons (sln_play_Dfa_l12) (lf_cons ih lf_nil))))
    intro vs es K r h
    unfold sl_play_Dfa_l16 at h
    split at h
    · exact loop_good (text_mixed t_play_Dfa) hcf hlf (text_loop t_play_Dfa 16).1 (text_loop t_play_Dfa 16).2 ((eq_play_Dfa_l16 play_Made play_Picks_num (play_Dfa_l5 kf k) (fun _ _ _ _ _ _ _ _ _ _ _ _ => none) (play_Dfa_l16 kf k) _ _ _ _ _ _ _ _ _ _ _ _ _ K).trans h)
    · exact no_some h

theorem lok_play_Dfa_l12 {R : Type} (kf : Nat) : ∀ n, SlOk (R := R) C_play_Dfa 8 80 0 12 (sl_play_Dfa_l12 (play_Dfa_l12 kf n)) := by
  intro n
  induction n with
  | zero =>
    intro vs es K r h
    unfold sl_play_Dfa_l12 at h
    split at h <;> exact no_some h
  | succ k ih =>
    have hcf : CfOk (R := R) Try.prog glob raw (cf_play_Dfa play_Made play_Picks_num (play_Dfa_l5 kf k) (play_Dfa_l12 kf k) (play_Dfa_l16 kf k)) := (cf_cons (shok_23 ok_play_Made) (cf_cons (shok_24 ok_play_Picks_num) cf_nil))
    have hlf : LfOk (R := R) C_play_Dfa 8 (lf_play_Dfa play_Made play_Picks_num (play_Dfa_l5 kf k) (play_Dfa_l12 kf k) (play_Dfa_l16 kf k)) := (lf_top (lf_cons (lok_play_Dfa_l5 kf k) (lf_cons ih (lf_cons (lok_play_Dfa_l16 kf k) lf_nil))))
    intro vs es K r h
    unfold sl_play_Dfa_l12 at h
    split at h
    · exact loop_good (text_mixed t_play_Dfa) hcf hlf (text_loop t_play_Dfa 12).1 (text_loop t_play_Dfa 12).2 ((eq_play_Dfa_l12 play_Made play_Picks_num (play_Dfa_l5 kf k) (play_Dfa_l12 kf k) (play_Dfa_l16 kf k) _ _ _ _ _ _ _ _ _ _ _ K).trans h)
    · exact no_some h

theorem ok_play_Dfa {R : Type} (kf : Nat) : Ok_play_Dfa (R := R) (play_Dfa kf) := by
  have hcf : CfOk (R := R) Try.prog glob raw (cf_play_Dfa play_Made play_Picks_num (play_Dfa_l5 kf kf) (play_Dfa_l12 kf kf) (play_Dfa_l16 kf kf)) := (cf_cons (shok_23 ok_play_Made) (cf_cons (shok_24 ok_play_Picks_num) cf_nil))
  have hlf : LfOk (R := R) C_play_Dfa 8 (lf_play_Dfa play_Made play_Picks_num (play_Dfa_l5 kf kf) (play_Dfa_l12 kf kf) (play_Dfa_l16 kf kf)) := (lf_top (lf_cons (lok_play_Dfa_l5 kf kf) (lf_cons (lok_play_Dfa_l12 kf kf) (lf_cons (lok_play_Dfa_l16 kf kf) lf_nil))))
  intro v1 v2 v3 K r h
  exact run_good t_play_Dfa hcf hlf ((eq_play_Dfa play_Made play_Picks_num (play_Dfa_l5 kf kf) (play_Dfa_l12 kf kf) (play_Dfa_l16 kf kf) v1 v2 v3 K).trans h)

theorem t_ref11_Same : textOk C_ref11_Same.bef Try.prog 21 = true := by kernel_rfl

theorem sln_ref11_Same_l4 {R : Type} : SlOk (R := R) C_ref11_Same 21 96 0 4 (sl_ref11_Same_l4 (fun _ _ _ _ _ _ _ _ _ => none)) := by
  intro vs es K r h
  unfold sl_ref11_Same_l4 at h
  split at h <;> exact no_some h

theorem sln_ref11_Same_l9 {R : Type} : SlOk (R := R) C_ref11_Same 21 96 0 9 (sl_ref11_Same_l9 (fun _ _ _ _ _ _ _ _ _ => none)) := by
  intro vs es K r h
  unfold sl_ref11_Same_l9 at h
  split at h <;> exact no_some h

theorem sln_ref11_Same_l14 {R : Type} : SlOk (R := R) C_ref11_Same 21 96 0 14 (sl_ref11_Same_l14 (fun _ _ _ _ _ _ _ _ _ _ => none)) := by
  intro vs es K r h
  unfold sl_ref11_Same_l14 at h
  split at h <;> exact no_some h

theorem lok_ref11_Same_l4 {R : Type} (kf : Nat) : ∀ n, SlOk (R := R) C_ref11_Same 21 96 0 4 (sl_ref11_Same_l4 (ref11_Same_l4 kf n)) := by
  intro n
  induction n with
  | zero =>
    intro vs es K r h
    unfold sl_ref11_Same_l4 at h
    split at h <;> exact no_some h
  | succ k ih =>
    have hcf : CfOk (R := R) Try.prog glob raw (cf_ref11_Same (ref11_Same_l4 kf k) (fun _ _ _ _ _ _ _ _ _ => none) (fun _ _ _ _ _ _ _ _ _ _ => none)) := cf_nil
    have hlf : LfOk (R := R) C_ref11_Same 21 (lf_ref11_Same (ref11_Same_l4 kf k) (fun _ _ _ _ _ _ _ _ _ => none) (fun _ _ _ _ _ _ _ _ _ _ => none)) := (lf_top (lf_cons ih (lf_cons (sln_ref11_Same_l9) (lf_cons (sln_ref11_Same_l14) lf_nil))))
    intro vs es K r h
    unfold sl_ref11_Same_l4 at h
    split at h
    · exact loop_good (text_mixed t_ref11_Same) hcf hlf (text_loop t_ref11_Same 4).1 (text_loop t_ref11_Same 4).2 ((eq_ref11_Same_l4 (ref11_Same_l4 kf k) (fun _ _ _ _ _ _ _ _ _ => none) (fun _ _ _ _ _ _ _ _ _ _ => none) _ _ _ _ _ _ _ K).trans h)
    · exact no_some h

theorem lok_ref11_Same_l14 {R : Type} (kf : Nat) : ∀ n, SlOk (R := R) C_ref11_Same 21 96 0 14 (sl_ref11_Same_l14 (ref11_Same_l14 kf n)) := by
  intro n
  induction n with
  | zero =>
    intro vs es K r h
    unfold sl_ref11_Same_l14 at h
    split at h <;> exact no_some h
  | succ k ih =>
    have hcf : CfOk (R := R) Try.prog glob raw (cf_ref11_Same (ref11_Same_l4 kf k) (fun _ _ _ _ _ _ _ _ _ => none) (ref11_Same_l14 kf k)) := cf_nil
    have hlf : LfOk (R := R) C_ref11_Same 21 (lf_ref11_Same (ref11_Same_l4 kf k) (fun _ _ _ _ _ _ _ _ _ => none) (ref11_Same_l14 kf k)) := (lf_top (lf_cons (lok_ref11_Same_l4 kf k) (lf_cons (sln_ref11_Same_l9) (lf_cons ih lf_nil))))
    intro vs es K r h
    unfold sl_ref11_Same_l14 at h
    split at h
    · exact loop_good (text_mixed t_ref11_Same) hcf hlf (text_loop t_ref11_Same 14).1 (text_loop t_ref11_Same 14).2 ((eq_ref11_Same_l14 (ref11_Same_l4 kf k) (fun _ _ _ _ _ _ _ _ _ => none) (ref11_Same_l14 kf k) _ _ _ _ _ _ _ _ K).trans h)
    · exact no_some h

theorem lok_ref11_Same_l9 {R : Type} (kf : Nat) : ∀ n, SlOk (R := R) C_ref11_Same 21 96 0 9 (sl_ref11_Same_l9 (ref11_Same_l9 kf n)) := by
  intro n
  induction n with
  | zero =>
    intro vs es K r h
    unfold sl_ref11_Same_l9 at h
    split at h <;> exact no_some h
  | succ k ih =>
    have hcf : CfOk (R := R) Try.prog glob raw (cf_ref11_Same (ref11_Same_l4 kf k) (ref11_Same_l9 kf k) (ref11_Same_l14 kf k)) := cf_nil
    have hlf : LfOk (R := R) C_ref11_Same 21 (lf_ref11_Same (ref11_Same_l4 kf k) (ref11_Same_l9 kf k) (ref11_Same_l14 kf k)) := (lf_top (lf_cons (lok_ref11_Same_l4 kf k) (lf_cons ih (lf_cons (lok_ref11_Same_l14 kf k) lf_nil))))
    intro vs es K r h
    unfold sl_ref11_Same_l9 at h
    split at h
    · exact loop_good (text_mixed t_ref11_Same) hcf hlf (text_loop t_ref11_Same 9).1 (text_loop t_ref11_Same 9).2 ((eq_ref11_Same_l9 (ref11_Same_l4 kf k) (ref11_Same_l9 kf k) (ref11_Same_l14 kf k) _ _ _ _ _ _ _ K).trans h)
    · exact no_some h

theorem ok_ref11_Same {R : Type} (kf : Nat) : Ok_ref11_Same (R := R) (ref11_Same kf) := by
  have hcf : CfOk (R := R) Try.prog glob raw (cf_ref11_Same (ref11_Same_l4 kf kf) (ref11_Same_l9 kf kf) (ref11_Same_l14 kf kf)) := cf_nil
  have hlf : LfOk (R := R) C_ref11_Same 21 (lf_ref11_Same (ref11_Same_l4 kf kf) (ref11_Same_l9 kf kf) (ref11_Same_l14 kf kf)) := (lf_top (lf_cons (lok_ref11_Same_l4 kf kf) (lf_cons (lok_ref11_Same_l9 kf kf) (lf_cons (lok_ref11_Same_l14 kf kf) lf_nil))))
  intro v1 v2 v3 v4 v5 v6 K r h
  exact run_good t_ref11_Same hcf hlf ((eq_ref11_Same (ref11_Same_l4 kf kf) (ref11_Same_l9 kf kf) (ref11_Same_l14 kf kf) v1 v2 v3 v4 v5 v6 K).trans h)

theorem t_law11_MachineSpoilt : textOk C_law11_MachineSpoilt.bef Try.prog 6 = true := by kernel_rfl

def k1 : Bool → Option Unit := fun r0 => isTrue (.bool r0) []
def spP (kf : Nat) (how : Int) (w : (List Int)) (k : Int) (c : (List Int)) (r : (List (List Int))) (e : (List Bool)) : Prop :=
  k = ((r.length - 1 : Nat) : Int) ∧ 0 < r.length ∧ r.length ≤ 4000000000000000000 ∧ (∀ i, i < r.length → 0 < (r.getD i []).length) ∧
    ((Int.tmod how 5 = 1 ∨ Int.tmod how 5 = 2) → ∀ r', SpR r r' (if Int.tmod how 5 = 1 then r.length - 1 else 0) (if Int.tmod how 5 = 1 then (r.length : Int) else -1) → spF (machine_May kf) (machine_Run kf) (machine_To kf) (machine_Reach kf) (machine_Live kf) (machine_Classes kf) (machine_Flip kf) (ref11_Same kf) w k1 c r' e = some ()) ∧
    (¬ (Int.tmod how 5 = 1 ∨ Int.tmod how 5 = 2) → spX how k c r e (fun c r e => spF (machine_May kf) (machine_Run kf) (machine_To kf) (machine_Reach kf) (machine_Live kf) (machine_Classes kf) (machine_Flip kf) (ref11_Same kf) w k1 c r e) = some ())
open Classical in
noncomputable def spJ (kf : Nat) (how : Int) (w : (List Int)) (k : Int) (c : (List Int)) (r : (List (List Int))) (e : (List Bool)) : Option Unit := if spP kf how w k c r e then some () else none
theorem ite_unit {p : Prop} {inst : Decidable p} (h : (if p then some () else none) = some ()) : p := by
  by_cases hp : p
  · exact hp
  · rw [if_neg hp] at h; cases h
theorem okN_law11_MachineSpoilt (kf : Nat) (v1 : Int) (v2 : Int) (v3 : (List Int)) (v4 : Int) (v5 : (List Int)) (h : spA (law11_begun kf) (play_Dfa kf) v1 v2 v3 v4 v5 k1 (spJ kf) = some ()) : FnOkN Try.prog glob 6 (npF raw 6 []) [.int .u8 v1, .int .u8 v2, .sl (.int .u8) v3, .int .u8 v4, .sl (.int .u8) v5] [] (.bool true) [] := by
  have hcf : CfOk (R := Unit) Try.prog glob raw (cf_law11_MachineSpoilt (law11_begun kf) (play_Dfa kf) (machine_May kf) (machine_Run kf) (machine_To kf) (machine_Reach kf) (machine_Live kf) (machine_Classes kf) (machine_Flip kf) (ref11_Same kf)) := (cf_cons (shok_7 (ok_law11_begun kf)) (cf_cons (shok_8 (ok_play_Dfa kf)) (cf_cons (shok_9 (ok_machine_May kf)) (cf_cons (shok_10 (ok_machine_Run kf)) (cf_cons (shok_18 (ok_machine_To kf)) (cf_cons (shok_14 (ok_machine_Reach kf)) (cf_cons (shok_16 (ok_machine_Live kf)) (cf_cons (shok_20 (ok_machine_Classes kf)) (cf_cons (shok_12 (ok_machine_Flip kf)) (cf_cons (shok_21 (ok_ref11_Same kf)) cf_nil))))))))))
  have hlf : LfOk (R := Unit) C_law11_MachineSpoilt 6 (lf_law11_MachineSpoilt (law11_begun kf) (play_Dfa kf) (machine_May kf) (machine_Run kf) (machine_To kf) (machine_Reach kf) (machine_Live kf) (machine_Classes kf) (machine_Flip kf) (ref11_Same kf)) := lf_none
  have hm := text_mixed t_law11_MachineSpoilt
  refine run_goodN (C := C_law11_MachineSpoilt) t_law11_MachineSpoilt (show Try.prog.funcs[6]? = some Try.f6 by kernel_rfl) ?_
  refine goodN_spine hm hcf hlf 5 (bodyOf Try.prog 6) _ (show codeOk C_law11_MachineSpoilt.bef (restC 0 (bodyOf Try.prog 6)) = true by kernel_rfl) (sp_hl 0) ((sp0 (law11_begun kf) (play_Dfa kf) (machine_May kf) (machine_Run kf) (machine_To kf) (machine_Reach kf) (machine_Live kf) (machine_Classes kf) (machine_Flip kf) (ref11_Same kf) v1 v2 v3 v4 v5 isTrue (spJ kf)).trans h) fun st0 h0 => ?_
  refine goodN_cut h0 fun vs es h1 => ?_
  unfold jfA at h1
  split at h1
  rotate_left
  · exact no_some h1
  rename_i how w k c r e
  unfold spJ at h1
  have hP := ite_unit h1
  obtain ⟨rfl, p1, p2, p3, p4, p5⟩ := hP
  have hrest : ∀ st1, cutJ 112 0 [4, 11] (jfB (fun w c r e => spF (machine_May kf) (machine_Run kf) (machine_To kf) (machine_Reach kf) (machine_Live kf) (machine_Classes kf) (machine_Flip kf) (ref11_Same kf) w k1 c r e)) st1 = some () → GoodN C_law11_MachineSpoilt (restC 6 (bodyOf Try.prog 6)) st1 (runFin C_law11_MachineSpoilt Try.f6.results.toList isTrue) () := fun st1 h1 => by
    refine goodN_cut h1 fun vs es h2 => ?_
    unfold jfB at h2
    split at h2
    rotate_left
    · exact no_some h2
    exact .of (good_code hm hcf hlf (by kernel_rfl) (sp_hl 6) ((sp2 (law11_begun kf) (play_Dfa kf) (machine_May kf) (machine_Run kf) (machine_To kf) (machine_Reach kf) (machine_Live kf) (machine_Classes kf) (machine_Flip kf) (ref11_Same kf) _ _ _ _ isTrue).trans h2))
  by_cases h12 : Int.tmod how 5 = 1 ∨ Int.tmod how 5 = 2
  · rw [spY]
    obtain ⟨f1, hT⟩ := spT
    refine goodN_seq (J := cutJ 112 0 [4, 11] (jfB (fun w c r e => spF (machine_May kf) (machine_Run kf) (machine_To kf) (machine_Reach kf) (machine_Live kf) (machine_Classes kf) (machine_Flip kf) (ref11_Same kf) w k1 c r e))) (good_spoil (C := C_law11_MachineSpoilt) hT spO sp_glob (by decide) p1 p2 p3 h12 fun r' hS => ?_) hrest
    exact (sp3 _ _ _ _ _).trans (p4 h12 r' hS)
  · exact goodN_spine hm hcf hlf 1 (restC 5 (bodyOf Try.prog 6)) _ (by kernel_rfl) (sp_hl 5) ((sp1 (law11_begun kf) (play_Dfa kf) (machine_May kf) (machine_Run kf) (machine_To kf) (machine_Reach kf) (machine_Live kf) (machine_Classes kf) (machine_Flip kf) (ref11_Same kf) _ _ _ _ _ _ isTrue (fun w c r e => spF (machine_May kf) (machine_Run kf) (machine_To kf) (machine_Reach kf) (machine_Live kf) (machine_Classes kf) (machine_Flip kf) (ref11_Same kf) w k1 c r e)).trans (p5 h12)) hrest

end
end Go.Ab.T
