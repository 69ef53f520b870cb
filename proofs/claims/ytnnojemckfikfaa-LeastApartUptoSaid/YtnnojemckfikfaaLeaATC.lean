/- LeaATC: a part of the proofs of this seat's statements. -/
import Derived.Test.YtnnojemckfikfaaLeaAAA
import Derived.Test.YtnnojemckfikfaaLeaATB
import Derived.Test.YtnnojemckfikfaaKnot


namespace Go.Ab.T

open Go Go.Ab Go.Proofs

set_option maxRecDepth 100000

set_option linter.unusedVariables false

noncomputable section

def Ok_law12_LeastApart {R : Type} (c : Int → Int → (List Int) → (Bool → Option R) → Option R) : Prop := ∀ (v1 : Int) (v2 : Int) (v3 : (List Int)) (K : S → List Ent → Option R) (r : R), c v1 v2 v3 (fun (r0 : Bool) => K (.bool r0) []) = some r → ∃ v es, FnOk Try.prog glob 6 (npF raw 6 []) [.int .u8 v1, .int .u8 v2, .sl (.int .u8) v3] [] v es ∧ K v es = some r

theorem okn_law12_LeastApart {R : Type} : Ok_law12_LeastApart (R := R) (fun _ _ _ _ => none) := fun _ _ _ _ _ h => no_some h

theorem shok_6 {R : Type} {c_law12_LeastApart : Int → Int → (List Int) → (Bool → Option R) → Option R} (h_law12_LeastApart : Ok_law12_LeastApart c_law12_LeastApart) : ShOk Try.prog glob raw 6 (sh6 c_law12_LeastApart) := by
  intro av es K r h
  unfold sh6 at h
  split at h
  · exact h_law12_LeastApart _ _ _ _ _ h
  · exact no_some h

def Ok_law12_begun {R : Type} (c : (Bool → Option R) → Option R) : Prop := ∀ (K : S → List Ent → Option R) (r : R), c (fun (r0 : Bool) => K (.bool r0) []) = some r → ∃ v es, FnOk Try.prog glob 10 (npF raw 10 []) [] [] v es ∧ K v es = some r

theorem okn_law12_begun {R : Type} : Ok_law12_begun (R := R) (fun _ => none) := fun _ _ h => no_some h

theorem shok_10 {R : Type} {c_law12_begun : (Bool → Option R) → Option R} (h_law12_begun : Ok_law12_begun c_law12_begun) : ShOk Try.prog glob raw 10 (sh10 c_law12_begun) := by
  intro av es K r h
  unfold sh10 at h
  split at h
  · exact h_law12_begun _ _ h
  · exact no_some h

def Ok_play_Dfa {R : Type} (c : Int → Int → (List Int) → ((List Int) → (List (List Int)) → (List Bool) → Option R) → Option R) : Prop := ∀ (v1 : Int) (v2 : Int) (v3 : (List Int)) (K : S → List Ent → Option R) (r : R), c v1 v2 v3 (fun (r0 : (List Int)) (r1 : (List (List Int))) (r2 : (List Bool)) => K (.st [.arr 256 (.int .u8) r0, .own (.slice (.int .i64)) 0, .own .bool 1]) [.buf (.slice (.int .i64)) r1 false, .buf .bool r2 false]) = some r → ∃ v es, FnOk Try.prog glob 11 (npF raw 11 []) [.int .u8 v1, .int .u8 v2, .sl (.int .u8) v3] [] v es ∧ K v es = some r

theorem okn_play_Dfa {R : Type} : Ok_play_Dfa (R := R) (fun _ _ _ _ => none) := fun _ _ _ _ _ h => no_some h

theorem shok_11 {R : Type} {c_play_Dfa : Int → Int → (List Int) → ((List Int) → (List (List Int)) → (List Bool) → Option R) → Option R} (h_play_Dfa : Ok_play_Dfa c_play_Dfa) : ShOk Try.prog glob raw 11 (sh11 c_play_Dfa) := by
  intro av es K r h
  unfold sh11 at h
  split at h
  · exact h_play_Dfa _ _ _ _ _ h
  · exact no_some h

def Ok_least_Least {R : Type} (c : (List Int) → (List (List Int)) → (List Bool) → ((List Int) → (List (List Int)) → (List Bool) → Option R) → Option R) : Prop := ∀ (v1 : (List Int)) (v2 : (List (List Int))) (v3 : (List Bool)) (K : S → List Ent → Option R) (r : R), c v1 v2 v3 (fun (r0 : (List Int)) (r1 : (List (List Int))) (r2 : (List Bool)) => K (.st [.arr 256 (.int .u8) r0, .own (.slice (.int .i64)) 0, .own .bool 1]) [.buf (.slice (.int .i64)) r1 false, .buf .bool r2 false]) = some r → ∃ v es, FnOk Try.prog glob 13 (npF raw 13 []) [.st [.arr 256 (.int .u8) v1, .sl (.slice (.int .i64)) v2, .sl .bool v3]] [] v es ∧ K v es = some r

theorem okn_least_Least {R : Type} : Ok_least_Least (R := R) (fun _ _ _ _ => none) := fun _ _ _ _ _ h => no_some h

theorem shok_13 {R : Type} {c_least_Least : (List Int) → (List (List Int)) → (List Bool) → ((List Int) → (List (List Int)) → (List Bool) → Option R) → Option R} (h_least_Least : Ok_least_Least c_least_Least) : ShOk Try.prog glob raw 13 (sh13 c_least_Least) := by
  intro av es K r h
  unfold sh13 at h
  split at h
  · exact h_least_Least _ _ _ _ _ h
  · exact no_some h

def Ok_least_Parts {R : Type} (c : (List Int) → (List (List Int)) → (List Bool) → ((List Int) → Option R) → Option R) : Prop := ∀ (v1 : (List Int)) (v2 : (List (List Int))) (v3 : (List Bool)) (K : S → List Ent → Option R) (r : R), c v1 v2 v3 (fun (r0 : (List Int)) => K (.own (.int .i64) 0) [.buf (.int .i64) r0 false]) = some r → ∃ v es, FnOk Try.prog glob 16 (npF raw 16 []) [.st [.arr 256 (.int .u8) v1, .sl (.slice (.int .i64)) v2, .sl .bool v3]] [] v es ∧ K v es = some r

theorem okn_least_Parts {R : Type} : Ok_least_Parts (R := R) (fun _ _ _ _ => none) := fun _ _ _ _ _ h => no_some h

theorem shok_16 {R : Type} {c_least_Parts : (List Int) → (List (List Int)) → (List Bool) → ((List Int) → Option R) → Option R} (h_least_Parts : Ok_least_Parts c_least_Parts) : ShOk Try.prog glob raw 16 (sh16 c_least_Parts) := by
  intro av es K r h
  unfold sh16 at h
  split at h
  · exact h_least_Parts _ _ _ _ _ h
  · exact no_some h

def Ok_ref11_May {R : Type} (c : (List Int) → (List (List Int)) → (List Bool) → (Bool → Option R) → Option R) : Prop := ∀ (v1 : (List Int)) (v2 : (List (List Int))) (v3 : (List Bool)) (K : S → List Ent → Option R) (r : R), c v1 v2 v3 (fun (r0 : Bool) => K (.bool r0) []) = some r → ∃ v es, FnOk Try.prog glob 18 (npF raw 18 []) [.st [.arr 256 (.int .u8) v1, .sl (.slice (.int .i64)) v2, .sl .bool v3]] [] v es ∧ K v es = some r

theorem okn_ref11_May {R : Type} : Ok_ref11_May (R := R) (fun _ _ _ _ => none) := fun _ _ _ _ _ h => no_some h

theorem shok_18 {R : Type} {c_ref11_May : (List Int) → (List (List Int)) → (List Bool) → (Bool → Option R) → Option R} (h_ref11_May : Ok_ref11_May c_ref11_May) : ShOk Try.prog glob raw 18 (sh18 c_ref11_May) := by
  intro av es K r h
  unfold sh18 at h
  split at h
  · exact h_ref11_May _ _ _ _ _ h
  · exact no_some h

def Ok_ref11_Classes {R : Type} (c : (List Int) → (List (List Int)) → (List Bool) → (Int → Option R) → Option R) : Prop := ∀ (v1 : (List Int)) (v2 : (List (List Int))) (v3 : (List Bool)) (K : S → List Ent → Option R) (r : R), c v1 v2 v3 (fun (r0 : Int) => K (.int .i64 r0) []) = some r → ∃ v es, FnOk Try.prog glob 20 (npF raw 20 []) [.st [.arr 256 (.int .u8) v1, .sl (.slice (.int .i64)) v2, .sl .bool v3]] [] v es ∧ K v es = some r

theorem okn_ref11_Classes {R : Type} : Ok_ref11_Classes (R := R) (fun _ _ _ _ => none) := fun _ _ _ _ _ h => no_some h

theorem shok_20 {R : Type} {c_ref11_Classes : (List Int) → (List (List Int)) → (List Bool) → (Int → Option R) → Option R} (h_ref11_Classes : Ok_ref11_Classes c_ref11_Classes) : ShOk Try.prog glob raw 20 (sh20 c_ref11_Classes) := by
  intro av es K r h
  unfold sh20 at h
  split at h
  · exact h_ref11_Classes _ _ _ _ _ h
  · exact no_some h

def Ok_least_Is {R : Type} (c : (List Int) → (List (List Int)) → (List Bool) → (Bool → Option R) → Option R) : Prop := ∀ (v1 : (List Int)) (v2 : (List (List Int))) (v3 : (List Bool)) (K : S → List Ent → Option R) (r : R), c v1 v2 v3 (fun (r0 : Bool) => K (.bool r0) []) = some r → ∃ v es, FnOk Try.prog glob 21 (npF raw 21 []) [.st [.arr 256 (.int .u8) v1, .sl (.slice (.int .i64)) v2, .sl .bool v3]] [] v es ∧ K v es = some r

theorem okn_least_Is {R : Type} : Ok_least_Is (R := R) (fun _ _ _ _ => none) := fun _ _ _ _ _ h => no_some h

theorem shok_21 {R : Type} {c_least_Is : (List Int) → (List (List Int)) → (List Bool) → (Bool → Option R) → Option R} (h_least_Is : Ok_least_Is c_least_Is) : ShOk Try.prog glob raw 21 (sh21 c_least_Is) := by
  intro av es K r h
  unfold sh21 at h
  split at h
  · exact h_least_Is _ _ _ _ _ h
  · exact no_some h

def Ok_play_Made {R : Type} (c : (List Int) → ((List Int) → Int → Option R) → Option R) : Prop := ∀ (v1 : (List Int)) (K : S → List Ent → Option R) (r : R), c v1 (fun (r0 : (List Int)) (r1 : Int) => K (.ptr 0 []) [.box (.st [.sl (.int .u8) r0, .int .i64 r1]) false]) = some r → ∃ v es, FnOk Try.prog glob 26 (npF raw 26 []) [.sl (.int .u8) v1] [] v es ∧ K v es = some r

theorem okn_play_Made {R : Type} : Ok_play_Made (R := R) (fun _ _ => none) := fun _ _ _ h => no_some h

theorem shok_26 {R : Type} {c_play_Made : (List Int) → ((List Int) → Int → Option R) → Option R} (h_play_Made : Ok_play_Made c_play_Made) : ShOk Try.prog glob raw 26 (sh26 c_play_Made) := by
  intro av es K r h
  unfold sh26 at h
  split at h
  · exact h_play_Made _ _ _ h
  · exact no_some h

def Ok_play_Picks_num {R : Type} (c : Int → (List Int) → Int → (Int → (List Int) → Int → Option R) → Option R) : Prop := ∀ (v1 : Int) (v2 : (List Int)) (v3 : Int) (K : S → List Ent → Option R) (r : R), c v1 v2 v3 (fun (r0 : Int) (r1 : (List Int)) (r2 : Int) => K (.int .i64 r0) [.box (.st [.sl (.int .u8) r1, .int .i64 r2]) false]) = some r → ∃ v es, FnOk Try.prog glob 27 (npF raw 27 [.box (.st [.sl (.int .u8) v2, .int .i64 v3]) false]) [.ptr 0 [], .int .i64 v1] [.box (.st [.sl (.int .u8) v2, .int .i64 v3]) false] v es ∧ K v es = some r

theorem okn_play_Picks_num {R : Type} : Ok_play_Picks_num (R := R) (fun _ _ _ _ => none) := fun _ _ _ _ _ h => no_some h

theorem shok_27 {R : Type} {c_play_Picks_num : Int → (List Int) → Int → (Int → (List Int) → Int → Option R) → Option R} (h_play_Picks_num : Ok_play_Picks_num c_play_Picks_num) : ShOk Try.prog glob raw 27 (sh27 c_play_Picks_num) := by
  intro av es K r h
  unfold sh27 at h
  split at h
  · exact h_play_Picks_num _ _ _ _ _ h
  · exact no_some h

def Ok_machine_May {R : Type} (c : (List Int) → (List (List Int)) → (List Bool) → (Bool → Option R) → Option R) : Prop := ∀ (v1 : (List Int)) (v2 : (List (List Int))) (v3 : (List Bool)) (K : S → List Ent → Option R) (r : R), c v1 v2 v3 (fun (r0 : Bool) => K (.bool r0) []) = some r → ∃ v es, FnOk Try.prog glob 28 (npF raw 28 []) [.st [.arr 256 (.int .u8) v1, .sl (.slice (.int .i64)) v2, .sl .bool v3]] [] v es ∧ K v es = some r

theorem okn_machine_May {R : Type} : Ok_machine_May (R := R) (fun _ _ _ _ => none) := fun _ _ _ _ _ h => no_some h

theorem shok_28 {R : Type} {c_machine_May : (List Int) → (List (List Int)) → (List Bool) → (Bool → Option R) → Option R} (h_machine_May : Ok_machine_May c_machine_May) : ShOk Try.prog glob raw 28 (sh28 c_machine_May) := by
  intro av es K r h
  unfold sh28 at h
  split at h
  · exact h_machine_May _ _ _ _ _ h
  · exact no_some h

def Ok_least_parts {R : Type} (c : (List Int) → (List (List Int)) → (List Bool) → ((List Int) → Option R) → Option R) : Prop := ∀ (v1 : (List Int)) (v2 : (List (List Int))) (v3 : (List Bool)) (K : S → List Ent → Option R) (r : R), c v1 v2 v3 (fun (r0 : (List Int)) => K (.own (.int .i64) 0) [.buf (.int .i64) r0 false]) = some r → ∃ v es, FnOk Try.prog glob 29 (npF raw 29 []) [.st [.arr 256 (.int .u8) v1, .sl (.slice (.int .i64)) v2, .sl .bool v3]] [] v es ∧ K v es = some r

theorem okn_least_parts {R : Type} : Ok_least_parts (R := R) (fun _ _ _ _ => none) := fun _ _ _ _ _ h => no_some h

theorem shok_29 {R : Type} {c_least_parts : (List Int) → (List (List Int)) → (List Bool) → ((List Int) → Option R) → Option R} (h_least_parts : Ok_least_parts c_least_parts) : ShOk Try.prog glob raw 29 (sh29 c_least_parts) := by
  intro av es K r h
  unfold sh29 at h
  split at h
  · exact h_least_parts _ _ _ _ _ h
  · exact no_some h

def Ok_least_order {R : Type} (c : (List Int) → (List (List Int)) → (List Bool) → (List Int) → ((List Int) → (List (Int × Int)) → Option R) → Option R) : Prop := ∀ (v1 : (List Int)) (v2 : (List (List Int))) (v3 : (List Bool)) (v4 : (List Int)) (K : S → List Ent → Option R) (r : R), c v1 v2 v3 v4 (fun (r0 : (List Int)) (r1 : (List (Int × Int))) => K (.tup [.own (.int .i64) 0, .mp 1]) [.buf (.int .i64) r0 false, .map (.int .i64) (.int .i64) r1 false]) = some r → ∃ v es, FnOk Try.prog glob 30 (npF raw 30 []) [.st [.arr 256 (.int .u8) v1, .sl (.slice (.int .i64)) v2, .sl .bool v3], .sl (.int .i64) v4] [] v es ∧ K v es = some r

theorem okn_least_order {R : Type} : Ok_least_order (R := R) (fun _ _ _ _ _ => none) := fun _ _ _ _ _ _ h => no_some h

theorem shok_30 {R : Type} {c_least_order : (List Int) → (List (List Int)) → (List Bool) → (List Int) → ((List Int) → (List (Int × Int)) → Option R) → Option R} (h_least_order : Ok_least_order c_least_order) : ShOk Try.prog glob raw 30 (sh30 c_least_order) := by
  intro av es K r h
  unfold sh30 at h
  split at h
  · exact h_least_order _ _ _ _ _ _ h
  · exact no_some h

def Ok_slices_IndexFunc_int_int {R : Type} (c : (List (List Int)) → (List Int) → (Int → (List Int) → Option R) → Option R) : Prop := ∀ (v1 : (List (List Int))) (v2 : (List Int)) (K : S → List Ent → Option R) (r : R), c v1 v2 (fun (r0 : Int) (r1 : (List Int)) => K (.int .i64 r0) [.box (.own (.int .i64) 1) false, .buf (.int .i64) r1 false]) = some r → ∃ v es, FnOk Try.prog glob 31 (npF raw 31 [.box (.own (.int .i64) 1) false, .buf (.int .i64) v2 false]) [.sl (.slice (.int .i64)) v1, .fn 32 [.ptr 0 []]] [.box (.own (.int .i64) 1) false, .buf (.int .i64) v2 false] v es ∧ K v es = some r

theorem okn_slices_IndexFunc_int_int {R : Type} : Ok_slices_IndexFunc_int_int (R := R) (fun _ _ _ => none) := fun _ _ _ _ h => no_some h

theorem shok_31 {R : Type} {c_slices_IndexFunc_int_int : (List (List Int)) → (List Int) → (Int → (List Int) → Option R) → Option R} (h_slices_IndexFunc_int_int : Ok_slices_IndexFunc_int_int c_slices_IndexFunc_int_int) : ShOk Try.prog glob raw 31 (sh31 c_slices_IndexFunc_int_int) := by
  intro av es K r h
  unfold sh31 at h
  split at h
  · exact h_slices_IndexFunc_int_int _ _ _ _ h
  · exact no_some h

def Ok_least_Least_1 {R : Type} (c : (List Int) → (List Int) → (Bool → (List Int) → Option R) → Option R) : Prop := ∀ (v1 : (List Int)) (v2 : (List Int)) (K : S → List Ent → Option R) (r : R), c v1 v2 (fun (r0 : Bool) (r1 : (List Int)) => K (.bool r0) [.box (.own (.int .i64) 1) false, .buf (.int .i64) r1 false]) = some r → ∃ v es, FnOk Try.prog glob 32 (npF raw 32 [.box (.own (.int .i64) 1) false, .buf (.int .i64) v2 false]) [.sl (.int .i64) v1, .ptr 0 []] [.box (.own (.int .i64) 1) false, .buf (.int .i64) v2 false] v es ∧ K v es = some r

theorem okn_least_Least_1 {R : Type} : Ok_least_Least_1 (R := R) (fun _ _ _ => none) := fun _ _ _ _ h => no_some h

theorem shok_32 {R : Type} {c_least_Least_1 : (List Int) → (List Int) → (Bool → (List Int) → Option R) → Option R} (h_least_Least_1 : Ok_least_Least_1 c_least_Least_1) : ShOk Try.prog glob raw 32 (sh32 c_least_Least_1) := by
  intro av es K r h
  unfold sh32 at h
  split at h
  · exact h_least_Least_1 _ _ _ _ h
  · exact no_some h

def Ok_slices_Equal_int_int {R : Type} (c : (List Int) → (List Int) → (Bool → Option R) → Option R) : Prop := ∀ (v1 : (List Int)) (v2 : (List Int)) (K : S → List Ent → Option R) (r : R), c v1 v2 (fun (r0 : Bool) => K (.bool r0) []) = some r → ∃ v es, FnOk Try.prog glob 33 (npF raw 33 []) [.sl (.int .i64) v1, .sl (.int .i64) v2] [] v es ∧ K v es = some r

theorem okn_slices_Equal_int_int {R : Type} : Ok_slices_Equal_int_int (R := R) (fun _ _ _ => none) := fun _ _ _ _ h => no_some h

theorem shok_33 {R : Type} {c_slices_Equal_int_int : (List Int) → (List Int) → (Bool → Option R) → Option R} (h_slices_Equal_int_int : Ok_slices_Equal_int_int c_slices_Equal_int_int) : ShOk Try.prog glob raw 33 (sh33 c_slices_Equal_int_int) := by
  intro av es K r h
  unfold sh33 at h
  split at h
  · exact h_slices_Equal_int_int _ _ _ _ h
  · exact no_some h

def Ok_machine_Same {R : Type} (c : (List Int) → (List (List Int)) → (List Bool) → (List Int) → (List (List Int)) → (List Bool) → (Bool → Option R) → Option R) : Prop := ∀ (v1 : (List Int)) (v2 : (List (List Int))) (v3 : (List Bool)) (v4 : (List Int)) (v5 : (List (List Int))) (v6 : (List Bool)) (K : S → List Ent → Option R) (r : R), c v1 v2 v3 v4 v5 v6 (fun (r0 : Bool) => K (.bool r0) []) = some r → ∃ v es, FnOk Try.prog glob 38 (npF raw 38 []) [.st [.arr 256 (.int .u8) v1, .sl (.slice (.int .i64)) v2, .sl .bool v3], .st [.arr 256 (.int .u8) v4, .sl (.slice (.int .i64)) v5, .sl .bool v6]] [] v es ∧ K v es = some r

theorem okn_machine_Same {R : Type} : Ok_machine_Same (R := R) (fun _ _ _ _ _ _ _ => none) := fun _ _ _ _ _ _ _ _ h => no_some h

theorem shok_38 {R : Type} {c_machine_Same : (List Int) → (List (List Int)) → (List Bool) → (List Int) → (List (List Int)) → (List Bool) → (Bool → Option R) → Option R} (h_machine_Same : Ok_machine_Same c_machine_Same) : ShOk Try.prog glob raw 38 (sh38 c_machine_Same) := by
  intro av es K r h
  unfold sh38 at h
  split at h
  · exact h_machine_Same _ _ _ _ _ _ _ _ h
  · exact no_some h

def Ok_machine_classes {R : Type} (c : (List Int) → (List (List Int)) → (List Bool) → (Int → Option R) → Option R) : Prop := ∀ (v1 : (List Int)) (v2 : (List (List Int))) (v3 : (List Bool)) (K : S → List Ent → Option R) (r : R), c v1 v2 v3 (fun (r0 : Int) => K (.int .i64 r0) []) = some r → ∃ v es, FnOk Try.prog glob 41 (npF raw 41 []) [.st [.arr 256 (.int .u8) v1, .sl (.slice (.int .i64)) v2, .sl .bool v3]] [] v es ∧ K v es = some r

theorem okn_machine_classes {R : Type} : Ok_machine_classes (R := R) (fun _ _ _ _ => none) := fun _ _ _ _ _ h => no_some h

theorem shok_41 {R : Type} {c_machine_classes : (List Int) → (List (List Int)) → (List Bool) → (Int → Option R) → Option R} (h_machine_classes : Ok_machine_classes c_machine_classes) : ShOk Try.prog glob raw 41 (sh41 c_machine_classes) := by
  intro av es K r h
  unfold sh41 at h
  split at h
  · exact h_machine_classes _ _ _ _ _ h
  · exact no_some h

def Ok_slices_ContainsFunc_int_int {R : Type} (c : (List Int) → Int → (Bool → Int → Option R) → Option R) : Prop := ∀ (v1 : (List Int)) (v2 : Int) (K : S → List Ent → Option R) (r : R), c v1 v2 (fun (r0 : Bool) (r1 : Int) => K (.bool r0) [.box (.int .i64 r1) false]) = some r → ∃ v es, FnOk Try.prog glob 42 (npF raw 42 [.box (.int .i64 v2) false]) [.sl (.int .i64) v1, .fn 43 [.ptr 0 []]] [.box (.int .i64 v2) false] v es ∧ K v es = some r

theorem okn_slices_ContainsFunc_int_int {R : Type} : Ok_slices_ContainsFunc_int_int (R := R) (fun _ _ _ => none) := fun _ _ _ _ h => no_some h

theorem shok_42 {R : Type} {c_slices_ContainsFunc_int_int : (List Int) → Int → (Bool → Int → Option R) → Option R} (h_slices_ContainsFunc_int_int : Ok_slices_ContainsFunc_int_int c_slices_ContainsFunc_int_int) : ShOk Try.prog glob raw 42 (sh42 c_slices_ContainsFunc_int_int) := by
  intro av es K r h
  unfold sh42 at h
  split at h
  · exact h_slices_ContainsFunc_int_int _ _ _ _ h
  · exact no_some h

def Ok_machine_May_1 {R : Type} (c : Int → Int → (Bool → Int → Option R) → Option R) : Prop := ∀ (v1 : Int) (v2 : Int) (K : S → List Ent → Option R) (r : R), c v1 v2 (fun (r0 : Bool) (r1 : Int) => K (.bool r0) [.box (.int .i64 r1) false]) = some r → ∃ v es, FnOk Try.prog glob 43 (npF raw 43 [.box (.int .i64 v2) false]) [.int .i64 v1, .ptr 0 []] [.box (.int .i64 v2) false] v es ∧ K v es = some r

theorem okn_machine_May_1 {R : Type} : Ok_machine_May_1 (R := R) (fun _ _ _ => none) := fun _ _ _ _ h => no_some h

theorem shok_43 {R : Type} {c_machine_May_1 : Int → Int → (Bool → Int → Option R) → Option R} (h_machine_May_1 : Ok_machine_May_1 c_machine_May_1) : ShOk Try.prog glob raw 43 (sh43 c_machine_May_1) := by
  intro av es K r h
  unfold sh43 at h
  split at h
  · exact h_machine_May_1 _ _ _ _ h
  · exact no_some h

def Ok_least_mark {R : Type} (c : Int → (List Int) → (List Int) → ((List Int) → Option R) → Option R) : Prop := ∀ (v1 : Int) (v2 : (List Int)) (v3 : (List Int)) (K : S → List Ent → Option R) (r : R), c v1 v2 v3 (fun (r0 : (List Int)) => K (.str r0) []) = some r → ∃ v es, FnOk Try.prog glob 44 (npF raw 44 []) [.int .i64 v1, .sl (.int .i64) v2, .sl (.int .i64) v3] [] v es ∧ K v es = some r

theorem okn_least_mark {R : Type} : Ok_least_mark (R := R) (fun _ _ _ _ => none) := fun _ _ _ _ _ h => no_some h

theorem shok_44 {R : Type} {c_least_mark : Int → (List Int) → (List Int) → ((List Int) → Option R) → Option R} (h_least_mark : Ok_least_mark c_least_mark) : ShOk Try.prog glob raw 44 (sh44 c_least_mark) := by
  intro av es K r h
  unfold sh44 at h
  split at h
  · exact h_least_mark _ _ _ _ _ h
  · exact no_some h

def Ok_slices_Equal_bool_bool {R : Type} (c : (List Bool) → (List Bool) → (Bool → Option R) → Option R) : Prop := ∀ (v1 : (List Bool)) (v2 : (List Bool)) (K : S → List Ent → Option R) (r : R), c v1 v2 (fun (r0 : Bool) => K (.bool r0) []) = some r → ∃ v es, FnOk Try.prog glob 45 (npF raw 45 []) [.sl .bool v1, .sl .bool v2] [] v es ∧ K v es = some r

theorem okn_slices_Equal_bool_bool {R : Type} : Ok_slices_Equal_bool_bool (R := R) (fun _ _ _ => none) := fun _ _ _ _ h => no_some h

theorem shok_45 {R : Type} {c_slices_Equal_bool_bool : (List Bool) → (List Bool) → (Bool → Option R) → Option R} (h_slices_Equal_bool_bool : Ok_slices_Equal_bool_bool c_slices_Equal_bool_bool) : ShOk Try.prog glob raw 45 (sh45 c_slices_Equal_bool_bool) := by
  intro av es K r h
  unfold sh45 at h
  split at h
  · exact h_slices_Equal_bool_bool _ _ _ _ h
  · exact no_some h

def Ok_slices_EqualFunc_int_int_int_int {R : Type} (c : (List (List Int)) → (List (List Int)) → (Bool → Option R) → Option R) : Prop := ∀ (v1 : (List (List Int))) (v2 : (List (List Int))) (K : S → List Ent → Option R) (r : R), c v1 v2 (fun (r0 : Bool) => K (.bool r0) []) = some r → ∃ v es, FnOk Try.prog glob 46 (npF raw 46 []) [.sl (.slice (.int .i64)) v1, .sl (.slice (.int .i64)) v2, .fn 47 []] [] v es ∧ K v es = some r

theorem okn_slices_EqualFunc_int_int_int_int {R : Type} : Ok_slices_EqualFunc_int_int_int_int (R := R) (fun _ _ _ => none) := fun _ _ _ _ h => no_some h

theorem shok_46 {R : Type} {c_slices_EqualFunc_int_int_int_int : (List (List Int)) → (List (List Int)) → (Bool → Option R) → Option R} (h_slices_EqualFunc_int_int_int_int : Ok_slices_EqualFunc_int_int_int_int c_slices_EqualFunc_int_int_int_int) : ShOk Try.prog glob raw 46 (sh46 c_slices_EqualFunc_int_int_int_int) := by
  intro av es K r h
  unfold sh46 at h
  split at h
  · exact h_slices_EqualFunc_int_int_int_int _ _ _ _ h
  · exact no_some h

def Ok_machine_Same_1 {R : Type} (c : (List Int) → (List Int) → (Bool → Option R) → Option R) : Prop := ∀ (v1 : (List Int)) (v2 : (List Int)) (K : S → List Ent → Option R) (r : R), c v1 v2 (fun (r0 : Bool) => K (.bool r0) []) = some r → ∃ v es, FnOk Try.prog glob 47 (npF raw 47 []) [.sl (.int .i64) v1, .sl (.int .i64) v2] [] v es ∧ K v es = some r

theorem okn_machine_Same_1 {R : Type} : Ok_machine_Same_1 (R := R) (fun _ _ _ => none) := fun _ _ _ _ h => no_some h

theorem shok_47 {R : Type} {c_machine_Same_1 : (List Int) → (List Int) → (Bool → Option R) → Option R} (h_machine_Same_1 : Ok_machine_Same_1 c_machine_Same_1) : ShOk Try.prog glob raw 47 (sh47 c_machine_Same_1) := by
  intro av es K r h
  unfold sh47 at h
  split at h
  · exact h_machine_Same_1 _ _ _ _ h
  · exact no_some h

def Ok_slices_Max_uint8_uint8 {R : Type} (c : (List Int) → (Int → Option R) → Option R) : Prop := ∀ (v1 : (List Int)) (K : S → List Ent → Option R) (r : R), c v1 (fun (r0 : Int) => K (.int .u8 r0) []) = some r → ∃ v es, FnOk Try.prog glob 48 (npF raw 48 []) [.sl (.int .u8) v1] [] v es ∧ K v es = some r

theorem okn_slices_Max_uint8_uint8 {R : Type} : Ok_slices_Max_uint8_uint8 (R := R) (fun _ _ => none) := fun _ _ _ h => no_some h

theorem shok_48 {R : Type} {c_slices_Max_uint8_uint8 : (List Int) → (Int → Option R) → Option R} (h_slices_Max_uint8_uint8 : Ok_slices_Max_uint8_uint8 c_slices_Max_uint8_uint8) : ShOk Try.prog glob raw 48 (sh48 c_slices_Max_uint8_uint8) := by
  intro av es K r h
  unfold sh48 at h
  split at h
  · exact h_slices_Max_uint8_uint8 _ _ _ h
  · exact no_some h

def Ok_slices_IndexFunc_int_int_1 {R : Type} (c : (List Int) → Int → (Int → Int → Option R) → Option R) : Prop := ∀ (v1 : (List Int)) (v2 : Int) (K : S → List Ent → Option R) (r : R), c v1 v2 (fun (r0 : Int) (r1 : Int) => K (.int .i64 r0) [.box (.int .i64 r1) false]) = some r → ∃ v es, FnOk Try.prog glob 49 (npF raw 49 [.box (.int .i64 v2) false]) [.sl (.int .i64) v1, .fn 43 [.ptr 0 []]] [.box (.int .i64 v2) false] v es ∧ K v es = some r

theorem okn_slices_IndexFunc_int_int_1 {R : Type} : Ok_slices_IndexFunc_int_int_1 (R := R) (fun _ _ _ => none) := fun _ _ _ _ h => no_some h

theorem shok_49 {R : Type} {c_slices_IndexFunc_int_int_1 : (List Int) → Int → (Int → Int → Option R) → Option R} (h_slices_IndexFunc_int_int_1 : Ok_slices_IndexFunc_int_int_1 c_slices_IndexFunc_int_int_1) : ShOk Try.prog glob raw 49 (sh49 c_slices_IndexFunc_int_int_1) := by
  intro av es K r h
  unfold sh49 at h
  split at h
  · exact h_slices_IndexFunc_int_int_1 _ _ _ _ h
  · exact no_some h

theorem t_slices_Max_uint8_uint8 : textOk C_slices_Max_uint8_uint8.bef Try.prog 48 = true := by kernel_rfl

theorem sln_slices_Max_uint8_uint8_l5 {R : Type} : SlOk (R := R) C_slices_Max_uint8_uint8 48 25 0 5 (sl_slices_Max_uint8_uint8_l5 (fun _ _ _ _ => none)) := by
  intro vs es K r h
  unfold sl_slices_Max_uint8_uint8_l5 at h
  split at h <;> exact no_some h

theorem lok_slices_Max_uint8_uint8_l5 {R : Type} (kf : Nat) : ∀ n, SlOk (R := R) C_slices_Max_uint8_uint8 48 25 0 5 (sl_slices_Max_uint8_uint8_l5 (slices_Max_uint8_uint8_l5 kf n)) := by
  intro n
  induction n with
  | zero =>
    intro vs es K r h
    unfold sl_slices_Max_uint8_uint8_l5 at h
    split at h <;> exact no_some h
  | succ k ih =>
    have hcf : CfOk (R := R) Try.prog glob raw (cf_slices_Max_uint8_uint8 (slices_Max_uint8_uint8_l5 kf k)) := cf_nil
    have hlf : LfOk (R := R) C_slices_Max_uint8_uint8 48 (lf_slices_Max_uint8_uint8 (slices_Max_uint8_uint8_l5 kf k)) := (lf_top (lf_cons ih lf_nil))
    intro vs es K r h
    unfold sl_slices_Max_uint8_uint8_l5 at h
    split at h
    · exact loop_good (text_mixed t_slices_Max_uint8_uint8) hcf hlf (text_loop t_slices_Max_uint8_uint8 5).1 (text_loop t_slices_Max_uint8_uint8 5).2 ((eq_slices_Max_uint8_uint8_l5 (slices_Max_uint8_uint8_l5 kf k) _ _ _ K).trans h)
    · exact no_some h

theorem ok_slices_Max_uint8_uint8 {R : Type} (kf : Nat) : Ok_slices_Max_uint8_uint8 (R := R) (slices_Max_uint8_uint8 kf) := by
  have hcf : CfOk (R := R) Try.prog glob raw (cf_slices_Max_uint8_uint8 (slices_Max_uint8_uint8_l5 kf kf)) := cf_nil
  have hlf : LfOk (R := R) C_slices_Max_uint8_uint8 48 (lf_slices_Max_uint8_uint8 (slices_Max_uint8_uint8_l5 kf kf)) := (lf_top (lf_cons (lok_slices_Max_uint8_uint8_l5 kf kf) lf_nil))
  intro v1 K r h
  exact run_good t_slices_Max_uint8_uint8 hcf hlf ((eq_slices_Max_uint8_uint8 (slices_Max_uint8_uint8_l5 kf kf) v1 K).trans h)

theorem t_machine_classes : textOk C_machine_classes.bef Try.prog 41 = true := by kernel_rfl

theorem ok_machine_classes {R : Type} (kf : Nat) : Ok_machine_classes (R := R) (machine_classes kf) := by
  have hcf : CfOk (R := R) Try.prog glob raw (cf_machine_classes (slices_Max_uint8_uint8 kf)) := (cf_cons (shok_48 (ok_slices_Max_uint8_uint8 kf)) cf_nil)
  have hlf : LfOk (R := R) C_machine_classes 41 (lf_machine_classes (slices_Max_uint8_uint8 kf)) := lf_none
  intro v1 v2 v3 K r h
  exact run_good t_machine_classes hcf hlf ((eq_machine_classes (slices_Max_uint8_uint8 kf) v1 v2 v3 K).trans h)

theorem t_machine_May_1 : textOk C_machine_May_1.bef Try.prog 43 = true := by kernel_rfl

theorem ok_machine_May_1 {R : Type} : Ok_machine_May_1 (R := R) (machine_May_1) := by
  have hcf : CfOk (R := R) Try.prog glob raw (cf_machine_May_1) := cf_nil
  have hlf : LfOk (R := R) C_machine_May_1 43 (lf_machine_May_1) := lf_none
  intro v1 v2 K r h
  exact run_good t_machine_May_1 hcf hlf ((eq_machine_May_1 v1 v2 K).trans h)

theorem t_slices_IndexFunc_int_int_1 : textOk C_slices_IndexFunc_int_int_1.bef Try.prog 49 = true := by kernel_rfl

theorem sln_slices_IndexFunc_int_int_1_l2 {R : Type} : SlOk (R := R) C_slices_IndexFunc_int_int_1 49 19 1 2 (sl_slices_IndexFunc_int_int_1_l2 (fun _ _ _ _ _ _ => none)) := by
  intro vs es K r h
  unfold sl_slices_IndexFunc_int_int_1_l2 at h
  split at h <;> exact no_some h

theorem lok_slices_IndexFunc_int_int_1_l2 {R : Type} (kf : Nat) : ∀ n, SlOk (R := R) C_slices_IndexFunc_int_int_1 49 19 1 2 (sl_slices_IndexFunc_int_int_1_l2 (slices_IndexFunc_int_int_1_l2 kf n)) := by
  intro n
  induction n with
  | zero =>
    intro vs es K r h
    unfold sl_slices_IndexFunc_int_int_1_l2 at h
    split at h <;> exact no_some h
  | succ k ih =>
    have hcf : CfOk (R := R) Try.prog glob raw (cf_slices_IndexFunc_int_int_1 machine_May_1 (slices_IndexFunc_int_int_1_l2 kf k)) := (cf_cons (shok_43 ok_machine_May_1) cf_nil)
    have hlf : LfOk (R := R) C_slices_IndexFunc_int_int_1 49 (lf_slices_IndexFunc_int_int_1 machine_May_1 (slices_IndexFunc_int_int_1_l2 kf k)) := (lf_top (lf_cons ih lf_nil))
    intro vs es K r h
    unfold sl_slices_IndexFunc_int_int_1_l2 at h
    split at h
    · exact loop_good (text_mixed t_slices_IndexFunc_int_int_1) hcf hlf (text_loop t_slices_IndexFunc_int_int_1 2).1 (text_loop t_slices_IndexFunc_int_int_1 2).2 ((eq_slices_IndexFunc_int_int_1_l2 machine_May_1 (slices_IndexFunc_int_int_1_l2 kf k) _ _ _ _ K).trans h)
    · exact no_some h

theorem ok_slices_IndexFunc_int_int_1 {R : Type} (kf : Nat) : Ok_slices_IndexFunc_int_int_1 (R := R) (slices_IndexFunc_int_int_1 kf) := by
  have hcf : CfOk (R := R) Try.prog glob raw (cf_slices_IndexFunc_int_int_1 machine_May_1 (slices_IndexFunc_int_int_1_l2 kf kf)) := (cf_cons (shok_43 ok_machine_May_1) cf_nil)
  have hlf : LfOk (R := R) C_slices_IndexFunc_int_int_1 49 (lf_slices_IndexFunc_int_int_1 machine_May_1 (slices_IndexFunc_int_int_1_l2 kf kf)) := (lf_top (lf_cons (lok_slices_IndexFunc_int_int_1_l2 kf kf) lf_nil))
  intro v1 v2 K r h
  exact run_good t_slices_IndexFunc_int_int_1 hcf hlf ((eq_slices_IndexFunc_int_int_1 machine_May_1 (slices_IndexFunc_int_int_1_l2 kf kf) v1 v2 K).trans h)

theorem t_slices_ContainsFunc_int_int : textOk C_slices_ContainsFunc_int_int.bef Try.prog 42 = true := by kernel_rfl

theorem ok_slices_ContainsFunc_int_int {R : Type} (kf : Nat) : Ok_slices_ContainsFunc_int_int (R := R) (slices_ContainsFunc_int_int kf) := by
  have hcf : CfOk (R := R) Try.prog glob raw (cf_slices_ContainsFunc_int_int (slices_IndexFunc_int_int_1 kf)) := (cf_cons (shok_49 (ok_slices_IndexFunc_int_int_1 kf)) cf_nil)
  have hlf : LfOk (R := R) C_slices_ContainsFunc_int_int 42 (lf_slices_ContainsFunc_int_int (slices_IndexFunc_int_int_1 kf)) := lf_none
  intro v1 v2 K r h
  exact run_good t_slices_ContainsFunc_int_int hcf hlf ((eq_slices_ContainsFunc_int_int (slices_IndexFunc_int_int_1 kf) v1 v2 K).trans h)

theorem t_machine_May : textOk C_machine_May.bef Try.prog 28 = true := by kernel_rfl

theorem sln_machine_May_l6 {R : Type} : SlOk (R := R) C_machine_May 28 42 0 6 (sl_machine_May_l6 (fun _ _ _ _ _ _ _ => none)) := by
  intro vs es K r h
  unfold sl_machine_May_l6 at h
  split at h <;> exact no_some h

theorem lok_machine_May_l6 {R : Type} (kf : Nat) : ∀ n, SlOk (R := R) C_machine_May 28 42 0 6 (sl_machine_May_l6 (machine_May_l6 kf n)) := by
  intro n
  induction n with
  | zero =>
    intro vs es K r h
    unfold sl_machine_May_l6 at h
    split at h <;> exact no_some h
  | succ k ih =>
    have hcf : CfOk (R := R) Try.prog glob raw (cf_machine_May (machine_classes kf) (slices_ContainsFunc_int_int kf) (machine_May_l6 kf k)) := (cf_cons (shok_41 (ok_machine_classes kf)) (cf_cons (shok_42 (ok_slices_ContainsFunc_int_int kf)) cf_nil))
    have hlf : LfOk (R := R) C_machine_May 28 (lf_machine_May (machine_classes kf) (slices_ContainsFunc_int_int kf) (machine_May_l6 kf k)) := (lf_top (lf_cons ih lf_nil))
    intro vs es K r h
    unfold sl_machine_May_l6 at h
    split at h
    · exact loop_good (text_mixed t_machine_May) hcf hlf (text_loop t_machine_May 6).1 (text_loop t_machine_May 6).2 ((eq_machine_May_l6 (machine_classes kf) (slices_ContainsFunc_int_int kf) (machine_May_l6 kf k) _ _ _ _ _ K).trans h)
    · exact no_some h

theorem ok_machine_May {R : Type} (kf : Nat) : Ok_machine_May (R := R) (machine_May kf) := by
  have hcf : CfOk (R := R) Try.prog glob raw (cf_machine_May (machine_classes kf) (slices_ContainsFunc_int_int kf) (machine_May_l6 kf kf)) := (cf_cons (shok_41 (ok_machine_classes kf)) (cf_cons (shok_42 (ok_slices_ContainsFunc_int_int kf)) cf_nil))
  have hlf : LfOk (R := R) C_machine_May 28 (lf_machine_May (machine_classes kf) (slices_ContainsFunc_int_int kf) (machine_May_l6 kf kf)) := (lf_top (lf_cons (lok_machine_May_l6 kf kf) lf_nil))
  intro v1 v2 v3 K r h
  exact run_good t_machine_May hcf hlf ((eq_machine_May (machine_classes kf) (slices_ContainsFunc_int_int kf) (machine_May_l6 kf kf) v1 v2 v3 K).trans h)

theorem t_least_mark : textOk C_least_mark.bef Try.prog 44 = true := by kernel_rfl

theorem sln_least_mark_l3 {R : Type} : SlOk (R := R) C_least_mark 44 39 0 3 (sl_least_mark_l3 (fun _ _ _ _ _ _ => none)) := by
  intro vs es K r h
  unfold sl_least_mark_l3 at h
  split at h <;> exact no_some h

theorem lok_least_mark_l3 {R : Type} (kf : Nat) : ∀ n, SlOk (R := R) C_least_mark 44 39 0 3 (sl_least_mark_l3 (least_mark_l3 kf n)) := by
  intro n
  induction n with
  | zero =>
    intro vs es K r h
    unfold sl_least_mark_l3 at h
    split at h <;> exact no_some h
  | succ k ih =>
    have hcf : CfOk (R := R) Try.prog glob raw (cf_least_mark (least_mark_l3 kf k)) := cf_nil
    have hlf : LfOk (R := R) C_least_mark 44 (lf_least_mark (least_mark_l3 kf k)) := (lf_top (lf_cons ih lf_nil))
    intro vs es K r h
    unfold sl_least_mark_l3 at h
    split at h
    · exact loop_good (text_mixed t_least_mark) hcf hlf (text_loop t_least_mark 3).1 (text_loop t_least_mark 3).2 ((eq_least_mark_l3 (least_mark_l3 kf k) _ _ _ _ _ K).trans h)
    · exact no_some h

theorem ok_least_mark {R : Type} (kf : Nat) : Ok_least_mark (R := R) (least_mark kf) := by
  have hcf : CfOk (R := R) Try.prog glob raw (cf_least_mark (least_mark_l3 kf kf)) := cf_nil
  have hlf : LfOk (R := R) C_least_mark 44 (lf_least_mark (least_mark_l3 kf kf)) := (lf_top (lf_cons (lok_least_mark_l3 kf kf) lf_nil))
  intro v1 v2 v3 K r h
  exact run_good t_least_mark hcf hlf ((eq_least_mark (least_mark_l3 kf kf) v1 v2 v3 K).trans h)

theorem t_least_parts : textOk C_least_parts.bef Try.prog 29 = true := by kernel_rfl

theorem sln_least_parts_l4 {R : Type} : SlOk (R := R) C_least_parts 29 81 0 4 (sl_least_parts_l4 (fun _ _ _ _ _ _ _ _ _ => none)) := by
  intro vs es K r h
  unfold sl_least_parts_l4 at h
  split at h <;> exact no_some h

theorem sln_least_parts_l9 {R : Type} : SlOk (R := R) C_least_parts 29 81 0 9 (sl_least_parts_l9 (fun _ _ _ _ _ _ => none)) := by
  intro vs es K r h
  unfold sl_least_parts_l9 at h
  split at h <;> exact no_some h

theorem sln_least_parts_l12 {R : Type} : SlOk (R := R) C_least_parts 29 81 0 12 (sl_least_parts_l12 (fun _ _ _ _ _ _ _ _ _ _ _ => none)) := by
  intro vs es K r h
  unfold sl_least_parts_l12 at h
  split at h <;> exact no_some h

theorem lok_least_parts_l4 {R : Type} (kf : Nat) : ∀ n, SlOk (R := R) C_least_parts 29 81 0 4 (sl_least_parts_l4 (least_parts_l4 kf n)) := by
  intro n
  induction n with
  | zero =>
    intro vs es K r h
    unfold sl_least_parts_l4 at h
    split at h <;> exact no_some h
  | succ k ih =>
    have hcf : CfOk (R := R) Try.prog glob raw (cf_least_parts (least_mark kf) (least_parts_l4 kf k) (fun _ _ _ _ _ _ => none) (fun _ _ _ _ _ _ _ _ _ _ _ => none)) := (cf_cons (shok_44 (ok_least_mark kf)) cf_nil)
    have hlf : LfOk (R := R) C_least_parts 29 (lf_least_parts (least_mark kf) (least_parts_l4 kf k) (fun _ _ _ _ _ _ => none) (fun _ _ _ _ _ _ _ _ _ _ _ => none)) := (lf_top (lf_cons ih (lf_cons (sln_least_parts_l9) (lf_cons (sln_least_parts_l12) lf_nil))))
    intro vs es K r h
    unfold sl_least_parts_l4 at h
    split at h
    · exact loop_good (text_mixed t_least_parts) hcf hlf (text_loop t_least_parts 4).1 (text_loop t_least_parts 4).2 ((eq_least_parts_l4 (least_mark kf) (least_parts_l4 kf k) (fun _ _ _ _ _ _ => none) (fun _ _ _ _ _ _ _ _ _ _ _ => none) _ _ _ _ _ _ _ _ K).trans h)
    · exact no_some h

theorem lok_least_parts_l12 {R : Type} (kf : Nat) : ∀ n, SlOk (R := R) C_least_parts 29 81 0 12 (sl_least_parts_l12 (least_parts_l12 kf n)) := by
  intro n
  induction n with
  | zero =>
    intro vs es K r h
    unfold sl_least_parts_l12 at h
    split at h <;> exact no_some h
  | succ k ih =>
    have hcf : CfOk (R := R) Try.prog glob raw (cf_least_parts (least_mark kf) (least_parts_l4 kf k) (fun _ _ _ _ _ _ => none) (least_parts_l12 kf k)) := (cf_cons (shok_44 (ok_least_mark kf)) cf_nil)
    have hlf : LfOk (R := R) C_least_parts 29 (lf_least_parts (least_mark kf) (least_parts_l4 kf k) (fun _ _ _ _ _ _ => none) (least_parts_l12 kf k)) := (lf_top (lf_cons (lok_least_parts_l4 kf k) (lf_cons (sln_least_parts_l9) (lf_cons ih lf_nil))))
    intro vs es K r h
    unfold sl_least_parts_l12 at h
    split at h
    · exact loop_good (text_mixed t_least_parts) hcf hlf (text_loop t_least_parts 12).1 (text_loop t_least_parts 12).2 ((eq_least_parts_l12 (least_mark kf) (least_parts_l4 kf k) (fun _ _ _ _ _ _ => none) (least_parts_l12 kf k) _ _ _ _ _ _ _ _ _ _ K).trans h)
    · exact no_some h

theorem lok_least_parts_l9 {R : Type} (kf : Nat) : ∀ n, SlOk (R := R) C_least_parts 29 81 0 9 (sl_least_parts_l9 (least_parts_l9 kf n)) := by
  intro n
  induction n with
  | zero =>
    intro vs es K r h
    unfold sl_least_parts_l9 at h
    split at h <;> exact no_some h
  | succ k ih =>
    have hcf : CfOk (R := R) Try.prog glob raw (cf_least_parts (least_mark kf) (least_parts_l4 kf k) (least_parts_l9 kf k) (least_parts_l12 kf k)) := (cf_cons (shok_44 (ok_least_mark kf)) cf_nil)
    have hlf : LfOk (R := R) C_least_parts 29 (lf_least_parts (least_mark kf) (least_parts_l4 kf k) (least_parts_l9 kf k) (least_parts_l12 kf k)) := (lf_top (lf_cons (lok_least_parts_l4 kf k) (lf_cons ih (lf_cons (lok_least_parts_l12 kf k) lf_nil))))
    intro vs es K r h
    unfold sl_least_parts_l9 at h
    split at h
    · exact loop_good (text_mixed t_least_parts) hcf hlf (text_loop t_least_parts 9).1 (text_loop t_least_parts 9).2 ((eq_least_parts_l9 (least_mark kf) (least_parts_l4 kf k) (least_parts_l9 kf k) (least_parts_l12 kf k) _ _ _ _ _ K).trans h)
    · exact no_some h

theorem ok_least_parts {R : Type} (kf : Nat) : Ok_least_parts (R := R) (least_parts kf) := by
  have hcf : CfOk (R := R) Try.prog glob raw (cf_least_parts (least_mark kf) (least_parts_l4 kf kf) (least_parts_l9 kf kf) (least_parts_l12 kf kf)) := (cf_cons (shok_44 (ok_least_mark kf)) cf_nil)
  have hlf : LfOk (R := R) C_least_parts 29 (lf_least_parts (least_mark kf) (least_parts_l4 kf kf) (least_parts_l9 kf kf) (least_parts_l12 kf kf)) := (lf_top (lf_cons (lok_least_parts_l4 kf kf) (lf_cons (lok_least_parts_l9 kf kf) (lf_cons (lok_least_parts_l12 kf kf) lf_nil))))
  intro v1 v2 v3 K r h
  exact run_good t_least_parts hcf hlf ((eq_least_parts (least_mark kf) (least_parts_l4 kf kf) (least_parts_l9 kf kf) (least_parts_l12 kf kf) v1 v2 v3 K).trans h)

theorem t_least_order : textOk C_least_order.bef Try.prog 30 = true := by kernel_rfl

theorem sln_least_order_l4 {R : Type} : SlOk (R := R) C_least_order 30 65 0 4 (sl_least_order_l4 (fun _ _ _ _ _ _ _ _ => none)) := by
  intro vs es K r h
  unfold sl_least_order_l4 at h
  split at h <;> exact no_some h

theorem sln_least_order_l7 {R : Type} : SlOk (R := R) C_least_order 30 65 0 7 (sl_least_order_l7 (fun _ _ _ _ _ _ _ _ _ => none)) := by
  intro vs es K r h
  unfold sl_least_order_l7 at h
  split at h <;> exact no_some h

theorem lok_least_order_l7 {R : Type} (kf : Nat) : ∀ n, SlOk (R := R) C_least_order 30 65 0 7 (sl_least_order_l7 (least_order_l7 kf n)) := by
  intro n
  induction n with
  | zero =>
    intro vs es K r h
    unfold sl_least_order_l7 at h
    split at h <;> exact no_some h
  | succ k ih =>
    have hcf : CfOk (R := R) Try.prog glob raw (cf_least_order (fun _ _ _ _ _ _ _ _ => none) (least_order_l7 kf k)) := cf_nil
    have hlf : LfOk (R := R) C_least_order 30 (lf_least_order (fun _ _ _ _ _ _ _ _ => none) (least_order_l7 kf k)) := (lf_top (lf_cons (sln_least_order_l4) (lf_cons ih lf_nil)))
    intro vs es K r h
    unfold sl_least_order_l7 at h
    split at h
    · exact loop_good (text_mixed t_least_order) hcf hlf (text_loop t_least_order 7).1 (text_loop t_least_order 7).2 ((eq_least_order_l7 (fun _ _ _ _ _ _ _ _ => none) (least_order_l7 kf k) _ _ _ _ _ _ _ _ K).trans h)
    · exact no_some h

theorem lok_least_order_l4 {R : Type} (kf : Nat) : ∀ n, SlOk (R := R) C_least_order 30 65 0 4 (sl_least_order_l4 (least_order_l4 kf n)) := by
  intro n
  induction n with
  | zero =>
    intro vs es K r h
    unfold sl_least_order_l4 at h
    split at h <;> exact no_some h
  | succ k ih =>
    have hcf : CfOk (R := R) Try.prog glob raw (cf_least_order (least_order_l4 kf k) (least_order_l7 kf k)) := cf_nil
    have hlf : LfOk (R := R) C_least_order 30 (lf_least_order (least_order_l4 kf k) (least_order_l7 kf k)) := (lf_top (lf_cons ih (lf_cons (lok_least_order_l7 kf k) lf_nil)))
    intro vs es K r h
    unfold sl_least_order_l4 at h
    split at h
    · exact loop_good (text_mixed t_least_order) hcf hlf (text_loop t_least_order 4).1 (text_loop t_least_order 4).2 ((eq_least_order_l4 (least_order_l4 kf k) (least_order_l7 kf k) _ _ _ _ _ _ _ K).trans h)
    · exact no_some h

theorem ok_least_order {R : Type} (kf : Nat) : Ok_least_order (R := R) (least_order kf) := by
  have hcf : CfOk (R := R) Try.prog glob raw (cf_least_order (least_order_l4 kf kf) (least_order_l7 kf kf)) := cf_nil
  have hlf : LfOk (R := R) C_least_order 30 (lf_least_order (least_order_l4 kf kf) (least_order_l7 kf kf)) := (lf_top (lf_cons (lok_least_order_l4 kf kf) (lf_cons (lok_least_order_l7 kf kf) lf_nil)))
  intro v1 v2 v3 v4 K r h
  exact run_good t_least_order hcf hlf ((eq_least_order (least_order_l4 kf kf) (least_order_l7 kf kf) v1 v2 v3 v4 K).trans h)

theorem t_slices_Equal_int_int : textOk C_slices_Equal_int_int.bef Try.prog 33 = true := by kernel_rfl

theorem sln_slices_Equal_int_int_l4 {R : Type} : SlOk (R := R) C_slices_Equal_int_int 33 26 0 4 (sl_slices_Equal_int_int_l4 (fun _ _ _ _ _ _ => none)) := by
  intro vs es K r h
  unfold sl_slices_Equal_int_int_l4 at h
  split at h <;> exact no_some h

theorem lok_slices_Equal_int_int_l4 {R : Type} (kf : Nat) : ∀ n, SlOk (R := R) C_slices_Equal_int_int 33 26 0 4 (sl_slices_Equal_int_int_l4 (slices_Equal_int_int_l4 kf n)) := by
  intro n
  induction n with
  | zero =>
    intro vs es K r h
    unfold sl_slices_Equal_int_int_l4 at h
    split at h <;> exact no_some h
  | succ k ih =>
    have hcf : CfOk (R := R) Try.prog glob raw (cf_slices_Equal_int_int (slices_Equal_int_int_l4 kf k)) := cf_nil
    have hlf : LfOk (R := R) C_slices_Equal_int_int 33 (lf_slices_Equal_int_int (slices_Equal_int_int_l4 kf k)) := (lf_top (lf_cons ih lf_nil))
    intro vs es K r h
    unfold sl_slices_Equal_int_int_l4 at h
    split at h
    · exact loop_good (text_mixed t_slices_Equal_int_int) hcf hlf (text_loop t_slices_Equal_int_int 4).1 (text_loop t_slices_Equal_int_int 4).2 ((eq_slices_Equal_int_int_l4 (slices_Equal_int_int_l4 kf k) _ _ _ _ K).trans h)
    · exact no_some h

theorem ok_slices_Equal_int_int {R : Type} (kf : Nat) : Ok_slices_Equal_int_int (R := R) (slices_Equal_int_int kf) := by
  have hcf : CfOk (R := R) Try.prog glob raw (cf_slices_Equal_int_int (slices_Equal_int_int_l4 kf kf)) := cf_nil
  have hlf : LfOk (R := R) C_slices_Equal_int_int 33 (lf_slices_Equal_int_int (slices_Equal_int_int_l4 kf kf)) := (lf_top (lf_cons (lok_slices_Equal_int_int_l4 kf kf) lf_nil))
  intro v1 v2 K r h
  exact run_good t_slices_Equal_int_int hcf hlf ((eq_slices_Equal_int_int (slices_Equal_int_int_l4 kf kf) v1 v2 K).trans h)

theorem t_least_Least_1 : textOk C_least_Least_1.bef Try.prog 32 = true := by kernel_rfl

theorem ok_least_Least_1 {R : Type} (kf : Nat) : Ok_least_Least_1 (R := R) (least_Least_1 kf) := by
  have hcf : CfOk (R := R) Try.prog glob raw (cf_least_Least_1 (slices_Equal_int_int kf)) := (cf_cons (shok_33 (ok_slices_Equal_int_int kf)) cf_nil)
  have hlf : LfOk (R := R) C_least_Least_1 32 (lf_least_Least_1 (slices_Equal_int_int kf)) := lf_none
  intro v1 v2 K r h
  exact run_good t_least_Least_1 hcf hlf ((eq_least_Least_1 (slices_Equal_int_int kf) v1 v2 K).trans h)

theorem t_slices_IndexFunc_int_int : textOk C_slices_IndexFunc_int_int.bef Try.prog 31 = true := by kernel_rfl

theorem sln_slices_IndexFunc_int_int_l2 {R : Type} : SlOk (R := R) C_slices_IndexFunc_int_int 31 19 1 2 (sl_slices_IndexFunc_int_int_l2 (fun _ _ _ _ _ _ => none)) := by
  intro vs es K r h
  unfold sl_slices_IndexFunc_int_int_l2 at h
  split at h <;> exact no_some h

theorem lok_slices_IndexFunc_int_int_l2 {R : Type} (kf : Nat) : ∀ n, SlOk (R := R) C_slices_IndexFunc_int_int 31 19 1 2 (sl_slices_IndexFunc_int_int_l2 (slices_IndexFunc_int_int_l2 kf n)) := by
  intro n
  induction n with
  | zero =>
    intro vs es K r h
    unfold sl_slices_IndexFunc_int_int_l2 at h
    split at h <;> exact no_some h
  | succ k ih =>
    have hcf : CfOk (R := R) Try.prog glob raw (cf_slices_IndexFunc_int_int (least_Least_1 kf) (slices_IndexFunc_int_int_l2 kf k)) := (cf_cons (shok_32 (ok_least_Least_1 kf)) cf_nil)
    have hlf : LfOk (R := R) C_slices_IndexFunc_int_int 31 (lf_slices_IndexFunc_int_int (least_Least_1 kf) (slices_IndexFunc_int_int_l2 kf k)) := (lf_top (lf_cons ih lf_nil))
    intro vs es K r h
    unfold sl_slices_IndexFunc_int_int_l2 at h
    split at h
    · exact loop_good (text_mixed t_slices_IndexFunc_int_int) hcf hlf (text_loop t_slices_IndexFunc_int_int 2).1 (text_loop t_slices_IndexFunc_int_int 2).2 ((eq_slices_IndexFunc_int_int_l2 (least_Least_1 kf) (slices_IndexFunc_int_int_l2 kf k) _ _ _ _ K).trans h)
    · exact no_some h

theorem ok_slices_IndexFunc_int_int {R : Type} (kf : Nat) : Ok_slices_IndexFunc_int_int (R := R) (slices_IndexFunc_int_int kf) := by
  have hcf : CfOk (R := R) Try.prog glob raw (cf_slices_IndexFunc_int_int (least_Least_1 kf) (slices_IndexFunc_int_int_l2 kf kf)) := (cf_cons (shok_32 (ok_least_Least_1 kf)) cf_nil)
  have hlf : LfOk (R := R) C_slices_IndexFunc_int_int 31 (lf_slices_IndexFunc_int_int (least_Least_1 kf) (slices_IndexFunc_int_int_l2 kf kf)) := (lf_top (lf_cons (lok_slices_IndexFunc_int_int_l2 kf kf) lf_nil))
  intro v1 v2 K r h
  exact run_good t_slices_IndexFunc_int_int hcf hlf ((eq_slices_IndexFunc_int_int (least_Least_1 kf) (slices_IndexFunc_int_int_l2 kf kf) v1 v2 K).trans h)

theorem t_least_Least : textOk C_least_Least.bef Try.prog 13 = true := by kernel_rfl

theorem sln_least_Least_l8 {R : Type} : SlOk (R := R) C_least_Least 13 115 0 8 (sl_least_Least_l8 (fun _ _ _ _ _ _ _ _ _ _ _ _ _ _ _ => none)) := by
  intro vs es K r h
  unfold sl_least_Least_l8 at h
  split at h <;> exact no_some h

theorem sln_least_Least_l12 {R : Type} : SlOk (R := R) C_least_Least 13 115 0 12 (sl_least_Least_l12 (fun _ _ _ _ _ _ _ _ _ _ _ _ _ _ _ _ _ _ _ => none)) := by
  intro vs es K r h
  unfold sl_least_Least_l12 at h
  split at h <;> exact no_some h

theorem sln_least_Least_l23 {R : Type} : SlOk (R := R) C_least_Least 13 115 0 23 (sl_least_Least_l23 (fun _ _ _ _ _ _ _ _ _ _ _ _ _ _ => none)) := by
  intro vs es K r h
  unfold sl_least_Least_l23 at h
  split at h <;> exact no_some h

theorem sln_least_Least_l27 {R : Type} : SlOk (R := R) C_least_Least 13 115 0 27 (sl_least_Least_l27 (fun _ _ _ _ _ _ _ _ _ _ _ _ _ _ _ _ _ _ _ => none)) := by
  intro vs es K r h
  unfold sl_least_Least_l27 at h
  split at h <;> exact no_some h

theorem lok_least_Least_l12 {R : Type} (kf : Nat) : ∀ n, SlOk (R := R) C_least_Least 13 115 0 12 (sl_least_Least_l12 (least_Least_l12 kf n)) := by
  intro n
  induction n with
  | zero =>
    intro vs es K r h
    unfold sl_least_Least_l12 at h
    split at h <;> exact no_some h
  | succ k ih =>
    have hcf : CfOk (R := R) Try.prog glob raw (cf_least_Least (machine_May kf) (least_parts kf) (least_order kf) (slices_IndexFunc_int_int kf) (fun _ _ _ _ _ _ _ _ _ _ _ _ _ _ _ => none) (least_Least_l12 kf k) (fun _ _ _ _ _ _ _ _ _ _ _ _ _ _ => none) (fun _ _ _ _ _ _ _ _ _ _ _ _ _ _ _ _ _ _ _ => none)) := (cf_cons (shok_28 (ok_machine_May kf)) (cf_cons (shok_29 (ok_least_parts kf)) (cf_cons (shok_30 (ok_least_order kf)) (cf_cons (shok_31 (ok_slices_IndexFunc_int_int kf)) cf_nil))))
    have hlf : LfOk (R := R) C_least_Least 13 (lf_least_Least (machine_May kf) (least_parts kf) (least_order kf) (slices_IndexFunc_int_int kf) (fun _ _ _ _ _ _ _ _ _ _ _ _ _ _ _ => none) (least_Least_l12 kf k) (fun _ _ _ _ _ _ _ _ _ _ _ _ _ _ => none) (fun _ _ _ _ _ _ _ _ _ _ _ _ _ _ _ _ _ _ _ => none)) := (lf_top (lf_cons (sln_least_Least_l8) (lf_cons ih (lf_cons (sln_least_Least_l23) (lf_cons (sln_least_Least_l27) lf_nil)))))
    intro vs es K r h
    unfold sl_least_Least_l12 at h
    split at h
    · exact loop_good (text_mixed t_least_Least) hcf hlf (text_loop t_least_Least 12).1 (text_loop t_least_Least 12).2 ((eq_least_Least_l12 (machine_May kf) (least_parts kf) (least_order kf) (slices_IndexFunc_int_int kf) (fun _ _ _ _ _ _ _ _ _ _ _ _ _ _ _ => none) (least_Least_l12 kf k) (fun _ _ _ _ _ _ _ _ _ _ _ _ _ _ => none) (fun _ _ _ _ _ _ _ _ _ _ _ _ _ _ _ _ _ _ _ => none) _ _ _ _ _ _ _ _ _ _ _ _ _ _ _ _ _ _ K).trans h)
    · exact no_some h

theorem lok_least_Least_l8 {R : Type} (kf : Nat) : ∀ n, SlOk (R := R) C_least_Least 13 115 0 8 (sl_least_Least_l8 (least_Least_l8 kf n)) := by
  intro n
  induction n with
  | zero =>
    intro vs es K r h
    unfold sl_least_Least_l8 at h
    split at h <;> exact no_some h
  | succ k ih =>
    have hcf : CfOk (R := R) Try.prog glob raw (cf_least_Least (machine_May kf) (least_parts kf) (least_order kf) (slices_IndexFunc_int_int kf) (least_Least_l8 kf k) (least_Least_l12 kf k) (fun _ _ _ _ _ _ _ _ _ _ _ _ _ _ => none) (fun _ _ _ _ _ _ _ _ _ _ _ _ _ _ _ _ _ _ _ => none)) := (cf_cons (shok_28 (ok_machine_May kf)) (cf_cons (shok_29 (ok_least_parts kf)) (cf_cons (shok_30 (ok_least_order kf)) (cf_cons (shok_31 (ok_slices_IndexFunc_int_int kf)) cf_nil))))
    have hlf : LfOk (R := R) C_least_Least 13 (lf_least_Least (machine_May kf) (least_parts kf) (least_order kf) (slices_IndexFunc_int_int kf) (least_Least_l8 kf k) (least_Least_l12 kf k) (fun _ _ _ _ _ _ _ _ _ _ _ _ _ _ => none) (fun _ _ _ _ _ _ _ _ _ _ _ _ _ _ _ _ _ _ _ => none)) := (lf_top (lf_cons ih (lf_cons (lok_least_Least_l12 kf k) (lf_cons (sln_least_Least_l23) (lf_cons (sln_least_Least_l27) lf_nil)))))
    intro vs es K r h
    unfold sl_least_Least_l8 at h
    split at h
    · exact loop_good (text_mixed t_least_Least) hcf hlf (text_loop t_least_Least 8).1 (text_loop t_least_Least 8).2 ((eq_least_Least_l8 (machine_May kf) (least_parts kf) (least_order kf) (slices_IndexFunc_int_int kf) (least_Least_l8 kf k) (least_Least_l12 kf k) (fun _ _ _ _ _ _ _ _ _ _ _ _ _ _ => none) (fun _ _ _ _ _ _ _ _ _ _ _ _ _ _ _ _ _ _ _ => none) _ _ _ _ _ _ _ _ _ _ _ _ _ _ K).trans h)
    · exact no_some h

theorem lok_least_Least_l27 {R : Type} (kf : Nat) : ∀ n, SlOk (R := R) C_least_Least 13 115 0 27 (sl_least_Least_l27 (least_Least_l27 kf n)) := by
  intro n
  induction n with
  | zero =>
    intro vs es K r h
    unfold sl_least_Least_l27 at h
    split at h <;> exact no_some h
  | succ k ih =>
    have hcf : CfOk (R := R) Try.prog glob raw (cf_least_Least (machine_May kf) (least_parts kf) (least_order kf) (slices_IndexFunc_int_int kf) (least_Least_l8 kf k) (least_Least_l12 kf k) (fun _ _ _ _ _ _ _ _ _ _ _ _ _ _ => none) (least_Least_l27 kf k)) := (cf_cons (shok_28 (ok_machine_May kf)) (cf_cons (shok_29 (ok_least_parts kf)) (cf_cons (shok_30 (ok_least_order kf)) (cf_cons (shok_31 (ok_slices_IndexFunc_int_int kf)) cf_nil))))
    have hlf : LfOk (R := R) C_least_Least 13 (lf_least_Least (machine_May kf) (least_parts kf) (least_order kf) (slices_IndexFunc_int_int kf) (least_Least_l8 kf k) (least_Least_l12 kf k) (fun _ _ _ _ _ _ _ _ _ _ _ _ _ _ => none) (least_Least_l27 kf k)) := (lf_top (lf_cons (lok_least_Least_l8 kf k) (lf_cons (lok_least_Least_l12 kf k) (lf_cons (sln_least_Least_l23) (lf_cons ih lf_nil)))))
    intro vs es K r h
    unfold sl_least_Least_l27 at h
    split at h
    · exact loop_good (text_mixed t_least_Least) hcf hlf (text_loop t_least_Least 27).1 (text_loop t_least_Least 27).2 ((eq_least_Least_l27 (machine_May kf) (least_parts kf) (least_order kf) (slices_IndexFunc_int_int kf) (least_Least_l8 kf k) (least_Least_l12 kf k) (fun _ _ _ _ _ _ _ _ _ _ _ _ _ _ => none) (least_Least_l27 kf k) _ _ _ _ _ _ _ _ _ _ _ _ _ _ _ _ _ _ K).trans h)
    · exact no_some h

theorem lok_least_Least_l23 {R : Type} (kf : Nat) : ∀ n, SlOk (R := R) C_least_Least 13 115 0 23 (sl_least_Least_l23 (least_Least_l23 kf n)) := by
  intro n
  induction n with
  | zero =>
    intro vs es K r h
    unfold sl_least_Least_l23 at h
    split at h <;> exact no_some h
  | succ k ih =>
    have hcf : CfOk (R := R) Try.prog glob raw (cf_least_Least (machine_May kf) (least_parts kf) (least_order kf) (slices_IndexFunc_int_int kf) (least_Least_l8 kf k) (least_Least_l12 kf k) (least_Least_l23 kf k) (least_Least_l27 kf k)) := (cf_cons (shok_28 (ok_machine_May kf)) (cf_cons (shok_29 (ok_least_parts kf)) (cf_cons (shok_30 (ok_least_order kf)) (cf_cons (shok_31 (ok_slices_IndexFunc_int_int kf)) cf_nil))))
    have hlf : LfOk (R := R) C_least_Least 13 (lf_least_Least (machine_May kf) (least_parts kf) (least_order kf) (slices_IndexFunc_int_int kf) (least_Least_l8 kf k) (least_Least_l12 kf k) (least_Least_l23 kf k) (least_Least_l27 kf k)) := (lf_top (lf_cons (lok_least_Least_l8 kf k) (lf_cons (lok_least_Least_l12 kf k) (lf_cons ih (lf_cons (lok_least_Least_l27 kf k) lf_nil)))))
    intro vs es K r h
    unfold sl_least_Least_l23 at h
    split at h
    · exact loop_good (text_mixed t_least_Least) hcf hlf (text_loop t_least_Least 23).1 (text_loop t_least_Least 23).2 ((eq_least_Least_l23 (machine_May kf) (least_parts kf) (least_order kf) (slices_IndexFunc_int_int kf) (least_Least_l8 kf k) (least_Least_l12 kf k) (least_Least_l23 kf k) (least_Least_l27 kf k) _ _ _ _ _ _ _ _ _ _ _ _ _ K).trans h)
    · exact no_some h

theorem ok_least_Least {R : Type} (kf : Nat) : Ok_least_Least (R := R) (least_Least kf) := by
  have hcf : CfOk (R := R) Try.prog glob raw (cf_least_Least (machine_May kf) (least_parts kf) (least_order kf) (slices_IndexFunc_int_int kf) (least_Least_l8 kf kf) (least_Least_l12 kf kf) (least_Least_l23 kf kf) (least_Least_l27 kf kf)) := (cf_cons (shok_28 (ok_machine_May kf)) (cf_cons (shok_29 (ok_least_parts kf)) (cf_cons (shok_30 (ok_least_order kf)) (cf_cons (shok_31 (ok_slices_IndexFunc_int_int kf)) cf_nil))))
  have hlf : LfOk (R := R) C_least_Least 13 (lf_least_Least (machine_May kf) (least_parts kf) (least_order kf) (slices_IndexFunc_int_int kf) (least_Least_l8 kf kf) (least_Least_l12 kf kf) (least_Least_l23 kf kf) (least_Least_l27 kf kf)) := (lf_top (lf_cons (lok_least_Least_l8 kf kf) (lf_cons (lok_least_Least_l12 kf kf) (lf_cons (lok_least_Least_l23 kf kf) (lf_cons (lok_least_Least_l27 kf kf) lf_nil)))))
  intro v1 v2 v3 K r h
  exact run_good t_least_Least hcf hlf ((eq_least_Least (machine_May kf) (least_parts kf) (least_order kf) (slices_IndexFunc_int_int kf) (least_Least_l8 kf kf) (least_Least_l12 kf kf) (least_Least_l23 kf kf) (least_Least_l27 kf kf) v1 v2 v3 K).trans h)

theorem t_least_Parts : textOk C_least_Parts.bef Try.prog 16 = true := by kernel_rfl

theorem sln_least_Parts_l6 {R : Type} : SlOk (R := R) C_least_Parts 16 40 0 6 (sl_least_Parts_l6 (fun _ _ _ _ _ _ => none)) := by
  intro vs es K r h
  unfold sl_least_Parts_l6 at h
  split at h <;> exact no_some h

theorem lok_least_Parts_l6 {R : Type} (kf : Nat) : ∀ n, SlOk (R := R) C_least_Parts 16 40 0 6 (sl_least_Parts_l6 (least_Parts_l6 kf n)) := by
  intro n
  induction n with
  | zero =>
    intro vs es K r h
    unfold sl_least_Parts_l6 at h
    split at h <;> exact no_some h
  | succ k ih =>
    have hcf : CfOk (R := R) Try.prog glob raw (cf_least_Parts (machine_May kf) (least_parts kf) (least_Parts_l6 kf k)) := (cf_cons (shok_28 (ok_machine_May kf)) (cf_cons (shok_29 (ok_least_parts kf)) cf_nil))
    have hlf : LfOk (R := R) C_least_Parts 16 (lf_least_Parts (machine_May kf) (least_parts kf) (least_Parts_l6 kf k)) := (lf_top (lf_cons ih lf_nil))
    intro vs es K r h
    unfold sl_least_Parts_l6 at h
    split at h
    · exact loop_good (text_mixed t_least_Parts) hcf hlf (text_loop t_least_Parts 6).1 (text_loop t_least_Parts 6).2 ((eq_least_Parts_l6 (machine_May kf) (least_parts kf) (least_Parts_l6 kf k) _ _ _ _ _ K).trans h)
    · exact no_some h

theorem ok_least_Parts {R : Type} (kf : Nat) : Ok_least_Parts (R := R) (least_Parts kf) := by
  have hcf : CfOk (R := R) Try.prog glob raw (cf_least_Parts (machine_May kf) (least_parts kf) (least_Parts_l6 kf kf)) := (cf_cons (shok_28 (ok_machine_May kf)) (cf_cons (shok_29 (ok_least_parts kf)) cf_nil))
  have hlf : LfOk (R := R) C_least_Parts 16 (lf_least_Parts (machine_May kf) (least_parts kf) (least_Parts_l6 kf kf)) := (lf_top (lf_cons (lok_least_Parts_l6 kf kf) lf_nil))
  intro v1 v2 v3 K r h
  exact run_good t_least_Parts hcf hlf ((eq_least_Parts (machine_May kf) (least_parts kf) (least_Parts_l6 kf kf) v1 v2 v3 K).trans h)

theorem t_slices_Equal_bool_bool : textOk C_slices_Equal_bool_bool.bef Try.prog 45 = true := by kernel_rfl

theorem sln_slices_Equal_bool_bool_l4 {R : Type} : SlOk (R := R) C_slices_Equal_bool_bool 45 26 0 4 (sl_slices_Equal_bool_bool_l4 (fun _ _ _ _ _ _ => none)) := by
  intro vs es K r h
  unfold sl_slices_Equal_bool_bool_l4 at h
  split at h <;> exact no_some h

theorem lok_slices_Equal_bool_bool_l4 {R : Type} (kf : Nat) : ∀ n, SlOk (R := R) C_slices_Equal_bool_bool 45 26 0 4 (sl_slices_Equal_bool_bool_l4 (slices_Equal_bool_bool_l4 kf n)) := by
  intro n
  induction n with
  | zero =>
    intro vs es K r h
    unfold sl_slices_Equal_bool_bool_l4 at h
    split at h <;> exact no_some h
  | succ k ih =>
    have hcf : CfOk (R := R) Try.prog glob raw (cf_slices_Equal_bool_bool (slices_Equal_bool_bool_l4 kf k)) := cf_nil
    have hlf : LfOk (R := R) C_slices_Equal_bool_bool 45 (lf_slices_Equal_bool_bool (slices_Equal_bool_bool_l4 kf k)) := (lf_top (lf_cons ih lf_nil))
    intro vs es K r h
    unfold sl_slices_Equal_bool_bool_l4 at h
    split at h
    · exact loop_good (text_mixed t_slices_Equal_bool_bool) hcf hlf (text_loop t_slices_Equal_bool_bool 4).1 (text_loop t_slices_Equal_bool_bool 4).2 ((eq_slices_Equal_bool_bool_l4 (slices_Equal_bool_bool_l4 kf k) _ _ _ _ K).trans h)
    · exact no_some h

theorem ok_slices_Equal_bool_bool {R : Type} (kf : Nat) : Ok_slices_Equal_bool_bool (R := R) (slices_Equal_bool_bool kf) := by
  have hcf : CfOk (R := R) Try.prog glob raw (cf_slices_Equal_bool_bool (slices_Equal_bool_bool_l4 kf kf)) := cf_nil
  have hlf : LfOk (R := R) C_slices_Equal_bool_bool 45 (lf_slices_Equal_bool_bool (slices_Equal_bool_bool_l4 kf kf)) := (lf_top (lf_cons (lok_slices_Equal_bool_bool_l4 kf kf) lf_nil))
  intro v1 v2 K r h
  exact run_good t_slices_Equal_bool_bool hcf hlf ((eq_slices_Equal_bool_bool (slices_Equal_bool_bool_l4 kf kf) v1 v2 K).trans h)

theorem t_machine_Same_1 : textOk C_machine_Same_1.bef Try.prog 47 = true := by kernel_rfl

theorem ok_machine_Same_1 {R : Type} (kf : Nat) : Ok_machine_Same_1 (R := R) (machine_Same_1 kf) := by
  have hcf : CfOk (R := R) Try.prog glob raw (cf_machine_Same_1 (slices_Equal_int_int kf)) := (cf_cons (shok_33 (ok_slices_Equal_int_int kf)) cf_nil)
  have hlf : LfOk (R := R) C_machine_Same_1 47 (lf_machine_Same_1 (slices_Equal_int_int kf)) := lf_none
  intro v1 v2 K r h
  exact run_good t_machine_Same_1 hcf hlf ((eq_machine_Same_1 (slices_Equal_int_int kf) v1 v2 K).trans h)

theorem t_slices_EqualFunc_int_int_int_int : textOk C_slices_EqualFunc_int_int_int_int.bef Try.prog 46 = true := by kernel_rfl

theorem sln_slices_EqualFunc_int_int_int_int_l4 {R : Type} : SlOk (R := R) C_slices_EqualFunc_int_int_int_int 46 32 0 4 (sl_slices_EqualFunc_int_int_int_int_l4 (fun _ _ _ _ _ _ => none)) := by
  intro vs es K r h
  unfold sl_slices_EqualFunc_int_int_int_int_l4 at h
  split at h <;> exact no_some h

theorem lok_slices_EqualFunc_int_int_int_int_l4 {R : Type} (kf : Nat) : ∀ n, SlOk (R := R) C_slices_EqualFunc_int_int_int_int 46 32 0 4 (sl_slices_EqualFunc_int_int_int_int_l4 (slices_EqualFunc_int_int_int_int_l4 kf n)) := by
  intro n
  induction n with
  | zero =>
    intro vs es K r h
    unfold sl_slices_EqualFunc_int_int_int_int_l4 at h
    split at h <;> exact no_some h
  | succ k ih =>
    have hcf : CfOk (R := R) Try.prog glob raw (cf_slices_EqualFunc_int_int_int_int (machine_Same_1 kf) (slices_EqualFunc_int_int_int_int_l4 kf k)) := (cf_cons (shok_47 (ok_machine_Same_1 kf)) cf_nil)
    have hlf : LfOk (R := R) C_slices_EqualFunc_int_int_int_int 46 (lf_slices_EqualFunc_int_int_int_int (machine_Same_1 kf) (slices_EqualFunc_int_int_int_int_l4 kf k)) := (lf_top (lf_cons ih lf_nil))
    intro vs es K r h
    unfold sl_slices_EqualFunc_int_int_int_int_l4 at h
    split at h
    · exact loop_good (text_mixed t_slices_EqualFunc_int_int_int_int) hcf hlf (text_loop t_slices_EqualFunc_int_int_int_int 4).1 (text_loop t_slices_EqualFunc_int_int_int_int 4).2 ((eq_slices_EqualFunc_int_int_int_int_l4 (machine_Same_1 kf) (slices_EqualFunc_int_int_int_int_l4 kf k) _ _ _ _ K).trans h)
    · exact no_some h

theorem ok_slices_EqualFunc_int_int_int_int {R : Type} (kf : Nat) : Ok_slices_EqualFunc_int_int_int_int (R := R) (slices_EqualFunc_int_int_int_int kf) := by
  have hcf : CfOk (R := R) Try.prog glob raw (cf_slices_EqualFunc_int_int_int_int (machine_Same_1 kf) (slices_EqualFunc_int_int_int_int_l4 kf kf)) := (cf_cons (shok_47 (ok_machine_Same_1 kf)) cf_nil)
  have hlf : LfOk (R := R) C_slices_EqualFunc_int_int_int_int 46 (lf_slices_EqualFunc_int_int_int_int (machine_Same_1 kf) (slices_EqualFunc_int_int_int_int_l4 kf kf)) := (lf_top (lf_cons (lok_slices_EqualFunc_int_int_int_int_l4 kf kf) lf_nil))
  intro v1 v2 K r h
  exact run_good t_slices_EqualFunc_int_int_int_int hcf hlf ((eq_slices_EqualFunc_int_int_int_int (machine_Same_1 kf) (slices_EqualFunc_int_int_int_int_l4 kf kf) v1 v2 K).trans h)

theorem t_machine_Same : textOk C_machine_Same.bef Try.prog 38 = true := by kernel_rfl

theorem ok_machine_Same {R : Type} (kf : Nat) : Ok_machine_Same (R := R) (machine_Same kf) := by
  have hcf : CfOk (R := R) Try.prog glob raw (cf_machine_Same (slices_Equal_bool_bool kf) (slices_EqualFunc_int_int_int_int kf)) := (cf_cons (shok_45 (ok_slices_Equal_bool_bool kf)) (cf_cons (shok_46 (ok_slices_EqualFunc_int_int_int_int kf)) cf_nil))
  have hlf : LfOk (R := R) C_machine_Same 38 (lf_machine_Same (slices_Equal_bool_bool kf) (slices_EqualFunc_int_int_int_int kf)) := lf_none
  intro v1 v2 v3 v4 v5 v6 K r h
  exact run_good t_machine_Same hcf hlf ((eq_machine_Same (slices_Equal_bool_bool kf) (slices_EqualFunc_int_int_int_int kf) v1 v2 v3 v4 v5 v6 K).trans h)

theorem t_least_Is : textOk C_least_Is.bef Try.prog 21 = true := by kernel_rfl

theorem ok_least_Is {R : Type} (kf : Nat) : Ok_least_Is (R := R) (least_Is kf) := by
  have hcf : CfOk (R := R) Try.prog glob raw (cf_least_Is (machine_May kf) (least_Least kf) (machine_Same kf)) := (cf_cons (shok_28 (ok_machine_May kf)) (cf_cons (shok_13 (ok_least_Least kf)) (cf_cons (shok_38 (ok_machine_Same kf)) cf_nil)))
  have hlf : LfOk (R := R) C_least_Is 21 (lf_least_Is (machine_May kf) (least_Least kf) (machine_Same kf)) := lf_none
  intro v1 v2 v3 K r h
  exact run_good t_least_Is hcf hlf ((eq_least_Is (machine_May kf) (least_Least kf) (machine_Same kf) v1 v2 v3 K).trans h)

theorem t_law12_begun : textOk C_law12_begun.bef Try.prog 10 = true := by kernel_rfl

theorem ok_law12_begun {R : Type} (kf : Nat) : Ok_law12_begun (R := R) (law12_begun kf) := by
  have hcf : CfOk (R := R) Try.prog glob raw (cf_law12_begun (least_Least kf) (least_Parts kf) (least_Is kf)) := (cf_cons (shok_13 (ok_least_Least kf)) (cf_cons (shok_16 (ok_least_Parts kf)) (cf_cons (shok_21 (ok_least_Is kf)) cf_nil)))
  have hlf : LfOk (R := R) C_law12_begun 10 (lf_law12_begun (least_Least kf) (least_Parts kf) (least_Is kf)) := lf_none
  intro K r h
  exact run_good t_law12_begun hcf hlf ((eq_law12_begun (least_Least kf) (least_Parts kf) (least_Is kf) K).trans h)

theorem t_play_Made : textOk C_play_Made.bef Try.prog 26 = true := by kernel_rfl

theorem ok_play_Made {R : Type} : Ok_play_Made (R := R) (play_Made) := by
  have hcf : CfOk (R := R) Try.prog glob raw (cf_play_Made) := cf_nil
  have hlf : LfOk (R := R) C_play_Made 26 (lf_play_Made) := lf_none
  intro v1 K r h
  exact run_good t_play_Made hcf hlf ((eq_play_Made v1 K).trans h)

theorem t_play_Picks_num : textOk C_play_Picks_num.bef Try.prog 27 = true := by kernel_rfl

theorem ok_play_Picks_num {R : Type} : Ok_play_Picks_num (R := R) (play_Picks_num) := by
  have hcf : CfOk (R := R) Try.prog glob raw (cf_play_Picks_num) := cf_nil
  have hlf : LfOk (R := R) C_play_Picks_num 27 (lf_play_Picks_num) := lf_none
  intro v1 v2 v3 K r h
  exact run_good t_play_Picks_num hcf hlf ((eq_play_Picks_num v1 v2 v3 K).trans h)

theorem t_play_Dfa : textOk C_play_Dfa.bef Try.prog 11 = true := by kernel_rfl

theorem sln_play_Dfa_l5 {R : Type} : SlOk (R := R) C_play_Dfa 11 80 0 5 (sl_play_Dfa_l5 (fun _ _ _ _ _ _ _ _ _ _ _ _ => none)) := by
  intro vs es K r h
  unfold sl_play_Dfa_l5 at h
  split at h <;> exact no_some h

theorem sln_play_Dfa_l12 {R : Type} : SlOk (R := R) C_play_Dfa 11 80 0 12 (sl_play_Dfa_l12 (fun _ _ _ _ _ _ _ _ _ _ _ _ => none)) := by
  intro vs es K r h
  unfold sl_play_Dfa_l12 at h
  split at h <;> exact no_some h

theorem sln_play_Dfa_l16 {R : Type} : SlOk (R := R) C_play_Dfa 11 80 0 16 (sl_play_Dfa_l16 (fun _ _ _ _ _ _ _ _ _ _ _ _ _ _ => none)) := by
  intro vs es K r h
  unfold sl_play_Dfa_l16 at h
  split at h <;> exact no_some h

theorem lok_play_Dfa_l5 {R : Type} (kf : Nat) : ∀ n, SlOk (R := R) C_play_Dfa 11 80 0 5 (sl_play_Dfa_l5 (play_Dfa_l5 kf n)) := by
  intro n
  induction n with
  | zero =>
    intro vs es K r h
    unfold sl_play_Dfa_l5 at h
    split at h <;> exact no_some h
  | succ k ih =>
    have hcf : CfOk (R := R) Try.prog glob raw (cf_play_Dfa play_Made play_Picks_num (play_Dfa_l5 kf k) (fun _ _ _ _ _ _ _ _ _ _ _ _ => none) (fun _ _ _ _ _ _ _ _ _ _ _ _ _ _ => none)) := (cf_cons (shok_26 ok_play_Made) (cf_cons (shok_27 ok_play_Picks_num) cf_nil))
    have hlf : LfOk (R := R) C_play_Dfa 11 (lf_play_Dfa play_Made play_Picks_num (play_Dfa_l5 kf k) (fun _ _ _ _ _ _ _ _ _ _ _ _ => none) (fun _ _ _ _ _ _ _ _ _ _ _ _ _ _ => none)) := (lf_top (lf_cons ih (lf_cons (sln_play_Dfa_l12) (lf_cons (sln_play_Dfa_l16) lf_nil))))
    intro vs es K r h
    unfold sl_play_Dfa_l5 at h
    split at h
    · exact loop_good (text_mixed t_play_Dfa) hcf hlf (text_loop t_play_Dfa 5).1 (text_loop t_play_Dfa 5).2 ((eq_play_Dfa_l5 play_Made play_Picks_num (play_Dfa_l5 kf k) (fun _ _ _ _ _ _ _ _ _ _ _ _ => none) (fun _ _ _ _ _ _ _ _ _ _ _ _ _ _ => none) _ _ _ _ _ _ _ _ _ _ _ K).trans h)
    · exact no_some h

theorem lok_play_Dfa_l16 {R : Type} (kf : Nat) : ∀ n, SlOk (R := R) C_play_Dfa 11 80 0 16 (sl_play_Dfa_l16 (play_Dfa_l16 kf n)) := by
  intro n
  induction n with
  | zero =>
    intro vs es K r h
    unfold sl_play_Dfa_l16 at h
    split at h <;> exact no_some h
  | succ k ih =>
    have hcf : CfOk (R := R) Try.prog glob raw (cf_play_Dfa play_Made play_Picks_num (play_Dfa_l5 kf k) (fun _ _ _ _ _ _ _ _ _ _ _ _ => none) (play_Dfa_l16 kf k)) := (cf_cons (shok_26 ok_play_Made) (cf_cons (shok_27 ok_play_Picks_num) cf_nil))
    have hlf : LfOk (R := R) C_play_Dfa 11 (lf_play_Dfa play_Made play_Picks_num (play_Dfa_l5 kf k) (fun _ _ _ _ _ _ _ _ _ _ _ _ => none) (play_Dfa_l16 kf k)) := (lf_top (lf_cons (lok_play_Dfa_l5 kf k) (lf_cons (sln_play_Dfa_l12) (lf_cons ih lf_nil))))
    intro vs es K r h
    unfold sl_play_Dfa_l16 at h
    split at h
    · exact loop_good (text_mixed t_play_Dfa) hcf hlf (text_loop t_play_Dfa 16).1 (text_loop t_play_Dfa 16).2 ((eq_play_Dfa_l16 play_Made play_Picks_num (play_Dfa_l5 kf k) (fun _ _ _ _ _ _ _ _ _ _ _ _ => none) (play_Dfa_l16 kf k) _ _ _ _ _ _ _ _ _ _ _ _ _ K).trans h)
    · exact no_some h

theorem lok_play_Dfa_l12 {R : Type} (kf : Nat) : ∀ n, SlOk (R := R) C_play_Dfa 11 80 0 12 (sl_play_Dfa_l12 (play_Dfa_l12 kf n)) := by
  intro n
  induction n with
  | zero =>
    intro vs es K r h
    unfold sl_play_Dfa_l12 at h
    split at h <;> exact no_some h
  | succ k ih =>
    have hcf : CfOk (R := R) Try.prog glob raw (cf_play_Dfa play_Made play_Picks_num (play_Dfa_l5 kf k) (play_Dfa_l12 kf k) (play_Dfa_l16 kf k)) := (cf_cons (shok_26 ok_play_Made) (cf_cons (shok_27 ok_play_Picks_num) cf_nil))
    have hlf : LfOk (R := R) C_play_Dfa 11 (lf_play_Dfa play_Made play_Picks_num (play_Dfa_l5 kf k) (play_Dfa_l12 kf k) (play_Dfa_l16 kf k)) := (lf_top (lf_cons (lok_play_Dfa_l5 kf k) (lf_cons ih (lf_cons (lok_play_Dfa_l16 kf k) lf_nil))))
    intro vs es K r h
    unfold sl_play_Dfa_l12 at h
    split at h
    · exact loop_good (text_mixed t_play_Dfa) hcf hlf (text_loop t_play_Dfa 12).1 (text_loop t_play_Dfa 12).2 ((eq_play_Dfa_l12 play_Made play_Picks_num (play_Dfa_l5 kf k) (play_Dfa_l12 kf k) (play_Dfa_l16 kf k) _ _ _ _ _ _ _ _ _ _ _ K).trans h)
    · exact no_some h

theorem ok_play_Dfa {R : Type} (kf : Nat) : Ok_play_Dfa (R := R) (play_Dfa kf) := by
  have hcf : CfOk (R := R) Try.prog glob raw (cf_play_Dfa play_Made play_Picks_num (play_Dfa_l5 kf kf) (play_Dfa_l12 kf kf) (play_Dfa_l16 kf kf)) := (cf_cons (shok_26 ok_play_Made) (cf_cons (shok_27 ok_play_Picks_num) cf_nil))
  have hlf : LfOk (R := R) C_play_Dfa 11 (lf_play_Dfa play_Made play_Picks_num (play_Dfa_l5 kf kf) (play_Dfa_l12 kf kf) (play_Dfa_l16 kf kf)) := (lf_top (lf_cons (lok_play_Dfa_l5 kf kf) (lf_cons (lok_play_Dfa_l12 kf kf) (lf_cons (lok_play_Dfa_l16 kf kf) lf_nil))))
  intro v1 v2 v3 K r h
  exact run_good t_play_Dfa hcf hlf ((eq_play_Dfa play_Made play_Picks_num (play_Dfa_l5 kf kf) (play_Dfa_l12 kf kf) (play_Dfa_l16 kf kf) v1 v2 v3 K).trans h)

theorem t_ref11_Classes : textOk C_ref11_Classes.bef Try.prog 20 = true := by kernel_rfl

theorem sln_ref11_Classes_l3 {R : Type} : SlOk (R := R) C_ref11_Classes 20 18 0 3 (sl_ref11_Classes_l3 (fun _ _ _ _ => none)) := by
  intro vs es K r h
  unfold sl_ref11_Classes_l3 at h
  split at h <;> exact no_some h

theorem lok_ref11_Classes_l3 {R : Type} (kf : Nat) : ∀ n, SlOk (R := R) C_ref11_Classes 20 18 0 3 (sl_ref11_Classes_l3 (ref11_Classes_l3 kf n)) := by
  intro n
  induction n with
  | zero =>
    intro vs es K r h
    unfold sl_ref11_Classes_l3 at h
    split at h <;> exact no_some h
  | succ k ih =>
    have hcf : CfOk (R := R) Try.prog glob raw (cf_ref11_Classes (ref11_Classes_l3 kf k)) := cf_nil
    have hlf : LfOk (R := R) C_ref11_Classes 20 (lf_ref11_Classes (ref11_Classes_l3 kf k)) := (lf_top (lf_cons ih lf_nil))
    intro vs es K r h
    unfold sl_ref11_Classes_l3 at h
    split at h
    · exact loop_good (text_mixed t_ref11_Classes) hcf hlf (text_loop t_ref11_Classes 3).1 (text_loop t_ref11_Classes 3).2 ((eq_ref11_Classes_l3 (ref11_Classes_l3 kf k) _ _ _ _ _ K).trans h)
    · exact no_some h

theorem ok_ref11_Classes {R : Type} (kf : Nat) : Ok_ref11_Classes (R := R) (ref11_Classes kf) := by
  have hcf : CfOk (R := R) Try.prog glob raw (cf_ref11_Classes (ref11_Classes_l3 kf kf)) := cf_nil
  have hlf : LfOk (R := R) C_ref11_Classes 20 (lf_ref11_Classes (ref11_Classes_l3 kf kf)) := (lf_top (lf_cons (lok_ref11_Classes_l3 kf kf) lf_nil))
  intro v1 v2 v3 K r h
  exact run_good t_ref11_Classes hcf hlf ((eq_ref11_Classes (ref11_Classes_l3 kf kf) v1 v2 v3 K).trans h)

theorem t_ref11_May : textOk C_ref11_May.bef Try.prog 18 = true := by kernel_rfl

theorem sln_ref11_May_l5 {R : Type} : SlOk (R := R) C_ref11_May 18 64 0 5 (sl_ref11_May_l5 (fun _ _ _ _ _ _ _ _ => none)) := by
  intro vs es K r h
  unfold sl_ref11_May_l5 at h
  split at h <;> exact no_some h

theorem sln_ref11_May_l10 {R : Type} : SlOk (R := R) C_ref11_May 18 64 0 10 (sl_ref11_May_l10 (fun _ _ _ _ _ _ _ _ _ => none)) := by
  intro vs es K r h
  unfold sl_ref11_May_l10 at h
  split at h <;> exact no_some h

theorem lok_ref11_May_l10 {R : Type} (kf : Nat) : ∀ n, SlOk (R := R) C_ref11_May 18 64 0 10 (sl_ref11_May_l10 (ref11_May_l10 kf n)) := by
  intro n
  induction n with
  | zero =>
    intro vs es K r h
    unfold sl_ref11_May_l10 at h
    split at h <;> exact no_some h
  | succ k ih =>
    have hcf : CfOk (R := R) Try.prog glob raw (cf_ref11_May (ref11_Classes kf) (fun _ _ _ _ _ _ _ _ => none) (ref11_May_l10 kf k)) := (cf_cons (shok_20 (ok_ref11_Classes kf)) cf_nil)
    have hlf : LfOk (R := R) C_ref11_May 18 (lf_ref11_May (ref11_Classes kf) (fun _ _ _ _ _ _ _ _ => none) (ref11_May_l10 kf k)) := (lf_top (lf_cons (sln_ref11_May_l5) (lf_cons ih lf_nil)))
    intro vs es K r h
    unfold sl_ref11_May_l10 at h
    split at h
    · exact loop_good (text_mixed t_ref11_May) hcf hlf (text_loop t_ref11_May 10).1 (text_loop t_ref11_May 10).2 ((eq_ref11_May_l10 (ref11_Classes kf) (fun _ _ _ _ _ _ _ _ => none) (ref11_May_l10 kf k) _ _ _ _ _ _ _ K).trans h)
    · exact no_some h

theorem lok_ref11_May_l5 {R : Type} (kf : Nat) : ∀ n, SlOk (R := R) C_ref11_May 18 64 0 5 (sl_ref11_May_l5 (ref11_May_l5 kf n)) := by
  intro n
  induction n with
  | zero =>
    intro vs es K r h
    unfold sl_ref11_May_l5 at h
    split at h <;> exact no_some h
  | succ k ih =>
    have hcf : CfOk (R := R) Try.prog glob raw (cf_ref11_May (ref11_Classes kf) (ref11_May_l5 kf k) (ref11_May_l10 kf k)) := (cf_cons (shok_20 (ok_ref11_Classes kf)) cf_nil)
    have hlf : LfOk (R := R) C_ref11_May 18 (lf_ref11_May (ref11_Classes kf) (ref11_May_l5 kf k) (ref11_May_l10 kf k)) := (lf_top (lf_cons ih (lf_cons (lok_ref11_May_l10 kf k) lf_nil)))
    intro vs es K r h
    unfold sl_ref11_May_l5 at h
    split at h
    · exact loop_good (text_mixed t_ref11_May) hcf hlf (text_loop t_ref11_May 5).1 (text_loop t_ref11_May 5).2 ((eq_ref11_May_l5 (ref11_Classes kf) (ref11_May_l5 kf k) (ref11_May_l10 kf k) _ _ _ _ _ _ K).trans h)
    · exact no_some h

theorem ok_ref11_May {R : Type} (kf : Nat) : Ok_ref11_May (R := R) (ref11_May kf) := by
  have hcf : CfOk (R := R) Try.prog glob raw (cf_ref11_May (ref11_Classes kf) (ref11_May_l5 kf kf) (ref11_May_l10 kf kf)) := (cf_cons (shok_20 (ok_ref11_Classes kf)) cf_nil)
  have hlf : LfOk (R := R) C_ref11_May 18 (lf_ref11_May (ref11_Classes kf) (ref11_May_l5 kf kf) (ref11_May_l10 kf kf)) := (lf_top (lf_cons (lok_ref11_May_l5 kf kf) (lf_cons (lok_ref11_May_l10 kf kf) lf_nil)))
  intro v1 v2 v3 K r h
  exact run_good t_ref11_May hcf hlf ((eq_ref11_May (ref11_Classes kf) (ref11_May_l5 kf kf) (ref11_May_l10 kf kf) v1 v2 v3 K).trans h)

theorem t_law12_LeastApart : textOk C_law12_LeastApart.bef Try.prog 6 = true := by kernel_rfl

theorem gd_some {R : Type} {b : Bool} {x : Option R} {r : R} (h : gd b x = some r) : b = true ∧ x = some r := by
  cases b with
  | true => exact ⟨rfl, h⟩
  | false => exact absurd h (by simp [gd])

theorem ok_law12_LeastApart {R : Type} (kf : Nat) : Ok_law12_LeastApart (R := R) (law12_LeastApart kf) := by
  have hcf : CfOk (R := R) Try.prog glob raw (cf_law12_LeastApart (law12_begun kf) (play_Dfa kf) (least_Least kf) (ref11_May kf)) := (cf_cons (shok_10 (ok_law12_begun kf)) (cf_cons (shok_11 (ok_play_Dfa kf)) (cf_cons (shok_13 (ok_least_Least kf)) (cf_cons (shok_18 (ok_ref11_May kf)) cf_nil))))
  have hlf : LfOk (R := R) C_law12_LeastApart 6 (lf_law12_LeastApart (law12_begun kf) (play_Dfa kf) (least_Least kf) (ref11_May kf)) := lf_none
  intro v1 v2 v3 K r h
  have hm := text_mixed t_law12_LeastApart
  refine run_good_of (C := C_law12_LeastApart) t_law12_LeastApart (show Try.prog.funcs[6]? = some Try.f6 by kernel_rfl) ?_
  refine good_spine hm hcf hlf 5 (bodyOf Try.prog 6) _ (show codeOk C_law12_LeastApart.bef (restC 0 (bodyOf Try.prog 6)) = true by kernel_rfl) (fun b hb => find_own ap_nd hb) ((ap0 (law12_begun kf) (play_Dfa kf) (least_Least kf) (ref11_May kf) v1 v2 v3 K).trans h) fun st0 h0 => ?_
  refine good_cut h0 fun vs es h1 => ?_
  unfold apJ at h1
  split at h1
  rotate_left
  · exact no_some h1
  obtain ⟨hg, h2⟩ := gd_some h1
  rw [apY]
  obtain ⟨f1, f2, iR, iB, zR, zB, hT⟩ := apT
  exact good_apart (C := C_law12_LeastApart) hT apO (by decide) hg ((ap1 _ _ _ K).trans h2)

end
end Go.Ab.T
