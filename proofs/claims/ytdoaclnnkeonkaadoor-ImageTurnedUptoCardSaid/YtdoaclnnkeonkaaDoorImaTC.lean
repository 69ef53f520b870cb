/- ImaTC: a part of the proofs of this seat's statements. -/
import Derived.Test.YtdoaclnnkeonkaaDoorImaTB
import Derived.Test.YtdoaclnnkeonkaaDoorKnot
import Derived.Test.YtdoaclnnkeonkaaDoorImaTP
namespace Go.Ab.T
open Go Go.Ab Go.Proofs
set_option maxRecDepth 100000
set_option linter.unusedVariables false
noncomputable section
def Ok_law15_ImageTurned {R : Type} (c : T75 R) : Prop := ∀ (v1 : Int) (v2 : Int) (v3 : LI) (v4 : Int) (v5 : Int) (v6 : Int) (v7 : Int) (K : S → List Ent → Option R) (r : R), c v1 v2 v3 v4 v5 v6 v7 (fun (r0 : Bool) => K (.bool r0) []) = some r → ∃ v es, FnOk Tryd.prog glob 5 (npF raw 5 []) [.int .u8 v1, .int .u8 v2, .sl (.int .u8) v3, .int .i64 v4, .int .u8 v5, .int .i64 v6, .int .u8 v7] [] v es ∧ K v es = some r
theorem okn_law15_ImageTurned {R : Type} : Ok_law15_ImageTurned (R := R) (fun _ _ _ _ _ _ _ _ => none) := fun _ _ _ _ _ _ _ _ _ h => no_some h
theorem shok_5 {R : Type} {c_law15_ImageTurned : T75 R} (h_law15_ImageTurned : Ok_law15_ImageTurned c_law15_ImageTurned) : ShOk Tryd.prog glob raw 5 (sh5 c_law15_ImageTurned) := by
  intro av es K r h
  unfold sh5 at h
  split at h
  · exact h_law15_ImageTurned _ _ _ _ _ _ _ _ _ h
  · exact no_some h
def Ok_law15_begun {R : Type} (c : (Bool → Option R) → Option R) : Prop := ∀ (K : S → List Ent → Option R) (r : R), c (fun (r0 : Bool) => K (.bool r0) []) = some r → ∃ v es, FnOk Tryd.prog glob 9 (npF raw 9 []) [] [] v es ∧ K v es = some r
theorem okn_law15_begun {R : Type} : Ok_law15_begun (R := R) (fun _ => none) := fun _ _ h => no_some h
theorem shok_9 {R : Type} {c_law15_begun : (Bool → Option R) → Option R} (h_law15_begun : Ok_law15_begun c_law15_begun) : ShOk Tryd.prog glob raw 9 (sh9 c_law15_begun) := by
  intro av es K r h
  unfold sh9 at h
  split at h
  · exact h_law15_begun _ _ h
  · exact no_some h
def Ok_ref11_Least {R : Type} (c : T22 R) : Prop := ∀ (v1 : LI) (v2 : LL) (v3 : LB) (K : S → List Ent → Option R) (r : R), c v1 v2 v3 (fun (r0 : LI) (r1 : LL) (r2 : LB) => K (.st [.arr 256 (.int .u8) r0, .own (.slice (.int .i64)) 0, .own .bool 1]) [.buf (.slice (.int .i64)) r1 false, .buf .bool r2 false]) = some r → ∃ v es, FnOk Tryd.prog glob 11 (npF raw 11 []) [.st [.arr 256 (.int .u8) v1, .sl (.slice (.int .i64)) v2, .sl .bool v3]] [] v es ∧ K v es = some r
theorem okn_ref11_Least {R : Type} : Ok_ref11_Least (R := R) (fun _ _ _ _ => none) := fun _ _ _ _ _ h => no_some h
theorem shok_11 {R : Type} {c_ref11_Least : T22 R} (h_ref11_Least : Ok_ref11_Least c_ref11_Least) : ShOk Tryd.prog glob raw 11 (sh11 c_ref11_Least) := by
  intro av es K r h
  unfold sh11 at h
  split at h
  · exact h_ref11_Least _ _ _ _ _ h
  · exact no_some h
def Ok_play_Dfa {R : Type} (c : T73 R) : Prop := ∀ (v1 : Int) (v2 : Int) (v3 : LI) (K : S → List Ent → Option R) (r : R), c v1 v2 v3 (fun (r0 : LI) (r1 : LL) (r2 : LB) => K (.st [.arr 256 (.int .u8) r0, .own (.slice (.int .i64)) 0, .own .bool 1]) [.buf (.slice (.int .i64)) r1 false, .buf .bool r2 false]) = some r → ∃ v es, FnOk Tryd.prog glob 12 (npF raw 12 []) [.int .u8 v1, .int .u8 v2, .sl (.int .u8) v3] [] v es ∧ K v es = some r
theorem okn_play_Dfa {R : Type} : Ok_play_Dfa (R := R) (fun _ _ _ _ => none) := fun _ _ _ _ _ h => no_some h
theorem shok_12 {R : Type} {c_play_Dfa : T73 R} (h_play_Dfa : Ok_play_Dfa c_play_Dfa) : ShOk Tryd.prog glob raw 12 (sh12 c_play_Dfa) := by
  intro av es K r h
  unfold sh12 at h
  split at h
  · exact h_play_Dfa _ _ _ _ _ h
  · exact no_some h
def Ok_image_Put {R : Type} (c : T10 R) : Prop := ∀ (v1 : LI) (v2 : LL) (v3 : LB) (K : S → List Ent → Option R) (r : R), c v1 v2 v3 (fun (r0 : Int) (r1 : LI) => K (.tup [.own (.int .u8) 0, .int .i64 r0]) [.buf (.int .u8) r1 false]) = some r → ∃ v es, FnOk Tryd.prog glob 13 (npF raw 13 []) [.st [.arr 256 (.int .u8) v1, .sl (.slice (.int .i64)) v2, .sl .bool v3]] [] v es ∧ K v es = some r
theorem okn_image_Put {R : Type} : Ok_image_Put (R := R) (fun _ _ _ _ => none) := fun _ _ _ _ _ h => no_some h
theorem shok_13 {R : Type} {c_image_Put : T10 R} (h_image_Put : Ok_image_Put c_image_Put) : ShOk Tryd.prog glob raw 13 (sh13 c_image_Put) := by
  intro av es K r h
  unfold sh13 at h
  split at h
  · exact h_image_Put _ _ _ _ _ h
  · exact no_some h
def Ok_image_Size {R : Type} (c : T1 R) : Prop := ∀ (v1 : LI) (v2 : LL) (v3 : LB) (K : S → List Ent → Option R) (r : R), c v1 v2 v3 (fun (r0 : Int) => K (.int .i64 r0) []) = some r → ∃ v es, FnOk Tryd.prog glob 15 (npF raw 15 []) [.st [.arr 256 (.int .u8) v1, .sl (.slice (.int .i64)) v2, .sl .bool v3]] [] v es ∧ K v es = some r
theorem okn_image_Size {R : Type} : Ok_image_Size (R := R) (fun _ _ _ _ => none) := fun _ _ _ _ _ h => no_some h
theorem shok_15 {R : Type} {c_image_Size : T1 R} (h_image_Size : Ok_image_Size c_image_Size) : ShOk Tryd.prog glob raw 15 (sh15 c_image_Size) := by
  intro av es K r h
  unfold sh15 at h
  split at h
  · exact h_image_Size _ _ _ _ _ h
  · exact no_some h
def Ok_image_Take {R : Type} (c : T38 R) : Prop := ∀ (v1 : LI) (K : S → List Ent → Option R) (r : R), c v1 (fun (r0 : LI) (r1 : Int) (r2 : LL) (r3 : LB) => K (.tup [.st [.arr 256 (.int .u8) r0, .own (.slice (.int .i64)) 0, .own .bool 1], .int .i64 r1]) [.buf (.slice (.int .i64)) r2 false, .buf .bool r3 false]) = some r → ∃ v es, FnOk Tryd.prog glob 18 (npF raw 18 []) [.sl (.int .u8) v1] [] v es ∧ K v es = some r
theorem okn_image_Take {R : Type} : Ok_image_Take (R := R) (fun _ _ => none) := fun _ _ _ h => no_some h
theorem shok_18 {R : Type} {c_image_Take : T38 R} (h_image_Take : Ok_image_Take c_image_Take) : ShOk Tryd.prog glob raw 18 (sh18 c_image_Take) := by
  intro av es K r h
  unfold sh18 at h
  split at h
  · exact h_image_Take _ _ _ h
  · exact no_some h
def Ok_ref11_Same {R : Type} (c : T23 R) : Prop := ∀ (v1 : LI) (v2 : LL) (v3 : LB) (v4 : LI) (v5 : LL) (v6 : LB) (K : S → List Ent → Option R) (r : R), c v1 v2 v3 v4 v5 v6 (fun (r0 : Bool) => K (.bool r0) []) = some r → ∃ v es, FnOk Tryd.prog glob 22 (npF raw 22 []) [.st [.arr 256 (.int .u8) v1, .sl (.slice (.int .i64)) v2, .sl .bool v3], .st [.arr 256 (.int .u8) v4, .sl (.slice (.int .i64)) v5, .sl .bool v6]] [] v es ∧ K v es = some r
theorem okn_ref11_Same {R : Type} : Ok_ref11_Same (R := R) (fun _ _ _ _ _ _ _ => none) := fun _ _ _ _ _ _ _ _ h => no_some h
theorem shok_22 {R : Type} {c_ref11_Same : T23 R} (h_ref11_Same : Ok_ref11_Same c_ref11_Same) : ShOk Tryd.prog glob raw 22 (sh22 c_ref11_Same) := by
  intro av es K r h
  unfold sh22 at h
  split at h
  · exact h_ref11_Same _ _ _ _ _ _ _ _ h
  · exact no_some h
def Ok_law0_Place {R : Type} (c : T74 R) : Prop := ∀ (v1 : Int) (v2 : Int) (K : S → List Ent → Option R) (r : R), c v1 v2 (fun (r0 : Int) => K (.int .i64 r0) []) = some r → ∃ v es, FnOk Tryd.prog glob 23 (npF raw 23 []) [.int .i64 v1, .int .i64 v2] [] v es ∧ K v es = some r
theorem okn_law0_Place {R : Type} : Ok_law0_Place (R := R) (fun _ _ _ => none) := fun _ _ _ _ h => no_some h
theorem shok_23 {R : Type} {c_law0_Place : T74 R} (h_law0_Place : Ok_law0_Place c_law0_Place) : ShOk Tryd.prog glob raw 23 (sh23 c_law0_Place) := by
  intro av es K r h
  unfold sh23 at h
  split at h
  · exact h_law0_Place _ _ _ _ h
  · exact no_some h
def Ok_ref11_May {R : Type} (c : T0 R) : Prop := ∀ (v1 : LI) (v2 : LL) (v3 : LB) (K : S → List Ent → Option R) (r : R), c v1 v2 v3 (fun (r0 : Bool) => K (.bool r0) []) = some r → ∃ v es, FnOk Tryd.prog glob 27 (npF raw 27 []) [.st [.arr 256 (.int .u8) v1, .sl (.slice (.int .i64)) v2, .sl .bool v3]] [] v es ∧ K v es = some r
theorem okn_ref11_May {R : Type} : Ok_ref11_May (R := R) (fun _ _ _ _ => none) := fun _ _ _ _ _ h => no_some h
theorem shok_27 {R : Type} {c_ref11_May : T0 R} (h_ref11_May : Ok_ref11_May c_ref11_May) : ShOk Tryd.prog glob raw 27 (sh27 c_ref11_May) := by
  intro av es K r h
  unfold sh27 at h
  split at h
  · exact h_ref11_May _ _ _ _ _ h
  · exact no_some h
def Ok_ref11_Parts {R : Type} (c : T2 R) : Prop := ∀ (v1 : LI) (v2 : LL) (v3 : LB) (K : S → List Ent → Option R) (r : R), c v1 v2 v3 (fun (r0 : LI) => K (.own (.int .i64) 0) [.buf (.int .i64) r0 false]) = some r → ∃ v es, FnOk Tryd.prog glob 28 (npF raw 28 []) [.st [.arr 256 (.int .u8) v1, .sl (.slice (.int .i64)) v2, .sl .bool v3]] [] v es ∧ K v es = some r
theorem okn_ref11_Parts {R : Type} : Ok_ref11_Parts (R := R) (fun _ _ _ _ => none) := fun _ _ _ _ _ h => no_some h
theorem shok_28 {R : Type} {c_ref11_Parts : T2 R} (h_ref11_Parts : Ok_ref11_Parts c_ref11_Parts) : ShOk Tryd.prog glob raw 28 (sh28 c_ref11_Parts) := by
  intro av es K r h
  unfold sh28 at h
  split at h
  · exact h_ref11_Parts _ _ _ _ _ h
  · exact no_some h
def Ok_ref11_Reach {R : Type} (c : T6 R) : Prop := ∀ (v1 : LI) (v2 : LL) (v3 : LB) (K : S → List Ent → Option R) (r : R), c v1 v2 v3 (fun (r0 : LB) => K (.own .bool 0) [.buf .bool r0 false]) = some r → ∃ v es, FnOk Tryd.prog glob 29 (npF raw 29 []) [.st [.arr 256 (.int .u8) v1, .sl (.slice (.int .i64)) v2, .sl .bool v3]] [] v es ∧ K v es = some r
theorem okn_ref11_Reach {R : Type} : Ok_ref11_Reach (R := R) (fun _ _ _ _ => none) := fun _ _ _ _ _ h => no_some h
theorem shok_29 {R : Type} {c_ref11_Reach : T6 R} (h_ref11_Reach : Ok_ref11_Reach c_ref11_Reach) : ShOk Tryd.prog glob raw 29 (sh29 c_ref11_Reach) := by
  intro av es K r h
  unfold sh29 at h
  split at h
  · exact h_ref11_Reach _ _ _ _ _ h
  · exact no_some h
def Ok_ref11_alike {R : Type} (c : T7 R) : Prop := ∀ (v1 : LI) (v2 : LL) (v3 : LB) (v4 : LI) (v5 : LB) (v6 : Int) (v7 : Int) (K : S → List Ent → Option R) (r : R), c v1 v2 v3 v4 v5 v6 v7 (fun (r0 : Bool) => K (.bool r0) []) = some r → ∃ v es, FnOk Tryd.prog glob 30 (npF raw 30 []) [.st [.arr 256 (.int .u8) v1, .sl (.slice (.int .i64)) v2, .sl .bool v3], .sl (.int .i64) v4, .sl .bool v5, .int .i64 v6, .int .i64 v7] [] v es ∧ K v es = some r
theorem okn_ref11_alike {R : Type} : Ok_ref11_alike (R := R) (fun _ _ _ _ _ _ _ _ => none) := fun _ _ _ _ _ _ _ _ _ h => no_some h
theorem shok_30 {R : Type} {c_ref11_alike : T7 R} (h_ref11_alike : Ok_ref11_alike c_ref11_alike) : ShOk Tryd.prog glob raw 30 (sh30 c_ref11_alike) := by
  intro av es K r h
  unfold sh30 at h
  split at h
  · exact h_ref11_alike _ _ _ _ _ _ _ _ _ h
  · exact no_some h
def Ok_play_Made {R : Type} (c : T29 R) : Prop := ∀ (v1 : LI) (K : S → List Ent → Option R) (r : R), c v1 (fun (r0 : LI) (r1 : Int) => K (.ptr 0 []) [.box (.st [.sl (.int .u8) r0, .int .i64 r1]) false]) = some r → ∃ v es, FnOk Tryd.prog glob 31 (npF raw 31 []) [.sl (.int .u8) v1] [] v es ∧ K v es = some r
theorem okn_play_Made {R : Type} : Ok_play_Made (R := R) (fun _ _ => none) := fun _ _ _ h => no_some h
theorem shok_31 {R : Type} {c_play_Made : T29 R} (h_play_Made : Ok_play_Made c_play_Made) : ShOk Tryd.prog glob raw 31 (sh31 c_play_Made) := by
  intro av es K r h
  unfold sh31 at h
  split at h
  · exact h_play_Made _ _ _ h
  · exact no_some h
def Ok_play_Picks_num {R : Type} (c : T30 R) : Prop := ∀ (v1 : Int) (v2 : LI) (v3 : Int) (K : S → List Ent → Option R) (r : R), c v1 v2 v3 (fun (r0 : Int) (r1 : LI) (r2 : Int) => K (.int .i64 r0) [.box (.st [.sl (.int .u8) r1, .int .i64 r2]) false]) = some r → ∃ v es, FnOk Tryd.prog glob 32 (npF raw 32 [.box (.st [.sl (.int .u8) v2, .int .i64 v3]) false]) [.ptr 0 [], .int .i64 v1] [.box (.st [.sl (.int .u8) v2, .int .i64 v3]) false] v es ∧ K v es = some r
theorem okn_play_Picks_num {R : Type} : Ok_play_Picks_num (R := R) (fun _ _ _ _ => none) := fun _ _ _ _ _ h => no_some h
theorem shok_32 {R : Type} {c_play_Picks_num : T30 R} (h_play_Picks_num : Ok_play_Picks_num c_play_Picks_num) : ShOk Tryd.prog glob raw 32 (sh32 c_play_Picks_num) := by
  intro av es K r h
  unfold sh32 at h
  split at h
  · exact h_play_Picks_num _ _ _ _ _ h
  · exact no_some h
def Ok_least_Is {R : Type} (c : T0 R) : Prop := ∀ (v1 : LI) (v2 : LL) (v3 : LB) (K : S → List Ent → Option R) (r : R), c v1 v2 v3 (fun (r0 : Bool) => K (.bool r0) []) = some r → ∃ v es, FnOk Tryd.prog glob 33 (npF raw 33 []) [.st [.arr 256 (.int .u8) v1, .sl (.slice (.int .i64)) v2, .sl .bool v3]] [] v es ∧ K v es = some r
theorem okn_least_Is {R : Type} : Ok_least_Is (R := R) (fun _ _ _ _ => none) := fun _ _ _ _ _ h => no_some h
theorem shok_33 {R : Type} {c_least_Is : T0 R} (h_least_Is : Ok_least_Is c_least_Is) : ShOk Tryd.prog glob raw 33 (sh33 c_least_Is) := by
  intro av es K r h
  unfold sh33 at h
  split at h
  · exact h_least_Is _ _ _ _ _ h
  · exact no_some h
def Ok_machine_Classes {R : Type} (c : T1 R) : Prop := ∀ (v1 : LI) (v2 : LL) (v3 : LB) (K : S → List Ent → Option R) (r : R), c v1 v2 v3 (fun (r0 : Int) => K (.int .i64 r0) []) = some r → ∃ v es, FnOk Tryd.prog glob 34 (npF raw 34 []) [.st [.arr 256 (.int .u8) v1, .sl (.slice (.int .i64)) v2, .sl .bool v3]] [] v es ∧ K v es = some r
theorem okn_machine_Classes {R : Type} : Ok_machine_Classes (R := R) (fun _ _ _ _ => none) := fun _ _ _ _ _ h => no_some h
theorem shok_34 {R : Type} {c_machine_Classes : T1 R} (h_machine_Classes : Ok_machine_Classes c_machine_Classes) : ShOk Tryd.prog glob raw 34 (sh34 c_machine_Classes) := by
  intro av es K r h
  unfold sh34 at h
  split at h
  · exact h_machine_Classes _ _ _ _ _ h
  · exact no_some h
def Ok_image_reader_reads {R : Type} (c : T70 R) : Prop := ∀ (v1 : LI) (K : S → List Ent → Option R) (r : R), c v1 (fun (r0 : LI) (r1 : Err) (r2 : LI) (r3 : LL) (r4 : LB) => K (.tup [.st [.arr 256 (.int .u8) r0, .own (.slice (.int .i64)) 1, .own .bool 2], .err r1]) [.box (.st [.sl (.int .u8) r2]) false, .buf (.slice (.int .i64)) r3 false, .buf .bool r4 false]) = some r → ∃ v es, FnOk Tryd.prog glob 36 (npF raw 36 [.box (.st [.sl (.int .u8) v1]) false]) [.ptr 0 []] [.box (.st [.sl (.int .u8) v1]) false] v es ∧ K v es = some r
theorem okn_image_reader_reads {R : Type} : Ok_image_reader_reads (R := R) (fun _ _ => none) := fun _ _ _ h => no_some h
theorem shok_36 {R : Type} {c_image_reader_reads : T70 R} (h_image_reader_reads : Ok_image_reader_reads c_image_reader_reads) : ShOk Tryd.prog glob raw 36 (sh36 c_image_reader_reads) := by
  intro av es K r h
  unfold sh36 at h
  split at h
  · exact h_image_reader_reads _ _ _ h
  · exact no_some h
def Ok_ref11_Classes {R : Type} (c : T1 R) : Prop := ∀ (v1 : LI) (v2 : LL) (v3 : LB) (K : S → List Ent → Option R) (r : R), c v1 v2 v3 (fun (r0 : Int) => K (.int .i64 r0) []) = some r → ∃ v es, FnOk Tryd.prog glob 39 (npF raw 39 []) [.st [.arr 256 (.int .u8) v1, .sl (.slice (.int .i64)) v2, .sl .bool v3]] [] v es ∧ K v es = some r
theorem okn_ref11_Classes {R : Type} : Ok_ref11_Classes (R := R) (fun _ _ _ _ => none) := fun _ _ _ _ _ h => no_some h
theorem shok_39 {R : Type} {c_ref11_Classes : T1 R} (h_ref11_Classes : Ok_ref11_Classes c_ref11_Classes) : ShOk Tryd.prog glob raw 39 (sh39 c_ref11_Classes) := by
  intro av es K r h
  unfold sh39 at h
  split at h
  · exact h_ref11_Classes _ _ _ _ _ h
  · exact no_some h
def Ok_ref11_one {R : Type} (c : T5 R) : Prop := ∀ (v1 : LI) (v2 : LL) (v3 : LB) (v4 : LI) (v5 : Int) (v6 : Int) (K : S → List Ent → Option R) (r : R), c v1 v2 v3 v4 v5 v6 (fun (r0 : Bool) => K (.bool r0) []) = some r → ∃ v es, FnOk Tryd.prog glob 40 (npF raw 40 []) [.st [.arr 256 (.int .u8) v1, .sl (.slice (.int .i64)) v2, .sl .bool v3], .sl (.int .i64) v4, .int .i64 v5, .int .i64 v6] [] v es ∧ K v es = some r
theorem okn_ref11_one {R : Type} : Ok_ref11_one (R := R) (fun _ _ _ _ _ _ _ => none) := fun _ _ _ _ _ _ _ _ h => no_some h
theorem shok_40 {R : Type} {c_ref11_one : T5 R} (h_ref11_one : Ok_ref11_one c_ref11_one) : ShOk Tryd.prog glob raw 40 (sh40 c_ref11_one) := by
  intro av es K r h
  unfold sh40 at h
  split at h
  · exact h_ref11_one _ _ _ _ _ _ _ _ h
  · exact no_some h
def Ok_machine_May {R : Type} (c : T0 R) : Prop := ∀ (v1 : LI) (v2 : LL) (v3 : LB) (K : S → List Ent → Option R) (r : R), c v1 v2 v3 (fun (r0 : Bool) => K (.bool r0) []) = some r → ∃ v es, FnOk Tryd.prog glob 41 (npF raw 41 []) [.st [.arr 256 (.int .u8) v1, .sl (.slice (.int .i64)) v2, .sl .bool v3]] [] v es ∧ K v es = some r
theorem okn_machine_May {R : Type} : Ok_machine_May (R := R) (fun _ _ _ _ => none) := fun _ _ _ _ _ h => no_some h
theorem shok_41 {R : Type} {c_machine_May : T0 R} (h_machine_May : Ok_machine_May c_machine_May) : ShOk Tryd.prog glob raw 41 (sh41 c_machine_May) := by
  intro av es K r h
  unfold sh41 at h
  split at h
  · exact h_machine_May _ _ _ _ _ h
  · exact no_some h
def Ok_machine_Same {R : Type} (c : T23 R) : Prop := ∀ (v1 : LI) (v2 : LL) (v3 : LB) (v4 : LI) (v5 : LL) (v6 : LB) (K : S → List Ent → Option R) (r : R), c v1 v2 v3 v4 v5 v6 (fun (r0 : Bool) => K (.bool r0) []) = some r → ∃ v es, FnOk Tryd.prog glob 42 (npF raw 42 []) [.st [.arr 256 (.int .u8) v1, .sl (.slice (.int .i64)) v2, .sl .bool v3], .st [.arr 256 (.int .u8) v4, .sl (.slice (.int .i64)) v5, .sl .bool v6]] [] v es ∧ K v es = some r
theorem okn_machine_Same {R : Type} : Ok_machine_Same (R := R) (fun _ _ _ _ _ _ _ => none) := fun _ _ _ _ _ _ _ _ h => no_some h
theorem shok_42 {R : Type} {c_machine_Same : T23 R} (h_machine_Same : Ok_machine_Same c_machine_Same) : ShOk Tryd.prog glob raw 42 (sh42 c_machine_Same) := by
  intro av es K r h
  unfold sh42 at h
  split at h
  · exact h_machine_Same _ _ _ _ _ _ _ _ h
  · exact no_some h
def Ok_least_Least {R : Type} (c : T22 R) : Prop := ∀ (v1 : LI) (v2 : LL) (v3 : LB) (K : S → List Ent → Option R) (r : R), c v1 v2 v3 (fun (r0 : LI) (r1 : LL) (r2 : LB) => K (.st [.arr 256 (.int .u8) r0, .own (.slice (.int .i64)) 0, .own .bool 1]) [.buf (.slice (.int .i64)) r1 false, .buf .bool r2 false]) = some r → ∃ v es, FnOk Tryd.prog glob 43 (npF raw 43 []) [.st [.arr 256 (.int .u8) v1, .sl (.slice (.int .i64)) v2, .sl .bool v3]] [] v es ∧ K v es = some r
theorem okn_least_Least {R : Type} : Ok_least_Least (R := R) (fun _ _ _ _ => none) := fun _ _ _ _ _ h => no_some h
theorem shok_43 {R : Type} {c_least_Least : T22 R} (h_least_Least : Ok_least_Least c_least_Least) : ShOk Tryd.prog glob raw 43 (sh43 c_least_Least) := by
  intro av es K r h
  unfold sh43 at h
  split at h
  · exact h_least_Least _ _ _ _ _ h
  · exact no_some h
def Ok_machine_classes {R : Type} (c : T1 R) : Prop := ∀ (v1 : LI) (v2 : LL) (v3 : LB) (K : S → List Ent → Option R) (r : R), c v1 v2 v3 (fun (r0 : Int) => K (.int .i64 r0) []) = some r → ∃ v es, FnOk Tryd.prog glob 44 (npF raw 44 []) [.st [.arr 256 (.int .u8) v1, .sl (.slice (.int .i64)) v2, .sl .bool v3]] [] v es ∧ K v es = some r
theorem okn_machine_classes {R : Type} : Ok_machine_classes (R := R) (fun _ _ _ _ => none) := fun _ _ _ _ _ h => no_some h
theorem shok_44 {R : Type} {c_machine_classes : T1 R} (h_machine_classes : Ok_machine_classes c_machine_classes) : ShOk Tryd.prog glob raw 44 (sh44 c_machine_classes) := by
  intro av es K r h
  unfold sh44 at h
  split at h
  · exact h_machine_classes _ _ _ _ _ h
  · exact no_some h
def Ok_image_reader_byte {R : Type} (c : T4 R) : Prop := ∀ (v1 : Int) (v2 : Int) (v3 : LI) (K : S → List Ent → Option R) (r : R), c v1 v2 v3 (fun (r0 : Int) (r1 : Err) (r2 : LI) => K (.tup [.int .i64 r0, .err r1]) [.box (.st [.sl (.int .u8) r2]) false]) = some r → ∃ v es, FnOk Tryd.prog glob 45 (npF raw 45 [.box (.st [.sl (.int .u8) v3]) false]) [.ptr 0 [], .int .i64 v1, .int .i64 v2] [.box (.st [.sl (.int .u8) v3]) false] v es ∧ K v es = some r
theorem okn_image_reader_byte {R : Type} : Ok_image_reader_byte (R := R) (fun _ _ _ _ => none) := fun _ _ _ _ _ h => no_some h
theorem shok_45 {R : Type} {c_image_reader_byte : T4 R} (h_image_reader_byte : Ok_image_reader_byte c_image_reader_byte) : ShOk Tryd.prog glob raw 45 (sh45 c_image_reader_byte) := by
  intro av es K r h
  unfold sh45 at h
  split at h
  · exact h_image_reader_byte _ _ _ _ _ h
  · exact no_some h
def Ok_image_reader_runs {R : Type} (c : T37 R) : Prop := ∀ (v1 : Int) (v2 : LI) (K : S → List Ent → Option R) (r : R), c v1 v2 (fun (r0 : LI) (r1 : Err) (r2 : LI) => K (.tup [.arr 256 (.int .u8) r0, .err r1]) [.box (.st [.sl (.int .u8) r2]) false]) = some r → ∃ v es, FnOk Tryd.prog glob 46 (npF raw 46 [.box (.st [.sl (.int .u8) v2]) false]) [.ptr 0 [], .int .i64 v1] [.box (.st [.sl (.int .u8) v2]) false] v es ∧ K v es = some r
theorem okn_image_reader_runs {R : Type} : Ok_image_reader_runs (R := R) (fun _ _ _ => none) := fun _ _ _ _ h => no_some h
theorem shok_46 {R : Type} {c_image_reader_runs : T37 R} (h_image_reader_runs : Ok_image_reader_runs c_image_reader_runs) : ShOk Tryd.prog glob raw 46 (sh46 c_image_reader_runs) := by
  intro av es K r h
  unfold sh46 at h
  split at h
  · exact h_image_reader_runs _ _ _ _ h
  · exact no_some h
def Ok_image_bad {R : Type} (c : Int → (Err → Option R) → Option R) : Prop := ∀ (v1 : Int) (K : S → List Ent → Option R) (r : R), c v1 (fun (r0 : Err) => K (.err r0) []) = some r → ∃ v es, FnOk Tryd.prog glob 47 (npF raw 47 []) [.int .i64 v1] [] v es ∧ K v es = some r
theorem okn_image_bad {R : Type} : Ok_image_bad (R := R) (fun _ _ => none) := fun _ _ _ h => no_some h
theorem shok_47 {R : Type} {c_image_bad : Int → (Err → Option R) → Option R} (h_image_bad : Ok_image_bad c_image_bad) : ShOk Tryd.prog glob raw 47 (sh47 c_image_bad) := by
  intro av es K r h
  unfold sh47 at h
  split at h
  · exact h_image_bad _ _ _ h
  · exact no_some h
def Ok_slices_ContainsFunc_int_int {R : Type} (c : T49 R) : Prop := ∀ (v1 : LI) (v2 : Int) (K : S → List Ent → Option R) (r : R), c v1 v2 (fun (r0 : Bool) (r1 : Int) => K (.bool r0) [.box (.int .i64 r1) false]) = some r → ∃ v es, FnOk Tryd.prog glob 52 (npF raw 52 [.box (.int .i64 v2) false]) [.sl (.int .i64) v1, .fn 53 [.ptr 0 []]] [.box (.int .i64 v2) false] v es ∧ K v es = some r
theorem okn_slices_ContainsFunc_int_int {R : Type} : Ok_slices_ContainsFunc_int_int (R := R) (fun _ _ _ => none) := fun _ _ _ _ h => no_some h
theorem shok_52 {R : Type} {c_slices_ContainsFunc_int_int : T49 R} (h_slices_ContainsFunc_int_int : Ok_slices_ContainsFunc_int_int c_slices_ContainsFunc_int_int) : ShOk Tryd.prog glob raw 52 (sh52 c_slices_ContainsFunc_int_int) := by
  intro av es K r h
  unfold sh52 at h
  split at h
  · exact h_slices_ContainsFunc_int_int _ _ _ _ h
  · exact no_some h
def Ok_machine_May_1 {R : Type} (c : T48 R) : Prop := ∀ (v1 : Int) (v2 : Int) (K : S → List Ent → Option R) (r : R), c v1 v2 (fun (r0 : Bool) (r1 : Int) => K (.bool r0) [.box (.int .i64 r1) false]) = some r → ∃ v es, FnOk Tryd.prog glob 53 (npF raw 53 [.box (.int .i64 v2) false]) [.int .i64 v1, .ptr 0 []] [.box (.int .i64 v2) false] v es ∧ K v es = some r
theorem okn_machine_May_1 {R : Type} : Ok_machine_May_1 (R := R) (fun _ _ _ => none) := fun _ _ _ _ h => no_some h
theorem shok_53 {R : Type} {c_machine_May_1 : T48 R} (h_machine_May_1 : Ok_machine_May_1 c_machine_May_1) : ShOk Tryd.prog glob raw 53 (sh53 c_machine_May_1) := by
  intro av es K r h
  unfold sh53 at h
  split at h
  · exact h_machine_May_1 _ _ _ _ h
  · exact no_some h
def Ok_slices_Equal_bool_bool {R : Type} (c : T67 R) : Prop := ∀ (v1 : LB) (v2 : LB) (K : S → List Ent → Option R) (r : R), c v1 v2 (fun (r0 : Bool) => K (.bool r0) []) = some r → ∃ v es, FnOk Tryd.prog glob 54 (npF raw 54 []) [.sl .bool v1, .sl .bool v2] [] v es ∧ K v es = some r
theorem okn_slices_Equal_bool_bool {R : Type} : Ok_slices_Equal_bool_bool (R := R) (fun _ _ _ => none) := fun _ _ _ _ h => no_some h
theorem shok_54 {R : Type} {c_slices_Equal_bool_bool : T67 R} (h_slices_Equal_bool_bool : Ok_slices_Equal_bool_bool c_slices_Equal_bool_bool) : ShOk Tryd.prog glob raw 54 (sh54 c_slices_Equal_bool_bool) := by
  intro av es K r h
  unfold sh54 at h
  split at h
  · exact h_slices_Equal_bool_bool _ _ _ _ h
  · exact no_some h
def Ok_slices_EqualFunc_int_int_int_int {R : Type} (c : T68 R) : Prop := ∀ (v1 : LL) (v2 : LL) (K : S → List Ent → Option R) (r : R), c v1 v2 (fun (r0 : Bool) => K (.bool r0) []) = some r → ∃ v es, FnOk Tryd.prog glob 55 (npF raw 55 []) [.sl (.slice (.int .i64)) v1, .sl (.slice (.int .i64)) v2, .fn 56 []] [] v es ∧ K v es = some r
theorem okn_slices_EqualFunc_int_int_int_int {R : Type} : Ok_slices_EqualFunc_int_int_int_int (R := R) (fun _ _ _ => none) := fun _ _ _ _ h => no_some h
theorem shok_55 {R : Type} {c_slices_EqualFunc_int_int_int_int : T68 R} (h_slices_EqualFunc_int_int_int_int : Ok_slices_EqualFunc_int_int_int_int c_slices_EqualFunc_int_int_int_int) : ShOk Tryd.prog glob raw 55 (sh55 c_slices_EqualFunc_int_int_int_int) := by
  intro av es K r h
  unfold sh55 at h
  split at h
  · exact h_slices_EqualFunc_int_int_int_int _ _ _ _ h
  · exact no_some h
def Ok_machine_Same_1 {R : Type} (c : T3 R) : Prop := ∀ (v1 : LI) (v2 : LI) (K : S → List Ent → Option R) (r : R), c v1 v2 (fun (r0 : Bool) => K (.bool r0) []) = some r → ∃ v es, FnOk Tryd.prog glob 56 (npF raw 56 []) [.sl (.int .i64) v1, .sl (.int .i64) v2] [] v es ∧ K v es = some r
theorem okn_machine_Same_1 {R : Type} : Ok_machine_Same_1 (R := R) (fun _ _ _ => none) := fun _ _ _ _ h => no_some h
theorem shok_56 {R : Type} {c_machine_Same_1 : T3 R} (h_machine_Same_1 : Ok_machine_Same_1 c_machine_Same_1) : ShOk Tryd.prog glob raw 56 (sh56 c_machine_Same_1) := by
  intro av es K r h
  unfold sh56 at h
  split at h
  · exact h_machine_Same_1 _ _ _ _ h
  · exact no_some h
def Ok_slices_Equal_int_int {R : Type} (c : T3 R) : Prop := ∀ (v1 : LI) (v2 : LI) (K : S → List Ent → Option R) (r : R), c v1 v2 (fun (r0 : Bool) => K (.bool r0) []) = some r → ∃ v es, FnOk Tryd.prog glob 57 (npF raw 57 []) [.sl (.int .i64) v1, .sl (.int .i64) v2] [] v es ∧ K v es = some r
theorem okn_slices_Equal_int_int {R : Type} : Ok_slices_Equal_int_int (R := R) (fun _ _ _ => none) := fun _ _ _ _ h => no_some h
theorem shok_57 {R : Type} {c_slices_Equal_int_int : T3 R} (h_slices_Equal_int_int : Ok_slices_Equal_int_int c_slices_Equal_int_int) : ShOk Tryd.prog glob raw 57 (sh57 c_slices_Equal_int_int) := by
  intro av es K r h
  unfold sh57 at h
  split at h
  · exact h_slices_Equal_int_int _ _ _ _ h
  · exact no_some h
def Ok_least_parts {R : Type} (c : T2 R) : Prop := ∀ (v1 : LI) (v2 : LL) (v3 : LB) (K : S → List Ent → Option R) (r : R), c v1 v2 v3 (fun (r0 : LI) => K (.own (.int .i64) 0) [.buf (.int .i64) r0 false]) = some r → ∃ v es, FnOk Tryd.prog glob 58 (npF raw 58 []) [.st [.arr 256 (.int .u8) v1, .sl (.slice (.int .i64)) v2, .sl .bool v3]] [] v es ∧ K v es = some r
theorem okn_least_parts {R : Type} : Ok_least_parts (R := R) (fun _ _ _ _ => none) := fun _ _ _ _ _ h => no_some h
theorem shok_58 {R : Type} {c_least_parts : T2 R} (h_least_parts : Ok_least_parts c_least_parts) : ShOk Tryd.prog glob raw 58 (sh58 c_least_parts) := by
  intro av es K r h
  unfold sh58 at h
  split at h
  · exact h_least_parts _ _ _ _ _ h
  · exact no_some h
def Ok_least_order {R : Type} (c : T8 R) : Prop := ∀ (v1 : LI) (v2 : LL) (v3 : LB) (v4 : LI) (K : S → List Ent → Option R) (r : R), c v1 v2 v3 v4 (fun (r0 : LI) (r1 : (List (Int × Int))) => K (.tup [.own (.int .i64) 0, .mp 1]) [.buf (.int .i64) r0 false, .map (.int .i64) (.int .i64) r1 false]) = some r → ∃ v es, FnOk Tryd.prog glob 59 (npF raw 59 []) [.st [.arr 256 (.int .u8) v1, .sl (.slice (.int .i64)) v2, .sl .bool v3], .sl (.int .i64) v4] [] v es ∧ K v es = some r
theorem okn_least_order {R : Type} : Ok_least_order (R := R) (fun _ _ _ _ _ => none) := fun _ _ _ _ _ _ h => no_some h
theorem shok_59 {R : Type} {c_least_order : T8 R} (h_least_order : Ok_least_order c_least_order) : ShOk Tryd.prog glob raw 59 (sh59 c_least_order) := by
  intro av es K r h
  unfold sh59 at h
  split at h
  · exact h_least_order _ _ _ _ _ _ h
  · exact no_some h
def Ok_slices_IndexFunc_int_int {R : Type} (c : T9 R) : Prop := ∀ (v1 : LL) (v2 : LI) (K : S → List Ent → Option R) (r : R), c v1 v2 (fun (r0 : Int) (r1 : LI) => K (.int .i64 r0) [.box (.own (.int .i64) 1) false, .buf (.int .i64) r1 false]) = some r → ∃ v es, FnOk Tryd.prog glob 60 (npF raw 60 [.box (.own (.int .i64) 1) false, .buf (.int .i64) v2 false]) [.sl (.slice (.int .i64)) v1, .fn 61 [.ptr 0 []]] [.box (.own (.int .i64) 1) false, .buf (.int .i64) v2 false] v es ∧ K v es = some r
theorem okn_slices_IndexFunc_int_int {R : Type} : Ok_slices_IndexFunc_int_int (R := R) (fun _ _ _ => none) := fun _ _ _ _ h => no_some h
theorem shok_60 {R : Type} {c_slices_IndexFunc_int_int : T9 R} (h_slices_IndexFunc_int_int : Ok_slices_IndexFunc_int_int c_slices_IndexFunc_int_int) : ShOk Tryd.prog glob raw 60 (sh60 c_slices_IndexFunc_int_int) := by
  intro av es K r h
  unfold sh60 at h
  split at h
  · exact h_slices_IndexFunc_int_int _ _ _ _ h
  · exact no_some h
def Ok_least_Least_1 {R : Type} (c : T52 R) : Prop := ∀ (v1 : LI) (v2 : LI) (K : S → List Ent → Option R) (r : R), c v1 v2 (fun (r0 : Bool) (r1 : LI) => K (.bool r0) [.box (.own (.int .i64) 1) false, .buf (.int .i64) r1 false]) = some r → ∃ v es, FnOk Tryd.prog glob 61 (npF raw 61 [.box (.own (.int .i64) 1) false, .buf (.int .i64) v2 false]) [.sl (.int .i64) v1, .ptr 0 []] [.box (.own (.int .i64) 1) false, .buf (.int .i64) v2 false] v es ∧ K v es = some r
theorem okn_least_Least_1 {R : Type} : Ok_least_Least_1 (R := R) (fun _ _ _ => none) := fun _ _ _ _ h => no_some h
theorem shok_61 {R : Type} {c_least_Least_1 : T52 R} (h_least_Least_1 : Ok_least_Least_1 c_least_Least_1) : ShOk Tryd.prog glob raw 61 (sh61 c_least_Least_1) := by
  intro av es K r h
  unfold sh61 at h
  split at h
  · exact h_least_Least_1 _ _ _ _ h
  · exact no_some h
def Ok_slices_Max_uint8_uint8 {R : Type} (c : LI → (Int → Option R) → Option R) : Prop := ∀ (v1 : LI) (K : S → List Ent → Option R) (r : R), c v1 (fun (r0 : Int) => K (.int .u8 r0) []) = some r → ∃ v es, FnOk Tryd.prog glob 62 (npF raw 62 []) [.sl (.int .u8) v1] [] v es ∧ K v es = some r
theorem okn_slices_Max_uint8_uint8 {R : Type} : Ok_slices_Max_uint8_uint8 (R := R) (fun _ _ => none) := fun _ _ _ h => no_some h
theorem shok_62 {R : Type} {c_slices_Max_uint8_uint8 : LI → (Int → Option R) → Option R} (h_slices_Max_uint8_uint8 : Ok_slices_Max_uint8_uint8 c_slices_Max_uint8_uint8) : ShOk Tryd.prog glob raw 62 (sh62 c_slices_Max_uint8_uint8) := by
  intro av es K r h
  unfold sh62 at h
  split at h
  · exact h_slices_Max_uint8_uint8 _ _ _ h
  · exact no_some h
def Ok_octet_Take {R : Type} (c : T69 R) : Prop := ∀ (v1 : LI) (v2 : Int) (v3 : Int) (K : S → List Ent → Option R) (r : R), c v1 v2 v3 (fun (r0 : Int) (r1 : Int) => K (.tup [.int .u64 r0, .int .i64 r1]) []) = some r → ∃ v es, FnOk Tryd.prog glob 63 (npF raw 63 []) [.sl (.int .u8) v1, .int .i64 v2, .int .i64 v3] [] v es ∧ K v es = some r
theorem okn_octet_Take {R : Type} : Ok_octet_Take (R := R) (fun _ _ _ _ => none) := fun _ _ _ _ _ h => no_some h
theorem shok_63 {R : Type} {c_octet_Take : T69 R} (h_octet_Take : Ok_octet_Take c_octet_Take) : ShOk Tryd.prog glob raw 63 (sh63 c_octet_Take) := by
  intro av es K r h
  unfold sh63 at h
  split at h
  · exact h_octet_Take _ _ _ _ _ h
  · exact no_some h
def Ok_slices_IndexFunc_int_int_1 {R : Type} (c : T60 R) : Prop := ∀ (v1 : LI) (v2 : Int) (K : S → List Ent → Option R) (r : R), c v1 v2 (fun (r0 : Int) (r1 : Int) => K (.int .i64 r0) [.box (.int .i64 r1) false]) = some r → ∃ v es, FnOk Tryd.prog glob 67 (npF raw 67 [.box (.int .i64 v2) false]) [.sl (.int .i64) v1, .fn 53 [.ptr 0 []]] [.box (.int .i64 v2) false] v es ∧ K v es = some r
theorem okn_slices_IndexFunc_int_int_1 {R : Type} : Ok_slices_IndexFunc_int_int_1 (R := R) (fun _ _ _ => none) := fun _ _ _ _ h => no_some h
theorem shok_67 {R : Type} {c_slices_IndexFunc_int_int_1 : T60 R} (h_slices_IndexFunc_int_int_1 : Ok_slices_IndexFunc_int_int_1 c_slices_IndexFunc_int_int_1) : ShOk Tryd.prog glob raw 67 (sh67 c_slices_IndexFunc_int_int_1) := by
  intro av es K r h
  unfold sh67 at h
  split at h
  · exact h_slices_IndexFunc_int_int_1 _ _ _ _ h
  · exact no_some h
def Ok_least_mark {R : Type} (c : T24 R) : Prop := ∀ (v1 : Int) (v2 : LI) (v3 : LI) (K : S → List Ent → Option R) (r : R), c v1 v2 v3 (fun (r0 : LI) => K (.str r0) []) = some r → ∃ v es, FnOk Tryd.prog glob 68 (npF raw 68 []) [.int .i64 v1, .sl (.int .i64) v2, .sl (.int .i64) v3] [] v es ∧ K v es = some r
theorem okn_least_mark {R : Type} : Ok_least_mark (R := R) (fun _ _ _ _ => none) := fun _ _ _ _ _ h => no_some h
theorem shok_68 {R : Type} {c_least_mark : T24 R} (h_least_mark : Ok_least_mark c_least_mark) : ShOk Tryd.prog glob raw 68 (sh68 c_least_mark) := by
  intro av es K r h
  unfold sh68 at h
  split at h
  · exact h_least_mark _ _ _ _ _ h
  · exact no_some h
theorem t_slices_Max_uint8_uint8 : textOk C_slices_Max_uint8_uint8.bef Tryd.prog 62 = true := by kernel_rfl
theorem sln_slices_Max_uint8_uint8_l5 {R : Type} : SlOk (R := R) C_slices_Max_uint8_uint8 62 25 0 5 (sl_slices_Max_uint8_uint8_l5 (fun _ _ _ _ => none)) := by
  intro vs es K r h
  unfold sl_slices_Max_uint8_uint8_l5 at h
  split at h <;> exact no_some h
theorem lok_slices_Max_uint8_uint8_l5 {R : Type} (kf : Nat) : ∀ n, SlOk (R := R) C_slices_Max_uint8_uint8 62 25 0 5 (sl_slices_Max_uint8_uint8_l5 (slices_Max_uint8_uint8_l5 kf n)) := by
  intro n
  induction n with
  | zero =>
    intro vs es K r h
    unfold sl_slices_Max_uint8_uint8_l5 at h
    split at h <;> exact no_some h
  | succ k ih =>
    have hcf : CfOk (R := R) Tryd.prog glob raw (cf_slices_Max_uint8_uint8 (slices_Max_uint8_uint8_l5 kf k)) := cf_nil
    have hlf : LfOk (R := R) C_slices_Max_uint8_uint8 62 (lf_slices_Max_uint8_uint8 (slices_Max_uint8_uint8_l5 kf k)) := (lf_top (lf_cons ih lf_nil))
    intro vs es K r h
    unfold sl_slices_Max_uint8_uint8_l5 at h
    split at h
    · exact loop_good (text_mixed t_slices_Max_uint8_uint8) hcf hlf (text_loop t_slices_Max_uint8_uint8 5).1 (text_loop t_slices_Max_uint8_uint8 5).2 ((eq_slices_Max_uint8_uint8_l5 (slices_Max_uint8_uint8_l5 kf k) _ _ _ K).trans h)
    · exact no_some h
theorem ok_slices_Max_uint8_uint8 {R : Type} (kf : Nat) : Ok_slices_Max_uint8_uint8 (R := R) (slices_Max_uint8_uint8 kf) := by
  have hcf : CfOk (R := R) Tryd.prog glob raw (cf_slices_Max_uint8_uint8 (slices_Max_uint8_uint8_l5 kf kf)) := cf_nil
  have hlf : LfOk (R := R) C_slices_Max_uint8_uint8 62 (lf_slices_Max_uint8_uint8 (slices_Max_uint8_uint8_l5 kf kf)) := (lf_top (lf_cons (lok_slices_Max_uint8_uint8_l5 kf kf) lf_nil))
  intro v1 K r h
  exact run_good t_slices_Max_uint8_uint8 hcf hlf ((eq_slices_Max_uint8_uint8 (slices_Max_uint8_uint8_l5 kf kf) v1 K).trans h)
theorem t_machine_classes : textOk C_machine_classes.bef Tryd.prog 44 = true := by kernel_rfl
theorem ok_machine_classes {R : Type} (kf : Nat) : Ok_machine_classes (R := R) (machine_classes kf) := by
  have hcf : CfOk (R := R) Tryd.prog glob raw (cf_machine_classes (slices_Max_uint8_uint8 kf)) := (cf_cons (shok_62 (ok_slices_Max_uint8_uint8 kf)) cf_nil)
  have hlf : LfOk (R := R) C_machine_classes 44 (lf_machine_classes (slices_Max_uint8_uint8 kf)) := lf_none
  intro v1 v2 v3 K r h
  exact run_good t_machine_classes hcf hlf ((eq_machine_classes (slices_Max_uint8_uint8 kf) v1 v2 v3 K).trans h)
theorem t_machine_May_1 : textOk C_machine_May_1.bef Tryd.prog 53 = true := by kernel_rfl
theorem ok_machine_May_1 {R : Type} : Ok_machine_May_1 (R := R) (machine_May_1) := by
  have hcf : CfOk (R := R) Tryd.prog glob raw (cf_machine_May_1) := cf_nil
  have hlf : LfOk (R := R) C_machine_May_1 53 (lf_machine_May_1) := lf_none
  intro v1 v2 K r h
  exact run_good t_machine_May_1 hcf hlf ((eq_machine_May_1 v1 v2 K).trans h)
theorem t_slices_IndexFunc_int_int_1 : textOk C_slices_IndexFunc_int_int_1.bef Tryd.prog 67 = true := by kernel_rfl
theorem sln_slices_IndexFunc_int_int_1_l2 {R : Type} : SlOk (R := R) C_slices_IndexFunc_int_int_1 67 19 1 2 (sl_slices_IndexFunc_int_int_1_l2 (fun _ _ _ _ _ _ => none)) := by
  intro vs es K r h
  unfold sl_slices_IndexFunc_int_int_1_l2 at h
  split at h <;> exact no_some h
theorem lok_slices_IndexFunc_int_int_1_l2 {R : Type} (kf : Nat) : ∀ n, SlOk (R := R) C_slices_IndexFunc_int_int_1 67 19 1 2 (sl_slices_IndexFunc_int_int_1_l2 (slices_IndexFunc_int_int_1_l2 kf n)) := by
  intro n
  induction n with
  | zero =>
    intro vs es K r h
    unfold sl_slices_IndexFunc_int_int_1_l2 at h
    split at h <;> exact no_some h
  | succ k ih =>
    have hcf : CfOk (R := R) Tryd.prog glob raw (cf_slices_IndexFunc_int_int_1 machine_May_1 (slices_IndexFunc_int_int_1_l2 kf k)) := (cf_cons (shok_53 ok_machine_May_1) cf_nil)
    have hlf : LfOk (R := R) C_slices_IndexFunc_int_int_1 67 (lf_slices_IndexFunc_int_int_1 machine_May_1 (slices_IndexFunc_int_int_1_l2 kf k)) := (lf_top (lf_cons ih lf_nil))
    intro vs es K r h
    unfold sl_slices_IndexFunc_int_int_1_l2 at h
    split at h
    · exact loop_good (text_mixed t_slices_IndexFunc_int_int_1) hcf hlf (text_loop t_slices_IndexFunc_int_int_1 2).1 (text_loop t_slices_IndexFunc_int_int_1 2).2 ((eq_slices_IndexFunc_int_int_1_l2 machine_May_1 (slices_IndexFunc_int_int_1_l2 kf k) _ _ _ _ K).trans h)
    · exact no_some h
theorem ok_slices_IndexFunc_int_int_1 {R : Type} (kf : Nat) : Ok_slices_IndexFunc_int_int_1 (R := R) (slices_IndexFunc_int_int_1 kf) := by
  have hcf : CfOk (R := R) Tryd.prog glob raw (cf_slices_IndexFunc_int_int_1 machine_May_1 (slices_IndexFunc_int_int_1_l2 kf kf)) := (cf_cons (shok_53 ok_machine_May_1) cf_nil)
  have hlf : LfOk (R := R) C_slices_IndexFunc_int_int_1 67 (lf_slices_IndexFunc_int_int_1 machine_May_1 (slices_IndexFunc_int_int_1_l2 kf kf)) := (lf_top (lf_cons (lok_slices_IndexFunc_int_int_1_l2 kf kf) lf_nil))
  intro v1 v2 K r h
  exact run_good t_slices_IndexFunc_int_int_1 hcf hlf ((eq_slices_IndexFunc_int_int_1 machine_May_1 (slices_IndexFunc_int_int_1_l2 kf kf) v1 v2 K).trans h)
theorem t_slices_ContainsFunc_int_int : textOk C_slices_ContainsFunc_int_int.bef Tryd.prog 52 = true := by kernel_rfl
theorem ok_slices_ContainsFunc_int_int {R : Type} (kf : Nat) : Ok_slices_ContainsFunc_int_int (R := R) (slices_ContainsFunc_int_int kf) := by
  have hcf : CfOk (R := R) Tryd.prog glob raw (cf_slices_ContainsFunc_int_int (slices_IndexFunc_int_int_1 kf)) := (cf_cons (shok_67 (ok_slices_IndexFunc_int_int_1 kf)) cf_nil)
  have hlf : LfOk (R := R) C_slices_ContainsFunc_int_int 52 (lf_slices_ContainsFunc_int_int (slices_IndexFunc_int_int_1 kf)) := lf_none
  intro v1 v2 K r h
  exact run_good t_slices_ContainsFunc_int_int hcf hlf ((eq_slices_ContainsFunc_int_int (slices_IndexFunc_int_int_1 kf) v1 v2 K).trans h)
theorem t_machine_May : textOk C_machine_May.bef Tryd.prog 41 = true := by kernel_rfl
theorem sln_machine_May_l6 {R : Type} : SlOk (R := R) C_machine_May 41 42 0 6 (sl_machine_May_l6 (fun _ _ _ _ _ _ _ => none)) := by
  intro vs es K r h
  unfold sl_machine_May_l6 at h
  split at h <;> exact no_some h
theorem lok_machine_May_l6 {R : Type} (kf : Nat) : ∀ n, SlOk (R := R) C_machine_May 41 42 0 6 (sl_machine_May_l6 (machine_May_l6 kf n)) := by
  intro n
  induction n with
  | zero =>
    intro vs es K r h
    unfold sl_machine_May_l6 at h
    split at h <;> exact no_some h
  | succ k ih =>
    have hcf : CfOk (R := R) Tryd.prog glob raw (cf_machine_May (machine_classes kf) (slices_ContainsFunc_int_int kf) (machine_May_l6 kf k)) := (cf_cons (shok_44 (ok_machine_classes kf)) (cf_cons (shok_52 (ok_slices_ContainsFunc_int_int kf)) cf_nil))
    have hlf : LfOk (R := R) C_machine_May 41 (lf_machine_May (machine_classes kf) (slices_ContainsFunc_int_int kf) (machine_May_l6 kf k)) := (lf_top (lf_cons ih lf_nil))
    intro vs es K r h
    unfold sl_machine_May_l6 at h
    split at h
    · exact loop_good (text_mixed t_machine_May) hcf hlf (text_loop t_machine_May 6).1 (text_loop t_machine_May 6).2 ((eq_machine_May_l6 (machine_classes kf) (slices_ContainsFunc_int_int kf) (machine_May_l6 kf k) _ _ _ _ _ K).trans h)
    · exact no_some h
theorem ok_machine_May {R : Type} (kf : Nat) : Ok_machine_May (R := R) (machine_May kf) := by
  have hcf : CfOk (R := R) Tryd.prog glob raw (cf_machine_May (machine_classes kf) (slices_ContainsFunc_int_int kf) (machine_May_l6 kf kf)) := (cf_cons (shok_44 (ok_machine_classes kf)) (cf_cons (shok_52 (ok_slices_ContainsFunc_int_int kf)) cf_nil))
  have hlf : LfOk (R := R) C_machine_May 41 (lf_machine_May (machine_classes kf) (slices_ContainsFunc_int_int kf) (machine_May_l6 kf kf)) := (lf_top (lf_cons (lok_machine_May_l6 kf kf) lf_nil))
  intro v1 v2 v3 K r h
  exact run_good t_machine_May hcf hlf ((eq_machine_May (machine_classes kf) (slices_ContainsFunc_int_int kf) (machine_May_l6 kf kf) v1 v2 v3 K).trans h)
theorem t_least_mark : textOk C_least_mark.bef Tryd.prog 68 = true := by kernel_rfl
theorem sln_least_mark_l3 {R : Type} : SlOk (R := R) C_least_mark 68 39 0 3 (sl_least_mark_l3 (fun _ _ _ _ _ _ => none)) := by
  intro vs es K r h
  unfold sl_least_mark_l3 at h
  split at h <;> exact no_some h
theorem lok_least_mark_l3 {R : Type} (kf : Nat) : ∀ n, SlOk (R := R) C_least_mark 68 39 0 3 (sl_least_mark_l3 (least_mark_l3 kf n)) := by
  intro n
  induction n with
  | zero =>
    intro vs es K r h
    unfold sl_least_mark_l3 at h
    split at h <;> exact no_some h
  | succ k ih =>
    have hcf : CfOk (R := R) Tryd.prog glob raw (cf_least_mark (least_mark_l3 kf k)) := cf_nil
    have hlf : LfOk (R := R) C_least_mark 68 (lf_least_mark (least_mark_l3 kf k)) := (lf_top (lf_cons ih lf_nil))
    intro vs es K r h
    unfold sl_least_mark_l3 at h
    split at h
    · exact loop_good (text_mixed t_least_mark) hcf hlf (text_loop t_least_mark 3).1 (text_loop t_least_mark 3).2 ((eq_least_mark_l3 (least_mark_l3 kf k) _ _ _ _ _ K).trans h)
    · exact no_some h
theorem ok_least_mark {R : Type} (kf : Nat) : Ok_least_mark (R := R) (least_mark kf) := by
  have hcf : CfOk (R := R) Tryd.prog glob raw (cf_least_mark (least_mark_l3 kf kf)) := cf_nil
  have hlf : LfOk (R := R) C_least_mark 68 (lf_least_mark (least_mark_l3 kf kf)) := (lf_top (lf_cons (lok_least_mark_l3 kf kf) lf_nil))
  intro v1 v2 v3 K r h
  exact run_good t_least_mark hcf hlf ((eq_least_mark (least_mark_l3 kf kf) v1 v2 v3 K).trans h)
theorem t_least_parts : textOk C_least_parts.bef Tryd.prog 58 = true := by kernel_rfl
theorem sln_least_parts_l4 {R : Type} : SlOk (R := R) C_least_parts 58 81 0 4 (sl_least_parts_l4 (fun _ _ _ _ _ _ _ _ _ => none)) := by
  intro vs es K r h
  unfold sl_least_parts_l4 at h
  split at h <;> exact no_some h
theorem sln_least_parts_l9 {R : Type} : SlOk (R := R) C_least_parts 58 81 0 9 (sl_least_parts_l9 (fun _ _ _ _ _ _ => none)) := by
  intro vs es K r h
  unfold sl_least_parts_l9 at h
  split at h <;> exact no_some h
theorem sln_least_parts_l12 {R : Type} : SlOk (R := R) C_least_parts 58 81 0 12 (sl_least_parts_l12 (fun _ _ _ _ _ _ _ _ _ _ _ => none)) := by
  intro vs es K r h
  unfold sl_least_parts_l12 at h
  split at h <;> exact no_some h
theorem lok_least_parts_l4 {R : Type} (kf : Nat) : ∀ n, SlOk (R := R) C_least_parts 58 81 0 4 (sl_least_parts_l4 (least_parts_l4 kf n)) := by
  intro n
  induction n with
  | zero =>
    intro vs es K r h
    unfold sl_least_parts_l4 at h
    split at h <;> exact no_some h
  | succ k ih =>
    have hcf : CfOk (R := R) Tryd.prog glob raw (cf_least_parts (least_mark kf) (least_parts_l4 kf k) (fun _ _ _ _ _ _ => none) (fun _ _ _ _ _ _ _ _ _ _ _ => none)) := (cf_cons (shok_68 (ok_least_mark kf)) cf_nil)
    have hlf : LfOk (R := R) C_least_parts 58 (lf_least_parts (least_mark kf) (least_parts_l4 kf k) (fun _ _ _ _ _ _ => none) (fun _ _ _ _ _ _ _ _ _ _ _ => none)) := (lf_top (lf_cons ih (lf_cons (sln_least_parts_l9) (lf_cons (sln_least_parts_l12) lf_nil))))
    intro vs es K r h
    unfold sl_least_parts_l4 at h
    split at h
    · exact loop_good (text_mixed t_least_parts) hcf hlf (text_loop t_least_parts 4).1 (text_loop t_least_parts 4).2 ((eq_least_parts_l4 (least_mark kf) (least_parts_l4 kf k) (fun _ _ _ _ _ _ => none) (fun _ _ _ _ _ _ _ _ _ _ _ => none) _ _ _ _ _ _ _ _ K).trans h)
    · exact no_some h
theorem lok_least_parts_l12 {R : Type} (kf : Nat) : ∀ n, SlOk (R := R) C_least_parts 58 81 0 12 (sl_least_parts_l12 (least_parts_l12 kf n)) := by
  intro n
  induction n with
  | zero =>
    intro vs es K r h
    unfold sl_least_parts_l12 at h
    split at h <;> exact no_some h
  | succ k ih =>
    have hcf : CfOk (R := R) Tryd.prog glob raw (cf_least_parts (least_mark kf) (least_parts_l4 kf k) (fun _ _ _ _ _ _ => none) (least_parts_l12 kf k)) := (cf_cons (shok_68 (ok_least_mark kf)) cf_nil)
    have hlf : LfOk (R := R) C_least_parts 58 (lf_least_parts (least_mark kf) (least_parts_l4 kf k) (fun _ _ _ _ _ _ => none) (least_parts_l12 kf k)) := (lf_top (lf_cons (lok_least_parts_l4 kf k) (lf_cons (sln_least_parts_l9) (lf_cons ih lf_nil))))
    intro vs es K r h
    unfold sl_least_parts_l12 at h
    split at h
    · exact loop_good (text_mixed t_least_parts) hcf hlf (text_loop t_least_parts 12).1 (text_loop t_least_parts 12).2 ((eq_least_parts_l12 (least_mark kf) (least_parts_l4 kf k) (fun _ _ _ _ _ _ => none) (least_parts_l12 kf k) _ _ _ _ _ _ _ _ _ _ K).trans h)
    · exact no_some h
theorem lok_least_parts_l9 {R : Type} (kf : Nat) : ∀ n, SlOk (R := R) C_least_parts 58 81 0 9 (sl_least_parts_l9 (least_parts_l9 kf n)) := by
  intro n
  induction n with
  | zero =>
    intro vs es K r h
    unfold sl_least_parts_l9 at h
    split at h <;> exact no_some h
  | succ k ih =>
    have hcf : CfOk (R := R) Tryd.prog glob raw (cf_least_parts (least_mark kf) (least_parts_l4 kf k) (least_parts_l9 kf k) (least_parts_l12 kf k)) := (cf_cons (shok_68 (ok_least_mark kf)) cf_nil)
    have hlf : LfOk (R := R) C_least_parts 58 (lf_least_parts (least_mark kf) (least_parts_l4 kf k) (least_parts_l9 kf k) (least_parts_l12 kf k)) := (lf_top (lf_cons (lok_least_parts_l4 kf k) (lf_cons ih (lf_cons (lok_least_parts_l12 kf k) lf_nil))))
    intro vs es K r h
    unfold sl_least_parts_l9 at h
    split at h
    · exact loop_good (text_mixed t_least_parts) hcf hlf (text_loop t_least_parts 9).1 (text_loop t_least_parts 9).2 ((eq_least_parts_l9 (least_mark kf) (least_parts_l4 kf k) (least_parts_l9 kf k) (least_parts_l12 kf k) _ _ _ _ _ K).trans h)
    · exact no_some h
theorem ok_least_parts {R : Type} (kf : Nat) : Ok_least_parts (R := R) (least_parts kf) := by
  have hcf : CfOk (R := R) Tryd.prog glob raw (cf_least_parts (least_mark kf) (least_parts_l4 kf kf) (least_parts_l9 kf kf) (least_parts_l12 kf kf)) := (cf_cons (shok_68 (ok_least_mark kf)) cf_nil)
  have hlf : LfOk (R := R) C_least_parts 58 (lf_least_parts (least_mark kf) (least_parts_l4 kf kf) (least_parts_l9 kf kf) (least_parts_l12 kf kf)) := (lf_top (lf_cons (lok_least_parts_l4 kf kf) (lf_cons (lok_least_parts_l9 kf kf) (lf_cons (lok_least_parts_l12 kf kf) lf_nil))))
  intro v1 v2 v3 K r h
  exact run_good t_least_parts hcf hlf ((eq_least_parts (least_mark kf) (least_parts_l4 kf kf) (least_parts_l9 kf kf) (least_parts_l12 kf kf) v1 v2 v3 K).trans h)
theorem t_least_order : textOk C_least_order.bef Tryd.prog 59 = true := by kernel_rfl
theorem sln_least_order_l4 {R : Type} : SlOk (R := R) C_least_order 59 65 0 4 (sl_least_order_l4 (fun _ _ _ _ _ _ _ _ => none)) := by
  intro vs es K r h
  unfold sl_least_order_l4 at h
  split at h <;> exact no_some h
theorem sln_least_order_l7 {R : Type} : SlOk (R := R) C_least_order 59 65 0 7 (sl_least_order_l7 (fun _ _ _ _ _ _ _ _ _ => none)) := by
  intro vs es K r h
  unfold sl_least_order_l7 at h
  split at h <;> exact no_some h
theorem lok_least_order_l7 {R : Type} (kf : Nat) : ∀ n, SlOk (R := R) C_least_order 59 65 0 7 (sl_least_order_l7 (least_order_l7 kf n)) := by
  intro n
  induction n with
  | zero =>
    intro vs es K r h
    unfold sl_least_order_l7 at h
    split at h <;> exact no_some h
  | succ k ih =>
    have hcf : CfOk (R := R) Tryd.prog glob raw (cf_least_order (fun _ _ _ _ _ _ _ _ => none) (least_order_l7 kf k)) := cf_nil
    have hlf : LfOk (R := R) C_least_order 59 (lf_least_order (fun _ _ _ _ _ _ _ _ => none) (least_order_l7 kf k)) := (lf_top (lf_cons (sln_least_order_l4) (lf_cons ih lf_nil)))
    intro vs es K r h
    unfold sl_least_order_l7 at h
    split at h
    · exact loop_good (text_mixed t_least_order) hcf hlf (text_loop t_least_order 7).1 (text_loop t_least_order 7).2 ((eq_least_order_l7 (fun _ _ _ _ _ _ _ _ => none) (least_order_l7 kf k) _ _ _ _ _ _ _ _ K).trans h)
    · exact no_some h
theorem lok_least_order_l4 {R : Type} (kf : Nat) : ∀ n, SlOk (R := R) C_least_order 59 65 0 4 (sl_least_order_l4 (least_order_l4 kf n)) := by
  intro n
  induction n with
  | zero =>
    intro vs es K r h
    unfold sl_least_order_l4 at h
    split at h <;> exact no_some h
  | succ k ih =>
    have hcf : CfOk (R := R) Tryd.prog glob raw (cf_least_order (least_order_l4 kf k) (least_order_l7 kf k)) := cf_nil
    have hlf : LfOk (R := R) C_least_order 59 (lf_least_order (least_order_l4 kf k) (least_order_l7 kf k)) := (lf_top (lf_cons ih (lf_cons (lok_least_order_l7 kf k) lf_nil)))
    intro vs es K r h
    unfold sl_least_order_l4 at h
    split at h
    · exact loop_good (text_mixed t_least_order) hcf hlf (text_loop t_least_order 4).1 (text_loop t_least_order 4).2 ((eq_least_order_l4 (least_order_l4 kf k) (least_order_l7 kf k) _ _ _ _ _ _ _ K).trans h)
    · exact no_some h
theorem ok_least_order {R : Type} (kf : Nat) : Ok_least_order (R := R) (least_order kf) := by
  have hcf : CfOk (R := R) Tryd.prog glob raw (cf_least_order (least_order_l4 kf kf) (least_order_l7 kf kf)) := cf_nil
  have hlf : LfOk (R := R) C_least_order 59 (lf_least_order (least_order_l4 kf kf) (least_order_l7 kf kf)) := (lf_top (lf_cons (lok_least_order_l4 kf kf) (lf_cons (lok_least_order_l7 kf kf) lf_nil)))
  intro v1 v2 v3 v4 K r h
  exact run_good t_least_order hcf hlf ((eq_least_order (least_order_l4 kf kf) (least_order_l7 kf kf) v1 v2 v3 v4 K).trans h)
theorem t_slices_Equal_int_int : textOk C_slices_Equal_int_int.bef Tryd.prog 57 = true := by kernel_rfl
theorem sln_slices_Equal_int_int_l4 {R : Type} : SlOk (R := R) C_slices_Equal_int_int 57 26 0 4 (sl_slices_Equal_int_int_l4 (fun _ _ _ _ _ _ => none)) := by
  intro vs es K r h
  unfold sl_slices_Equal_int_int_l4 at h
  split at h <;> exact no_some h
theorem lok_slices_Equal_int_int_l4 {R : Type} (kf : Nat) : ∀ n, SlOk (R := R) C_slices_Equal_int_int 57 26 0 4 (sl_slices_Equal_int_int_l4 (slices_Equal_int_int_l4 kf n)) := by
  intro n
  induction n with
  | zero =>
    intro vs es K r h
    unfold sl_slices_Equal_int_int_l4 at h
    split at h <;> exact no_some h
  | succ k ih =>
    have hcf : CfOk (R := R) Tryd.prog glob raw (cf_slices_Equal_int_int (slices_Equal_int_int_l4 kf k)) := cf_nil
    have hlf : LfOk (R := R) C_slices_Equal_int_int 57 (lf_slices_Equal_int_int (slices_Equal_int_int_l4 kf k)) := (lf_top (lf_cons ih lf_nil))
    intro vs es K r h
    unfold sl_slices_Equal_int_int_l4 at h
    split at h
    · exact loop_good (text_mixed t_slices_Equal_int_int) hcf hlf (text_loop t_slices_Equal_int_int 4).1 (text_loop t_slices_Equal_int_int 4).2 ((eq_slices_Equal_int_int_l4 (slices_Equal_int_int_l4 kf k) _ _ _ _ K).trans h)
    · exact no_some h
theorem ok_slices_Equal_int_int {R : Type} (kf : Nat) : Ok_slices_Equal_int_int (R := R) (slices_Equal_int_int kf) := by
  have hcf : CfOk (R := R) Tryd.prog glob raw (cf_slices_Equal_int_int (slices_Equal_int_int_l4 kf kf)) := cf_nil
  have hlf : LfOk (R := R) C_slices_Equal_int_int 57 (lf_slices_Equal_int_int (slices_Equal_int_int_l4 kf kf)) := (lf_top (lf_cons (lok_slices_Equal_int_int_l4 kf kf) lf_nil))
  intro v1 v2 K r h
  exact run_good t_slices_Equal_int_int hcf hlf ((eq_slices_Equal_int_int (slices_Equal_int_int_l4 kf kf) v1 v2 K).trans h)
theorem t_least_Least_1 : textOk C_least_Least_1.bef Tryd.prog 61 = true := by kernel_rfl
theorem ok_least_Least_1 {R : Type} (kf : Nat) : Ok_least_Least_1 (R := R) (least_Least_1 kf) := by
  have hcf : CfOk (R := R) Tryd.prog glob raw (cf_least_Least_1 (slices_Equal_int_int kf)) := (cf_cons (shok_57 (ok_slices_Equal_int_int kf)) cf_nil)
  have hlf : LfOk (R := R) C_least_Least_1 61 (lf_least_Least_1 (slices_Equal_int_int kf)) := lf_none
  intro v1 v2 K r h
  exact run_good t_least_Least_1 hcf hlf ((eq_least_Least_1 (slices_Equal_int_int kf) v1 v2 K).trans h)
theorem t_slices_IndexFunc_int_int : textOk C_slices_IndexFunc_int_int.bef Tryd.prog 60 = true := by kernel_rfl
theorem sln_slices_IndexFunc_int_int_l2 {R : Type} : SlOk (R := R) C_slices_IndexFunc_int_int 60 19 1 2 (sl_slices_IndexFunc_int_int_l2 (fun _ _ _ _ _ _ => none)) := by
  intro vs es K r h
  unfold sl_slices_IndexFunc_int_int_l2 at h
  split at h <;> exact no_some h
theorem lok_slices_IndexFunc_int_int_l2 {R : Type} (kf : Nat) : ∀ n, SlOk (R := R) C_slices_IndexFunc_int_int 60 19 1 2 (sl_slices_IndexFunc_int_int_l2 (slices_IndexFunc_int_int_l2 kf n)) := by
  intro n
  induction n with
  | zero =>
    intro vs es K r h
    unfold sl_slices_IndexFunc_int_int_l2 at h
    split at h <;> exact no_some h
  | succ k ih =>
    have hcf : CfOk (R := R) Tryd.prog glob raw (cf_slices_IndexFunc_int_int (least_Least_1 kf) (slices_IndexFunc_int_int_l2 kf k)) := (cf_cons (shok_61 (ok_least_Least_1 kf)) cf_nil)
    have hlf : LfOk (R := R) C_slices_IndexFunc_int_int 60 (lf_slices_IndexFunc_int_int (least_Least_1 kf) (slices_IndexFunc_int_int_l2 kf k)) := (lf_top (lf_cons ih lf_nil))
    intro vs es K r h
    unfold sl_slices_IndexFunc_int_int_l2 at h
    split at h
    · exact loop_good (text_mixed t_slices_IndexFunc_int_int) hcf hlf (text_loop t_slices_IndexFunc_int_int 2).1 (text_loop t_slices_IndexFunc_int_int 2).2 ((eq_slices_IndexFunc_int_int_l2 (least_Least_1 kf) (slices_IndexFunc_int_int_l2 kf k) _ _ _ _ K).trans h)
    · exact no_some h
theorem ok_slices_IndexFunc_int_int {R : Type} (kf : Nat) : Ok_slices_IndexFunc_int_int (R := R) (slices_IndexFunc_int_int kf) := by
  have hcf : CfOk (R := R) Tryd.prog glob raw (cf_slices_IndexFunc_int_int (least_Least_1 kf) (slices_IndexFunc_int_int_l2 kf kf)) := (cf_cons (shok_61 (ok_least_Least_1 kf)) cf_nil)
  have hlf : LfOk (R := R) C_slices_IndexFunc_int_int 60 (lf_slices_IndexFunc_int_int (least_Least_1 kf) (slices_IndexFunc_int_int_l2 kf kf)) := (lf_top (lf_cons (lok_slices_IndexFunc_int_int_l2 kf kf) lf_nil))
  intro v1 v2 K r h
  exact run_good t_slices_IndexFunc_int_int hcf hlf ((eq_slices_IndexFunc_int_int (least_Least_1 kf) (slices_IndexFunc_int_int_l2 kf kf) v1 v2 K).trans h)
theorem t_least_Least : textOk C_least_Least.bef Tryd.prog 43 = true := by kernel_rfl
theorem sln_least_Least_l8 {R : Type} : SlOk (R := R) C_least_Least 43 115 0 8 (sl_least_Least_l8 (fun _ _ _ _ _ _ _ _ _ _ _ _ _ _ _ => none)) := by
  intro vs es K r h
  unfold sl_least_Least_l8 at h
  split at h <;> exact no_some h
theorem sln_least_Least_l12 {R : Type} : SlOk (R := R) C_least_Least 43 115 0 12 (sl_least_Least_l12 (fun _ _ _ _ _ _ _ _ _ _ _ _ _ _ _ _ _ _ _ => none)) := by
  intro vs es K r h
  unfold sl_least_Least_l12 at h
  split at h <;> exact no_some h
theorem sln_least_Least_l23 {R : Type} : SlOk (R := R) C_least_Least 43 115 0 23 (sl_least_Least_l23 (fun _ _ _ _ _ _ _ _ _ _ _ _ _ _ => none)) := by
  intro vs es K r h
  unfold sl_least_Least_l23 at h
  split at h <;> exact no_some h
theorem sln_least_Least_l27 {R : Type} : SlOk (R := R) C_least_Least 43 115 0 27 (sl_least_Least_l27 (fun _ _ _ _ _ _ _ _ _ _ _ _ _ _ _ _ _ _ _ => none)) := by
  intro vs es K r h
  unfold sl_least_Least_l27 at h
  split at h <;> exact no_some h
theorem lok_least_Least_l12 {R : Type} (kf : Nat) : ∀ n, SlOk (R := R) C_least_Least 43 115 0 12 (sl_least_Least_l12 (least_Least_l12 kf n)) := by
  intro n
  induction n with
  | zero =>
    intro vs es K r h
    unfold sl_least_Least_l12 at h
    split at h <;> exact no_some h
  | succ k ih =>
    have hcf : CfOk (R := R) Tryd.prog glob raw (cf_least_Least (machine_May kf) (least_parts kf) (least_order kf) (slices_IndexFunc_int_int kf) (fun _ _ _ _ _ _ _ _ _ _ _ _ _ _ _ => none) (least_Least_l12 kf k) (fun _ _ _ _ _ _ _ _ _ _ _ _ _ _ => none) (fun _ _ _ _ _ _ _ _ _ _ _ _ _ _ _ _ _ _ _ => none)) := (cf_cons (shok_41 (ok_machine_May kf)) (cf_cons (shok_58 (ok_least_parts kf)) (cf_cons (shok_59 (ok_least_order kf)) (cf_cons (shok_60 (ok_slices_IndexFunc_int_int kf)) cf_nil))))
    have hlf : LfOk (R := R) C_least_Least 43 (lf_least_Least (machine_May kf) (least_parts kf) (least_order kf) (slices_IndexFunc_int_int kf) (fun _ _ _ _ _ _ _ _ _ _ _ _ _ _ _ => none) (least_Least_l12 kf k) (fun _ _ _ _ _ _ _ _ _ _ _ _ _ _ => none) (fun _ _ _ _ _ _ _ _ _ _ _ _ _ _ _ _ _ _ _ => none)) := (lf_top (lf_cons (sln_least_Least_l8) (lf_cons ih (lf_cons (sln_least_Least_l23) (lf_cons (sln_least_Least_l27) lf_nil)))))
    intro vs es K r h
    unfold sl_least_Least_l12 at h
    split at h
    · exact loop_good (text_mixed t_least_Least) hcf hlf (text_loop t_least_Least 12).1 (text_loop t_least_Least 12).2 ((eq_least_Least_l12 (machine_May kf) (least_parts kf) (least_order kf) (slices_IndexFunc_int_int kf) (fun _ _ _ _ _ _ _ _ _ _ _ _ _ _ _ => none) (least_Least_l12 kf k) (fun _ _ _ _ _ _ _ _ _ _ _ _ _ _ => none) (fun _ _ _ _ _ _ _ _ _ _ _ _ _ _ _ _ _ _ _ => none) _ _ _ _ _ _ _ _ _ _ _ _ _ _ _ _ _ _ K).trans h)
    · exact no_some h
theorem lok_least_Least_l8 {R : Type} (kf : Nat) : ∀ n, SlOk (R := R) C_least_Least 43 115 0 8 (sl_least_Least_l8 (least_Least_l8 kf n)) := by
  intro n
  induction n with
  | zero =>
    intro vs es K r h
    unfold sl_least_Least_l8 at h
    split at h <;> exact no_some h
  | succ k ih =>
    have hcf : CfOk (R := R) Tryd.prog glob raw (cf_least_Least (machine_May kf) (least_parts kf) (least_order kf) (slices_IndexFunc_int_int kf) (least_Least_l8 kf k) (least_Least_l12 kf k) (fun _ _ _ _ _ _ _ _ _ _ _ _ _ _ => none) (fun _ _ _ _ _ _ _ _ _ _ _ _ _ _ _ _ _ _ _ => none)) := (cf_cons (shok_41 (ok_machine_May kf)) (cf_cons (shok_58 (ok_least_parts kf)) (cf_cons (shok_59 (ok_least_order kf)) (cf_cons (shok_60 (ok_slices_IndexFunc_int_int kf)) cf_nil))))
    have hlf : LfOk (R := R) C_least_Least 43 (lf_least_Least (machine_May kf) (least_parts kf) (least_order kf) (slices_IndexFunc_int_int kf) (least_Least_l8 kf k) (least_Least_l12 kf k) (fun _ _ _ _ _ _ _ _ _ _ _ _ _ _ => none) (fun _ _ _ _ _ _ _ _ _ _ _ _ _ _ _ _ _ _ _ => none)) := (lf_top (lf_cons ih (lf_cons (lok_least_Least_l12 kf k) (lf_cons (sln_least_Least_l23) (lf_cons (sln_least_Least_l27) lf_nil)))))
    intro vs es K r h
    unfold sl_least_Least_l8 at h
    split at h
    · exact loop_good (text_mixed t_least_Least) hcf hlf (text_loop t_least_Least 8).1 (text_loop t_least_Least 8).2 ((eq_least_Least_l8 (machine_May kf) (least_parts kf) (least_order kf) (slices_IndexFunc_int_int kf) (least_Least_l8 kf k) (least_Least_l12 kf k) (fun _ _ _ _ _ _ _ _ _ _ _ _ _ _ => none) (fun _ _ _ _ _ _ _ _ _ _ _ _ _ _ _ _ _ _ _ => none) _ _ _ _ _ _ _ _ _ _ _ _ _ _ K).trans h)
    · exact no_some h
theorem lok_least_Least_l27 {R : Type} (kf : Nat) : ∀ n, SlOk (R := R) C_least_Least 43 115 0 27 (sl_least_Least_l27 (least_Least_l27 kf n)) := by
  intro n
  induction n with
  | zero =>
    intro vs es K r h
    unfold sl_least_Least_l27 at h
    split at h <;> exact no_some h
  | succ k ih =>
    have hcf : CfOk (R := R) Tryd.prog glob raw (cf_least_Least (machine_May kf) (least_parts kf) (least_order kf) (slices_IndexFunc_int_int kf) (least_Least_l8 kf k) (least_Least_l12 kf k) (fun _ _ _ _ _ _ _ _ _ _ _ _ _ _ => none) (least_Least_l27 kf k)) := (cf_cons (shok_41 (ok_machine_May kf)) (cf_cons (shok_58 (ok_least_parts kf)) (cf_cons (shok_59 (ok_least_order kf)) (cf_cons (shok_60 (ok_slices_IndexFunc_int_int kf)) cf_nil))))
    have hlf : LfOk (R := R) C_least_Least 43 (lf_least_Least (machine_May kf) (least_parts kf) (least_order kf) (slices_IndexFunc_int_int kf) (least_Least_l8 kf k) (least_Least_l12 kf k) (fun _ _ _ _ _ _ _ _ _ _ _ _ _ _ => none) (least_Least_l27 kf k)) := (lf_top (lf_cons (lok_least_Least_l8 kf k) (lf_cons (lok_least_Least_l12 kf k) (lf_cons (sln_least_Least_l23) (lf_cons ih lf_nil)))))
    intro vs es K r h
    unfold sl_least_Least_l27 at h
    split at h
    · exact loop_good (text_mixed t_least_Least) hcf hlf (text_loop t_least_Least 27).1 (text_loop t_least_Least 27).2 ((eq_least_Least_l27 (machine_May kf) (least_parts kf) (least_order kf) (slices_IndexFunc_int_int kf) (least_Least_l8 kf k) (least_Least_l12 kf k) (fun _ _ _ _ _ _ _ _ _ _ _ _ _ _ => none) (least_Least_l27 kf k) _ _ _ _ _ _ _ _ _ _ _ _ _ _ _ _ _ _ K).trans h)
    · exact no_some h
theorem lok_least_Least_l23 {R : Type} (kf : Nat) : ∀ n, SlOk (R := R) C_least_Least 43 115 0 23 (sl_least_Least_l23 (least_Least_l23 kf n)) := by
  intro n
  induction n with
  | zero =>
    intro vs es K r h
    unfold sl_least_Least_l23 at h
    split at h <;> exact no_some h
  | succ k ih =>
    have hcf : CfOk (R := R) Tryd.prog glob raw (cf_least_Least (machine_May kf) (least_parts kf) (least_order kf) (slices_IndexFunc_int_int kf) (least_Least_l8 kf k) (least_Least_l12 kf k) (least_Least_l23 kf k) (least_Least_l27 kf k)) := (cf_cons (shok_41 (ok_machine_May kf)) (cf_cons (shok_58 (ok_least_parts kf)) (cf_cons (shok_59 (ok_least_order kf)) (cf_cons (shok_60 (ok_slices_IndexFunc_int_int kf)) cf_nil))))
    have hlf : LfOk (R := R) C_least_Least 43 (lf_least_Least (machine_May kf) (least_parts kf) (least_order kf) (slices_IndexFunc_int_int kf) (least_Least_l8 kf k) (least_Least_l12 kf k) (least_Least_l23 kf k) (least_Least_l27 kf k)) := (lf_top (lf_cons (lok_least_Least_l8 kf k) (lf_cons (lok_least_Least_l12 kf k) (lf_cons ih (lf_cons (lok_least_Least_l27 kf k) lf_nil)))))
    intro vs es K r h
    unfold sl_least_Least_l23 at h
    split at h
    · exact loop_good (text_mixed t_least_Least) hcf hlf (text_loop t_least_Least 23).1 (text_loop t_least_Least 23).2 ((eq_least_Least_l23 (machine_May kf) (least_parts kf) (least_order kf) (slices_IndexFunc_int_int kf) (least_Least_l8 kf k) (least_Least_l12 kf k) (least_Least_l23 kf k) (least_Least_l27 kf k) _ _ _ _ _ _ _ _ _ _ _ _ _ K).trans h)
    · exact no_some h
theorem ok_least_Least {R : Type} (kf : Nat) : Ok_least_Least (R := R) (least_Least kf) := by
  have hcf : CfOk (R := R) Tryd.prog glob raw (cf_least_Least (machine_May kf) (least_parts kf) (least_order kf) (slices_IndexFunc_int_int kf) (least_Least_l8 kf kf) (least_Least_l12 kf kf) (least_Least_l23 kf kf) (least_Least_l27 kf kf)) := (cf_cons (shok_41 (ok_machine_May kf)) (cf_cons (shok_58 (ok_least_parts kf)) (cf_cons (shok_59 (ok_least_order kf)) (cf_cons (shok_60 (ok_slices_IndexFunc_int_int kf)) cf_nil))))
  have hlf : LfOk (R := R) C_least_Least 43 (lf_least_Least (machine_May kf) (least_parts kf) (least_order kf) (slices_IndexFunc_int_int kf) (least_Least_l8 kf kf) (least_Least_l12 kf kf) (least_Least_l23 kf kf) (least_Least_l27 kf kf)) := (lf_top (lf_cons (lok_least_Least_l8 kf kf) (lf_cons (lok_least_Least_l12 kf kf) (lf_cons (lok_least_Least_l23 kf kf) (lf_cons (lok_least_Least_l27 kf kf) lf_nil)))))
  intro v1 v2 v3 K r h
  exact run_good t_least_Least hcf hlf ((eq_least_Least (machine_May kf) (least_parts kf) (least_order kf) (slices_IndexFunc_int_int kf) (least_Least_l8 kf kf) (least_Least_l12 kf kf) (least_Least_l23 kf kf) (least_Least_l27 kf kf) v1 v2 v3 K).trans h)
theorem t_slices_Equal_bool_bool : textOk C_slices_Equal_bool_bool.bef Tryd.prog 54 = true := by kernel_rfl
theorem sln_slices_Equal_bool_bool_l4 {R : Type} : SlOk (R := R) C_slices_Equal_bool_bool 54 26 0 4 (sl_slices_Equal_bool_bool_l4 (fun _ _ _ _ _ _ => none)) := by
  intro vs es K r h
  unfold sl_slices_Equal_bool_bool_l4 at h
  split at h <;> exact no_some h
theorem lok_slices_Equal_bool_bool_l4 {R : Type} (kf : Nat) : ∀ n, SlOk (R := R) C_slices_Equal_bool_bool 54 26 0 4 (sl_slices_Equal_bool_bool_l4 (slices_Equal_bool_bool_l4 kf n)) := by
  intro n
  induction n with
  | zero =>
    intro vs es K r h
    unfold sl_slices_Equal_bool_bool_l4 at h
    split at h <;> exact no_some h
  | succ k ih =>
    have hcf : CfOk (R := R) Tryd.prog glob raw (cf_slices_Equal_bool_bool (slices_Equal_bool_bool_l4 kf k)) := cf_nil
    have hlf : LfOk (R := R) C_slices_Equal_bool_bool 54 (lf_slices_Equal_bool_bool (slices_Equal_bool_bool_l4 kf k)) := (lf_top (lf_cons ih lf_nil))
    intro vs es K r h
    unfold sl_slices_Equal_bool_bool_l4 at h
    split at h
    · exact loop_good (text_mixed t_slices_Equal_bool_bool) hcf hlf (text_loop t_slices_Equal_bool_bool 4).1 (text_loop t_slices_Equal_bool_bool 4).2 ((eq_slices_Equal_bool_bool_l4 (slices_Equal_bool_bool_l4 kf k) _ _ _ _ K).trans h)
    · exact no_some h
theorem ok_slices_Equal_bool_bool {R : Type} (kf : Nat) : Ok_slices_Equal_bool_bool (R := R) (slices_Equal_bool_bool kf) := by
  have hcf : CfOk (R := R) Tryd.prog glob raw (cf_slices_Equal_bool_bool (slices_Equal_bool_bool_l4 kf kf)) := cf_nil
  have hlf : LfOk (R := R) C_slices_Equal_bool_bool 54 (lf_slices_Equal_bool_bool (slices_Equal_bool_bool_l4 kf kf)) := (lf_top (lf_cons (lok_slices_Equal_bool_bool_l4 kf kf) lf_nil))
  intro v1 v2 K r h
  exact run_good t_slices_Equal_bool_bool hcf hlf ((eq_slices_Equal_bool_bool (slices_Equal_bool_bool_l4 kf kf) v1 v2 K).trans h)
theorem t_machine_Same_1 : textOk C_machine_Same_1.bef Tryd.prog 56 = true := by kernel_rfl
theorem ok_machine_Same_1 {R : Type} (kf : Nat) : Ok_machine_Same_1 (R := R) (machine_Same_1 kf) := by
  have hcf : CfOk (R := R) Tryd.prog glob raw (cf_machine_Same_1 (slices_Equal_int_int kf)) := (cf_cons (shok_57 (ok_slices_Equal_int_int kf)) cf_nil)
  have hlf : LfOk (R := R) C_machine_Same_1 56 (lf_machine_Same_1 (slices_Equal_int_int kf)) := lf_none
  intro v1 v2 K r h
  exact run_good t_machine_Same_1 hcf hlf ((eq_machine_Same_1 (slices_Equal_int_int kf) v1 v2 K).trans h)
theorem t_slices_EqualFunc_int_int_int_int : textOk C_slices_EqualFunc_int_int_int_int.bef Tryd.prog 55 = true := by kernel_rfl
theorem sln_slices_EqualFunc_int_int_int_int_l4 {R : Type} : SlOk (R := R) C_slices_EqualFunc_int_int_int_int 55 32 0 4 (sl_slices_EqualFunc_int_int_int_int_l4 (fun _ _ _ _ _ _ => none)) := by
  intro vs es K r h
  unfold sl_slices_EqualFunc_int_int_int_int_l4 at h
  split at h <;> exact no_some h
theorem lok_slices_EqualFunc_int_int_int_int_l4 {R : Type} (kf : Nat) : ∀ n, SlOk (R := R) C_slices_EqualFunc_int_int_int_int 55 32 0 4 (sl_slices_EqualFunc_int_int_int_int_l4 (slices_EqualFunc_int_int_int_int_l4 kf n)) := by
  intro n
  induction n with
  | zero =>
    intro vs es K r h
    unfold sl_slices_EqualFunc_int_int_int_int_l4 at h
    split at h <;> exact no_some h
  | succ k ih =>
    have hcf : CfOk (R := R) Tryd.prog glob raw (cf_slices_EqualFunc_int_int_int_int (machine_Same_1 kf) (slices_EqualFunc_int_int_int_int_l4 kf k)) := (cf_cons (shok_56 (ok_machine_Same_1 kf)) cf_nil)
    have hlf : LfOk (R := R) C_slices_EqualFunc_int_int_int_int 55 (lf_slices_EqualFunc_int_int_int_int (machine_Same_1 kf) (slices_EqualFunc_int_int_int_int_l4 kf k)) := (lf_top (lf_cons ih lf_nil))
    intro vs es K r h
    unfold sl_slices_EqualFunc_int_int_int_int_l4 at h
    split at h
    · exact loop_good (text_mixed t_slices_EqualFunc_int_int_int_int) hcf hlf (text_loop t_slices_EqualFunc_int_int_int_int 4).1 (text_loop t_slices_EqualFunc_int_int_int_int 4).2 ((eq_slices_EqualFunc_int_int_int_int_l4 (machine_Same_1 kf) (slices_EqualFunc_int_int_int_int_l4 kf k) _ _ _ _ K).trans h)
    · exact no_some h
theorem ok_slices_EqualFunc_int_int_int_int {R : Type} (kf : Nat) : Ok_slices_EqualFunc_int_int_int_int (R := R) (slices_EqualFunc_int_int_int_int kf) := by
  have hcf : CfOk (R := R) Tryd.prog glob raw (cf_slices_EqualFunc_int_int_int_int (machine_Same_1 kf) (slices_EqualFunc_int_int_int_int_l4 kf kf)) := (cf_cons (shok_56 (ok_machine_Same_1 kf)) cf_nil)
  have hlf : LfOk (R := R) C_slices_EqualFunc_int_int_int_int 55 (lf_slices_EqualFunc_int_int_int_int (machine_Same_1 kf) (slices_EqualFunc_int_int_int_int_l4 kf kf)) := (lf_top (lf_cons (lok_slices_EqualFunc_int_int_int_int_l4 kf kf) lf_nil))
  intro v1 v2 K r h
  exact run_good t_slices_EqualFunc_int_int_int_int hcf hlf ((eq_slices_EqualFunc_int_int_int_int (machine_Same_1 kf) (slices_EqualFunc_int_int_int_int_l4 kf kf) v1 v2 K).trans h)
theorem t_machine_Same : textOk C_machine_Same.bef Tryd.prog 42 = true := by kernel_rfl
theorem ok_machine_Same {R : Type} (kf : Nat) : Ok_machine_Same (R := R) (machine_Same kf) := by
  have hcf : CfOk (R := R) Tryd.prog glob raw (cf_machine_Same (slices_Equal_bool_bool kf) (slices_EqualFunc_int_int_int_int kf)) := (cf_cons (shok_54 (ok_slices_Equal_bool_bool kf)) (cf_cons (shok_55 (ok_slices_EqualFunc_int_int_int_int kf)) cf_nil))
  have hlf : LfOk (R := R) C_machine_Same 42 (lf_machine_Same (slices_Equal_bool_bool kf) (slices_EqualFunc_int_int_int_int kf)) := lf_none
  intro v1 v2 v3 v4 v5 v6 K r h
  exact run_good t_machine_Same hcf hlf ((eq_machine_Same (slices_Equal_bool_bool kf) (slices_EqualFunc_int_int_int_int kf) v1 v2 v3 v4 v5 v6 K).trans h)
theorem t_least_Is : textOk C_least_Is.bef Tryd.prog 33 = true := by kernel_rfl
theorem ok_least_Is {R : Type} (kf : Nat) : Ok_least_Is (R := R) (least_Is kf) := by
  have hcf : CfOk (R := R) Tryd.prog glob raw (cf_least_Is (machine_May kf) (least_Least kf) (machine_Same kf)) := (cf_cons (shok_41 (ok_machine_May kf)) (cf_cons (shok_43 (ok_least_Least kf)) (cf_cons (shok_42 (ok_machine_Same kf)) cf_nil)))
  have hlf : LfOk (R := R) C_least_Is 33 (lf_least_Is (machine_May kf) (least_Least kf) (machine_Same kf)) := lf_none
  intro v1 v2 v3 K r h
  exact run_good t_least_Is hcf hlf ((eq_least_Is (machine_May kf) (least_Least kf) (machine_Same kf) v1 v2 v3 K).trans h)
theorem t_machine_Classes : textOk C_machine_Classes.bef Tryd.prog 34 = true := by kernel_rfl
theorem ok_machine_Classes {R : Type} (kf : Nat) : Ok_machine_Classes (R := R) (machine_Classes kf) := by
  have hcf : CfOk (R := R) Tryd.prog glob raw (cf_machine_Classes (machine_May kf) (machine_classes kf)) := (cf_cons (shok_41 (ok_machine_May kf)) (cf_cons (shok_44 (ok_machine_classes kf)) cf_nil))
  have hlf : LfOk (R := R) C_machine_Classes 34 (lf_machine_Classes (machine_May kf) (machine_classes kf)) := lf_none
  intro v1 v2 v3 K r h
  exact run_good t_machine_Classes hcf hlf ((eq_machine_Classes (machine_May kf) (machine_classes kf) v1 v2 v3 K).trans h)
theorem t_image_Put : textOk C_image_Put.bef Tryd.prog 13 = true := by kernel_rfl
theorem sln_image_Put_l7 {R : Type} : SlOk (R := R) C_image_Put 13 96 0 7 (sl_image_Put_l7 (fun _ _ _ _ _ _ => none)) := by
  intro vs es K r h
  unfold sl_image_Put_l7 at h
  split at h <;> exact no_some h
theorem sln_image_Put_l15 {R : Type} : SlOk (R := R) C_image_Put 13 96 0 15 (sl_image_Put_l15 (fun _ _ _ _ _ _ _ _ => none)) := by
  intro vs es K r h
  unfold sl_image_Put_l15 at h
  split at h <;> exact no_some h
theorem sln_image_Put_l22 {R : Type} : SlOk (R := R) C_image_Put 13 96 0 22 (sl_image_Put_l22 (fun _ _ _ _ _ _ _ _ _ _ _ => none)) := by
  intro vs es K r h
  unfold sl_image_Put_l22 at h
  split at h <;> exact no_some h
theorem lok_image_Put_l7 {R : Type} (kf : Nat) : ∀ n, SlOk (R := R) C_image_Put 13 96 0 7 (sl_image_Put_l7 (image_Put_l7 kf n)) := by
  intro n
  induction n with
  | zero =>
    intro vs es K r h
    unfold sl_image_Put_l7 at h
    split at h <;> exact no_some h
  | succ k ih =>
    have hcf : CfOk (R := R) Tryd.prog glob raw (cf_image_Put (least_Is kf) (machine_Classes kf) (image_Put_l7 kf k) (fun _ _ _ _ _ _ _ _ => none) (fun _ _ _ _ _ _ _ _ _ _ _ => none)) := (cf_cons (shok_33 (ok_least_Is kf)) (cf_cons (shok_34 (ok_machine_Classes kf)) cf_nil))
    have hlf : LfOk (R := R) C_image_Put 13 (lf_image_Put (least_Is kf) (machine_Classes kf) (image_Put_l7 kf k) (fun _ _ _ _ _ _ _ _ => none) (fun _ _ _ _ _ _ _ _ _ _ _ => none)) := (lf_top (lf_cons ih (lf_cons (sln_image_Put_l15) (lf_cons (sln_image_Put_l22) lf_nil))))
    intro vs es K r h
    unfold sl_image_Put_l7 at h
    split at h
    · exact loop_good (text_mixed t_image_Put) hcf hlf (text_loop t_image_Put 7).1 (text_loop t_image_Put 7).2 ((eq_image_Put_l7 (least_Is kf) (machine_Classes kf) (image_Put_l7 kf k) (fun _ _ _ _ _ _ _ _ => none) (fun _ _ _ _ _ _ _ _ _ _ _ => none) _ _ _ _ _ K).trans h)
    · exact no_some h
theorem lok_image_Put_l22 {R : Type} (kf : Nat) : ∀ n, SlOk (R := R) C_image_Put 13 96 0 22 (sl_image_Put_l22 (image_Put_l22 kf n)) := by
  intro n
  induction n with
  | zero =>
    intro vs es K r h
    unfold sl_image_Put_l22 at h
    split at h <;> exact no_some h
  | succ k ih =>
    have hcf : CfOk (R := R) Tryd.prog glob raw (cf_image_Put (least_Is kf) (machine_Classes kf) (image_Put_l7 kf k) (fun _ _ _ _ _ _ _ _ => none) (image_Put_l22 kf k)) := (cf_cons (shok_33 (ok_least_Is kf)) (cf_cons (shok_34 (ok_machine_Classes kf)) cf_nil))
    have hlf : LfOk (R := R) C_image_Put 13 (lf_image_Put (least_Is kf) (machine_Classes kf) (image_Put_l7 kf k) (fun _ _ _ _ _ _ _ _ => none) (image_Put_l22 kf k)) := (lf_top (lf_cons (lok_image_Put_l7 kf k) (lf_cons (sln_image_Put_l15) (lf_cons ih lf_nil))))
    intro vs es K r h
    unfold sl_image_Put_l22 at h
    split at h
    · exact loop_good (text_mixed t_image_Put) hcf hlf (text_loop t_image_Put 22).1 (text_loop t_image_Put 22).2 ((eq_image_Put_l22 (least_Is kf) (machine_Classes kf) (image_Put_l7 kf k) (fun _ _ _ _ _ _ _ _ => none) (image_Put_l22 kf k) _ _ _ _ _ _ _ _ _ _ K).trans h)
    · exact no_some h
theorem lok_image_Put_l15 {R : Type} (kf : Nat) : ∀ n, SlOk (R := R) C_image_Put 13 96 0 15 (sl_image_Put_l15 (image_Put_l15 kf n)) := by
  intro n
  induction n with
  | zero =>
    intro vs es K r h
    unfold sl_image_Put_l15 at h
    split at h <;> exact no_some h
  | succ k ih =>
    have hcf : CfOk (R := R) Tryd.prog glob raw (cf_image_Put (least_Is kf) (machine_Classes kf) (image_Put_l7 kf k) (image_Put_l15 kf k) (image_Put_l22 kf k)) := (cf_cons (shok_33 (ok_least_Is kf)) (cf_cons (shok_34 (ok_machine_Classes kf)) cf_nil))
    have hlf : LfOk (R := R) C_image_Put 13 (lf_image_Put (least_Is kf) (machine_Classes kf) (image_Put_l7 kf k) (image_Put_l15 kf k) (image_Put_l22 kf k)) := (lf_top (lf_cons (lok_image_Put_l7 kf k) (lf_cons ih (lf_cons (lok_image_Put_l22 kf k) lf_nil))))
    intro vs es K r h
    unfold sl_image_Put_l15 at h
    split at h
    · exact loop_good (text_mixed t_image_Put) hcf hlf (text_loop t_image_Put 15).1 (text_loop t_image_Put 15).2 ((eq_image_Put_l15 (least_Is kf) (machine_Classes kf) (image_Put_l7 kf k) (image_Put_l15 kf k) (image_Put_l22 kf k) _ _ _ _ _ _ _ K).trans h)
    · exact no_some h
theorem ok_image_Put {R : Type} (kf : Nat) : Ok_image_Put (R := R) (image_Put kf) := by
  have hcf : CfOk (R := R) Tryd.prog glob raw (cf_image_Put (least_Is kf) (machine_Classes kf) (image_Put_l7 kf kf) (image_Put_l15 kf kf) (image_Put_l22 kf kf)) := (cf_cons (shok_33 (ok_least_Is kf)) (cf_cons (shok_34 (ok_machine_Classes kf)) cf_nil))
  have hlf : LfOk (R := R) C_image_Put 13 (lf_image_Put (least_Is kf) (machine_Classes kf) (image_Put_l7 kf kf) (image_Put_l15 kf kf) (image_Put_l22 kf kf)) := (lf_top (lf_cons (lok_image_Put_l7 kf kf) (lf_cons (lok_image_Put_l15 kf kf) (lf_cons (lok_image_Put_l22 kf kf) lf_nil))))
  intro v1 v2 v3 K r h
  exact run_good t_image_Put hcf hlf ((eq_image_Put (least_Is kf) (machine_Classes kf) (image_Put_l7 kf kf) (image_Put_l15 kf kf) (image_Put_l22 kf kf) v1 v2 v3 K).trans h)
theorem t_octet_Take : textOk C_octet_Take.bef Tryd.prog 63 = true := by kernel_rfl
theorem ok_octet_Take {R : Type} : Ok_octet_Take (R := R) (octet_Take) := by
  have hcf : CfOk (R := R) Tryd.prog glob raw (cf_octet_Take) := cf_nil
  have hlf : LfOk (R := R) C_octet_Take 63 (lf_octet_Take) := lf_none
  intro v1 v2 v3 K r h
  exact run_good t_octet_Take hcf hlf ((eq_octet_Take v1 v2 v3 K).trans h)
theorem t_image_bad : textOk C_image_bad.bef Tryd.prog 47 = true := by kernel_rfl
theorem ok_image_bad {R : Type} : Ok_image_bad (R := R) (image_bad) := by
  have hcf : CfOk (R := R) Tryd.prog glob raw (cf_image_bad) := cf_nil
  have hlf : LfOk (R := R) C_image_bad 47 (lf_image_bad) := lf_none
  intro v1 K r h
  exact run_good t_image_bad hcf hlf ((eq_image_bad v1 K).trans h)
theorem t_image_reader_byte : textOk C_image_reader_byte.bef Tryd.prog 45 = true := by kernel_rfl
theorem ok_image_reader_byte {R : Type} : Ok_image_reader_byte (R := R) (image_reader_byte) := by
  have hcf : CfOk (R := R) Tryd.prog glob raw (cf_image_reader_byte octet_Take image_bad) := (cf_cons (shok_63 ok_octet_Take) (cf_cons (shok_47 ok_image_bad) cf_nil))
  have hlf : LfOk (R := R) C_image_reader_byte 45 (lf_image_reader_byte octet_Take image_bad) := lf_none
  intro v1 v2 v3 K r h
  exact run_good t_image_reader_byte hcf hlf ((eq_image_reader_byte octet_Take image_bad v1 v2 v3 K).trans h)
theorem t_image_reader_runs : textOk C_image_reader_runs.bef Tryd.prog 46 = true := by kernel_rfl
theorem sln_image_reader_runs_l6 {R : Type} : SlOk (R := R) C_image_reader_runs 46 78 1 6 (sl_image_reader_runs_l6 (fun _ _ _ _ _ _ _ _ _ _ => none)) := by
  intro vs es K r h
  unfold sl_image_reader_runs_l6 at h
  split at h <;> exact no_some h
theorem sln_image_reader_runs_l21 {R : Type} : SlOk (R := R) C_image_reader_runs 46 78 1 21 (sl_image_reader_runs_l21 (fun _ _ _ _ _ _ _ _ _ _ => none)) := by
  intro vs es K r h
  unfold sl_image_reader_runs_l21 at h
  split at h <;> exact no_some h
theorem lok_image_reader_runs_l21 {R : Type} (kf : Nat) : ∀ n, SlOk (R := R) C_image_reader_runs 46 78 1 21 (sl_image_reader_runs_l21 (image_reader_runs_l21 kf n)) := by
  intro n
  induction n with
  | zero =>
    intro vs es K r h
    unfold sl_image_reader_runs_l21 at h
    split at h <;> exact no_some h
  | succ k ih =>
    have hcf : CfOk (R := R) Tryd.prog glob raw (cf_image_reader_runs image_reader_byte image_bad (fun _ _ _ _ _ _ _ _ _ _ => none) (image_reader_runs_l21 kf k)) := (cf_cons (shok_45 ok_image_reader_byte) (cf_cons (shok_47 ok_image_bad) cf_nil))
    have hlf : LfOk (R := R) C_image_reader_runs 46 (lf_image_reader_runs image_reader_byte image_bad (fun _ _ _ _ _ _ _ _ _ _ => none) (image_reader_runs_l21 kf k)) := (lf_top (lf_cons (sln_image_reader_runs_l6) (lf_cons ih lf_nil)))
    intro vs es K r h
    unfold sl_image_reader_runs_l21 at h
    split at h
    · exact loop_good (text_mixed t_image_reader_runs) hcf hlf (text_loop t_image_reader_runs 21).1 (text_loop t_image_reader_runs 21).2 ((eq_image_reader_runs_l21 image_reader_byte image_bad (fun _ _ _ _ _ _ _ _ _ _ => none) (image_reader_runs_l21 kf k) _ _ _ _ _ _ _ _ _ K).trans h)
    · exact no_some h
theorem lok_image_reader_runs_l6 {R : Type} (kf : Nat) : ∀ n, SlOk (R := R) C_image_reader_runs 46 78 1 6 (sl_image_reader_runs_l6 (image_reader_runs_l6 kf n)) := by
  intro n
  induction n with
  | zero =>
    intro vs es K r h
    unfold sl_image_reader_runs_l6 at h
    split at h <;> exact no_some h
  | succ k ih =>
    have hcf : CfOk (R := R) Tryd.prog glob raw (cf_image_reader_runs image_reader_byte image_bad (image_reader_runs_l6 kf k) (image_reader_runs_l21 kf k)) := (cf_cons (shok_45 ok_image_reader_byte) (cf_cons (shok_47 ok_image_bad) cf_nil))
    have hlf : LfOk (R := R) C_image_reader_runs 46 (lf_image_reader_runs image_reader_byte image_bad (image_reader_runs_l6 kf k) (image_reader_runs_l21 kf k)) := (lf_top (lf_cons ih (lf_cons (lok_image_reader_runs_l21 kf k) lf_nil)))
    intro vs es K r h
    unfold sl_image_reader_runs_l6 at h
    split at h
    · exact loop_good (text_mixed t_image_reader_runs) hcf hlf (text_loop t_image_reader_runs 6).1 (text_loop t_image_reader_runs 6).2 ((eq_image_reader_runs_l6 image_reader_byte image_bad (image_reader_runs_l6 kf k) (image_reader_runs_l21 kf k) _ _ _ _ _ _ _ _ K).trans h)
    · exact no_some h
theorem ok_image_reader_runs {R : Type} (kf : Nat) : Ok_image_reader_runs (R := R) (image_reader_runs kf) := by
  have hcf : CfOk (R := R) Tryd.prog glob raw (cf_image_reader_runs image_reader_byte image_bad (image_reader_runs_l6 kf kf) (image_reader_runs_l21 kf kf)) := (cf_cons (shok_45 ok_image_reader_byte) (cf_cons (shok_47 ok_image_bad) cf_nil))
  have hlf : LfOk (R := R) C_image_reader_runs 46 (lf_image_reader_runs image_reader_byte image_bad (image_reader_runs_l6 kf kf) (image_reader_runs_l21 kf kf)) := (lf_top (lf_cons (lok_image_reader_runs_l6 kf kf) (lf_cons (lok_image_reader_runs_l21 kf kf) lf_nil)))
  intro v1 v2 K r h
  exact run_good t_image_reader_runs hcf hlf ((eq_image_reader_runs image_reader_byte image_bad (image_reader_runs_l6 kf kf) (image_reader_runs_l21 kf kf) v1 v2 K).trans h)
theorem t_image_reader_reads : textOk C_image_reader_reads.bef Tryd.prog 36 = true := by kernel_rfl
theorem sln_image_reader_reads_l11 {R : Type} : SlOk (R := R) C_image_reader_reads 36 101 1 11 (sl_image_reader_reads_l11 (fun _ _ _ _ _ _ _ _ _ _ => none)) := by
  intro vs es K r h
  unfold sl_image_reader_reads_l11 at h
  split at h <;> exact no_some h
theorem sln_image_reader_reads_l17 {R : Type} : SlOk (R := R) C_image_reader_reads 36 101 1 17 (sl_image_reader_reads_l17 (fun _ _ _ _ _ _ _ _ _ _ _ _ _ _ => none)) := by
  intro vs es K r h
  unfold sl_image_reader_reads_l17 at h
  split at h <;> exact no_some h
theorem lok_image_reader_reads_l17 {R : Type} (kf : Nat) : ∀ n, SlOk (R := R) C_image_reader_reads 36 101 1 17 (sl_image_reader_reads_l17 (image_reader_reads_l17 kf n)) := by
  intro n
  induction n with
  | zero =>
    intro vs es K r h
    unfold sl_image_reader_reads_l17 at h
    split at h <;> exact no_some h
  | succ k ih =>
    have hcf : CfOk (R := R) Tryd.prog glob raw (cf_image_reader_reads image_reader_byte (image_reader_runs kf) (least_Is kf) image_bad (fun _ _ _ _ _ _ _ _ _ _ => none) (image_reader_reads_l17 kf k)) := (cf_cons (shok_45 ok_image_reader_byte) (cf_cons (shok_46 (ok_image_reader_runs kf)) (cf_cons (shok_33 (ok_least_Is kf)) (cf_cons (shok_47 ok_image_bad) cf_nil))))
    have hlf : LfOk (R := R) C_image_reader_reads 36 (lf_image_reader_reads image_reader_byte (image_reader_runs kf) (least_Is kf) image_bad (fun _ _ _ _ _ _ _ _ _ _ => none) (image_reader_reads_l17 kf k)) := (lf_top (lf_cons (sln_image_reader_reads_l11) (lf_cons ih lf_nil)))
    intro vs es K r h
    unfold sl_image_reader_reads_l17 at h
    split at h
    · exact loop_good (text_mixed t_image_reader_reads) hcf hlf (text_loop t_image_reader_reads 17).1 (text_loop t_image_reader_reads 17).2 ((eq_image_reader_reads_l17 image_reader_byte (image_reader_runs kf) (least_Is kf) image_bad (fun _ _ _ _ _ _ _ _ _ _ => none) (image_reader_reads_l17 kf k) _ _ _ _ _ _ _ _ _ _ _ _ K).trans h)
    · exact no_some h
theorem lok_image_reader_reads_l11 {R : Type} (kf : Nat) : ∀ n, SlOk (R := R) C_image_reader_reads 36 101 1 11 (sl_image_reader_reads_l11 (image_reader_reads_l11 kf n)) := by
  intro n
  induction n with
  | zero =>
    intro vs es K r h
    unfold sl_image_reader_reads_l11 at h
    split at h <;> exact no_some h
  | succ k ih =>
    have hcf : CfOk (R := R) Tryd.prog glob raw (cf_image_reader_reads image_reader_byte (image_reader_runs kf) (least_Is kf) image_bad (image_reader_reads_l11 kf k) (image_reader_reads_l17 kf k)) := (cf_cons (shok_45 ok_image_reader_byte) (cf_cons (shok_46 (ok_image_reader_runs kf)) (cf_cons (shok_33 (ok_least_Is kf)) (cf_cons (shok_47 ok_image_bad) cf_nil))))
    have hlf : LfOk (R := R) C_image_reader_reads 36 (lf_image_reader_reads image_reader_byte (image_reader_runs kf) (least_Is kf) image_bad (image_reader_reads_l11 kf k) (image_reader_reads_l17 kf k)) := (lf_top (lf_cons ih (lf_cons (lok_image_reader_reads_l17 kf k) lf_nil)))
    intro vs es K r h
    unfold sl_image_reader_reads_l11 at h
    split at h
    · exact loop_good (text_mixed t_image_reader_reads) hcf hlf (text_loop t_image_reader_reads 11).1 (text_loop t_image_reader_reads 11).2 ((eq_image_reader_reads_l11 image_reader_byte (image_reader_runs kf) (least_Is kf) image_bad (image_reader_reads_l11 kf k) (image_reader_reads_l17 kf k) _ _ _ _ _ _ _ _ K).trans h)
    · exact no_some h
theorem ok_image_reader_reads {R : Type} (kf : Nat) : Ok_image_reader_reads (R := R) (image_reader_reads kf) := by
  have hcf : CfOk (R := R) Tryd.prog glob raw (cf_image_reader_reads image_reader_byte (image_reader_runs kf) (least_Is kf) image_bad (image_reader_reads_l11 kf kf) (image_reader_reads_l17 kf kf)) := (cf_cons (shok_45 ok_image_reader_byte) (cf_cons (shok_46 (ok_image_reader_runs kf)) (cf_cons (shok_33 (ok_least_Is kf)) (cf_cons (shok_47 ok_image_bad) cf_nil))))
  have hlf : LfOk (R := R) C_image_reader_reads 36 (lf_image_reader_reads image_reader_byte (image_reader_runs kf) (least_Is kf) image_bad (image_reader_reads_l11 kf kf) (image_reader_reads_l17 kf kf)) := (lf_top (lf_cons (lok_image_reader_reads_l11 kf kf) (lf_cons (lok_image_reader_reads_l17 kf kf) lf_nil)))
  intro v1 K r h
  exact run_good t_image_reader_reads hcf hlf ((eq_image_reader_reads image_reader_byte (image_reader_runs kf) (least_Is kf) image_bad (image_reader_reads_l11 kf kf) (image_reader_reads_l17 kf kf) v1 K).trans h)
theorem t_image_Take : textOk C_image_Take.bef Tryd.prog 18 = true := by kernel_rfl
theorem ok_image_Take {R : Type} (kf : Nat) : Ok_image_Take (R := R) (image_Take kf) := by
  have hcf : CfOk (R := R) Tryd.prog glob raw (cf_image_Take (image_reader_reads kf)) := (cf_cons (shok_36 (ok_image_reader_reads kf)) (cf_cons (pok_37) cf_nil))
  have hlf : LfOk (R := R) C_image_Take 18 (lf_image_Take (image_reader_reads kf)) := lf_none
  intro v1 K r h
  exact run_good t_image_Take hcf hlf ((eq_image_Take (image_reader_reads kf) v1 K).trans h)
theorem t_image_Size : textOk C_image_Size.bef Tryd.prog 15 = true := by kernel_rfl
theorem ok_image_Size {R : Type} (kf : Nat) : Ok_image_Size (R := R) (image_Size kf) := by
  have hcf : CfOk (R := R) Tryd.prog glob raw (cf_image_Size (image_Put kf)) := (cf_cons (shok_13 (ok_image_Put kf)) cf_nil)
  have hlf : LfOk (R := R) C_image_Size 15 (lf_image_Size (image_Put kf)) := lf_none
  intro v1 v2 v3 K r h
  exact run_good t_image_Size hcf hlf ((eq_image_Size (image_Put kf) v1 v2 v3 K).trans h)
theorem t_law15_begun : textOk C_law15_begun.bef Tryd.prog 9 = true := by kernel_rfl
theorem ok_law15_begun {R : Type} (kf : Nat) : Ok_law15_begun (R := R) (law15_begun kf) := by
  have hcf : CfOk (R := R) Tryd.prog glob raw (cf_law15_begun (image_Put kf) (image_Take kf) (image_Size kf)) := (cf_cons (shok_13 (ok_image_Put kf)) (cf_cons (shok_18 (ok_image_Take kf)) (cf_cons (shok_15 (ok_image_Size kf)) cf_nil)))
  have hlf : LfOk (R := R) C_law15_begun 9 (lf_law15_begun (image_Put kf) (image_Take kf) (image_Size kf)) := lf_none
  intro K r h
  exact run_good t_law15_begun hcf hlf ((eq_law15_begun (image_Put kf) (image_Take kf) (image_Size kf) K).trans h)
theorem t_play_Made : textOk C_play_Made.bef Tryd.prog 31 = true := by kernel_rfl
theorem ok_play_Made {R : Type} : Ok_play_Made (R := R) (play_Made) := by
  have hcf : CfOk (R := R) Tryd.prog glob raw (cf_play_Made) := cf_nil
  have hlf : LfOk (R := R) C_play_Made 31 (lf_play_Made) := lf_none
  intro v1 K r h
  exact run_good t_play_Made hcf hlf ((eq_play_Made v1 K).trans h)
theorem t_play_Picks_num : textOk C_play_Picks_num.bef Tryd.prog 32 = true := by kernel_rfl
theorem ok_play_Picks_num {R : Type} : Ok_play_Picks_num (R := R) (play_Picks_num) := by
  have hcf : CfOk (R := R) Tryd.prog glob raw (cf_play_Picks_num) := cf_nil
  have hlf : LfOk (R := R) C_play_Picks_num 32 (lf_play_Picks_num) := lf_none
  intro v1 v2 v3 K r h
  exact run_good t_play_Picks_num hcf hlf ((eq_play_Picks_num v1 v2 v3 K).trans h)
theorem t_play_Dfa : textOk C_play_Dfa.bef Tryd.prog 12 = true := by kernel_rfl
theorem sln_play_Dfa_l5 {R : Type} : SlOk (R := R) C_play_Dfa 12 80 0 5 (sl_play_Dfa_l5 (fun _ _ _ _ _ _ _ _ _ _ _ _ => none)) := by
  intro vs es K r h
  unfold sl_play_Dfa_l5 at h
  split at h <;> exact no_some h
theorem sln_play_Dfa_l12 {R : Type} : SlOk (R := R) C_play_Dfa 12 80 0 12 (sl_play_Dfa_l12 (fun _ _ _ _ _ _ _ _ _ _ _ _ => none)) := by
  intro vs es K r h
  unfold sl_play_Dfa_l12 at h
  split at h <;> exact no_some h
theorem sln_play_Dfa_l16 {R : Type} : SlOk (R := R) C_play_Dfa 12 80 0 16 (sl_play_Dfa_l16 (fun _ _ _ _ _ _ _ _ _ _ _ _ _ _ => none)) := by
  intro vs es K r h
  unfold sl_play_Dfa_l16 at h
  split at h <;> exact no_some h
theorem lok_play_Dfa_l5 {R : Type} (kf : Nat) : ∀ n, SlOk (R := R) C_play_Dfa 12 80 0 5 (sl_play_Dfa_l5 (play_Dfa_l5 kf n)) := by
  intro n
  induction n with
  | zero =>
    intro vs es K r h
    unfold sl_play_Dfa_l5 at h
    split at h <;> exact no_some h
  | succ k ih =>
    have hcf : CfOk (R := R) Tryd.prog glob raw (cf_play_Dfa play_Made play_Picks_num (play_Dfa_l5 kf k) (fun _ _ _ _ _ _ _ _ _ _ _ _ => none) (fun _ _ _ _ _ _ _ _ _ _ _ _ _ _ => none)) := (cf_cons (shok_31 ok_play_Made) (cf_cons (shok_32 ok_play_Picks_num) cf_nil))
    have hlf : LfOk (R := R) C_play_Dfa 12 (lf_play_Dfa play_Made play_Picks_num (play_Dfa_l5 kf k) (fun _ _ _ _ _ _ _ _ _ _ _ _ => none) (fun _ _ _ _ _ _ _ _ _ _ _ _ _ _ => none)) := (lf_top (lf_cons ih (lf_cons (sln_play_Dfa_l12) (lf_cons (sln_play_Dfa_l16) lf_nil))))
    intro vs es K r h
    unfold sl_play_Dfa_l5 at h
    split at h
    · exact loop_good (text_mixed t_play_Dfa) hcf hlf (text_loop t_play_Dfa 5).1 (text_loop t_play_Dfa 5).2 ((eq_play_Dfa_l5 play_Made play_Picks_num (play_Dfa_l5 kf k) (fun _ _ _ _ _ _ _ _ _ _ _ _ => none) (fun _ _ _ _ _ _ _ _ _ _ _ _ _ _ => none) _ _ _ _ _ _ _ _ _ _ _ K).trans h)
    · exact no_some h
theorem lok_play_Dfa_l16 {R : Type} (kf : Nat) : ∀ n, SlOk (R := R) C_play_Dfa 12 80 0 16 (sl_play_Dfa_l16 (play_Dfa_l16 kf n)) := by
  intro n
  induction n with
  | zero =>
    intro vs es K r h
    unfold sl_play_Dfa_l16 at h
    split at h <;> exact no_some h
  | succ k ih =>
    have hcf : CfOk (R := R) Tryd.prog glob raw (cf_play_Dfa play_Made play_Picks_num (play_Dfa_l5 kf k) (fun _ _ _ _ _ _ _ _ _ _ _ _ => none) (play_Dfa_l16 kf k)) := (cf_cons (shok_31 ok_play_Made) (cf_cons (shok_32 ok_play_Picks_num) cf_nil))
    have hlf : LfOk (R := R) C_play_Dfa 12 (lf_play_Dfa play_Made play_Picks_num (play_Dfa_l5 kf k) (fun _ _ _ _ _ _ _ _ _ _ _ _ => none) (play_Dfa_l16 kf k)) := (lf_top (lf_cons (lok_play_Dfa_l5 kf k) (lf_cons (sln_play_Dfa_l12) (lf_cons ih lf_nil))))
    intro vs es K r h
    unfold sl_play_Dfa_l16 at h
    split at h
    · exact loop_good (text_mixed t_play_Dfa) hcf hlf (text_loop t_play_Dfa 16).1 (text_loop t_play_Dfa 16).2 ((eq_play_Dfa_l16 play_Made play_Picks_num (play_Dfa_l5 kf k) (fun _ _ _ _ _ _ _ _ _ _ _ _ => none) (play_Dfa_l16 kf k) _ _ _ _ _ _ _ _ _ _ _ _ _ K).trans h)
    · exact no_some h
theorem lok_play_Dfa_l12 {R : Type} (kf : Nat) : ∀ n, SlOk (R := R) C_play_Dfa 12 80 0 12 (sl_play_Dfa_l12 (play_Dfa_l12 kf n)) := by
  intro n
  induction n with
  | zero =>
    intro vs es K r h
    unfold sl_play_Dfa_l12 at h
    split at h <;> exact no_some h
  | succ k ih =>
    have hcf : CfOk (R := R) Tryd.prog glob raw (cf_play_Dfa play_Made play_Picks_num (play_Dfa_l5 kf k) (play_Dfa_l12 kf k) (play_Dfa_l16 kf k)) := (cf_cons (shok_31 ok_play_Made) (cf_cons (shok_32 ok_play_Picks_num) cf_nil))
    have hlf : LfOk (R := R) C_play_Dfa 12 (lf_play_Dfa play_Made play_Picks_num (play_Dfa_l5 kf k) (play_Dfa_l12 kf k) (play_Dfa_l16 kf k)) := (lf_top (lf_cons (lok_play_Dfa_l5 kf k) (lf_cons ih (lf_cons (lok_play_Dfa_l16 kf k) lf_nil))))
    intro vs es K r h
    unfold sl_play_Dfa_l12 at h
    split at h
    · exact loop_good (text_mixed t_play_Dfa) hcf hlf (text_loop t_play_Dfa 12).1 (text_loop t_play_Dfa 12).2 ((eq_play_Dfa_l12 play_Made play_Picks_num (play_Dfa_l5 kf k) (play_Dfa_l12 kf k) (play_Dfa_l16 kf k) _ _ _ _ _ _ _ _ _ _ _ K).trans h)
    · exact no_some h
theorem ok_play_Dfa {R : Type} (kf : Nat) : Ok_play_Dfa (R := R) (play_Dfa kf) := by
  have hcf : CfOk (R := R) Tryd.prog glob raw (cf_play_Dfa play_Made play_Picks_num (play_Dfa_l5 kf kf) (play_Dfa_l12 kf kf) (play_Dfa_l16 kf kf)) := (cf_cons (shok_31 ok_play_Made) (cf_cons (shok_32 ok_play_Picks_num) cf_nil))
  have hlf : LfOk (R := R) C_play_Dfa 12 (lf_play_Dfa play_Made play_Picks_num (play_Dfa_l5 kf kf) (play_Dfa_l12 kf kf) (play_Dfa_l16 kf kf)) := (lf_top (lf_cons (lok_play_Dfa_l5 kf kf) (lf_cons (lok_play_Dfa_l12 kf kf) (lf_cons (lok_play_Dfa_l16 kf kf) lf_nil))))
  intro v1 v2 v3 K r h
  exact run_good t_play_Dfa hcf hlf ((eq_play_Dfa play_Made play_Picks_num (play_Dfa_l5 kf kf) (play_Dfa_l12 kf kf) (play_Dfa_l16 kf kf) v1 v2 v3 K).trans h)
theorem t_ref11_Classes : textOk C_ref11_Classes.bef Tryd.prog 39 = true := by kernel_rfl
theorem sln_ref11_Classes_l3 {R : Type} : SlOk (R := R) C_ref11_Classes 39 18 0 3 (sl_ref11_Classes_l3 (fun _ _ _ _ => none)) := by
  intro vs es K r h
  unfold sl_ref11_Classes_l3 at h
  split at h <;> exact no_some h
theorem lok_ref11_Classes_l3 {R : Type} (kf : Nat) : ∀ n, SlOk (R := R) C_ref11_Classes 39 18 0 3 (sl_ref11_Classes_l3 (ref11_Classes_l3 kf n)) := by
  intro n
  induction n with
  | zero =>
    intro vs es K r h
    unfold sl_ref11_Classes_l3 at h
    split at h <;> exact no_some h
  | succ k ih =>
    have hcf : CfOk (R := R) Tryd.prog glob raw (cf_ref11_Classes (ref11_Classes_l3 kf k)) := cf_nil
    have hlf : LfOk (R := R) C_ref11_Classes 39 (lf_ref11_Classes (ref11_Classes_l3 kf k)) := (lf_top (lf_cons ih lf_nil))
    intro vs es K r h
    unfold sl_ref11_Classes_l3 at h
    split at h
    · exact loop_good (text_mixed t_ref11_Classes) hcf hlf (text_loop t_ref11_Classes 3).1 (text_loop t_ref11_Classes 3).2 ((eq_ref11_Classes_l3 (ref11_Classes_l3 kf k) _ _ _ _ _ K).trans h)
    · exact no_some h
theorem ok_ref11_Classes {R : Type} (kf : Nat) : Ok_ref11_Classes (R := R) (ref11_Classes kf) := by
  have hcf : CfOk (R := R) Tryd.prog glob raw (cf_ref11_Classes (ref11_Classes_l3 kf kf)) := cf_nil
  have hlf : LfOk (R := R) C_ref11_Classes 39 (lf_ref11_Classes (ref11_Classes_l3 kf kf)) := (lf_top (lf_cons (lok_ref11_Classes_l3 kf kf) lf_nil))
  intro v1 v2 v3 K r h
  exact run_good t_ref11_Classes hcf hlf ((eq_ref11_Classes (ref11_Classes_l3 kf kf) v1 v2 v3 K).trans h)
theorem t_ref11_May : textOk C_ref11_May.bef Tryd.prog 27 = true := by kernel_rfl
theorem sln_ref11_May_l5 {R : Type} : SlOk (R := R) C_ref11_May 27 64 0 5 (sl_ref11_May_l5 (fun _ _ _ _ _ _ _ _ => none)) := by
  intro vs es K r h
  unfold sl_ref11_May_l5 at h
  split at h <;> exact no_some h
theorem sln_ref11_May_l10 {R : Type} : SlOk (R := R) C_ref11_May 27 64 0 10 (sl_ref11_May_l10 (fun _ _ _ _ _ _ _ _ _ => none)) := by
  intro vs es K r h
  unfold sl_ref11_May_l10 at h
  split at h <;> exact no_some h
theorem lok_ref11_May_l10 {R : Type} (kf : Nat) : ∀ n, SlOk (R := R) C_ref11_May 27 64 0 10 (sl_ref11_May_l10 (ref11_May_l10 kf n)) := by
  intro n
  induction n with
  | zero =>
    intro vs es K r h
    unfold sl_ref11_May_l10 at h
    split at h <;> exact no_some h
  | succ k ih =>
    have hcf : CfOk (R := R) Tryd.prog glob raw (cf_ref11_May (ref11_Classes kf) (fun _ _ _ _ _ _ _ _ => none) (ref11_May_l10 kf k)) := (cf_cons (shok_39 (ok_ref11_Classes kf)) cf_nil)
    have hlf : LfOk (R := R) C_ref11_May 27 (lf_ref11_May (ref11_Classes kf) (fun _ _ _ _ _ _ _ _ => none) (ref11_May_l10 kf k)) := (lf_top (lf_cons (sln_ref11_May_l5) (lf_cons ih lf_nil)))
    intro vs es K r h
    unfold sl_ref11_May_l10 at h
    split at h
    · exact loop_good (text_mixed t_ref11_May) hcf hlf (text_loop t_ref11_May 10).1 (text_loop t_ref11_May 10).2 ((eq_ref11_May_l10 (ref11_Classes kf) (fun _ _ _ _ _ _ _ _ => none) (ref11_May_l10 kf k) _ _ _ _ _ _ _ K).trans h)
    · exact no_some h
theorem lok_ref11_May_l5 {R : Type} (kf : Nat) : ∀ n, SlOk (R := R) C_ref11_May 27 64 0 5 (sl_ref11_May_l5 (ref11_May_l5 kf n)) := by
  intro n
  induction n with
  | zero =>
    intro vs es K r h
    unfold sl_ref11_May_l5 at h
    split at h <;> exact no_some h
  | succ k ih =>
    have hcf : CfOk (R := R) Tryd.prog glob raw (cf_ref11_May (ref11_Classes kf) (ref11_May_l5 kf k) (ref11_May_l10 kf k)) := (cf_cons (shok_39 (ok_ref11_Classes kf)) cf_nil)
    have hlf : LfOk (R := R) C_ref11_May 27 (lf_ref11_May (ref11_Classes kf) (ref11_May_l5 kf k) (ref11_May_l10 kf k)) := (lf_top (lf_cons ih (lf_cons (lok_ref11_May_l10 kf k) lf_nil)))
    intro vs es K r h
    unfold sl_ref11_May_l5 at h
    split at h
    · exact loop_good (text_mixed t_ref11_May) hcf hlf (text_loop t_ref11_May 5).1 (text_loop t_ref11_May 5).2 ((eq_ref11_May_l5 (ref11_Classes kf) (ref11_May_l5 kf k) (ref11_May_l10 kf k) _ _ _ _ _ _ K).trans h)
    · exact no_some h
theorem ok_ref11_May {R : Type} (kf : Nat) : Ok_ref11_May (R := R) (ref11_May kf) := by
  have hcf : CfOk (R := R) Tryd.prog glob raw (cf_ref11_May (ref11_Classes kf) (ref11_May_l5 kf kf) (ref11_May_l10 kf kf)) := (cf_cons (shok_39 (ok_ref11_Classes kf)) cf_nil)
  have hlf : LfOk (R := R) C_ref11_May 27 (lf_ref11_May (ref11_Classes kf) (ref11_May_l5 kf kf) (ref11_May_l10 kf kf)) := (lf_top (lf_cons (lok_ref11_May_l5 kf kf) (lf_cons (lok_ref11_May_l10 kf kf) lf_nil)))
  intro v1 v2 v3 K r h
  exact run_good t_ref11_May hcf hlf ((eq_ref11_May (ref11_Classes kf) (ref11_May_l5 kf kf) (ref11_May_l10 kf kf) v1 v2 v3 K).trans h)
theorem t_ref11_one : textOk C_ref11_one.bef Tryd.prog 40 = true := by kernel_rfl
theorem sln_ref11_one_l4 {R : Type} : SlOk (R := R) C_ref11_one 40 52 0 4 (sl_ref11_one_l4 (fun _ _ _ _ _ _ _ => none)) := by
  intro vs es K r h
  unfold sl_ref11_one_l4 at h
  split at h <;> exact no_some h
theorem lok_ref11_one_l4 {R : Type} (kf : Nat) : ∀ n, SlOk (R := R) C_ref11_one 40 52 0 4 (sl_ref11_one_l4 (ref11_one_l4 kf n)) := by
  intro n
  induction n with
  | zero =>
    intro vs es K r h
    unfold sl_ref11_one_l4 at h
    split at h <;> exact no_some h
  | succ k ih =>
    have hcf : CfOk (R := R) Tryd.prog glob raw (cf_ref11_one (ref11_one_l4 kf k)) := cf_nil
    have hlf : LfOk (R := R) C_ref11_one 40 (lf_ref11_one (ref11_one_l4 kf k)) := (lf_top (lf_cons ih lf_nil))
    intro vs es K r h
    unfold sl_ref11_one_l4 at h
    split at h
    · exact loop_good (text_mixed t_ref11_one) hcf hlf (text_loop t_ref11_one 4).1 (text_loop t_ref11_one 4).2 ((eq_ref11_one_l4 (ref11_one_l4 kf k) _ _ _ _ _ _ _ K).trans h)
    · exact no_some h
theorem ok_ref11_one {R : Type} (kf : Nat) : Ok_ref11_one (R := R) (ref11_one kf) := by
  have hcf : CfOk (R := R) Tryd.prog glob raw (cf_ref11_one (ref11_one_l4 kf kf)) := cf_nil
  have hlf : LfOk (R := R) C_ref11_one 40 (lf_ref11_one (ref11_one_l4 kf kf)) := (lf_top (lf_cons (lok_ref11_one_l4 kf kf) lf_nil))
  intro v1 v2 v3 v4 v5 v6 K r h
  exact run_good t_ref11_one hcf hlf ((eq_ref11_one (ref11_one_l4 kf kf) v1 v2 v3 v4 v5 v6 K).trans h)
theorem t_ref11_Parts : textOk C_ref11_Parts.bef Tryd.prog 28 = true := by kernel_rfl
theorem sln_ref11_Parts_l6 {R : Type} : SlOk (R := R) C_ref11_Parts 28 95 0 6 (sl_ref11_Parts_l6 (fun _ _ _ _ _ _ _ => none)) := by
  intro vs es K r h
  unfold sl_ref11_Parts_l6 at h
  split at h <;> exact no_some h
theorem sln_ref11_Parts_l8 {R : Type} : SlOk (R := R) C_ref11_Parts 28 95 0 8 (sl_ref11_Parts_l8 (fun _ _ _ _ _ _ _ => none)) := by
  intro vs es K r h
  unfold sl_ref11_Parts_l8 at h
  split at h <;> exact no_some h
theorem sln_ref11_Parts_l11 {R : Type} : SlOk (R := R) C_ref11_Parts 28 95 0 11 (sl_ref11_Parts_l11 (fun _ _ _ _ _ _ _ => none)) := by
  intro vs es K r h
  unfold sl_ref11_Parts_l11 at h
  split at h <;> exact no_some h
theorem sln_ref11_Parts_l15 {R : Type} : SlOk (R := R) C_ref11_Parts 28 95 0 15 (sl_ref11_Parts_l15 (fun _ _ _ _ _ _ _ _ _ => none)) := by
  intro vs es K r h
  unfold sl_ref11_Parts_l15 at h
  split at h <;> exact no_some h
theorem sln_ref11_Parts_l17 {R : Type} : SlOk (R := R) C_ref11_Parts 28 95 0 17 (sl_ref11_Parts_l17 (fun _ _ _ _ _ _ _ _ _ => none)) := by
  intro vs es K r h
  unfold sl_ref11_Parts_l17 at h
  split at h <;> exact no_some h
theorem lok_ref11_Parts_l8 {R : Type} (kf : Nat) : ∀ n, SlOk (R := R) C_ref11_Parts 28 95 0 8 (sl_ref11_Parts_l8 (ref11_Parts_l8 kf n)) := by
  intro n
  induction n with
  | zero =>
    intro vs es K r h
    unfold sl_ref11_Parts_l8 at h
    split at h <;> exact no_some h
  | succ k ih =>
    have hcf : CfOk (R := R) Tryd.prog glob raw (cf_ref11_Parts (ref11_May kf) (ref11_one kf) (fun _ _ _ _ _ _ _ => none) (ref11_Parts_l8 kf k) (fun _ _ _ _ _ _ _ => none) (fun _ _ _ _ _ _ _ _ _ => none) (fun _ _ _ _ _ _ _ _ _ => none)) := (cf_cons (shok_27 (ok_ref11_May kf)) (cf_cons (shok_40 (ok_ref11_one kf)) cf_nil))
    have hlf : LfOk (R := R) C_ref11_Parts 28 (lf_ref11_Parts (ref11_May kf) (ref11_one kf) (fun _ _ _ _ _ _ _ => none) (ref11_Parts_l8 kf k) (fun _ _ _ _ _ _ _ => none) (fun _ _ _ _ _ _ _ _ _ => none) (fun _ _ _ _ _ _ _ _ _ => none)) := (lf_top (lf_cons (sln_ref11_Parts_l6) (lf_cons ih (lf_cons (sln_ref11_Parts_l11) (lf_cons (sln_ref11_Parts_l15) (lf_cons (sln_ref11_Parts_l17) lf_nil))))))
    intro vs es K r h
    unfold sl_ref11_Parts_l8 at h
    split at h
    · exact loop_good (text_mixed t_ref11_Parts) hcf hlf (text_loop t_ref11_Parts 8).1 (text_loop t_ref11_Parts 8).2 ((eq_ref11_Parts_l8 (ref11_May kf) (ref11_one kf) (fun _ _ _ _ _ _ _ => none) (ref11_Parts_l8 kf k) (fun _ _ _ _ _ _ _ => none) (fun _ _ _ _ _ _ _ _ _ => none) (fun _ _ _ _ _ _ _ _ _ => none) _ _ _ _ _ _ K).trans h)
    · exact no_some h
theorem lok_ref11_Parts_l6 {R : Type} (kf : Nat) : ∀ n, SlOk (R := R) C_ref11_Parts 28 95 0 6 (sl_ref11_Parts_l6 (ref11_Parts_l6 kf n)) := by
  intro n
  induction n with
  | zero =>
    intro vs es K r h
    unfold sl_ref11_Parts_l6 at h
    split at h <;> exact no_some h
  | succ k ih =>
    have hcf : CfOk (R := R) Tryd.prog glob raw (cf_ref11_Parts (ref11_May kf) (ref11_one kf) (ref11_Parts_l6 kf k) (ref11_Parts_l8 kf k) (fun _ _ _ _ _ _ _ => none) (fun _ _ _ _ _ _ _ _ _ => none) (fun _ _ _ _ _ _ _ _ _ => none)) := (cf_cons (shok_27 (ok_ref11_May kf)) (cf_cons (shok_40 (ok_ref11_one kf)) cf_nil))
    have hlf : LfOk (R := R) C_ref11_Parts 28 (lf_ref11_Parts (ref11_May kf) (ref11_one kf) (ref11_Parts_l6 kf k) (ref11_Parts_l8 kf k) (fun _ _ _ _ _ _ _ => none) (fun _ _ _ _ _ _ _ _ _ => none) (fun _ _ _ _ _ _ _ _ _ => none)) := (lf_top (lf_cons ih (lf_cons (lok_ref11_Parts_l8 kf k) (lf_cons (sln_ref11_Parts_l11) (lf_cons (sln_ref11_Parts_l15) (lf_cons (sln_ref11_Parts_l17) lf_nil))))))
    intro vs es K r h
    unfold sl_ref11_Parts_l6 at h
    split at h
    · exact loop_good (text_mixed t_ref11_Parts) hcf hlf (text_loop t_ref11_Parts 6).1 (text_loop t_ref11_Parts 6).2 ((eq_ref11_Parts_l6 (ref11_May kf) (ref11_one kf) (ref11_Parts_l6 kf k) (ref11_Parts_l8 kf k) (fun _ _ _ _ _ _ _ => none) (fun _ _ _ _ _ _ _ _ _ => none) (fun _ _ _ _ _ _ _ _ _ => none) _ _ _ _ _ _ K).trans h)
    · exact no_some h
theorem lok_ref11_Parts_l17 {R : Type} (kf : Nat) : ∀ n, SlOk (R := R) C_ref11_Parts 28 95 0 17 (sl_ref11_Parts_l17 (ref11_Parts_l17 kf n)) := by
  intro n
  induction n with
  | zero =>
    intro vs es K r h
    unfold sl_ref11_Parts_l17 at h
    split at h <;> exact no_some h
  | succ k ih =>
    have hcf : CfOk (R := R) Tryd.prog glob raw (cf_ref11_Parts (ref11_May kf) (ref11_one kf) (ref11_Parts_l6 kf k) (ref11_Parts_l8 kf k) (fun _ _ _ _ _ _ _ => none) (fun _ _ _ _ _ _ _ _ _ => none) (ref11_Parts_l17 kf k)) := (cf_cons (shok_27 (ok_ref11_May kf)) (cf_cons (shok_40 (ok_ref11_one kf)) cf_nil))
    have hlf : LfOk (R := R) C_ref11_Parts 28 (lf_ref11_Parts (ref11_May kf) (ref11_one kf) (ref11_Parts_l6 kf k) (ref11_Parts_l8 kf k) (fun _ _ _ _ _ _ _ => none) (fun _ _ _ _ _ _ _ _ _ => none) (ref11_Parts_l17 kf k)) := (lf_top (lf_cons (lok_ref11_Parts_l6 kf k) (lf_cons (lok_ref11_Parts_l8 kf k) (lf_cons (sln_ref11_Parts_l11) (lf_cons (sln_ref11_Parts_l15) (lf_cons ih lf_nil))))))
    intro vs es K r h
    unfold sl_ref11_Parts_l17 at h
    split at h
    · exact loop_good (text_mixed t_ref11_Parts) hcf hlf (text_loop t_ref11_Parts 17).1 (text_loop t_ref11_Parts 17).2 ((eq_ref11_Parts_l17 (ref11_May kf) (ref11_one kf) (ref11_Parts_l6 kf k) (ref11_Parts_l8 kf k) (fun _ _ _ _ _ _ _ => none) (fun _ _ _ _ _ _ _ _ _ => none) (ref11_Parts_l17 kf k) _ _ _ _ _ _ _ _ K).trans h)
    · exact no_some h
theorem lok_ref11_Parts_l15 {R : Type} (kf : Nat) : ∀ n, SlOk (R := R) C_ref11_Parts 28 95 0 15 (sl_ref11_Parts_l15 (ref11_Parts_l15 kf n)) := by
  intro n
  induction n with
  | zero =>
    intro vs es K r h
    unfold sl_ref11_Parts_l15 at h
    split at h <;> exact no_some h
  | succ k ih =>
    have hcf : CfOk (R := R) Tryd.prog glob raw (cf_ref11_Parts (ref11_May kf) (ref11_one kf) (ref11_Parts_l6 kf k) (ref11_Parts_l8 kf k) (fun _ _ _ _ _ _ _ => none) (ref11_Parts_l15 kf k) (ref11_Parts_l17 kf k)) := (cf_cons (shok_27 (ok_ref11_May kf)) (cf_cons (shok_40 (ok_ref11_one kf)) cf_nil))
    have hlf : LfOk (R := R) C_ref11_Parts 28 (lf_ref11_Parts (ref11_May kf) (ref11_one kf) (ref11_Parts_l6 kf k) (ref11_Parts_l8 kf k) (fun _ _ _ _ _ _ _ => none) (ref11_Parts_l15 kf k) (ref11_Parts_l17 kf k)) := (lf_top (lf_cons (lok_ref11_Parts_l6 kf k) (lf_cons (lok_ref11_Parts_l8 kf k) (lf_cons (sln_ref11_Parts_l11) (lf_cons ih (lf_cons (lok_ref11_Parts_l17 kf k) lf_nil))))))
    intro vs es K r h
    unfold sl_ref11_Parts_l15 at h
    split at h
    · exact loop_good (text_mixed t_ref11_Parts) hcf hlf (text_loop t_ref11_Parts 15).1 (text_loop t_ref11_Parts 15).2 ((eq_ref11_Parts_l15 (ref11_May kf) (ref11_one kf) (ref11_Parts_l6 kf k) (ref11_Parts_l8 kf k) (fun _ _ _ _ _ _ _ => none) (ref11_Parts_l15 kf k) (ref11_Parts_l17 kf k) _ _ _ _ _ _ _ _ K).trans h)
    · exact no_some h
theorem lok_ref11_Parts_l11 {R : Type} (kf : Nat) : ∀ n, SlOk (R := R) C_ref11_Parts 28 95 0 11 (sl_ref11_Parts_l11 (ref11_Parts_l11 kf n)) := by
  intro n
  induction n with
  | zero =>
    intro vs es K r h
    unfold sl_ref11_Parts_l11 at h
    split at h <;> exact no_some h
  | succ k ih =>
    have hcf : CfOk (R := R) Tryd.prog glob raw (cf_ref11_Parts (ref11_May kf) (ref11_one kf) (ref11_Parts_l6 kf k) (ref11_Parts_l8 kf k) (ref11_Parts_l11 kf k) (ref11_Parts_l15 kf k) (ref11_Parts_l17 kf k)) := (cf_cons (shok_27 (ok_ref11_May kf)) (cf_cons (shok_40 (ok_ref11_one kf)) cf_nil))
    have hlf : LfOk (R := R) C_ref11_Parts 28 (lf_ref11_Parts (ref11_May kf) (ref11_one kf) (ref11_Parts_l6 kf k) (ref11_Parts_l8 kf k) (ref11_Parts_l11 kf k) (ref11_Parts_l15 kf k) (ref11_Parts_l17 kf k)) := (lf_top (lf_cons (lok_ref11_Parts_l6 kf k) (lf_cons (lok_ref11_Parts_l8 kf k) (lf_cons ih (lf_cons (lok_ref11_Parts_l15 kf k) (lf_cons (lok_ref11_Parts_l17 kf k) lf_nil))))))
    intro vs es K r h
    unfold sl_ref11_Parts_l11 at h
    split at h
    · exact loop_good (text_mixed t_ref11_Parts) hcf hlf (text_loop t_ref11_Parts 11).1 (text_loop t_ref11_Parts 11).2 ((eq_ref11_Parts_l11 (ref11_May kf) (ref11_one kf) (ref11_Parts_l6 kf k) (ref11_Parts_l8 kf k) (ref11_Parts_l11 kf k) (ref11_Parts_l15 kf k) (ref11_Parts_l17 kf k) _ _ _ _ _ _ K).trans h)
    · exact no_some h
theorem ok_ref11_Parts {R : Type} (kf : Nat) : Ok_ref11_Parts (R := R) (ref11_Parts kf) := by
  have hcf : CfOk (R := R) Tryd.prog glob raw (cf_ref11_Parts (ref11_May kf) (ref11_one kf) (ref11_Parts_l6 kf kf) (ref11_Parts_l8 kf kf) (ref11_Parts_l11 kf kf) (ref11_Parts_l15 kf kf) (ref11_Parts_l17 kf kf)) := (cf_cons (shok_27 (ok_ref11_May kf)) (cf_cons (shok_40 (ok_ref11_one kf)) cf_nil))
  have hlf : LfOk (R := R) C_ref11_Parts 28 (lf_ref11_Parts (ref11_May kf) (ref11_one kf) (ref11_Parts_l6 kf kf) (ref11_Parts_l8 kf kf) (ref11_Parts_l11 kf kf) (ref11_Parts_l15 kf kf) (ref11_Parts_l17 kf kf)) := (lf_top (lf_cons (lok_ref11_Parts_l6 kf kf) (lf_cons (lok_ref11_Parts_l8 kf kf) (lf_cons (lok_ref11_Parts_l11 kf kf) (lf_cons (lok_ref11_Parts_l15 kf kf) (lf_cons (lok_ref11_Parts_l17 kf kf) lf_nil))))))
  intro v1 v2 v3 K r h
  exact run_good t_ref11_Parts hcf hlf ((eq_ref11_Parts (ref11_May kf) (ref11_one kf) (ref11_Parts_l6 kf kf) (ref11_Parts_l8 kf kf) (ref11_Parts_l11 kf kf) (ref11_Parts_l15 kf kf) (ref11_Parts_l17 kf kf) v1 v2 v3 K).trans h)
theorem t_ref11_Reach : textOk C_ref11_Reach.bef Tryd.prog 29 = true := by kernel_rfl
theorem sln_ref11_Reach_l6 {R : Type} : SlOk (R := R) C_ref11_Reach 29 65 0 6 (sl_ref11_Reach_l6 (fun _ _ _ _ _ _ => none)) := by
  intro vs es K r h
  unfold sl_ref11_Reach_l6 at h
  split at h <;> exact no_some h
theorem sln_ref11_Reach_l9 {R : Type} : SlOk (R := R) C_ref11_Reach 29 65 0 9 (sl_ref11_Reach_l9 (fun _ _ _ _ _ _ _ => none)) := by
  intro vs es K r h
  unfold sl_ref11_Reach_l9 at h
  split at h <;> exact no_some h
theorem sln_ref11_Reach_l12 {R : Type} : SlOk (R := R) C_ref11_Reach 29 65 0 12 (sl_ref11_Reach_l12 (fun _ _ _ _ _ _ _ _ => none)) := by
  intro vs es K r h
  unfold sl_ref11_Reach_l12 at h
  split at h <;> exact no_some h
theorem lok_ref11_Reach_l12 {R : Type} (kf : Nat) : ∀ n, SlOk (R := R) C_ref11_Reach 29 65 0 12 (sl_ref11_Reach_l12 (ref11_Reach_l12 kf n)) := by
  intro n
  induction n with
  | zero =>
    intro vs es K r h
    unfold sl_ref11_Reach_l12 at h
    split at h <;> exact no_some h
  | succ k ih =>
    have hcf : CfOk (R := R) Tryd.prog glob raw (cf_ref11_Reach (ref11_May kf) (fun _ _ _ _ _ _ => none) (fun _ _ _ _ _ _ _ => none) (ref11_Reach_l12 kf k)) := (cf_cons (shok_27 (ok_ref11_May kf)) cf_nil)
    have hlf : LfOk (R := R) C_ref11_Reach 29 (lf_ref11_Reach (ref11_May kf) (fun _ _ _ _ _ _ => none) (fun _ _ _ _ _ _ _ => none) (ref11_Reach_l12 kf k)) := (lf_top (lf_cons (sln_ref11_Reach_l6) (lf_cons (sln_ref11_Reach_l9) (lf_cons ih lf_nil))))
    intro vs es K r h
    unfold sl_ref11_Reach_l12 at h
    split at h
    · exact loop_good (text_mixed t_ref11_Reach) hcf hlf (text_loop t_ref11_Reach 12).1 (text_loop t_ref11_Reach 12).2 ((eq_ref11_Reach_l12 (ref11_May kf) (fun _ _ _ _ _ _ => none) (fun _ _ _ _ _ _ _ => none) (ref11_Reach_l12 kf k) _ _ _ _ _ _ _ K).trans h)
    · exact no_some h
theorem lok_ref11_Reach_l9 {R : Type} (kf : Nat) : ∀ n, SlOk (R := R) C_ref11_Reach 29 65 0 9 (sl_ref11_Reach_l9 (ref11_Reach_l9 kf n)) := by
  intro n
  induction n with
  | zero =>
    intro vs es K r h
    unfold sl_ref11_Reach_l9 at h
    split at h <;> exact no_some h
  | succ k ih =>
    have hcf : CfOk (R := R) Tryd.prog glob raw (cf_ref11_Reach (ref11_May kf) (fun _ _ _ _ _ _ => none) (ref11_Reach_l9 kf k) (ref11_Reach_l12 kf k)) := (cf_cons (shok_27 (ok_ref11_May kf)) cf_nil)
    have hlf : LfOk (R := R) C_ref11_Reach 29 (lf_ref11_Reach (ref11_May kf) (fun _ _ _ _ _ _ => none) (ref11_Reach_l9 kf k) (ref11_Reach_l12 kf k)) := (lf_top (lf_cons (sln_ref11_Reach_l6) (lf_cons ih (lf_cons (lok_ref11_Reach_l12 kf k) lf_nil))))
    intro vs es K r h
    unfold sl_ref11_Reach_l9 at h
    split at h
    · exact loop_good (text_mixed t_ref11_Reach) hcf hlf (text_loop t_ref11_Reach 9).1 (text_loop t_ref11_Reach 9).2 ((eq_ref11_Reach_l9 (ref11_May kf) (fun _ _ _ _ _ _ => none) (ref11_Reach_l9 kf k) (ref11_Reach_l12 kf k) _ _ _ _ _ _ K).trans h)
    · exact no_some h
theorem lok_ref11_Reach_l6 {R : Type} (kf : Nat) : ∀ n, SlOk (R := R) C_ref11_Reach 29 65 0 6 (sl_ref11_Reach_l6 (ref11_Reach_l6 kf n)) := by
  intro n
  induction n with
  | zero =>
    intro vs es K r h
    unfold sl_ref11_Reach_l6 at h
    split at h <;> exact no_some h
  | succ k ih =>
    have hcf : CfOk (R := R) Tryd.prog glob raw (cf_ref11_Reach (ref11_May kf) (ref11_Reach_l6 kf k) (ref11_Reach_l9 kf k) (ref11_Reach_l12 kf k)) := (cf_cons (shok_27 (ok_ref11_May kf)) cf_nil)
    have hlf : LfOk (R := R) C_ref11_Reach 29 (lf_ref11_Reach (ref11_May kf) (ref11_Reach_l6 kf k) (ref11_Reach_l9 kf k) (ref11_Reach_l12 kf k)) := (lf_top (lf_cons ih (lf_cons (lok_ref11_Reach_l9 kf k) (lf_cons (lok_ref11_Reach_l12 kf k) lf_nil))))
    intro vs es K r h
    unfold sl_ref11_Reach_l6 at h
    split at h
    · exact loop_good (text_mixed t_ref11_Reach) hcf hlf (text_loop t_ref11_Reach 6).1 (text_loop t_ref11_Reach 6).2 ((eq_ref11_Reach_l6 (ref11_May kf) (ref11_Reach_l6 kf k) (ref11_Reach_l9 kf k) (ref11_Reach_l12 kf k) _ _ _ _ _ K).trans h)
    · exact no_some h
theorem ok_ref11_Reach {R : Type} (kf : Nat) : Ok_ref11_Reach (R := R) (ref11_Reach kf) := by
  have hcf : CfOk (R := R) Tryd.prog glob raw (cf_ref11_Reach (ref11_May kf) (ref11_Reach_l6 kf kf) (ref11_Reach_l9 kf kf) (ref11_Reach_l12 kf kf)) := (cf_cons (shok_27 (ok_ref11_May kf)) cf_nil)
  have hlf : LfOk (R := R) C_ref11_Reach 29 (lf_ref11_Reach (ref11_May kf) (ref11_Reach_l6 kf kf) (ref11_Reach_l9 kf kf) (ref11_Reach_l12 kf kf)) := (lf_top (lf_cons (lok_ref11_Reach_l6 kf kf) (lf_cons (lok_ref11_Reach_l9 kf kf) (lf_cons (lok_ref11_Reach_l12 kf kf) lf_nil))))
  intro v1 v2 v3 K r h
  exact run_good t_ref11_Reach hcf hlf ((eq_ref11_Reach (ref11_May kf) (ref11_Reach_l6 kf kf) (ref11_Reach_l9 kf kf) (ref11_Reach_l12 kf kf) v1 v2 v3 K).trans h)
theorem t_ref11_alike : textOk C_ref11_alike.bef Tryd.prog 30 = true := by kernel_rfl
theorem sln_ref11_alike_l2 {R : Type} : SlOk (R := R) C_ref11_alike 30 48 0 2 (sl_ref11_alike_l2 (fun _ _ _ _ _ _ _ _ => none)) := by
  intro vs es K r h
  unfold sl_ref11_alike_l2 at h
  split at h <;> exact no_some h
theorem lok_ref11_alike_l2 {R : Type} (kf : Nat) : ∀ n, SlOk (R := R) C_ref11_alike 30 48 0 2 (sl_ref11_alike_l2 (ref11_alike_l2 kf n)) := by
  intro n
  induction n with
  | zero =>
    intro vs es K r h
    unfold sl_ref11_alike_l2 at h
    split at h <;> exact no_some h
  | succ k ih =>
    have hcf : CfOk (R := R) Tryd.prog glob raw (cf_ref11_alike (ref11_alike_l2 kf k)) := cf_nil
    have hlf : LfOk (R := R) C_ref11_alike 30 (lf_ref11_alike (ref11_alike_l2 kf k)) := (lf_top (lf_cons ih lf_nil))
    intro vs es K r h
    unfold sl_ref11_alike_l2 at h
    split at h
    · exact loop_good (text_mixed t_ref11_alike) hcf hlf (text_loop t_ref11_alike 2).1 (text_loop t_ref11_alike 2).2 ((eq_ref11_alike_l2 (ref11_alike_l2 kf k) _ _ _ _ _ _ _ _ K).trans h)
    · exact no_some h
theorem ok_ref11_alike {R : Type} (kf : Nat) : Ok_ref11_alike (R := R) (ref11_alike kf) := by
  have hcf : CfOk (R := R) Tryd.prog glob raw (cf_ref11_alike (ref11_alike_l2 kf kf)) := cf_nil
  have hlf : LfOk (R := R) C_ref11_alike 30 (lf_ref11_alike (ref11_alike_l2 kf kf)) := (lf_top (lf_cons (lok_ref11_alike_l2 kf kf) lf_nil))
  intro v1 v2 v3 v4 v5 v6 v7 K r h
  exact run_good t_ref11_alike hcf hlf ((eq_ref11_alike (ref11_alike_l2 kf kf) v1 v2 v3 v4 v5 v6 v7 K).trans h)
theorem t_ref11_Least : textOk C_ref11_Least.bef Tryd.prog 11 = true := by kernel_rfl
theorem sln_ref11_Least_l8 {R : Type} : SlOk (R := R) C_ref11_Least 11 148 0 8 (sl_ref11_Least_l8 (fun _ _ _ _ _ _ _ _ _ _ _ _ _ _ => none)) := by
  intro vs es K r h
  unfold sl_ref11_Least_l8 at h
  split at h <;> exact no_some h
theorem sln_ref11_Least_l11 {R : Type} : SlOk (R := R) C_ref11_Least 11 148 0 11 (sl_ref11_Least_l11 (fun _ _ _ _ _ _ _ _ _ _ _ _ _ _ _ => none)) := by
  intro vs es K r h
  unfold sl_ref11_Least_l11 at h
  split at h <;> exact no_some h
theorem sln_ref11_Least_l18 {R : Type} : SlOk (R := R) C_ref11_Least 11 148 0 18 (sl_ref11_Least_l18 (fun _ _ _ _ _ _ _ _ _ _ _ _ _ _ => none)) := by
  intro vs es K r h
  unfold sl_ref11_Least_l18 at h
  split at h <;> exact no_some h
theorem sln_ref11_Least_l22 {R : Type} : SlOk (R := R) C_ref11_Least 11 148 0 22 (sl_ref11_Least_l22 (fun _ _ _ _ _ _ _ _ _ _ _ _ _ _ _ _ => none)) := by
  intro vs es K r h
  unfold sl_ref11_Least_l22 at h
  split at h <;> exact no_some h
theorem sln_ref11_Least_l26 {R : Type} : SlOk (R := R) C_ref11_Least 11 148 0 26 (sl_ref11_Least_l26 (fun _ _ _ _ _ _ _ _ _ _ _ _ _ _ _ _ _ _ => none)) := by
  intro vs es K r h
  unfold sl_ref11_Least_l26 at h
  split at h <;> exact no_some h
theorem lok_ref11_Least_l11 {R : Type} (kf : Nat) : ∀ n, SlOk (R := R) C_ref11_Least 11 148 0 11 (sl_ref11_Least_l11 (ref11_Least_l11 kf n)) := by
  intro n
  induction n with
  | zero =>
    intro vs es K r h
    unfold sl_ref11_Least_l11 at h
    split at h <;> exact no_some h
  | succ k ih =>
    have hcf : CfOk (R := R) Tryd.prog glob raw (cf_ref11_Least (ref11_May kf) (ref11_Parts kf) (ref11_Reach kf) (ref11_alike kf) (fun _ _ _ _ _ _ _ _ _ _ _ _ _ _ => none) (ref11_Least_l11 kf k) (fun _ _ _ _ _ _ _ _ _ _ _ _ _ _ => none) (fun _ _ _ _ _ _ _ _ _ _ _ _ _ _ _ _ => none) (fun _ _ _ _ _ _ _ _ _ _ _ _ _ _ _ _ _ _ => none)) := (cf_cons (shok_27 (ok_ref11_May kf)) (cf_cons (shok_28 (ok_ref11_Parts kf)) (cf_cons (shok_29 (ok_ref11_Reach kf)) (cf_cons (shok_30 (ok_ref11_alike kf)) cf_nil))))
    have hlf : LfOk (R := R) C_ref11_Least 11 (lf_ref11_Least (ref11_May kf) (ref11_Parts kf) (ref11_Reach kf) (ref11_alike kf) (fun _ _ _ _ _ _ _ _ _ _ _ _ _ _ => none) (ref11_Least_l11 kf k) (fun _ _ _ _ _ _ _ _ _ _ _ _ _ _ => none) (fun _ _ _ _ _ _ _ _ _ _ _ _ _ _ _ _ => none) (fun _ _ _ _ _ _ _ _ _ _ _ _ _ _ _ _ _ _ => none)) := (lf_top (lf_cons (sln_ref11_Least_l8) (lf_cons ih (lf_cons (sln_ref11_Least_l18) (lf_cons (sln_ref11_Least_l22) (lf_cons (sln_ref11_Least_l26) lf_nil))))))
    intro vs es K r h
    unfold sl_ref11_Least_l11 at h
    split at h
    · exact loop_good (text_mixed t_ref11_Least) hcf hlf (text_loop t_ref11_Least 11).1 (text_loop t_ref11_Least 11).2 ((eq_ref11_Least_l11 (ref11_May kf) (ref11_Parts kf) (ref11_Reach kf) (ref11_alike kf) (fun _ _ _ _ _ _ _ _ _ _ _ _ _ _ => none) (ref11_Least_l11 kf k) (fun _ _ _ _ _ _ _ _ _ _ _ _ _ _ => none) (fun _ _ _ _ _ _ _ _ _ _ _ _ _ _ _ _ => none) (fun _ _ _ _ _ _ _ _ _ _ _ _ _ _ _ _ _ _ => none) _ _ _ _ _ _ _ _ _ _ _ _ _ _ K).trans h)
    · exact no_some h
theorem lok_ref11_Least_l8 {R : Type} (kf : Nat) : ∀ n, SlOk (R := R) C_ref11_Least 11 148 0 8 (sl_ref11_Least_l8 (ref11_Least_l8 kf n)) := by
  intro n
  induction n with
  | zero =>
    intro vs es K r h
    unfold sl_ref11_Least_l8 at h
    split at h <;> exact no_some h
  | succ k ih =>
    have hcf : CfOk (R := R) Tryd.prog glob raw (cf_ref11_Least (ref11_May kf) (ref11_Parts kf) (ref11_Reach kf) (ref11_alike kf) (ref11_Least_l8 kf k) (ref11_Least_l11 kf k) (fun _ _ _ _ _ _ _ _ _ _ _ _ _ _ => none) (fun _ _ _ _ _ _ _ _ _ _ _ _ _ _ _ _ => none) (fun _ _ _ _ _ _ _ _ _ _ _ _ _ _ _ _ _ _ => none)) := (cf_cons (shok_27 (ok_ref11_May kf)) (cf_cons (shok_28 (ok_ref11_Parts kf)) (cf_cons (shok_29 (ok_ref11_Reach kf)) (cf_cons (shok_30 (ok_ref11_alike kf)) cf_nil))))
    have hlf : LfOk (R := R) C_ref11_Least 11 (lf_ref11_Least (ref11_May kf) (ref11_Parts kf) (ref11_Reach kf) (ref11_alike kf) (ref11_Least_l8 kf k) (ref11_Least_l11 kf k) (fun _ _ _ _ _ _ _ _ _ _ _ _ _ _ => none) (fun _ _ _ _ _ _ _ _ _ _ _ _ _ _ _ _ => none) (fun _ _ _ _ _ _ _ _ _ _ _ _ _ _ _ _ _ _ => none)) := (lf_top (lf_cons ih (lf_cons (lok_ref11_Least_l11 kf k) (lf_cons (sln_ref11_Least_l18) (lf_cons (sln_ref11_Least_l22) (lf_cons (sln_ref11_Least_l26) lf_nil))))))
    intro vs es K r h
    unfold sl_ref11_Least_l8 at h
    split at h
    · exact loop_good (text_mixed t_ref11_Least) hcf hlf (text_loop t_ref11_Least 8).1 (text_loop t_ref11_Least 8).2 ((eq_ref11_Least_l8 (ref11_May kf) (ref11_Parts kf) (ref11_Reach kf) (ref11_alike kf) (ref11_Least_l8 kf k) (ref11_Least_l11 kf k) (fun _ _ _ _ _ _ _ _ _ _ _ _ _ _ => none) (fun _ _ _ _ _ _ _ _ _ _ _ _ _ _ _ _ => none) (fun _ _ _ _ _ _ _ _ _ _ _ _ _ _ _ _ _ _ => none) _ _ _ _ _ _ _ _ _ _ _ _ _ K).trans h)
    · exact no_some h
theorem lok_ref11_Least_l26 {R : Type} (kf : Nat) : ∀ n, SlOk (R := R) C_ref11_Least 11 148 0 26 (sl_ref11_Least_l26 (ref11_Least_l26 kf n)) := by
  intro n
  induction n with
  | zero =>
    intro vs es K r h
    unfold sl_ref11_Least_l26 at h
    split at h <;> exact no_some h
  | succ k ih =>
    have hcf : CfOk (R := R) Tryd.prog glob raw (cf_ref11_Least (ref11_May kf) (ref11_Parts kf) (ref11_Reach kf) (ref11_alike kf) (ref11_Least_l8 kf k) (ref11_Least_l11 kf k) (fun _ _ _ _ _ _ _ _ _ _ _ _ _ _ => none) (fun _ _ _ _ _ _ _ _ _ _ _ _ _ _ _ _ => none) (ref11_Least_l26 kf k)) := (cf_cons (shok_27 (ok_ref11_May kf)) (cf_cons (shok_28 (ok_ref11_Parts kf)) (cf_cons (shok_29 (ok_ref11_Reach kf)) (cf_cons (shok_30 (ok_ref11_alike kf)) cf_nil))))
    have hlf : LfOk (R := R) C_ref11_Least 11 (lf_ref11_Least (ref11_May kf) (ref11_Parts kf) (ref11_Reach kf) (ref11_alike kf) (ref11_Least_l8 kf k) (ref11_Least_l11 kf k) (fun _ _ _ _ _ _ _ _ _ _ _ _ _ _ => none) (fun _ _ _ _ _ _ _ _ _ _ _ _ _ _ _ _ => none) (ref11_Least_l26 kf k)) := (lf_top (lf_cons (lok_ref11_Least_l8 kf k) (lf_cons (lok_ref11_Least_l11 kf k) (lf_cons (sln_ref11_Least_l18) (lf_cons (sln_ref11_Least_l22) (lf_cons ih lf_nil))))))
    intro vs es K r h
    unfold sl_ref11_Least_l26 at h
    split at h
    · exact loop_good (text_mixed t_ref11_Least) hcf hlf (text_loop t_ref11_Least 26).1 (text_loop t_ref11_Least 26).2 ((eq_ref11_Least_l26 (ref11_May kf) (ref11_Parts kf) (ref11_Reach kf) (ref11_alike kf) (ref11_Least_l8 kf k) (ref11_Least_l11 kf k) (fun _ _ _ _ _ _ _ _ _ _ _ _ _ _ => none) (fun _ _ _ _ _ _ _ _ _ _ _ _ _ _ _ _ => none) (ref11_Least_l26 kf k) _ _ _ _ _ _ _ _ _ _ _ _ _ _ _ _ _ K).trans h)
    · exact no_some h
theorem lok_ref11_Least_l22 {R : Type} (kf : Nat) : ∀ n, SlOk (R := R) C_ref11_Least 11 148 0 22 (sl_ref11_Least_l22 (ref11_Least_l22 kf n)) := by
  intro n
  induction n with
  | zero =>
    intro vs es K r h
    unfold sl_ref11_Least_l22 at h
    split at h <;> exact no_some h
  | succ k ih =>
    have hcf : CfOk (R := R) Tryd.prog glob raw (cf_ref11_Least (ref11_May kf) (ref11_Parts kf) (ref11_Reach kf) (ref11_alike kf) (ref11_Least_l8 kf k) (ref11_Least_l11 kf k) (fun _ _ _ _ _ _ _ _ _ _ _ _ _ _ => none) (ref11_Least_l22 kf k) (ref11_Least_l26 kf k)) := (cf_cons (shok_27 (ok_ref11_May kf)) (cf_cons (shok_28 (ok_ref11_Parts kf)) (cf_cons (shok_29 (ok_ref11_Reach kf)) (cf_cons (shok_30 (ok_ref11_alike kf)) cf_nil))))
    have hlf : LfOk (R := R) C_ref11_Least 11 (lf_ref11_Least (ref11_May kf) (ref11_Parts kf) (ref11_Reach kf) (ref11_alike kf) (ref11_Least_l8 kf k) (ref11_Least_l11 kf k) (fun _ _ _ _ _ _ _ _ _ _ _ _ _ _ => none) (ref11_Least_l22 kf k) (ref11_Least_l26 kf k)) := (lf_top (lf_cons (lok_ref11_Least_l8 kf k) (lf_cons (lok_ref11_Least_l11 kf k) (lf_cons (sln_ref11_Least_l18) (lf_cons ih (lf_cons (lok_ref11_Least_l26 kf k) lf_nil))))))
    intro vs es K r h
    unfold sl_ref11_Least_l22 at h
    split at h
    · exact loop_good (text_mixed t_ref11_Least) hcf hlf (text_loop t_ref11_Least 22).1 (text_loop t_ref11_Least 22).2 ((eq_ref11_Least_l22 (ref11_May kf) (ref11_Parts kf) (ref11_Reach kf) (ref11_alike kf) (ref11_Least_l8 kf k) (ref11_Least_l11 kf k) (fun _ _ _ _ _ _ _ _ _ _ _ _ _ _ => none) (ref11_Least_l22 kf k) (ref11_Least_l26 kf k) _ _ _ _ _ _ _ _ _ _ _ _ _ _ _ K).trans h)
    · exact no_some h
theorem lok_ref11_Least_l18 {R : Type} (kf : Nat) : ∀ n, SlOk (R := R) C_ref11_Least 11 148 0 18 (sl_ref11_Least_l18 (ref11_Least_l18 kf n)) := by
  intro n
  induction n with
  | zero =>
    intro vs es K r h
    unfold sl_ref11_Least_l18 at h
    split at h <;> exact no_some h
  | succ k ih =>
    have hcf : CfOk (R := R) Tryd.prog glob raw (cf_ref11_Least (ref11_May kf) (ref11_Parts kf) (ref11_Reach kf) (ref11_alike kf) (ref11_Least_l8 kf k) (ref11_Least_l11 kf k) (ref11_Least_l18 kf k) (ref11_Least_l22 kf k) (ref11_Least_l26 kf k)) := (cf_cons (shok_27 (ok_ref11_May kf)) (cf_cons (shok_28 (ok_ref11_Parts kf)) (cf_cons (shok_29 (ok_ref11_Reach kf)) (cf_cons (shok_30 (ok_ref11_alike kf)) cf_nil))))
    have hlf : LfOk (R := R) C_ref11_Least 11 (lf_ref11_Least (ref11_May kf) (ref11_Parts kf) (ref11_Reach kf) (ref11_alike kf) (ref11_Least_l8 kf k) (ref11_Least_l11 kf k) (ref11_Least_l18 kf k) (ref11_Least_l22 kf k) (ref11_Least_l26 kf k)) := (lf_top (lf_cons (lok_ref11_Least_l8 kf k) (lf_cons (lok_ref11_Least_l11 kf k) (lf_cons ih (lf_cons (lok_ref11_Least_l22 kf k) (lf_cons (lok_ref11_Least_l26 kf k) lf_nil))))))
    intro vs es K r h
    unfold sl_ref11_Least_l18 at h
    split at h
    · exact loop_good (text_mixed t_ref11_Least) hcf hlf (text_loop t_ref11_Least 18).1 (text_loop t_ref11_Least 18).2 ((eq_ref11_Least_l18 (ref11_May kf) (ref11_Parts kf) (ref11_Reach kf) (ref11_alike kf) (ref11_Least_l8 kf k) (ref11_Least_l11 kf k) (ref11_Least_l18 kf k) (ref11_Least_l22 kf k) (ref11_Least_l26 kf k) _ _ _ _ _ _ _ _ _ _ _ _ _ K).trans h)
    · exact no_some h
theorem ok_ref11_Least {R : Type} (kf : Nat) : Ok_ref11_Least (R := R) (ref11_Least kf) := by
  have hcf : CfOk (R := R) Tryd.prog glob raw (cf_ref11_Least (ref11_May kf) (ref11_Parts kf) (ref11_Reach kf) (ref11_alike kf) (ref11_Least_l8 kf kf) (ref11_Least_l11 kf kf) (ref11_Least_l18 kf kf) (ref11_Least_l22 kf kf) (ref11_Least_l26 kf kf)) := (cf_cons (shok_27 (ok_ref11_May kf)) (cf_cons (shok_28 (ok_ref11_Parts kf)) (cf_cons (shok_29 (ok_ref11_Reach kf)) (cf_cons (shok_30 (ok_ref11_alike kf)) cf_nil))))
  have hlf : LfOk (R := R) C_ref11_Least 11 (lf_ref11_Least (ref11_May kf) (ref11_Parts kf) (ref11_Reach kf) (ref11_alike kf) (ref11_Least_l8 kf kf) (ref11_Least_l11 kf kf) (ref11_Least_l18 kf kf) (ref11_Least_l22 kf kf) (ref11_Least_l26 kf kf)) := (lf_top (lf_cons (lok_ref11_Least_l8 kf kf) (lf_cons (lok_ref11_Least_l11 kf kf) (lf_cons (lok_ref11_Least_l18 kf kf) (lf_cons (lok_ref11_Least_l22 kf kf) (lf_cons (lok_ref11_Least_l26 kf kf) lf_nil))))))
  intro v1 v2 v3 K r h
  exact run_good t_ref11_Least hcf hlf ((eq_ref11_Least (ref11_May kf) (ref11_Parts kf) (ref11_Reach kf) (ref11_alike kf) (ref11_Least_l8 kf kf) (ref11_Least_l11 kf kf) (ref11_Least_l18 kf kf) (ref11_Least_l22 kf kf) (ref11_Least_l26 kf kf) v1 v2 v3 K).trans h)
theorem t_law0_Place : textOk C_law0_Place.bef Tryd.prog 23 = true := by kernel_rfl
theorem ok_law0_Place {R : Type} : Ok_law0_Place (R := R) (law0_Place) := by
  have hcf : CfOk (R := R) Tryd.prog glob raw (cf_law0_Place) := cf_nil
  have hlf : LfOk (R := R) C_law0_Place 23 (lf_law0_Place) := lf_none
  intro v1 v2 K r h
  exact run_good t_law0_Place hcf hlf ((eq_law0_Place v1 v2 K).trans h)
theorem t_ref11_Same : textOk C_ref11_Same.bef Tryd.prog 22 = true := by kernel_rfl
theorem sln_ref11_Same_l4 {R : Type} : SlOk (R := R) C_ref11_Same 22 96 0 4 (sl_ref11_Same_l4 (fun _ _ _ _ _ _ _ _ _ => none)) := by
  intro vs es K r h
  unfold sl_ref11_Same_l4 at h
  split at h <;> exact no_some h
theorem sln_ref11_Same_l9 {R : Type} : SlOk (R := R) C_ref11_Same 22 96 0 9 (sl_ref11_Same_l9 (fun _ _ _ _ _ _ _ _ _ => none)) := by
  intro vs es K r h
  unfold sl_ref11_Same_l9 at h
  split at h <;> exact no_some h
theorem sln_ref11_Same_l14 {R : Type} : SlOk (R := R) C_ref11_Same 22 96 0 14 (sl_ref11_Same_l14 (fun _ _ _ _ _ _ _ _ _ _ => none)) := by
  intro vs es K r h
  unfold sl_ref11_Same_l14 at h
  split at h <;> exact no_some h
theorem lok_ref11_Same_l4 {R : Type} (kf : Nat) : ∀ n, SlOk (R := R) C_ref11_Same 22 96 0 4 (sl_ref11_Same_l4 (ref11_Same_l4 kf n)) := by
  intro n
  induction n with
  | zero =>
    intro vs es K r h
    unfold sl_ref11_Same_l4 at h
    split at h <;> exact no_some h
  | succ k ih =>
    have hcf : CfOk (R := R) Tryd.prog glob raw (cf_ref11_Same (ref11_Same_l4 kf k) (fun _ _ _ _ _ _ _ _ _ => none) (fun _ _ _ _ _ _ _ _ _ _ => none)) := cf_nil
    have hlf : LfOk (R := R) C_ref11_Same 22 (lf_ref11_Same (ref11_Same_l4 kf k) (fun _ _ _ _ _ _ _ _ _ => none) (fun _ _ _ _ _ _ _ _ _ _ => none)) := (lf_top (lf_cons ih (lf_cons (sln_ref11_Same_l9) (lf_cons (sln_ref11_Same_l14) lf_nil))))
    intro vs es K r h
    unfold sl_ref11_Same_l4 at h
    split at h
    · exact loop_good (text_mixed t_ref11_Same) hcf hlf (text_loop t_ref11_Same 4).1 (text_loop t_ref11_Same 4).2 ((eq_ref11_Same_l4 (ref11_Same_l4 kf k) (fun _ _ _ _ _ _ _ _ _ => none) (fun _ _ _ _ _ _ _ _ _ _ => none) _ _ _ _ _ _ _ K).trans h)
    · exact no_some h
theorem lok_ref11_Same_l14 {R : Type} (kf : Nat) : ∀ n, SlOk (R := R) C_ref11_Same 22 96 0 14 (sl_ref11_Same_l14 (ref11_Same_l14 kf n)) := by
  intro n
  induction n with
  | zero =>
    intro vs es K r h
    unfold sl_ref11_Same_l14 at h
    split at h <;> exact no_some h
  | succ k ih =>
    have hcf : CfOk (R := R) Tryd.prog glob raw (cf_ref11_Same (ref11_Same_l4 kf k) (fun _ _ _ _ _ _ _ _ _ => none) (ref11_Same_l14 kf k)) := cf_nil
    have hlf : LfOk (R := R) C_ref11_Same 22 (lf_ref11_Same (ref11_Same_l4 kf k) (fun _ _ _ _ _ _ _ _ _ => none) (ref11_Same_l14 kf k)) := (lf_top (lf_cons (lok_ref11_Same_l4 kf k) (lf_cons (sln_ref11_Same_l9) (lf_cons ih lf_nil))))
    intro vs es K r h
    unfold sl_ref11_Same_l14 at h
    split at h
    · exact loop_good (text_mixed t_ref11_Same) hcf hlf (text_loop t_ref11_Same 14).1 (text_loop t_ref11_Same 14).2 ((eq_ref11_Same_l14 (ref11_Same_l4 kf k) (fun _ _ _ _ _ _ _ _ _ => none) (ref11_Same_l14 kf k) _ _ _ _ _ _ _ _ K).trans h)
    · exact no_some h
theorem lok_ref11_Same_l9 {R : Type} (kf : Nat) : ∀ n, SlOk (R := R) C_ref11_Same 22 96 0 9 (sl_ref11_Same_l9 (ref11_Same_l9 kf n)) := by
  intro n
  induction n with
  | zero =>
    intro vs es K r h
    unfold sl_ref11_Same_l9 at h
    split at h <;> exact no_some h
  | succ k ih =>
    have hcf : CfOk (R := R) Tryd.prog glob raw (cf_ref11_Same (ref11_Same_l4 kf k) (ref11_Same_l9 kf k) (ref11_Same_l14 kf k)) := cf_nil
    have hlf : LfOk (R := R) C_ref11_Same 22 (lf_ref11_Same (ref11_Same_l4 kf k) (ref11_Same_l9 kf k) (ref11_Same_l14 kf k)) := (lf_top (lf_cons (lok_ref11_Same_l4 kf k) (lf_cons ih (lf_cons (lok_ref11_Same_l14 kf k) lf_nil))))
    intro vs es K r h
    unfold sl_ref11_Same_l9 at h
    split at h
    · exact loop_good (text_mixed t_ref11_Same) hcf hlf (text_loop t_ref11_Same 9).1 (text_loop t_ref11_Same 9).2 ((eq_ref11_Same_l9 (ref11_Same_l4 kf k) (ref11_Same_l9 kf k) (ref11_Same_l14 kf k) _ _ _ _ _ _ _ K).trans h)
    · exact no_some h
theorem ok_ref11_Same {R : Type} (kf : Nat) : Ok_ref11_Same (R := R) (ref11_Same kf) := by
  have hcf : CfOk (R := R) Tryd.prog glob raw (cf_ref11_Same (ref11_Same_l4 kf kf) (ref11_Same_l9 kf kf) (ref11_Same_l14 kf kf)) := cf_nil
  have hlf : LfOk (R := R) C_ref11_Same 22 (lf_ref11_Same (ref11_Same_l4 kf kf) (ref11_Same_l9 kf kf) (ref11_Same_l14 kf kf)) := (lf_top (lf_cons (lok_ref11_Same_l4 kf kf) (lf_cons (lok_ref11_Same_l9 kf kf) (lf_cons (lok_ref11_Same_l14 kf kf) lf_nil))))
  intro v1 v2 v3 v4 v5 v6 K r h
  exact run_good t_ref11_Same hcf hlf ((eq_ref11_Same (ref11_Same_l4 kf kf) (ref11_Same_l9 kf kf) (ref11_Same_l14 kf kf) v1 v2 v3 v4 v5 v6 K).trans h)
theorem t_law15_ImageTurned : textOk C_law15_ImageTurned.bef Tryd.prog 5 = true := by kernel_rfl
theorem ok_law15_ImageTurned {R : Type} (kf : Nat) : Ok_law15_ImageTurned (R := R) (law15_ImageTurned kf) := by
  have hcf : CfOk (R := R) Tryd.prog glob raw (cf_law15_ImageTurned (law15_begun kf) (play_Dfa kf) (ref11_Least kf) (image_Put kf) (image_Take kf) law0_Place (ref11_Same kf)) := (cf_cons (shok_9 (ok_law15_begun kf)) (cf_cons (shok_12 (ok_play_Dfa kf)) (cf_cons (shok_11 (ok_ref11_Least kf)) (cf_cons (shok_13 (ok_image_Put kf)) (cf_cons (shok_18 (ok_image_Take kf)) (cf_cons (shok_23 ok_law0_Place) (cf_cons (shok_22 (ok_ref11_Same kf)) cf_nil)))))))
  have hlf : LfOk (R := R) C_law15_ImageTurned 5 (lf_law15_ImageTurned (law15_begun kf) (play_Dfa kf) (ref11_Least kf) (image_Put kf) (image_Take kf) law0_Place (ref11_Same kf)) := lf_none
  intro v1 v2 v3 v4 v5 v6 v7 K r h
  exact run_good t_law15_ImageTurned hcf hlf ((eq_law15_ImageTurned (law15_begun kf) (play_Dfa kf) (ref11_Least kf) (image_Put kf) (image_Take kf) law0_Place (ref11_Same kf) v1 v2 v3 v4 v5 v6 v7 K).trans h)
end
end Go.Ab.T
