/- ShoTC: a part of the proofs of this seat's statements. -/
import Derived.Test.YtlihheeknnnbmaaDoorShoTB
import Derived.Test.YtlihheeknnnbmaaDoorKnot
import Derived.Test.YtlihheeknnnbmaaDoorShoTP
namespace Go.Ab.T
open Go Go.Ab Go.Proofs
set_option maxRecDepth 100000
set_option linter.unusedVariables false
noncomputable section
def Ok_law7_ShowAll {R : Type} (c : T0 R) : Prop := ∀ (v1 : Int) (v2 : LI) (v3 : (List (Rose (Int × (LI × Unit))))) (K : S → List Ent → Option R) (r : R), c v1 v2 v3 (fun (r0 : Bool) => K (.bool r0) []) = some r → ∃ v es, FnOk Tryd.prog glob 3 (npF raw 3 []) [.st [.int .i64 v1, .arr 4 (.int .u64) v2, .sl (.rose (.pair (.int .i64) (.pair (.arr 4 (.int .u64)) .unit))) v3]] [] v es ∧ K v es = some r
theorem okn_law7_ShowAll {R : Type} : Ok_law7_ShowAll (R := R) (fun _ _ _ _ => none) := fun _ _ _ _ _ h => no_some h
theorem shok_3 {R : Type} {c_law7_ShowAll : T0 R} (h_law7_ShowAll : Ok_law7_ShowAll c_law7_ShowAll) : ShOk Tryd.prog glob raw 3 (sh3 c_law7_ShowAll) := by
  intro av es K r h
  unfold sh3 at h
  split at h
  · exact h_law7_ShowAll _ _ _ _ _ h
  · exact no_some h
def Ok_law7_begun {R : Type} (c : (Bool → Option R) → Option R) : Prop := ∀ (K : S → List Ent → Option R) (r : R), c (fun (r0 : Bool) => K (.bool r0) []) = some r → ∃ v es, FnOk Tryd.prog glob 9 (npF raw 9 []) [] [] v es ∧ K v es = some r
theorem okn_law7_begun {R : Type} : Ok_law7_begun (R := R) (fun _ => none) := fun _ _ h => no_some h
theorem shok_9 {R : Type} {c_law7_begun : (Bool → Option R) → Option R} (h_law7_begun : Ok_law7_begun c_law7_begun) : ShOk Tryd.prog glob raw 9 (sh9 c_law7_begun) := by
  intro av es K r h
  unfold sh9 at h
  split at h
  · exact h_law7_begun _ _ h
  · exact no_some h
def Ok_law5_Light {R : Type} (c : T51 R) : Prop := ∀ (v1 : Int) (v2 : LI) (v3 : (List (Rose (Int × (LI × Unit))))) (v4 : Int) (K : S → List Ent → Option R) (r : R), c v1 v2 v3 v4 (fun (r0 : Bool) => K (.bool r0) []) = some r → ∃ v es, FnOk Tryd.prog glob 10 (npF raw 10 []) [.st [.int .i64 v1, .arr 4 (.int .u64) v2, .sl (.rose (.pair (.int .i64) (.pair (.arr 4 (.int .u64)) .unit))) v3], .int .i64 v4] [] v es ∧ K v es = some r
theorem okn_law5_Light {R : Type} : Ok_law5_Light (R := R) (fun _ _ _ _ _ => none) := fun _ _ _ _ _ _ h => no_some h
theorem shok_10 {R : Type} {c_law5_Light : T51 R} (h_law5_Light : Ok_law5_Light c_law5_Light) : ShOk Tryd.prog glob raw 10 (sh10 c_law5_Light) := by
  intro av es K r h
  unfold sh10 at h
  split at h
  · exact h_law5_Light _ _ _ _ _ _ h
  · exact no_some h
def Ok_ref5_Copy {R : Type} (c : T1 R) : Prop := ∀ (v1 : Int) (v2 : LI) (v3 : (List (Rose (Int × (LI × Unit))))) (K : S → List Ent → Option R) (r : R), c v1 v2 v3 (fun (r0 : Int) (r1 : LI) (r2 : (List (Rose (Int × (LI × Unit))))) => K (.st [.int .i64 r0, .arr 4 (.int .u64) r1, .own (.rose (.pair (.int .i64) (.pair (.arr 4 (.int .u64)) .unit))) 0]) [.buf (.rose (.pair (.int .i64) (.pair (.arr 4 (.int .u64)) .unit))) r2 false]) = some r → ∃ v es, FnOk Tryd.prog glob 11 (npF raw 11 []) [.st [.int .i64 v1, .arr 4 (.int .u64) v2, .sl (.rose (.pair (.int .i64) (.pair (.arr 4 (.int .u64)) .unit))) v3]] [] v es ∧ K v es = some r
theorem okn_ref5_Copy {R : Type} : Ok_ref5_Copy (R := R) (fun _ _ _ _ => none) := fun _ _ _ _ _ h => no_some h
theorem shok_11 {R : Type} {c_ref5_Copy : T1 R} (h_ref5_Copy : Ok_ref5_Copy c_ref5_Copy) : ShOk Tryd.prog glob raw 11 (sh11 c_ref5_Copy) := by
  intro av es K r h
  unfold sh11 at h
  split at h
  · exact h_ref5_Copy _ _ _ _ _ h
  · exact no_some h
def Ok_show_Show {R : Type} (c : T6 R) : Prop := ∀ (v1 : Int) (v2 : LI) (v3 : (List (Rose (Int × (LI × Unit))))) (K : S → List Ent → Option R) (r : R), c v1 v2 v3 (fun (r0 : LI) => K (.str r0) []) = some r → ∃ v es, FnOk Tryd.prog glob 12 (npF raw 12 []) [.st [.int .i64 v1, .arr 4 (.int .u64) v2, .sl (.rose (.pair (.int .i64) (.pair (.arr 4 (.int .u64)) .unit))) v3]] [] v es ∧ K v es = some r
theorem okn_show_Show {R : Type} : Ok_show_Show (R := R) (fun _ _ _ _ => none) := fun _ _ _ _ _ h => no_some h
theorem shok_12 {R : Type} {c_show_Show : T6 R} (h_show_Show : Ok_show_Show c_show_Show) : ShOk Tryd.prog glob raw 12 (sh12 c_show_Show) := by
  intro av es K r h
  unfold sh12 at h
  split at h
  · exact h_show_Show _ _ _ _ _ h
  · exact no_some h
def Ok_ref6_Show {R : Type} (c : T6 R) : Prop := ∀ (v1 : Int) (v2 : LI) (v3 : (List (Rose (Int × (LI × Unit))))) (K : S → List Ent → Option R) (r : R), c v1 v2 v3 (fun (r0 : LI) => K (.str r0) []) = some r → ∃ v es, FnOk Tryd.prog glob 13 (npF raw 13 []) [.st [.int .i64 v1, .arr 4 (.int .u64) v2, .sl (.rose (.pair (.int .i64) (.pair (.arr 4 (.int .u64)) .unit))) v3]] [] v es ∧ K v es = some r
theorem okn_ref6_Show {R : Type} : Ok_ref6_Show (R := R) (fun _ _ _ _ => none) := fun _ _ _ _ _ h => no_some h
theorem shok_13 {R : Type} {c_ref6_Show : T6 R} (h_ref6_Show : Ok_ref6_Show c_ref6_Show) : ShOk Tryd.prog glob raw 13 (sh13 c_ref6_Show) := by
  intro av es K r h
  unfold sh13 at h
  split at h
  · exact h_ref6_Show _ _ _ _ _ h
  · exact no_some h
def Ok_ref5_Same {R : Type} (c : T7 R) : Prop := ∀ (v1 : Int) (v2 : LI) (v3 : (List (Rose (Int × (LI × Unit))))) (v4 : Int) (v5 : LI) (v6 : (List (Rose (Int × (LI × Unit))))) (K : S → List Ent → Option R) (r : R), c v1 v2 v3 v4 v5 v6 (fun (r0 : Bool) => K (.bool r0) []) = some r → ∃ v es, FnOk Tryd.prog glob 14 (npF raw 14 []) [.st [.int .i64 v1, .arr 4 (.int .u64) v2, .sl (.rose (.pair (.int .i64) (.pair (.arr 4 (.int .u64)) .unit))) v3], .st [.int .i64 v4, .arr 4 (.int .u64) v5, .sl (.rose (.pair (.int .i64) (.pair (.arr 4 (.int .u64)) .unit))) v6]] [] v es ∧ K v es = some r
theorem okn_ref5_Same {R : Type} : Ok_ref5_Same (R := R) (fun _ _ _ _ _ _ _ => none) := fun _ _ _ _ _ _ _ _ h => no_some h
theorem shok_14 {R : Type} {c_ref5_Same : T7 R} (h_ref5_Same : Ok_ref5_Same c_ref5_Same) : ShOk Tryd.prog glob raw 14 (sh14 c_ref5_Same) := by
  intro av es K r h
  unfold sh14 at h
  split at h
  · exact h_ref5_Same _ _ _ _ _ _ _ _ h
  · exact no_some h
def Ok_ref5_Bytes {R : Type} (c : T19 R) : Prop := ∀ (v1 : LI) (K : S → List Ent → Option R) (r : R), c v1 (fun (r0 : Int) (r1 : LI) (r2 : (List (Rose (Int × (LI × Unit))))) => K (.st [.int .i64 r0, .arr 4 (.int .u64) r1, .own (.rose (.pair (.int .i64) (.pair (.arr 4 (.int .u64)) .unit))) 0]) [.buf (.rose (.pair (.int .i64) (.pair (.arr 4 (.int .u64)) .unit))) r2 false]) = some r → ∃ v es, FnOk Tryd.prog glob 18 (npF raw 18 []) [.arr 4 (.int .u64) v1] [] v es ∧ K v es = some r
theorem okn_ref5_Bytes {R : Type} : Ok_ref5_Bytes (R := R) (fun _ _ => none) := fun _ _ _ h => no_some h
theorem shok_18 {R : Type} {c_ref5_Bytes : T19 R} (h_ref5_Bytes : Ok_ref5_Bytes c_ref5_Bytes) : ShOk Tryd.prog glob raw 18 (sh18 c_ref5_Bytes) := by
  intro av es K r h
  unfold sh18 at h
  split at h
  · exact h_ref5_Bytes _ _ _ h
  · exact no_some h
def Ok_ref1_Of {R : Type} (c : LI → (LI → Option R) → Option R) : Prop := ∀ (v1 : LI) (K : S → List Ent → Option R) (r : R), c v1 (fun (r0 : LI) => K (.arr 4 (.int .u64) r0) []) = some r → ∃ v es, FnOk Tryd.prog glob 20 (npF raw 20 []) [.sl (.int .u8) v1] [] v es ∧ K v es = some r
theorem okn_ref1_Of {R : Type} : Ok_ref1_Of (R := R) (fun _ _ => none) := fun _ _ _ h => no_some h
theorem shok_20 {R : Type} {c_ref1_Of : LI → (LI → Option R) → Option R} (h_ref1_Of : Ok_ref1_Of c_ref1_Of) : ShOk Tryd.prog glob raw 20 (sh20 c_ref1_Of) := by
  intro av es K r h
  unfold sh20 at h
  split at h
  · exact h_ref1_Of _ _ _ h
  · exact no_some h
def Ok_ref5_Star {R : Type} (c : T1 R) : Prop := ∀ (v1 : Int) (v2 : LI) (v3 : (List (Rose (Int × (LI × Unit))))) (K : S → List Ent → Option R) (r : R), c v1 v2 v3 (fun (r0 : Int) (r1 : LI) (r2 : (List (Rose (Int × (LI × Unit))))) => K (.st [.int .i64 r0, .arr 4 (.int .u64) r1, .own (.rose (.pair (.int .i64) (.pair (.arr 4 (.int .u64)) .unit))) 0]) [.buf (.rose (.pair (.int .i64) (.pair (.arr 4 (.int .u64)) .unit))) r2 false]) = some r → ∃ v es, FnOk Tryd.prog glob 21 (npF raw 21 []) [.st [.int .i64 v1, .arr 4 (.int .u64) v2, .sl (.rose (.pair (.int .i64) (.pair (.arr 4 (.int .u64)) .unit))) v3]] [] v es ∧ K v es = some r
theorem okn_ref5_Star {R : Type} : Ok_ref5_Star (R := R) (fun _ _ _ _ => none) := fun _ _ _ _ _ h => no_some h
theorem shok_21 {R : Type} {c_ref5_Star : T1 R} (h_ref5_Star : Ok_ref5_Star c_ref5_Star) : ShOk Tryd.prog glob raw 21 (sh21 c_ref5_Star) := by
  intro av es K r h
  unfold sh21 at h
  split at h
  · exact h_ref5_Star _ _ _ _ _ h
  · exact no_some h
def Ok_ref5_Empty {R : Type} (c : T4 R) : Prop := ∀ (K : S → List Ent → Option R) (r : R), c (fun (r0 : Int) (r1 : LI) (r2 : (List (Rose (Int × (LI × Unit))))) => K (.st [.int .i64 r0, .arr 4 (.int .u64) r1, .own (.rose (.pair (.int .i64) (.pair (.arr 4 (.int .u64)) .unit))) 0]) [.buf (.rose (.pair (.int .i64) (.pair (.arr 4 (.int .u64)) .unit))) r2 false]) = some r → ∃ v es, FnOk Tryd.prog glob 22 (npF raw 22 []) [] [] v es ∧ K v es = some r
theorem okn_ref5_Empty {R : Type} : Ok_ref5_Empty (R := R) (fun _ => none) := fun _ _ h => no_some h
theorem shok_22 {R : Type} {c_ref5_Empty : T4 R} (h_ref5_Empty : Ok_ref5_Empty c_ref5_Empty) : ShOk Tryd.prog glob raw 22 (sh22 c_ref5_Empty) := by
  intro av es K r h
  unfold sh22 at h
  split at h
  · exact h_ref5_Empty _ _ h
  · exact no_some h
def Ok_ref5_Nodes {R : Type} (c : T8 R) : Prop := ∀ (v1 : Int) (v2 : LI) (v3 : (List (Rose (Int × (LI × Unit))))) (K : S → List Ent → Option R) (r : R), c v1 v2 v3 (fun (r0 : Int) => K (.int .i64 r0) []) = some r → ∃ v es, FnOk Tryd.prog glob 23 (npF raw 23 []) [.st [.int .i64 v1, .arr 4 (.int .u64) v2, .sl (.rose (.pair (.int .i64) (.pair (.arr 4 (.int .u64)) .unit))) v3]] [] v es ∧ K v es = some r
theorem okn_ref5_Nodes {R : Type} : Ok_ref5_Nodes (R := R) (fun _ _ _ _ => none) := fun _ _ _ _ _ h => no_some h
theorem shok_23 {R : Type} {c_ref5_Nodes : T8 R} (h_ref5_Nodes : Ok_ref5_Nodes c_ref5_Nodes) : ShOk Tryd.prog glob raw 23 (sh23 c_ref5_Nodes) := by
  intro av es K r h
  unfold sh23 at h
  split at h
  · exact h_ref5_Nodes _ _ _ _ _ h
  · exact no_some h
def Ok_ref5_Depth {R : Type} (c : T8 R) : Prop := ∀ (v1 : Int) (v2 : LI) (v3 : (List (Rose (Int × (LI × Unit))))) (K : S → List Ent → Option R) (r : R), c v1 v2 v3 (fun (r0 : Int) => K (.int .i64 r0) []) = some r → ∃ v es, FnOk Tryd.prog glob 24 (npF raw 24 []) [.st [.int .i64 v1, .arr 4 (.int .u64) v2, .sl (.rose (.pair (.int .i64) (.pair (.arr 4 (.int .u64)) .unit))) v3]] [] v es ∧ K v es = some r
theorem okn_ref5_Depth {R : Type} : Ok_ref5_Depth (R := R) (fun _ _ _ _ => none) := fun _ _ _ _ _ h => no_some h
theorem shok_24 {R : Type} {c_ref5_Depth : T8 R} (h_ref5_Depth : Ok_ref5_Depth c_ref5_Depth) : ShOk Tryd.prog glob raw 24 (sh24 c_ref5_Depth) := by
  intro av es K r h
  unfold sh24 at h
  split at h
  · exact h_ref5_Depth _ _ _ _ _ h
  · exact no_some h
def Ok_rx_Plain {R : Type} (c : T0 R) : Prop := ∀ (v1 : Int) (v2 : LI) (v3 : (List (Rose (Int × (LI × Unit))))) (K : S → List Ent → Option R) (r : R), c v1 v2 v3 (fun (r0 : Bool) => K (.bool r0) []) = some r → ∃ v es, FnOk Tryd.prog glob 25 (npF raw 25 []) [.st [.int .i64 v1, .arr 4 (.int .u64) v2, .sl (.rose (.pair (.int .i64) (.pair (.arr 4 (.int .u64)) .unit))) v3]] [] v es ∧ K v es = some r
theorem okn_rx_Plain {R : Type} : Ok_rx_Plain (R := R) (fun _ _ _ _ => none) := fun _ _ _ _ _ h => no_some h
theorem shok_25 {R : Type} {c_rx_Plain : T0 R} (h_rx_Plain : Ok_rx_Plain c_rx_Plain) : ShOk Tryd.prog glob raw 25 (sh25 c_rx_Plain) := by
  intro av es K r h
  unfold sh25 at h
  split at h
  · exact h_rx_Plain _ _ _ _ _ h
  · exact no_some h
def Ok_show_writer_rx {R : Type} (c : T9 R) : Prop := ∀ (v1 : Int) (v2 : LI) (v3 : (List (Rose (Int × (LI × Unit))))) (v4 : Bool) (v5 : LI) (K : S → List Ent → Option R) (r : R), c v1 v2 v3 v4 v5 (fun (r0 : Bool) (r1 : LI) => K (.tup []) [.box (.st [.own (.int .u8) 1, .bool r0]) false, .buf (.int .u8) r1 false]) = some r → ∃ v es, FnOk Tryd.prog glob 26 (npF raw 26 [.box (.st [.own (.int .u8) 1, .bool v4]) false, .buf (.int .u8) v5 false]) [.ptr 0 [], .st [.int .i64 v1, .arr 4 (.int .u64) v2, .sl (.rose (.pair (.int .i64) (.pair (.arr 4 (.int .u64)) .unit))) v3]] [.box (.st [.own (.int .u8) 1, .bool v4]) false, .buf (.int .u8) v5 false] v es ∧ K v es = some r
theorem okn_show_writer_rx {R : Type} : Ok_show_writer_rx (R := R) (fun _ _ _ _ _ _ => none) := fun _ _ _ _ _ _ _ h => no_some h
theorem shok_26 {R : Type} {c_show_writer_rx : T9 R} (h_show_writer_rx : Ok_show_writer_rx c_show_writer_rx) : ShOk Tryd.prog glob raw 26 (sh26 c_show_writer_rx) := by
  intro av es K r h
  unfold sh26 at h
  split at h
  · exact h_show_writer_rx _ _ _ _ _ _ _ h
  · exact no_some h
def Ok_ref5_Plain {R : Type} (c : T0 R) : Prop := ∀ (v1 : Int) (v2 : LI) (v3 : (List (Rose (Int × (LI × Unit))))) (K : S → List Ent → Option R) (r : R), c v1 v2 v3 (fun (r0 : Bool) => K (.bool r0) []) = some r → ∃ v es, FnOk Tryd.prog glob 27 (npF raw 27 []) [.st [.int .i64 v1, .arr 4 (.int .u64) v2, .sl (.rose (.pair (.int .i64) (.pair (.arr 4 (.int .u64)) .unit))) v3]] [] v es ∧ K v es = some r
theorem okn_ref5_Plain {R : Type} : Ok_ref5_Plain (R := R) (fun _ _ _ _ => none) := fun _ _ _ _ _ h => no_some h
theorem shok_27 {R : Type} {c_ref5_Plain : T0 R} (h_ref5_Plain : Ok_ref5_Plain c_ref5_Plain) : ShOk Tryd.prog glob raw 27 (sh27 c_ref5_Plain) := by
  intro av es K r h
  unfold sh27 at h
  split at h
  · exact h_ref5_Plain _ _ _ _ _ h
  · exact no_some h
def Ok_ref6_text {R : Type} (c : T6 R) : Prop := ∀ (v1 : Int) (v2 : LI) (v3 : (List (Rose (Int × (LI × Unit))))) (K : S → List Ent → Option R) (r : R), c v1 v2 v3 (fun (r0 : LI) => K (.str r0) []) = some r → ∃ v es, FnOk Tryd.prog glob 28 (npF raw 28 []) [.st [.int .i64 v1, .arr 4 (.int .u64) v2, .sl (.rose (.pair (.int .i64) (.pair (.arr 4 (.int .u64)) .unit))) v3]] [] v es ∧ K v es = some r
theorem okn_ref6_text {R : Type} : Ok_ref6_text (R := R) (fun _ _ _ _ => none) := fun _ _ _ _ _ h => no_some h
theorem shok_28 {R : Type} {c_ref6_text : T6 R} (h_ref6_text : Ok_ref6_text c_ref6_text) : ShOk Tryd.prog glob raw 28 (sh28 c_ref6_text) := by
  intro av es K r h
  unfold sh28 at h
  split at h
  · exact h_ref6_text _ _ _ _ _ h
  · exact no_some h
def Ok_ref5_None {R : Type} (c : T4 R) : Prop := ∀ (K : S → List Ent → Option R) (r : R), c (fun (r0 : Int) (r1 : LI) (r2 : (List (Rose (Int × (LI × Unit))))) => K (.st [.int .i64 r0, .arr 4 (.int .u64) r1, .own (.rose (.pair (.int .i64) (.pair (.arr 4 (.int .u64)) .unit))) 0]) [.buf (.rose (.pair (.int .i64) (.pair (.arr 4 (.int .u64)) .unit))) r2 false]) = some r → ∃ v es, FnOk Tryd.prog glob 33 (npF raw 33 []) [] [] v es ∧ K v es = some r
theorem okn_ref5_None {R : Type} : Ok_ref5_None (R := R) (fun _ => none) := fun _ _ h => no_some h
theorem shok_33 {R : Type} {c_ref5_None : T4 R} (h_ref5_None : Ok_ref5_None c_ref5_None) : ShOk Tryd.prog glob raw 33 (sh33 c_ref5_None) := by
  intro av es K r h
  unfold sh33 at h
  split at h
  · exact h_ref5_None _ _ h
  · exact no_some h
def Ok_ref5_Alt {R : Type} (c : T10 R) : Prop := ∀ (v1 : (List (Rose (Int × (LI × Unit))))) (K : S → List Ent → Option R) (r : R), c v1 (fun (r0 : Int) (r1 : LI) (r2 : (List (Rose (Int × (LI × Unit))))) => K (.st [.int .i64 r0, .arr 4 (.int .u64) r1, .sl (.rose (.pair (.int .i64) (.pair (.arr 4 (.int .u64)) .unit))) r2]) []) = some r → ∃ v es, FnOk Tryd.prog glob 35 (npF raw 35 []) [.sl (.rose (.pair (.int .i64) (.pair (.arr 4 (.int .u64)) .unit))) v1] [] v es ∧ K v es = some r
theorem okn_ref5_Alt {R : Type} : Ok_ref5_Alt (R := R) (fun _ _ => none) := fun _ _ _ h => no_some h
theorem shok_35 {R : Type} {c_ref5_Alt : T10 R} (h_ref5_Alt : Ok_ref5_Alt c_ref5_Alt) : ShOk Tryd.prog glob raw 35 (sh35 c_ref5_Alt) := by
  intro av es K r h
  unfold sh35 at h
  split at h
  · exact h_ref5_Alt _ _ _ h
  · exact no_some h
def Ok_rx_bad {R : Type} (c : T45 R) : Prop := ∀ (v1 : (List (Rose (Int × (LI × Unit))))) (v2 : LI) (K : S → List Ent → Option R) (r : R), c v1 v2 (fun (r0 : Bool) => K (.bool r0) []) = some r → ∃ v es, FnOk Tryd.prog glob 36 (npF raw 36 []) [.sl (.rose (.pair (.int .i64) (.pair (.arr 4 (.int .u64)) .unit))) v1, .sl (.int .i64) v2] [] v es ∧ K v es = some r
theorem okn_rx_bad {R : Type} : Ok_rx_bad (R := R) (fun _ _ _ => none) := fun _ _ _ _ h => no_some h
theorem shok_36 {R : Type} {c_rx_bad : T45 R} (h_rx_bad : Ok_rx_bad c_rx_bad) : ShOk Tryd.prog glob raw 36 (sh36 c_rx_bad) := by
  intro av es K r h
  unfold sh36 at h
  split at h
  · exact h_rx_bad _ _ _ _ h
  · exact no_some h
def Ok_rx_rising {R : Type} (c : T17 R) : Prop := ∀ (v1 : (List (Rose (Int × (LI × Unit))))) (K : S → List Ent → Option R) (r : R), c v1 (fun (r0 : Bool) => K (.bool r0) []) = some r → ∃ v es, FnOk Tryd.prog glob 37 (npF raw 37 []) [.sl (.rose (.pair (.int .i64) (.pair (.arr 4 (.int .u64)) .unit))) v1] [] v es ∧ K v es = some r
theorem okn_rx_rising {R : Type} : Ok_rx_rising (R := R) (fun _ _ => none) := fun _ _ _ h => no_some h
theorem shok_37 {R : Type} {c_rx_rising : T17 R} (h_rx_rising : Ok_rx_rising c_rx_rising) : ShOk Tryd.prog glob raw 37 (sh37 c_rx_rising) := by
  intro av es K r h
  unfold sh37 at h
  split at h
  · exact h_rx_rising _ _ _ h
  · exact no_some h
def Ok_slices_ContainsFunc_api_Rx_api_Rx {R : Type} (c : T38 R) : Prop := ∀ (v1 : (List (Rose (Int × (LI × Unit))))) (v2 : LI) (K : S → List Ent → Option R) (r : R), c v1 v2 (fun (r0 : Bool) (r1 : LI) => K (.bool r0) [.box (.sl (.int .i64) r1) false]) = some r → ∃ v es, FnOk Tryd.prog glob 38 (npF raw 38 [.box (.sl (.int .i64) v2) false]) [.sl (.rose (.pair (.int .i64) (.pair (.arr 4 (.int .u64)) .unit))) v1, .fn 54 [.ptr 0 []]] [.box (.sl (.int .i64) v2) false] v es ∧ K v es = some r
theorem okn_slices_ContainsFunc_api_Rx_api_Rx {R : Type} : Ok_slices_ContainsFunc_api_Rx_api_Rx (R := R) (fun _ _ _ => none) := fun _ _ _ _ h => no_some h
def Ok_slices_ContainsFunc_api_Rx_api_Rx_s1 {R : Type} (c : T17 R) : Prop := ∀ (v1 : (List (Rose (Int × (LI × Unit))))) (K : S → List Ent → Option R) (r : R), c v1 (fun (r0 : Bool) => K (.bool r0) []) = some r → ∃ v es, FnOk Tryd.prog glob 38 (npF raw 38 []) [.sl (.rose (.pair (.int .i64) (.pair (.arr 4 (.int .u64)) .unit))) v1, .fn 39 []] [] v es ∧ K v es = some r
theorem okn_slices_ContainsFunc_api_Rx_api_Rx_s1 {R : Type} : Ok_slices_ContainsFunc_api_Rx_api_Rx_s1 (R := R) (fun _ _ => none) := fun _ _ _ h => no_some h
theorem shok_38 {R : Type} {c_slices_ContainsFunc_api_Rx_api_Rx : T38 R} {c_slices_ContainsFunc_api_Rx_api_Rx_s1 : T17 R} (h_slices_ContainsFunc_api_Rx_api_Rx : Ok_slices_ContainsFunc_api_Rx_api_Rx c_slices_ContainsFunc_api_Rx_api_Rx) (h_slices_ContainsFunc_api_Rx_api_Rx_s1 : Ok_slices_ContainsFunc_api_Rx_api_Rx_s1 c_slices_ContainsFunc_api_Rx_api_Rx_s1) : ShOk Tryd.prog glob raw 38 (sh38 c_slices_ContainsFunc_api_Rx_api_Rx c_slices_ContainsFunc_api_Rx_api_Rx_s1) := by
  intro av es K r h
  unfold sh38 at h
  split at h
  · exact h_slices_ContainsFunc_api_Rx_api_Rx _ _ _ _ h
  · exact h_slices_ContainsFunc_api_Rx_api_Rx_s1 _ _ _ h
  · exact no_some h
def Ok_rx_Plain_1 {R : Type} (c : T0 R) : Prop := ∀ (v1 : Int) (v2 : LI) (v3 : (List (Rose (Int × (LI × Unit))))) (K : S → List Ent → Option R) (r : R), c v1 v2 v3 (fun (r0 : Bool) => K (.bool r0) []) = some r → ∃ v es, FnOk Tryd.prog glob 39 (npF raw 39 []) [.st [.int .i64 v1, .arr 4 (.int .u64) v2, .sl (.rose (.pair (.int .i64) (.pair (.arr 4 (.int .u64)) .unit))) v3]] [] v es ∧ K v es = some r
theorem okn_rx_Plain_1 {R : Type} : Ok_rx_Plain_1 (R := R) (fun _ _ _ _ => none) := fun _ _ _ _ _ h => no_some h
theorem shok_39 {R : Type} {c_rx_Plain_1 : T0 R} (h_rx_Plain_1 : Ok_rx_Plain_1 c_rx_Plain_1) : ShOk Tryd.prog glob raw 39 (sh39 c_rx_Plain_1) := by
  intro av es K r h
  unfold sh39 at h
  split at h
  · exact h_rx_Plain_1 _ _ _ _ _ h
  · exact no_some h
def Ok_show_writer_put {R : Type} (c : T5 R) : Prop := ∀ (v1 : LI) (v2 : Bool) (v3 : LI) (K : S → List Ent → Option R) (r : R), c v1 v2 v3 (fun (r0 : Bool) (r1 : LI) => K (.tup []) [.box (.st [.own (.int .u8) 1, .bool r0]) false, .buf (.int .u8) r1 false]) = some r → ∃ v es, FnOk Tryd.prog glob 40 (npF raw 40 [.box (.st [.own (.int .u8) 1, .bool v2]) false, .buf (.int .u8) v3 false]) [.ptr 0 [], .str v1] [.box (.st [.own (.int .u8) 1, .bool v2]) false, .buf (.int .u8) v3 false] v es ∧ K v es = some r
theorem okn_show_writer_put {R : Type} : Ok_show_writer_put (R := R) (fun _ _ _ _ => none) := fun _ _ _ _ _ h => no_some h
theorem shok_40 {R : Type} {c_show_writer_put : T5 R} (h_show_writer_put : Ok_show_writer_put c_show_writer_put) : ShOk Tryd.prog glob raw 40 (sh40 c_show_writer_put) := by
  intro av es K r h
  unfold sh40 at h
  split at h
  · exact h_show_writer_put _ _ _ _ _ h
  · exact no_some h
def Ok_show_writer_set {R : Type} (c : T5 R) : Prop := ∀ (v1 : LI) (v2 : Bool) (v3 : LI) (K : S → List Ent → Option R) (r : R), c v1 v2 v3 (fun (r0 : Bool) (r1 : LI) => K (.tup []) [.box (.st [.own (.int .u8) 1, .bool r0]) false, .buf (.int .u8) r1 false]) = some r → ∃ v es, FnOk Tryd.prog glob 41 (npF raw 41 [.box (.st [.own (.int .u8) 1, .bool v2]) false, .buf (.int .u8) v3 false]) [.ptr 0 [], .arr 4 (.int .u64) v1] [.box (.st [.own (.int .u8) 1, .bool v2]) false, .buf (.int .u8) v3 false] v es ∧ K v es = some r
theorem okn_show_writer_set {R : Type} : Ok_show_writer_set (R := R) (fun _ _ _ _ => none) := fun _ _ _ _ _ h => no_some h
theorem shok_41 {R : Type} {c_show_writer_set : T5 R} (h_show_writer_set : Ok_show_writer_set c_show_writer_set) : ShOk Tryd.prog glob raw 41 (sh41 c_show_writer_set) := by
  intro av es K r h
  unfold sh41 at h
  split at h
  · exact h_show_writer_set _ _ _ _ _ h
  · exact no_some h
def Ok_show_writer_within {R : Type} (c : T21 R) : Prop := ∀ (v1 : Int) (v2 : LI) (v3 : (List (Rose (Int × (LI × Unit))))) (v4 : LI) (v5 : Bool) (v6 : LI) (K : S → List Ent → Option R) (r : R), c v1 v2 v3 v4 v5 v6 (fun (r0 : Bool) (r1 : LI) => K (.tup []) [.box (.st [.own (.int .u8) 1, .bool r0]) false, .buf (.int .u8) r1 false]) = some r → ∃ v es, FnOk Tryd.prog glob 42 (npF raw 42 [.box (.st [.own (.int .u8) 1, .bool v5]) false, .buf (.int .u8) v6 false]) [.ptr 0 [], .st [.int .i64 v1, .arr 4 (.int .u64) v2, .sl (.rose (.pair (.int .i64) (.pair (.arr 4 (.int .u64)) .unit))) v3], .sl (.int .i64) v4] [.box (.st [.own (.int .u8) 1, .bool v5]) false, .buf (.int .u8) v6 false] v es ∧ K v es = some r
theorem okn_show_writer_within {R : Type} : Ok_show_writer_within (R := R) (fun _ _ _ _ _ _ _ => none) := fun _ _ _ _ _ _ _ _ h => no_some h
theorem shok_42 {R : Type} {c_show_writer_within : T21 R} (h_show_writer_within : Ok_show_writer_within c_show_writer_within) : ShOk Tryd.prog glob raw 42 (sh42 c_show_writer_within) := by
  intro av es K r h
  unfold sh42 at h
  split at h
  · exact h_show_writer_within _ _ _ _ _ _ _ _ h
  · exact no_some h
def Ok_ref5_Cat {R : Type} (c : T10 R) : Prop := ∀ (v1 : (List (Rose (Int × (LI × Unit))))) (K : S → List Ent → Option R) (r : R), c v1 (fun (r0 : Int) (r1 : LI) (r2 : (List (Rose (Int × (LI × Unit))))) => K (.st [.int .i64 r0, .arr 4 (.int .u64) r1, .sl (.rose (.pair (.int .i64) (.pair (.arr 4 (.int .u64)) .unit))) r2]) []) = some r → ∃ v es, FnOk Tryd.prog glob 43 (npF raw 43 []) [.sl (.rose (.pair (.int .i64) (.pair (.arr 4 (.int .u64)) .unit))) v1] [] v es ∧ K v es = some r
theorem okn_ref5_Cat {R : Type} : Ok_ref5_Cat (R := R) (fun _ _ => none) := fun _ _ _ h => no_some h
theorem shok_43 {R : Type} {c_ref5_Cat : T10 R} (h_ref5_Cat : Ok_ref5_Cat c_ref5_Cat) : ShOk Tryd.prog glob raw 43 (sh43 c_ref5_Cat) := by
  intro av es K r h
  unfold sh43 at h
  split at h
  · exact h_ref5_Cat _ _ _ h
  · exact no_some h
def Ok_ref6_set {R : Type} (c : LI → (LI → Option R) → Option R) : Prop := ∀ (v1 : LI) (K : S → List Ent → Option R) (r : R), c v1 (fun (r0 : LI) => K (.str r0) []) = some r → ∃ v es, FnOk Tryd.prog glob 44 (npF raw 44 []) [.arr 4 (.int .u64) v1] [] v es ∧ K v es = some r
theorem okn_ref6_set {R : Type} : Ok_ref6_set (R := R) (fun _ _ => none) := fun _ _ _ h => no_some h
theorem shok_44 {R : Type} {c_ref6_set : LI → (LI → Option R) → Option R} (h_ref6_set : Ok_ref6_set c_ref6_set) : ShOk Tryd.prog glob raw 44 (sh44 c_ref6_set) := by
  intro av es K r h
  unfold sh44 at h
  split at h
  · exact h_ref6_set _ _ _ h
  · exact no_some h
def Ok_ref5_flat {R : Type} (c : T13 R) : Prop := ∀ (v1 : Int) (v2 : (List (Rose (Int × (LI × Unit))))) (K : S → List Ent → Option R) (r : R), c v1 v2 (fun (r0 : (List (Rose (Int × (LI × Unit))))) => K (.own (.rose (.pair (.int .i64) (.pair (.arr 4 (.int .u64)) .unit))) 0) [.buf (.rose (.pair (.int .i64) (.pair (.arr 4 (.int .u64)) .unit))) r0 false]) = some r → ∃ v es, FnOk Tryd.prog glob 51 (npF raw 51 []) [.int .i64 v1, .sl (.rose (.pair (.int .i64) (.pair (.arr 4 (.int .u64)) .unit))) v2] [] v es ∧ K v es = some r
theorem okn_ref5_flat {R : Type} : Ok_ref5_flat (R := R) (fun _ _ _ => none) := fun _ _ _ _ h => no_some h
theorem shok_51 {R : Type} {c_ref5_flat : T13 R} (h_ref5_flat : Ok_ref5_flat c_ref5_flat) : ShOk Tryd.prog glob raw 51 (sh51 c_ref5_flat) := by
  intro av es K r h
  unfold sh51 at h
  split at h
  · exact h_ref5_flat _ _ _ _ h
  · exact no_some h
def Ok_ref1_Or {R : Type} (c : T22 R) : Prop := ∀ (v1 : LI) (v2 : LI) (K : S → List Ent → Option R) (r : R), c v1 v2 (fun (r0 : LI) => K (.arr 4 (.int .u64) r0) []) = some r → ∃ v es, FnOk Tryd.prog glob 52 (npF raw 52 []) [.arr 4 (.int .u64) v1, .arr 4 (.int .u64) v2] [] v es ∧ K v es = some r
theorem okn_ref1_Or {R : Type} : Ok_ref1_Or (R := R) (fun _ _ _ => none) := fun _ _ _ _ h => no_some h
theorem shok_52 {R : Type} {c_ref1_Or : T22 R} (h_ref1_Or : Ok_ref1_Or c_ref1_Or) : ShOk Tryd.prog glob raw 52 (sh52 c_ref1_Or) := by
  intro av es K r h
  unfold sh52 at h
  split at h
  · exact h_ref1_Or _ _ _ _ h
  · exact no_some h
def Ok_ref5_insert {R : Type} (c : T23 R) : Prop := ∀ (v1 : (List (Rose (Int × (LI × Unit))))) (v2 : Int) (v3 : LI) (v4 : (List (Rose (Int × (LI × Unit))))) (K : S → List Ent → Option R) (r : R), c v1 v2 v3 v4 (fun (r0 : (List (Rose (Int × (LI × Unit))))) => K (.sl (.rose (.pair (.int .i64) (.pair (.arr 4 (.int .u64)) .unit))) r0) []) = some r → ∃ v es, FnOk Tryd.prog glob 53 (npF raw 53 []) [.sl (.rose (.pair (.int .i64) (.pair (.arr 4 (.int .u64)) .unit))) v1, .st [.int .i64 v2, .arr 4 (.int .u64) v3, .sl (.rose (.pair (.int .i64) (.pair (.arr 4 (.int .u64)) .unit))) v4]] [] v es ∧ K v es = some r
theorem okn_ref5_insert {R : Type} : Ok_ref5_insert (R := R) (fun _ _ _ _ _ => none) := fun _ _ _ _ _ _ h => no_some h
theorem shok_53 {R : Type} {c_ref5_insert : T23 R} (h_ref5_insert : Ok_ref5_insert c_ref5_insert) : ShOk Tryd.prog glob raw 53 (sh53 c_ref5_insert) := by
  intro av es K r h
  unfold sh53 at h
  split at h
  · exact h_ref5_insert _ _ _ _ _ _ h
  · exact no_some h
def Ok_rx_bad_1 {R : Type} (c : T24 R) : Prop := ∀ (v1 : Int) (v2 : LI) (v3 : (List (Rose (Int × (LI × Unit))))) (v4 : LI) (K : S → List Ent → Option R) (r : R), c v1 v2 v3 v4 (fun (r0 : Bool) (r1 : LI) => K (.bool r0) [.box (.sl (.int .i64) r1) false]) = some r → ∃ v es, FnOk Tryd.prog glob 54 (npF raw 54 [.box (.sl (.int .i64) v4) false]) [.st [.int .i64 v1, .arr 4 (.int .u64) v2, .sl (.rose (.pair (.int .i64) (.pair (.arr 4 (.int .u64)) .unit))) v3], .ptr 0 []] [.box (.sl (.int .i64) v4) false] v es ∧ K v es = some r
theorem okn_rx_bad_1 {R : Type} : Ok_rx_bad_1 (R := R) (fun _ _ _ _ _ => none) := fun _ _ _ _ _ _ h => no_some h
theorem shok_54 {R : Type} {c_rx_bad_1 : T24 R} (h_rx_bad_1 : Ok_rx_bad_1 c_rx_bad_1) : ShOk Tryd.prog glob raw 54 (sh54 c_rx_bad_1) := by
  intro av es K r h
  unfold sh54 at h
  split at h
  · exact h_rx_bad_1 _ _ _ _ _ _ h
  · exact no_some h
def Ok_slices_Contains_int_int {R : Type} (c : T2 R) : Prop := ∀ (v1 : LI) (v2 : Int) (K : S → List Ent → Option R) (r : R), c v1 v2 (fun (r0 : Bool) => K (.bool r0) []) = some r → ∃ v es, FnOk Tryd.prog glob 55 (npF raw 55 []) [.sl (.int .i64) v1, .int .i64 v2] [] v es ∧ K v es = some r
theorem okn_slices_Contains_int_int {R : Type} : Ok_slices_Contains_int_int (R := R) (fun _ _ _ => none) := fun _ _ _ _ h => no_some h
theorem shok_55 {R : Type} {c_slices_Contains_int_int : T2 R} (h_slices_Contains_int_int : Ok_slices_Contains_int_int c_slices_Contains_int_int) : ShOk Tryd.prog glob raw 55 (sh55 c_slices_Contains_int_int) := by
  intro av es K r h
  unfold sh55 at h
  split at h
  · exact h_slices_Contains_int_int _ _ _ _ h
  · exact no_some h
def Ok_rx_isSet {R : Type} (c : T0 R) : Prop := ∀ (v1 : Int) (v2 : LI) (v3 : (List (Rose (Int × (LI × Unit))))) (K : S → List Ent → Option R) (r : R), c v1 v2 v3 (fun (r0 : Bool) => K (.bool r0) []) = some r → ∃ v es, FnOk Tryd.prog glob 56 (npF raw 56 []) [.st [.int .i64 v1, .arr 4 (.int .u64) v2, .sl (.rose (.pair (.int .i64) (.pair (.arr 4 (.int .u64)) .unit))) v3]] [] v es ∧ K v es = some r
theorem okn_rx_isSet {R : Type} : Ok_rx_isSet (R := R) (fun _ _ _ _ => none) := fun _ _ _ _ _ h => no_some h
theorem shok_56 {R : Type} {c_rx_isSet : T0 R} (h_rx_isSet : Ok_rx_isSet c_rx_isSet) : ShOk Tryd.prog glob raw 56 (sh56 c_rx_isSet) := by
  intro av es K r h
  unfold sh56 at h
  split at h
  · exact h_rx_isSet _ _ _ _ _ h
  · exact no_some h
def Ok_rx_Compare {R : Type} (c : T3 R) : Prop := ∀ (v1 : Int) (v2 : LI) (v3 : (List (Rose (Int × (LI × Unit))))) (v4 : Int) (v5 : LI) (v6 : (List (Rose (Int × (LI × Unit))))) (K : S → List Ent → Option R) (r : R), c v1 v2 v3 v4 v5 v6 (fun (r0 : Int) => K (.int .i64 r0) []) = some r → ∃ v es, FnOk Tryd.prog glob 57 (npF raw 57 []) [.st [.int .i64 v1, .arr 4 (.int .u64) v2, .sl (.rose (.pair (.int .i64) (.pair (.arr 4 (.int .u64)) .unit))) v3], .st [.int .i64 v4, .arr 4 (.int .u64) v5, .sl (.rose (.pair (.int .i64) (.pair (.arr 4 (.int .u64)) .unit))) v6]] [] v es ∧ K v es = some r
theorem okn_rx_Compare {R : Type} : Ok_rx_Compare (R := R) (fun _ _ _ _ _ _ _ => none) := fun _ _ _ _ _ _ _ _ h => no_some h
theorem shok_57 {R : Type} {c_rx_Compare : T3 R} (h_rx_Compare : Ok_rx_Compare c_rx_Compare) : ShOk Tryd.prog glob raw 57 (sh57 c_rx_Compare) := by
  intro av es K r h
  unfold sh57 at h
  split at h
  · exact h_rx_Compare _ _ _ _ _ _ _ _ h
  · exact no_some h
def Ok_slices_IndexFunc_api_Rx_api_Rx {R : Type} (c : T37 R) : Prop := ∀ (v1 : (List (Rose (Int × (LI × Unit))))) (v2 : LI) (K : S → List Ent → Option R) (r : R), c v1 v2 (fun (r0 : Int) (r1 : LI) => K (.int .i64 r0) [.box (.sl (.int .i64) r1) false]) = some r → ∃ v es, FnOk Tryd.prog glob 58 (npF raw 58 [.box (.sl (.int .i64) v2) false]) [.sl (.rose (.pair (.int .i64) (.pair (.arr 4 (.int .u64)) .unit))) v1, .fn 54 [.ptr 0 []]] [.box (.sl (.int .i64) v2) false] v es ∧ K v es = some r
theorem okn_slices_IndexFunc_api_Rx_api_Rx {R : Type} : Ok_slices_IndexFunc_api_Rx_api_Rx (R := R) (fun _ _ _ => none) := fun _ _ _ _ h => no_some h
def Ok_slices_IndexFunc_api_Rx_api_Rx_s1 {R : Type} (c : T44 R) : Prop := ∀ (v1 : (List (Rose (Int × (LI × Unit))))) (K : S → List Ent → Option R) (r : R), c v1 (fun (r0 : Int) => K (.int .i64 r0) []) = some r → ∃ v es, FnOk Tryd.prog glob 58 (npF raw 58 []) [.sl (.rose (.pair (.int .i64) (.pair (.arr 4 (.int .u64)) .unit))) v1, .fn 39 []] [] v es ∧ K v es = some r
theorem okn_slices_IndexFunc_api_Rx_api_Rx_s1 {R : Type} : Ok_slices_IndexFunc_api_Rx_api_Rx_s1 (R := R) (fun _ _ => none) := fun _ _ _ h => no_some h
theorem shok_58 {R : Type} {c_slices_IndexFunc_api_Rx_api_Rx : T37 R} {c_slices_IndexFunc_api_Rx_api_Rx_s1 : T44 R} (h_slices_IndexFunc_api_Rx_api_Rx : Ok_slices_IndexFunc_api_Rx_api_Rx c_slices_IndexFunc_api_Rx_api_Rx) (h_slices_IndexFunc_api_Rx_api_Rx_s1 : Ok_slices_IndexFunc_api_Rx_api_Rx_s1 c_slices_IndexFunc_api_Rx_api_Rx_s1) : ShOk Tryd.prog glob raw 58 (sh58 c_slices_IndexFunc_api_Rx_api_Rx c_slices_IndexFunc_api_Rx_api_Rx_s1) := by
  intro av es K r h
  unfold sh58 at h
  split at h
  · exact h_slices_IndexFunc_api_Rx_api_Rx _ _ _ _ h
  · exact h_slices_IndexFunc_api_Rx_api_Rx_s1 _ _ _ h
  · exact no_some h
def Ok_byteset_List {R : Type} (c : LI → (LI → Option R) → Option R) : Prop := ∀ (v1 : LI) (K : S → List Ent → Option R) (r : R), c v1 (fun (r0 : LI) => K (.own (.int .u8) 0) [.buf (.int .u8) r0 false]) = some r → ∃ v es, FnOk Tryd.prog glob 59 (npF raw 59 []) [.arr 4 (.int .u64) v1] [] v es ∧ K v es = some r
theorem okn_byteset_List {R : Type} : Ok_byteset_List (R := R) (fun _ _ => none) := fun _ _ _ h => no_some h
theorem shok_59 {R : Type} {c_byteset_List : LI → (LI → Option R) → Option R} (h_byteset_List : Ok_byteset_List c_byteset_List) : ShOk Tryd.prog glob raw 59 (sh59 c_byteset_List) := by
  intro av es K r h
  unfold sh59 at h
  split at h
  · exact h_byteset_List _ _ _ h
  · exact no_some h
def Ok_show_sign {R : Type} (c : Int → (LI → Option R) → Option R) : Prop := ∀ (v1 : Int) (K : S → List Ent → Option R) (r : R), c v1 (fun (r0 : LI) => K (.str r0) []) = some r → ∃ v es, FnOk Tryd.prog glob 60 (npF raw 60 []) [.int .u8 v1] [] v es ∧ K v es = some r
theorem okn_show_sign {R : Type} : Ok_show_sign (R := R) (fun _ _ => none) := fun _ _ _ h => no_some h
theorem shok_60 {R : Type} {c_show_sign : Int → (LI → Option R) → Option R} (h_show_sign : Ok_show_sign c_show_sign) : ShOk Tryd.prog glob raw 60 (sh60 c_show_sign) := by
  intro av es K r h
  unfold sh60 at h
  split at h
  · exact h_show_sign _ _ _ h
  · exact no_some h
def Ok_ref1_List {R : Type} (c : LI → (LI → Option R) → Option R) : Prop := ∀ (v1 : LI) (K : S → List Ent → Option R) (r : R), c v1 (fun (r0 : LI) => K (.own (.int .u8) 0) [.buf (.int .u8) r0 false]) = some r → ∃ v es, FnOk Tryd.prog glob 61 (npF raw 61 []) [.arr 4 (.int .u64) v1] [] v es ∧ K v es = some r
theorem okn_ref1_List {R : Type} : Ok_ref1_List (R := R) (fun _ _ => none) := fun _ _ _ h => no_some h
theorem shok_61 {R : Type} {c_ref1_List : LI → (LI → Option R) → Option R} (h_ref1_List : Ok_ref1_List c_ref1_List) : ShOk Tryd.prog glob raw 61 (sh61 c_ref1_List) := by
  intro av es K r h
  unfold sh61 at h
  split at h
  · exact h_ref1_List _ _ _ h
  · exact no_some h
def Ok_ref6_sign {R : Type} (c : Int → (LI → Option R) → Option R) : Prop := ∀ (v1 : Int) (K : S → List Ent → Option R) (r : R), c v1 (fun (r0 : LI) => K (.str r0) []) = some r → ∃ v es, FnOk Tryd.prog glob 62 (npF raw 62 []) [.int .u8 v1] [] v es ∧ K v es = some r
theorem okn_ref6_sign {R : Type} : Ok_ref6_sign (R := R) (fun _ _ => none) := fun _ _ _ h => no_some h
theorem shok_62 {R : Type} {c_ref6_sign : Int → (LI → Option R) → Option R} (h_ref6_sign : Ok_ref6_sign c_ref6_sign) : ShOk Tryd.prog glob raw 62 (sh62 c_ref6_sign) := by
  intro av es K r h
  unfold sh62 at h
  split at h
  · exact h_ref6_sign _ _ _ h
  · exact no_some h
def Ok_ref5_Compare {R : Type} (c : T3 R) : Prop := ∀ (v1 : Int) (v2 : LI) (v3 : (List (Rose (Int × (LI × Unit))))) (v4 : Int) (v5 : LI) (v6 : (List (Rose (Int × (LI × Unit))))) (K : S → List Ent → Option R) (r : R), c v1 v2 v3 v4 v5 v6 (fun (r0 : Int) => K (.int .i64 r0) []) = some r → ∃ v es, FnOk Tryd.prog glob 67 (npF raw 67 []) [.st [.int .i64 v1, .arr 4 (.int .u64) v2, .sl (.rose (.pair (.int .i64) (.pair (.arr 4 (.int .u64)) .unit))) v3], .st [.int .i64 v4, .arr 4 (.int .u64) v5, .sl (.rose (.pair (.int .i64) (.pair (.arr 4 (.int .u64)) .unit))) v6]] [] v es ∧ K v es = some r
theorem okn_ref5_Compare {R : Type} : Ok_ref5_Compare (R := R) (fun _ _ _ _ _ _ _ => none) := fun _ _ _ _ _ _ _ _ h => no_some h
theorem shok_67 {R : Type} {c_ref5_Compare : T3 R} (h_ref5_Compare : Ok_ref5_Compare c_ref5_Compare) : ShOk Tryd.prog glob raw 67 (sh67 c_ref5_Compare) := by
  intro av es K r h
  unfold sh67 at h
  split at h
  · exact h_ref5_Compare _ _ _ _ _ _ _ _ h
  · exact no_some h
def Ok_ref5_Equal {R : Type} (c : T7 R) : Prop := ∀ (v1 : Int) (v2 : LI) (v3 : (List (Rose (Int × (LI × Unit))))) (v4 : Int) (v5 : LI) (v6 : (List (Rose (Int × (LI × Unit))))) (K : S → List Ent → Option R) (r : R), c v1 v2 v3 v4 v5 v6 (fun (r0 : Bool) => K (.bool r0) []) = some r → ∃ v es, FnOk Tryd.prog glob 68 (npF raw 68 []) [.st [.int .i64 v1, .arr 4 (.int .u64) v2, .sl (.rose (.pair (.int .i64) (.pair (.arr 4 (.int .u64)) .unit))) v3], .st [.int .i64 v4, .arr 4 (.int .u64) v5, .sl (.rose (.pair (.int .i64) (.pair (.arr 4 (.int .u64)) .unit))) v6]] [] v es ∧ K v es = some r
theorem okn_ref5_Equal {R : Type} : Ok_ref5_Equal (R := R) (fun _ _ _ _ _ _ _ => none) := fun _ _ _ _ _ _ _ _ h => no_some h
theorem shok_68 {R : Type} {c_ref5_Equal : T7 R} (h_ref5_Equal : Ok_ref5_Equal c_ref5_Equal) : ShOk Tryd.prog glob raw 68 (sh68 c_ref5_Equal) := by
  intro av es K r h
  unfold sh68 at h
  split at h
  · exact h_ref5_Equal _ _ _ _ _ _ _ _ h
  · exact no_some h
def Ok_slices_Index_int_int {R : Type} (c : T35 R) : Prop := ∀ (v1 : LI) (v2 : Int) (K : S → List Ent → Option R) (r : R), c v1 v2 (fun (r0 : Int) => K (.int .i64 r0) []) = some r → ∃ v es, FnOk Tryd.prog glob 69 (npF raw 69 []) [.sl (.int .i64) v1, .int .i64 v2] [] v es ∧ K v es = some r
theorem okn_slices_Index_int_int {R : Type} : Ok_slices_Index_int_int (R := R) (fun _ _ _ => none) := fun _ _ _ _ h => no_some h
theorem shok_69 {R : Type} {c_slices_Index_int_int : T35 R} (h_slices_Index_int_int : Ok_slices_Index_int_int c_slices_Index_int_int) : ShOk Tryd.prog glob raw 69 (sh69 c_slices_Index_int_int) := by
  intro av es K r h
  unfold sh69 at h
  split at h
  · exact h_slices_Index_int_int _ _ _ _ h
  · exact no_some h
def Ok_cmp_Compare_int {R : Type} (c : T40 R) : Prop := ∀ (v1 : Int) (v2 : Int) (K : S → List Ent → Option R) (r : R), c v1 v2 (fun (r0 : Int) => K (.int .i64 r0) []) = some r → ∃ v es, FnOk Tryd.prog glob 70 (npF raw 70 []) [.int .i64 v1, .int .i64 v2] [] v es ∧ K v es = some r
theorem okn_cmp_Compare_int {R : Type} : Ok_cmp_Compare_int (R := R) (fun _ _ _ => none) := fun _ _ _ _ h => no_some h
theorem shok_70 {R : Type} {c_cmp_Compare_int : T40 R} (h_cmp_Compare_int : Ok_cmp_Compare_int c_cmp_Compare_int) : ShOk Tryd.prog glob raw 70 (sh70 c_cmp_Compare_int) := by
  intro av es K r h
  unfold sh70 at h
  split at h
  · exact h_cmp_Compare_int _ _ _ _ h
  · exact no_some h
def Ok_byteset_Less {R : Type} (c : T12 R) : Prop := ∀ (v1 : LI) (v2 : LI) (K : S → List Ent → Option R) (r : R), c v1 v2 (fun (r0 : Bool) => K (.bool r0) []) = some r → ∃ v es, FnOk Tryd.prog glob 71 (npF raw 71 []) [.arr 4 (.int .u64) v1, .arr 4 (.int .u64) v2] [] v es ∧ K v es = some r
theorem okn_byteset_Less {R : Type} : Ok_byteset_Less (R := R) (fun _ _ _ => none) := fun _ _ _ _ h => no_some h
theorem shok_71 {R : Type} {c_byteset_Less : T12 R} (h_byteset_Less : Ok_byteset_Less c_byteset_Less) : ShOk Tryd.prog glob raw 71 (sh71 c_byteset_Less) := by
  intro av es K r h
  unfold sh71 at h
  split at h
  · exact h_byteset_Less _ _ _ _ h
  · exact no_some h
def Ok_slices_CompareFunc_api_Rx_api_Rx_api_Rx_api_Rx {R : Type} (c : T41 R) : Prop := ∀ (v1 : (List (Rose (Int × (LI × Unit))))) (v2 : (List (Rose (Int × (LI × Unit))))) (K : S → List Ent → Option R) (r : R), c v1 v2 (fun (r0 : Int) => K (.int .i64 r0) []) = some r → ∃ v es, FnOk Tryd.prog glob 72 (npF raw 72 []) [.sl (.rose (.pair (.int .i64) (.pair (.arr 4 (.int .u64)) .unit))) v1, .sl (.rose (.pair (.int .i64) (.pair (.arr 4 (.int .u64)) .unit))) v2, .fn 57 []] [] v es ∧ K v es = some r
theorem okn_slices_CompareFunc_api_Rx_api_Rx_api_Rx_api_Rx {R : Type} : Ok_slices_CompareFunc_api_Rx_api_Rx_api_Rx_api_Rx (R := R) (fun _ _ _ => none) := fun _ _ _ _ h => no_some h
theorem shok_72 {R : Type} {c_slices_CompareFunc_api_Rx_api_Rx_api_Rx_api_Rx : T41 R} (h_slices_CompareFunc_api_Rx_api_Rx_api_Rx_api_Rx : Ok_slices_CompareFunc_api_Rx_api_Rx_api_Rx_api_Rx c_slices_CompareFunc_api_Rx_api_Rx_api_Rx_api_Rx) : ShOk Tryd.prog glob raw 72 (sh72 c_slices_CompareFunc_api_Rx_api_Rx_api_Rx_api_Rx) := by
  intro av es K r h
  unfold sh72 at h
  split at h
  · exact h_slices_CompareFunc_api_Rx_api_Rx_api_Rx_api_Rx _ _ _ _ h
  · exact no_some h
def Ok_byteset_Has {R : Type} (c : T2 R) : Prop := ∀ (v1 : LI) (v2 : Int) (K : S → List Ent → Option R) (r : R), c v1 v2 (fun (r0 : Bool) => K (.bool r0) []) = some r → ∃ v es, FnOk Tryd.prog glob 73 (npF raw 73 []) [.arr 4 (.int .u64) v1, .int .u8 v2] [] v es ∧ K v es = some r
theorem okn_byteset_Has {R : Type} : Ok_byteset_Has (R := R) (fun _ _ _ => none) := fun _ _ _ _ h => no_some h
theorem shok_73 {R : Type} {c_byteset_Has : T2 R} (h_byteset_Has : Ok_byteset_Has c_byteset_Has) : ShOk Tryd.prog glob raw 73 (sh73 c_byteset_Has) := by
  intro av es K r h
  unfold sh73 at h
  split at h
  · exact h_byteset_Has _ _ _ _ h
  · exact no_some h
def Ok_ref1_Has {R : Type} (c : T2 R) : Prop := ∀ (v1 : LI) (v2 : Int) (K : S → List Ent → Option R) (r : R), c v1 v2 (fun (r0 : Bool) => K (.bool r0) []) = some r → ∃ v es, FnOk Tryd.prog glob 75 (npF raw 75 []) [.arr 4 (.int .u64) v1, .int .u8 v2] [] v es ∧ K v es = some r
theorem okn_ref1_Has {R : Type} : Ok_ref1_Has (R := R) (fun _ _ _ => none) := fun _ _ _ _ h => no_some h
theorem shok_75 {R : Type} {c_ref1_Has : T2 R} (h_ref1_Has : Ok_ref1_Has c_ref1_Has) : ShOk Tryd.prog glob raw 75 (sh75 c_ref1_Has) := by
  intro av es K r h
  unfold sh75 at h
  split at h
  · exact h_ref1_Has _ _ _ _ h
  · exact no_some h
def Ok_ref6_in {R : Type} (c : T2 R) : Prop := ∀ (v1 : LI) (v2 : Int) (K : S → List Ent → Option R) (r : R), c v1 v2 (fun (r0 : Bool) => K (.bool r0) []) = some r → ∃ v es, FnOk Tryd.prog glob 76 (npF raw 76 []) [.str v1, .int .u8 v2] [] v es ∧ K v es = some r
theorem okn_ref6_in {R : Type} : Ok_ref6_in (R := R) (fun _ _ _ => none) := fun _ _ _ _ h => no_some h
theorem shok_76 {R : Type} {c_ref6_in : T2 R} (h_ref6_in : Ok_ref6_in c_ref6_in) : ShOk Tryd.prog glob raw 76 (sh76 c_ref6_in) := by
  intro av es K r h
  unfold sh76 at h
  split at h
  · exact h_ref6_in _ _ _ _ h
  · exact no_some h
def Ok_ref1_SetLess {R : Type} (c : T12 R) : Prop := ∀ (v1 : LI) (v2 : LI) (K : S → List Ent → Option R) (r : R), c v1 v2 (fun (r0 : Bool) => K (.bool r0) []) = some r → ∃ v es, FnOk Tryd.prog glob 79 (npF raw 79 []) [.arr 4 (.int .u64) v1, .arr 4 (.int .u64) v2] [] v es ∧ K v es = some r
theorem okn_ref1_SetLess {R : Type} : Ok_ref1_SetLess (R := R) (fun _ _ _ => none) := fun _ _ _ _ h => no_some h
theorem shok_79 {R : Type} {c_ref1_SetLess : T12 R} (h_ref1_SetLess : Ok_ref1_SetLess c_ref1_SetLess) : ShOk Tryd.prog glob raw 79 (sh79 c_ref1_SetLess) := by
  intro av es K r h
  unfold sh79 at h
  split at h
  · exact h_ref1_SetLess _ _ _ _ h
  · exact no_some h
def Ok_cmp_isNaN_int {R : Type} (c : Int → (Bool → Option R) → Option R) : Prop := ∀ (v1 : Int) (K : S → List Ent → Option R) (r : R), c v1 (fun (r0 : Bool) => K (.bool r0) []) = some r → ∃ v es, FnOk Tryd.prog glob 80 (npF raw 80 []) [.int .i64 v1] [] v es ∧ K v es = some r
theorem okn_cmp_isNaN_int {R : Type} : Ok_cmp_isNaN_int (R := R) (fun _ _ => none) := fun _ _ _ h => no_some h
theorem shok_80 {R : Type} {c_cmp_isNaN_int : Int → (Bool → Option R) → Option R} (h_cmp_isNaN_int : Ok_cmp_isNaN_int c_cmp_isNaN_int) : ShOk Tryd.prog glob raw 80 (sh80 c_cmp_isNaN_int) := by
  intro av es K r h
  unfold sh80 at h
  split at h
  · exact h_cmp_isNaN_int _ _ _ h
  · exact no_some h
def Ok_math_bits_TrailingZeros64 {R : Type} (c : Int → (Int → Option R) → Option R) : Prop := ∀ (v1 : Int) (K : S → List Ent → Option R) (r : R), c v1 (fun (r0 : Int) => K (.int .i64 r0) []) = some r → ∃ v es, FnOk Tryd.prog glob 81 (npF raw 81 []) [.int .u64 v1] [] v es ∧ K v es = some r
theorem okn_math_bits_TrailingZeros64 {R : Type} : Ok_math_bits_TrailingZeros64 (R := R) (fun _ _ => none) := fun _ _ _ h => no_some h
theorem shok_81 {R : Type} {c_math_bits_TrailingZeros64 : Int → (Int → Option R) → Option R} (h_math_bits_TrailingZeros64 : Ok_math_bits_TrailingZeros64 c_math_bits_TrailingZeros64) : ShOk Tryd.prog glob raw 81 (sh81 c_math_bits_TrailingZeros64) := by
  intro av es K r h
  unfold sh81 at h
  split at h
  · exact h_math_bits_TrailingZeros64 _ _ _ h
  · exact no_some h
theorem t_ref1_Of : textOk C_ref1_Of.bef Tryd.prog 20 = true := by kernel_rfl
theorem sln_ref1_Of_l3 {R : Type} : SlOk (R := R) C_ref1_Of 20 27 0 3 (sl_ref1_Of_l3 (fun _ _ _ _ _ => none)) := by
  intro vs es K r h
  unfold sl_ref1_Of_l3 at h
  split at h <;> exact no_some h
theorem lok_ref1_Of_l3 {R : Type} (kf : Nat) : ∀ n, SlOk (R := R) C_ref1_Of 20 27 0 3 (sl_ref1_Of_l3 (ref1_Of_l3 kf n)) := by
  intro n
  induction n with
  | zero =>
    intro vs es K r h
    unfold sl_ref1_Of_l3 at h
    split at h <;> exact no_some h
  | succ k ih =>
    have hcf : CfOk (R := R) Tryd.prog glob raw (cf_ref1_Of (ref1_Of_l3 kf k)) := cf_nil
    have hlf : LfOk (R := R) C_ref1_Of 20 (lf_ref1_Of (ref1_Of_l3 kf k)) := (lf_top (lf_cons ih lf_nil))
    intro vs es K r h
    unfold sl_ref1_Of_l3 at h
    split at h
    · exact loop_good (text_mixed t_ref1_Of) hcf hlf (text_loop t_ref1_Of 3).1 (text_loop t_ref1_Of 3).2 ((eq_ref1_Of_l3 (ref1_Of_l3 kf k) _ _ _ _ K).trans h)
    · exact no_some h
theorem ok_ref1_Of {R : Type} (kf : Nat) : Ok_ref1_Of (R := R) (ref1_Of kf) := by
  have hcf : CfOk (R := R) Tryd.prog glob raw (cf_ref1_Of (ref1_Of_l3 kf kf)) := cf_nil
  have hlf : LfOk (R := R) C_ref1_Of 20 (lf_ref1_Of (ref1_Of_l3 kf kf)) := (lf_top (lf_cons (lok_ref1_Of_l3 kf kf) lf_nil))
  intro v1 K r h
  exact run_good t_ref1_Of hcf hlf ((eq_ref1_Of (ref1_Of_l3 kf kf) v1 K).trans h)
theorem t_ref5_None : textOk C_ref5_None.bef Tryd.prog 33 = true := by kernel_rfl
theorem ok_ref5_None {R : Type} : Ok_ref5_None (R := R) (ref5_None) := by
  have hcf : CfOk (R := R) Tryd.prog glob raw (cf_ref5_None) := cf_nil
  have hlf : LfOk (R := R) C_ref5_None 33 (lf_ref5_None) := lf_none
  intro K r h
  exact run_good t_ref5_None hcf hlf ((eq_ref5_None K).trans h)
theorem t_ref5_Bytes : textOk C_ref5_Bytes.bef Tryd.prog 18 = true := by kernel_rfl
theorem ok_ref5_Bytes {R : Type} : Ok_ref5_Bytes (R := R) (ref5_Bytes) := by
  have hcf : CfOk (R := R) Tryd.prog glob raw (cf_ref5_Bytes ref5_None) := (cf_cons (shok_33 ok_ref5_None) cf_nil)
  have hlf : LfOk (R := R) C_ref5_Bytes 18 (lf_ref5_Bytes ref5_None) := lf_none
  intro v1 K r h
  exact run_good t_ref5_Bytes hcf hlf ((eq_ref5_Bytes ref5_None v1 K).trans h)
theorem t_ref5_Copy : textOk C_ref5_Copy.bef Tryd.prog 11 = true := by kernel_rfl
theorem sln_ref5_Copy_l3 {R : Type} : SlOk (R := R) C_ref5_Copy 11 24 0 3 (sl_ref5_Copy_l3 (fun _ _ _ _ _ _ _ _ _ => none)) := by
  intro vs es K r h
  unfold sl_ref5_Copy_l3 at h
  split at h <;> exact no_some h
theorem lok_ref5_Copy_l3 {R : Type} {c_self : T1 R} (hs : Ok_ref5_Copy c_self) (kf : Nat) : ∀ n, SlOk (R := R) C_ref5_Copy 11 24 0 3 (sl_ref5_Copy_l3 (ref5_Copy_l3 c_self kf n)) := by
  intro n
  induction n with
  | zero =>
    intro vs es K r h
    unfold sl_ref5_Copy_l3 at h
    split at h <;> exact no_some h
  | succ k ih =>
    have hcf : CfOk (R := R) Tryd.prog glob raw (cf_ref5_Copy c_self (ref5_Copy_l3 c_self kf k)) := (cf_cons (shok_11 hs) cf_nil)
    have hlf : LfOk (R := R) C_ref5_Copy 11 (lf_ref5_Copy c_self (ref5_Copy_l3 c_self kf k)) := (lf_top (lf_cons ih lf_nil))
    intro vs es K r h
    unfold sl_ref5_Copy_l3 at h
    split at h
    · exact loop_good (text_mixed t_ref5_Copy) hcf hlf (text_loop t_ref5_Copy 3).1 (text_loop t_ref5_Copy 3).2 ((eq_ref5_Copy_l3 c_self (ref5_Copy_l3 c_self kf k) _ _ _ _ _ _ _ _ K).trans h)
    · exact no_some h
theorem ok_ref5_Copy {R : Type} : ∀ kf, Ok_ref5_Copy (R := R) (ref5_Copy kf) := by
  intro kf
  induction kf with
  | zero =>
    intro v1 v2 v3 K r h
    exact no_some h
  | succ kf hs =>
    have hcf : CfOk (R := R) Tryd.prog glob raw (cf_ref5_Copy (ref5_Copy kf) (ref5_Copy_l3 (ref5_Copy kf) kf kf)) := (cf_cons (shok_11 hs) cf_nil)
    have hlf : LfOk (R := R) C_ref5_Copy 11 (lf_ref5_Copy (ref5_Copy kf) (ref5_Copy_l3 (ref5_Copy kf) kf kf)) := (lf_top (lf_cons (lok_ref5_Copy_l3 hs kf kf) lf_nil))
    intro v1 v2 v3 K r h
    exact run_good t_ref5_Copy hcf hlf ((eq_ref5_Copy (ref5_Copy kf) (ref5_Copy_l3 (ref5_Copy kf) kf kf) v1 v2 v3 K).trans h)
theorem t_ref5_Empty : textOk C_ref5_Empty.bef Tryd.prog 22 = true := by kernel_rfl
theorem ok_ref5_Empty {R : Type} : Ok_ref5_Empty (R := R) (ref5_Empty) := by
  have hcf : CfOk (R := R) Tryd.prog glob raw (cf_ref5_Empty) := cf_nil
  have hlf : LfOk (R := R) C_ref5_Empty 22 (lf_ref5_Empty) := lf_none
  intro K r h
  exact run_good t_ref5_Empty hcf hlf ((eq_ref5_Empty K).trans h)
theorem t_ref5_flat : textOk C_ref5_flat.bef Tryd.prog 51 = true := by kernel_rfl
theorem sln_ref5_flat_l3 {R : Type} : SlOk (R := R) C_ref5_flat 51 35 0 3 (sl_ref5_flat_l3 (fun _ _ _ _ _ => none)) := by
  intro vs es K r h
  unfold sl_ref5_flat_l3 at h
  split at h <;> exact no_some h
theorem lok_ref5_flat_l3 {R : Type} (kf : Nat) : ∀ n, SlOk (R := R) C_ref5_flat 51 35 0 3 (sl_ref5_flat_l3 (ref5_flat_l3 kf n)) := by
  intro n
  induction n with
  | zero =>
    intro vs es K r h
    unfold sl_ref5_flat_l3 at h
    split at h <;> exact no_some h
  | succ k ih =>
    have hcf : CfOk (R := R) Tryd.prog glob raw (cf_ref5_flat (ref5_flat_l3 kf k)) := cf_nil
    have hlf : LfOk (R := R) C_ref5_flat 51 (lf_ref5_flat (ref5_flat_l3 kf k)) := (lf_top (lf_cons ih lf_nil))
    intro vs es K r h
    unfold sl_ref5_flat_l3 at h
    split at h
    · exact loop_good (text_mixed t_ref5_flat) hcf hlf (text_loop t_ref5_flat 3).1 (text_loop t_ref5_flat 3).2 ((eq_ref5_flat_l3 (ref5_flat_l3 kf k) _ _ _ _ K).trans h)
    · exact no_some h
theorem ok_ref5_flat {R : Type} (kf : Nat) : Ok_ref5_flat (R := R) (ref5_flat kf) := by
  have hcf : CfOk (R := R) Tryd.prog glob raw (cf_ref5_flat (ref5_flat_l3 kf kf)) := cf_nil
  have hlf : LfOk (R := R) C_ref5_flat 51 (lf_ref5_flat (ref5_flat_l3 kf kf)) := (lf_top (lf_cons (lok_ref5_flat_l3 kf kf) lf_nil))
  intro v1 v2 K r h
  exact run_good t_ref5_flat hcf hlf ((eq_ref5_flat (ref5_flat_l3 kf kf) v1 v2 K).trans h)
theorem t_ref1_Has : textOk C_ref1_Has.bef Tryd.prog 75 = true := by kernel_rfl
theorem ok_ref1_Has {R : Type} : Ok_ref1_Has (R := R) (ref1_Has) := by
  have hcf : CfOk (R := R) Tryd.prog glob raw (cf_ref1_Has) := cf_nil
  have hlf : LfOk (R := R) C_ref1_Has 75 (lf_ref1_Has) := lf_none
  intro v1 v2 K r h
  exact run_good t_ref1_Has hcf hlf ((eq_ref1_Has v1 v2 K).trans h)
theorem t_ref1_List : textOk C_ref1_List.bef Tryd.prog 61 = true := by kernel_rfl
theorem sln_ref1_List_l3 {R : Type} : SlOk (R := R) C_ref1_List 61 19 0 3 (sl_ref1_List_l3 (fun _ _ _ _ => none)) := by
  intro vs es K r h
  unfold sl_ref1_List_l3 at h
  split at h <;> exact no_some h
theorem lok_ref1_List_l3 {R : Type} (kf : Nat) : ∀ n, SlOk (R := R) C_ref1_List 61 19 0 3 (sl_ref1_List_l3 (ref1_List_l3 kf n)) := by
  intro n
  induction n with
  | zero =>
    intro vs es K r h
    unfold sl_ref1_List_l3 at h
    split at h <;> exact no_some h
  | succ k ih =>
    have hcf : CfOk (R := R) Tryd.prog glob raw (cf_ref1_List ref1_Has (ref1_List_l3 kf k)) := (cf_cons (shok_75 ok_ref1_Has) cf_nil)
    have hlf : LfOk (R := R) C_ref1_List 61 (lf_ref1_List ref1_Has (ref1_List_l3 kf k)) := (lf_top (lf_cons ih lf_nil))
    intro vs es K r h
    unfold sl_ref1_List_l3 at h
    split at h
    · exact loop_good (text_mixed t_ref1_List) hcf hlf (text_loop t_ref1_List 3).1 (text_loop t_ref1_List 3).2 ((eq_ref1_List_l3 ref1_Has (ref1_List_l3 kf k) _ _ _ K).trans h)
    · exact no_some h
theorem ok_ref1_List {R : Type} (kf : Nat) : Ok_ref1_List (R := R) (ref1_List kf) := by
  have hcf : CfOk (R := R) Tryd.prog glob raw (cf_ref1_List ref1_Has (ref1_List_l3 kf kf)) := (cf_cons (shok_75 ok_ref1_Has) cf_nil)
  have hlf : LfOk (R := R) C_ref1_List 61 (lf_ref1_List ref1_Has (ref1_List_l3 kf kf)) := (lf_top (lf_cons (lok_ref1_List_l3 kf kf) lf_nil))
  intro v1 K r h
  exact run_good t_ref1_List hcf hlf ((eq_ref1_List ref1_Has (ref1_List_l3 kf kf) v1 K).trans h)
theorem t_ref1_Or : textOk C_ref1_Or.bef Tryd.prog 52 = true := by kernel_rfl
theorem ok_ref1_Or {R : Type} (kf : Nat) : Ok_ref1_Or (R := R) (ref1_Or kf) := by
  have hcf : CfOk (R := R) Tryd.prog glob raw (cf_ref1_Or (ref1_List kf) (ref1_Of kf)) := (cf_cons (shok_61 (ok_ref1_List kf)) (cf_cons (shok_20 (ok_ref1_Of kf)) cf_nil))
  have hlf : LfOk (R := R) C_ref1_Or 52 (lf_ref1_Or (ref1_List kf) (ref1_Of kf)) := lf_none
  intro v1 v2 K r h
  exact run_good t_ref1_Or hcf hlf ((eq_ref1_Or (ref1_List kf) (ref1_Of kf) v1 v2 K).trans h)
theorem t_ref1_SetLess : textOk C_ref1_SetLess.bef Tryd.prog 79 = true := by kernel_rfl
theorem sln_ref1_SetLess_l2 {R : Type} : SlOk (R := R) C_ref1_SetLess 79 23 0 2 (sl_ref1_SetLess_l2 (fun _ _ _ _ _ => none)) := by
  intro vs es K r h
  unfold sl_ref1_SetLess_l2 at h
  split at h <;> exact no_some h
theorem lok_ref1_SetLess_l2 {R : Type} (kf : Nat) : ∀ n, SlOk (R := R) C_ref1_SetLess 79 23 0 2 (sl_ref1_SetLess_l2 (ref1_SetLess_l2 kf n)) := by
  intro n
  induction n with
  | zero =>
    intro vs es K r h
    unfold sl_ref1_SetLess_l2 at h
    split at h <;> exact no_some h
  | succ k ih =>
    have hcf : CfOk (R := R) Tryd.prog glob raw (cf_ref1_SetLess ref1_Has (ref1_SetLess_l2 kf k)) := (cf_cons (shok_75 ok_ref1_Has) cf_nil)
    have hlf : LfOk (R := R) C_ref1_SetLess 79 (lf_ref1_SetLess ref1_Has (ref1_SetLess_l2 kf k)) := (lf_top (lf_cons ih lf_nil))
    intro vs es K r h
    unfold sl_ref1_SetLess_l2 at h
    split at h
    · exact loop_good (text_mixed t_ref1_SetLess) hcf hlf (text_loop t_ref1_SetLess 2).1 (text_loop t_ref1_SetLess 2).2 ((eq_ref1_SetLess_l2 ref1_Has (ref1_SetLess_l2 kf k) _ _ _ K).trans h)
    · exact no_some h
theorem ok_ref1_SetLess {R : Type} (kf : Nat) : Ok_ref1_SetLess (R := R) (ref1_SetLess kf) := by
  have hcf : CfOk (R := R) Tryd.prog glob raw (cf_ref1_SetLess ref1_Has (ref1_SetLess_l2 kf kf)) := (cf_cons (shok_75 ok_ref1_Has) cf_nil)
  have hlf : LfOk (R := R) C_ref1_SetLess 79 (lf_ref1_SetLess ref1_Has (ref1_SetLess_l2 kf kf)) := (lf_top (lf_cons (lok_ref1_SetLess_l2 kf kf) lf_nil))
  intro v1 v2 K r h
  exact run_good t_ref1_SetLess hcf hlf ((eq_ref1_SetLess ref1_Has (ref1_SetLess_l2 kf kf) v1 v2 K).trans h)
theorem t_ref5_Compare : textOk C_ref5_Compare.bef Tryd.prog 67 = true := by kernel_rfl
theorem sln_ref5_Compare_l10 {R : Type} : SlOk (R := R) C_ref5_Compare 67 74 0 10 (sl_ref5_Compare_l10 (fun _ _ _ _ _ _ _ _ _ => none)) := by
  intro vs es K r h
  unfold sl_ref5_Compare_l10 at h
  split at h <;> exact no_some h
theorem lok_ref5_Compare_l10 {R : Type} {c_self : T3 R} (hs : Ok_ref5_Compare c_self) (kf : Nat) : ∀ n, SlOk (R := R) C_ref5_Compare 67 74 0 10 (sl_ref5_Compare_l10 (ref5_Compare_l10 c_self kf n)) := by
  intro n
  induction n with
  | zero =>
    intro vs es K r h
    unfold sl_ref5_Compare_l10 at h
    split at h <;> exact no_some h
  | succ k ih =>
    have hcf : CfOk (R := R) Tryd.prog glob raw (cf_ref5_Compare (ref1_SetLess kf) c_self (ref5_Compare_l10 c_self kf k)) := (cf_cons (shok_79 (ok_ref1_SetLess kf)) (cf_cons (shok_67 hs) cf_nil))
    have hlf : LfOk (R := R) C_ref5_Compare 67 (lf_ref5_Compare (ref1_SetLess kf) c_self (ref5_Compare_l10 c_self kf k)) := (lf_top (lf_cons ih lf_nil))
    intro vs es K r h
    unfold sl_ref5_Compare_l10 at h
    split at h
    · exact loop_good (text_mixed t_ref5_Compare) hcf hlf (text_loop t_ref5_Compare 10).1 (text_loop t_ref5_Compare 10).2 ((eq_ref5_Compare_l10 (ref1_SetLess kf) c_self (ref5_Compare_l10 c_self kf k) _ _ _ _ _ _ _ K).trans h)
    · exact no_some h
theorem ok_ref5_Compare {R : Type} : ∀ kf, Ok_ref5_Compare (R := R) (ref5_Compare kf) := by
  intro kf
  induction kf with
  | zero =>
    intro v1 v2 v3 v4 v5 v6 K r h
    exact no_some h
  | succ kf hs =>
    have hcf : CfOk (R := R) Tryd.prog glob raw (cf_ref5_Compare (ref1_SetLess kf) (ref5_Compare kf) (ref5_Compare_l10 (ref5_Compare kf) kf kf)) := (cf_cons (shok_79 (ok_ref1_SetLess kf)) (cf_cons (shok_67 hs) cf_nil))
    have hlf : LfOk (R := R) C_ref5_Compare 67 (lf_ref5_Compare (ref1_SetLess kf) (ref5_Compare kf) (ref5_Compare_l10 (ref5_Compare kf) kf kf)) := (lf_top (lf_cons (lok_ref5_Compare_l10 hs kf kf) lf_nil))
    intro v1 v2 v3 v4 v5 v6 K r h
    exact run_good t_ref5_Compare hcf hlf ((eq_ref5_Compare (ref1_SetLess kf) (ref5_Compare kf) (ref5_Compare_l10 (ref5_Compare kf) kf kf) v1 v2 v3 v4 v5 v6 K).trans h)
theorem t_ref5_Equal : textOk C_ref5_Equal.bef Tryd.prog 68 = true := by kernel_rfl
theorem ok_ref5_Equal {R : Type} (kf : Nat) : Ok_ref5_Equal (R := R) (ref5_Equal kf) := by
  have hcf : CfOk (R := R) Tryd.prog glob raw (cf_ref5_Equal (ref5_Compare kf)) := (cf_cons (shok_67 (ok_ref5_Compare kf)) cf_nil)
  have hlf : LfOk (R := R) C_ref5_Equal 68 (lf_ref5_Equal (ref5_Compare kf)) := lf_none
  intro v1 v2 v3 v4 v5 v6 K r h
  exact run_good t_ref5_Equal hcf hlf ((eq_ref5_Equal (ref5_Compare kf) v1 v2 v3 v4 v5 v6 K).trans h)
theorem t_ref5_insert : textOk C_ref5_insert.bef Tryd.prog 53 = true := by kernel_rfl
theorem sln_ref5_insert_l2 {R : Type} : SlOk (R := R) C_ref5_insert 53 46 0 2 (sl_ref5_insert_l2 (fun _ _ _ _ _ _ => none)) := by
  intro vs es K r h
  unfold sl_ref5_insert_l2 at h
  split at h <;> exact no_some h
theorem lok_ref5_insert_l2 {R : Type} (kf : Nat) : ∀ n, SlOk (R := R) C_ref5_insert 53 46 0 2 (sl_ref5_insert_l2 (ref5_insert_l2 kf n)) := by
  intro n
  induction n with
  | zero =>
    intro vs es K r h
    unfold sl_ref5_insert_l2 at h
    split at h <;> exact no_some h
  | succ k ih =>
    have hcf : CfOk (R := R) Tryd.prog glob raw (cf_ref5_insert (ref5_Compare kf) (ref5_Equal kf) (ref5_insert_l2 kf k)) := (cf_cons (shok_67 (ok_ref5_Compare kf)) (cf_cons (shok_68 (ok_ref5_Equal kf)) cf_nil))
    have hlf : LfOk (R := R) C_ref5_insert 53 (lf_ref5_insert (ref5_Compare kf) (ref5_Equal kf) (ref5_insert_l2 kf k)) := (lf_top (lf_cons ih lf_nil))
    intro vs es K r h
    unfold sl_ref5_insert_l2 at h
    split at h
    · exact loop_good (text_mixed t_ref5_insert) hcf hlf (text_loop t_ref5_insert 2).1 (text_loop t_ref5_insert 2).2 ((eq_ref5_insert_l2 (ref5_Compare kf) (ref5_Equal kf) (ref5_insert_l2 kf k) _ _ _ _ _ K).trans h)
    · exact no_some h
theorem ok_ref5_insert {R : Type} (kf : Nat) : Ok_ref5_insert (R := R) (ref5_insert kf) := by
  have hcf : CfOk (R := R) Tryd.prog glob raw (cf_ref5_insert (ref5_Compare kf) (ref5_Equal kf) (ref5_insert_l2 kf kf)) := (cf_cons (shok_67 (ok_ref5_Compare kf)) (cf_cons (shok_68 (ok_ref5_Equal kf)) cf_nil))
  have hlf : LfOk (R := R) C_ref5_insert 53 (lf_ref5_insert (ref5_Compare kf) (ref5_Equal kf) (ref5_insert_l2 kf kf)) := (lf_top (lf_cons (lok_ref5_insert_l2 kf kf) lf_nil))
  intro v1 v2 v3 v4 K r h
  exact run_good t_ref5_insert hcf hlf ((eq_ref5_insert (ref5_Compare kf) (ref5_Equal kf) (ref5_insert_l2 kf kf) v1 v2 v3 v4 K).trans h)
theorem t_ref5_Alt : textOk C_ref5_Alt.bef Tryd.prog 35 = true := by kernel_rfl
theorem sln_ref5_Alt_l5 {R : Type} : SlOk (R := R) C_ref5_Alt 35 57 0 5 (sl_ref5_Alt_l5 (fun _ _ _ _ _ _ _ _ => none)) := by
  intro vs es K r h
  unfold sl_ref5_Alt_l5 at h
  split at h <;> exact no_some h
theorem lok_ref5_Alt_l5 {R : Type} (kf : Nat) : ∀ n, SlOk (R := R) C_ref5_Alt 35 57 0 5 (sl_ref5_Alt_l5 (ref5_Alt_l5 kf n)) := by
  intro n
  induction n with
  | zero =>
    intro vs es K r h
    unfold sl_ref5_Alt_l5 at h
    split at h <;> exact no_some h
  | succ k ih =>
    have hcf : CfOk (R := R) Tryd.prog glob raw (cf_ref5_Alt (ref5_flat kf) (ref1_Or kf) (ref5_Copy kf) (ref5_insert kf) ref5_Bytes ref5_None (ref5_Alt_l5 kf k)) := (cf_cons (shok_51 (ok_ref5_flat kf)) (cf_cons (shok_52 (ok_ref1_Or kf)) (cf_cons (shok_11 (ok_ref5_Copy kf)) (cf_cons (shok_53 (ok_ref5_insert kf)) (cf_cons (shok_18 ok_ref5_Bytes) (cf_cons (shok_33 ok_ref5_None) cf_nil))))))
    have hlf : LfOk (R := R) C_ref5_Alt 35 (lf_ref5_Alt (ref5_flat kf) (ref1_Or kf) (ref5_Copy kf) (ref5_insert kf) ref5_Bytes ref5_None (ref5_Alt_l5 kf k)) := (lf_top (lf_cons ih lf_nil))
    intro vs es K r h
    unfold sl_ref5_Alt_l5 at h
    split at h
    · exact loop_good (text_mixed t_ref5_Alt) hcf hlf (text_loop t_ref5_Alt 5).1 (text_loop t_ref5_Alt 5).2 ((eq_ref5_Alt_l5 (ref5_flat kf) (ref1_Or kf) (ref5_Copy kf) (ref5_insert kf) ref5_Bytes ref5_None (ref5_Alt_l5 kf k) _ _ _ _ _ _ _ K).trans h)
    · exact no_some h
theorem ok_ref5_Alt {R : Type} (kf : Nat) : Ok_ref5_Alt (R := R) (ref5_Alt kf) := by
  have hcf : CfOk (R := R) Tryd.prog glob raw (cf_ref5_Alt (ref5_flat kf) (ref1_Or kf) (ref5_Copy kf) (ref5_insert kf) ref5_Bytes ref5_None (ref5_Alt_l5 kf kf)) := (cf_cons (shok_51 (ok_ref5_flat kf)) (cf_cons (shok_52 (ok_ref1_Or kf)) (cf_cons (shok_11 (ok_ref5_Copy kf)) (cf_cons (shok_53 (ok_ref5_insert kf)) (cf_cons (shok_18 ok_ref5_Bytes) (cf_cons (shok_33 ok_ref5_None) cf_nil))))))
  have hlf : LfOk (R := R) C_ref5_Alt 35 (lf_ref5_Alt (ref5_flat kf) (ref1_Or kf) (ref5_Copy kf) (ref5_insert kf) ref5_Bytes ref5_None (ref5_Alt_l5 kf kf)) := (lf_top (lf_cons (lok_ref5_Alt_l5 kf kf) lf_nil))
  intro v1 K r h
  exact run_good t_ref5_Alt hcf hlf ((eq_ref5_Alt (ref5_flat kf) (ref1_Or kf) (ref5_Copy kf) (ref5_insert kf) ref5_Bytes ref5_None (ref5_Alt_l5 kf kf) v1 K).trans h)
theorem t_ref5_Star : textOk C_ref5_Star.bef Tryd.prog 21 = true := by kernel_rfl
theorem sln_ref5_Star_l10 {R : Type} : SlOk (R := R) C_ref5_Star 21 52 0 10 (sl_ref5_Star_l10 (fun _ _ _ _ _ _ _ _ _ => none)) := by
  intro vs es K r h
  unfold sl_ref5_Star_l10 at h
  split at h <;> exact no_some h
theorem lok_ref5_Star_l10 {R : Type} {c_self : T1 R} (hs : Ok_ref5_Star c_self) (kf : Nat) : ∀ n, SlOk (R := R) C_ref5_Star 21 52 0 10 (sl_ref5_Star_l10 (ref5_Star_l10 c_self kf n)) := by
  intro n
  induction n with
  | zero =>
    intro vs es K r h
    unfold sl_ref5_Star_l10 at h
    split at h <;> exact no_some h
  | succ k ih =>
    have hcf : CfOk (R := R) Tryd.prog glob raw (cf_ref5_Star (ref5_Copy kf) ref5_Empty (ref5_Alt kf) c_self (ref5_Star_l10 c_self kf k)) := (cf_cons (shok_11 (ok_ref5_Copy kf)) (cf_cons (shok_22 ok_ref5_Empty) (cf_cons (shok_35 (ok_ref5_Alt kf)) (cf_cons (shok_21 hs) cf_nil))))
    have hlf : LfOk (R := R) C_ref5_Star 21 (lf_ref5_Star (ref5_Copy kf) ref5_Empty (ref5_Alt kf) c_self (ref5_Star_l10 c_self kf k)) := (lf_top (lf_cons ih lf_nil))
    intro vs es K r h
    unfold sl_ref5_Star_l10 at h
    split at h
    · exact loop_good (text_mixed t_ref5_Star) hcf hlf (text_loop t_ref5_Star 10).1 (text_loop t_ref5_Star 10).2 ((eq_ref5_Star_l10 (ref5_Copy kf) ref5_Empty (ref5_Alt kf) c_self (ref5_Star_l10 c_self kf k) _ _ _ _ _ _ _ _ K).trans h)
    · exact no_some h
theorem ok_ref5_Star {R : Type} : ∀ kf, Ok_ref5_Star (R := R) (ref5_Star kf) := by
  intro kf
  induction kf with
  | zero =>
    intro v1 v2 v3 K r h
    exact no_some h
  | succ kf hs =>
    have hcf : CfOk (R := R) Tryd.prog glob raw (cf_ref5_Star (ref5_Copy kf) ref5_Empty (ref5_Alt kf) (ref5_Star kf) (ref5_Star_l10 (ref5_Star kf) kf kf)) := (cf_cons (shok_11 (ok_ref5_Copy kf)) (cf_cons (shok_22 ok_ref5_Empty) (cf_cons (shok_35 (ok_ref5_Alt kf)) (cf_cons (shok_21 hs) cf_nil))))
    have hlf : LfOk (R := R) C_ref5_Star 21 (lf_ref5_Star (ref5_Copy kf) ref5_Empty (ref5_Alt kf) (ref5_Star kf) (ref5_Star_l10 (ref5_Star kf) kf kf)) := (lf_top (lf_cons (lok_ref5_Star_l10 hs kf kf) lf_nil))
    intro v1 v2 v3 K r h
    exact run_good t_ref5_Star hcf hlf ((eq_ref5_Star (ref5_Copy kf) ref5_Empty (ref5_Alt kf) (ref5_Star kf) (ref5_Star_l10 (ref5_Star kf) kf kf) v1 v2 v3 K).trans h)
theorem t_slices_Index_int_int : textOk C_slices_Index_int_int.bef Tryd.prog 69 = true := by kernel_rfl
theorem sln_slices_Index_int_int_l2 {R : Type} : SlOk (R := R) C_slices_Index_int_int 69 19 0 2 (sl_slices_Index_int_int_l2 (fun _ _ _ _ _ _ => none)) := by
  intro vs es K r h
  unfold sl_slices_Index_int_int_l2 at h
  split at h <;> exact no_some h
theorem lok_slices_Index_int_int_l2 {R : Type} (kf : Nat) : ∀ n, SlOk (R := R) C_slices_Index_int_int 69 19 0 2 (sl_slices_Index_int_int_l2 (slices_Index_int_int_l2 kf n)) := by
  intro n
  induction n with
  | zero =>
    intro vs es K r h
    unfold sl_slices_Index_int_int_l2 at h
    split at h <;> exact no_some h
  | succ k ih =>
    have hcf : CfOk (R := R) Tryd.prog glob raw (cf_slices_Index_int_int (slices_Index_int_int_l2 kf k)) := cf_nil
    have hlf : LfOk (R := R) C_slices_Index_int_int 69 (lf_slices_Index_int_int (slices_Index_int_int_l2 kf k)) := (lf_top (lf_cons ih lf_nil))
    intro vs es K r h
    unfold sl_slices_Index_int_int_l2 at h
    split at h
    · exact loop_good (text_mixed t_slices_Index_int_int) hcf hlf (text_loop t_slices_Index_int_int 2).1 (text_loop t_slices_Index_int_int 2).2 ((eq_slices_Index_int_int_l2 (slices_Index_int_int_l2 kf k) _ _ _ _ K).trans h)
    · exact no_some h
theorem ok_slices_Index_int_int {R : Type} (kf : Nat) : Ok_slices_Index_int_int (R := R) (slices_Index_int_int kf) := by
  have hcf : CfOk (R := R) Tryd.prog glob raw (cf_slices_Index_int_int (slices_Index_int_int_l2 kf kf)) := cf_nil
  have hlf : LfOk (R := R) C_slices_Index_int_int 69 (lf_slices_Index_int_int (slices_Index_int_int_l2 kf kf)) := (lf_top (lf_cons (lok_slices_Index_int_int_l2 kf kf) lf_nil))
  intro v1 v2 K r h
  exact run_good t_slices_Index_int_int hcf hlf ((eq_slices_Index_int_int (slices_Index_int_int_l2 kf kf) v1 v2 K).trans h)
theorem t_slices_Contains_int_int : textOk C_slices_Contains_int_int.bef Tryd.prog 55 = true := by kernel_rfl
theorem ok_slices_Contains_int_int {R : Type} (kf : Nat) : Ok_slices_Contains_int_int (R := R) (slices_Contains_int_int kf) := by
  have hcf : CfOk (R := R) Tryd.prog glob raw (cf_slices_Contains_int_int (slices_Index_int_int kf)) := (cf_cons (shok_69 (ok_slices_Index_int_int kf)) cf_nil)
  have hlf : LfOk (R := R) C_slices_Contains_int_int 55 (lf_slices_Contains_int_int (slices_Index_int_int kf)) := lf_none
  intro v1 v2 K r h
  exact run_good t_slices_Contains_int_int hcf hlf ((eq_slices_Contains_int_int (slices_Index_int_int kf) v1 v2 K).trans h)
theorem t_rx_bad_1 : textOk C_rx_bad_1.bef Tryd.prog 54 = true := by kernel_rfl
theorem ok_rx_bad_1 {R : Type} (kf : Nat) : Ok_rx_bad_1 (R := R) (rx_bad_1 kf) := by
  have hcf : CfOk (R := R) Tryd.prog glob raw (cf_rx_bad_1 (slices_Contains_int_int kf)) := (cf_cons (shok_55 (ok_slices_Contains_int_int kf)) cf_nil)
  have hlf : LfOk (R := R) C_rx_bad_1 54 (lf_rx_bad_1 (slices_Contains_int_int kf)) := lf_none
  intro v1 v2 v3 v4 K r h
  exact run_good t_rx_bad_1 hcf hlf ((eq_rx_bad_1 (slices_Contains_int_int kf) v1 v2 v3 v4 K).trans h)
theorem t_slices_IndexFunc_api_Rx_api_Rx : textOk C_slices_IndexFunc_api_Rx_api_Rx.bef Tryd.prog 58 = true := by kernel_rfl
theorem sln_slices_IndexFunc_api_Rx_api_Rx_l2 {R : Type} : SlOk (R := R) C_slices_IndexFunc_api_Rx_api_Rx 58 19 1 2 (sl_slices_IndexFunc_api_Rx_api_Rx_l2 (fun _ _ _ _ _ _ => none)) := by
  intro vs es K r h
  unfold sl_slices_IndexFunc_api_Rx_api_Rx_l2 at h
  split at h <;> exact no_some h
theorem lok_slices_IndexFunc_api_Rx_api_Rx_l2 {R : Type} (kf : Nat) : ∀ n, SlOk (R := R) C_slices_IndexFunc_api_Rx_api_Rx 58 19 1 2 (sl_slices_IndexFunc_api_Rx_api_Rx_l2 (slices_IndexFunc_api_Rx_api_Rx_l2 kf n)) := by
  intro n
  induction n with
  | zero =>
    intro vs es K r h
    unfold sl_slices_IndexFunc_api_Rx_api_Rx_l2 at h
    split at h <;> exact no_some h
  | succ k ih =>
    have hcf : CfOk (R := R) Tryd.prog glob raw (cf_slices_IndexFunc_api_Rx_api_Rx (rx_bad_1 kf) (slices_IndexFunc_api_Rx_api_Rx_l2 kf k)) := (cf_cons (shok_54 (ok_rx_bad_1 kf)) cf_nil)
    have hlf : LfOk (R := R) C_slices_IndexFunc_api_Rx_api_Rx 58 (lf_slices_IndexFunc_api_Rx_api_Rx (rx_bad_1 kf) (slices_IndexFunc_api_Rx_api_Rx_l2 kf k)) := (lf_top (lf_cons ih lf_nil))
    intro vs es K r h
    unfold sl_slices_IndexFunc_api_Rx_api_Rx_l2 at h
    split at h
    · exact loop_good (text_mixed t_slices_IndexFunc_api_Rx_api_Rx) hcf hlf (text_loop t_slices_IndexFunc_api_Rx_api_Rx 2).1 (text_loop t_slices_IndexFunc_api_Rx_api_Rx 2).2 ((eq_slices_IndexFunc_api_Rx_api_Rx_l2 (rx_bad_1 kf) (slices_IndexFunc_api_Rx_api_Rx_l2 kf k) _ _ _ _ K).trans h)
    · exact no_some h
theorem ok_slices_IndexFunc_api_Rx_api_Rx {R : Type} (kf : Nat) : Ok_slices_IndexFunc_api_Rx_api_Rx (R := R) (slices_IndexFunc_api_Rx_api_Rx kf) := by
  have hcf : CfOk (R := R) Tryd.prog glob raw (cf_slices_IndexFunc_api_Rx_api_Rx (rx_bad_1 kf) (slices_IndexFunc_api_Rx_api_Rx_l2 kf kf)) := (cf_cons (shok_54 (ok_rx_bad_1 kf)) cf_nil)
  have hlf : LfOk (R := R) C_slices_IndexFunc_api_Rx_api_Rx 58 (lf_slices_IndexFunc_api_Rx_api_Rx (rx_bad_1 kf) (slices_IndexFunc_api_Rx_api_Rx_l2 kf kf)) := (lf_top (lf_cons (lok_slices_IndexFunc_api_Rx_api_Rx_l2 kf kf) lf_nil))
  intro v1 v2 K r h
  exact run_good t_slices_IndexFunc_api_Rx_api_Rx hcf hlf ((eq_slices_IndexFunc_api_Rx_api_Rx (rx_bad_1 kf) (slices_IndexFunc_api_Rx_api_Rx_l2 kf kf) v1 v2 K).trans h)
theorem t_slices_ContainsFunc_api_Rx_api_Rx : textOk C_slices_ContainsFunc_api_Rx_api_Rx.bef Tryd.prog 38 = true := by kernel_rfl
theorem ok_slices_ContainsFunc_api_Rx_api_Rx {R : Type} (kf : Nat) : Ok_slices_ContainsFunc_api_Rx_api_Rx (R := R) (slices_ContainsFunc_api_Rx_api_Rx kf) := by
  have hcf : CfOk (R := R) Tryd.prog glob raw (cf_slices_ContainsFunc_api_Rx_api_Rx (slices_IndexFunc_api_Rx_api_Rx kf)) := (cf_cons (shok_58 (ok_slices_IndexFunc_api_Rx_api_Rx kf) okn_slices_IndexFunc_api_Rx_api_Rx_s1) cf_nil)
  have hlf : LfOk (R := R) C_slices_ContainsFunc_api_Rx_api_Rx 38 (lf_slices_ContainsFunc_api_Rx_api_Rx (slices_IndexFunc_api_Rx_api_Rx kf)) := lf_none
  intro v1 v2 K r h
  exact run_good t_slices_ContainsFunc_api_Rx_api_Rx hcf hlf ((eq_slices_ContainsFunc_api_Rx_api_Rx (slices_IndexFunc_api_Rx_api_Rx kf) v1 v2 K).trans h)
theorem t_rx_bad : textOk C_rx_bad.bef Tryd.prog 36 = true := by kernel_rfl
theorem ok_rx_bad {R : Type} (kf : Nat) : Ok_rx_bad (R := R) (rx_bad kf) := by
  have hcf : CfOk (R := R) Tryd.prog glob raw (cf_rx_bad (slices_ContainsFunc_api_Rx_api_Rx kf)) := (cf_cons (shok_38 (ok_slices_ContainsFunc_api_Rx_api_Rx kf) okn_slices_ContainsFunc_api_Rx_api_Rx_s1) cf_nil)
  have hlf : LfOk (R := R) C_rx_bad 36 (lf_rx_bad (slices_ContainsFunc_api_Rx_api_Rx kf)) := lf_none
  intro v1 v2 K r h
  exact run_good t_rx_bad hcf hlf ((eq_rx_bad (slices_ContainsFunc_api_Rx_api_Rx kf) v1 v2 K).trans h)
theorem t_rx_isSet : textOk C_rx_isSet.bef Tryd.prog 56 = true := by kernel_rfl
theorem ok_rx_isSet {R : Type} : Ok_rx_isSet (R := R) (rx_isSet) := by
  have hcf : CfOk (R := R) Tryd.prog glob raw (cf_rx_isSet) := cf_nil
  have hlf : LfOk (R := R) C_rx_isSet 56 (lf_rx_isSet) := lf_none
  intro v1 v2 v3 K r h
  exact run_good t_rx_isSet hcf hlf ((eq_rx_isSet v1 v2 v3 K).trans h)
theorem t_cmp_isNaN_int : textOk C_cmp_isNaN_int.bef Tryd.prog 80 = true := by kernel_rfl
theorem ok_cmp_isNaN_int {R : Type} : Ok_cmp_isNaN_int (R := R) (cmp_isNaN_int) := by
  have hcf : CfOk (R := R) Tryd.prog glob raw (cf_cmp_isNaN_int) := cf_nil
  have hlf : LfOk (R := R) C_cmp_isNaN_int 80 (lf_cmp_isNaN_int) := lf_none
  intro v1 K r h
  exact run_good t_cmp_isNaN_int hcf hlf ((eq_cmp_isNaN_int v1 K).trans h)
theorem t_cmp_Compare_int : textOk C_cmp_Compare_int.bef Tryd.prog 70 = true := by kernel_rfl
theorem ok_cmp_Compare_int {R : Type} : Ok_cmp_Compare_int (R := R) (cmp_Compare_int) := by
  have hcf : CfOk (R := R) Tryd.prog glob raw (cf_cmp_Compare_int cmp_isNaN_int) := (cf_cons (shok_80 ok_cmp_isNaN_int) cf_nil)
  have hlf : LfOk (R := R) C_cmp_Compare_int 70 (lf_cmp_Compare_int cmp_isNaN_int) := lf_none
  intro v1 v2 K r h
  exact run_good t_cmp_Compare_int hcf hlf ((eq_cmp_Compare_int cmp_isNaN_int v1 v2 K).trans h)
theorem t_math_bits_TrailingZeros64 : textOk C_math_bits_TrailingZeros64.bef Tryd.prog 81 = true := by kernel_rfl
theorem ok_math_bits_TrailingZeros64 {R : Type} : Ok_math_bits_TrailingZeros64 (R := R) (math_bits_TrailingZeros64) := by
  have hcf : CfOk (R := R) Tryd.prog glob raw (cf_math_bits_TrailingZeros64) := cf_nil
  have hlf : LfOk (R := R) C_math_bits_TrailingZeros64 81 (lf_math_bits_TrailingZeros64) := lf_none
  intro v1 K r h
  exact run_good t_math_bits_TrailingZeros64 hcf hlf ((eq_math_bits_TrailingZeros64 v1 K).trans h)
theorem t_byteset_Less : textOk C_byteset_Less.bef Tryd.prog 71 = true := by kernel_rfl
theorem sln_byteset_Less_l2 {R : Type} : SlOk (R := R) C_byteset_Less 71 28 0 2 (sl_byteset_Less_l2 (fun _ _ _ _ _ => none)) := by
  intro vs es K r h
  unfold sl_byteset_Less_l2 at h
  split at h <;> exact no_some h
theorem lok_byteset_Less_l2 {R : Type} (kf : Nat) : ∀ n, SlOk (R := R) C_byteset_Less 71 28 0 2 (sl_byteset_Less_l2 (byteset_Less_l2 kf n)) := by
  intro n
  induction n with
  | zero =>
    intro vs es K r h
    unfold sl_byteset_Less_l2 at h
    split at h <;> exact no_some h
  | succ k ih =>
    have hcf : CfOk (R := R) Tryd.prog glob raw (cf_byteset_Less math_bits_TrailingZeros64 (byteset_Less_l2 kf k)) := (cf_cons (shok_81 ok_math_bits_TrailingZeros64) cf_nil)
    have hlf : LfOk (R := R) C_byteset_Less 71 (lf_byteset_Less math_bits_TrailingZeros64 (byteset_Less_l2 kf k)) := (lf_top (lf_cons ih lf_nil))
    intro vs es K r h
    unfold sl_byteset_Less_l2 at h
    split at h
    · exact loop_good (text_mixed t_byteset_Less) hcf hlf (text_loop t_byteset_Less 2).1 (text_loop t_byteset_Less 2).2 ((eq_byteset_Less_l2 math_bits_TrailingZeros64 (byteset_Less_l2 kf k) _ _ _ K).trans h)
    · exact no_some h
theorem ok_byteset_Less {R : Type} (kf : Nat) : Ok_byteset_Less (R := R) (byteset_Less kf) := by
  have hcf : CfOk (R := R) Tryd.prog glob raw (cf_byteset_Less math_bits_TrailingZeros64 (byteset_Less_l2 kf kf)) := (cf_cons (shok_81 ok_math_bits_TrailingZeros64) cf_nil)
  have hlf : LfOk (R := R) C_byteset_Less 71 (lf_byteset_Less math_bits_TrailingZeros64 (byteset_Less_l2 kf kf)) := (lf_top (lf_cons (lok_byteset_Less_l2 kf kf) lf_nil))
  intro v1 v2 K r h
  exact run_good t_byteset_Less hcf hlf ((eq_byteset_Less math_bits_TrailingZeros64 (byteset_Less_l2 kf kf) v1 v2 K).trans h)
theorem t_slices_CompareFunc_api_Rx_api_Rx_api_Rx_api_Rx : textOk C_slices_CompareFunc_api_Rx_api_Rx_api_Rx_api_Rx.bef Tryd.prog 72 = true := by kernel_rfl
theorem sln_slices_CompareFunc_api_Rx_api_Rx_api_Rx_api_Rx_l2 {R : Type} : SlOk (R := R) C_slices_CompareFunc_api_Rx_api_Rx_api_Rx_api_Rx 72 39 0 2 (sl_slices_CompareFunc_api_Rx_api_Rx_api_Rx_api_Rx_l2 (fun _ _ _ _ _ _ _ => none)) := by
  intro vs es K r h
  unfold sl_slices_CompareFunc_api_Rx_api_Rx_api_Rx_api_Rx_l2 at h
  split at h <;> exact no_some h
theorem lok_slices_CompareFunc_api_Rx_api_Rx_api_Rx_api_Rx_l2 {R : Type} {c_rx_Compare : T3 R} (h_rx_Compare : Ok_rx_Compare c_rx_Compare) (kf : Nat) : ∀ n, SlOk (R := R) C_slices_CompareFunc_api_Rx_api_Rx_api_Rx_api_Rx 72 39 0 2 (sl_slices_CompareFunc_api_Rx_api_Rx_api_Rx_api_Rx_l2 (slices_CompareFunc_api_Rx_api_Rx_api_Rx_api_Rx_l2 c_rx_Compare kf n)) := by
  intro n
  induction n with
  | zero =>
    intro vs es K r h
    unfold sl_slices_CompareFunc_api_Rx_api_Rx_api_Rx_api_Rx_l2 at h
    split at h <;> exact no_some h
  | succ k ih =>
    have hcf : CfOk (R := R) Tryd.prog glob raw (cf_slices_CompareFunc_api_Rx_api_Rx_api_Rx_api_Rx c_rx_Compare (slices_CompareFunc_api_Rx_api_Rx_api_Rx_api_Rx_l2 c_rx_Compare kf k)) := (cf_cons (shok_57 h_rx_Compare) cf_nil)
    have hlf : LfOk (R := R) C_slices_CompareFunc_api_Rx_api_Rx_api_Rx_api_Rx 72 (lf_slices_CompareFunc_api_Rx_api_Rx_api_Rx_api_Rx c_rx_Compare (slices_CompareFunc_api_Rx_api_Rx_api_Rx_api_Rx_l2 c_rx_Compare kf k)) := (lf_top (lf_cons ih lf_nil))
    intro vs es K r h
    unfold sl_slices_CompareFunc_api_Rx_api_Rx_api_Rx_api_Rx_l2 at h
    split at h
    · exact loop_good (text_mixed t_slices_CompareFunc_api_Rx_api_Rx_api_Rx_api_Rx) hcf hlf (text_loop t_slices_CompareFunc_api_Rx_api_Rx_api_Rx_api_Rx 2).1 (text_loop t_slices_CompareFunc_api_Rx_api_Rx_api_Rx_api_Rx 2).2 ((eq_slices_CompareFunc_api_Rx_api_Rx_api_Rx_api_Rx_l2 c_rx_Compare (slices_CompareFunc_api_Rx_api_Rx_api_Rx_api_Rx_l2 c_rx_Compare kf k) _ _ _ _ _ K).trans h)
    · exact no_some h
theorem ok_slices_CompareFunc_api_Rx_api_Rx_api_Rx_api_Rx {R : Type} {c_rx_Compare : T3 R} (h_rx_Compare : Ok_rx_Compare c_rx_Compare) (kf : Nat) : Ok_slices_CompareFunc_api_Rx_api_Rx_api_Rx_api_Rx (R := R) (slices_CompareFunc_api_Rx_api_Rx_api_Rx_api_Rx c_rx_Compare kf) := by
  have hcf : CfOk (R := R) Tryd.prog glob raw (cf_slices_CompareFunc_api_Rx_api_Rx_api_Rx_api_Rx c_rx_Compare (slices_CompareFunc_api_Rx_api_Rx_api_Rx_api_Rx_l2 c_rx_Compare kf kf)) := (cf_cons (shok_57 h_rx_Compare) cf_nil)
  have hlf : LfOk (R := R) C_slices_CompareFunc_api_Rx_api_Rx_api_Rx_api_Rx 72 (lf_slices_CompareFunc_api_Rx_api_Rx_api_Rx_api_Rx c_rx_Compare (slices_CompareFunc_api_Rx_api_Rx_api_Rx_api_Rx_l2 c_rx_Compare kf kf)) := (lf_top (lf_cons (lok_slices_CompareFunc_api_Rx_api_Rx_api_Rx_api_Rx_l2 h_rx_Compare kf kf) lf_nil))
  intro v1 v2 K r h
  exact run_good t_slices_CompareFunc_api_Rx_api_Rx_api_Rx_api_Rx hcf hlf ((eq_slices_CompareFunc_api_Rx_api_Rx_api_Rx_api_Rx c_rx_Compare (slices_CompareFunc_api_Rx_api_Rx_api_Rx_api_Rx_l2 c_rx_Compare kf kf) v1 v2 K).trans h)
theorem t_rx_Compare : textOk C_rx_Compare.bef Tryd.prog 57 = true := by kernel_rfl
theorem ok_rx_Compare {R : Type} : ∀ kf, Ok_rx_Compare (R := R) (rx_Compare kf) := by
  intro kf
  induction kf with
  | zero =>
    intro v1 v2 v3 v4 v5 v6 K r h
    exact no_some h
  | succ kf hs =>
    have hcf : CfOk (R := R) Tryd.prog glob raw (cf_rx_Compare cmp_Compare_int (byteset_Less kf) (slices_CompareFunc_api_Rx_api_Rx_api_Rx_api_Rx (rx_Compare kf) kf)) := (cf_cons (shok_70 ok_cmp_Compare_int) (cf_cons (shok_71 (ok_byteset_Less kf)) (cf_cons (shok_72 (ok_slices_CompareFunc_api_Rx_api_Rx_api_Rx_api_Rx hs kf)) cf_nil)))
    have hlf : LfOk (R := R) C_rx_Compare 57 (lf_rx_Compare cmp_Compare_int (byteset_Less kf) (slices_CompareFunc_api_Rx_api_Rx_api_Rx_api_Rx (rx_Compare kf) kf)) := lf_none
    intro v1 v2 v3 v4 v5 v6 K r h
    exact run_good t_rx_Compare hcf hlf ((eq_rx_Compare cmp_Compare_int (byteset_Less kf) (slices_CompareFunc_api_Rx_api_Rx_api_Rx_api_Rx (rx_Compare kf) kf) v1 v2 v3 v4 v5 v6 K).trans h)
theorem t_rx_rising : textOk C_rx_rising.bef Tryd.prog 37 = true := by kernel_rfl
theorem sln_rx_rising_l3 {R : Type} : SlOk (R := R) C_rx_rising 37 32 0 3 (sl_rx_rising_l3 (fun _ _ _ _ _ _ _ => none)) := by
  intro vs es K r h
  unfold sl_rx_rising_l3 at h
  split at h <;> exact no_some h
theorem lok_rx_rising_l3 {R : Type} (kf : Nat) : ∀ n, SlOk (R := R) C_rx_rising 37 32 0 3 (sl_rx_rising_l3 (rx_rising_l3 kf n)) := by
  intro n
  induction n with
  | zero =>
    intro vs es K r h
    unfold sl_rx_rising_l3 at h
    split at h <;> exact no_some h
  | succ k ih =>
    have hcf : CfOk (R := R) Tryd.prog glob raw (cf_rx_rising rx_isSet (rx_Compare kf) (rx_rising_l3 kf k)) := (cf_cons (shok_56 ok_rx_isSet) (cf_cons (shok_57 (ok_rx_Compare kf)) cf_nil))
    have hlf : LfOk (R := R) C_rx_rising 37 (lf_rx_rising rx_isSet (rx_Compare kf) (rx_rising_l3 kf k)) := (lf_top (lf_cons ih lf_nil))
    intro vs es K r h
    unfold sl_rx_rising_l3 at h
    split at h
    · exact loop_good (text_mixed t_rx_rising) hcf hlf (text_loop t_rx_rising 3).1 (text_loop t_rx_rising 3).2 ((eq_rx_rising_l3 rx_isSet (rx_Compare kf) (rx_rising_l3 kf k) _ _ _ _ _ K).trans h)
    · exact no_some h
theorem ok_rx_rising {R : Type} (kf : Nat) : Ok_rx_rising (R := R) (rx_rising kf) := by
  have hcf : CfOk (R := R) Tryd.prog glob raw (cf_rx_rising rx_isSet (rx_Compare kf) (rx_rising_l3 kf kf)) := (cf_cons (shok_56 ok_rx_isSet) (cf_cons (shok_57 (ok_rx_Compare kf)) cf_nil))
  have hlf : LfOk (R := R) C_rx_rising 37 (lf_rx_rising rx_isSet (rx_Compare kf) (rx_rising_l3 kf kf)) := (lf_top (lf_cons (lok_rx_rising_l3 kf kf) lf_nil))
  intro v1 K r h
  exact run_good t_rx_rising hcf hlf ((eq_rx_rising rx_isSet (rx_Compare kf) (rx_rising_l3 kf kf) v1 K).trans h)
theorem t_rx_Plain_1 : textOk C_rx_Plain_1.bef Tryd.prog 39 = true := by kernel_rfl
theorem ok_rx_Plain_1 {R : Type} {c_rx_Plain : T0 R} (h_rx_Plain : Ok_rx_Plain c_rx_Plain) (kf : Nat) : Ok_rx_Plain_1 (R := R) (rx_Plain_1 c_rx_Plain kf) := by
  have hcf : CfOk (R := R) Tryd.prog glob raw (cf_rx_Plain_1 c_rx_Plain) := (cf_cons (shok_25 h_rx_Plain) cf_nil)
  have hlf : LfOk (R := R) C_rx_Plain_1 39 (lf_rx_Plain_1 c_rx_Plain) := lf_none
  intro v1 v2 v3 K r h
  exact run_good t_rx_Plain_1 hcf hlf ((eq_rx_Plain_1 c_rx_Plain v1 v2 v3 K).trans h)
theorem t_slices_IndexFunc_api_Rx_api_Rx_s1 : textOk C_slices_IndexFunc_api_Rx_api_Rx_s1.bef Tryd.prog 58 = true := by kernel_rfl
theorem sln_slices_IndexFunc_api_Rx_api_Rx_s1_l2 {R : Type} : SlOk (R := R) C_slices_IndexFunc_api_Rx_api_Rx_s1 58 19 0 2 (sl_slices_IndexFunc_api_Rx_api_Rx_s1_l2 (fun _ _ _ _ _ => none)) := by
  intro vs es K r h
  unfold sl_slices_IndexFunc_api_Rx_api_Rx_s1_l2 at h
  split at h <;> exact no_some h
theorem lok_slices_IndexFunc_api_Rx_api_Rx_s1_l2 {R : Type} {c_rx_Plain : T0 R} (h_rx_Plain : Ok_rx_Plain c_rx_Plain) (kf : Nat) : ∀ n, SlOk (R := R) C_slices_IndexFunc_api_Rx_api_Rx_s1 58 19 0 2 (sl_slices_IndexFunc_api_Rx_api_Rx_s1_l2 (slices_IndexFunc_api_Rx_api_Rx_s1_l2 c_rx_Plain kf n)) := by
  intro n
  induction n with
  | zero =>
    intro vs es K r h
    unfold sl_slices_IndexFunc_api_Rx_api_Rx_s1_l2 at h
    split at h <;> exact no_some h
  | succ k ih =>
    have hcf : CfOk (R := R) Tryd.prog glob raw (cf_slices_IndexFunc_api_Rx_api_Rx_s1 (rx_Plain_1 c_rx_Plain kf) (slices_IndexFunc_api_Rx_api_Rx_s1_l2 c_rx_Plain kf k)) := (cf_cons (shok_39 (ok_rx_Plain_1 h_rx_Plain kf)) cf_nil)
    have hlf : LfOk (R := R) C_slices_IndexFunc_api_Rx_api_Rx_s1 58 (lf_slices_IndexFunc_api_Rx_api_Rx_s1 (rx_Plain_1 c_rx_Plain kf) (slices_IndexFunc_api_Rx_api_Rx_s1_l2 c_rx_Plain kf k)) := (lf_top (lf_cons ih lf_nil))
    intro vs es K r h
    unfold sl_slices_IndexFunc_api_Rx_api_Rx_s1_l2 at h
    split at h
    · exact loop_good (text_mixed t_slices_IndexFunc_api_Rx_api_Rx_s1) hcf hlf (text_loop t_slices_IndexFunc_api_Rx_api_Rx_s1 2).1 (text_loop t_slices_IndexFunc_api_Rx_api_Rx_s1 2).2 ((eq_slices_IndexFunc_api_Rx_api_Rx_s1_l2 (rx_Plain_1 c_rx_Plain kf) (slices_IndexFunc_api_Rx_api_Rx_s1_l2 c_rx_Plain kf k) _ _ _ K).trans h)
    · exact no_some h
theorem ok_slices_IndexFunc_api_Rx_api_Rx_s1 {R : Type} {c_rx_Plain : T0 R} (h_rx_Plain : Ok_rx_Plain c_rx_Plain) (kf : Nat) : Ok_slices_IndexFunc_api_Rx_api_Rx_s1 (R := R) (slices_IndexFunc_api_Rx_api_Rx_s1 c_rx_Plain kf) := by
  have hcf : CfOk (R := R) Tryd.prog glob raw (cf_slices_IndexFunc_api_Rx_api_Rx_s1 (rx_Plain_1 c_rx_Plain kf) (slices_IndexFunc_api_Rx_api_Rx_s1_l2 c_rx_Plain kf kf)) := (cf_cons (shok_39 (ok_rx_Plain_1 h_rx_Plain kf)) cf_nil)
  have hlf : LfOk (R := R) C_slices_IndexFunc_api_Rx_api_Rx_s1 58 (lf_slices_IndexFunc_api_Rx_api_Rx_s1 (rx_Plain_1 c_rx_Plain kf) (slices_IndexFunc_api_Rx_api_Rx_s1_l2 c_rx_Plain kf kf)) := (lf_top (lf_cons (lok_slices_IndexFunc_api_Rx_api_Rx_s1_l2 h_rx_Plain kf kf) lf_nil))
  intro v1 K r h
  exact run_good t_slices_IndexFunc_api_Rx_api_Rx_s1 hcf hlf ((eq_slices_IndexFunc_api_Rx_api_Rx_s1 (rx_Plain_1 c_rx_Plain kf) (slices_IndexFunc_api_Rx_api_Rx_s1_l2 c_rx_Plain kf kf) v1 K).trans h)
theorem t_slices_ContainsFunc_api_Rx_api_Rx_s1 : textOk C_slices_ContainsFunc_api_Rx_api_Rx_s1.bef Tryd.prog 38 = true := by kernel_rfl
theorem ok_slices_ContainsFunc_api_Rx_api_Rx_s1 {R : Type} {c_rx_Plain : T0 R} (h_rx_Plain : Ok_rx_Plain c_rx_Plain) (kf : Nat) : Ok_slices_ContainsFunc_api_Rx_api_Rx_s1 (R := R) (slices_ContainsFunc_api_Rx_api_Rx_s1 c_rx_Plain kf) := by
  have hcf : CfOk (R := R) Tryd.prog glob raw (cf_slices_ContainsFunc_api_Rx_api_Rx_s1 (slices_IndexFunc_api_Rx_api_Rx_s1 c_rx_Plain kf)) := (cf_cons (shok_58 okn_slices_IndexFunc_api_Rx_api_Rx (ok_slices_IndexFunc_api_Rx_api_Rx_s1 h_rx_Plain kf)) cf_nil)
  have hlf : LfOk (R := R) C_slices_ContainsFunc_api_Rx_api_Rx_s1 38 (lf_slices_ContainsFunc_api_Rx_api_Rx_s1 (slices_IndexFunc_api_Rx_api_Rx_s1 c_rx_Plain kf)) := lf_none
  intro v1 K r h
  exact run_good t_slices_ContainsFunc_api_Rx_api_Rx_s1 hcf hlf ((eq_slices_ContainsFunc_api_Rx_api_Rx_s1 (slices_IndexFunc_api_Rx_api_Rx_s1 c_rx_Plain kf) v1 K).trans h)
theorem t_rx_Plain : textOk C_rx_Plain.bef Tryd.prog 25 = true := by kernel_rfl
theorem ok_rx_Plain {R : Type} : ∀ kf, Ok_rx_Plain (R := R) (rx_Plain kf) := by
  intro kf
  induction kf with
  | zero =>
    intro v1 v2 v3 K r h
    exact no_some h
  | succ kf hs =>
    have hcf : CfOk (R := R) Tryd.prog glob raw (cf_rx_Plain (rx_bad kf) (rx_rising kf) (slices_ContainsFunc_api_Rx_api_Rx_s1 (rx_Plain kf) kf)) := (cf_cons (shok_36 (ok_rx_bad kf)) (cf_cons (shok_37 (ok_rx_rising kf)) (cf_cons (shok_38 okn_slices_ContainsFunc_api_Rx_api_Rx (ok_slices_ContainsFunc_api_Rx_api_Rx_s1 hs kf)) cf_nil)))
    have hlf : LfOk (R := R) C_rx_Plain 25 (lf_rx_Plain (rx_bad kf) (rx_rising kf) (slices_ContainsFunc_api_Rx_api_Rx_s1 (rx_Plain kf) kf)) := lf_none
    intro v1 v2 v3 K r h
    exact run_good t_rx_Plain hcf hlf ((eq_rx_Plain (rx_bad kf) (rx_rising kf) (slices_ContainsFunc_api_Rx_api_Rx_s1 (rx_Plain kf) kf) v1 v2 v3 K).trans h)
theorem t_show_writer_put : textOk C_show_writer_put.bef Tryd.prog 40 = true := by kernel_rfl
theorem ok_show_writer_put {R : Type} : Ok_show_writer_put (R := R) (show_writer_put) := by
  have hcf : CfOk (R := R) Tryd.prog glob raw (cf_show_writer_put) := cf_nil
  have hlf : LfOk (R := R) C_show_writer_put 40 (lf_show_writer_put) := lf_none
  intro v1 v2 v3 K r h
  exact run_good t_show_writer_put hcf hlf ((eq_show_writer_put v1 v2 v3 K).trans h)
theorem t_byteset_Has : textOk C_byteset_Has.bef Tryd.prog 73 = true := by kernel_rfl
theorem ok_byteset_Has {R : Type} : Ok_byteset_Has (R := R) (byteset_Has) := by
  have hcf : CfOk (R := R) Tryd.prog glob raw (cf_byteset_Has) := cf_nil
  have hlf : LfOk (R := R) C_byteset_Has 73 (lf_byteset_Has) := lf_none
  intro v1 v2 K r h
  exact run_good t_byteset_Has hcf hlf ((eq_byteset_Has v1 v2 K).trans h)
theorem t_byteset_List : textOk C_byteset_List.bef Tryd.prog 59 = true := by kernel_rfl
theorem sln_byteset_List_l3 {R : Type} : SlOk (R := R) C_byteset_List 59 19 0 3 (sl_byteset_List_l3 (fun _ _ _ _ => none)) := by
  intro vs es K r h
  unfold sl_byteset_List_l3 at h
  split at h <;> exact no_some h
theorem lok_byteset_List_l3 {R : Type} (kf : Nat) : ∀ n, SlOk (R := R) C_byteset_List 59 19 0 3 (sl_byteset_List_l3 (byteset_List_l3 kf n)) := by
  intro n
  induction n with
  | zero =>
    intro vs es K r h
    unfold sl_byteset_List_l3 at h
    split at h <;> exact no_some h
  | succ k ih =>
    have hcf : CfOk (R := R) Tryd.prog glob raw (cf_byteset_List byteset_Has (byteset_List_l3 kf k)) := (cf_cons (shok_73 ok_byteset_Has) cf_nil)
    have hlf : LfOk (R := R) C_byteset_List 59 (lf_byteset_List byteset_Has (byteset_List_l3 kf k)) := (lf_top (lf_cons ih lf_nil))
    intro vs es K r h
    unfold sl_byteset_List_l3 at h
    split at h
    · exact loop_good (text_mixed t_byteset_List) hcf hlf (text_loop t_byteset_List 3).1 (text_loop t_byteset_List 3).2 ((eq_byteset_List_l3 byteset_Has (byteset_List_l3 kf k) _ _ _ K).trans h)
    · exact no_some h
theorem ok_byteset_List {R : Type} (kf : Nat) : Ok_byteset_List (R := R) (byteset_List kf) := by
  have hcf : CfOk (R := R) Tryd.prog glob raw (cf_byteset_List byteset_Has (byteset_List_l3 kf kf)) := (cf_cons (shok_73 ok_byteset_Has) cf_nil)
  have hlf : LfOk (R := R) C_byteset_List 59 (lf_byteset_List byteset_Has (byteset_List_l3 kf kf)) := (lf_top (lf_cons (lok_byteset_List_l3 kf kf) lf_nil))
  intro v1 K r h
  exact run_good t_byteset_List hcf hlf ((eq_byteset_List byteset_Has (byteset_List_l3 kf kf) v1 K).trans h)
theorem t_show_sign : textOk C_show_sign.bef Tryd.prog 60 = true := by kernel_rfl
theorem ok_show_sign {R : Type} : Ok_show_sign (R := R) (show_sign) := by
  have hcf : CfOk (R := R) Tryd.prog glob raw (cf_show_sign) := (cf_cons (pok_74) cf_nil)
  have hlf : LfOk (R := R) C_show_sign 60 (lf_show_sign) := lf_none
  intro v1 K r h
  exact run_good t_show_sign hcf hlf ((eq_show_sign v1 K).trans h)
theorem t_show_writer_set : textOk C_show_writer_set.bef Tryd.prog 41 = true := by kernel_rfl
theorem sln_show_writer_set_l9 {R : Type} : SlOk (R := R) C_show_writer_set 41 77 1 9 (sl_show_writer_set_l9 (fun _ _ _ _ _ => none)) := by
  intro vs es K r h
  unfold sl_show_writer_set_l9 at h
  split at h <;> exact no_some h
theorem sln_show_writer_set_l11 {R : Type} : SlOk (R := R) C_show_writer_set 41 77 1 11 (sl_show_writer_set_l11 (fun _ _ _ _ _ _ => none)) := by
  intro vs es K r h
  unfold sl_show_writer_set_l11 at h
  split at h <;> exact no_some h
theorem lok_show_writer_set_l11 {R : Type} (kf : Nat) : ∀ n, SlOk (R := R) C_show_writer_set 41 77 1 11 (sl_show_writer_set_l11 (show_writer_set_l11 kf n)) := by
  intro n
  induction n with
  | zero =>
    intro vs es K r h
    unfold sl_show_writer_set_l11 at h
    split at h <;> exact no_some h
  | succ k ih =>
    have hcf : CfOk (R := R) Tryd.prog glob raw (cf_show_writer_set (byteset_List kf) show_writer_put show_sign (fun _ _ _ _ _ => none) (show_writer_set_l11 kf k)) := (cf_cons (shok_59 (ok_byteset_List kf)) (cf_cons (shok_40 ok_show_writer_put) (cf_cons (shok_60 ok_show_sign) cf_nil)))
    have hlf : LfOk (R := R) C_show_writer_set 41 (lf_show_writer_set (byteset_List kf) show_writer_put show_sign (fun _ _ _ _ _ => none) (show_writer_set_l11 kf k)) := (lf_top (lf_cons (sln_show_writer_set_l9) (lf_cons ih lf_nil)))
    intro vs es K r h
    unfold sl_show_writer_set_l11 at h
    split at h
    · exact loop_good (text_mixed t_show_writer_set) hcf hlf (text_loop t_show_writer_set 11).1 (text_loop t_show_writer_set 11).2 ((eq_show_writer_set_l11 (byteset_List kf) show_writer_put show_sign (fun _ _ _ _ _ => none) (show_writer_set_l11 kf k) _ _ _ _ _ K).trans h)
    · exact no_some h
theorem lok_show_writer_set_l9 {R : Type} (kf : Nat) : ∀ n, SlOk (R := R) C_show_writer_set 41 77 1 9 (sl_show_writer_set_l9 (show_writer_set_l9 kf n)) := by
  intro n
  induction n with
  | zero =>
    intro vs es K r h
    unfold sl_show_writer_set_l9 at h
    split at h <;> exact no_some h
  | succ k ih =>
    have hcf : CfOk (R := R) Tryd.prog glob raw (cf_show_writer_set (byteset_List kf) show_writer_put show_sign (show_writer_set_l9 kf k) (show_writer_set_l11 kf k)) := (cf_cons (shok_59 (ok_byteset_List kf)) (cf_cons (shok_40 ok_show_writer_put) (cf_cons (shok_60 ok_show_sign) cf_nil)))
    have hlf : LfOk (R := R) C_show_writer_set 41 (lf_show_writer_set (byteset_List kf) show_writer_put show_sign (show_writer_set_l9 kf k) (show_writer_set_l11 kf k)) := (lf_top (lf_cons ih (lf_cons (lok_show_writer_set_l11 kf k) lf_nil)))
    intro vs es K r h
    unfold sl_show_writer_set_l9 at h
    split at h
    · exact loop_good (text_mixed t_show_writer_set) hcf hlf (text_loop t_show_writer_set 9).1 (text_loop t_show_writer_set 9).2 ((eq_show_writer_set_l9 (byteset_List kf) show_writer_put show_sign (show_writer_set_l9 kf k) (show_writer_set_l11 kf k) _ _ _ _ K).trans h)
    · exact no_some h
theorem ok_show_writer_set {R : Type} (kf : Nat) : Ok_show_writer_set (R := R) (show_writer_set kf) := by
  have hcf : CfOk (R := R) Tryd.prog glob raw (cf_show_writer_set (byteset_List kf) show_writer_put show_sign (show_writer_set_l9 kf kf) (show_writer_set_l11 kf kf)) := (cf_cons (shok_59 (ok_byteset_List kf)) (cf_cons (shok_40 ok_show_writer_put) (cf_cons (shok_60 ok_show_sign) cf_nil)))
  have hlf : LfOk (R := R) C_show_writer_set 41 (lf_show_writer_set (byteset_List kf) show_writer_put show_sign (show_writer_set_l9 kf kf) (show_writer_set_l11 kf kf)) := (lf_top (lf_cons (lok_show_writer_set_l9 kf kf) (lf_cons (lok_show_writer_set_l11 kf kf) lf_nil)))
  intro v1 v2 v3 K r h
  exact run_good t_show_writer_set hcf hlf ((eq_show_writer_set (byteset_List kf) show_writer_put show_sign (show_writer_set_l9 kf kf) (show_writer_set_l11 kf kf) v1 v2 v3 K).trans h)
theorem t_show_writer_within : textOk C_show_writer_within.bef Tryd.prog 42 = true := by kernel_rfl
theorem ok_show_writer_within {R : Type} {c_show_writer_rx : T9 R} (h_show_writer_rx : Ok_show_writer_rx c_show_writer_rx) (kf : Nat) : Ok_show_writer_within (R := R) (show_writer_within c_show_writer_rx kf) := by
  have hcf : CfOk (R := R) Tryd.prog glob raw (cf_show_writer_within (slices_Contains_int_int kf) c_show_writer_rx show_writer_put) := (cf_cons (shok_55 (ok_slices_Contains_int_int kf)) (cf_cons (shok_26 h_show_writer_rx) (cf_cons (shok_40 ok_show_writer_put) cf_nil)))
  have hlf : LfOk (R := R) C_show_writer_within 42 (lf_show_writer_within (slices_Contains_int_int kf) c_show_writer_rx show_writer_put) := lf_none
  intro v1 v2 v3 v4 v5 v6 K r h
  exact run_good t_show_writer_within hcf hlf ((eq_show_writer_within (slices_Contains_int_int kf) c_show_writer_rx show_writer_put v1 v2 v3 v4 v5 v6 K).trans h)
theorem t_show_writer_rx : textOk C_show_writer_rx.bef Tryd.prog 26 = true := by kernel_rfl
theorem sln_show_writer_rx_l11 {R : Type} : SlOk (R := R) C_show_writer_rx 26 74 1 11 (sl_show_writer_rx_l11 (fun _ _ _ _ _ _ => none)) := by
  intro vs es K r h
  unfold sl_show_writer_rx_l11 at h
  split at h <;> exact no_some h
theorem sln_show_writer_rx_l17 {R : Type} : SlOk (R := R) C_show_writer_rx 26 74 1 17 (sl_show_writer_rx_l17 (fun _ _ _ _ _ _ => none)) := by
  intro vs es K r h
  unfold sl_show_writer_rx_l17 at h
  split at h <;> exact no_some h
theorem lok_show_writer_rx_l11 {R : Type} {c_self : T9 R} (hs : Ok_show_writer_rx c_self) (kf : Nat) : ∀ n, SlOk (R := R) C_show_writer_rx 26 74 1 11 (sl_show_writer_rx_l11 (show_writer_rx_l11 c_self kf n)) := by
  intro n
  induction n with
  | zero =>
    intro vs es K r h
    unfold sl_show_writer_rx_l11 at h
    split at h <;> exact no_some h
  | succ k ih =>
    have hcf : CfOk (R := R) Tryd.prog glob raw (cf_show_writer_rx show_writer_put (show_writer_set kf) (show_writer_within c_self kf) c_self (show_writer_rx_l11 c_self kf k) (fun _ _ _ _ _ _ => none)) := (cf_cons (shok_40 ok_show_writer_put) (cf_cons (shok_41 (ok_show_writer_set kf)) (cf_cons (shok_42 (ok_show_writer_within hs kf)) (cf_cons (shok_26 hs) cf_nil))))
    have hlf : LfOk (R := R) C_show_writer_rx 26 (lf_show_writer_rx show_writer_put (show_writer_set kf) (show_writer_within c_self kf) c_self (show_writer_rx_l11 c_self kf k) (fun _ _ _ _ _ _ => none)) := (lf_top (lf_cons ih (lf_cons (sln_show_writer_rx_l17) lf_nil)))
    intro vs es K r h
    unfold sl_show_writer_rx_l11 at h
    split at h
    · exact loop_good (text_mixed t_show_writer_rx) hcf hlf (text_loop t_show_writer_rx 11).1 (text_loop t_show_writer_rx 11).2 ((eq_show_writer_rx_l11 show_writer_put (show_writer_set kf) (show_writer_within c_self kf) c_self (show_writer_rx_l11 c_self kf k) (fun _ _ _ _ _ _ => none) _ _ _ _ _ K).trans h)
    · exact no_some h
theorem lok_show_writer_rx_l17 {R : Type} {c_self : T9 R} (hs : Ok_show_writer_rx c_self) (kf : Nat) : ∀ n, SlOk (R := R) C_show_writer_rx 26 74 1 17 (sl_show_writer_rx_l17 (show_writer_rx_l17 c_self kf n)) := by
  intro n
  induction n with
  | zero =>
    intro vs es K r h
    unfold sl_show_writer_rx_l17 at h
    split at h <;> exact no_some h
  | succ k ih =>
    have hcf : CfOk (R := R) Tryd.prog glob raw (cf_show_writer_rx show_writer_put (show_writer_set kf) (show_writer_within c_self kf) c_self (show_writer_rx_l11 c_self kf k) (show_writer_rx_l17 c_self kf k)) := (cf_cons (shok_40 ok_show_writer_put) (cf_cons (shok_41 (ok_show_writer_set kf)) (cf_cons (shok_42 (ok_show_writer_within hs kf)) (cf_cons (shok_26 hs) cf_nil))))
    have hlf : LfOk (R := R) C_show_writer_rx 26 (lf_show_writer_rx show_writer_put (show_writer_set kf) (show_writer_within c_self kf) c_self (show_writer_rx_l11 c_self kf k) (show_writer_rx_l17 c_self kf k)) := (lf_top (lf_cons (lok_show_writer_rx_l11 hs kf k) (lf_cons ih lf_nil)))
    intro vs es K r h
    unfold sl_show_writer_rx_l17 at h
    split at h
    · exact loop_good (text_mixed t_show_writer_rx) hcf hlf (text_loop t_show_writer_rx 17).1 (text_loop t_show_writer_rx 17).2 ((eq_show_writer_rx_l17 show_writer_put (show_writer_set kf) (show_writer_within c_self kf) c_self (show_writer_rx_l11 c_self kf k) (show_writer_rx_l17 c_self kf k) _ _ _ _ _ K).trans h)
    · exact no_some h
theorem ok_show_writer_rx {R : Type} : ∀ kf, Ok_show_writer_rx (R := R) (show_writer_rx kf) := by
  intro kf
  induction kf with
  | zero =>
    intro v1 v2 v3 v4 v5 K r h
    exact no_some h
  | succ kf hs =>
    have hcf : CfOk (R := R) Tryd.prog glob raw (cf_show_writer_rx show_writer_put (show_writer_set kf) (show_writer_within (show_writer_rx kf) kf) (show_writer_rx kf) (show_writer_rx_l11 (show_writer_rx kf) kf kf) (show_writer_rx_l17 (show_writer_rx kf) kf kf)) := (cf_cons (shok_40 ok_show_writer_put) (cf_cons (shok_41 (ok_show_writer_set kf)) (cf_cons (shok_42 (ok_show_writer_within hs kf)) (cf_cons (shok_26 hs) cf_nil))))
    have hlf : LfOk (R := R) C_show_writer_rx 26 (lf_show_writer_rx show_writer_put (show_writer_set kf) (show_writer_within (show_writer_rx kf) kf) (show_writer_rx kf) (show_writer_rx_l11 (show_writer_rx kf) kf kf) (show_writer_rx_l17 (show_writer_rx kf) kf kf)) := (lf_top (lf_cons (lok_show_writer_rx_l11 hs kf kf) (lf_cons (lok_show_writer_rx_l17 hs kf kf) lf_nil)))
    intro v1 v2 v3 v4 v5 K r h
    exact run_good t_show_writer_rx hcf hlf ((eq_show_writer_rx show_writer_put (show_writer_set kf) (show_writer_within (show_writer_rx kf) kf) (show_writer_rx kf) (show_writer_rx_l11 (show_writer_rx kf) kf kf) (show_writer_rx_l17 (show_writer_rx kf) kf kf) v1 v2 v3 v4 v5 K).trans h)
theorem t_show_Show : textOk C_show_Show.bef Tryd.prog 12 = true := by kernel_rfl
theorem ok_show_Show {R : Type} (kf : Nat) : Ok_show_Show (R := R) (show_Show kf) := by
  have hcf : CfOk (R := R) Tryd.prog glob raw (cf_show_Show (rx_Plain kf) (show_writer_rx kf)) := (cf_cons (shok_25 (ok_rx_Plain kf)) (cf_cons (shok_26 (ok_show_writer_rx kf)) cf_nil))
  have hlf : LfOk (R := R) C_show_Show 12 (lf_show_Show (rx_Plain kf) (show_writer_rx kf)) := lf_none
  intro v1 v2 v3 K r h
  exact run_good t_show_Show hcf hlf ((eq_show_Show (rx_Plain kf) (show_writer_rx kf) v1 v2 v3 K).trans h)
theorem t_law7_begun : textOk C_law7_begun.bef Tryd.prog 9 = true := by kernel_rfl
theorem ok_law7_begun {R : Type} (kf : Nat) : Ok_law7_begun (R := R) (law7_begun kf) := by
  have hcf : CfOk (R := R) Tryd.prog glob raw (cf_law7_begun (ref1_Of kf) ref5_Bytes (ref5_Star kf) (show_Show kf) ref5_Empty) := (cf_cons (shok_20 (ok_ref1_Of kf)) (cf_cons (shok_18 ok_ref5_Bytes) (cf_cons (shok_21 (ok_ref5_Star kf)) (cf_cons (shok_12 (ok_show_Show kf)) (cf_cons (shok_22 ok_ref5_Empty) cf_nil)))))
  have hlf : LfOk (R := R) C_law7_begun 9 (lf_law7_begun (ref1_Of kf) ref5_Bytes (ref5_Star kf) (show_Show kf) ref5_Empty) := lf_none
  intro K r h
  exact run_good t_law7_begun hcf hlf ((eq_law7_begun (ref1_Of kf) ref5_Bytes (ref5_Star kf) (show_Show kf) ref5_Empty K).trans h)
theorem t_ref5_Nodes : textOk C_ref5_Nodes.bef Tryd.prog 23 = true := by kernel_rfl
theorem sln_ref5_Nodes_l3 {R : Type} : SlOk (R := R) C_ref5_Nodes 23 21 0 3 (sl_ref5_Nodes_l3 (fun _ _ _ _ => none)) := by
  intro vs es K r h
  unfold sl_ref5_Nodes_l3 at h
  split at h <;> exact no_some h
theorem lok_ref5_Nodes_l3 {R : Type} {c_self : T8 R} (hs : Ok_ref5_Nodes c_self) (kf : Nat) : ∀ n, SlOk (R := R) C_ref5_Nodes 23 21 0 3 (sl_ref5_Nodes_l3 (ref5_Nodes_l3 c_self kf n)) := by
  intro n
  induction n with
  | zero =>
    intro vs es K r h
    unfold sl_ref5_Nodes_l3 at h
    split at h <;> exact no_some h
  | succ k ih =>
    have hcf : CfOk (R := R) Tryd.prog glob raw (cf_ref5_Nodes c_self (ref5_Nodes_l3 c_self kf k)) := (cf_cons (shok_23 hs) cf_nil)
    have hlf : LfOk (R := R) C_ref5_Nodes 23 (lf_ref5_Nodes c_self (ref5_Nodes_l3 c_self kf k)) := (lf_top (lf_cons ih lf_nil))
    intro vs es K r h
    unfold sl_ref5_Nodes_l3 at h
    split at h
    · exact loop_good (text_mixed t_ref5_Nodes) hcf hlf (text_loop t_ref5_Nodes 3).1 (text_loop t_ref5_Nodes 3).2 ((eq_ref5_Nodes_l3 c_self (ref5_Nodes_l3 c_self kf k) _ _ _ _ _ K).trans h)
    · exact no_some h
theorem ok_ref5_Nodes {R : Type} : ∀ kf, Ok_ref5_Nodes (R := R) (ref5_Nodes kf) := by
  intro kf
  induction kf with
  | zero =>
    intro v1 v2 v3 K r h
    exact no_some h
  | succ kf hs =>
    have hcf : CfOk (R := R) Tryd.prog glob raw (cf_ref5_Nodes (ref5_Nodes kf) (ref5_Nodes_l3 (ref5_Nodes kf) kf kf)) := (cf_cons (shok_23 hs) cf_nil)
    have hlf : LfOk (R := R) C_ref5_Nodes 23 (lf_ref5_Nodes (ref5_Nodes kf) (ref5_Nodes_l3 (ref5_Nodes kf) kf kf)) := (lf_top (lf_cons (lok_ref5_Nodes_l3 hs kf kf) lf_nil))
    intro v1 v2 v3 K r h
    exact run_good t_ref5_Nodes hcf hlf ((eq_ref5_Nodes (ref5_Nodes kf) (ref5_Nodes_l3 (ref5_Nodes kf) kf kf) v1 v2 v3 K).trans h)
theorem t_ref5_Depth : textOk C_ref5_Depth.bef Tryd.prog 24 = true := by kernel_rfl
theorem sln_ref5_Depth_l3 {R : Type} : SlOk (R := R) C_ref5_Depth 24 22 0 3 (sl_ref5_Depth_l3 (fun _ _ _ _ => none)) := by
  intro vs es K r h
  unfold sl_ref5_Depth_l3 at h
  split at h <;> exact no_some h
theorem lok_ref5_Depth_l3 {R : Type} {c_self : T8 R} (hs : Ok_ref5_Depth c_self) (kf : Nat) : ∀ n, SlOk (R := R) C_ref5_Depth 24 22 0 3 (sl_ref5_Depth_l3 (ref5_Depth_l3 c_self kf n)) := by
  intro n
  induction n with
  | zero =>
    intro vs es K r h
    unfold sl_ref5_Depth_l3 at h
    split at h <;> exact no_some h
  | succ k ih =>
    have hcf : CfOk (R := R) Tryd.prog glob raw (cf_ref5_Depth c_self (ref5_Depth_l3 c_self kf k)) := (cf_cons (shok_24 hs) cf_nil)
    have hlf : LfOk (R := R) C_ref5_Depth 24 (lf_ref5_Depth c_self (ref5_Depth_l3 c_self kf k)) := (lf_top (lf_cons ih lf_nil))
    intro vs es K r h
    unfold sl_ref5_Depth_l3 at h
    split at h
    · exact loop_good (text_mixed t_ref5_Depth) hcf hlf (text_loop t_ref5_Depth 3).1 (text_loop t_ref5_Depth 3).2 ((eq_ref5_Depth_l3 c_self (ref5_Depth_l3 c_self kf k) _ _ _ _ _ K).trans h)
    · exact no_some h
theorem ok_ref5_Depth {R : Type} : ∀ kf, Ok_ref5_Depth (R := R) (ref5_Depth kf) := by
  intro kf
  induction kf with
  | zero =>
    intro v1 v2 v3 K r h
    exact no_some h
  | succ kf hs =>
    have hcf : CfOk (R := R) Tryd.prog glob raw (cf_ref5_Depth (ref5_Depth kf) (ref5_Depth_l3 (ref5_Depth kf) kf kf)) := (cf_cons (shok_24 hs) cf_nil)
    have hlf : LfOk (R := R) C_ref5_Depth 24 (lf_ref5_Depth (ref5_Depth kf) (ref5_Depth_l3 (ref5_Depth kf) kf kf)) := (lf_top (lf_cons (lok_ref5_Depth_l3 hs kf kf) lf_nil))
    intro v1 v2 v3 K r h
    exact run_good t_ref5_Depth hcf hlf ((eq_ref5_Depth (ref5_Depth kf) (ref5_Depth_l3 (ref5_Depth kf) kf kf) v1 v2 v3 K).trans h)
theorem t_law5_Light : textOk C_law5_Light.bef Tryd.prog 10 = true := by kernel_rfl
theorem ok_law5_Light {R : Type} (kf : Nat) : Ok_law5_Light (R := R) (law5_Light kf) := by
  have hcf : CfOk (R := R) Tryd.prog glob raw (cf_law5_Light (ref5_Nodes kf) (ref5_Depth kf)) := (cf_cons (shok_23 (ok_ref5_Nodes kf)) (cf_cons (shok_24 (ok_ref5_Depth kf)) cf_nil))
  have hlf : LfOk (R := R) C_law5_Light 10 (lf_law5_Light (ref5_Nodes kf) (ref5_Depth kf)) := lf_none
  intro v1 v2 v3 v4 K r h
  exact run_good t_law5_Light hcf hlf ((eq_law5_Light (ref5_Nodes kf) (ref5_Depth kf) v1 v2 v3 v4 K).trans h)
theorem t_ref5_Cat : textOk C_ref5_Cat.bef Tryd.prog 43 = true := by kernel_rfl
theorem sln_ref5_Cat_l4 {R : Type} : SlOk (R := R) C_ref5_Cat 43 47 0 4 (sl_ref5_Cat_l4 (fun _ _ _ _ _ _ _ _ => none)) := by
  intro vs es K r h
  unfold sl_ref5_Cat_l4 at h
  split at h <;> exact no_some h
theorem lok_ref5_Cat_l4 {R : Type} (kf : Nat) : ∀ n, SlOk (R := R) C_ref5_Cat 43 47 0 4 (sl_ref5_Cat_l4 (ref5_Cat_l4 kf n)) := by
  intro n
  induction n with
  | zero =>
    intro vs es K r h
    unfold sl_ref5_Cat_l4 at h
    split at h <;> exact no_some h
  | succ k ih =>
    have hcf : CfOk (R := R) Tryd.prog glob raw (cf_ref5_Cat (ref5_flat kf) ref5_None (ref5_Copy kf) ref5_Empty (ref5_Cat_l4 kf k)) := (cf_cons (shok_51 (ok_ref5_flat kf)) (cf_cons (shok_33 ok_ref5_None) (cf_cons (shok_11 (ok_ref5_Copy kf)) (cf_cons (shok_22 ok_ref5_Empty) cf_nil))))
    have hlf : LfOk (R := R) C_ref5_Cat 43 (lf_ref5_Cat (ref5_flat kf) ref5_None (ref5_Copy kf) ref5_Empty (ref5_Cat_l4 kf k)) := (lf_top (lf_cons ih lf_nil))
    intro vs es K r h
    unfold sl_ref5_Cat_l4 at h
    split at h
    · exact loop_good (text_mixed t_ref5_Cat) hcf hlf (text_loop t_ref5_Cat 4).1 (text_loop t_ref5_Cat 4).2 ((eq_ref5_Cat_l4 (ref5_flat kf) ref5_None (ref5_Copy kf) ref5_Empty (ref5_Cat_l4 kf k) _ _ _ _ _ _ K).trans h)
    · exact no_some h
theorem ok_ref5_Cat {R : Type} (kf : Nat) : Ok_ref5_Cat (R := R) (ref5_Cat kf) := by
  have hcf : CfOk (R := R) Tryd.prog glob raw (cf_ref5_Cat (ref5_flat kf) ref5_None (ref5_Copy kf) ref5_Empty (ref5_Cat_l4 kf kf)) := (cf_cons (shok_51 (ok_ref5_flat kf)) (cf_cons (shok_33 ok_ref5_None) (cf_cons (shok_11 (ok_ref5_Copy kf)) (cf_cons (shok_22 ok_ref5_Empty) cf_nil))))
  have hlf : LfOk (R := R) C_ref5_Cat 43 (lf_ref5_Cat (ref5_flat kf) ref5_None (ref5_Copy kf) ref5_Empty (ref5_Cat_l4 kf kf)) := (lf_top (lf_cons (lok_ref5_Cat_l4 kf kf) lf_nil))
  intro v1 K r h
  exact run_good t_ref5_Cat hcf hlf ((eq_ref5_Cat (ref5_flat kf) ref5_None (ref5_Copy kf) ref5_Empty (ref5_Cat_l4 kf kf) v1 K).trans h)
theorem t_ref5_Same : textOk C_ref5_Same.bef Tryd.prog 14 = true := by kernel_rfl
theorem sln_ref5_Same_l4 {R : Type} : SlOk (R := R) C_ref5_Same 14 46 0 4 (sl_ref5_Same_l4 (fun _ _ _ _ _ => none)) := by
  intro vs es K r h
  unfold sl_ref5_Same_l4 at h
  split at h <;> exact no_some h
theorem lok_ref5_Same_l4 {R : Type} {c_self : T7 R} (hs : Ok_ref5_Same c_self) (kf : Nat) : ∀ n, SlOk (R := R) C_ref5_Same 14 46 0 4 (sl_ref5_Same_l4 (ref5_Same_l4 c_self kf n)) := by
  intro n
  induction n with
  | zero =>
    intro vs es K r h
    unfold sl_ref5_Same_l4 at h
    split at h <;> exact no_some h
  | succ k ih =>
    have hcf : CfOk (R := R) Tryd.prog glob raw (cf_ref5_Same c_self (ref5_Same_l4 c_self kf k)) := (cf_cons (shok_14 hs) cf_nil)
    have hlf : LfOk (R := R) C_ref5_Same 14 (lf_ref5_Same c_self (ref5_Same_l4 c_self kf k)) := (lf_top (lf_cons ih lf_nil))
    intro vs es K r h
    unfold sl_ref5_Same_l4 at h
    split at h
    · exact loop_good (text_mixed t_ref5_Same) hcf hlf (text_loop t_ref5_Same 4).1 (text_loop t_ref5_Same 4).2 ((eq_ref5_Same_l4 c_self (ref5_Same_l4 c_self kf k) _ _ _ _ _ _ _ K).trans h)
    · exact no_some h
theorem ok_ref5_Same {R : Type} : ∀ kf, Ok_ref5_Same (R := R) (ref5_Same kf) := by
  intro kf
  induction kf with
  | zero =>
    intro v1 v2 v3 v4 v5 v6 K r h
    exact no_some h
  | succ kf hs =>
    have hcf : CfOk (R := R) Tryd.prog glob raw (cf_ref5_Same (ref5_Same kf) (ref5_Same_l4 (ref5_Same kf) kf kf)) := (cf_cons (shok_14 hs) cf_nil)
    have hlf : LfOk (R := R) C_ref5_Same 14 (lf_ref5_Same (ref5_Same kf) (ref5_Same_l4 (ref5_Same kf) kf kf)) := (lf_top (lf_cons (lok_ref5_Same_l4 hs kf kf) lf_nil))
    intro v1 v2 v3 v4 v5 v6 K r h
    exact run_good t_ref5_Same hcf hlf ((eq_ref5_Same (ref5_Same kf) (ref5_Same_l4 (ref5_Same kf) kf kf) v1 v2 v3 v4 v5 v6 K).trans h)
theorem t_ref5_Plain : textOk C_ref5_Plain.bef Tryd.prog 27 = true := by kernel_rfl
theorem sln_ref5_Plain_l2 {R : Type} : SlOk (R := R) C_ref5_Plain 27 119 0 2 (sl_ref5_Plain_l2 (fun _ _ _ _ _ _ => none)) := by
  intro vs es K r h
  unfold sl_ref5_Plain_l2 at h
  split at h <;> exact no_some h
theorem lok_ref5_Plain_l2 {R : Type} {c_self : T0 R} (hs : Ok_ref5_Plain c_self) (kf : Nat) : ∀ n, SlOk (R := R) C_ref5_Plain 27 119 0 2 (sl_ref5_Plain_l2 (ref5_Plain_l2 c_self kf n)) := by
  intro n
  induction n with
  | zero =>
    intro vs es K r h
    unfold sl_ref5_Plain_l2 at h
    split at h <;> exact no_some h
  | succ k ih =>
    have hcf : CfOk (R := R) Tryd.prog glob raw (cf_ref5_Plain c_self (ref5_Cat kf) (ref5_Same kf) (ref5_Alt kf) (ref5_Plain_l2 c_self kf k)) := (cf_cons (shok_27 hs) (cf_cons (shok_43 (ok_ref5_Cat kf)) (cf_cons (shok_14 (ok_ref5_Same kf)) (cf_cons (shok_35 (ok_ref5_Alt kf)) cf_nil))))
    have hlf : LfOk (R := R) C_ref5_Plain 27 (lf_ref5_Plain c_self (ref5_Cat kf) (ref5_Same kf) (ref5_Alt kf) (ref5_Plain_l2 c_self kf k)) := (lf_top (lf_cons ih lf_nil))
    intro vs es K r h
    unfold sl_ref5_Plain_l2 at h
    split at h
    · exact loop_good (text_mixed t_ref5_Plain) hcf hlf (text_loop t_ref5_Plain 2).1 (text_loop t_ref5_Plain 2).2 ((eq_ref5_Plain_l2 c_self (ref5_Cat kf) (ref5_Same kf) (ref5_Alt kf) (ref5_Plain_l2 c_self kf k) _ _ _ _ K).trans h)
    · exact no_some h
theorem ok_ref5_Plain {R : Type} : ∀ kf, Ok_ref5_Plain (R := R) (ref5_Plain kf) := by
  intro kf
  induction kf with
  | zero =>
    intro v1 v2 v3 K r h
    exact no_some h
  | succ kf hs =>
    have hcf : CfOk (R := R) Tryd.prog glob raw (cf_ref5_Plain (ref5_Plain kf) (ref5_Cat kf) (ref5_Same kf) (ref5_Alt kf) (ref5_Plain_l2 (ref5_Plain kf) kf kf)) := (cf_cons (shok_27 hs) (cf_cons (shok_43 (ok_ref5_Cat kf)) (cf_cons (shok_14 (ok_ref5_Same kf)) (cf_cons (shok_35 (ok_ref5_Alt kf)) cf_nil))))
    have hlf : LfOk (R := R) C_ref5_Plain 27 (lf_ref5_Plain (ref5_Plain kf) (ref5_Cat kf) (ref5_Same kf) (ref5_Alt kf) (ref5_Plain_l2 (ref5_Plain kf) kf kf)) := (lf_top (lf_cons (lok_ref5_Plain_l2 hs kf kf) lf_nil))
    intro v1 v2 v3 K r h
    exact run_good t_ref5_Plain hcf hlf ((eq_ref5_Plain (ref5_Plain kf) (ref5_Cat kf) (ref5_Same kf) (ref5_Alt kf) (ref5_Plain_l2 (ref5_Plain kf) kf kf) v1 v2 v3 K).trans h)
theorem t_ref6_in : textOk C_ref6_in.bef Tryd.prog 76 = true := by kernel_rfl
theorem sln_ref6_in_l2 {R : Type} : SlOk (R := R) C_ref6_in 76 17 0 2 (sl_ref6_in_l2 (fun _ _ _ _ _ => none)) := by
  intro vs es K r h
  unfold sl_ref6_in_l2 at h
  split at h <;> exact no_some h
theorem lok_ref6_in_l2 {R : Type} (kf : Nat) : ∀ n, SlOk (R := R) C_ref6_in 76 17 0 2 (sl_ref6_in_l2 (ref6_in_l2 kf n)) := by
  intro n
  induction n with
  | zero =>
    intro vs es K r h
    unfold sl_ref6_in_l2 at h
    split at h <;> exact no_some h
  | succ k ih =>
    have hcf : CfOk (R := R) Tryd.prog glob raw (cf_ref6_in (ref6_in_l2 kf k)) := cf_nil
    have hlf : LfOk (R := R) C_ref6_in 76 (lf_ref6_in (ref6_in_l2 kf k)) := (lf_top (lf_cons ih lf_nil))
    intro vs es K r h
    unfold sl_ref6_in_l2 at h
    split at h
    · exact loop_good (text_mixed t_ref6_in) hcf hlf (text_loop t_ref6_in 2).1 (text_loop t_ref6_in 2).2 ((eq_ref6_in_l2 (ref6_in_l2 kf k) _ _ _ K).trans h)
    · exact no_some h
theorem ok_ref6_in {R : Type} (kf : Nat) : Ok_ref6_in (R := R) (ref6_in kf) := by
  have hcf : CfOk (R := R) Tryd.prog glob raw (cf_ref6_in (ref6_in_l2 kf kf)) := cf_nil
  have hlf : LfOk (R := R) C_ref6_in 76 (lf_ref6_in (ref6_in_l2 kf kf)) := (lf_top (lf_cons (lok_ref6_in_l2 kf kf) lf_nil))
  intro v1 v2 K r h
  exact run_good t_ref6_in hcf hlf ((eq_ref6_in (ref6_in_l2 kf kf) v1 v2 K).trans h)
theorem t_ref6_sign : textOk C_ref6_sign.bef Tryd.prog 62 = true := by kernel_rfl
theorem ok_ref6_sign {R : Type} (kf : Nat) : Ok_ref6_sign (R := R) (ref6_sign kf) := by
  have hcf : CfOk (R := R) Tryd.prog glob raw (cf_ref6_sign (ref6_in kf)) := (cf_cons (shok_76 (ok_ref6_in kf)) cf_nil)
  have hlf : LfOk (R := R) C_ref6_sign 62 (lf_ref6_sign (ref6_in kf)) := lf_none
  intro v1 K r h
  exact run_good t_ref6_sign hcf hlf ((eq_ref6_sign (ref6_in kf) v1 K).trans h)
theorem t_ref6_set : textOk C_ref6_set.bef Tryd.prog 44 = true := by kernel_rfl
theorem sln_ref6_set_l8 {R : Type} : SlOk (R := R) C_ref6_set 44 89 0 8 (sl_ref6_set_l8 (fun _ _ _ _ => none)) := by
  intro vs es K r h
  unfold sl_ref6_set_l8 at h
  split at h <;> exact no_some h
theorem sln_ref6_set_l10 {R : Type} : SlOk (R := R) C_ref6_set 44 89 0 10 (sl_ref6_set_l10 (fun _ _ _ _ _ => none)) := by
  intro vs es K r h
  unfold sl_ref6_set_l10 at h
  split at h <;> exact no_some h
theorem lok_ref6_set_l10 {R : Type} (kf : Nat) : ∀ n, SlOk (R := R) C_ref6_set 44 89 0 10 (sl_ref6_set_l10 (ref6_set_l10 kf n)) := by
  intro n
  induction n with
  | zero =>
    intro vs es K r h
    unfold sl_ref6_set_l10 at h
    split at h <;> exact no_some h
  | succ k ih =>
    have hcf : CfOk (R := R) Tryd.prog glob raw (cf_ref6_set (ref1_List kf) (ref6_sign kf) (fun _ _ _ _ => none) (ref6_set_l10 kf k)) := (cf_cons (shok_61 (ok_ref1_List kf)) (cf_cons (shok_62 (ok_ref6_sign kf)) cf_nil))
    have hlf : LfOk (R := R) C_ref6_set 44 (lf_ref6_set (ref1_List kf) (ref6_sign kf) (fun _ _ _ _ => none) (ref6_set_l10 kf k)) := (lf_top (lf_cons (sln_ref6_set_l8) (lf_cons ih lf_nil)))
    intro vs es K r h
    unfold sl_ref6_set_l10 at h
    split at h
    · exact loop_good (text_mixed t_ref6_set) hcf hlf (text_loop t_ref6_set 10).1 (text_loop t_ref6_set 10).2 ((eq_ref6_set_l10 (ref1_List kf) (ref6_sign kf) (fun _ _ _ _ => none) (ref6_set_l10 kf k) _ _ _ _ K).trans h)
    · exact no_some h
theorem lok_ref6_set_l8 {R : Type} (kf : Nat) : ∀ n, SlOk (R := R) C_ref6_set 44 89 0 8 (sl_ref6_set_l8 (ref6_set_l8 kf n)) := by
  intro n
  induction n with
  | zero =>
    intro vs es K r h
    unfold sl_ref6_set_l8 at h
    split at h <;> exact no_some h
  | succ k ih =>
    have hcf : CfOk (R := R) Tryd.prog glob raw (cf_ref6_set (ref1_List kf) (ref6_sign kf) (ref6_set_l8 kf k) (ref6_set_l10 kf k)) := (cf_cons (shok_61 (ok_ref1_List kf)) (cf_cons (shok_62 (ok_ref6_sign kf)) cf_nil))
    have hlf : LfOk (R := R) C_ref6_set 44 (lf_ref6_set (ref1_List kf) (ref6_sign kf) (ref6_set_l8 kf k) (ref6_set_l10 kf k)) := (lf_top (lf_cons ih (lf_cons (lok_ref6_set_l10 kf k) lf_nil)))
    intro vs es K r h
    unfold sl_ref6_set_l8 at h
    split at h
    · exact loop_good (text_mixed t_ref6_set) hcf hlf (text_loop t_ref6_set 8).1 (text_loop t_ref6_set 8).2 ((eq_ref6_set_l8 (ref1_List kf) (ref6_sign kf) (ref6_set_l8 kf k) (ref6_set_l10 kf k) _ _ _ K).trans h)
    · exact no_some h
theorem ok_ref6_set {R : Type} (kf : Nat) : Ok_ref6_set (R := R) (ref6_set kf) := by
  have hcf : CfOk (R := R) Tryd.prog glob raw (cf_ref6_set (ref1_List kf) (ref6_sign kf) (ref6_set_l8 kf kf) (ref6_set_l10 kf kf)) := (cf_cons (shok_61 (ok_ref1_List kf)) (cf_cons (shok_62 (ok_ref6_sign kf)) cf_nil))
  have hlf : LfOk (R := R) C_ref6_set 44 (lf_ref6_set (ref1_List kf) (ref6_sign kf) (ref6_set_l8 kf kf) (ref6_set_l10 kf kf)) := (lf_top (lf_cons (lok_ref6_set_l8 kf kf) (lf_cons (lok_ref6_set_l10 kf kf) lf_nil)))
  intro v1 K r h
  exact run_good t_ref6_set hcf hlf ((eq_ref6_set (ref1_List kf) (ref6_sign kf) (ref6_set_l8 kf kf) (ref6_set_l10 kf kf) v1 K).trans h)
theorem t_ref6_text : textOk C_ref6_text.bef Tryd.prog 28 = true := by kernel_rfl
theorem sln_ref6_text_l15 {R : Type} : SlOk (R := R) C_ref6_text 28 86 0 15 (sl_ref6_text_l15 (fun _ _ _ _ _ => none)) := by
  intro vs es K r h
  unfold sl_ref6_text_l15 at h
  split at h <;> exact no_some h
theorem lok_ref6_text_l15 {R : Type} {c_self : T6 R} (hs : Ok_ref6_text c_self) (kf : Nat) : ∀ n, SlOk (R := R) C_ref6_text 28 86 0 15 (sl_ref6_text_l15 (ref6_text_l15 c_self kf n)) := by
  intro n
  induction n with
  | zero =>
    intro vs es K r h
    unfold sl_ref6_text_l15 at h
    split at h <;> exact no_some h
  | succ k ih =>
    have hcf : CfOk (R := R) Tryd.prog glob raw (cf_ref6_text (ref6_set kf) c_self (ref6_text_l15 c_self kf k)) := (cf_cons (shok_44 (ok_ref6_set kf)) (cf_cons (shok_28 hs) cf_nil))
    have hlf : LfOk (R := R) C_ref6_text 28 (lf_ref6_text (ref6_set kf) c_self (ref6_text_l15 c_self kf k)) := (lf_top (lf_cons ih lf_nil))
    intro vs es K r h
    unfold sl_ref6_text_l15 at h
    split at h
    · exact loop_good (text_mixed t_ref6_text) hcf hlf (text_loop t_ref6_text 15).1 (text_loop t_ref6_text 15).2 ((eq_ref6_text_l15 (ref6_set kf) c_self (ref6_text_l15 c_self kf k) _ _ _ _ _ K).trans h)
    · exact no_some h
theorem ok_ref6_text {R : Type} : ∀ kf, Ok_ref6_text (R := R) (ref6_text kf) := by
  intro kf
  induction kf with
  | zero =>
    intro v1 v2 v3 K r h
    exact no_some h
  | succ kf hs =>
    have hcf : CfOk (R := R) Tryd.prog glob raw (cf_ref6_text (ref6_set kf) (ref6_text kf) (ref6_text_l15 (ref6_text kf) kf kf)) := (cf_cons (shok_44 (ok_ref6_set kf)) (cf_cons (shok_28 hs) cf_nil))
    have hlf : LfOk (R := R) C_ref6_text 28 (lf_ref6_text (ref6_set kf) (ref6_text kf) (ref6_text_l15 (ref6_text kf) kf kf)) := (lf_top (lf_cons (lok_ref6_text_l15 hs kf kf) lf_nil))
    intro v1 v2 v3 K r h
    exact run_good t_ref6_text hcf hlf ((eq_ref6_text (ref6_set kf) (ref6_text kf) (ref6_text_l15 (ref6_text kf) kf kf) v1 v2 v3 K).trans h)
theorem t_ref6_Show : textOk C_ref6_Show.bef Tryd.prog 13 = true := by kernel_rfl
theorem ok_ref6_Show {R : Type} (kf : Nat) : Ok_ref6_Show (R := R) (ref6_Show kf) := by
  have hcf : CfOk (R := R) Tryd.prog glob raw (cf_ref6_Show (ref5_Plain kf) (ref6_text kf)) := (cf_cons (shok_27 (ok_ref5_Plain kf)) (cf_cons (shok_28 (ok_ref6_text kf)) cf_nil))
  have hlf : LfOk (R := R) C_ref6_Show 13 (lf_ref6_Show (ref5_Plain kf) (ref6_text kf)) := lf_none
  intro v1 v2 v3 K r h
  exact run_good t_ref6_Show hcf hlf ((eq_ref6_Show (ref5_Plain kf) (ref6_text kf) v1 v2 v3 K).trans h)
theorem t_law7_ShowAll : textOk C_law7_ShowAll.bef Tryd.prog 3 = true := by kernel_rfl
theorem ok_law7_ShowAll {R : Type} (kf : Nat) : Ok_law7_ShowAll (R := R) (law7_ShowAll kf) := by
  have hcf : CfOk (R := R) Tryd.prog glob raw (cf_law7_ShowAll (law7_begun kf) (law5_Light kf) (ref5_Copy kf) (show_Show kf) (ref6_Show kf) (ref5_Same kf)) := (cf_cons (shok_9 (ok_law7_begun kf)) (cf_cons (shok_10 (ok_law5_Light kf)) (cf_cons (shok_11 (ok_ref5_Copy kf)) (cf_cons (shok_12 (ok_show_Show kf)) (cf_cons (shok_13 (ok_ref6_Show kf)) (cf_cons (shok_14 (ok_ref5_Same kf)) cf_nil))))))
  have hlf : LfOk (R := R) C_law7_ShowAll 3 (lf_law7_ShowAll (law7_begun kf) (law5_Light kf) (ref5_Copy kf) (show_Show kf) (ref6_Show kf) (ref5_Same kf)) := lf_none
  intro v1 v2 v3 K r h
  exact run_good t_law7_ShowAll hcf hlf ((eq_law7_ShowAll (law7_begun kf) (law5_Light kf) (ref5_Copy kf) (show_Show kf) (ref6_Show kf) (ref5_Same kf) v1 v2 v3 K).trans h)
end
end Go.Ab.T
