/- ShoTC: a part of the proofs of this seat's statements. -/
import Derived.Test.YtlihheeknnnbmaaDoorShoTB
import Derived.Test.YtlihheeknnnbmaaDoorKnot
import Derived.Test.YtlihheeknnnbmaaDoorShoTP
namespace Go.Ab.T
open Go Go.Ab Go.Proofs
set_option maxRecDepth 100000
set_option linter.unusedVariables false
noncomputable section
def Ok_yy5 {R : Type} (c : T16 R) : Prop := ∀ (v1 : LI) (v2 : LI) (K : S → List Ent → Option R) (r : R), c v1 v2 (fun (r0 : Bool) => K (.bool r0) []) = some r → ∃ v es, FnOk Tryd.prog glob 5 (npF raw 5 []) [.sl (.int .u8) v1, .sl (.int .u8) v2] [] v es ∧ K v es = some r
theorem okn_yy5 {R : Type} : Ok_yy5 (R := R) (fun _ _ _ => none) := fun _ _ _ _ h => no_some h
theorem shok_5 {R : Type} {c_yy5 : T16 R} (h_yy5 : Ok_yy5 c_yy5) : ShOk Tryd.prog glob raw 5 (sh5 c_yy5) := by
  intro av es K r h
  unfold sh5 at h
  split at h
  · exact h_yy5 _ _ _ _ h
  · exact no_some h
def Ok_yy6 {R : Type} (c : (Bool → Option R) → Option R) : Prop := ∀ (K : S → List Ent → Option R) (r : R), c (fun (r0 : Bool) => K (.bool r0) []) = some r → ∃ v es, FnOk Tryd.prog glob 9 (npF raw 9 []) [] [] v es ∧ K v es = some r
theorem okn_yy6 {R : Type} : Ok_yy6 (R := R) (fun _ => none) := fun _ _ h => no_some h
theorem shok_9 {R : Type} {c_yy6 : (Bool → Option R) → Option R} (h_yy6 : Ok_yy6 c_yy6) : ShOk Tryd.prog glob raw 9 (sh9 c_yy6) := by
  intro av es K r h
  unfold sh9 at h
  split at h
  · exact h_yy6 _ _ h
  · exact no_some h
def Ok_yy26 {R : Type} (c : T2 R) : Prop := ∀ (v1 : Int) (v2 : LI) (v3 : (List (Rose (Int × (LI × Unit))))) (K : S → List Ent → Option R) (r : R), c v1 v2 v3 (fun (r0 : Int) (r1 : LI) (r2 : (List (Rose (Int × (LI × Unit))))) => K (.st [.int .i64 r0, .arr 4 (.int .u64) r1, .own (.rose (.pair (.int .i64) (.pair (.arr 4 (.int .u64)) .unit))) 0]) [.buf (.rose (.pair (.int .i64) (.pair (.arr 4 (.int .u64)) .unit))) r2 false]) = some r → ∃ v es, FnOk Tryd.prog glob 11 (npF raw 11 []) [.st [.int .i64 v1, .arr 4 (.int .u64) v2, .sl (.rose (.pair (.int .i64) (.pair (.arr 4 (.int .u64)) .unit))) v3]] [] v es ∧ K v es = some r
theorem okn_yy26 {R : Type} : Ok_yy26 (R := R) (fun _ _ _ _ => none) := fun _ _ _ _ _ h => no_some h
theorem shok_11 {R : Type} {c_yy26 : T2 R} (h_yy26 : Ok_yy26 c_yy26) : ShOk Tryd.prog glob raw 11 (sh11 c_yy26) := by
  intro av es K r h
  unfold sh11 at h
  split at h
  · exact h_yy26 _ _ _ _ _ h
  · exact no_some h
def Ok_yy59 {R : Type} (c : T30 R) : Prop := ∀ (v1 : Int) (v2 : LI) (v3 : (List (Rose (Int × (LI × Unit))))) (K : S → List Ent → Option R) (r : R), c v1 v2 v3 (fun (r0 : LI) => K (.str r0) []) = some r → ∃ v es, FnOk Tryd.prog glob 12 (npF raw 12 []) [.st [.int .i64 v1, .arr 4 (.int .u64) v2, .sl (.rose (.pair (.int .i64) (.pair (.arr 4 (.int .u64)) .unit))) v3]] [] v es ∧ K v es = some r
theorem okn_yy59 {R : Type} : Ok_yy59 (R := R) (fun _ _ _ _ => none) := fun _ _ _ _ _ h => no_some h
theorem shok_12 {R : Type} {c_yy59 : T30 R} (h_yy59 : Ok_yy59 c_yy59) : ShOk Tryd.prog glob raw 12 (sh12 c_yy59) := by
  intro av es K r h
  unfold sh12 at h
  split at h
  · exact h_yy59 _ _ _ _ _ h
  · exact no_some h
def Ok_yy34 {R : Type} (c : T10 R) : Prop := ∀ (v1 : Int) (v2 : LI) (v3 : (List (Rose (Int × (LI × Unit))))) (v4 : Int) (v5 : LI) (v6 : (List (Rose (Int × (LI × Unit))))) (K : S → List Ent → Option R) (r : R), c v1 v2 v3 v4 v5 v6 (fun (r0 : Bool) => K (.bool r0) []) = some r → ∃ v es, FnOk Tryd.prog glob 14 (npF raw 14 []) [.st [.int .i64 v1, .arr 4 (.int .u64) v2, .sl (.rose (.pair (.int .i64) (.pair (.arr 4 (.int .u64)) .unit))) v3], .st [.int .i64 v4, .arr 4 (.int .u64) v5, .sl (.rose (.pair (.int .i64) (.pair (.arr 4 (.int .u64)) .unit))) v6]] [] v es ∧ K v es = some r
theorem okn_yy34 {R : Type} : Ok_yy34 (R := R) (fun _ _ _ _ _ _ _ => none) := fun _ _ _ _ _ _ _ _ h => no_some h
theorem shok_14 {R : Type} {c_yy34 : T10 R} (h_yy34 : Ok_yy34 c_yy34) : ShOk Tryd.prog glob raw 14 (sh14 c_yy34) := by
  intro av es K r h
  unfold sh14 at h
  split at h
  · exact h_yy34 _ _ _ _ _ _ _ _ h
  · exact no_some h
def Ok_yy8 {R : Type} (c : T71 R) : Prop := ∀ (v1 : LI) (K : S → List Ent → Option R) (r : R), c v1 (fun (r0 : LI) (r1 : Int) => K (.ptr 0 []) [.box (.st [.sl (.int .u8) r0, .int .i64 r1]) false]) = some r → ∃ v es, FnOk Tryd.prog glob 15 (npF raw 15 []) [.sl (.int .u8) v1] [] v es ∧ K v es = some r
theorem okn_yy8 {R : Type} : Ok_yy8 (R := R) (fun _ _ => none) := fun _ _ _ h => no_some h
theorem shok_15 {R : Type} {c_yy8 : T71 R} (h_yy8 : Ok_yy8 c_yy8) : ShOk Tryd.prog glob raw 15 (sh15 c_yy8) := by
  intro av es K r h
  unfold sh15 at h
  split at h
  · exact h_yy8 _ _ _ h
  · exact no_some h
def Ok_yy9 {R : Type} (c : T72 R) : Prop := ∀ (v1 : LI) (v2 : Int) (K : S → List Ent → Option R) (r : R), c v1 v2 (fun (r0 : Int) (r1 : LI) (r2 : (List (Rose (Int × (LI × Unit))))) (r3 : LI) (r4 : Int) => K (.st [.int .i64 r0, .arr 4 (.int .u64) r1, .sl (.rose (.pair (.int .i64) (.pair (.arr 4 (.int .u64)) .unit))) r2]) [.box (.st [.sl (.int .u8) r3, .int .i64 r4]) false]) = some r → ∃ v es, FnOk Tryd.prog glob 16 (npF raw 16 [.box (.st [.sl (.int .u8) v1, .int .i64 v2]) false]) [.ptr 0 []] [.box (.st [.sl (.int .u8) v1, .int .i64 v2]) false] v es ∧ K v es = some r
theorem okn_yy9 {R : Type} : Ok_yy9 (R := R) (fun _ _ _ => none) := fun _ _ _ _ h => no_some h
theorem shok_16 {R : Type} {c_yy9 : T72 R} (h_yy9 : Ok_yy9 c_yy9) : ShOk Tryd.prog glob raw 16 (sh16 c_yy9) := by
  intro av es K r h
  unfold sh16 at h
  split at h
  · exact h_yy9 _ _ _ _ h
  · exact no_some h
def Ok_yy38 {R : Type} (c : T73 R) : Prop := ∀ (v1 : LI) (K : S → List Ent → Option R) (r : R), c v1 (fun (r0 : Int) (r1 : LI) (r2 : (List (Rose (Int × (LI × Unit))))) (r3 : Int) (r4 : Int) => K (.tup [.st [.int .i64 r0, .arr 4 (.int .u64) r1, .sl (.rose (.pair (.int .i64) (.pair (.arr 4 (.int .u64)) .unit))) r2], .int .i64 r3, .int .i64 r4]) []) = some r → ∃ v es, FnOk Tryd.prog glob 17 (npF raw 17 []) [.str v1] [] v es ∧ K v es = some r
theorem okn_yy38 {R : Type} : Ok_yy38 (R := R) (fun _ _ => none) := fun _ _ _ h => no_some h
theorem shok_17 {R : Type} {c_yy38 : T73 R} (h_yy38 : Ok_yy38 c_yy38) : ShOk Tryd.prog glob raw 17 (sh17 c_yy38) := by
  intro av es K r h
  unfold sh17 at h
  split at h
  · exact h_yy38 _ _ _ h
  · exact no_some h
def Ok_yy23 {R : Type} (c : T11 R) : Prop := ∀ (v1 : LI) (K : S → List Ent → Option R) (r : R), c v1 (fun (r0 : Int) (r1 : LI) (r2 : (List (Rose (Int × (LI × Unit))))) => K (.st [.int .i64 r0, .arr 4 (.int .u64) r1, .own (.rose (.pair (.int .i64) (.pair (.arr 4 (.int .u64)) .unit))) 0]) [.buf (.rose (.pair (.int .i64) (.pair (.arr 4 (.int .u64)) .unit))) r2 false]) = some r → ∃ v es, FnOk Tryd.prog glob 18 (npF raw 18 []) [.arr 4 (.int .u64) v1] [] v es ∧ K v es = some r
theorem okn_yy23 {R : Type} : Ok_yy23 (R := R) (fun _ _ => none) := fun _ _ _ h => no_some h
theorem shok_18 {R : Type} {c_yy23 : T11 R} (h_yy23 : Ok_yy23 c_yy23) : ShOk Tryd.prog glob raw 18 (sh18 c_yy23) := by
  intro av es K r h
  unfold sh18 at h
  split at h
  · exact h_yy23 _ _ _ h
  · exact no_some h
def Ok_yy19 {R : Type} (c : T18 R) : Prop := ∀ (v1 : Int) (v2 : Int) (K : S → List Ent → Option R) (r : R), c v1 v2 (fun (r0 : LI) => K (.arr 4 (.int .u64) r0) []) = some r → ∃ v es, FnOk Tryd.prog glob 19 (npF raw 19 []) [.int .u8 v1, .int .u8 v2] [] v es ∧ K v es = some r
theorem okn_yy19 {R : Type} : Ok_yy19 (R := R) (fun _ _ _ => none) := fun _ _ _ _ h => no_some h
theorem shok_19 {R : Type} {c_yy19 : T18 R} (h_yy19 : Ok_yy19 c_yy19) : ShOk Tryd.prog glob raw 19 (sh19 c_yy19) := by
  intro av es K r h
  unfold sh19 at h
  split at h
  · exact h_yy19 _ _ _ _ h
  · exact no_some h
def Ok_yy17 {R : Type} (c : LI → (LI → Option R) → Option R) : Prop := ∀ (v1 : LI) (K : S → List Ent → Option R) (r : R), c v1 (fun (r0 : LI) => K (.arr 4 (.int .u64) r0) []) = some r → ∃ v es, FnOk Tryd.prog glob 20 (npF raw 20 []) [.sl (.int .u8) v1] [] v es ∧ K v es = some r
theorem okn_yy17 {R : Type} : Ok_yy17 (R := R) (fun _ _ => none) := fun _ _ _ h => no_some h
theorem shok_20 {R : Type} {c_yy17 : LI → (LI → Option R) → Option R} (h_yy17 : Ok_yy17 c_yy17) : ShOk Tryd.prog glob raw 20 (sh20 c_yy17) := by
  intro av es K r h
  unfold sh20 at h
  split at h
  · exact h_yy17 _ _ _ h
  · exact no_some h
def Ok_yy35 {R : Type} (c : T2 R) : Prop := ∀ (v1 : Int) (v2 : LI) (v3 : (List (Rose (Int × (LI × Unit))))) (K : S → List Ent → Option R) (r : R), c v1 v2 v3 (fun (r0 : Int) (r1 : LI) (r2 : (List (Rose (Int × (LI × Unit))))) => K (.st [.int .i64 r0, .arr 4 (.int .u64) r1, .own (.rose (.pair (.int .i64) (.pair (.arr 4 (.int .u64)) .unit))) 0]) [.buf (.rose (.pair (.int .i64) (.pair (.arr 4 (.int .u64)) .unit))) r2 false]) = some r → ∃ v es, FnOk Tryd.prog glob 21 (npF raw 21 []) [.st [.int .i64 v1, .arr 4 (.int .u64) v2, .sl (.rose (.pair (.int .i64) (.pair (.arr 4 (.int .u64)) .unit))) v3]] [] v es ∧ K v es = some r
theorem okn_yy35 {R : Type} : Ok_yy35 (R := R) (fun _ _ _ _ => none) := fun _ _ _ _ _ h => no_some h
theorem shok_21 {R : Type} {c_yy35 : T2 R} (h_yy35 : Ok_yy35 c_yy35) : ShOk Tryd.prog glob raw 21 (sh21 c_yy35) := by
  intro av es K r h
  unfold sh21 at h
  split at h
  · exact h_yy35 _ _ _ _ _ h
  · exact no_some h
def Ok_yy28 {R : Type} (c : T0 R) : Prop := ∀ (K : S → List Ent → Option R) (r : R), c (fun (r0 : Int) (r1 : LI) (r2 : (List (Rose (Int × (LI × Unit))))) => K (.st [.int .i64 r0, .arr 4 (.int .u64) r1, .own (.rose (.pair (.int .i64) (.pair (.arr 4 (.int .u64)) .unit))) 0]) [.buf (.rose (.pair (.int .i64) (.pair (.arr 4 (.int .u64)) .unit))) r2 false]) = some r → ∃ v es, FnOk Tryd.prog glob 22 (npF raw 22 []) [] [] v es ∧ K v es = some r
theorem okn_yy28 {R : Type} : Ok_yy28 (R := R) (fun _ => none) := fun _ _ h => no_some h
theorem shok_22 {R : Type} {c_yy28 : T0 R} (h_yy28 : Ok_yy28 c_yy28) : ShOk Tryd.prog glob raw 22 (sh22 c_yy28) := by
  intro av es K r h
  unfold sh22 at h
  split at h
  · exact h_yy28 _ _ h
  · exact no_some h
def Ok_yy31 {R : Type} (c : T8 R) : Prop := ∀ (v1 : Int) (v2 : LI) (v3 : (List (Rose (Int × (LI × Unit))))) (K : S → List Ent → Option R) (r : R), c v1 v2 v3 (fun (r0 : Int) => K (.int .i64 r0) []) = some r → ∃ v es, FnOk Tryd.prog glob 23 (npF raw 23 []) [.st [.int .i64 v1, .arr 4 (.int .u64) v2, .sl (.rose (.pair (.int .i64) (.pair (.arr 4 (.int .u64)) .unit))) v3]] [] v es ∧ K v es = some r
theorem okn_yy31 {R : Type} : Ok_yy31 (R := R) (fun _ _ _ _ => none) := fun _ _ _ _ _ h => no_some h
theorem shok_23 {R : Type} {c_yy31 : T8 R} (h_yy31 : Ok_yy31 c_yy31) : ShOk Tryd.prog glob raw 23 (sh23 c_yy31) := by
  intro av es K r h
  unfold sh23 at h
  split at h
  · exact h_yy31 _ _ _ _ _ h
  · exact no_some h
def Ok_yy27 {R : Type} (c : T8 R) : Prop := ∀ (v1 : Int) (v2 : LI) (v3 : (List (Rose (Int × (LI × Unit))))) (K : S → List Ent → Option R) (r : R), c v1 v2 v3 (fun (r0 : Int) => K (.int .i64 r0) []) = some r → ∃ v es, FnOk Tryd.prog glob 24 (npF raw 24 []) [.st [.int .i64 v1, .arr 4 (.int .u64) v2, .sl (.rose (.pair (.int .i64) (.pair (.arr 4 (.int .u64)) .unit))) v3]] [] v es ∧ K v es = some r
theorem okn_yy27 {R : Type} : Ok_yy27 (R := R) (fun _ _ _ _ => none) := fun _ _ _ _ _ h => no_some h
theorem shok_24 {R : Type} {c_yy27 : T8 R} (h_yy27 : Ok_yy27 c_yy27) : ShOk Tryd.prog glob raw 24 (sh24 c_yy27) := by
  intro av es K r h
  unfold sh24 at h
  split at h
  · exact h_yy27 _ _ _ _ _ h
  · exact no_some h
def Ok_yy53 {R : Type} (c : T4 R) : Prop := ∀ (v1 : Int) (v2 : LI) (v3 : (List (Rose (Int × (LI × Unit))))) (K : S → List Ent → Option R) (r : R), c v1 v2 v3 (fun (r0 : Bool) => K (.bool r0) []) = some r → ∃ v es, FnOk Tryd.prog glob 25 (npF raw 25 []) [.st [.int .i64 v1, .arr 4 (.int .u64) v2, .sl (.rose (.pair (.int .i64) (.pair (.arr 4 (.int .u64)) .unit))) v3]] [] v es ∧ K v es = some r
theorem okn_yy53 {R : Type} : Ok_yy53 (R := R) (fun _ _ _ _ => none) := fun _ _ _ _ _ h => no_some h
theorem shok_25 {R : Type} {c_yy53 : T4 R} (h_yy53 : Ok_yy53 c_yy53) : ShOk Tryd.prog glob raw 25 (sh25 c_yy53) := by
  intro av es K r h
  unfold sh25 at h
  split at h
  · exact h_yy53 _ _ _ _ _ h
  · exact no_some h
def Ok_yy62 {R : Type} (c : T15 R) : Prop := ∀ (v1 : Int) (v2 : LI) (v3 : (List (Rose (Int × (LI × Unit))))) (v4 : Bool) (v5 : LI) (K : S → List Ent → Option R) (r : R), c v1 v2 v3 v4 v5 (fun (r0 : Bool) (r1 : LI) => K (.tup []) [.box (.st [.own (.int .u8) 1, .bool r0]) false, .buf (.int .u8) r1 false]) = some r → ∃ v es, FnOk Tryd.prog glob 26 (npF raw 26 [.box (.st [.own (.int .u8) 1, .bool v4]) false, .buf (.int .u8) v5 false]) [.ptr 0 [], .st [.int .i64 v1, .arr 4 (.int .u64) v2, .sl (.rose (.pair (.int .i64) (.pair (.arr 4 (.int .u64)) .unit))) v3]] [.box (.st [.own (.int .u8) 1, .bool v4]) false, .buf (.int .u8) v5 false] v es ∧ K v es = some r
theorem okn_yy62 {R : Type} : Ok_yy62 (R := R) (fun _ _ _ _ _ _ => none) := fun _ _ _ _ _ _ _ h => no_some h
theorem shok_26 {R : Type} {c_yy62 : T15 R} (h_yy62 : Ok_yy62 c_yy62) : ShOk Tryd.prog glob raw 26 (sh26 c_yy62) := by
  intro av es K r h
  unfold sh26 at h
  split at h
  · exact h_yy62 _ _ _ _ _ _ _ h
  · exact no_some h
def Ok_yy33 {R : Type} (c : T4 R) : Prop := ∀ (v1 : Int) (v2 : LI) (v3 : (List (Rose (Int × (LI × Unit))))) (K : S → List Ent → Option R) (r : R), c v1 v2 v3 (fun (r0 : Bool) => K (.bool r0) []) = some r → ∃ v es, FnOk Tryd.prog glob 27 (npF raw 27 []) [.st [.int .i64 v1, .arr 4 (.int .u64) v2, .sl (.rose (.pair (.int .i64) (.pair (.arr 4 (.int .u64)) .unit))) v3]] [] v es ∧ K v es = some r
theorem okn_yy33 {R : Type} : Ok_yy33 (R := R) (fun _ _ _ _ => none) := fun _ _ _ _ _ h => no_some h
theorem shok_27 {R : Type} {c_yy33 : T4 R} (h_yy33 : Ok_yy33 c_yy33) : ShOk Tryd.prog glob raw 27 (sh27 c_yy33) := by
  intro av es K r h
  unfold sh27 at h
  split at h
  · exact h_yy33 _ _ _ _ _ h
  · exact no_some h
def Ok_yy13 {R : Type} (c : T32 R) : Prop := ∀ (v1 : Int) (v2 : LI) (v3 : Int) (K : S → List Ent → Option R) (r : R), c v1 v2 v3 (fun (r0 : Int) (r1 : LI) (r2 : (List (Rose (Int × (LI × Unit))))) (r3 : LI) (r4 : Int) => K (.st [.int .i64 r0, .arr 4 (.int .u64) r1, .sl (.rose (.pair (.int .i64) (.pair (.arr 4 (.int .u64)) .unit))) r2]) [.box (.st [.sl (.int .u8) r3, .int .i64 r4]) false]) = some r → ∃ v es, FnOk Tryd.prog glob 29 (npF raw 29 [.box (.st [.sl (.int .u8) v2, .int .i64 v3]) false]) [.ptr 0 [], .int .i64 v1] [.box (.st [.sl (.int .u8) v2, .int .i64 v3]) false] v es ∧ K v es = some r
theorem okn_yy13 {R : Type} : Ok_yy13 (R := R) (fun _ _ _ _ => none) := fun _ _ _ _ _ h => no_some h
theorem shok_29 {R : Type} {c_yy13 : T32 R} (h_yy13 : Ok_yy13 c_yy13) : ShOk Tryd.prog glob raw 29 (sh29 c_yy13) := by
  intro av es K r h
  unfold sh29 at h
  split at h
  · exact h_yy13 _ _ _ _ _ h
  · exact no_some h
def Ok_yy41 {R : Type} (c : T5 R) : Prop := ∀ (v1 : LI) (v2 : Int) (v3 : Int) (v4 : Int) (v5 : Bool) (K : S → List Ent → Option R) (r : R), c v1 v2 v3 v4 v5 (fun (r0 : Int) (r1 : LI) (r2 : (List (Rose (Int × (LI × Unit))))) (r3 : LI) (r4 : Int) (r5 : Int) (r6 : Int) (r7 : Bool) => K (.st [.int .i64 r0, .arr 4 (.int .u64) r1, .sl (.rose (.pair (.int .i64) (.pair (.arr 4 (.int .u64)) .unit))) r2]) [.box (.st [.str r3, .int .i64 r4, .int .i64 r5, .int .i64 r6, .bool r7]) false]) = some r → ∃ v es, FnOk Tryd.prog glob 30 (npF raw 30 [.box (.st [.str v1, .int .i64 v2, .int .i64 v3, .int .i64 v4, .bool v5]) false]) [.ptr 0 []] [.box (.st [.str v1, .int .i64 v2, .int .i64 v3, .int .i64 v4, .bool v5]) false] v es ∧ K v es = some r
theorem okn_yy41 {R : Type} : Ok_yy41 (R := R) (fun _ _ _ _ _ _ => none) := fun _ _ _ _ _ _ _ h => no_some h
theorem shok_30 {R : Type} {c_yy41 : T5 R} (h_yy41 : Ok_yy41 c_yy41) : ShOk Tryd.prog glob raw 30 (sh30 c_yy41) := by
  intro av es K r h
  unfold sh30 at h
  split at h
  · exact h_yy41 _ _ _ _ _ _ _ h
  · exact no_some h
def Ok_yy49 {R : Type} (c : T7 R) : Prop := ∀ (v1 : LI) (v2 : Int) (v3 : Int) (v4 : Int) (v5 : Bool) (K : S → List Ent → Option R) (r : R), c v1 v2 v3 v4 v5 (fun (r0 : Bool) (r1 : LI) (r2 : Int) (r3 : Int) (r4 : Int) (r5 : Bool) => K (.bool r0) [.box (.st [.str r1, .int .i64 r2, .int .i64 r3, .int .i64 r4, .bool r5]) false]) = some r → ∃ v es, FnOk Tryd.prog glob 31 (npF raw 31 [.box (.st [.str v1, .int .i64 v2, .int .i64 v3, .int .i64 v4, .bool v5]) false]) [.ptr 0 []] [.box (.st [.str v1, .int .i64 v2, .int .i64 v3, .int .i64 v4, .bool v5]) false] v es ∧ K v es = some r
theorem okn_yy49 {R : Type} : Ok_yy49 (R := R) (fun _ _ _ _ _ _ => none) := fun _ _ _ _ _ _ _ h => no_some h
theorem shok_31 {R : Type} {c_yy49 : T7 R} (h_yy49 : Ok_yy49 c_yy49) : ShOk Tryd.prog glob raw 31 (sh31 c_yy49) := by
  intro av es K r h
  unfold sh31 at h
  split at h
  · exact h_yy49 _ _ _ _ _ _ _ h
  · exact no_some h
def Ok_yy45 {R : Type} (c : T13 R) : Prop := ∀ (v1 : Int) (v2 : LI) (v3 : Int) (v4 : Int) (v5 : Int) (v6 : Bool) (K : S → List Ent → Option R) (r : R), c v1 v2 v3 v4 v5 v6 (fun (r0 : LI) (r1 : Int) (r2 : Int) (r3 : Int) (r4 : Bool) => K (.tup []) [.box (.st [.str r0, .int .i64 r1, .int .i64 r2, .int .i64 r3, .bool r4]) false]) = some r → ∃ v es, FnOk Tryd.prog glob 32 (npF raw 32 [.box (.st [.str v2, .int .i64 v3, .int .i64 v4, .int .i64 v5, .bool v6]) false]) [.ptr 0 [], .int .i64 v1] [.box (.st [.str v2, .int .i64 v3, .int .i64 v4, .int .i64 v5, .bool v6]) false] v es ∧ K v es = some r
theorem okn_yy45 {R : Type} : Ok_yy45 (R := R) (fun _ _ _ _ _ _ _ => none) := fun _ _ _ _ _ _ _ _ h => no_some h
theorem shok_32 {R : Type} {c_yy45 : T13 R} (h_yy45 : Ok_yy45 c_yy45) : ShOk Tryd.prog glob raw 32 (sh32 c_yy45) := by
  intro av es K r h
  unfold sh32 at h
  split at h
  · exact h_yy45 _ _ _ _ _ _ _ _ h
  · exact no_some h
def Ok_yy32 {R : Type} (c : T0 R) : Prop := ∀ (K : S → List Ent → Option R) (r : R), c (fun (r0 : Int) (r1 : LI) (r2 : (List (Rose (Int × (LI × Unit))))) => K (.st [.int .i64 r0, .arr 4 (.int .u64) r1, .own (.rose (.pair (.int .i64) (.pair (.arr 4 (.int .u64)) .unit))) 0]) [.buf (.rose (.pair (.int .i64) (.pair (.arr 4 (.int .u64)) .unit))) r2 false]) = some r → ∃ v es, FnOk Tryd.prog glob 33 (npF raw 33 []) [] [] v es ∧ K v es = some r
theorem okn_yy32 {R : Type} : Ok_yy32 (R := R) (fun _ => none) := fun _ _ h => no_some h
theorem shok_33 {R : Type} {c_yy32 : T0 R} (h_yy32 : Ok_yy32 c_yy32) : ShOk Tryd.prog glob raw 33 (sh33 c_yy32) := by
  intro av es K r h
  unfold sh33 at h
  split at h
  · exact h_yy32 _ _ h
  · exact no_some h
def Ok_yy21 {R : Type} (c : LB → (LI → Option R) → Option R) : Prop := ∀ (v1 : LB) (K : S → List Ent → Option R) (r : R), c v1 (fun (r0 : LI) => K (.arr 4 (.int .u64) r0) []) = some r → ∃ v es, FnOk Tryd.prog glob 34 (npF raw 34 []) [.arr 256 .bool v1] [] v es ∧ K v es = some r
theorem okn_yy21 {R : Type} : Ok_yy21 (R := R) (fun _ _ => none) := fun _ _ _ h => no_some h
theorem shok_34 {R : Type} {c_yy21 : LB → (LI → Option R) → Option R} (h_yy21 : Ok_yy21 c_yy21) : ShOk Tryd.prog glob raw 34 (sh34 c_yy21) := by
  intro av es K r h
  unfold sh34 at h
  split at h
  · exact h_yy21 _ _ _ h
  · exact no_some h
def Ok_yy22 {R : Type} (c : T1 R) : Prop := ∀ (v1 : (List (Rose (Int × (LI × Unit))))) (K : S → List Ent → Option R) (r : R), c v1 (fun (r0 : Int) (r1 : LI) (r2 : (List (Rose (Int × (LI × Unit))))) => K (.st [.int .i64 r0, .arr 4 (.int .u64) r1, .sl (.rose (.pair (.int .i64) (.pair (.arr 4 (.int .u64)) .unit))) r2]) []) = some r → ∃ v es, FnOk Tryd.prog glob 35 (npF raw 35 []) [.sl (.rose (.pair (.int .i64) (.pair (.arr 4 (.int .u64)) .unit))) v1] [] v es ∧ K v es = some r
theorem okn_yy22 {R : Type} : Ok_yy22 (R := R) (fun _ _ => none) := fun _ _ _ h => no_some h
theorem shok_35 {R : Type} {c_yy22 : T1 R} (h_yy22 : Ok_yy22 c_yy22) : ShOk Tryd.prog glob raw 35 (sh35 c_yy22) := by
  intro av es K r h
  unfold sh35 at h
  split at h
  · exact h_yy22 _ _ _ h
  · exact no_some h
def Ok_yy55 {R : Type} (c : T55 R) : Prop := ∀ (v1 : (List (Rose (Int × (LI × Unit))))) (v2 : LI) (K : S → List Ent → Option R) (r : R), c v1 v2 (fun (r0 : Bool) => K (.bool r0) []) = some r → ∃ v es, FnOk Tryd.prog glob 36 (npF raw 36 []) [.sl (.rose (.pair (.int .i64) (.pair (.arr 4 (.int .u64)) .unit))) v1, .sl (.int .i64) v2] [] v es ∧ K v es = some r
theorem okn_yy55 {R : Type} : Ok_yy55 (R := R) (fun _ _ _ => none) := fun _ _ _ _ h => no_some h
theorem shok_36 {R : Type} {c_yy55 : T55 R} (h_yy55 : Ok_yy55 c_yy55) : ShOk Tryd.prog glob raw 36 (sh36 c_yy55) := by
  intro av es K r h
  unfold sh36 at h
  split at h
  · exact h_yy55 _ _ _ _ h
  · exact no_some h
def Ok_yy58 {R : Type} (c : T25 R) : Prop := ∀ (v1 : (List (Rose (Int × (LI × Unit))))) (K : S → List Ent → Option R) (r : R), c v1 (fun (r0 : Bool) => K (.bool r0) []) = some r → ∃ v es, FnOk Tryd.prog glob 37 (npF raw 37 []) [.sl (.rose (.pair (.int .i64) (.pair (.arr 4 (.int .u64)) .unit))) v1] [] v es ∧ K v es = some r
theorem okn_yy58 {R : Type} : Ok_yy58 (R := R) (fun _ _ => none) := fun _ _ _ h => no_some h
theorem shok_37 {R : Type} {c_yy58 : T25 R} (h_yy58 : Ok_yy58 c_yy58) : ShOk Tryd.prog glob raw 37 (sh37 c_yy58) := by
  intro av es K r h
  unfold sh37 at h
  split at h
  · exact h_yy58 _ _ _ h
  · exact no_some h
def Ok_yy66 {R : Type} (c : T48 R) : Prop := ∀ (v1 : (List (Rose (Int × (LI × Unit))))) (v2 : LI) (K : S → List Ent → Option R) (r : R), c v1 v2 (fun (r0 : Bool) (r1 : LI) => K (.bool r0) [.box (.sl (.int .i64) r1) false]) = some r → ∃ v es, FnOk Tryd.prog glob 38 (npF raw 38 [.box (.sl (.int .i64) v2) false]) [.sl (.rose (.pair (.int .i64) (.pair (.arr 4 (.int .u64)) .unit))) v1, .fn 54 [.ptr 0 []]] [.box (.sl (.int .i64) v2) false] v es ∧ K v es = some r
theorem okn_yy66 {R : Type} : Ok_yy66 (R := R) (fun _ _ _ => none) := fun _ _ _ _ h => no_some h
def Ok_yy67 {R : Type} (c : T25 R) : Prop := ∀ (v1 : (List (Rose (Int × (LI × Unit))))) (K : S → List Ent → Option R) (r : R), c v1 (fun (r0 : Bool) => K (.bool r0) []) = some r → ∃ v es, FnOk Tryd.prog glob 38 (npF raw 38 []) [.sl (.rose (.pair (.int .i64) (.pair (.arr 4 (.int .u64)) .unit))) v1, .fn 39 []] [] v es ∧ K v es = some r
theorem okn_yy67 {R : Type} : Ok_yy67 (R := R) (fun _ _ => none) := fun _ _ _ h => no_some h
theorem shok_38 {R : Type} {c_yy66 : T48 R} {c_yy67 : T25 R} (h_yy66 : Ok_yy66 c_yy66) (h_yy67 : Ok_yy67 c_yy67) : ShOk Tryd.prog glob raw 38 (sh38 c_yy66 c_yy67) := by
  intro av es K r h
  unfold sh38 at h
  split at h
  · exact h_yy66 _ _ _ _ h
  · exact h_yy67 _ _ _ h
  · exact no_some h
def Ok_yy54 {R : Type} (c : T4 R) : Prop := ∀ (v1 : Int) (v2 : LI) (v3 : (List (Rose (Int × (LI × Unit))))) (K : S → List Ent → Option R) (r : R), c v1 v2 v3 (fun (r0 : Bool) => K (.bool r0) []) = some r → ∃ v es, FnOk Tryd.prog glob 39 (npF raw 39 []) [.st [.int .i64 v1, .arr 4 (.int .u64) v2, .sl (.rose (.pair (.int .i64) (.pair (.arr 4 (.int .u64)) .unit))) v3]] [] v es ∧ K v es = some r
theorem okn_yy54 {R : Type} : Ok_yy54 (R := R) (fun _ _ _ _ => none) := fun _ _ _ _ _ h => no_some h
theorem shok_39 {R : Type} {c_yy54 : T4 R} (h_yy54 : Ok_yy54 c_yy54) : ShOk Tryd.prog glob raw 39 (sh39 c_yy54) := by
  intro av es K r h
  unfold sh39 at h
  split at h
  · exact h_yy54 _ _ _ _ _ h
  · exact no_some h
def Ok_yy61 {R : Type} (c : T9 R) : Prop := ∀ (v1 : LI) (v2 : Bool) (v3 : LI) (K : S → List Ent → Option R) (r : R), c v1 v2 v3 (fun (r0 : Bool) (r1 : LI) => K (.tup []) [.box (.st [.own (.int .u8) 1, .bool r0]) false, .buf (.int .u8) r1 false]) = some r → ∃ v es, FnOk Tryd.prog glob 40 (npF raw 40 [.box (.st [.own (.int .u8) 1, .bool v2]) false, .buf (.int .u8) v3 false]) [.ptr 0 [], .str v1] [.box (.st [.own (.int .u8) 1, .bool v2]) false, .buf (.int .u8) v3 false] v es ∧ K v es = some r
theorem okn_yy61 {R : Type} : Ok_yy61 (R := R) (fun _ _ _ _ => none) := fun _ _ _ _ _ h => no_some h
theorem shok_40 {R : Type} {c_yy61 : T9 R} (h_yy61 : Ok_yy61 c_yy61) : ShOk Tryd.prog glob raw 40 (sh40 c_yy61) := by
  intro av es K r h
  unfold sh40 at h
  split at h
  · exact h_yy61 _ _ _ _ _ h
  · exact no_some h
def Ok_yy63 {R : Type} (c : T9 R) : Prop := ∀ (v1 : LI) (v2 : Bool) (v3 : LI) (K : S → List Ent → Option R) (r : R), c v1 v2 v3 (fun (r0 : Bool) (r1 : LI) => K (.tup []) [.box (.st [.own (.int .u8) 1, .bool r0]) false, .buf (.int .u8) r1 false]) = some r → ∃ v es, FnOk Tryd.prog glob 41 (npF raw 41 [.box (.st [.own (.int .u8) 1, .bool v2]) false, .buf (.int .u8) v3 false]) [.ptr 0 [], .arr 4 (.int .u64) v1] [.box (.st [.own (.int .u8) 1, .bool v2]) false, .buf (.int .u8) v3 false] v es ∧ K v es = some r
theorem okn_yy63 {R : Type} : Ok_yy63 (R := R) (fun _ _ _ _ => none) := fun _ _ _ _ _ h => no_some h
theorem shok_41 {R : Type} {c_yy63 : T9 R} (h_yy63 : Ok_yy63 c_yy63) : ShOk Tryd.prog glob raw 41 (sh41 c_yy63) := by
  intro av es K r h
  unfold sh41 at h
  split at h
  · exact h_yy63 _ _ _ _ _ h
  · exact no_some h
def Ok_yy64 {R : Type} (c : T29 R) : Prop := ∀ (v1 : Int) (v2 : LI) (v3 : (List (Rose (Int × (LI × Unit))))) (v4 : LI) (v5 : Bool) (v6 : LI) (K : S → List Ent → Option R) (r : R), c v1 v2 v3 v4 v5 v6 (fun (r0 : Bool) (r1 : LI) => K (.tup []) [.box (.st [.own (.int .u8) 1, .bool r0]) false, .buf (.int .u8) r1 false]) = some r → ∃ v es, FnOk Tryd.prog glob 42 (npF raw 42 [.box (.st [.own (.int .u8) 1, .bool v5]) false, .buf (.int .u8) v6 false]) [.ptr 0 [], .st [.int .i64 v1, .arr 4 (.int .u64) v2, .sl (.rose (.pair (.int .i64) (.pair (.arr 4 (.int .u64)) .unit))) v3], .sl (.int .i64) v4] [.box (.st [.own (.int .u8) 1, .bool v5]) false, .buf (.int .u8) v6 false] v es ∧ K v es = some r
theorem okn_yy64 {R : Type} : Ok_yy64 (R := R) (fun _ _ _ _ _ _ _ => none) := fun _ _ _ _ _ _ _ _ h => no_some h
theorem shok_42 {R : Type} {c_yy64 : T29 R} (h_yy64 : Ok_yy64 c_yy64) : ShOk Tryd.prog glob raw 42 (sh42 c_yy64) := by
  intro av es K r h
  unfold sh42 at h
  split at h
  · exact h_yy64 _ _ _ _ _ _ _ _ h
  · exact no_some h
def Ok_yy24 {R : Type} (c : T1 R) : Prop := ∀ (v1 : (List (Rose (Int × (LI × Unit))))) (K : S → List Ent → Option R) (r : R), c v1 (fun (r0 : Int) (r1 : LI) (r2 : (List (Rose (Int × (LI × Unit))))) => K (.st [.int .i64 r0, .arr 4 (.int .u64) r1, .sl (.rose (.pair (.int .i64) (.pair (.arr 4 (.int .u64)) .unit))) r2]) []) = some r → ∃ v es, FnOk Tryd.prog glob 43 (npF raw 43 []) [.sl (.rose (.pair (.int .i64) (.pair (.arr 4 (.int .u64)) .unit))) v1] [] v es ∧ K v es = some r
theorem okn_yy24 {R : Type} : Ok_yy24 (R := R) (fun _ _ => none) := fun _ _ _ h => no_some h
theorem shok_43 {R : Type} {c_yy24 : T1 R} (h_yy24 : Ok_yy24 c_yy24) : ShOk Tryd.prog glob raw 43 (sh43 c_yy24) := by
  intro av es K r h
  unfold sh43 at h
  split at h
  · exact h_yy24 _ _ _ h
  · exact no_some h
def Ok_yy11 {R : Type} (c : T31 R) : Prop := ∀ (v1 : Int) (v2 : LI) (v3 : Int) (K : S → List Ent → Option R) (r : R), c v1 v2 v3 (fun (r0 : Int) (r1 : LI) (r2 : Int) => K (.int .i64 r0) [.box (.st [.sl (.int .u8) r1, .int .i64 r2]) false]) = some r → ∃ v es, FnOk Tryd.prog glob 45 (npF raw 45 [.box (.st [.sl (.int .u8) v2, .int .i64 v3]) false]) [.ptr 0 [], .int .i64 v1] [.box (.st [.sl (.int .u8) v2, .int .i64 v3]) false] v es ∧ K v es = some r
theorem okn_yy11 {R : Type} : Ok_yy11 (R := R) (fun _ _ _ _ => none) := fun _ _ _ _ _ h => no_some h
theorem shok_45 {R : Type} {c_yy11 : T31 R} (h_yy11 : Ok_yy11 c_yy11) : ShOk Tryd.prog glob raw 45 (sh45 c_yy11) := by
  intro av es K r h
  unfold sh45 at h
  split at h
  · exact h_yy11 _ _ _ _ _ h
  · exact no_some h
def Ok_yy12 {R : Type} (c : T60 R) : Prop := ∀ (v1 : LI) (v2 : Int) (K : S → List Ent → Option R) (r : R), c v1 v2 (fun (r0 : Bool) (r1 : LI) (r2 : Int) => K (.bool r0) [.box (.st [.sl (.int .u8) r1, .int .i64 r2]) false]) = some r → ∃ v es, FnOk Tryd.prog glob 46 (npF raw 46 [.box (.st [.sl (.int .u8) v1, .int .i64 v2]) false]) [.ptr 0 []] [.box (.st [.sl (.int .u8) v1, .int .i64 v2]) false] v es ∧ K v es = some r
theorem okn_yy12 {R : Type} : Ok_yy12 (R := R) (fun _ _ _ => none) := fun _ _ _ _ h => no_some h
theorem shok_46 {R : Type} {c_yy12 : T60 R} (h_yy12 : Ok_yy12 c_yy12) : ShOk Tryd.prog glob raw 46 (sh46 c_yy12) := by
  intro av es K r h
  unfold sh46 at h
  split at h
  · exact h_yy12 _ _ _ _ h
  · exact no_some h
def Ok_yy10 {R : Type} (c : T61 R) : Prop := ∀ (v1 : LI) (v2 : Int) (K : S → List Ent → Option R) (r : R), c v1 v2 (fun (r0 : LI) (r1 : LI) (r2 : Int) => K (.arr 4 (.int .u64) r0) [.box (.st [.sl (.int .u8) r1, .int .i64 r2]) false]) = some r → ∃ v es, FnOk Tryd.prog glob 47 (npF raw 47 [.box (.st [.sl (.int .u8) v1, .int .i64 v2]) false]) [.ptr 0 []] [.box (.st [.sl (.int .u8) v1, .int .i64 v2]) false] v es ∧ K v es = some r
theorem okn_yy10 {R : Type} : Ok_yy10 (R := R) (fun _ _ _ => none) := fun _ _ _ _ h => no_some h
theorem shok_47 {R : Type} {c_yy10 : T61 R} (h_yy10 : Ok_yy10 c_yy10) : ShOk Tryd.prog glob raw 47 (sh47 c_yy10) := by
  intro av es K r h
  unfold sh47 at h
  split at h
  · exact h_yy10 _ _ _ _ h
  · exact no_some h
def Ok_yy46 {R : Type} (c : T14 R) : Prop := ∀ (v1 : Int) (v2 : LI) (v3 : Int) (v4 : Int) (v5 : Int) (v6 : Bool) (K : S → List Ent → Option R) (r : R), c v1 v2 v3 v4 v5 v6 (fun (r0 : Bool) (r1 : LI) (r2 : Int) (r3 : Int) (r4 : Int) (r5 : Bool) => K (.bool r0) [.box (.st [.str r1, .int .i64 r2, .int .i64 r3, .int .i64 r4, .bool r5]) false]) = some r → ∃ v es, FnOk Tryd.prog glob 48 (npF raw 48 [.box (.st [.str v2, .int .i64 v3, .int .i64 v4, .int .i64 v5, .bool v6]) false]) [.ptr 0 [], .int .u8 v1] [.box (.st [.str v2, .int .i64 v3, .int .i64 v4, .int .i64 v5, .bool v6]) false] v es ∧ K v es = some r
theorem okn_yy46 {R : Type} : Ok_yy46 (R := R) (fun _ _ _ _ _ _ _ => none) := fun _ _ _ _ _ _ _ _ h => no_some h
theorem shok_48 {R : Type} {c_yy46 : T14 R} (h_yy46 : Ok_yy46 c_yy46) : ShOk Tryd.prog glob raw 48 (sh48 c_yy46) := by
  intro av es K r h
  unfold sh48 at h
  split at h
  · exact h_yy46 _ _ _ _ _ _ _ _ h
  · exact no_some h
def Ok_yy50 {R : Type} (c : T5 R) : Prop := ∀ (v1 : LI) (v2 : Int) (v3 : Int) (v4 : Int) (v5 : Bool) (K : S → List Ent → Option R) (r : R), c v1 v2 v3 v4 v5 (fun (r0 : Int) (r1 : LI) (r2 : (List (Rose (Int × (LI × Unit))))) (r3 : LI) (r4 : Int) (r5 : Int) (r6 : Int) (r7 : Bool) => K (.st [.int .i64 r0, .arr 4 (.int .u64) r1, .sl (.rose (.pair (.int .i64) (.pair (.arr 4 (.int .u64)) .unit))) r2]) [.box (.st [.str r3, .int .i64 r4, .int .i64 r5, .int .i64 r6, .bool r7]) false]) = some r → ∃ v es, FnOk Tryd.prog glob 49 (npF raw 49 [.box (.st [.str v1, .int .i64 v2, .int .i64 v3, .int .i64 v4, .bool v5]) false]) [.ptr 0 []] [.box (.st [.str v1, .int .i64 v2, .int .i64 v3, .int .i64 v4, .bool v5]) false] v es ∧ K v es = some r
theorem okn_yy50 {R : Type} : Ok_yy50 (R := R) (fun _ _ _ _ _ _ => none) := fun _ _ _ _ _ _ _ h => no_some h
theorem shok_49 {R : Type} {c_yy50 : T5 R} (h_yy50 : Ok_yy50 c_yy50) : ShOk Tryd.prog glob raw 49 (sh49 c_yy50) := by
  intro av es K r h
  unfold sh49 at h
  split at h
  · exact h_yy50 _ _ _ _ _ _ _ h
  · exact no_some h
def Ok_yy47 {R : Type} (c : T19 R) : Prop := ∀ (v1 : Int) (v2 : LI) (v3 : (List (Rose (Int × (LI × Unit))))) (v4 : LI) (v5 : Int) (v6 : Int) (v7 : Int) (v8 : Bool) (K : S → List Ent → Option R) (r : R), c v1 v2 v3 v4 v5 v6 v7 v8 (fun (r0 : Int) (r1 : LI) (r2 : (List (Rose (Int × (LI × Unit))))) (r3 : LI) (r4 : Int) (r5 : Int) (r6 : Int) (r7 : Bool) => K (.st [.int .i64 r0, .arr 4 (.int .u64) r1, .sl (.rose (.pair (.int .i64) (.pair (.arr 4 (.int .u64)) .unit))) r2]) [.box (.st [.str r3, .int .i64 r4, .int .i64 r5, .int .i64 r6, .bool r7]) false]) = some r → ∃ v es, FnOk Tryd.prog glob 50 (npF raw 50 [.box (.st [.str v4, .int .i64 v5, .int .i64 v6, .int .i64 v7, .bool v8]) false]) [.ptr 0 [], .st [.int .i64 v1, .arr 4 (.int .u64) v2, .sl (.rose (.pair (.int .i64) (.pair (.arr 4 (.int .u64)) .unit))) v3]] [.box (.st [.str v4, .int .i64 v5, .int .i64 v6, .int .i64 v7, .bool v8]) false] v es ∧ K v es = some r
theorem okn_yy47 {R : Type} : Ok_yy47 (R := R) (fun _ _ _ _ _ _ _ _ _ => none) := fun _ _ _ _ _ _ _ _ _ _ h => no_some h
theorem shok_50 {R : Type} {c_yy47 : T19 R} (h_yy47 : Ok_yy47 c_yy47) : ShOk Tryd.prog glob raw 50 (sh50 c_yy47) := by
  intro av es K r h
  unfold sh50 at h
  split at h
  · exact h_yy47 _ _ _ _ _ _ _ _ _ _ h
  · exact no_some h
def Ok_yy36 {R : Type} (c : T20 R) : Prop := ∀ (v1 : Int) (v2 : (List (Rose (Int × (LI × Unit))))) (K : S → List Ent → Option R) (r : R), c v1 v2 (fun (r0 : (List (Rose (Int × (LI × Unit))))) => K (.own (.rose (.pair (.int .i64) (.pair (.arr 4 (.int .u64)) .unit))) 0) [.buf (.rose (.pair (.int .i64) (.pair (.arr 4 (.int .u64)) .unit))) r0 false]) = some r → ∃ v es, FnOk Tryd.prog glob 51 (npF raw 51 []) [.int .i64 v1, .sl (.rose (.pair (.int .i64) (.pair (.arr 4 (.int .u64)) .unit))) v2] [] v es ∧ K v es = some r
theorem okn_yy36 {R : Type} : Ok_yy36 (R := R) (fun _ _ _ => none) := fun _ _ _ _ h => no_some h
theorem shok_51 {R : Type} {c_yy36 : T20 R} (h_yy36 : Ok_yy36 c_yy36) : ShOk Tryd.prog glob raw 51 (sh51 c_yy36) := by
  intro av es K r h
  unfold sh51 at h
  split at h
  · exact h_yy36 _ _ _ _ h
  · exact no_some h
def Ok_yy18 {R : Type} (c : T21 R) : Prop := ∀ (v1 : LI) (v2 : LI) (K : S → List Ent → Option R) (r : R), c v1 v2 (fun (r0 : LI) => K (.arr 4 (.int .u64) r0) []) = some r → ∃ v es, FnOk Tryd.prog glob 52 (npF raw 52 []) [.arr 4 (.int .u64) v1, .arr 4 (.int .u64) v2] [] v es ∧ K v es = some r
theorem okn_yy18 {R : Type} : Ok_yy18 (R := R) (fun _ _ _ => none) := fun _ _ _ _ h => no_some h
theorem shok_52 {R : Type} {c_yy18 : T21 R} (h_yy18 : Ok_yy18 c_yy18) : ShOk Tryd.prog glob raw 52 (sh52 c_yy18) := by
  intro av es K r h
  unfold sh52 at h
  split at h
  · exact h_yy18 _ _ _ _ h
  · exact no_some h
def Ok_yy37 {R : Type} (c : T33 R) : Prop := ∀ (v1 : (List (Rose (Int × (LI × Unit))))) (v2 : Int) (v3 : LI) (v4 : (List (Rose (Int × (LI × Unit))))) (K : S → List Ent → Option R) (r : R), c v1 v2 v3 v4 (fun (r0 : (List (Rose (Int × (LI × Unit))))) => K (.sl (.rose (.pair (.int .i64) (.pair (.arr 4 (.int .u64)) .unit))) r0) []) = some r → ∃ v es, FnOk Tryd.prog glob 53 (npF raw 53 []) [.sl (.rose (.pair (.int .i64) (.pair (.arr 4 (.int .u64)) .unit))) v1, .st [.int .i64 v2, .arr 4 (.int .u64) v3, .sl (.rose (.pair (.int .i64) (.pair (.arr 4 (.int .u64)) .unit))) v4]] [] v es ∧ K v es = some r
theorem okn_yy37 {R : Type} : Ok_yy37 (R := R) (fun _ _ _ _ _ => none) := fun _ _ _ _ _ _ h => no_some h
theorem shok_53 {R : Type} {c_yy37 : T33 R} (h_yy37 : Ok_yy37 c_yy37) : ShOk Tryd.prog glob raw 53 (sh53 c_yy37) := by
  intro av es K r h
  unfold sh53 at h
  split at h
  · exact h_yy37 _ _ _ _ _ _ h
  · exact no_some h
def Ok_yy56 {R : Type} (c : T34 R) : Prop := ∀ (v1 : Int) (v2 : LI) (v3 : (List (Rose (Int × (LI × Unit))))) (v4 : LI) (K : S → List Ent → Option R) (r : R), c v1 v2 v3 v4 (fun (r0 : Bool) (r1 : LI) => K (.bool r0) [.box (.sl (.int .i64) r1) false]) = some r → ∃ v es, FnOk Tryd.prog glob 54 (npF raw 54 [.box (.sl (.int .i64) v4) false]) [.st [.int .i64 v1, .arr 4 (.int .u64) v2, .sl (.rose (.pair (.int .i64) (.pair (.arr 4 (.int .u64)) .unit))) v3], .ptr 0 []] [.box (.sl (.int .i64) v4) false] v es ∧ K v es = some r
theorem okn_yy56 {R : Type} : Ok_yy56 (R := R) (fun _ _ _ _ _ => none) := fun _ _ _ _ _ _ h => no_some h
theorem shok_54 {R : Type} {c_yy56 : T34 R} (h_yy56 : Ok_yy56 c_yy56) : ShOk Tryd.prog glob raw 54 (sh54 c_yy56) := by
  intro av es K r h
  unfold sh54 at h
  split at h
  · exact h_yy56 _ _ _ _ _ _ h
  · exact no_some h
def Ok_yy68 {R : Type} (c : T3 R) : Prop := ∀ (v1 : LI) (v2 : Int) (K : S → List Ent → Option R) (r : R), c v1 v2 (fun (r0 : Bool) => K (.bool r0) []) = some r → ∃ v es, FnOk Tryd.prog glob 55 (npF raw 55 []) [.sl (.int .i64) v1, .int .i64 v2] [] v es ∧ K v es = some r
theorem okn_yy68 {R : Type} : Ok_yy68 (R := R) (fun _ _ _ => none) := fun _ _ _ _ h => no_some h
theorem shok_55 {R : Type} {c_yy68 : T3 R} (h_yy68 : Ok_yy68 c_yy68) : ShOk Tryd.prog glob raw 55 (sh55 c_yy68) := by
  intro av es K r h
  unfold sh55 at h
  split at h
  · exact h_yy68 _ _ _ _ h
  · exact no_some h
def Ok_yy57 {R : Type} (c : T4 R) : Prop := ∀ (v1 : Int) (v2 : LI) (v3 : (List (Rose (Int × (LI × Unit))))) (K : S → List Ent → Option R) (r : R), c v1 v2 v3 (fun (r0 : Bool) => K (.bool r0) []) = some r → ∃ v es, FnOk Tryd.prog glob 56 (npF raw 56 []) [.st [.int .i64 v1, .arr 4 (.int .u64) v2, .sl (.rose (.pair (.int .i64) (.pair (.arr 4 (.int .u64)) .unit))) v3]] [] v es ∧ K v es = some r
theorem okn_yy57 {R : Type} : Ok_yy57 (R := R) (fun _ _ _ _ => none) := fun _ _ _ _ _ h => no_some h
theorem shok_56 {R : Type} {c_yy57 : T4 R} (h_yy57 : Ok_yy57 c_yy57) : ShOk Tryd.prog glob raw 56 (sh56 c_yy57) := by
  intro av es K r h
  unfold sh56 at h
  split at h
  · exact h_yy57 _ _ _ _ _ h
  · exact no_some h
def Ok_yy52 {R : Type} (c : T6 R) : Prop := ∀ (v1 : Int) (v2 : LI) (v3 : (List (Rose (Int × (LI × Unit))))) (v4 : Int) (v5 : LI) (v6 : (List (Rose (Int × (LI × Unit))))) (K : S → List Ent → Option R) (r : R), c v1 v2 v3 v4 v5 v6 (fun (r0 : Int) => K (.int .i64 r0) []) = some r → ∃ v es, FnOk Tryd.prog glob 57 (npF raw 57 []) [.st [.int .i64 v1, .arr 4 (.int .u64) v2, .sl (.rose (.pair (.int .i64) (.pair (.arr 4 (.int .u64)) .unit))) v3], .st [.int .i64 v4, .arr 4 (.int .u64) v5, .sl (.rose (.pair (.int .i64) (.pair (.arr 4 (.int .u64)) .unit))) v6]] [] v es ∧ K v es = some r
theorem okn_yy52 {R : Type} : Ok_yy52 (R := R) (fun _ _ _ _ _ _ _ => none) := fun _ _ _ _ _ _ _ _ h => no_some h
theorem shok_57 {R : Type} {c_yy52 : T6 R} (h_yy52 : Ok_yy52 c_yy52) : ShOk Tryd.prog glob raw 57 (sh57 c_yy52) := by
  intro av es K r h
  unfold sh57 at h
  split at h
  · exact h_yy52 _ _ _ _ _ _ _ _ h
  · exact no_some h
def Ok_yy69 {R : Type} (c : T47 R) : Prop := ∀ (v1 : (List (Rose (Int × (LI × Unit))))) (v2 : LI) (K : S → List Ent → Option R) (r : R), c v1 v2 (fun (r0 : Int) (r1 : LI) => K (.int .i64 r0) [.box (.sl (.int .i64) r1) false]) = some r → ∃ v es, FnOk Tryd.prog glob 58 (npF raw 58 [.box (.sl (.int .i64) v2) false]) [.sl (.rose (.pair (.int .i64) (.pair (.arr 4 (.int .u64)) .unit))) v1, .fn 54 [.ptr 0 []]] [.box (.sl (.int .i64) v2) false] v es ∧ K v es = some r
theorem okn_yy69 {R : Type} : Ok_yy69 (R := R) (fun _ _ _ => none) := fun _ _ _ _ h => no_some h
def Ok_yy70 {R : Type} (c : T54 R) : Prop := ∀ (v1 : (List (Rose (Int × (LI × Unit))))) (K : S → List Ent → Option R) (r : R), c v1 (fun (r0 : Int) => K (.int .i64 r0) []) = some r → ∃ v es, FnOk Tryd.prog glob 58 (npF raw 58 []) [.sl (.rose (.pair (.int .i64) (.pair (.arr 4 (.int .u64)) .unit))) v1, .fn 39 []] [] v es ∧ K v es = some r
theorem okn_yy70 {R : Type} : Ok_yy70 (R := R) (fun _ _ => none) := fun _ _ _ h => no_some h
theorem shok_58 {R : Type} {c_yy69 : T47 R} {c_yy70 : T54 R} (h_yy69 : Ok_yy69 c_yy69) (h_yy70 : Ok_yy70 c_yy70) : ShOk Tryd.prog glob raw 58 (sh58 c_yy69 c_yy70) := by
  intro av es K r h
  unfold sh58 at h
  split at h
  · exact h_yy69 _ _ _ _ h
  · exact h_yy70 _ _ _ h
  · exact no_some h
def Ok_yy2 {R : Type} (c : LI → (LI → Option R) → Option R) : Prop := ∀ (v1 : LI) (K : S → List Ent → Option R) (r : R), c v1 (fun (r0 : LI) => K (.own (.int .u8) 0) [.buf (.int .u8) r0 false]) = some r → ∃ v es, FnOk Tryd.prog glob 59 (npF raw 59 []) [.arr 4 (.int .u64) v1] [] v es ∧ K v es = some r
theorem okn_yy2 {R : Type} : Ok_yy2 (R := R) (fun _ _ => none) := fun _ _ _ h => no_some h
theorem shok_59 {R : Type} {c_yy2 : LI → (LI → Option R) → Option R} (h_yy2 : Ok_yy2 c_yy2) : ShOk Tryd.prog glob raw 59 (sh59 c_yy2) := by
  intro av es K r h
  unfold sh59 at h
  split at h
  · exact h_yy2 _ _ _ h
  · exact no_some h
def Ok_yy60 {R : Type} (c : Int → (LI → Option R) → Option R) : Prop := ∀ (v1 : Int) (K : S → List Ent → Option R) (r : R), c v1 (fun (r0 : LI) => K (.str r0) []) = some r → ∃ v es, FnOk Tryd.prog glob 60 (npF raw 60 []) [.int .u8 v1] [] v es ∧ K v es = some r
theorem okn_yy60 {R : Type} : Ok_yy60 (R := R) (fun _ _ => none) := fun _ _ _ h => no_some h
theorem shok_60 {R : Type} {c_yy60 : Int → (LI → Option R) → Option R} (h_yy60 : Ok_yy60 c_yy60) : ShOk Tryd.prog glob raw 60 (sh60 c_yy60) := by
  intro av es K r h
  unfold sh60 at h
  split at h
  · exact h_yy60 _ _ _ h
  · exact no_some h
def Ok_yy15 {R : Type} (c : LI → (LI → Option R) → Option R) : Prop := ∀ (v1 : LI) (K : S → List Ent → Option R) (r : R), c v1 (fun (r0 : LI) => K (.own (.int .u8) 0) [.buf (.int .u8) r0 false]) = some r → ∃ v es, FnOk Tryd.prog glob 61 (npF raw 61 []) [.arr 4 (.int .u64) v1] [] v es ∧ K v es = some r
theorem okn_yy15 {R : Type} : Ok_yy15 (R := R) (fun _ _ => none) := fun _ _ _ h => no_some h
theorem shok_61 {R : Type} {c_yy15 : LI → (LI → Option R) → Option R} (h_yy15 : Ok_yy15 c_yy15) : ShOk Tryd.prog glob raw 61 (sh61 c_yy15) := by
  intro av es K r h
  unfold sh61 at h
  split at h
  · exact h_yy15 _ _ _ h
  · exact no_some h
def Ok_yy16 {R : Type} (c : LI → (LI → Option R) → Option R) : Prop := ∀ (v1 : LI) (K : S → List Ent → Option R) (r : R), c v1 (fun (r0 : LI) => K (.arr 4 (.int .u64) r0) []) = some r → ∃ v es, FnOk Tryd.prog glob 63 (npF raw 63 []) [.arr 4 (.int .u64) v1] [] v es ∧ K v es = some r
theorem okn_yy16 {R : Type} : Ok_yy16 (R := R) (fun _ _ => none) := fun _ _ _ h => no_some h
theorem shok_63 {R : Type} {c_yy16 : LI → (LI → Option R) → Option R} (h_yy16 : Ok_yy16 c_yy16) : ShOk Tryd.prog glob raw 63 (sh63 c_yy16) := by
  intro av es K r h
  unfold sh63 at h
  split at h
  · exact h_yy16 _ _ _ h
  · exact no_some h
def Ok_yy48 {R : Type} (c : T12 R) : Prop := ∀ (v1 : LI) (v2 : Int) (v3 : Int) (v4 : Int) (v5 : Bool) (K : S → List Ent → Option R) (r : R), c v1 v2 v3 v4 v5 (fun (r0 : Int) (r1 : Bool) (r2 : LI) (r3 : Int) (r4 : Int) (r5 : Int) (r6 : Bool) => K (.tup [.int .u8 r0, .bool r1]) [.box (.st [.str r2, .int .i64 r3, .int .i64 r4, .int .i64 r5, .bool r6]) false]) = some r → ∃ v es, FnOk Tryd.prog glob 64 (npF raw 64 [.box (.st [.str v1, .int .i64 v2, .int .i64 v3, .int .i64 v4, .bool v5]) false]) [.ptr 0 []] [.box (.st [.str v1, .int .i64 v2, .int .i64 v3, .int .i64 v4, .bool v5]) false] v es ∧ K v es = some r
theorem okn_yy48 {R : Type} : Ok_yy48 (R := R) (fun _ _ _ _ _ _ => none) := fun _ _ _ _ _ _ _ h => no_some h
theorem shok_64 {R : Type} {c_yy48 : T12 R} (h_yy48 : Ok_yy48 c_yy48) : ShOk Tryd.prog glob raw 64 (sh64 c_yy48) := by
  intro av es K r h
  unfold sh64 at h
  split at h
  · exact h_yy48 _ _ _ _ _ _ _ h
  · exact no_some h
def Ok_yy42 {R : Type} (c : T5 R) : Prop := ∀ (v1 : LI) (v2 : Int) (v3 : Int) (v4 : Int) (v5 : Bool) (K : S → List Ent → Option R) (r : R), c v1 v2 v3 v4 v5 (fun (r0 : Int) (r1 : LI) (r2 : (List (Rose (Int × (LI × Unit))))) (r3 : LI) (r4 : Int) (r5 : Int) (r6 : Int) (r7 : Bool) => K (.st [.int .i64 r0, .arr 4 (.int .u64) r1, .sl (.rose (.pair (.int .i64) (.pair (.arr 4 (.int .u64)) .unit))) r2]) [.box (.st [.str r3, .int .i64 r4, .int .i64 r5, .int .i64 r6, .bool r7]) false]) = some r → ∃ v es, FnOk Tryd.prog glob 65 (npF raw 65 [.box (.st [.str v1, .int .i64 v2, .int .i64 v3, .int .i64 v4, .bool v5]) false]) [.ptr 0 []] [.box (.st [.str v1, .int .i64 v2, .int .i64 v3, .int .i64 v4, .bool v5]) false] v es ∧ K v es = some r
theorem okn_yy42 {R : Type} : Ok_yy42 (R := R) (fun _ _ _ _ _ _ => none) := fun _ _ _ _ _ _ _ h => no_some h
theorem shok_65 {R : Type} {c_yy42 : T5 R} (h_yy42 : Ok_yy42 c_yy42) : ShOk Tryd.prog glob raw 65 (sh65 c_yy42) := by
  intro av es K r h
  unfold sh65 at h
  split at h
  · exact h_yy42 _ _ _ _ _ _ _ h
  · exact no_some h
def Ok_yy30 {R : Type} (c : T8 R) : Prop := ∀ (v1 : Int) (v2 : LI) (v3 : (List (Rose (Int × (LI × Unit))))) (K : S → List Ent → Option R) (r : R), c v1 v2 v3 (fun (r0 : Int) => K (.int .i64 r0) []) = some r → ∃ v es, FnOk Tryd.prog glob 66 (npF raw 66 []) [.st [.int .i64 v1, .arr 4 (.int .u64) v2, .sl (.rose (.pair (.int .i64) (.pair (.arr 4 (.int .u64)) .unit))) v3]] [] v es ∧ K v es = some r
theorem okn_yy30 {R : Type} : Ok_yy30 (R := R) (fun _ _ _ _ => none) := fun _ _ _ _ _ h => no_some h
theorem shok_66 {R : Type} {c_yy30 : T8 R} (h_yy30 : Ok_yy30 c_yy30) : ShOk Tryd.prog glob raw 66 (sh66 c_yy30) := by
  intro av es K r h
  unfold sh66 at h
  split at h
  · exact h_yy30 _ _ _ _ _ h
  · exact no_some h
def Ok_yy25 {R : Type} (c : T6 R) : Prop := ∀ (v1 : Int) (v2 : LI) (v3 : (List (Rose (Int × (LI × Unit))))) (v4 : Int) (v5 : LI) (v6 : (List (Rose (Int × (LI × Unit))))) (K : S → List Ent → Option R) (r : R), c v1 v2 v3 v4 v5 v6 (fun (r0 : Int) => K (.int .i64 r0) []) = some r → ∃ v es, FnOk Tryd.prog glob 67 (npF raw 67 []) [.st [.int .i64 v1, .arr 4 (.int .u64) v2, .sl (.rose (.pair (.int .i64) (.pair (.arr 4 (.int .u64)) .unit))) v3], .st [.int .i64 v4, .arr 4 (.int .u64) v5, .sl (.rose (.pair (.int .i64) (.pair (.arr 4 (.int .u64)) .unit))) v6]] [] v es ∧ K v es = some r
theorem okn_yy25 {R : Type} : Ok_yy25 (R := R) (fun _ _ _ _ _ _ _ => none) := fun _ _ _ _ _ _ _ _ h => no_some h
theorem shok_67 {R : Type} {c_yy25 : T6 R} (h_yy25 : Ok_yy25 c_yy25) : ShOk Tryd.prog glob raw 67 (sh67 c_yy25) := by
  intro av es K r h
  unfold sh67 at h
  split at h
  · exact h_yy25 _ _ _ _ _ _ _ _ h
  · exact no_some h
def Ok_yy29 {R : Type} (c : T10 R) : Prop := ∀ (v1 : Int) (v2 : LI) (v3 : (List (Rose (Int × (LI × Unit))))) (v4 : Int) (v5 : LI) (v6 : (List (Rose (Int × (LI × Unit))))) (K : S → List Ent → Option R) (r : R), c v1 v2 v3 v4 v5 v6 (fun (r0 : Bool) => K (.bool r0) []) = some r → ∃ v es, FnOk Tryd.prog glob 68 (npF raw 68 []) [.st [.int .i64 v1, .arr 4 (.int .u64) v2, .sl (.rose (.pair (.int .i64) (.pair (.arr 4 (.int .u64)) .unit))) v3], .st [.int .i64 v4, .arr 4 (.int .u64) v5, .sl (.rose (.pair (.int .i64) (.pair (.arr 4 (.int .u64)) .unit))) v6]] [] v es ∧ K v es = some r
theorem okn_yy29 {R : Type} : Ok_yy29 (R := R) (fun _ _ _ _ _ _ _ => none) := fun _ _ _ _ _ _ _ _ h => no_some h
theorem shok_68 {R : Type} {c_yy29 : T10 R} (h_yy29 : Ok_yy29 c_yy29) : ShOk Tryd.prog glob raw 68 (sh68 c_yy29) := by
  intro av es K r h
  unfold sh68 at h
  split at h
  · exact h_yy29 _ _ _ _ _ _ _ _ h
  · exact no_some h
def Ok_yy71 {R : Type} (c : T45 R) : Prop := ∀ (v1 : LI) (v2 : Int) (K : S → List Ent → Option R) (r : R), c v1 v2 (fun (r0 : Int) => K (.int .i64 r0) []) = some r → ∃ v es, FnOk Tryd.prog glob 69 (npF raw 69 []) [.sl (.int .i64) v1, .int .i64 v2] [] v es ∧ K v es = some r
theorem okn_yy71 {R : Type} : Ok_yy71 (R := R) (fun _ _ _ => none) := fun _ _ _ _ h => no_some h
theorem shok_69 {R : Type} {c_yy71 : T45 R} (h_yy71 : Ok_yy71 c_yy71) : ShOk Tryd.prog glob raw 69 (sh69 c_yy71) := by
  intro av es K r h
  unfold sh69 at h
  split at h
  · exact h_yy71 _ _ _ _ h
  · exact no_some h
def Ok_yy3 {R : Type} (c : T50 R) : Prop := ∀ (v1 : Int) (v2 : Int) (K : S → List Ent → Option R) (r : R), c v1 v2 (fun (r0 : Int) => K (.int .i64 r0) []) = some r → ∃ v es, FnOk Tryd.prog glob 70 (npF raw 70 []) [.int .i64 v1, .int .i64 v2] [] v es ∧ K v es = some r
theorem okn_yy3 {R : Type} : Ok_yy3 (R := R) (fun _ _ _ => none) := fun _ _ _ _ h => no_some h
theorem shok_70 {R : Type} {c_yy3 : T50 R} (h_yy3 : Ok_yy3 c_yy3) : ShOk Tryd.prog glob raw 70 (sh70 c_yy3) := by
  intro av es K r h
  unfold sh70 at h
  split at h
  · exact h_yy3 _ _ _ _ h
  · exact no_some h
def Ok_yy1 {R : Type} (c : T16 R) : Prop := ∀ (v1 : LI) (v2 : LI) (K : S → List Ent → Option R) (r : R), c v1 v2 (fun (r0 : Bool) => K (.bool r0) []) = some r → ∃ v es, FnOk Tryd.prog glob 71 (npF raw 71 []) [.arr 4 (.int .u64) v1, .arr 4 (.int .u64) v2] [] v es ∧ K v es = some r
theorem okn_yy1 {R : Type} : Ok_yy1 (R := R) (fun _ _ _ => none) := fun _ _ _ _ h => no_some h
theorem shok_71 {R : Type} {c_yy1 : T16 R} (h_yy1 : Ok_yy1 c_yy1) : ShOk Tryd.prog glob raw 71 (sh71 c_yy1) := by
  intro av es K r h
  unfold sh71 at h
  split at h
  · exact h_yy1 _ _ _ _ h
  · exact no_some h
def Ok_yy65 {R : Type} (c : T51 R) : Prop := ∀ (v1 : (List (Rose (Int × (LI × Unit))))) (v2 : (List (Rose (Int × (LI × Unit))))) (K : S → List Ent → Option R) (r : R), c v1 v2 (fun (r0 : Int) => K (.int .i64 r0) []) = some r → ∃ v es, FnOk Tryd.prog glob 72 (npF raw 72 []) [.sl (.rose (.pair (.int .i64) (.pair (.arr 4 (.int .u64)) .unit))) v1, .sl (.rose (.pair (.int .i64) (.pair (.arr 4 (.int .u64)) .unit))) v2, .fn 57 []] [] v es ∧ K v es = some r
theorem okn_yy65 {R : Type} : Ok_yy65 (R := R) (fun _ _ _ => none) := fun _ _ _ _ h => no_some h
theorem shok_72 {R : Type} {c_yy65 : T51 R} (h_yy65 : Ok_yy65 c_yy65) : ShOk Tryd.prog glob raw 72 (sh72 c_yy65) := by
  intro av es K r h
  unfold sh72 at h
  split at h
  · exact h_yy65 _ _ _ _ h
  · exact no_some h
def Ok_yy0 {R : Type} (c : T3 R) : Prop := ∀ (v1 : LI) (v2 : Int) (K : S → List Ent → Option R) (r : R), c v1 v2 (fun (r0 : Bool) => K (.bool r0) []) = some r → ∃ v es, FnOk Tryd.prog glob 73 (npF raw 73 []) [.arr 4 (.int .u64) v1, .int .u8 v2] [] v es ∧ K v es = some r
theorem okn_yy0 {R : Type} : Ok_yy0 (R := R) (fun _ _ _ => none) := fun _ _ _ _ h => no_some h
theorem shok_73 {R : Type} {c_yy0 : T3 R} (h_yy0 : Ok_yy0 c_yy0) : ShOk Tryd.prog glob raw 73 (sh73 c_yy0) := by
  intro av es K r h
  unfold sh73 at h
  split at h
  · exact h_yy0 _ _ _ _ h
  · exact no_some h
def Ok_yy14 {R : Type} (c : T3 R) : Prop := ∀ (v1 : LI) (v2 : Int) (K : S → List Ent → Option R) (r : R), c v1 v2 (fun (r0 : Bool) => K (.bool r0) []) = some r → ∃ v es, FnOk Tryd.prog glob 75 (npF raw 75 []) [.arr 4 (.int .u64) v1, .int .u8 v2] [] v es ∧ K v es = some r
theorem okn_yy14 {R : Type} : Ok_yy14 (R := R) (fun _ _ _ => none) := fun _ _ _ _ h => no_some h
theorem shok_75 {R : Type} {c_yy14 : T3 R} (h_yy14 : Ok_yy14 c_yy14) : ShOk Tryd.prog glob raw 75 (sh75 c_yy14) := by
  intro av es K r h
  unfold sh75 at h
  split at h
  · exact h_yy14 _ _ _ _ h
  · exact no_some h
def Ok_yy40 {R : Type} (c : T3 R) : Prop := ∀ (v1 : LI) (v2 : Int) (K : S → List Ent → Option R) (r : R), c v1 v2 (fun (r0 : Bool) => K (.bool r0) []) = some r → ∃ v es, FnOk Tryd.prog glob 76 (npF raw 76 []) [.str v1, .int .u8 v2] [] v es ∧ K v es = some r
theorem okn_yy40 {R : Type} : Ok_yy40 (R := R) (fun _ _ _ => none) := fun _ _ _ _ h => no_some h
theorem shok_76 {R : Type} {c_yy40 : T3 R} (h_yy40 : Ok_yy40 c_yy40) : ShOk Tryd.prog glob raw 76 (sh76 c_yy40) := by
  intro av es K r h
  unfold sh76 at h
  split at h
  · exact h_yy40 _ _ _ _ h
  · exact no_some h
def Ok_yy43 {R : Type} (c : T66 R) : Prop := ∀ (v1 : LI) (v2 : Int) (v3 : Int) (v4 : Int) (v5 : Bool) (K : S → List Ent → Option R) (r : R), c v1 v2 v3 v4 v5 (fun (r0 : Int) (r1 : LI) (r2 : LI) (r3 : Int) (r4 : Int) (r5 : Int) (r6 : Bool) (r7 : (List (Rose (Int × (LI × Unit))))) => K (.st [.int .i64 r0, .arr 4 (.int .u64) r1, .own (.rose (.pair (.int .i64) (.pair (.arr 4 (.int .u64)) .unit))) 1]) [.box (.st [.str r2, .int .i64 r3, .int .i64 r4, .int .i64 r5, .bool r6]) false, .buf (.rose (.pair (.int .i64) (.pair (.arr 4 (.int .u64)) .unit))) r7 false]) = some r → ∃ v es, FnOk Tryd.prog glob 77 (npF raw 77 [.box (.st [.str v1, .int .i64 v2, .int .i64 v3, .int .i64 v4, .bool v5]) false]) [.ptr 0 []] [.box (.st [.str v1, .int .i64 v2, .int .i64 v3, .int .i64 v4, .bool v5]) false] v es ∧ K v es = some r
theorem okn_yy43 {R : Type} : Ok_yy43 (R := R) (fun _ _ _ _ _ _ => none) := fun _ _ _ _ _ _ _ h => no_some h
theorem shok_77 {R : Type} {c_yy43 : T66 R} (h_yy43 : Ok_yy43 c_yy43) : ShOk Tryd.prog glob raw 77 (sh77 c_yy43) := by
  intro av es K r h
  unfold sh77 at h
  split at h
  · exact h_yy43 _ _ _ _ _ _ _ h
  · exact no_some h
def Ok_yy51 {R : Type} (c : T27 R) : Prop := ∀ (v1 : Bool) (v2 : LI) (v3 : Int) (v4 : Int) (v5 : Int) (v6 : Bool) (K : S → List Ent → Option R) (r : R), c v1 v2 v3 v4 v5 v6 (fun (r0 : Int) (r1 : LI) (r2 : Int) (r3 : Int) (r4 : Int) (r5 : Bool) => K (.int .u8 r0) [.box (.st [.str r1, .int .i64 r2, .int .i64 r3, .int .i64 r4, .bool r5]) false]) = some r → ∃ v es, FnOk Tryd.prog glob 78 (npF raw 78 [.box (.st [.str v2, .int .i64 v3, .int .i64 v4, .int .i64 v5, .bool v6]) false]) [.ptr 0 [], .bool v1] [.box (.st [.str v2, .int .i64 v3, .int .i64 v4, .int .i64 v5, .bool v6]) false] v es ∧ K v es = some r
theorem okn_yy51 {R : Type} : Ok_yy51 (R := R) (fun _ _ _ _ _ _ _ => none) := fun _ _ _ _ _ _ _ _ h => no_some h
theorem shok_78 {R : Type} {c_yy51 : T27 R} (h_yy51 : Ok_yy51 c_yy51) : ShOk Tryd.prog glob raw 78 (sh78 c_yy51) := by
  intro av es K r h
  unfold sh78 at h
  split at h
  · exact h_yy51 _ _ _ _ _ _ _ _ h
  · exact no_some h
def Ok_yy20 {R : Type} (c : T16 R) : Prop := ∀ (v1 : LI) (v2 : LI) (K : S → List Ent → Option R) (r : R), c v1 v2 (fun (r0 : Bool) => K (.bool r0) []) = some r → ∃ v es, FnOk Tryd.prog glob 79 (npF raw 79 []) [.arr 4 (.int .u64) v1, .arr 4 (.int .u64) v2] [] v es ∧ K v es = some r
theorem okn_yy20 {R : Type} : Ok_yy20 (R := R) (fun _ _ _ => none) := fun _ _ _ _ h => no_some h
theorem shok_79 {R : Type} {c_yy20 : T16 R} (h_yy20 : Ok_yy20 c_yy20) : ShOk Tryd.prog glob raw 79 (sh79 c_yy20) := by
  intro av es K r h
  unfold sh79 at h
  split at h
  · exact h_yy20 _ _ _ _ h
  · exact no_some h
def Ok_yy4 {R : Type} (c : Int → (Bool → Option R) → Option R) : Prop := ∀ (v1 : Int) (K : S → List Ent → Option R) (r : R), c v1 (fun (r0 : Bool) => K (.bool r0) []) = some r → ∃ v es, FnOk Tryd.prog glob 80 (npF raw 80 []) [.int .i64 v1] [] v es ∧ K v es = some r
theorem okn_yy4 {R : Type} : Ok_yy4 (R := R) (fun _ _ => none) := fun _ _ _ h => no_some h
theorem shok_80 {R : Type} {c_yy4 : Int → (Bool → Option R) → Option R} (h_yy4 : Ok_yy4 c_yy4) : ShOk Tryd.prog glob raw 80 (sh80 c_yy4) := by
  intro av es K r h
  unfold sh80 at h
  split at h
  · exact h_yy4 _ _ _ h
  · exact no_some h
def Ok_yy7 {R : Type} (c : Int → (Int → Option R) → Option R) : Prop := ∀ (v1 : Int) (K : S → List Ent → Option R) (r : R), c v1 (fun (r0 : Int) => K (.int .i64 r0) []) = some r → ∃ v es, FnOk Tryd.prog glob 81 (npF raw 81 []) [.int .u64 v1] [] v es ∧ K v es = some r
theorem okn_yy7 {R : Type} : Ok_yy7 (R := R) (fun _ _ => none) := fun _ _ _ h => no_some h
theorem shok_81 {R : Type} {c_yy7 : Int → (Int → Option R) → Option R} (h_yy7 : Ok_yy7 c_yy7) : ShOk Tryd.prog glob raw 81 (sh81 c_yy7) := by
  intro av es K r h
  unfold sh81 at h
  split at h
  · exact h_yy7 _ _ _ h
  · exact no_some h
def Ok_yy44 {R : Type} (c : T64 R) : Prop := ∀ (v1 : LI) (v2 : Int) (v3 : Int) (v4 : Int) (v5 : Bool) (K : S → List Ent → Option R) (r : R), c v1 v2 v3 v4 v5 (fun (r0 : Int) (r1 : LI) (r2 : Int) (r3 : Int) (r4 : Int) (r5 : Bool) => K (.int .u8 r0) [.box (.st [.str r1, .int .i64 r2, .int .i64 r3, .int .i64 r4, .bool r5]) false]) = some r → ∃ v es, FnOk Tryd.prog glob 83 (npF raw 83 [.box (.st [.str v1, .int .i64 v2, .int .i64 v3, .int .i64 v4, .bool v5]) false]) [.ptr 0 []] [.box (.st [.str v1, .int .i64 v2, .int .i64 v3, .int .i64 v4, .bool v5]) false] v es ∧ K v es = some r
theorem okn_yy44 {R : Type} : Ok_yy44 (R := R) (fun _ _ _ _ _ _ => none) := fun _ _ _ _ _ _ _ h => no_some h
theorem shok_83 {R : Type} {c_yy44 : T64 R} (h_yy44 : Ok_yy44 c_yy44) : ShOk Tryd.prog glob raw 83 (sh83 c_yy44) := by
  intro av es K r h
  unfold sh83 at h
  split at h
  · exact h_yy44 _ _ _ _ _ _ _ h
  · exact no_some h
def Ok_yy39 {R : Type} (c : Int → (Int → Option R) → Option R) : Prop := ∀ (v1 : Int) (K : S → List Ent → Option R) (r : R), c v1 (fun (r0 : Int) => K (.int .i64 r0) []) = some r → ∃ v es, FnOk Tryd.prog glob 85 (npF raw 85 []) [.int .u8 v1] [] v es ∧ K v es = some r
theorem okn_yy39 {R : Type} : Ok_yy39 (R := R) (fun _ _ => none) := fun _ _ _ h => no_some h
theorem shok_85 {R : Type} {c_yy39 : Int → (Int → Option R) → Option R} (h_yy39 : Ok_yy39 c_yy39) : ShOk Tryd.prog glob raw 85 (sh85 c_yy39) := by
  intro av es K r h
  unfold sh85 at h
  split at h
  · exact h_yy39 _ _ _ h
  · exact no_some h
theorem t_yy17 : textOk C_yy17.bef Tryd.prog 20 = true := by kernel_rfl
theorem sln_yy17_l3 {R : Type} : SlOk (R := R) C_yy17 20 27 0 3 (sl_yy17_l3 (fun _ _ _ _ _ => none)) := by
  intro vs es K r h
  unfold sl_yy17_l3 at h
  split at h <;> exact no_some h
theorem lok_yy17_l3 {R : Type} (kf : Nat) : ∀ n, SlOk (R := R) C_yy17 20 27 0 3 (sl_yy17_l3 (yy17_l3 kf n)) := by
  intro n
  induction n with
  | zero =>
    intro vs es K r h
    unfold sl_yy17_l3 at h
    split at h <;> exact no_some h
  | succ k ih =>
    have hcf : CfOk (R := R) Tryd.prog glob raw (cf_yy17 (yy17_l3 kf k)) := cf_nil
    have hlf : LfOk (R := R) C_yy17 20 (lf_yy17 (yy17_l3 kf k)) := (lf_top (lf_cons ih lf_nil))
    intro vs es K r h
    unfold sl_yy17_l3 at h
    split at h
    · exact loop_good (text_mixed t_yy17) hcf hlf (text_loop t_yy17 3).1 (text_loop t_yy17 3).2 ((eq_yy17_l3 (yy17_l3 kf k) _ _ _ _ K).trans h)
    · exact no_some h
theorem ok_yy17 {R : Type} (kf : Nat) : Ok_yy17 (R := R) (yy17 kf) := by
  have hcf : CfOk (R := R) Tryd.prog glob raw (cf_yy17 (yy17_l3 kf kf)) := cf_nil
  have hlf : LfOk (R := R) C_yy17 20 (lf_yy17 (yy17_l3 kf kf)) := (lf_top (lf_cons (lok_yy17_l3 kf kf) lf_nil))
  intro v1 K r h
  exact run_good t_yy17 hcf hlf ((eq_yy17 (yy17_l3 kf kf) v1 K).trans h)
theorem t_yy32 : textOk C_yy32.bef Tryd.prog 33 = true := by kernel_rfl
theorem ok_yy32 {R : Type} : Ok_yy32 (R := R) (yy32) := by
  have hcf : CfOk (R := R) Tryd.prog glob raw (cf_yy32) := cf_nil
  have hlf : LfOk (R := R) C_yy32 33 (lf_yy32) := lf_none
  intro K r h
  exact run_good t_yy32 hcf hlf ((eq_yy32 K).trans h)
theorem t_yy23 : textOk C_yy23.bef Tryd.prog 18 = true := by kernel_rfl
theorem ok_yy23 {R : Type} : Ok_yy23 (R := R) (yy23) := by
  have hcf : CfOk (R := R) Tryd.prog glob raw (cf_yy23 yy32) := (cf_cons (shok_33 ok_yy32) cf_nil)
  have hlf : LfOk (R := R) C_yy23 18 (lf_yy23 yy32) := lf_none
  intro v1 K r h
  exact run_good t_yy23 hcf hlf ((eq_yy23 yy32 v1 K).trans h)
theorem t_yy26 : textOk C_yy26.bef Tryd.prog 11 = true := by kernel_rfl
theorem sln_yy26_l3 {R : Type} : SlOk (R := R) C_yy26 11 24 0 3 (sl_yy26_l3 (fun _ _ _ _ _ _ _ _ _ => none)) := by
  intro vs es K r h
  unfold sl_yy26_l3 at h
  split at h <;> exact no_some h
theorem lok_yy26_l3 {R : Type} {c_self : T2 R} (hs : Ok_yy26 c_self) (kf : Nat) : ∀ n, SlOk (R := R) C_yy26 11 24 0 3 (sl_yy26_l3 (yy26_l3 c_self kf n)) := by
  intro n
  induction n with
  | zero =>
    intro vs es K r h
    unfold sl_yy26_l3 at h
    split at h <;> exact no_some h
  | succ k ih =>
    have hcf : CfOk (R := R) Tryd.prog glob raw (cf_yy26 c_self (yy26_l3 c_self kf k)) := (cf_cons (shok_11 hs) cf_nil)
    have hlf : LfOk (R := R) C_yy26 11 (lf_yy26 c_self (yy26_l3 c_self kf k)) := (lf_top (lf_cons ih lf_nil))
    intro vs es K r h
    unfold sl_yy26_l3 at h
    split at h
    · exact loop_good (text_mixed t_yy26) hcf hlf (text_loop t_yy26 3).1 (text_loop t_yy26 3).2 ((eq_yy26_l3 c_self (yy26_l3 c_self kf k) _ _ _ _ _ _ _ _ K).trans h)
    · exact no_some h
theorem ok_yy26 {R : Type} : ∀ kf, Ok_yy26 (R := R) (yy26 kf) := by
  intro kf
  induction kf with
  | zero =>
    intro v1 v2 v3 K r h
    exact no_some h
  | succ kf hs =>
    have hcf : CfOk (R := R) Tryd.prog glob raw (cf_yy26 (yy26 kf) (yy26_l3 (yy26 kf) kf kf)) := (cf_cons (shok_11 hs) cf_nil)
    have hlf : LfOk (R := R) C_yy26 11 (lf_yy26 (yy26 kf) (yy26_l3 (yy26 kf) kf kf)) := (lf_top (lf_cons (lok_yy26_l3 hs kf kf) lf_nil))
    intro v1 v2 v3 K r h
    exact run_good t_yy26 hcf hlf ((eq_yy26 (yy26 kf) (yy26_l3 (yy26 kf) kf kf) v1 v2 v3 K).trans h)
theorem t_yy28 : textOk C_yy28.bef Tryd.prog 22 = true := by kernel_rfl
theorem ok_yy28 {R : Type} : Ok_yy28 (R := R) (yy28) := by
  have hcf : CfOk (R := R) Tryd.prog glob raw (cf_yy28) := cf_nil
  have hlf : LfOk (R := R) C_yy28 22 (lf_yy28) := lf_none
  intro K r h
  exact run_good t_yy28 hcf hlf ((eq_yy28 K).trans h)
theorem t_yy36 : textOk C_yy36.bef Tryd.prog 51 = true := by kernel_rfl
theorem sln_yy36_l3 {R : Type} : SlOk (R := R) C_yy36 51 35 0 3 (sl_yy36_l3 (fun _ _ _ _ _ => none)) := by
  intro vs es K r h
  unfold sl_yy36_l3 at h
  split at h <;> exact no_some h
theorem lok_yy36_l3 {R : Type} (kf : Nat) : ∀ n, SlOk (R := R) C_yy36 51 35 0 3 (sl_yy36_l3 (yy36_l3 kf n)) := by
  intro n
  induction n with
  | zero =>
    intro vs es K r h
    unfold sl_yy36_l3 at h
    split at h <;> exact no_some h
  | succ k ih =>
    have hcf : CfOk (R := R) Tryd.prog glob raw (cf_yy36 (yy36_l3 kf k)) := cf_nil
    have hlf : LfOk (R := R) C_yy36 51 (lf_yy36 (yy36_l3 kf k)) := (lf_top (lf_cons ih lf_nil))
    intro vs es K r h
    unfold sl_yy36_l3 at h
    split at h
    · exact loop_good (text_mixed t_yy36) hcf hlf (text_loop t_yy36 3).1 (text_loop t_yy36 3).2 ((eq_yy36_l3 (yy36_l3 kf k) _ _ _ _ K).trans h)
    · exact no_some h
theorem ok_yy36 {R : Type} (kf : Nat) : Ok_yy36 (R := R) (yy36 kf) := by
  have hcf : CfOk (R := R) Tryd.prog glob raw (cf_yy36 (yy36_l3 kf kf)) := cf_nil
  have hlf : LfOk (R := R) C_yy36 51 (lf_yy36 (yy36_l3 kf kf)) := (lf_top (lf_cons (lok_yy36_l3 kf kf) lf_nil))
  intro v1 v2 K r h
  exact run_good t_yy36 hcf hlf ((eq_yy36 (yy36_l3 kf kf) v1 v2 K).trans h)
theorem t_yy14 : textOk C_yy14.bef Tryd.prog 75 = true := by kernel_rfl
theorem ok_yy14 {R : Type} : Ok_yy14 (R := R) (yy14) := by
  have hcf : CfOk (R := R) Tryd.prog glob raw (cf_yy14) := cf_nil
  have hlf : LfOk (R := R) C_yy14 75 (lf_yy14) := lf_none
  intro v1 v2 K r h
  exact run_good t_yy14 hcf hlf ((eq_yy14 v1 v2 K).trans h)
theorem t_yy15 : textOk C_yy15.bef Tryd.prog 61 = true := by kernel_rfl
theorem sln_yy15_l3 {R : Type} : SlOk (R := R) C_yy15 61 19 0 3 (sl_yy15_l3 (fun _ _ _ _ => none)) := by
  intro vs es K r h
  unfold sl_yy15_l3 at h
  split at h <;> exact no_some h
theorem lok_yy15_l3 {R : Type} (kf : Nat) : ∀ n, SlOk (R := R) C_yy15 61 19 0 3 (sl_yy15_l3 (yy15_l3 kf n)) := by
  intro n
  induction n with
  | zero =>
    intro vs es K r h
    unfold sl_yy15_l3 at h
    split at h <;> exact no_some h
  | succ k ih =>
    have hcf : CfOk (R := R) Tryd.prog glob raw (cf_yy15 yy14 (yy15_l3 kf k)) := (cf_cons (shok_75 ok_yy14) cf_nil)
    have hlf : LfOk (R := R) C_yy15 61 (lf_yy15 yy14 (yy15_l3 kf k)) := (lf_top (lf_cons ih lf_nil))
    intro vs es K r h
    unfold sl_yy15_l3 at h
    split at h
    · exact loop_good (text_mixed t_yy15) hcf hlf (text_loop t_yy15 3).1 (text_loop t_yy15 3).2 ((eq_yy15_l3 yy14 (yy15_l3 kf k) _ _ _ K).trans h)
    · exact no_some h
theorem ok_yy15 {R : Type} (kf : Nat) : Ok_yy15 (R := R) (yy15 kf) := by
  have hcf : CfOk (R := R) Tryd.prog glob raw (cf_yy15 yy14 (yy15_l3 kf kf)) := (cf_cons (shok_75 ok_yy14) cf_nil)
  have hlf : LfOk (R := R) C_yy15 61 (lf_yy15 yy14 (yy15_l3 kf kf)) := (lf_top (lf_cons (lok_yy15_l3 kf kf) lf_nil))
  intro v1 K r h
  exact run_good t_yy15 hcf hlf ((eq_yy15 yy14 (yy15_l3 kf kf) v1 K).trans h)
theorem t_yy18 : textOk C_yy18.bef Tryd.prog 52 = true := by kernel_rfl
theorem ok_yy18 {R : Type} (kf : Nat) : Ok_yy18 (R := R) (yy18 kf) := by
  have hcf : CfOk (R := R) Tryd.prog glob raw (cf_yy18 (yy15 kf) (yy17 kf)) := (cf_cons (shok_61 (ok_yy15 kf)) (cf_cons (shok_20 (ok_yy17 kf)) cf_nil))
  have hlf : LfOk (R := R) C_yy18 52 (lf_yy18 (yy15 kf) (yy17 kf)) := lf_none
  intro v1 v2 K r h
  exact run_good t_yy18 hcf hlf ((eq_yy18 (yy15 kf) (yy17 kf) v1 v2 K).trans h)
theorem t_yy20 : textOk C_yy20.bef Tryd.prog 79 = true := by kernel_rfl
theorem sln_yy20_l2 {R : Type} : SlOk (R := R) C_yy20 79 23 0 2 (sl_yy20_l2 (fun _ _ _ _ _ => none)) := by
  intro vs es K r h
  unfold sl_yy20_l2 at h
  split at h <;> exact no_some h
theorem lok_yy20_l2 {R : Type} (kf : Nat) : ∀ n, SlOk (R := R) C_yy20 79 23 0 2 (sl_yy20_l2 (yy20_l2 kf n)) := by
  intro n
  induction n with
  | zero =>
    intro vs es K r h
    unfold sl_yy20_l2 at h
    split at h <;> exact no_some h
  | succ k ih =>
    have hcf : CfOk (R := R) Tryd.prog glob raw (cf_yy20 yy14 (yy20_l2 kf k)) := (cf_cons (shok_75 ok_yy14) cf_nil)
    have hlf : LfOk (R := R) C_yy20 79 (lf_yy20 yy14 (yy20_l2 kf k)) := (lf_top (lf_cons ih lf_nil))
    intro vs es K r h
    unfold sl_yy20_l2 at h
    split at h
    · exact loop_good (text_mixed t_yy20) hcf hlf (text_loop t_yy20 2).1 (text_loop t_yy20 2).2 ((eq_yy20_l2 yy14 (yy20_l2 kf k) _ _ _ K).trans h)
    · exact no_some h
theorem ok_yy20 {R : Type} (kf : Nat) : Ok_yy20 (R := R) (yy20 kf) := by
  have hcf : CfOk (R := R) Tryd.prog glob raw (cf_yy20 yy14 (yy20_l2 kf kf)) := (cf_cons (shok_75 ok_yy14) cf_nil)
  have hlf : LfOk (R := R) C_yy20 79 (lf_yy20 yy14 (yy20_l2 kf kf)) := (lf_top (lf_cons (lok_yy20_l2 kf kf) lf_nil))
  intro v1 v2 K r h
  exact run_good t_yy20 hcf hlf ((eq_yy20 yy14 (yy20_l2 kf kf) v1 v2 K).trans h)
theorem t_yy25 : textOk C_yy25.bef Tryd.prog 67 = true := by kernel_rfl
theorem sln_yy25_l10 {R : Type} : SlOk (R := R) C_yy25 67 74 0 10 (sl_yy25_l10 (fun _ _ _ _ _ _ _ _ _ => none)) := by
  intro vs es K r h
  unfold sl_yy25_l10 at h
  split at h <;> exact no_some h
theorem lok_yy25_l10 {R : Type} {c_self : T6 R} (hs : Ok_yy25 c_self) (kf : Nat) : ∀ n, SlOk (R := R) C_yy25 67 74 0 10 (sl_yy25_l10 (yy25_l10 c_self kf n)) := by
  intro n
  induction n with
  | zero =>
    intro vs es K r h
    unfold sl_yy25_l10 at h
    split at h <;> exact no_some h
  | succ k ih =>
    have hcf : CfOk (R := R) Tryd.prog glob raw (cf_yy25 (yy20 kf) c_self (yy25_l10 c_self kf k)) := (cf_cons (shok_79 (ok_yy20 kf)) (cf_cons (shok_67 hs) cf_nil))
    have hlf : LfOk (R := R) C_yy25 67 (lf_yy25 (yy20 kf) c_self (yy25_l10 c_self kf k)) := (lf_top (lf_cons ih lf_nil))
    intro vs es K r h
    unfold sl_yy25_l10 at h
    split at h
    · exact loop_good (text_mixed t_yy25) hcf hlf (text_loop t_yy25 10).1 (text_loop t_yy25 10).2 ((eq_yy25_l10 (yy20 kf) c_self (yy25_l10 c_self kf k) _ _ _ _ _ _ _ K).trans h)
    · exact no_some h
theorem ok_yy25 {R : Type} : ∀ kf, Ok_yy25 (R := R) (yy25 kf) := by
  intro kf
  induction kf with
  | zero =>
    intro v1 v2 v3 v4 v5 v6 K r h
    exact no_some h
  | succ kf hs =>
    have hcf : CfOk (R := R) Tryd.prog glob raw (cf_yy25 (yy20 kf) (yy25 kf) (yy25_l10 (yy25 kf) kf kf)) := (cf_cons (shok_79 (ok_yy20 kf)) (cf_cons (shok_67 hs) cf_nil))
    have hlf : LfOk (R := R) C_yy25 67 (lf_yy25 (yy20 kf) (yy25 kf) (yy25_l10 (yy25 kf) kf kf)) := (lf_top (lf_cons (lok_yy25_l10 hs kf kf) lf_nil))
    intro v1 v2 v3 v4 v5 v6 K r h
    exact run_good t_yy25 hcf hlf ((eq_yy25 (yy20 kf) (yy25 kf) (yy25_l10 (yy25 kf) kf kf) v1 v2 v3 v4 v5 v6 K).trans h)
theorem t_yy29 : textOk C_yy29.bef Tryd.prog 68 = true := by kernel_rfl
theorem ok_yy29 {R : Type} (kf : Nat) : Ok_yy29 (R := R) (yy29 kf) := by
  have hcf : CfOk (R := R) Tryd.prog glob raw (cf_yy29 (yy25 kf)) := (cf_cons (shok_67 (ok_yy25 kf)) cf_nil)
  have hlf : LfOk (R := R) C_yy29 68 (lf_yy29 (yy25 kf)) := lf_none
  intro v1 v2 v3 v4 v5 v6 K r h
  exact run_good t_yy29 hcf hlf ((eq_yy29 (yy25 kf) v1 v2 v3 v4 v5 v6 K).trans h)
theorem t_yy37 : textOk C_yy37.bef Tryd.prog 53 = true := by kernel_rfl
theorem sln_yy37_l2 {R : Type} : SlOk (R := R) C_yy37 53 46 0 2 (sl_yy37_l2 (fun _ _ _ _ _ _ => none)) := by
  intro vs es K r h
  unfold sl_yy37_l2 at h
  split at h <;> exact no_some h
theorem lok_yy37_l2 {R : Type} (kf : Nat) : ∀ n, SlOk (R := R) C_yy37 53 46 0 2 (sl_yy37_l2 (yy37_l2 kf n)) := by
  intro n
  induction n with
  | zero =>
    intro vs es K r h
    unfold sl_yy37_l2 at h
    split at h <;> exact no_some h
  | succ k ih =>
    have hcf : CfOk (R := R) Tryd.prog glob raw (cf_yy37 (yy25 kf) (yy29 kf) (yy37_l2 kf k)) := (cf_cons (shok_67 (ok_yy25 kf)) (cf_cons (shok_68 (ok_yy29 kf)) cf_nil))
    have hlf : LfOk (R := R) C_yy37 53 (lf_yy37 (yy25 kf) (yy29 kf) (yy37_l2 kf k)) := (lf_top (lf_cons ih lf_nil))
    intro vs es K r h
    unfold sl_yy37_l2 at h
    split at h
    · exact loop_good (text_mixed t_yy37) hcf hlf (text_loop t_yy37 2).1 (text_loop t_yy37 2).2 ((eq_yy37_l2 (yy25 kf) (yy29 kf) (yy37_l2 kf k) _ _ _ _ _ K).trans h)
    · exact no_some h
theorem ok_yy37 {R : Type} (kf : Nat) : Ok_yy37 (R := R) (yy37 kf) := by
  have hcf : CfOk (R := R) Tryd.prog glob raw (cf_yy37 (yy25 kf) (yy29 kf) (yy37_l2 kf kf)) := (cf_cons (shok_67 (ok_yy25 kf)) (cf_cons (shok_68 (ok_yy29 kf)) cf_nil))
  have hlf : LfOk (R := R) C_yy37 53 (lf_yy37 (yy25 kf) (yy29 kf) (yy37_l2 kf kf)) := (lf_top (lf_cons (lok_yy37_l2 kf kf) lf_nil))
  intro v1 v2 v3 v4 K r h
  exact run_good t_yy37 hcf hlf ((eq_yy37 (yy25 kf) (yy29 kf) (yy37_l2 kf kf) v1 v2 v3 v4 K).trans h)
theorem t_yy22 : textOk C_yy22.bef Tryd.prog 35 = true := by kernel_rfl
theorem sln_yy22_l5 {R : Type} : SlOk (R := R) C_yy22 35 57 0 5 (sl_yy22_l5 (fun _ _ _ _ _ _ _ _ => none)) := by
  intro vs es K r h
  unfold sl_yy22_l5 at h
  split at h <;> exact no_some h
theorem lok_yy22_l5 {R : Type} (kf : Nat) : ∀ n, SlOk (R := R) C_yy22 35 57 0 5 (sl_yy22_l5 (yy22_l5 kf n)) := by
  intro n
  induction n with
  | zero =>
    intro vs es K r h
    unfold sl_yy22_l5 at h
    split at h <;> exact no_some h
  | succ k ih =>
    have hcf : CfOk (R := R) Tryd.prog glob raw (cf_yy22 (yy36 kf) (yy18 kf) (yy26 kf) (yy37 kf) yy23 yy32 (yy22_l5 kf k)) := (cf_cons (shok_51 (ok_yy36 kf)) (cf_cons (shok_52 (ok_yy18 kf)) (cf_cons (shok_11 (ok_yy26 kf)) (cf_cons (shok_53 (ok_yy37 kf)) (cf_cons (shok_18 ok_yy23) (cf_cons (shok_33 ok_yy32) cf_nil))))))
    have hlf : LfOk (R := R) C_yy22 35 (lf_yy22 (yy36 kf) (yy18 kf) (yy26 kf) (yy37 kf) yy23 yy32 (yy22_l5 kf k)) := (lf_top (lf_cons ih lf_nil))
    intro vs es K r h
    unfold sl_yy22_l5 at h
    split at h
    · exact loop_good (text_mixed t_yy22) hcf hlf (text_loop t_yy22 5).1 (text_loop t_yy22 5).2 ((eq_yy22_l5 (yy36 kf) (yy18 kf) (yy26 kf) (yy37 kf) yy23 yy32 (yy22_l5 kf k) _ _ _ _ _ _ _ K).trans h)
    · exact no_some h
theorem ok_yy22 {R : Type} (kf : Nat) : Ok_yy22 (R := R) (yy22 kf) := by
  have hcf : CfOk (R := R) Tryd.prog glob raw (cf_yy22 (yy36 kf) (yy18 kf) (yy26 kf) (yy37 kf) yy23 yy32 (yy22_l5 kf kf)) := (cf_cons (shok_51 (ok_yy36 kf)) (cf_cons (shok_52 (ok_yy18 kf)) (cf_cons (shok_11 (ok_yy26 kf)) (cf_cons (shok_53 (ok_yy37 kf)) (cf_cons (shok_18 ok_yy23) (cf_cons (shok_33 ok_yy32) cf_nil))))))
  have hlf : LfOk (R := R) C_yy22 35 (lf_yy22 (yy36 kf) (yy18 kf) (yy26 kf) (yy37 kf) yy23 yy32 (yy22_l5 kf kf)) := (lf_top (lf_cons (lok_yy22_l5 kf kf) lf_nil))
  intro v1 K r h
  exact run_good t_yy22 hcf hlf ((eq_yy22 (yy36 kf) (yy18 kf) (yy26 kf) (yy37 kf) yy23 yy32 (yy22_l5 kf kf) v1 K).trans h)
theorem t_yy35 : textOk C_yy35.bef Tryd.prog 21 = true := by kernel_rfl
theorem sln_yy35_l10 {R : Type} : SlOk (R := R) C_yy35 21 52 0 10 (sl_yy35_l10 (fun _ _ _ _ _ _ _ _ _ => none)) := by
  intro vs es K r h
  unfold sl_yy35_l10 at h
  split at h <;> exact no_some h
theorem lok_yy35_l10 {R : Type} {c_self : T2 R} (hs : Ok_yy35 c_self) (kf : Nat) : ∀ n, SlOk (R := R) C_yy35 21 52 0 10 (sl_yy35_l10 (yy35_l10 c_self kf n)) := by
  intro n
  induction n with
  | zero =>
    intro vs es K r h
    unfold sl_yy35_l10 at h
    split at h <;> exact no_some h
  | succ k ih =>
    have hcf : CfOk (R := R) Tryd.prog glob raw (cf_yy35 (yy26 kf) yy28 (yy22 kf) c_self (yy35_l10 c_self kf k)) := (cf_cons (shok_11 (ok_yy26 kf)) (cf_cons (shok_22 ok_yy28) (cf_cons (shok_35 (ok_yy22 kf)) (cf_cons (shok_21 hs) cf_nil))))
    have hlf : LfOk (R := R) C_yy35 21 (lf_yy35 (yy26 kf) yy28 (yy22 kf) c_self (yy35_l10 c_self kf k)) := (lf_top (lf_cons ih lf_nil))
    intro vs es K r h
    unfold sl_yy35_l10 at h
    split at h
    · exact loop_good (text_mixed t_yy35) hcf hlf (text_loop t_yy35 10).1 (text_loop t_yy35 10).2 ((eq_yy35_l10 (yy26 kf) yy28 (yy22 kf) c_self (yy35_l10 c_self kf k) _ _ _ _ _ _ _ _ K).trans h)
    · exact no_some h
theorem ok_yy35 {R : Type} : ∀ kf, Ok_yy35 (R := R) (yy35 kf) := by
  intro kf
  induction kf with
  | zero =>
    intro v1 v2 v3 K r h
    exact no_some h
  | succ kf hs =>
    have hcf : CfOk (R := R) Tryd.prog glob raw (cf_yy35 (yy26 kf) yy28 (yy22 kf) (yy35 kf) (yy35_l10 (yy35 kf) kf kf)) := (cf_cons (shok_11 (ok_yy26 kf)) (cf_cons (shok_22 ok_yy28) (cf_cons (shok_35 (ok_yy22 kf)) (cf_cons (shok_21 hs) cf_nil))))
    have hlf : LfOk (R := R) C_yy35 21 (lf_yy35 (yy26 kf) yy28 (yy22 kf) (yy35 kf) (yy35_l10 (yy35 kf) kf kf)) := (lf_top (lf_cons (lok_yy35_l10 hs kf kf) lf_nil))
    intro v1 v2 v3 K r h
    exact run_good t_yy35 hcf hlf ((eq_yy35 (yy26 kf) yy28 (yy22 kf) (yy35 kf) (yy35_l10 (yy35 kf) kf kf) v1 v2 v3 K).trans h)
theorem t_yy71 : textOk C_yy71.bef Tryd.prog 69 = true := by kernel_rfl
theorem sln_yy71_l2 {R : Type} : SlOk (R := R) C_yy71 69 19 0 2 (sl_yy71_l2 (fun _ _ _ _ _ _ => none)) := by
  intro vs es K r h
  unfold sl_yy71_l2 at h
  split at h <;> exact no_some h
theorem lok_yy71_l2 {R : Type} (kf : Nat) : ∀ n, SlOk (R := R) C_yy71 69 19 0 2 (sl_yy71_l2 (yy71_l2 kf n)) := by
  intro n
  induction n with
  | zero =>
    intro vs es K r h
    unfold sl_yy71_l2 at h
    split at h <;> exact no_some h
  | succ k ih =>
    have hcf : CfOk (R := R) Tryd.prog glob raw (cf_yy71 (yy71_l2 kf k)) := cf_nil
    have hlf : LfOk (R := R) C_yy71 69 (lf_yy71 (yy71_l2 kf k)) := (lf_top (lf_cons ih lf_nil))
    intro vs es K r h
    unfold sl_yy71_l2 at h
    split at h
    · exact loop_good (text_mixed t_yy71) hcf hlf (text_loop t_yy71 2).1 (text_loop t_yy71 2).2 ((eq_yy71_l2 (yy71_l2 kf k) _ _ _ _ K).trans h)
    · exact no_some h
theorem ok_yy71 {R : Type} (kf : Nat) : Ok_yy71 (R := R) (yy71 kf) := by
  have hcf : CfOk (R := R) Tryd.prog glob raw (cf_yy71 (yy71_l2 kf kf)) := cf_nil
  have hlf : LfOk (R := R) C_yy71 69 (lf_yy71 (yy71_l2 kf kf)) := (lf_top (lf_cons (lok_yy71_l2 kf kf) lf_nil))
  intro v1 v2 K r h
  exact run_good t_yy71 hcf hlf ((eq_yy71 (yy71_l2 kf kf) v1 v2 K).trans h)
theorem t_yy68 : textOk C_yy68.bef Tryd.prog 55 = true := by kernel_rfl
theorem ok_yy68 {R : Type} (kf : Nat) : Ok_yy68 (R := R) (yy68 kf) := by
  have hcf : CfOk (R := R) Tryd.prog glob raw (cf_yy68 (yy71 kf)) := (cf_cons (shok_69 (ok_yy71 kf)) cf_nil)
  have hlf : LfOk (R := R) C_yy68 55 (lf_yy68 (yy71 kf)) := lf_none
  intro v1 v2 K r h
  exact run_good t_yy68 hcf hlf ((eq_yy68 (yy71 kf) v1 v2 K).trans h)
theorem t_yy56 : textOk C_yy56.bef Tryd.prog 54 = true := by kernel_rfl
theorem ok_yy56 {R : Type} (kf : Nat) : Ok_yy56 (R := R) (yy56 kf) := by
  have hcf : CfOk (R := R) Tryd.prog glob raw (cf_yy56 (yy68 kf)) := (cf_cons (shok_55 (ok_yy68 kf)) cf_nil)
  have hlf : LfOk (R := R) C_yy56 54 (lf_yy56 (yy68 kf)) := lf_none
  intro v1 v2 v3 v4 K r h
  exact run_good t_yy56 hcf hlf ((eq_yy56 (yy68 kf) v1 v2 v3 v4 K).trans h)
theorem t_yy69 : textOk C_yy69.bef Tryd.prog 58 = true := by kernel_rfl
theorem sln_yy69_l2 {R : Type} : SlOk (R := R) C_yy69 58 19 1 2 (sl_yy69_l2 (fun _ _ _ _ _ _ => none)) := by
  intro vs es K r h
  unfold sl_yy69_l2 at h
  split at h <;> exact no_some h
theorem lok_yy69_l2 {R : Type} (kf : Nat) : ∀ n, SlOk (R := R) C_yy69 58 19 1 2 (sl_yy69_l2 (yy69_l2 kf n)) := by
  intro n
  induction n with
  | zero =>
    intro vs es K r h
    unfold sl_yy69_l2 at h
    split at h <;> exact no_some h
  | succ k ih =>
    have hcf : CfOk (R := R) Tryd.prog glob raw (cf_yy69 (yy56 kf) (yy69_l2 kf k)) := (cf_cons (shok_54 (ok_yy56 kf)) cf_nil)
    have hlf : LfOk (R := R) C_yy69 58 (lf_yy69 (yy56 kf) (yy69_l2 kf k)) := (lf_top (lf_cons ih lf_nil))
    intro vs es K r h
    unfold sl_yy69_l2 at h
    split at h
    · exact loop_good (text_mixed t_yy69) hcf hlf (text_loop t_yy69 2).1 (text_loop t_yy69 2).2 ((eq_yy69_l2 (yy56 kf) (yy69_l2 kf k) _ _ _ _ K).trans h)
    · exact no_some h
theorem ok_yy69 {R : Type} (kf : Nat) : Ok_yy69 (R := R) (yy69 kf) := by
  have hcf : CfOk (R := R) Tryd.prog glob raw (cf_yy69 (yy56 kf) (yy69_l2 kf kf)) := (cf_cons (shok_54 (ok_yy56 kf)) cf_nil)
  have hlf : LfOk (R := R) C_yy69 58 (lf_yy69 (yy56 kf) (yy69_l2 kf kf)) := (lf_top (lf_cons (lok_yy69_l2 kf kf) lf_nil))
  intro v1 v2 K r h
  exact run_good t_yy69 hcf hlf ((eq_yy69 (yy56 kf) (yy69_l2 kf kf) v1 v2 K).trans h)
theorem t_yy66 : textOk C_yy66.bef Tryd.prog 38 = true := by kernel_rfl
theorem ok_yy66 {R : Type} (kf : Nat) : Ok_yy66 (R := R) (yy66 kf) := by
  have hcf : CfOk (R := R) Tryd.prog glob raw (cf_yy66 (yy69 kf)) := (cf_cons (shok_58 (ok_yy69 kf) okn_yy70) cf_nil)
  have hlf : LfOk (R := R) C_yy66 38 (lf_yy66 (yy69 kf)) := lf_none
  intro v1 v2 K r h
  exact run_good t_yy66 hcf hlf ((eq_yy66 (yy69 kf) v1 v2 K).trans h)
theorem t_yy55 : textOk C_yy55.bef Tryd.prog 36 = true := by kernel_rfl
theorem ok_yy55 {R : Type} (kf : Nat) : Ok_yy55 (R := R) (yy55 kf) := by
  have hcf : CfOk (R := R) Tryd.prog glob raw (cf_yy55 (yy66 kf)) := (cf_cons (shok_38 (ok_yy66 kf) okn_yy67) cf_nil)
  have hlf : LfOk (R := R) C_yy55 36 (lf_yy55 (yy66 kf)) := lf_none
  intro v1 v2 K r h
  exact run_good t_yy55 hcf hlf ((eq_yy55 (yy66 kf) v1 v2 K).trans h)
theorem t_yy57 : textOk C_yy57.bef Tryd.prog 56 = true := by kernel_rfl
theorem ok_yy57 {R : Type} : Ok_yy57 (R := R) (yy57) := by
  have hcf : CfOk (R := R) Tryd.prog glob raw (cf_yy57) := cf_nil
  have hlf : LfOk (R := R) C_yy57 56 (lf_yy57) := lf_none
  intro v1 v2 v3 K r h
  exact run_good t_yy57 hcf hlf ((eq_yy57 v1 v2 v3 K).trans h)
theorem t_yy4 : textOk C_yy4.bef Tryd.prog 80 = true := by kernel_rfl
theorem ok_yy4 {R : Type} : Ok_yy4 (R := R) (yy4) := by
  have hcf : CfOk (R := R) Tryd.prog glob raw (cf_yy4) := cf_nil
  have hlf : LfOk (R := R) C_yy4 80 (lf_yy4) := lf_none
  intro v1 K r h
  exact run_good t_yy4 hcf hlf ((eq_yy4 v1 K).trans h)
theorem t_yy3 : textOk C_yy3.bef Tryd.prog 70 = true := by kernel_rfl
theorem ok_yy3 {R : Type} : Ok_yy3 (R := R) (yy3) := by
  have hcf : CfOk (R := R) Tryd.prog glob raw (cf_yy3 yy4) := (cf_cons (shok_80 ok_yy4) cf_nil)
  have hlf : LfOk (R := R) C_yy3 70 (lf_yy3 yy4) := lf_none
  intro v1 v2 K r h
  exact run_good t_yy3 hcf hlf ((eq_yy3 yy4 v1 v2 K).trans h)
theorem t_yy7 : textOk C_yy7.bef Tryd.prog 81 = true := by kernel_rfl
theorem ok_yy7 {R : Type} : Ok_yy7 (R := R) (yy7) := by
  have hcf : CfOk (R := R) Tryd.prog glob raw (cf_yy7) := cf_nil
  have hlf : LfOk (R := R) C_yy7 81 (lf_yy7) := lf_none
  intro v1 K r h
  exact run_good t_yy7 hcf hlf ((eq_yy7 v1 K).trans h)
theorem t_yy1 : textOk C_yy1.bef Tryd.prog 71 = true := by kernel_rfl
theorem sln_yy1_l2 {R : Type} : SlOk (R := R) C_yy1 71 28 0 2 (sl_yy1_l2 (fun _ _ _ _ _ => none)) := by
  intro vs es K r h
  unfold sl_yy1_l2 at h
  split at h <;> exact no_some h
theorem lok_yy1_l2 {R : Type} (kf : Nat) : ∀ n, SlOk (R := R) C_yy1 71 28 0 2 (sl_yy1_l2 (yy1_l2 kf n)) := by
  intro n
  induction n with
  | zero =>
    intro vs es K r h
    unfold sl_yy1_l2 at h
    split at h <;> exact no_some h
  | succ k ih =>
    have hcf : CfOk (R := R) Tryd.prog glob raw (cf_yy1 yy7 (yy1_l2 kf k)) := (cf_cons (shok_81 ok_yy7) cf_nil)
    have hlf : LfOk (R := R) C_yy1 71 (lf_yy1 yy7 (yy1_l2 kf k)) := (lf_top (lf_cons ih lf_nil))
    intro vs es K r h
    unfold sl_yy1_l2 at h
    split at h
    · exact loop_good (text_mixed t_yy1) hcf hlf (text_loop t_yy1 2).1 (text_loop t_yy1 2).2 ((eq_yy1_l2 yy7 (yy1_l2 kf k) _ _ _ K).trans h)
    · exact no_some h
theorem ok_yy1 {R : Type} (kf : Nat) : Ok_yy1 (R := R) (yy1 kf) := by
  have hcf : CfOk (R := R) Tryd.prog glob raw (cf_yy1 yy7 (yy1_l2 kf kf)) := (cf_cons (shok_81 ok_yy7) cf_nil)
  have hlf : LfOk (R := R) C_yy1 71 (lf_yy1 yy7 (yy1_l2 kf kf)) := (lf_top (lf_cons (lok_yy1_l2 kf kf) lf_nil))
  intro v1 v2 K r h
  exact run_good t_yy1 hcf hlf ((eq_yy1 yy7 (yy1_l2 kf kf) v1 v2 K).trans h)
theorem t_yy65 : textOk C_yy65.bef Tryd.prog 72 = true := by kernel_rfl
theorem sln_yy65_l2 {R : Type} : SlOk (R := R) C_yy65 72 39 0 2 (sl_yy65_l2 (fun _ _ _ _ _ _ _ => none)) := by
  intro vs es K r h
  unfold sl_yy65_l2 at h
  split at h <;> exact no_some h
theorem lok_yy65_l2 {R : Type} {c_yy52 : T6 R} (h_yy52 : Ok_yy52 c_yy52) (kf : Nat) : ∀ n, SlOk (R := R) C_yy65 72 39 0 2 (sl_yy65_l2 (yy65_l2 c_yy52 kf n)) := by
  intro n
  induction n with
  | zero =>
    intro vs es K r h
    unfold sl_yy65_l2 at h
    split at h <;> exact no_some h
  | succ k ih =>
    have hcf : CfOk (R := R) Tryd.prog glob raw (cf_yy65 c_yy52 (yy65_l2 c_yy52 kf k)) := (cf_cons (shok_57 h_yy52) cf_nil)
    have hlf : LfOk (R := R) C_yy65 72 (lf_yy65 c_yy52 (yy65_l2 c_yy52 kf k)) := (lf_top (lf_cons ih lf_nil))
    intro vs es K r h
    unfold sl_yy65_l2 at h
    split at h
    · exact loop_good (text_mixed t_yy65) hcf hlf (text_loop t_yy65 2).1 (text_loop t_yy65 2).2 ((eq_yy65_l2 c_yy52 (yy65_l2 c_yy52 kf k) _ _ _ _ _ K).trans h)
    · exact no_some h
theorem ok_yy65 {R : Type} {c_yy52 : T6 R} (h_yy52 : Ok_yy52 c_yy52) (kf : Nat) : Ok_yy65 (R := R) (yy65 c_yy52 kf) := by
  have hcf : CfOk (R := R) Tryd.prog glob raw (cf_yy65 c_yy52 (yy65_l2 c_yy52 kf kf)) := (cf_cons (shok_57 h_yy52) cf_nil)
  have hlf : LfOk (R := R) C_yy65 72 (lf_yy65 c_yy52 (yy65_l2 c_yy52 kf kf)) := (lf_top (lf_cons (lok_yy65_l2 h_yy52 kf kf) lf_nil))
  intro v1 v2 K r h
  exact run_good t_yy65 hcf hlf ((eq_yy65 c_yy52 (yy65_l2 c_yy52 kf kf) v1 v2 K).trans h)
theorem t_yy52 : textOk C_yy52.bef Tryd.prog 57 = true := by kernel_rfl
theorem ok_yy52 {R : Type} : ∀ kf, Ok_yy52 (R := R) (yy52 kf) := by
  intro kf
  induction kf with
  | zero =>
    intro v1 v2 v3 v4 v5 v6 K r h
    exact no_some h
  | succ kf hs =>
    have hcf : CfOk (R := R) Tryd.prog glob raw (cf_yy52 yy3 (yy1 kf) (yy65 (yy52 kf) kf)) := (cf_cons (shok_70 ok_yy3) (cf_cons (shok_71 (ok_yy1 kf)) (cf_cons (shok_72 (ok_yy65 hs kf)) cf_nil)))
    have hlf : LfOk (R := R) C_yy52 57 (lf_yy52 yy3 (yy1 kf) (yy65 (yy52 kf) kf)) := lf_none
    intro v1 v2 v3 v4 v5 v6 K r h
    exact run_good t_yy52 hcf hlf ((eq_yy52 yy3 (yy1 kf) (yy65 (yy52 kf) kf) v1 v2 v3 v4 v5 v6 K).trans h)
theorem t_yy58 : textOk C_yy58.bef Tryd.prog 37 = true := by kernel_rfl
theorem sln_yy58_l3 {R : Type} : SlOk (R := R) C_yy58 37 32 0 3 (sl_yy58_l3 (fun _ _ _ _ _ _ _ => none)) := by
  intro vs es K r h
  unfold sl_yy58_l3 at h
  split at h <;> exact no_some h
theorem lok_yy58_l3 {R : Type} (kf : Nat) : ∀ n, SlOk (R := R) C_yy58 37 32 0 3 (sl_yy58_l3 (yy58_l3 kf n)) := by
  intro n
  induction n with
  | zero =>
    intro vs es K r h
    unfold sl_yy58_l3 at h
    split at h <;> exact no_some h
  | succ k ih =>
    have hcf : CfOk (R := R) Tryd.prog glob raw (cf_yy58 yy57 (yy52 kf) (yy58_l3 kf k)) := (cf_cons (shok_56 ok_yy57) (cf_cons (shok_57 (ok_yy52 kf)) cf_nil))
    have hlf : LfOk (R := R) C_yy58 37 (lf_yy58 yy57 (yy52 kf) (yy58_l3 kf k)) := (lf_top (lf_cons ih lf_nil))
    intro vs es K r h
    unfold sl_yy58_l3 at h
    split at h
    · exact loop_good (text_mixed t_yy58) hcf hlf (text_loop t_yy58 3).1 (text_loop t_yy58 3).2 ((eq_yy58_l3 yy57 (yy52 kf) (yy58_l3 kf k) _ _ _ _ _ K).trans h)
    · exact no_some h
theorem ok_yy58 {R : Type} (kf : Nat) : Ok_yy58 (R := R) (yy58 kf) := by
  have hcf : CfOk (R := R) Tryd.prog glob raw (cf_yy58 yy57 (yy52 kf) (yy58_l3 kf kf)) := (cf_cons (shok_56 ok_yy57) (cf_cons (shok_57 (ok_yy52 kf)) cf_nil))
  have hlf : LfOk (R := R) C_yy58 37 (lf_yy58 yy57 (yy52 kf) (yy58_l3 kf kf)) := (lf_top (lf_cons (lok_yy58_l3 kf kf) lf_nil))
  intro v1 K r h
  exact run_good t_yy58 hcf hlf ((eq_yy58 yy57 (yy52 kf) (yy58_l3 kf kf) v1 K).trans h)
theorem t_yy54 : textOk C_yy54.bef Tryd.prog 39 = true := by kernel_rfl
theorem ok_yy54 {R : Type} {c_yy53 : T4 R} (h_yy53 : Ok_yy53 c_yy53) (kf : Nat) : Ok_yy54 (R := R) (yy54 c_yy53 kf) := by
  have hcf : CfOk (R := R) Tryd.prog glob raw (cf_yy54 c_yy53) := (cf_cons (shok_25 h_yy53) cf_nil)
  have hlf : LfOk (R := R) C_yy54 39 (lf_yy54 c_yy53) := lf_none
  intro v1 v2 v3 K r h
  exact run_good t_yy54 hcf hlf ((eq_yy54 c_yy53 v1 v2 v3 K).trans h)
theorem t_yy70 : textOk C_yy70.bef Tryd.prog 58 = true := by kernel_rfl
theorem sln_yy70_l2 {R : Type} : SlOk (R := R) C_yy70 58 19 0 2 (sl_yy70_l2 (fun _ _ _ _ _ => none)) := by
  intro vs es K r h
  unfold sl_yy70_l2 at h
  split at h <;> exact no_some h
theorem lok_yy70_l2 {R : Type} {c_yy53 : T4 R} (h_yy53 : Ok_yy53 c_yy53) (kf : Nat) : ∀ n, SlOk (R := R) C_yy70 58 19 0 2 (sl_yy70_l2 (yy70_l2 c_yy53 kf n)) := by
  intro n
  induction n with
  | zero =>
    intro vs es K r h
    unfold sl_yy70_l2 at h
    split at h <;> exact no_some h
  | succ k ih =>
    have hcf : CfOk (R := R) Tryd.prog glob raw (cf_yy70 (yy54 c_yy53 kf) (yy70_l2 c_yy53 kf k)) := (cf_cons (shok_39 (ok_yy54 h_yy53 kf)) cf_nil)
    have hlf : LfOk (R := R) C_yy70 58 (lf_yy70 (yy54 c_yy53 kf) (yy70_l2 c_yy53 kf k)) := (lf_top (lf_cons ih lf_nil))
    intro vs es K r h
    unfold sl_yy70_l2 at h
    split at h
    · exact loop_good (text_mixed t_yy70) hcf hlf (text_loop t_yy70 2).1 (text_loop t_yy70 2).2 ((eq_yy70_l2 (yy54 c_yy53 kf) (yy70_l2 c_yy53 kf k) _ _ _ K).trans h)
    · exact no_some h
theorem ok_yy70 {R : Type} {c_yy53 : T4 R} (h_yy53 : Ok_yy53 c_yy53) (kf : Nat) : Ok_yy70 (R := R) (yy70 c_yy53 kf) := by
  have hcf : CfOk (R := R) Tryd.prog glob raw (cf_yy70 (yy54 c_yy53 kf) (yy70_l2 c_yy53 kf kf)) := (cf_cons (shok_39 (ok_yy54 h_yy53 kf)) cf_nil)
  have hlf : LfOk (R := R) C_yy70 58 (lf_yy70 (yy54 c_yy53 kf) (yy70_l2 c_yy53 kf kf)) := (lf_top (lf_cons (lok_yy70_l2 h_yy53 kf kf) lf_nil))
  intro v1 K r h
  exact run_good t_yy70 hcf hlf ((eq_yy70 (yy54 c_yy53 kf) (yy70_l2 c_yy53 kf kf) v1 K).trans h)
theorem t_yy67 : textOk C_yy67.bef Tryd.prog 38 = true := by kernel_rfl
theorem ok_yy67 {R : Type} {c_yy53 : T4 R} (h_yy53 : Ok_yy53 c_yy53) (kf : Nat) : Ok_yy67 (R := R) (yy67 c_yy53 kf) := by
  have hcf : CfOk (R := R) Tryd.prog glob raw (cf_yy67 (yy70 c_yy53 kf)) := (cf_cons (shok_58 okn_yy69 (ok_yy70 h_yy53 kf)) cf_nil)
  have hlf : LfOk (R := R) C_yy67 38 (lf_yy67 (yy70 c_yy53 kf)) := lf_none
  intro v1 K r h
  exact run_good t_yy67 hcf hlf ((eq_yy67 (yy70 c_yy53 kf) v1 K).trans h)
theorem t_yy53 : textOk C_yy53.bef Tryd.prog 25 = true := by kernel_rfl
theorem ok_yy53 {R : Type} : ∀ kf, Ok_yy53 (R := R) (yy53 kf) := by
  intro kf
  induction kf with
  | zero =>
    intro v1 v2 v3 K r h
    exact no_some h
  | succ kf hs =>
    have hcf : CfOk (R := R) Tryd.prog glob raw (cf_yy53 (yy55 kf) (yy58 kf) (yy67 (yy53 kf) kf)) := (cf_cons (shok_36 (ok_yy55 kf)) (cf_cons (shok_37 (ok_yy58 kf)) (cf_cons (shok_38 okn_yy66 (ok_yy67 hs kf)) cf_nil)))
    have hlf : LfOk (R := R) C_yy53 25 (lf_yy53 (yy55 kf) (yy58 kf) (yy67 (yy53 kf) kf)) := lf_none
    intro v1 v2 v3 K r h
    exact run_good t_yy53 hcf hlf ((eq_yy53 (yy55 kf) (yy58 kf) (yy67 (yy53 kf) kf) v1 v2 v3 K).trans h)
theorem t_yy61 : textOk C_yy61.bef Tryd.prog 40 = true := by kernel_rfl
theorem ok_yy61 {R : Type} : Ok_yy61 (R := R) (yy61) := by
  have hcf : CfOk (R := R) Tryd.prog glob raw (cf_yy61) := cf_nil
  have hlf : LfOk (R := R) C_yy61 40 (lf_yy61) := lf_none
  intro v1 v2 v3 K r h
  exact run_good t_yy61 hcf hlf ((eq_yy61 v1 v2 v3 K).trans h)
theorem t_yy0 : textOk C_yy0.bef Tryd.prog 73 = true := by kernel_rfl
theorem ok_yy0 {R : Type} : Ok_yy0 (R := R) (yy0) := by
  have hcf : CfOk (R := R) Tryd.prog glob raw (cf_yy0) := cf_nil
  have hlf : LfOk (R := R) C_yy0 73 (lf_yy0) := lf_none
  intro v1 v2 K r h
  exact run_good t_yy0 hcf hlf ((eq_yy0 v1 v2 K).trans h)
theorem t_yy2 : textOk C_yy2.bef Tryd.prog 59 = true := by kernel_rfl
theorem sln_yy2_l3 {R : Type} : SlOk (R := R) C_yy2 59 19 0 3 (sl_yy2_l3 (fun _ _ _ _ => none)) := by
  intro vs es K r h
  unfold sl_yy2_l3 at h
  split at h <;> exact no_some h
theorem lok_yy2_l3 {R : Type} (kf : Nat) : ∀ n, SlOk (R := R) C_yy2 59 19 0 3 (sl_yy2_l3 (yy2_l3 kf n)) := by
  intro n
  induction n with
  | zero =>
    intro vs es K r h
    unfold sl_yy2_l3 at h
    split at h <;> exact no_some h
  | succ k ih =>
    have hcf : CfOk (R := R) Tryd.prog glob raw (cf_yy2 yy0 (yy2_l3 kf k)) := (cf_cons (shok_73 ok_yy0) cf_nil)
    have hlf : LfOk (R := R) C_yy2 59 (lf_yy2 yy0 (yy2_l3 kf k)) := (lf_top (lf_cons ih lf_nil))
    intro vs es K r h
    unfold sl_yy2_l3 at h
    split at h
    · exact loop_good (text_mixed t_yy2) hcf hlf (text_loop t_yy2 3).1 (text_loop t_yy2 3).2 ((eq_yy2_l3 yy0 (yy2_l3 kf k) _ _ _ K).trans h)
    · exact no_some h
theorem ok_yy2 {R : Type} (kf : Nat) : Ok_yy2 (R := R) (yy2 kf) := by
  have hcf : CfOk (R := R) Tryd.prog glob raw (cf_yy2 yy0 (yy2_l3 kf kf)) := (cf_cons (shok_73 ok_yy0) cf_nil)
  have hlf : LfOk (R := R) C_yy2 59 (lf_yy2 yy0 (yy2_l3 kf kf)) := (lf_top (lf_cons (lok_yy2_l3 kf kf) lf_nil))
  intro v1 K r h
  exact run_good t_yy2 hcf hlf ((eq_yy2 yy0 (yy2_l3 kf kf) v1 K).trans h)
theorem t_yy60 : textOk C_yy60.bef Tryd.prog 60 = true := by kernel_rfl
theorem ok_yy60 {R : Type} : Ok_yy60 (R := R) (yy60) := by
  have hcf : CfOk (R := R) Tryd.prog glob raw (cf_yy60) := (cf_cons (pok_74) cf_nil)
  have hlf : LfOk (R := R) C_yy60 60 (lf_yy60) := lf_none
  intro v1 K r h
  exact run_good t_yy60 hcf hlf ((eq_yy60 v1 K).trans h)
theorem t_yy63 : textOk C_yy63.bef Tryd.prog 41 = true := by kernel_rfl
theorem sln_yy63_l9 {R : Type} : SlOk (R := R) C_yy63 41 77 1 9 (sl_yy63_l9 (fun _ _ _ _ _ => none)) := by
  intro vs es K r h
  unfold sl_yy63_l9 at h
  split at h <;> exact no_some h
theorem sln_yy63_l11 {R : Type} : SlOk (R := R) C_yy63 41 77 1 11 (sl_yy63_l11 (fun _ _ _ _ _ _ => none)) := by
  intro vs es K r h
  unfold sl_yy63_l11 at h
  split at h <;> exact no_some h
theorem lok_yy63_l11 {R : Type} (kf : Nat) : ∀ n, SlOk (R := R) C_yy63 41 77 1 11 (sl_yy63_l11 (yy63_l11 kf n)) := by
  intro n
  induction n with
  | zero =>
    intro vs es K r h
    unfold sl_yy63_l11 at h
    split at h <;> exact no_some h
  | succ k ih =>
    have hcf : CfOk (R := R) Tryd.prog glob raw (cf_yy63 (yy2 kf) yy61 yy60 (fun _ _ _ _ _ => none) (yy63_l11 kf k)) := (cf_cons (shok_59 (ok_yy2 kf)) (cf_cons (shok_40 ok_yy61) (cf_cons (shok_60 ok_yy60) cf_nil)))
    have hlf : LfOk (R := R) C_yy63 41 (lf_yy63 (yy2 kf) yy61 yy60 (fun _ _ _ _ _ => none) (yy63_l11 kf k)) := (lf_top (lf_cons (sln_yy63_l9) (lf_cons ih lf_nil)))
    intro vs es K r h
    unfold sl_yy63_l11 at h
    split at h
    · exact loop_good (text_mixed t_yy63) hcf hlf (text_loop t_yy63 11).1 (text_loop t_yy63 11).2 ((eq_yy63_l11 (yy2 kf) yy61 yy60 (fun _ _ _ _ _ => none) (yy63_l11 kf k) _ _ _ _ _ K).trans h)
    · exact no_some h
theorem lok_yy63_l9 {R : Type} (kf : Nat) : ∀ n, SlOk (R := R) C_yy63 41 77 1 9 (sl_yy63_l9 (yy63_l9 kf n)) := by
  intro n
  induction n with
  | zero =>
    intro vs es K r h
    unfold sl_yy63_l9 at h
    split at h <;> exact no_some h
  | succ k ih =>
    have hcf : CfOk (R := R) Tryd.prog glob raw (cf_yy63 (yy2 kf) yy61 yy60 (yy63_l9 kf k) (yy63_l11 kf k)) := (cf_cons (shok_59 (ok_yy2 kf)) (cf_cons (shok_40 ok_yy61) (cf_cons (shok_60 ok_yy60) cf_nil)))
    have hlf : LfOk (R := R) C_yy63 41 (lf_yy63 (yy2 kf) yy61 yy60 (yy63_l9 kf k) (yy63_l11 kf k)) := (lf_top (lf_cons ih (lf_cons (lok_yy63_l11 kf k) lf_nil)))
    intro vs es K r h
    unfold sl_yy63_l9 at h
    split at h
    · exact loop_good (text_mixed t_yy63) hcf hlf (text_loop t_yy63 9).1 (text_loop t_yy63 9).2 ((eq_yy63_l9 (yy2 kf) yy61 yy60 (yy63_l9 kf k) (yy63_l11 kf k) _ _ _ _ K).trans h)
    · exact no_some h
theorem ok_yy63 {R : Type} (kf : Nat) : Ok_yy63 (R := R) (yy63 kf) := by
  have hcf : CfOk (R := R) Tryd.prog glob raw (cf_yy63 (yy2 kf) yy61 yy60 (yy63_l9 kf kf) (yy63_l11 kf kf)) := (cf_cons (shok_59 (ok_yy2 kf)) (cf_cons (shok_40 ok_yy61) (cf_cons (shok_60 ok_yy60) cf_nil)))
  have hlf : LfOk (R := R) C_yy63 41 (lf_yy63 (yy2 kf) yy61 yy60 (yy63_l9 kf kf) (yy63_l11 kf kf)) := (lf_top (lf_cons (lok_yy63_l9 kf kf) (lf_cons (lok_yy63_l11 kf kf) lf_nil)))
  intro v1 v2 v3 K r h
  exact run_good t_yy63 hcf hlf ((eq_yy63 (yy2 kf) yy61 yy60 (yy63_l9 kf kf) (yy63_l11 kf kf) v1 v2 v3 K).trans h)
theorem t_yy64 : textOk C_yy64.bef Tryd.prog 42 = true := by kernel_rfl
theorem ok_yy64 {R : Type} {c_yy62 : T15 R} (h_yy62 : Ok_yy62 c_yy62) (kf : Nat) : Ok_yy64 (R := R) (yy64 c_yy62 kf) := by
  have hcf : CfOk (R := R) Tryd.prog glob raw (cf_yy64 (yy68 kf) c_yy62 yy61) := (cf_cons (shok_55 (ok_yy68 kf)) (cf_cons (shok_26 h_yy62) (cf_cons (shok_40 ok_yy61) cf_nil)))
  have hlf : LfOk (R := R) C_yy64 42 (lf_yy64 (yy68 kf) c_yy62 yy61) := lf_none
  intro v1 v2 v3 v4 v5 v6 K r h
  exact run_good t_yy64 hcf hlf ((eq_yy64 (yy68 kf) c_yy62 yy61 v1 v2 v3 v4 v5 v6 K).trans h)
theorem t_yy62 : textOk C_yy62.bef Tryd.prog 26 = true := by kernel_rfl
theorem sln_yy62_l11 {R : Type} : SlOk (R := R) C_yy62 26 74 1 11 (sl_yy62_l11 (fun _ _ _ _ _ _ => none)) := by
  intro vs es K r h
  unfold sl_yy62_l11 at h
  split at h <;> exact no_some h
theorem sln_yy62_l17 {R : Type} : SlOk (R := R) C_yy62 26 74 1 17 (sl_yy62_l17 (fun _ _ _ _ _ _ => none)) := by
  intro vs es K r h
  unfold sl_yy62_l17 at h
  split at h <;> exact no_some h
theorem lok_yy62_l11 {R : Type} {c_self : T15 R} (hs : Ok_yy62 c_self) (kf : Nat) : ∀ n, SlOk (R := R) C_yy62 26 74 1 11 (sl_yy62_l11 (yy62_l11 c_self kf n)) := by
  intro n
  induction n with
  | zero =>
    intro vs es K r h
    unfold sl_yy62_l11 at h
    split at h <;> exact no_some h
  | succ k ih =>
    have hcf : CfOk (R := R) Tryd.prog glob raw (cf_yy62 yy61 (yy63 kf) (yy64 c_self kf) c_self (yy62_l11 c_self kf k) (fun _ _ _ _ _ _ => none)) := (cf_cons (shok_40 ok_yy61) (cf_cons (shok_41 (ok_yy63 kf)) (cf_cons (shok_42 (ok_yy64 hs kf)) (cf_cons (shok_26 hs) cf_nil))))
    have hlf : LfOk (R := R) C_yy62 26 (lf_yy62 yy61 (yy63 kf) (yy64 c_self kf) c_self (yy62_l11 c_self kf k) (fun _ _ _ _ _ _ => none)) := (lf_top (lf_cons ih (lf_cons (sln_yy62_l17) lf_nil)))
    intro vs es K r h
    unfold sl_yy62_l11 at h
    split at h
    · exact loop_good (text_mixed t_yy62) hcf hlf (text_loop t_yy62 11).1 (text_loop t_yy62 11).2 ((eq_yy62_l11 yy61 (yy63 kf) (yy64 c_self kf) c_self (yy62_l11 c_self kf k) (fun _ _ _ _ _ _ => none) _ _ _ _ _ K).trans h)
    · exact no_some h
theorem lok_yy62_l17 {R : Type} {c_self : T15 R} (hs : Ok_yy62 c_self) (kf : Nat) : ∀ n, SlOk (R := R) C_yy62 26 74 1 17 (sl_yy62_l17 (yy62_l17 c_self kf n)) := by
  intro n
  induction n with
  | zero =>
    intro vs es K r h
    unfold sl_yy62_l17 at h
    split at h <;> exact no_some h
  | succ k ih =>
    have hcf : CfOk (R := R) Tryd.prog glob raw (cf_yy62 yy61 (yy63 kf) (yy64 c_self kf) c_self (yy62_l11 c_self kf k) (yy62_l17 c_self kf k)) := (cf_cons (shok_40 ok_yy61) (cf_cons (shok_41 (ok_yy63 kf)) (cf_cons (shok_42 (ok_yy64 hs kf)) (cf_cons (shok_26 hs) cf_nil))))
    have hlf : LfOk (R := R) C_yy62 26 (lf_yy62 yy61 (yy63 kf) (yy64 c_self kf) c_self (yy62_l11 c_self kf k) (yy62_l17 c_self kf k)) := (lf_top (lf_cons (lok_yy62_l11 hs kf k) (lf_cons ih lf_nil)))
    intro vs es K r h
    unfold sl_yy62_l17 at h
    split at h
    · exact loop_good (text_mixed t_yy62) hcf hlf (text_loop t_yy62 17).1 (text_loop t_yy62 17).2 ((eq_yy62_l17 yy61 (yy63 kf) (yy64 c_self kf) c_self (yy62_l11 c_self kf k) (yy62_l17 c_self kf k) _ _ _ _ _ K).trans h)
    · exact no_some h
theorem ok_yy62 {R : Type} : ∀ kf, Ok_yy62 (R := R) (yy62 kf) := by
  intro kf
  induction kf with
  | zero =>
    intro v1 v2 v3 v4 v5 K r h
    exact no_some h
  | succ kf hs =>
    have hcf : CfOk (R := R) Tryd.prog glob raw (cf_yy62 yy61 (yy63 kf) (yy64 (yy62 kf) kf) (yy62 kf) (yy62_l11 (yy62 kf) kf kf) (yy62_l17 (yy62 kf) kf kf)) := (cf_cons (shok_40 ok_yy61) (cf_cons (shok_41 (ok_yy63 kf)) (cf_cons (shok_42 (ok_yy64 hs kf)) (cf_cons (shok_26 hs) cf_nil))))
    have hlf : LfOk (R := R) C_yy62 26 (lf_yy62 yy61 (yy63 kf) (yy64 (yy62 kf) kf) (yy62 kf) (yy62_l11 (yy62 kf) kf kf) (yy62_l17 (yy62 kf) kf kf)) := (lf_top (lf_cons (lok_yy62_l11 hs kf kf) (lf_cons (lok_yy62_l17 hs kf kf) lf_nil)))
    intro v1 v2 v3 v4 v5 K r h
    exact run_good t_yy62 hcf hlf ((eq_yy62 yy61 (yy63 kf) (yy64 (yy62 kf) kf) (yy62 kf) (yy62_l11 (yy62 kf) kf kf) (yy62_l17 (yy62 kf) kf kf) v1 v2 v3 v4 v5 K).trans h)
theorem t_yy59 : textOk C_yy59.bef Tryd.prog 12 = true := by kernel_rfl
theorem ok_yy59 {R : Type} (kf : Nat) : Ok_yy59 (R := R) (yy59 kf) := by
  have hcf : CfOk (R := R) Tryd.prog glob raw (cf_yy59 (yy53 kf) (yy62 kf)) := (cf_cons (shok_25 (ok_yy53 kf)) (cf_cons (shok_26 (ok_yy62 kf)) cf_nil))
  have hlf : LfOk (R := R) C_yy59 12 (lf_yy59 (yy53 kf) (yy62 kf)) := lf_none
  intro v1 v2 v3 K r h
  exact run_good t_yy59 hcf hlf ((eq_yy59 (yy53 kf) (yy62 kf) v1 v2 v3 K).trans h)
theorem t_yy6 : textOk C_yy6.bef Tryd.prog 9 = true := by kernel_rfl
theorem ok_yy6 {R : Type} (kf : Nat) : Ok_yy6 (R := R) (yy6 kf) := by
  have hcf : CfOk (R := R) Tryd.prog glob raw (cf_yy6 (yy17 kf) yy23 (yy35 kf) (yy59 kf) yy28) := (cf_cons (shok_20 (ok_yy17 kf)) (cf_cons (shok_18 ok_yy23) (cf_cons (shok_21 (ok_yy35 kf)) (cf_cons (shok_12 (ok_yy59 kf)) (cf_cons (shok_22 ok_yy28) cf_nil)))))
  have hlf : LfOk (R := R) C_yy6 9 (lf_yy6 (yy17 kf) yy23 (yy35 kf) (yy59 kf) yy28) := lf_none
  intro K r h
  exact run_good t_yy6 hcf hlf ((eq_yy6 (yy17 kf) yy23 (yy35 kf) (yy59 kf) yy28 K).trans h)
theorem t_yy8 : textOk C_yy8.bef Tryd.prog 15 = true := by kernel_rfl
theorem ok_yy8 {R : Type} : Ok_yy8 (R := R) (yy8) := by
  have hcf : CfOk (R := R) Tryd.prog glob raw (cf_yy8) := cf_nil
  have hlf : LfOk (R := R) C_yy8 15 (lf_yy8) := lf_none
  intro v1 K r h
  exact run_good t_yy8 hcf hlf ((eq_yy8 v1 K).trans h)
theorem t_yy11 : textOk C_yy11.bef Tryd.prog 45 = true := by kernel_rfl
theorem ok_yy11 {R : Type} : Ok_yy11 (R := R) (yy11) := by
  have hcf : CfOk (R := R) Tryd.prog glob raw (cf_yy11) := cf_nil
  have hlf : LfOk (R := R) C_yy11 45 (lf_yy11) := lf_none
  intro v1 v2 v3 K r h
  exact run_good t_yy11 hcf hlf ((eq_yy11 v1 v2 v3 K).trans h)
theorem t_yy12 : textOk C_yy12.bef Tryd.prog 46 = true := by kernel_rfl
theorem ok_yy12 {R : Type} : Ok_yy12 (R := R) (yy12) := by
  have hcf : CfOk (R := R) Tryd.prog glob raw (cf_yy12) := cf_nil
  have hlf : LfOk (R := R) C_yy12 46 (lf_yy12) := lf_none
  intro v1 v2 K r h
  exact run_good t_yy12 hcf hlf ((eq_yy12 v1 v2 K).trans h)
theorem t_yy21 : textOk C_yy21.bef Tryd.prog 34 = true := by kernel_rfl
theorem sln_yy21_l3 {R : Type} : SlOk (R := R) C_yy21 34 19 0 3 (sl_yy21_l3 (fun _ _ _ _ _ => none)) := by
  intro vs es K r h
  unfold sl_yy21_l3 at h
  split at h <;> exact no_some h
theorem lok_yy21_l3 {R : Type} (kf : Nat) : ∀ n, SlOk (R := R) C_yy21 34 19 0 3 (sl_yy21_l3 (yy21_l3 kf n)) := by
  intro n
  induction n with
  | zero =>
    intro vs es K r h
    unfold sl_yy21_l3 at h
    split at h <;> exact no_some h
  | succ k ih =>
    have hcf : CfOk (R := R) Tryd.prog glob raw (cf_yy21 (yy17 kf) (yy21_l3 kf k)) := (cf_cons (shok_20 (ok_yy17 kf)) cf_nil)
    have hlf : LfOk (R := R) C_yy21 34 (lf_yy21 (yy17 kf) (yy21_l3 kf k)) := (lf_top (lf_cons ih lf_nil))
    intro vs es K r h
    unfold sl_yy21_l3 at h
    split at h
    · exact loop_good (text_mixed t_yy21) hcf hlf (text_loop t_yy21 3).1 (text_loop t_yy21 3).2 ((eq_yy21_l3 (yy17 kf) (yy21_l3 kf k) _ _ _ _ K).trans h)
    · exact no_some h
theorem ok_yy21 {R : Type} (kf : Nat) : Ok_yy21 (R := R) (yy21 kf) := by
  have hcf : CfOk (R := R) Tryd.prog glob raw (cf_yy21 (yy17 kf) (yy21_l3 kf kf)) := (cf_cons (shok_20 (ok_yy17 kf)) cf_nil)
  have hlf : LfOk (R := R) C_yy21 34 (lf_yy21 (yy17 kf) (yy21_l3 kf kf)) := (lf_top (lf_cons (lok_yy21_l3 kf kf) lf_nil))
  intro v1 K r h
  exact run_good t_yy21 hcf hlf ((eq_yy21 (yy17 kf) (yy21_l3 kf kf) v1 K).trans h)
theorem t_yy19 : textOk C_yy19.bef Tryd.prog 19 = true := by kernel_rfl
theorem sln_yy19_l3 {R : Type} : SlOk (R := R) C_yy19 19 19 0 3 (sl_yy19_l3 (fun _ _ _ _ _ => none)) := by
  intro vs es K r h
  unfold sl_yy19_l3 at h
  split at h <;> exact no_some h
theorem lok_yy19_l3 {R : Type} (kf : Nat) : ∀ n, SlOk (R := R) C_yy19 19 19 0 3 (sl_yy19_l3 (yy19_l3 kf n)) := by
  intro n
  induction n with
  | zero =>
    intro vs es K r h
    unfold sl_yy19_l3 at h
    split at h <;> exact no_some h
  | succ k ih =>
    have hcf : CfOk (R := R) Tryd.prog glob raw (cf_yy19 (yy21 kf) (yy19_l3 kf k)) := (cf_cons (shok_34 (ok_yy21 kf)) cf_nil)
    have hlf : LfOk (R := R) C_yy19 19 (lf_yy19 (yy21 kf) (yy19_l3 kf k)) := (lf_top (lf_cons ih lf_nil))
    intro vs es K r h
    unfold sl_yy19_l3 at h
    split at h
    · exact loop_good (text_mixed t_yy19) hcf hlf (text_loop t_yy19 3).1 (text_loop t_yy19 3).2 ((eq_yy19_l3 (yy21 kf) (yy19_l3 kf k) _ _ _ _ K).trans h)
    · exact no_some h
theorem ok_yy19 {R : Type} (kf : Nat) : Ok_yy19 (R := R) (yy19 kf) := by
  have hcf : CfOk (R := R) Tryd.prog glob raw (cf_yy19 (yy21 kf) (yy19_l3 kf kf)) := (cf_cons (shok_34 (ok_yy21 kf)) cf_nil)
  have hlf : LfOk (R := R) C_yy19 19 (lf_yy19 (yy21 kf) (yy19_l3 kf kf)) := (lf_top (lf_cons (lok_yy19_l3 kf kf) lf_nil))
  intro v1 v2 K r h
  exact run_good t_yy19 hcf hlf ((eq_yy19 (yy21 kf) (yy19_l3 kf kf) v1 v2 K).trans h)
theorem t_yy16 : textOk C_yy16.bef Tryd.prog 63 = true := by kernel_rfl
theorem sln_yy16_l3 {R : Type} : SlOk (R := R) C_yy16 63 18 0 3 (sl_yy16_l3 (fun _ _ _ _ _ => none)) := by
  intro vs es K r h
  unfold sl_yy16_l3 at h
  split at h <;> exact no_some h
theorem lok_yy16_l3 {R : Type} (kf : Nat) : ∀ n, SlOk (R := R) C_yy16 63 18 0 3 (sl_yy16_l3 (yy16_l3 kf n)) := by
  intro n
  induction n with
  | zero =>
    intro vs es K r h
    unfold sl_yy16_l3 at h
    split at h <;> exact no_some h
  | succ k ih =>
    have hcf : CfOk (R := R) Tryd.prog glob raw (cf_yy16 yy14 (yy21 kf) (yy16_l3 kf k)) := (cf_cons (shok_75 ok_yy14) (cf_cons (shok_34 (ok_yy21 kf)) cf_nil))
    have hlf : LfOk (R := R) C_yy16 63 (lf_yy16 yy14 (yy21 kf) (yy16_l3 kf k)) := (lf_top (lf_cons ih lf_nil))
    intro vs es K r h
    unfold sl_yy16_l3 at h
    split at h
    · exact loop_good (text_mixed t_yy16) hcf hlf (text_loop t_yy16 3).1 (text_loop t_yy16 3).2 ((eq_yy16_l3 yy14 (yy21 kf) (yy16_l3 kf k) _ _ _ _ K).trans h)
    · exact no_some h
theorem ok_yy16 {R : Type} (kf : Nat) : Ok_yy16 (R := R) (yy16 kf) := by
  have hcf : CfOk (R := R) Tryd.prog glob raw (cf_yy16 yy14 (yy21 kf) (yy16_l3 kf kf)) := (cf_cons (shok_75 ok_yy14) (cf_cons (shok_34 (ok_yy21 kf)) cf_nil))
  have hlf : LfOk (R := R) C_yy16 63 (lf_yy16 yy14 (yy21 kf) (yy16_l3 kf kf)) := (lf_top (lf_cons (lok_yy16_l3 kf kf) lf_nil))
  intro v1 K r h
  exact run_good t_yy16 hcf hlf ((eq_yy16 yy14 (yy21 kf) (yy16_l3 kf kf) v1 K).trans h)
theorem t_yy10 : textOk C_yy10.bef Tryd.prog 47 = true := by kernel_rfl
theorem ok_yy10 {R : Type} (kf : Nat) : Ok_yy10 (R := R) (yy10 kf) := by
  have hcf : CfOk (R := R) Tryd.prog glob raw (cf_yy10 yy11 (yy19 kf) (yy17 kf) (yy16 kf)) := (cf_cons (shok_45 ok_yy11) (cf_cons (shok_19 (ok_yy19 kf)) (cf_cons (shok_20 (ok_yy17 kf)) (cf_cons (shok_63 (ok_yy16 kf)) cf_nil))))
  have hlf : LfOk (R := R) C_yy10 47 (lf_yy10 yy11 (yy19 kf) (yy17 kf) (yy16 kf)) := lf_none
  intro v1 v2 K r h
  exact run_good t_yy10 hcf hlf ((eq_yy10 yy11 (yy19 kf) (yy17 kf) (yy16 kf) v1 v2 K).trans h)
theorem t_yy24 : textOk C_yy24.bef Tryd.prog 43 = true := by kernel_rfl
theorem sln_yy24_l4 {R : Type} : SlOk (R := R) C_yy24 43 47 0 4 (sl_yy24_l4 (fun _ _ _ _ _ _ _ _ => none)) := by
  intro vs es K r h
  unfold sl_yy24_l4 at h
  split at h <;> exact no_some h
theorem lok_yy24_l4 {R : Type} (kf : Nat) : ∀ n, SlOk (R := R) C_yy24 43 47 0 4 (sl_yy24_l4 (yy24_l4 kf n)) := by
  intro n
  induction n with
  | zero =>
    intro vs es K r h
    unfold sl_yy24_l4 at h
    split at h <;> exact no_some h
  | succ k ih =>
    have hcf : CfOk (R := R) Tryd.prog glob raw (cf_yy24 (yy36 kf) yy32 (yy26 kf) yy28 (yy24_l4 kf k)) := (cf_cons (shok_51 (ok_yy36 kf)) (cf_cons (shok_33 ok_yy32) (cf_cons (shok_11 (ok_yy26 kf)) (cf_cons (shok_22 ok_yy28) cf_nil))))
    have hlf : LfOk (R := R) C_yy24 43 (lf_yy24 (yy36 kf) yy32 (yy26 kf) yy28 (yy24_l4 kf k)) := (lf_top (lf_cons ih lf_nil))
    intro vs es K r h
    unfold sl_yy24_l4 at h
    split at h
    · exact loop_good (text_mixed t_yy24) hcf hlf (text_loop t_yy24 4).1 (text_loop t_yy24 4).2 ((eq_yy24_l4 (yy36 kf) yy32 (yy26 kf) yy28 (yy24_l4 kf k) _ _ _ _ _ _ K).trans h)
    · exact no_some h
theorem ok_yy24 {R : Type} (kf : Nat) : Ok_yy24 (R := R) (yy24 kf) := by
  have hcf : CfOk (R := R) Tryd.prog glob raw (cf_yy24 (yy36 kf) yy32 (yy26 kf) yy28 (yy24_l4 kf kf)) := (cf_cons (shok_51 (ok_yy36 kf)) (cf_cons (shok_33 ok_yy32) (cf_cons (shok_11 (ok_yy26 kf)) (cf_cons (shok_22 ok_yy28) cf_nil))))
  have hlf : LfOk (R := R) C_yy24 43 (lf_yy24 (yy36 kf) yy32 (yy26 kf) yy28 (yy24_l4 kf kf)) := (lf_top (lf_cons (lok_yy24_l4 kf kf) lf_nil))
  intro v1 K r h
  exact run_good t_yy24 hcf hlf ((eq_yy24 (yy36 kf) yy32 (yy26 kf) yy28 (yy24_l4 kf kf) v1 K).trans h)
theorem t_yy13 : textOk C_yy13.bef Tryd.prog 29 = true := by kernel_rfl
theorem ok_yy13 {R : Type} : ∀ kf, Ok_yy13 (R := R) (yy13 kf) := by
  intro kf
  induction kf with
  | zero =>
    intro v1 v2 v3 K r h
    exact no_some h
  | succ kf hs =>
    have hcf : CfOk (R := R) Tryd.prog glob raw (cf_yy13 yy11 yy12 (yy10 kf) yy23 yy32 yy28 (yy13 kf) (yy24 kf) (yy22 kf) (yy35 kf)) := (cf_cons (shok_45 ok_yy11) (cf_cons (shok_46 ok_yy12) (cf_cons (shok_47 (ok_yy10 kf)) (cf_cons (shok_18 ok_yy23) (cf_cons (shok_33 ok_yy32) (cf_cons (shok_22 ok_yy28) (cf_cons (shok_29 hs) (cf_cons (shok_43 (ok_yy24 kf)) (cf_cons (shok_35 (ok_yy22 kf)) (cf_cons (shok_21 (ok_yy35 kf)) cf_nil))))))))))
    have hlf : LfOk (R := R) C_yy13 29 (lf_yy13 yy11 yy12 (yy10 kf) yy23 yy32 yy28 (yy13 kf) (yy24 kf) (yy22 kf) (yy35 kf)) := lf_none
    intro v1 v2 v3 K r h
    exact run_good t_yy13 hcf hlf ((eq_yy13 yy11 yy12 (yy10 kf) yy23 yy32 yy28 (yy13 kf) (yy24 kf) (yy22 kf) (yy35 kf) v1 v2 v3 K).trans h)
theorem t_yy9 : textOk C_yy9.bef Tryd.prog 16 = true := by kernel_rfl
theorem ok_yy9 {R : Type} (kf : Nat) : Ok_yy9 (R := R) (yy9 kf) := by
  have hcf : CfOk (R := R) Tryd.prog glob raw (cf_yy9 (yy13 kf)) := (cf_cons (shok_29 (ok_yy13 kf)) cf_nil)
  have hlf : LfOk (R := R) C_yy9 16 (lf_yy9 (yy13 kf)) := lf_none
  intro v1 v2 K r h
  exact run_good t_yy9 hcf hlf ((eq_yy9 (yy13 kf) v1 v2 K).trans h)
theorem t_yy49 : textOk C_yy49.bef Tryd.prog 31 = true := by kernel_rfl
theorem ok_yy49 {R : Type} : Ok_yy49 (R := R) (yy49) := by
  have hcf : CfOk (R := R) Tryd.prog glob raw (cf_yy49) := cf_nil
  have hlf : LfOk (R := R) C_yy49 31 (lf_yy49) := lf_none
  intro v1 v2 v3 v4 v5 K r h
  exact run_good t_yy49 hcf hlf ((eq_yy49 v1 v2 v3 v4 v5 K).trans h)
theorem t_yy48 : textOk C_yy48.bef Tryd.prog 64 = true := by kernel_rfl
theorem ok_yy48 {R : Type} : Ok_yy48 (R := R) (yy48) := by
  have hcf : CfOk (R := R) Tryd.prog glob raw (cf_yy48) := cf_nil
  have hlf : LfOk (R := R) C_yy48 64 (lf_yy48) := lf_none
  intro v1 v2 v3 v4 v5 K r h
  exact run_good t_yy48 hcf hlf ((eq_yy48 v1 v2 v3 v4 v5 K).trans h)
theorem t_yy46 : textOk C_yy46.bef Tryd.prog 48 = true := by kernel_rfl
theorem ok_yy46 {R : Type} : Ok_yy46 (R := R) (yy46) := by
  have hcf : CfOk (R := R) Tryd.prog glob raw (cf_yy46 yy48) := (cf_cons (shok_64 ok_yy48) cf_nil)
  have hlf : LfOk (R := R) C_yy46 48 (lf_yy46 yy48) := lf_none
  intro v1 v2 v3 v4 v5 v6 K r h
  exact run_good t_yy46 hcf hlf ((eq_yy46 yy48 v1 v2 v3 v4 v5 v6 K).trans h)
theorem t_yy40 : textOk C_yy40.bef Tryd.prog 76 = true := by kernel_rfl
theorem sln_yy40_l2 {R : Type} : SlOk (R := R) C_yy40 76 17 0 2 (sl_yy40_l2 (fun _ _ _ _ _ => none)) := by
  intro vs es K r h
  unfold sl_yy40_l2 at h
  split at h <;> exact no_some h
theorem lok_yy40_l2 {R : Type} (kf : Nat) : ∀ n, SlOk (R := R) C_yy40 76 17 0 2 (sl_yy40_l2 (yy40_l2 kf n)) := by
  intro n
  induction n with
  | zero =>
    intro vs es K r h
    unfold sl_yy40_l2 at h
    split at h <;> exact no_some h
  | succ k ih =>
    have hcf : CfOk (R := R) Tryd.prog glob raw (cf_yy40 (yy40_l2 kf k)) := cf_nil
    have hlf : LfOk (R := R) C_yy40 76 (lf_yy40 (yy40_l2 kf k)) := (lf_top (lf_cons ih lf_nil))
    intro vs es K r h
    unfold sl_yy40_l2 at h
    split at h
    · exact loop_good (text_mixed t_yy40) hcf hlf (text_loop t_yy40 2).1 (text_loop t_yy40 2).2 ((eq_yy40_l2 (yy40_l2 kf k) _ _ _ K).trans h)
    · exact no_some h
theorem ok_yy40 {R : Type} (kf : Nat) : Ok_yy40 (R := R) (yy40 kf) := by
  have hcf : CfOk (R := R) Tryd.prog glob raw (cf_yy40 (yy40_l2 kf kf)) := cf_nil
  have hlf : LfOk (R := R) C_yy40 76 (lf_yy40 (yy40_l2 kf kf)) := (lf_top (lf_cons (lok_yy40_l2 kf kf) lf_nil))
  intro v1 v2 K r h
  exact run_good t_yy40 hcf hlf ((eq_yy40 (yy40_l2 kf kf) v1 v2 K).trans h)
theorem t_yy45 : textOk C_yy45.bef Tryd.prog 32 = true := by kernel_rfl
theorem ok_yy45 {R : Type} : Ok_yy45 (R := R) (yy45) := by
  have hcf : CfOk (R := R) Tryd.prog glob raw (cf_yy45 yy49) := (cf_cons (shok_31 ok_yy49) cf_nil)
  have hlf : LfOk (R := R) C_yy45 32 (lf_yy45 yy49) := lf_none
  intro v1 v2 v3 v4 v5 v6 K r h
  exact run_good t_yy45 hcf hlf ((eq_yy45 yy49 v1 v2 v3 v4 v5 v6 K).trans h)
theorem t_yy39 : textOk C_yy39.bef Tryd.prog 85 = true := by kernel_rfl
theorem ok_yy39 {R : Type} : Ok_yy39 (R := R) (yy39) := by
  have hcf : CfOk (R := R) Tryd.prog glob raw (cf_yy39) := cf_nil
  have hlf : LfOk (R := R) C_yy39 85 (lf_yy39) := lf_none
  intro v1 K r h
  exact run_good t_yy39 hcf hlf ((eq_yy39 v1 K).trans h)
theorem t_yy44 : textOk C_yy44.bef Tryd.prog 83 = true := by kernel_rfl
theorem sln_yy44_l11 {R : Type} : SlOk (R := R) C_yy44 83 87 1 11 (sl_yy44_l11 (fun _ _ _ _ _ _ _ _ _ => none)) := by
  intro vs es K r h
  unfold sl_yy44_l11 at h
  split at h <;> exact no_some h
theorem lok_yy44_l11 {R : Type} (kf : Nat) : ∀ n, SlOk (R := R) C_yy44 83 87 1 11 (sl_yy44_l11 (yy44_l11 kf n)) := by
  intro n
  induction n with
  | zero =>
    intro vs es K r h
    unfold sl_yy44_l11 at h
    split at h <;> exact no_some h
  | succ k ih =>
    have hcf : CfOk (R := R) Tryd.prog glob raw (cf_yy44 yy48 (yy40 kf) yy45 yy39 (yy44_l11 kf k)) := (cf_cons (shok_64 ok_yy48) (cf_cons (shok_76 (ok_yy40 kf)) (cf_cons (shok_32 ok_yy45) (cf_cons (shok_85 ok_yy39) cf_nil))))
    have hlf : LfOk (R := R) C_yy44 83 (lf_yy44 yy48 (yy40 kf) yy45 yy39 (yy44_l11 kf k)) := (lf_top (lf_cons ih lf_nil))
    intro vs es K r h
    unfold sl_yy44_l11 at h
    split at h
    · exact loop_good (text_mixed t_yy44) hcf hlf (text_loop t_yy44 11).1 (text_loop t_yy44 11).2 ((eq_yy44_l11 yy48 (yy40 kf) yy45 yy39 (yy44_l11 kf k) _ _ _ _ _ _ _ K).trans h)
    · exact no_some h
theorem ok_yy44 {R : Type} (kf : Nat) : Ok_yy44 (R := R) (yy44 kf) := by
  have hcf : CfOk (R := R) Tryd.prog glob raw (cf_yy44 yy48 (yy40 kf) yy45 yy39 (yy44_l11 kf kf)) := (cf_cons (shok_64 ok_yy48) (cf_cons (shok_76 (ok_yy40 kf)) (cf_cons (shok_32 ok_yy45) (cf_cons (shok_85 ok_yy39) cf_nil))))
  have hlf : LfOk (R := R) C_yy44 83 (lf_yy44 yy48 (yy40 kf) yy45 yy39 (yy44_l11 kf kf)) := (lf_top (lf_cons (lok_yy44_l11 kf kf) lf_nil))
  intro v1 v2 v3 v4 v5 K r h
  exact run_good t_yy44 hcf hlf ((eq_yy44 yy48 (yy40 kf) yy45 yy39 (yy44_l11 kf kf) v1 v2 v3 v4 v5 K).trans h)
theorem t_yy51 : textOk C_yy51.bef Tryd.prog 78 = true := by kernel_rfl
theorem ok_yy51 {R : Type} (kf : Nat) : Ok_yy51 (R := R) (yy51 kf) := by
  have hcf : CfOk (R := R) Tryd.prog glob raw (cf_yy51 yy48 (yy44 kf) (yy40 kf) yy45) := (cf_cons (shok_64 ok_yy48) (cf_cons (shok_83 (ok_yy44 kf)) (cf_cons (shok_76 (ok_yy40 kf)) (cf_cons (shok_32 ok_yy45) cf_nil))))
  have hlf : LfOk (R := R) C_yy51 78 (lf_yy51 yy48 (yy44 kf) (yy40 kf) yy45) := lf_none
  intro v1 v2 v3 v4 v5 v6 K r h
  exact run_good t_yy51 hcf hlf ((eq_yy51 yy48 (yy44 kf) (yy40 kf) yy45 v1 v2 v3 v4 v5 v6 K).trans h)
theorem t_yy43 : textOk C_yy43.bef Tryd.prog 77 = true := by kernel_rfl
theorem sln_yy43_l6 {R : Type} : SlOk (R := R) C_yy43 77 79 1 6 (sl_yy43_l6 (fun _ _ _ _ _ _ _ _ _ _ _ => none)) := by
  intro vs es K r h
  unfold sl_yy43_l6 at h
  split at h <;> exact no_some h
theorem lok_yy43_l6 {R : Type} (kf : Nat) : ∀ n, SlOk (R := R) C_yy43 77 79 1 6 (sl_yy43_l6 (yy43_l6 kf n)) := by
  intro n
  induction n with
  | zero =>
    intro vs es K r h
    unfold sl_yy43_l6 at h
    split at h <;> exact no_some h
  | succ k ih =>
    have hcf : CfOk (R := R) Tryd.prog glob raw (cf_yy43 yy46 yy49 (yy51 kf) yy45 (yy19 kf) (yy18 kf) (yy16 kf) yy23 (yy43_l6 kf k)) := (cf_cons (shok_48 ok_yy46) (cf_cons (shok_31 ok_yy49) (cf_cons (shok_78 (ok_yy51 kf)) (cf_cons (shok_32 ok_yy45) (cf_cons (shok_19 (ok_yy19 kf)) (cf_cons (shok_52 (ok_yy18 kf)) (cf_cons (shok_63 (ok_yy16 kf)) (cf_cons (shok_18 ok_yy23) cf_nil))))))))
    have hlf : LfOk (R := R) C_yy43 77 (lf_yy43 yy46 yy49 (yy51 kf) yy45 (yy19 kf) (yy18 kf) (yy16 kf) yy23 (yy43_l6 kf k)) := (lf_top (lf_cons ih lf_nil))
    intro vs es K r h
    unfold sl_yy43_l6 at h
    split at h
    · exact loop_good (text_mixed t_yy43) hcf hlf (text_loop t_yy43 6).1 (text_loop t_yy43 6).2 ((eq_yy43_l6 yy46 yy49 (yy51 kf) yy45 (yy19 kf) (yy18 kf) (yy16 kf) yy23 (yy43_l6 kf k) _ _ _ _ _ _ _ _ _ _ K).trans h)
    · exact no_some h
theorem ok_yy43 {R : Type} (kf : Nat) : Ok_yy43 (R := R) (yy43 kf) := by
  have hcf : CfOk (R := R) Tryd.prog glob raw (cf_yy43 yy46 yy49 (yy51 kf) yy45 (yy19 kf) (yy18 kf) (yy16 kf) yy23 (yy43_l6 kf kf)) := (cf_cons (shok_48 ok_yy46) (cf_cons (shok_31 ok_yy49) (cf_cons (shok_78 (ok_yy51 kf)) (cf_cons (shok_32 ok_yy45) (cf_cons (shok_19 (ok_yy19 kf)) (cf_cons (shok_52 (ok_yy18 kf)) (cf_cons (shok_63 (ok_yy16 kf)) (cf_cons (shok_18 ok_yy23) cf_nil))))))))
  have hlf : LfOk (R := R) C_yy43 77 (lf_yy43 yy46 yy49 (yy51 kf) yy45 (yy19 kf) (yy18 kf) (yy16 kf) yy23 (yy43_l6 kf kf)) := (lf_top (lf_cons (lok_yy43_l6 kf kf) lf_nil))
  intro v1 v2 v3 v4 v5 K r h
  exact run_good t_yy43 hcf hlf ((eq_yy43 yy46 yy49 (yy51 kf) yy45 (yy19 kf) (yy18 kf) (yy16 kf) yy23 (yy43_l6 kf kf) v1 v2 v3 v4 v5 K).trans h)
theorem t_yy42 : textOk C_yy42.bef Tryd.prog 65 = true := by kernel_rfl
theorem ok_yy42 {R : Type} {c_yy41 : T5 R} (h_yy41 : Ok_yy41 c_yy41) (kf : Nat) : Ok_yy42 (R := R) (yy42 c_yy41 kf) := by
  have hcf : CfOk (R := R) Tryd.prog glob raw (cf_yy42 yy48 (yy43 kf) (yy19 kf) yy23 (yy51 kf) (yy17 kf) yy49 yy32 c_yy41 yy46 yy45) := (cf_cons (shok_64 ok_yy48) (cf_cons (shok_77 (ok_yy43 kf)) (cf_cons (shok_19 (ok_yy19 kf)) (cf_cons (shok_18 ok_yy23) (cf_cons (shok_78 (ok_yy51 kf)) (cf_cons (shok_20 (ok_yy17 kf)) (cf_cons (shok_31 ok_yy49) (cf_cons (shok_33 ok_yy32) (cf_cons (shok_30 h_yy41) (cf_cons (shok_48 ok_yy46) (cf_cons (shok_32 ok_yy45) cf_nil)))))))))))
  have hlf : LfOk (R := R) C_yy42 65 (lf_yy42 yy48 (yy43 kf) (yy19 kf) yy23 (yy51 kf) (yy17 kf) yy49 yy32 c_yy41 yy46 yy45) := lf_none
  intro v1 v2 v3 v4 v5 K r h
  exact run_good t_yy42 hcf hlf ((eq_yy42 yy48 (yy43 kf) (yy19 kf) yy23 (yy51 kf) (yy17 kf) yy49 yy32 c_yy41 yy46 yy45 v1 v2 v3 v4 v5 K).trans h)
theorem t_yy31 : textOk C_yy31.bef Tryd.prog 23 = true := by kernel_rfl
theorem sln_yy31_l3 {R : Type} : SlOk (R := R) C_yy31 23 21 0 3 (sl_yy31_l3 (fun _ _ _ _ => none)) := by
  intro vs es K r h
  unfold sl_yy31_l3 at h
  split at h <;> exact no_some h
theorem lok_yy31_l3 {R : Type} {c_self : T8 R} (hs : Ok_yy31 c_self) (kf : Nat) : ∀ n, SlOk (R := R) C_yy31 23 21 0 3 (sl_yy31_l3 (yy31_l3 c_self kf n)) := by
  intro n
  induction n with
  | zero =>
    intro vs es K r h
    unfold sl_yy31_l3 at h
    split at h <;> exact no_some h
  | succ k ih =>
    have hcf : CfOk (R := R) Tryd.prog glob raw (cf_yy31 c_self (yy31_l3 c_self kf k)) := (cf_cons (shok_23 hs) cf_nil)
    have hlf : LfOk (R := R) C_yy31 23 (lf_yy31 c_self (yy31_l3 c_self kf k)) := (lf_top (lf_cons ih lf_nil))
    intro vs es K r h
    unfold sl_yy31_l3 at h
    split at h
    · exact loop_good (text_mixed t_yy31) hcf hlf (text_loop t_yy31 3).1 (text_loop t_yy31 3).2 ((eq_yy31_l3 c_self (yy31_l3 c_self kf k) _ _ _ _ _ K).trans h)
    · exact no_some h
theorem ok_yy31 {R : Type} : ∀ kf, Ok_yy31 (R := R) (yy31 kf) := by
  intro kf
  induction kf with
  | zero =>
    intro v1 v2 v3 K r h
    exact no_some h
  | succ kf hs =>
    have hcf : CfOk (R := R) Tryd.prog glob raw (cf_yy31 (yy31 kf) (yy31_l3 (yy31 kf) kf kf)) := (cf_cons (shok_23 hs) cf_nil)
    have hlf : LfOk (R := R) C_yy31 23 (lf_yy31 (yy31 kf) (yy31_l3 (yy31 kf) kf kf)) := (lf_top (lf_cons (lok_yy31_l3 hs kf kf) lf_nil))
    intro v1 v2 v3 K r h
    exact run_good t_yy31 hcf hlf ((eq_yy31 (yy31 kf) (yy31_l3 (yy31 kf) kf kf) v1 v2 v3 K).trans h)
theorem t_yy27 : textOk C_yy27.bef Tryd.prog 24 = true := by kernel_rfl
theorem sln_yy27_l3 {R : Type} : SlOk (R := R) C_yy27 24 22 0 3 (sl_yy27_l3 (fun _ _ _ _ => none)) := by
  intro vs es K r h
  unfold sl_yy27_l3 at h
  split at h <;> exact no_some h
theorem lok_yy27_l3 {R : Type} {c_self : T8 R} (hs : Ok_yy27 c_self) (kf : Nat) : ∀ n, SlOk (R := R) C_yy27 24 22 0 3 (sl_yy27_l3 (yy27_l3 c_self kf n)) := by
  intro n
  induction n with
  | zero =>
    intro vs es K r h
    unfold sl_yy27_l3 at h
    split at h <;> exact no_some h
  | succ k ih =>
    have hcf : CfOk (R := R) Tryd.prog glob raw (cf_yy27 c_self (yy27_l3 c_self kf k)) := (cf_cons (shok_24 hs) cf_nil)
    have hlf : LfOk (R := R) C_yy27 24 (lf_yy27 c_self (yy27_l3 c_self kf k)) := (lf_top (lf_cons ih lf_nil))
    intro vs es K r h
    unfold sl_yy27_l3 at h
    split at h
    · exact loop_good (text_mixed t_yy27) hcf hlf (text_loop t_yy27 3).1 (text_loop t_yy27 3).2 ((eq_yy27_l3 c_self (yy27_l3 c_self kf k) _ _ _ _ _ K).trans h)
    · exact no_some h
theorem ok_yy27 {R : Type} : ∀ kf, Ok_yy27 (R := R) (yy27 kf) := by
  intro kf
  induction kf with
  | zero =>
    intro v1 v2 v3 K r h
    exact no_some h
  | succ kf hs =>
    have hcf : CfOk (R := R) Tryd.prog glob raw (cf_yy27 (yy27 kf) (yy27_l3 (yy27 kf) kf kf)) := (cf_cons (shok_24 hs) cf_nil)
    have hlf : LfOk (R := R) C_yy27 24 (lf_yy27 (yy27 kf) (yy27_l3 (yy27 kf) kf kf)) := (lf_top (lf_cons (lok_yy27_l3 hs kf kf) lf_nil))
    intro v1 v2 v3 K r h
    exact run_good t_yy27 hcf hlf ((eq_yy27 (yy27 kf) (yy27_l3 (yy27 kf) kf kf) v1 v2 v3 K).trans h)
theorem t_yy34 : textOk C_yy34.bef Tryd.prog 14 = true := by kernel_rfl
theorem sln_yy34_l4 {R : Type} : SlOk (R := R) C_yy34 14 46 0 4 (sl_yy34_l4 (fun _ _ _ _ _ => none)) := by
  intro vs es K r h
  unfold sl_yy34_l4 at h
  split at h <;> exact no_some h
theorem lok_yy34_l4 {R : Type} {c_self : T10 R} (hs : Ok_yy34 c_self) (kf : Nat) : ∀ n, SlOk (R := R) C_yy34 14 46 0 4 (sl_yy34_l4 (yy34_l4 c_self kf n)) := by
  intro n
  induction n with
  | zero =>
    intro vs es K r h
    unfold sl_yy34_l4 at h
    split at h <;> exact no_some h
  | succ k ih =>
    have hcf : CfOk (R := R) Tryd.prog glob raw (cf_yy34 c_self (yy34_l4 c_self kf k)) := (cf_cons (shok_14 hs) cf_nil)
    have hlf : LfOk (R := R) C_yy34 14 (lf_yy34 c_self (yy34_l4 c_self kf k)) := (lf_top (lf_cons ih lf_nil))
    intro vs es K r h
    unfold sl_yy34_l4 at h
    split at h
    · exact loop_good (text_mixed t_yy34) hcf hlf (text_loop t_yy34 4).1 (text_loop t_yy34 4).2 ((eq_yy34_l4 c_self (yy34_l4 c_self kf k) _ _ _ _ _ _ _ K).trans h)
    · exact no_some h
theorem ok_yy34 {R : Type} : ∀ kf, Ok_yy34 (R := R) (yy34 kf) := by
  intro kf
  induction kf with
  | zero =>
    intro v1 v2 v3 v4 v5 v6 K r h
    exact no_some h
  | succ kf hs =>
    have hcf : CfOk (R := R) Tryd.prog glob raw (cf_yy34 (yy34 kf) (yy34_l4 (yy34 kf) kf kf)) := (cf_cons (shok_14 hs) cf_nil)
    have hlf : LfOk (R := R) C_yy34 14 (lf_yy34 (yy34 kf) (yy34_l4 (yy34 kf) kf kf)) := (lf_top (lf_cons (lok_yy34_l4 hs kf kf) lf_nil))
    intro v1 v2 v3 v4 v5 v6 K r h
    exact run_good t_yy34 hcf hlf ((eq_yy34 (yy34 kf) (yy34_l4 (yy34 kf) kf kf) v1 v2 v3 v4 v5 v6 K).trans h)
theorem t_yy33 : textOk C_yy33.bef Tryd.prog 27 = true := by kernel_rfl
theorem sln_yy33_l2 {R : Type} : SlOk (R := R) C_yy33 27 119 0 2 (sl_yy33_l2 (fun _ _ _ _ _ _ => none)) := by
  intro vs es K r h
  unfold sl_yy33_l2 at h
  split at h <;> exact no_some h
theorem lok_yy33_l2 {R : Type} {c_self : T4 R} (hs : Ok_yy33 c_self) (kf : Nat) : ∀ n, SlOk (R := R) C_yy33 27 119 0 2 (sl_yy33_l2 (yy33_l2 c_self kf n)) := by
  intro n
  induction n with
  | zero =>
    intro vs es K r h
    unfold sl_yy33_l2 at h
    split at h <;> exact no_some h
  | succ k ih =>
    have hcf : CfOk (R := R) Tryd.prog glob raw (cf_yy33 c_self (yy24 kf) (yy34 kf) (yy22 kf) (yy33_l2 c_self kf k)) := (cf_cons (shok_27 hs) (cf_cons (shok_43 (ok_yy24 kf)) (cf_cons (shok_14 (ok_yy34 kf)) (cf_cons (shok_35 (ok_yy22 kf)) cf_nil))))
    have hlf : LfOk (R := R) C_yy33 27 (lf_yy33 c_self (yy24 kf) (yy34 kf) (yy22 kf) (yy33_l2 c_self kf k)) := (lf_top (lf_cons ih lf_nil))
    intro vs es K r h
    unfold sl_yy33_l2 at h
    split at h
    · exact loop_good (text_mixed t_yy33) hcf hlf (text_loop t_yy33 2).1 (text_loop t_yy33 2).2 ((eq_yy33_l2 c_self (yy24 kf) (yy34 kf) (yy22 kf) (yy33_l2 c_self kf k) _ _ _ _ K).trans h)
    · exact no_some h
theorem ok_yy33 {R : Type} : ∀ kf, Ok_yy33 (R := R) (yy33 kf) := by
  intro kf
  induction kf with
  | zero =>
    intro v1 v2 v3 K r h
    exact no_some h
  | succ kf hs =>
    have hcf : CfOk (R := R) Tryd.prog glob raw (cf_yy33 (yy33 kf) (yy24 kf) (yy34 kf) (yy22 kf) (yy33_l2 (yy33 kf) kf kf)) := (cf_cons (shok_27 hs) (cf_cons (shok_43 (ok_yy24 kf)) (cf_cons (shok_14 (ok_yy34 kf)) (cf_cons (shok_35 (ok_yy22 kf)) cf_nil))))
    have hlf : LfOk (R := R) C_yy33 27 (lf_yy33 (yy33 kf) (yy24 kf) (yy34 kf) (yy22 kf) (yy33_l2 (yy33 kf) kf kf)) := (lf_top (lf_cons (lok_yy33_l2 hs kf kf) lf_nil))
    intro v1 v2 v3 K r h
    exact run_good t_yy33 hcf hlf ((eq_yy33 (yy33 kf) (yy24 kf) (yy34 kf) (yy22 kf) (yy33_l2 (yy33 kf) kf kf) v1 v2 v3 K).trans h)
theorem t_yy30 : textOk C_yy30.bef Tryd.prog 66 = true := by kernel_rfl
theorem ok_yy30 {R : Type} (kf : Nat) : Ok_yy30 (R := R) (yy30 kf) := by
  have hcf : CfOk (R := R) Tryd.prog glob raw (cf_yy30 (yy31 kf) (yy27 kf) (yy33 kf)) := (cf_cons (shok_23 (ok_yy31 kf)) (cf_cons (shok_24 (ok_yy27 kf)) (cf_cons (shok_27 (ok_yy33 kf)) cf_nil)))
  have hlf : LfOk (R := R) C_yy30 66 (lf_yy30 (yy31 kf) (yy27 kf) (yy33 kf)) := lf_none
  intro v1 v2 v3 K r h
  exact run_good t_yy30 hcf hlf ((eq_yy30 (yy31 kf) (yy27 kf) (yy33 kf) v1 v2 v3 K).trans h)
theorem t_yy47 : textOk C_yy47.bef Tryd.prog 50 = true := by kernel_rfl
theorem ok_yy47 {R : Type} (kf : Nat) : Ok_yy47 (R := R) (yy47 kf) := by
  have hcf : CfOk (R := R) Tryd.prog glob raw (cf_yy47 yy49 (yy30 kf)) := (cf_cons (shok_31 ok_yy49) (cf_cons (shok_66 (ok_yy30 kf)) cf_nil))
  have hlf : LfOk (R := R) C_yy47 50 (lf_yy47 yy49 (yy30 kf)) := lf_none
  intro v1 v2 v3 v4 v5 v6 v7 v8 K r h
  exact run_good t_yy47 hcf hlf ((eq_yy47 yy49 (yy30 kf) v1 v2 v3 v4 v5 v6 v7 v8 K).trans h)
theorem t_yy50 : textOk C_yy50.bef Tryd.prog 49 = true := by kernel_rfl
theorem sln_yy50_l2 {R : Type} : SlOk (R := R) C_yy50 49 55 1 2 (sl_yy50_l2 (fun _ _ _ _ _ _ _ _ _ _ _ _ => none)) := by
  intro vs es K r h
  unfold sl_yy50_l2 at h
  split at h <;> exact no_some h
theorem lok_yy50_l2 {R : Type} {c_yy41 : T5 R} (h_yy41 : Ok_yy41 c_yy41) (kf : Nat) : ∀ n, SlOk (R := R) C_yy50 49 55 1 2 (sl_yy50_l2 (yy50_l2 c_yy41 kf n)) := by
  intro n
  induction n with
  | zero =>
    intro vs es K r h
    unfold sl_yy50_l2 at h
    split at h <;> exact no_some h
  | succ k ih =>
    have hcf : CfOk (R := R) Tryd.prog glob raw (cf_yy50 (yy42 c_yy41 kf) yy49 yy46 yy48 (yy35 kf) (yy24 kf) yy28 (yy22 kf) (yy47 kf) (yy50_l2 c_yy41 kf k)) := (cf_cons (shok_65 (ok_yy42 h_yy41 kf)) (cf_cons (shok_31 ok_yy49) (cf_cons (shok_48 ok_yy46) (cf_cons (shok_64 ok_yy48) (cf_cons (shok_21 (ok_yy35 kf)) (cf_cons (shok_43 (ok_yy24 kf)) (cf_cons (shok_22 ok_yy28) (cf_cons (shok_35 (ok_yy22 kf)) (cf_cons (shok_50 (ok_yy47 kf)) cf_nil)))))))))
    have hlf : LfOk (R := R) C_yy50 49 (lf_yy50 (yy42 c_yy41 kf) yy49 yy46 yy48 (yy35 kf) (yy24 kf) yy28 (yy22 kf) (yy47 kf) (yy50_l2 c_yy41 kf k)) := (lf_top (lf_cons ih lf_nil))
    intro vs es K r h
    unfold sl_yy50_l2 at h
    split at h
    · exact loop_good (text_mixed t_yy50) hcf hlf (text_loop t_yy50 2).1 (text_loop t_yy50 2).2 ((eq_yy50_l2 (yy42 c_yy41 kf) yy49 yy46 yy48 (yy35 kf) (yy24 kf) yy28 (yy22 kf) (yy47 kf) (yy50_l2 c_yy41 kf k) _ _ _ _ _ _ _ _ _ _ _ K).trans h)
    · exact no_some h
theorem ok_yy50 {R : Type} {c_yy41 : T5 R} (h_yy41 : Ok_yy41 c_yy41) (kf : Nat) : Ok_yy50 (R := R) (yy50 c_yy41 kf) := by
  have hcf : CfOk (R := R) Tryd.prog glob raw (cf_yy50 (yy42 c_yy41 kf) yy49 yy46 yy48 (yy35 kf) (yy24 kf) yy28 (yy22 kf) (yy47 kf) (yy50_l2 c_yy41 kf kf)) := (cf_cons (shok_65 (ok_yy42 h_yy41 kf)) (cf_cons (shok_31 ok_yy49) (cf_cons (shok_48 ok_yy46) (cf_cons (shok_64 ok_yy48) (cf_cons (shok_21 (ok_yy35 kf)) (cf_cons (shok_43 (ok_yy24 kf)) (cf_cons (shok_22 ok_yy28) (cf_cons (shok_35 (ok_yy22 kf)) (cf_cons (shok_50 (ok_yy47 kf)) cf_nil)))))))))
  have hlf : LfOk (R := R) C_yy50 49 (lf_yy50 (yy42 c_yy41 kf) yy49 yy46 yy48 (yy35 kf) (yy24 kf) yy28 (yy22 kf) (yy47 kf) (yy50_l2 c_yy41 kf kf)) := (lf_top (lf_cons (lok_yy50_l2 h_yy41 kf kf) lf_nil))
  intro v1 v2 v3 v4 v5 K r h
  exact run_good t_yy50 hcf hlf ((eq_yy50 (yy42 c_yy41 kf) yy49 yy46 yy48 (yy35 kf) (yy24 kf) yy28 (yy22 kf) (yy47 kf) (yy50_l2 c_yy41 kf kf) v1 v2 v3 v4 v5 K).trans h)
theorem t_yy41 : textOk C_yy41.bef Tryd.prog 30 = true := by kernel_rfl
theorem sln_yy41_l2 {R : Type} : SlOk (R := R) C_yy41 30 66 1 2 (sl_yy41_l2 (fun _ _ _ _ _ _ _ _ _ _ _ => none)) := by
  intro vs es K r h
  unfold sl_yy41_l2 at h
  split at h <;> exact no_some h
theorem sln_yy41_l3 {R : Type} : SlOk (R := R) C_yy41 30 66 1 3 (sl_yy41_l3 (fun _ _ _ _ _ _ _ _ _ _ _ => none)) := by
  intro vs es K r h
  unfold sl_yy41_l3 at h
  split at h <;> exact no_some h
theorem lok_yy41_l3 {R : Type} {c_self : T5 R} (hs : Ok_yy41 c_self) (kf : Nat) : ∀ n, SlOk (R := R) C_yy41 30 66 1 3 (sl_yy41_l3 (yy41_l3 c_self kf n)) := by
  intro n
  induction n with
  | zero =>
    intro vs es K r h
    unfold sl_yy41_l3 at h
    split at h <;> exact no_some h
  | succ k ih =>
    have hcf : CfOk (R := R) Tryd.prog glob raw (cf_yy41 yy49 yy46 (yy50 c_self kf) yy32 (yy24 kf) (yy47 kf) (yy22 kf) (fun _ _ _ _ _ _ _ _ _ _ _ => none) (yy41_l3 c_self kf k)) := (cf_cons (shok_31 ok_yy49) (cf_cons (shok_48 ok_yy46) (cf_cons (shok_49 (ok_yy50 hs kf)) (cf_cons (shok_33 ok_yy32) (cf_cons (shok_43 (ok_yy24 kf)) (cf_cons (shok_50 (ok_yy47 kf)) (cf_cons (shok_35 (ok_yy22 kf)) cf_nil)))))))
    have hlf : LfOk (R := R) C_yy41 30 (lf_yy41 yy49 yy46 (yy50 c_self kf) yy32 (yy24 kf) (yy47 kf) (yy22 kf) (fun _ _ _ _ _ _ _ _ _ _ _ => none) (yy41_l3 c_self kf k)) := (lf_top (lf_cons (sln_yy41_l2) (lf_cons ih lf_nil)))
    intro vs es K r h
    unfold sl_yy41_l3 at h
    split at h
    · exact loop_good (text_mixed t_yy41) hcf hlf (text_loop t_yy41 3).1 (text_loop t_yy41 3).2 ((eq_yy41_l3 yy49 yy46 (yy50 c_self kf) yy32 (yy24 kf) (yy47 kf) (yy22 kf) (fun _ _ _ _ _ _ _ _ _ _ _ => none) (yy41_l3 c_self kf k) _ _ _ _ _ _ _ _ _ _ K).trans h)
    · exact no_some h
theorem lok_yy41_l2 {R : Type} {c_self : T5 R} (hs : Ok_yy41 c_self) (kf : Nat) : ∀ n, SlOk (R := R) C_yy41 30 66 1 2 (sl_yy41_l2 (yy41_l2 c_self kf n)) := by
  intro n
  induction n with
  | zero =>
    intro vs es K r h
    unfold sl_yy41_l2 at h
    split at h <;> exact no_some h
  | succ k ih =>
    have hcf : CfOk (R := R) Tryd.prog glob raw (cf_yy41 yy49 yy46 (yy50 c_self kf) yy32 (yy24 kf) (yy47 kf) (yy22 kf) (yy41_l2 c_self kf k) (yy41_l3 c_self kf k)) := (cf_cons (shok_31 ok_yy49) (cf_cons (shok_48 ok_yy46) (cf_cons (shok_49 (ok_yy50 hs kf)) (cf_cons (shok_33 ok_yy32) (cf_cons (shok_43 (ok_yy24 kf)) (cf_cons (shok_50 (ok_yy47 kf)) (cf_cons (shok_35 (ok_yy22 kf)) cf_nil)))))))
    have hlf : LfOk (R := R) C_yy41 30 (lf_yy41 yy49 yy46 (yy50 c_self kf) yy32 (yy24 kf) (yy47 kf) (yy22 kf) (yy41_l2 c_self kf k) (yy41_l3 c_self kf k)) := (lf_top (lf_cons ih (lf_cons (lok_yy41_l3 hs kf k) lf_nil)))
    intro vs es K r h
    unfold sl_yy41_l2 at h
    split at h
    · exact loop_good (text_mixed t_yy41) hcf hlf (text_loop t_yy41 2).1 (text_loop t_yy41 2).2 ((eq_yy41_l2 yy49 yy46 (yy50 c_self kf) yy32 (yy24 kf) (yy47 kf) (yy22 kf) (yy41_l2 c_self kf k) (yy41_l3 c_self kf k) _ _ _ _ _ _ _ _ _ K).trans h)
    · exact no_some h
theorem ok_yy41 {R : Type} : ∀ kf, Ok_yy41 (R := R) (yy41 kf) := by
  intro kf
  induction kf with
  | zero =>
    intro v1 v2 v3 v4 v5 K r h
    exact no_some h
  | succ kf hs =>
    have hcf : CfOk (R := R) Tryd.prog glob raw (cf_yy41 yy49 yy46 (yy50 (yy41 kf) kf) yy32 (yy24 kf) (yy47 kf) (yy22 kf) (yy41_l2 (yy41 kf) kf kf) (yy41_l3 (yy41 kf) kf kf)) := (cf_cons (shok_31 ok_yy49) (cf_cons (shok_48 ok_yy46) (cf_cons (shok_49 (ok_yy50 hs kf)) (cf_cons (shok_33 ok_yy32) (cf_cons (shok_43 (ok_yy24 kf)) (cf_cons (shok_50 (ok_yy47 kf)) (cf_cons (shok_35 (ok_yy22 kf)) cf_nil)))))))
    have hlf : LfOk (R := R) C_yy41 30 (lf_yy41 yy49 yy46 (yy50 (yy41 kf) kf) yy32 (yy24 kf) (yy47 kf) (yy22 kf) (yy41_l2 (yy41 kf) kf kf) (yy41_l3 (yy41 kf) kf kf)) := (lf_top (lf_cons (lok_yy41_l2 hs kf kf) (lf_cons (lok_yy41_l3 hs kf kf) lf_nil)))
    intro v1 v2 v3 v4 v5 K r h
    exact run_good t_yy41 hcf hlf ((eq_yy41 yy49 yy46 (yy50 (yy41 kf) kf) yy32 (yy24 kf) (yy47 kf) (yy22 kf) (yy41_l2 (yy41 kf) kf kf) (yy41_l3 (yy41 kf) kf kf) v1 v2 v3 v4 v5 K).trans h)
theorem t_yy38 : textOk C_yy38.bef Tryd.prog 17 = true := by kernel_rfl
theorem ok_yy38 {R : Type} (kf : Nat) : Ok_yy38 (R := R) (yy38 kf) := by
  have hcf : CfOk (R := R) Tryd.prog glob raw (cf_yy38 (yy41 kf) yy49 yy45) := (cf_cons (shok_30 (ok_yy41 kf)) (cf_cons (shok_31 ok_yy49) (cf_cons (shok_32 ok_yy45) cf_nil)))
  have hlf : LfOk (R := R) C_yy38 17 (lf_yy38 (yy41 kf) yy49 yy45) := lf_none
  intro v1 K r h
  exact run_good t_yy38 hcf hlf ((eq_yy38 (yy41 kf) yy49 yy45 v1 K).trans h)
theorem t_yy5 : textOk C_yy5.bef Tryd.prog 5 = true := by kernel_rfl
theorem ok_yy5 {R : Type} (kf : Nat) : Ok_yy5 (R := R) (yy5 kf) := by
  have hcf : CfOk (R := R) Tryd.prog glob raw (cf_yy5 (yy6 kf) yy8 (yy9 kf) (yy59 kf) (yy38 kf) (yy34 kf)) := (cf_cons (shok_9 (ok_yy6 kf)) (cf_cons (shok_15 ok_yy8) (cf_cons (shok_16 (ok_yy9 kf)) (cf_cons (shok_12 (ok_yy59 kf)) (cf_cons (shok_17 (ok_yy38 kf)) (cf_cons (shok_14 (ok_yy34 kf)) cf_nil))))))
  have hlf : LfOk (R := R) C_yy5 5 (lf_yy5 (yy6 kf) yy8 (yy9 kf) (yy59 kf) (yy38 kf) (yy34 kf)) := lf_none
  intro v1 v2 K r h
  exact run_good t_yy5 hcf hlf ((eq_yy5 (yy6 kf) yy8 (yy9 kf) (yy59 kf) (yy38 kf) (yy34 kf) v1 v2 K).trans h)
end
end Go.Ab.T
