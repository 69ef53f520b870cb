/- ImaTC: a part of the proofs of this seat's statements. -/
import Derived.Test.YtdoaclnnkeonkaaDoorImaTE
import Derived.Test.YtdoaclnnkeonkaaDoorKnot
import Derived.Test.YtdoaclnnkeonkaaDoorImaTP
namespace Go.Ab.T
open Go Go.Ab Go.Proofs
set_option maxRecDepth 100000
set_option linter.unusedVariables false
noncomputable section
def Ok_yy9 {R : Type} (c : LI → (Bool → Option R) → Option R) : Prop := ∀ (v1 : LI) (K : S → List Ent → Option R) (r : R), c v1 (fun (r0 : Bool) => K (.bool r0) []) = some r → ∃ v es, FnOk Tryd.prog glob 4 (npF raw 4 []) [.sl (.int .u8) v1] [] v es ∧ K v es = some r
theorem okn_yy9 {R : Type} : Ok_yy9 (R := R) (fun _ _ => none) := fun _ _ _ h => no_some h
theorem shok_4 {R : Type} {c_yy9 : LI → (Bool → Option R) → Option R} (h_yy9 : Ok_yy9 c_yy9) : ShOk Tryd.prog glob raw 4 (sh4 c_yy9) := by
 intro av es K r h
 unfold sh4 at h
 split at h
 ·exact h_yy9 _ _ _ h
 ·exact no_some h
def Ok_yy10 {R : Type} (c : (Bool → Option R) → Option R) : Prop := ∀ (K : S → List Ent → Option R) (r : R), c (fun (r0 : Bool) => K (.bool r0) []) = some r → ∃ v es, FnOk Tryd.prog glob 9 (npF raw 9 []) [] [] v es ∧ K v es = some r
theorem okn_yy10 {R : Type} : Ok_yy10 (R := R) (fun _ => none) := fun _ _ h => no_some h
theorem shok_9 {R : Type} {c_yy10 : (Bool → Option R) → Option R} (h_yy10 : Ok_yy10 c_yy10) : ShOk Tryd.prog glob raw 9 (sh9 c_yy10) := by
 intro av es K r h
 unfold sh9 at h
 split at h
 ·exact h_yy10 _ _ h
 ·exact no_some h
def Ok_yy26 {R : Type} (c : T23 R) : Prop := ∀ (v1 : LI) (v2 : LL) (v3 : LB) (K : S → List Ent → Option R) (r : R), c v1 v2 v3 (fun (r0 : LI) (r1 : LL) (r2 : LB) => K (.st [.arr 256 (.int .u8) r0, .own (.slice (.int .i64)) 0, .own .bool 1]) [.buf (.slice (.int .i64)) r1 false, .buf .bool r2 false]) = some r → ∃ v es, FnOk Tryd.prog glob 11 (npF raw 11 []) [.st [.arr 256 (.int .u8) v1, .sl (.slice (.int .i64)) v2, .sl .bool v3]] [] v es ∧ K v es = some r
theorem okn_yy26 {R : Type} : Ok_yy26 (R := R) (fun _ _ _ _ => none) := fun _ _ _ _ _ h => no_some h
theorem shok_11 {R : Type} {c_yy26 : T23 R} (h_yy26 : Ok_yy26 c_yy26) : ShOk Tryd.prog glob raw 11 (sh11 c_yy26) := by
 intro av es K r h
 unfold sh11 at h
 split at h
 ·exact h_yy26 _ _ _ _ _ h
 ·exact no_some h
def Ok_yy0 {R : Type} (c : T40 R) : Prop := ∀ (v1 : LI) (v2 : LL) (v3 : LB) (K : S → List Ent → Option R) (r : R), c v1 v2 v3 (fun (r0 : Int) (r1 : LI) => K (.tup [.own (.int .u8) 0, .int .i64 r0]) [.buf (.int .u8) r1 false]) = some r → ∃ v es, FnOk Tryd.prog glob 13 (npF raw 13 []) [.st [.arr 256 (.int .u8) v1, .sl (.slice (.int .i64)) v2, .sl .bool v3]] [] v es ∧ K v es = some r
theorem okn_yy0 {R : Type} : Ok_yy0 (R := R) (fun _ _ _ _ => none) := fun _ _ _ _ _ h => no_some h
theorem shok_13 {R : Type} {c_yy0 : T40 R} (h_yy0 : Ok_yy0 c_yy0) : ShOk Tryd.prog glob raw 13 (sh13 c_yy0) := by
 intro av es K r h
 unfold sh13 at h
 split at h
 ·exact h_yy0 _ _ _ _ _ h
 ·exact no_some h
def Ok_yy1 {R : Type} (c : T1 R) : Prop := ∀ (v1 : LI) (v2 : LL) (v3 : LB) (K : S → List Ent → Option R) (r : R), c v1 v2 v3 (fun (r0 : Int) => K (.int .i64 r0) []) = some r → ∃ v es, FnOk Tryd.prog glob 15 (npF raw 15 []) [.st [.arr 256 (.int .u8) v1, .sl (.slice (.int .i64)) v2, .sl .bool v3]] [] v es ∧ K v es = some r
theorem okn_yy1 {R : Type} : Ok_yy1 (R := R) (fun _ _ _ _ => none) := fun _ _ _ _ _ h => no_some h
theorem shok_15 {R : Type} {c_yy1 : T1 R} (h_yy1 : Ok_yy1 c_yy1) : ShOk Tryd.prog glob raw 15 (sh15 c_yy1) := by
 intro av es K r h
 unfold sh15 at h
 split at h
 ·exact h_yy1 _ _ _ _ _ h
 ·exact no_some h
def Ok_yy8 {R : Type} (c : T74 R) : Prop := ∀ (v1 : LI) (K : S → List Ent → Option R) (r : R), c v1 (fun (r0 : Int) (r1 : LI) => K (.twn (.int .u8) 0 r0) [.buf (.int .u8) r1 false]) = some r → ∃ v es, FnOk Tryd.prog glob 17 (npF raw 17 []) [.sl (.int .u8) v1] [] v es ∧ K v es = some r
theorem okn_yy8 {R : Type} : Ok_yy8 (R := R) (fun _ _ => none) := fun _ _ _ h => no_some h
theorem shok_17 {R : Type} {c_yy8 : T74 R} (h_yy8 : Ok_yy8 c_yy8) : ShOk Tryd.prog glob raw 17 (sh17 c_yy8) := by
 intro av es K r h
 unfold sh17 at h
 split at h
 ·exact h_yy8 _ _ _ h
 ·exact no_some h
def Ok_yy2 {R : Type} (c : T6 R) : Prop := ∀ (v1 : LI) (K : S → List Ent → Option R) (r : R), c v1 (fun (r0 : LI) (r1 : Int) (r2 : LL) (r3 : LB) => K (.tup [.st [.arr 256 (.int .u8) r0, .own (.slice (.int .i64)) 0, .own .bool 1], .int .i64 r1]) [.buf (.slice (.int .i64)) r2 false, .buf .bool r3 false]) = some r → ∃ v es, FnOk Tryd.prog glob 18 (npF raw 18 []) [.sl (.int .u8) v1] [] v es ∧ K v es = some r
theorem okn_yy2 {R : Type} : Ok_yy2 (R := R) (fun _ _ => none) := fun _ _ _ h => no_some h
theorem shok_18 {R : Type} {c_yy2 : T6 R} (h_yy2 : Ok_yy2 c_yy2) : ShOk Tryd.prog glob raw 18 (sh18 c_yy2) := by
 intro av es K r h
 unfold sh18 at h
 split at h
 ·exact h_yy2 _ _ _ h
 ·exact no_some h
def Ok_yy31 {R : Type} (c : T6 R) : Prop := ∀ (v1 : LI) (K : S → List Ent → Option R) (r : R), c v1 (fun (r0 : LI) (r1 : Int) (r2 : LL) (r3 : LB) => K (.tup [.st [.arr 256 (.int .u8) r0, .own (.slice (.int .i64)) 0, .own .bool 1], .int .i64 r1]) [.buf (.slice (.int .i64)) r2 false, .buf .bool r3 false]) = some r → ∃ v es, FnOk Tryd.prog glob 19 (npF raw 19 []) [.sl (.int .u8) v1] [] v es ∧ K v es = some r
theorem okn_yy31 {R : Type} : Ok_yy31 (R := R) (fun _ _ => none) := fun _ _ _ h => no_some h
theorem shok_19 {R : Type} {c_yy31 : T6 R} (h_yy31 : Ok_yy31 c_yy31) : ShOk Tryd.prog glob raw 19 (sh19 c_yy31) := by
 intro av es K r h
 unfold sh19 at h
 split at h
 ·exact h_yy31 _ _ _ h
 ·exact no_some h
def Ok_yy7 {R : Type} (c : T75 R) : Prop := ∀ (v1 : Int) (v2 : LI) (v3 : LI) (K : S → List Ent → Option R) (r : R), c v1 v2 v3 (fun (r0 : Bool) (r1 : LI) => K (.bool r0) [.buf (.int .u8) r1 false]) = some r → ∃ v es, FnOk Tryd.prog glob 20 (npF raw 20 [.buf (.int .u8) v3 false]) [.twn (.int .u8) 0 v1, .sl (.int .u8) v2] [.buf (.int .u8) v3 false] v es ∧ K v es = some r
theorem okn_yy7 {R : Type} : Ok_yy7 (R := R) (fun _ _ _ _ => none) := fun _ _ _ _ _ h => no_some h
theorem shok_20 {R : Type} {c_yy7 : T75 R} (h_yy7 : Ok_yy7 c_yy7) : ShOk Tryd.prog glob raw 20 (sh20 c_yy7) := by
 intro av es K r h
 unfold sh20 at h
 split at h
 ·exact h_yy7 _ _ _ _ _ h
 ·exact no_some h
def Ok_yy30 {R : Type} (c : T5 R) : Prop := ∀ (v1 : LI) (v2 : LL) (v3 : LB) (v4 : LI) (v5 : LL) (v6 : LB) (K : S → List Ent → Option R) (r : R), c v1 v2 v3 v4 v5 v6 (fun (r0 : Bool) => K (.bool r0) []) = some r → ∃ v es, FnOk Tryd.prog glob 22 (npF raw 22 []) [.st [.arr 256 (.int .u8) v1, .sl (.slice (.int .i64)) v2, .sl .bool v3], .st [.arr 256 (.int .u8) v4, .sl (.slice (.int .i64)) v5, .sl .bool v6]] [] v es ∧ K v es = some r
theorem okn_yy30 {R : Type} : Ok_yy30 (R := R) (fun _ _ _ _ _ _ _ => none) := fun _ _ _ _ _ _ _ _ h => no_some h
theorem shok_22 {R : Type} {c_yy30 : T5 R} (h_yy30 : Ok_yy30 c_yy30) : ShOk Tryd.prog glob raw 22 (sh22 c_yy30) := by
 intro av es K r h
 unfold sh22 at h
 split at h
 ·exact h_yy30 _ _ _ _ _ _ _ _ h
 ·exact no_some h
def Ok_yy25 {R : Type} (c : T0 R) : Prop := ∀ (v1 : LI) (v2 : LL) (v3 : LB) (K : S → List Ent → Option R) (r : R), c v1 v2 v3 (fun (r0 : Bool) => K (.bool r0) []) = some r → ∃ v es, FnOk Tryd.prog glob 26 (npF raw 26 []) [.st [.arr 256 (.int .u8) v1, .sl (.slice (.int .i64)) v2, .sl .bool v3]] [] v es ∧ K v es = some r
theorem okn_yy25 {R : Type} : Ok_yy25 (R := R) (fun _ _ _ _ => none) := fun _ _ _ _ _ h => no_some h
theorem shok_26 {R : Type} {c_yy25 : T0 R} (h_yy25 : Ok_yy25 c_yy25) : ShOk Tryd.prog glob raw 26 (sh26 c_yy25) := by
 intro av es K r h
 unfold sh26 at h
 split at h
 ·exact h_yy25 _ _ _ _ _ h
 ·exact no_some h
def Ok_yy27 {R : Type} (c : T0 R) : Prop := ∀ (v1 : LI) (v2 : LL) (v3 : LB) (K : S → List Ent → Option R) (r : R), c v1 v2 v3 (fun (r0 : Bool) => K (.bool r0) []) = some r → ∃ v es, FnOk Tryd.prog glob 27 (npF raw 27 []) [.st [.arr 256 (.int .u8) v1, .sl (.slice (.int .i64)) v2, .sl .bool v3]] [] v es ∧ K v es = some r
theorem okn_yy27 {R : Type} : Ok_yy27 (R := R) (fun _ _ _ _ => none) := fun _ _ _ _ _ h => no_some h
theorem shok_27 {R : Type} {c_yy27 : T0 R} (h_yy27 : Ok_yy27 c_yy27) : ShOk Tryd.prog glob raw 27 (sh27 c_yy27) := by
 intro av es K r h
 unfold sh27 at h
 split at h
 ·exact h_yy27 _ _ _ _ _ h
 ·exact no_some h
def Ok_yy28 {R : Type} (c : T2 R) : Prop := ∀ (v1 : LI) (v2 : LL) (v3 : LB) (K : S → List Ent → Option R) (r : R), c v1 v2 v3 (fun (r0 : LI) => K (.own (.int .i64) 0) [.buf (.int .i64) r0 false]) = some r → ∃ v es, FnOk Tryd.prog glob 28 (npF raw 28 []) [.st [.arr 256 (.int .u8) v1, .sl (.slice (.int .i64)) v2, .sl .bool v3]] [] v es ∧ K v es = some r
theorem okn_yy28 {R : Type} : Ok_yy28 (R := R) (fun _ _ _ _ => none) := fun _ _ _ _ _ h => no_some h
theorem shok_28 {R : Type} {c_yy28 : T2 R} (h_yy28 : Ok_yy28 c_yy28) : ShOk Tryd.prog glob raw 28 (sh28 c_yy28) := by
 intro av es K r h
 unfold sh28 at h
 split at h
 ·exact h_yy28 _ _ _ _ _ h
 ·exact no_some h
def Ok_yy29 {R : Type} (c : T8 R) : Prop := ∀ (v1 : LI) (v2 : LL) (v3 : LB) (K : S → List Ent → Option R) (r : R), c v1 v2 v3 (fun (r0 : LB) => K (.own .bool 0) [.buf .bool r0 false]) = some r → ∃ v es, FnOk Tryd.prog glob 29 (npF raw 29 []) [.st [.arr 256 (.int .u8) v1, .sl (.slice (.int .i64)) v2, .sl .bool v3]] [] v es ∧ K v es = some r
theorem okn_yy29 {R : Type} : Ok_yy29 (R := R) (fun _ _ _ _ => none) := fun _ _ _ _ _ h => no_some h
theorem shok_29 {R : Type} {c_yy29 : T8 R} (h_yy29 : Ok_yy29 c_yy29) : ShOk Tryd.prog glob raw 29 (sh29 c_yy29) := by
 intro av es K r h
 unfold sh29 at h
 split at h
 ·exact h_yy29 _ _ _ _ _ h
 ·exact no_some h
def Ok_yy32 {R : Type} (c : T9 R) : Prop := ∀ (v1 : LI) (v2 : LL) (v3 : LB) (v4 : LI) (v5 : LB) (v6 : Int) (v7 : Int) (K : S → List Ent → Option R) (r : R), c v1 v2 v3 v4 v5 v6 v7 (fun (r0 : Bool) => K (.bool r0) []) = some r → ∃ v es, FnOk Tryd.prog glob 30 (npF raw 30 []) [.st [.arr 256 (.int .u8) v1, .sl (.slice (.int .i64)) v2, .sl .bool v3], .sl (.int .i64) v4, .sl .bool v5, .int .i64 v6, .int .i64 v7] [] v es ∧ K v es = some r
theorem okn_yy32 {R : Type} : Ok_yy32 (R := R) (fun _ _ _ _ _ _ _ _ => none) := fun _ _ _ _ _ _ _ _ _ h => no_some h
theorem shok_30 {R : Type} {c_yy32 : T9 R} (h_yy32 : Ok_yy32 c_yy32) : ShOk Tryd.prog glob raw 30 (sh30 c_yy32) := by
 intro av es K r h
 unfold sh30 at h
 split at h
 ·exact h_yy32 _ _ _ _ _ _ _ _ _ h
 ·exact no_some h
def Ok_yy11 {R : Type} (c : T0 R) : Prop := ∀ (v1 : LI) (v2 : LL) (v3 : LB) (K : S → List Ent → Option R) (r : R), c v1 v2 v3 (fun (r0 : Bool) => K (.bool r0) []) = some r → ∃ v es, FnOk Tryd.prog glob 33 (npF raw 33 []) [.st [.arr 256 (.int .u8) v1, .sl (.slice (.int .i64)) v2, .sl .bool v3]] [] v es ∧ K v es = some r
theorem okn_yy11 {R : Type} : Ok_yy11 (R := R) (fun _ _ _ _ => none) := fun _ _ _ _ _ h => no_some h
theorem shok_33 {R : Type} {c_yy11 : T0 R} (h_yy11 : Ok_yy11 c_yy11) : ShOk Tryd.prog glob raw 33 (sh33 c_yy11) := by
 intro av es K r h
 unfold sh33 at h
 split at h
 ·exact h_yy11 _ _ _ _ _ h
 ·exact no_some h
def Ok_yy17 {R : Type} (c : T1 R) : Prop := ∀ (v1 : LI) (v2 : LL) (v3 : LB) (K : S → List Ent → Option R) (r : R), c v1 v2 v3 (fun (r0 : Int) => K (.int .i64 r0) []) = some r → ∃ v es, FnOk Tryd.prog glob 34 (npF raw 34 []) [.st [.arr 256 (.int .u8) v1, .sl (.slice (.int .i64)) v2, .sl .bool v3]] [] v es ∧ K v es = some r
theorem okn_yy17 {R : Type} : Ok_yy17 (R := R) (fun _ _ _ _ => none) := fun _ _ _ _ _ h => no_some h
theorem shok_34 {R : Type} {c_yy17 : T1 R} (h_yy17 : Ok_yy17 c_yy17) : ShOk Tryd.prog glob raw 34 (sh34 c_yy17) := by
 intro av es K r h
 unfold sh34 at h
 split at h
 ·exact h_yy17 _ _ _ _ _ h
 ·exact no_some h
def Ok_yy5 {R : Type} (c : T69 R) : Prop := ∀ (v1 : LI) (K : S → List Ent → Option R) (r : R), c v1 (fun (r0 : LI) (r1 : Err) (r2 : LI) (r3 : LL) (r4 : LB) => K (.tup [.st [.arr 256 (.int .u8) r0, .own (.slice (.int .i64)) 1, .own .bool 2], .err r1]) [.box (.st [.sl (.int .u8) r2]) false, .buf (.slice (.int .i64)) r3 false, .buf .bool r4 false]) = some r → ∃ v es, FnOk Tryd.prog glob 36 (npF raw 36 [.box (.st [.sl (.int .u8) v1]) false]) [.ptr 0 []] [.box (.st [.sl (.int .u8) v1]) false] v es ∧ K v es = some r
theorem okn_yy5 {R : Type} : Ok_yy5 (R := R) (fun _ _ => none) := fun _ _ _ h => no_some h
theorem shok_36 {R : Type} {c_yy5 : T69 R} (h_yy5 : Ok_yy5 c_yy5) : ShOk Tryd.prog glob raw 36 (sh36 c_yy5) := by
 intro av es K r h
 unfold sh36 at h
 split at h
 ·exact h_yy5 _ _ _ h
 ·exact no_some h
def Ok_yy24 {R : Type} (c : T1 R) : Prop := ∀ (v1 : LI) (v2 : LL) (v3 : LB) (K : S → List Ent → Option R) (r : R), c v1 v2 v3 (fun (r0 : Int) => K (.int .i64 r0) []) = some r → ∃ v es, FnOk Tryd.prog glob 39 (npF raw 39 []) [.st [.arr 256 (.int .u8) v1, .sl (.slice (.int .i64)) v2, .sl .bool v3]] [] v es ∧ K v es = some r
theorem okn_yy24 {R : Type} : Ok_yy24 (R := R) (fun _ _ _ _ => none) := fun _ _ _ _ _ h => no_some h
theorem shok_39 {R : Type} {c_yy24 : T1 R} (h_yy24 : Ok_yy24 c_yy24) : ShOk Tryd.prog glob raw 39 (sh39 c_yy24) := by
 intro av es K r h
 unfold sh39 at h
 split at h
 ·exact h_yy24 _ _ _ _ _ h
 ·exact no_some h
def Ok_yy33 {R : Type} (c : T7 R) : Prop := ∀ (v1 : LI) (v2 : LL) (v3 : LB) (v4 : LI) (v5 : Int) (v6 : Int) (K : S → List Ent → Option R) (r : R), c v1 v2 v3 v4 v5 v6 (fun (r0 : Bool) => K (.bool r0) []) = some r → ∃ v es, FnOk Tryd.prog glob 40 (npF raw 40 []) [.st [.arr 256 (.int .u8) v1, .sl (.slice (.int .i64)) v2, .sl .bool v3], .sl (.int .i64) v4, .int .i64 v5, .int .i64 v6] [] v es ∧ K v es = some r
theorem okn_yy33 {R : Type} : Ok_yy33 (R := R) (fun _ _ _ _ _ _ _ => none) := fun _ _ _ _ _ _ _ _ h => no_some h
theorem shok_40 {R : Type} {c_yy33 : T7 R} (h_yy33 : Ok_yy33 c_yy33) : ShOk Tryd.prog glob raw 40 (sh40 c_yy33) := by
 intro av es K r h
 unfold sh40 at h
 split at h
 ·exact h_yy33 _ _ _ _ _ _ _ _ h
 ·exact no_some h
def Ok_yy18 {R : Type} (c : T0 R) : Prop := ∀ (v1 : LI) (v2 : LL) (v3 : LB) (K : S → List Ent → Option R) (r : R), c v1 v2 v3 (fun (r0 : Bool) => K (.bool r0) []) = some r → ∃ v es, FnOk Tryd.prog glob 41 (npF raw 41 []) [.st [.arr 256 (.int .u8) v1, .sl (.slice (.int .i64)) v2, .sl .bool v3]] [] v es ∧ K v es = some r
theorem okn_yy18 {R : Type} : Ok_yy18 (R := R) (fun _ _ _ _ => none) := fun _ _ _ _ _ h => no_some h
theorem shok_41 {R : Type} {c_yy18 : T0 R} (h_yy18 : Ok_yy18 c_yy18) : ShOk Tryd.prog glob raw 41 (sh41 c_yy18) := by
 intro av es K r h
 unfold sh41 at h
 split at h
 ·exact h_yy18 _ _ _ _ _ h
 ·exact no_some h
def Ok_yy20 {R : Type} (c : T5 R) : Prop := ∀ (v1 : LI) (v2 : LL) (v3 : LB) (v4 : LI) (v5 : LL) (v6 : LB) (K : S → List Ent → Option R) (r : R), c v1 v2 v3 v4 v5 v6 (fun (r0 : Bool) => K (.bool r0) []) = some r → ∃ v es, FnOk Tryd.prog glob 42 (npF raw 42 []) [.st [.arr 256 (.int .u8) v1, .sl (.slice (.int .i64)) v2, .sl .bool v3], .st [.arr 256 (.int .u8) v4, .sl (.slice (.int .i64)) v5, .sl .bool v6]] [] v es ∧ K v es = some r
theorem okn_yy20 {R : Type} : Ok_yy20 (R := R) (fun _ _ _ _ _ _ _ => none) := fun _ _ _ _ _ _ _ _ h => no_some h
theorem shok_42 {R : Type} {c_yy20 : T5 R} (h_yy20 : Ok_yy20 c_yy20) : ShOk Tryd.prog glob raw 42 (sh42 c_yy20) := by
 intro av es K r h
 unfold sh42 at h
 split at h
 ·exact h_yy20 _ _ _ _ _ _ _ _ h
 ·exact no_some h
def Ok_yy12 {R : Type} (c : T23 R) : Prop := ∀ (v1 : LI) (v2 : LL) (v3 : LB) (K : S → List Ent → Option R) (r : R), c v1 v2 v3 (fun (r0 : LI) (r1 : LL) (r2 : LB) => K (.st [.arr 256 (.int .u8) r0, .own (.slice (.int .i64)) 0, .own .bool 1]) [.buf (.slice (.int .i64)) r1 false, .buf .bool r2 false]) = some r → ∃ v es, FnOk Tryd.prog glob 43 (npF raw 43 []) [.st [.arr 256 (.int .u8) v1, .sl (.slice (.int .i64)) v2, .sl .bool v3]] [] v es ∧ K v es = some r
theorem okn_yy12 {R : Type} : Ok_yy12 (R := R) (fun _ _ _ _ => none) := fun _ _ _ _ _ h => no_some h
theorem shok_43 {R : Type} {c_yy12 : T23 R} (h_yy12 : Ok_yy12 c_yy12) : ShOk Tryd.prog glob raw 43 (sh43 c_yy12) := by
 intro av es K r h
 unfold sh43 at h
 split at h
 ·exact h_yy12 _ _ _ _ _ h
 ·exact no_some h
def Ok_yy22 {R : Type} (c : T1 R) : Prop := ∀ (v1 : LI) (v2 : LL) (v3 : LB) (K : S → List Ent → Option R) (r : R), c v1 v2 v3 (fun (r0 : Int) => K (.int .i64 r0) []) = some r → ∃ v es, FnOk Tryd.prog glob 44 (npF raw 44 []) [.st [.arr 256 (.int .u8) v1, .sl (.slice (.int .i64)) v2, .sl .bool v3]] [] v es ∧ K v es = some r
theorem okn_yy22 {R : Type} : Ok_yy22 (R := R) (fun _ _ _ _ => none) := fun _ _ _ _ _ h => no_some h
theorem shok_44 {R : Type} {c_yy22 : T1 R} (h_yy22 : Ok_yy22 c_yy22) : ShOk Tryd.prog glob raw 44 (sh44 c_yy22) := by
 intro av es K r h
 unfold sh44 at h
 split at h
 ·exact h_yy22 _ _ _ _ _ h
 ·exact no_some h
def Ok_yy4 {R : Type} (c : T4 R) : Prop := ∀ (v1 : Int) (v2 : Int) (v3 : LI) (K : S → List Ent → Option R) (r : R), c v1 v2 v3 (fun (r0 : Int) (r1 : Err) (r2 : LI) => K (.tup [.int .i64 r0, .err r1]) [.box (.st [.sl (.int .u8) r2]) false]) = some r → ∃ v es, FnOk Tryd.prog glob 45 (npF raw 45 [.box (.st [.sl (.int .u8) v3]) false]) [.ptr 0 [], .int .i64 v1, .int .i64 v2] [.box (.st [.sl (.int .u8) v3]) false] v es ∧ K v es = some r
theorem okn_yy4 {R : Type} : Ok_yy4 (R := R) (fun _ _ _ _ => none) := fun _ _ _ _ _ h => no_some h
theorem shok_45 {R : Type} {c_yy4 : T4 R} (h_yy4 : Ok_yy4 c_yy4) : ShOk Tryd.prog glob raw 45 (sh45 c_yy4) := by
 intro av es K r h
 unfold sh45 at h
 split at h
 ·exact h_yy4 _ _ _ _ _ h
 ·exact no_some h
def Ok_yy6 {R : Type} (c : T39 R) : Prop := ∀ (v1 : Int) (v2 : LI) (K : S → List Ent → Option R) (r : R), c v1 v2 (fun (r0 : LI) (r1 : Err) (r2 : LI) => K (.tup [.arr 256 (.int .u8) r0, .err r1]) [.box (.st [.sl (.int .u8) r2]) false]) = some r → ∃ v es, FnOk Tryd.prog glob 46 (npF raw 46 [.box (.st [.sl (.int .u8) v2]) false]) [.ptr 0 [], .int .i64 v1] [.box (.st [.sl (.int .u8) v2]) false] v es ∧ K v es = some r
theorem okn_yy6 {R : Type} : Ok_yy6 (R := R) (fun _ _ _ => none) := fun _ _ _ _ h => no_some h
theorem shok_46 {R : Type} {c_yy6 : T39 R} (h_yy6 : Ok_yy6 c_yy6) : ShOk Tryd.prog glob raw 46 (sh46 c_yy6) := by
 intro av es K r h
 unfold sh46 at h
 split at h
 ·exact h_yy6 _ _ _ _ h
 ·exact no_some h
def Ok_yy3 {R : Type} (c : Int → (Err → Option R) → Option R) : Prop := ∀ (v1 : Int) (K : S → List Ent → Option R) (r : R), c v1 (fun (r0 : Err) => K (.err r0) []) = some r → ∃ v es, FnOk Tryd.prog glob 47 (npF raw 47 []) [.int .i64 v1] [] v es ∧ K v es = some r
theorem okn_yy3 {R : Type} : Ok_yy3 (R := R) (fun _ _ => none) := fun _ _ _ h => no_some h
theorem shok_47 {R : Type} {c_yy3 : Int → (Err → Option R) → Option R} (h_yy3 : Ok_yy3 c_yy3) : ShOk Tryd.prog glob raw 47 (sh47 c_yy3) := by
 intro av es K r h
 unfold sh47 at h
 split at h
 ·exact h_yy3 _ _ _ h
 ·exact no_some h
def Ok_yy34 {R : Type} (c : T48 R) : Prop := ∀ (v1 : LI) (v2 : Int) (K : S → List Ent → Option R) (r : R), c v1 v2 (fun (r0 : Bool) (r1 : Int) => K (.bool r0) [.box (.int .i64 r1) false]) = some r → ∃ v es, FnOk Tryd.prog glob 52 (npF raw 52 [.box (.int .i64 v2) false]) [.sl (.int .i64) v1, .fn 53 [.ptr 0 []]] [.box (.int .i64 v2) false] v es ∧ K v es = some r
theorem okn_yy34 {R : Type} : Ok_yy34 (R := R) (fun _ _ _ => none) := fun _ _ _ _ h => no_some h
theorem shok_52 {R : Type} {c_yy34 : T48 R} (h_yy34 : Ok_yy34 c_yy34) : ShOk Tryd.prog glob raw 52 (sh52 c_yy34) := by
 intro av es K r h
 unfold sh52 at h
 split at h
 ·exact h_yy34 _ _ _ _ h
 ·exact no_some h
def Ok_yy19 {R : Type} (c : T47 R) : Prop := ∀ (v1 : Int) (v2 : Int) (K : S → List Ent → Option R) (r : R), c v1 v2 (fun (r0 : Bool) (r1 : Int) => K (.bool r0) [.box (.int .i64 r1) false]) = some r → ∃ v es, FnOk Tryd.prog glob 53 (npF raw 53 [.box (.int .i64 v2) false]) [.int .i64 v1, .ptr 0 []] [.box (.int .i64 v2) false] v es ∧ K v es = some r
theorem okn_yy19 {R : Type} : Ok_yy19 (R := R) (fun _ _ _ => none) := fun _ _ _ _ h => no_some h
theorem shok_53 {R : Type} {c_yy19 : T47 R} (h_yy19 : Ok_yy19 c_yy19) : ShOk Tryd.prog glob raw 53 (sh53 c_yy19) := by
 intro av es K r h
 unfold sh53 at h
 split at h
 ·exact h_yy19 _ _ _ _ h
 ·exact no_some h
def Ok_yy36 {R : Type} (c : T66 R) : Prop := ∀ (v1 : LB) (v2 : LB) (K : S → List Ent → Option R) (r : R), c v1 v2 (fun (r0 : Bool) => K (.bool r0) []) = some r → ∃ v es, FnOk Tryd.prog glob 54 (npF raw 54 []) [.sl .bool v1, .sl .bool v2] [] v es ∧ K v es = some r
theorem okn_yy36 {R : Type} : Ok_yy36 (R := R) (fun _ _ _ => none) := fun _ _ _ _ h => no_some h
theorem shok_54 {R : Type} {c_yy36 : T66 R} (h_yy36 : Ok_yy36 c_yy36) : ShOk Tryd.prog glob raw 54 (sh54 c_yy36) := by
 intro av es K r h
 unfold sh54 at h
 split at h
 ·exact h_yy36 _ _ _ _ h
 ·exact no_some h
def Ok_yy35 {R : Type} (c : T67 R) : Prop := ∀ (v1 : LL) (v2 : LL) (K : S → List Ent → Option R) (r : R), c v1 v2 (fun (r0 : Bool) => K (.bool r0) []) = some r → ∃ v es, FnOk Tryd.prog glob 55 (npF raw 55 []) [.sl (.slice (.int .i64)) v1, .sl (.slice (.int .i64)) v2, .fn 56 []] [] v es ∧ K v es = some r
theorem okn_yy35 {R : Type} : Ok_yy35 (R := R) (fun _ _ _ => none) := fun _ _ _ _ h => no_some h
theorem shok_55 {R : Type} {c_yy35 : T67 R} (h_yy35 : Ok_yy35 c_yy35) : ShOk Tryd.prog glob raw 55 (sh55 c_yy35) := by
 intro av es K r h
 unfold sh55 at h
 split at h
 ·exact h_yy35 _ _ _ _ h
 ·exact no_some h
def Ok_yy21 {R : Type} (c : T3 R) : Prop := ∀ (v1 : LI) (v2 : LI) (K : S → List Ent → Option R) (r : R), c v1 v2 (fun (r0 : Bool) => K (.bool r0) []) = some r → ∃ v es, FnOk Tryd.prog glob 56 (npF raw 56 []) [.sl (.int .i64) v1, .sl (.int .i64) v2] [] v es ∧ K v es = some r
theorem okn_yy21 {R : Type} : Ok_yy21 (R := R) (fun _ _ _ => none) := fun _ _ _ _ h => no_some h
theorem shok_56 {R : Type} {c_yy21 : T3 R} (h_yy21 : Ok_yy21 c_yy21) : ShOk Tryd.prog glob raw 56 (sh56 c_yy21) := by
 intro av es K r h
 unfold sh56 at h
 split at h
 ·exact h_yy21 _ _ _ _ h
 ·exact no_some h
def Ok_yy37 {R : Type} (c : T3 R) : Prop := ∀ (v1 : LI) (v2 : LI) (K : S → List Ent → Option R) (r : R), c v1 v2 (fun (r0 : Bool) => K (.bool r0) []) = some r → ∃ v es, FnOk Tryd.prog glob 57 (npF raw 57 []) [.sl (.int .i64) v1, .sl (.int .i64) v2] [] v es ∧ K v es = some r
theorem okn_yy37 {R : Type} : Ok_yy37 (R := R) (fun _ _ _ => none) := fun _ _ _ _ h => no_some h
theorem shok_57 {R : Type} {c_yy37 : T3 R} (h_yy37 : Ok_yy37 c_yy37) : ShOk Tryd.prog glob raw 57 (sh57 c_yy37) := by
 intro av es K r h
 unfold sh57 at h
 split at h
 ·exact h_yy37 _ _ _ _ h
 ·exact no_some h
def Ok_yy16 {R : Type} (c : T2 R) : Prop := ∀ (v1 : LI) (v2 : LL) (v3 : LB) (K : S → List Ent → Option R) (r : R), c v1 v2 v3 (fun (r0 : LI) => K (.own (.int .i64) 0) [.buf (.int .i64) r0 false]) = some r → ∃ v es, FnOk Tryd.prog glob 58 (npF raw 58 []) [.st [.arr 256 (.int .u8) v1, .sl (.slice (.int .i64)) v2, .sl .bool v3]] [] v es ∧ K v es = some r
theorem okn_yy16 {R : Type} : Ok_yy16 (R := R) (fun _ _ _ _ => none) := fun _ _ _ _ _ h => no_some h
theorem shok_58 {R : Type} {c_yy16 : T2 R} (h_yy16 : Ok_yy16 c_yy16) : ShOk Tryd.prog glob raw 58 (sh58 c_yy16) := by
 intro av es K r h
 unfold sh58 at h
 split at h
 ·exact h_yy16 _ _ _ _ _ h
 ·exact no_some h
def Ok_yy15 {R : Type} (c : T10 R) : Prop := ∀ (v1 : LI) (v2 : LL) (v3 : LB) (v4 : LI) (K : S → List Ent → Option R) (r : R), c v1 v2 v3 v4 (fun (r0 : LI) (r1 : (List (Int × Int))) => K (.tup [.own (.int .i64) 0, .mp 1]) [.buf (.int .i64) r0 false, .map (.int .i64) (.int .i64) r1 false]) = some r → ∃ v es, FnOk Tryd.prog glob 59 (npF raw 59 []) [.st [.arr 256 (.int .u8) v1, .sl (.slice (.int .i64)) v2, .sl .bool v3], .sl (.int .i64) v4] [] v es ∧ K v es = some r
theorem okn_yy15 {R : Type} : Ok_yy15 (R := R) (fun _ _ _ _ _ => none) := fun _ _ _ _ _ _ h => no_some h
theorem shok_59 {R : Type} {c_yy15 : T10 R} (h_yy15 : Ok_yy15 c_yy15) : ShOk Tryd.prog glob raw 59 (sh59 c_yy15) := by
 intro av es K r h
 unfold sh59 at h
 split at h
 ·exact h_yy15 _ _ _ _ _ _ h
 ·exact no_some h
def Ok_yy38 {R : Type} (c : T11 R) : Prop := ∀ (v1 : LL) (v2 : LI) (K : S → List Ent → Option R) (r : R), c v1 v2 (fun (r0 : Int) (r1 : LI) => K (.int .i64 r0) [.box (.own (.int .i64) 1) false, .buf (.int .i64) r1 false]) = some r → ∃ v es, FnOk Tryd.prog glob 60 (npF raw 60 [.box (.own (.int .i64) 1) false, .buf (.int .i64) v2 false]) [.sl (.slice (.int .i64)) v1, .fn 61 [.ptr 0 []]] [.box (.own (.int .i64) 1) false, .buf (.int .i64) v2 false] v es ∧ K v es = some r
theorem okn_yy38 {R : Type} : Ok_yy38 (R := R) (fun _ _ _ => none) := fun _ _ _ _ h => no_some h
theorem shok_60 {R : Type} {c_yy38 : T11 R} (h_yy38 : Ok_yy38 c_yy38) : ShOk Tryd.prog glob raw 60 (sh60 c_yy38) := by
 intro av es K r h
 unfold sh60 at h
 split at h
 ·exact h_yy38 _ _ _ _ h
 ·exact no_some h
def Ok_yy13 {R : Type} (c : T51 R) : Prop := ∀ (v1 : LI) (v2 : LI) (K : S → List Ent → Option R) (r : R), c v1 v2 (fun (r0 : Bool) (r1 : LI) => K (.bool r0) [.box (.own (.int .i64) 1) false, .buf (.int .i64) r1 false]) = some r → ∃ v es, FnOk Tryd.prog glob 61 (npF raw 61 [.box (.own (.int .i64) 1) false, .buf (.int .i64) v2 false]) [.sl (.int .i64) v1, .ptr 0 []] [.box (.own (.int .i64) 1) false, .buf (.int .i64) v2 false] v es ∧ K v es = some r
theorem okn_yy13 {R : Type} : Ok_yy13 (R := R) (fun _ _ _ => none) := fun _ _ _ _ h => no_some h
theorem shok_61 {R : Type} {c_yy13 : T51 R} (h_yy13 : Ok_yy13 c_yy13) : ShOk Tryd.prog glob raw 61 (sh61 c_yy13) := by
 intro av es K r h
 unfold sh61 at h
 split at h
 ·exact h_yy13 _ _ _ _ h
 ·exact no_some h
def Ok_yy40 {R : Type} (c : LI → (Int → Option R) → Option R) : Prop := ∀ (v1 : LI) (K : S → List Ent → Option R) (r : R), c v1 (fun (r0 : Int) => K (.int .u8 r0) []) = some r → ∃ v es, FnOk Tryd.prog glob 62 (npF raw 62 []) [.sl (.int .u8) v1] [] v es ∧ K v es = some r
theorem okn_yy40 {R : Type} : Ok_yy40 (R := R) (fun _ _ => none) := fun _ _ _ h => no_some h
theorem shok_62 {R : Type} {c_yy40 : LI → (Int → Option R) → Option R} (h_yy40 : Ok_yy40 c_yy40) : ShOk Tryd.prog glob raw 62 (sh62 c_yy40) := by
 intro av es K r h
 unfold sh62 at h
 split at h
 ·exact h_yy40 _ _ _ h
 ·exact no_some h
def Ok_yy23 {R : Type} (c : T68 R) : Prop := ∀ (v1 : LI) (v2 : Int) (v3 : Int) (K : S → List Ent → Option R) (r : R), c v1 v2 v3 (fun (r0 : Int) (r1 : Int) => K (.tup [.int .u64 r0, .int .i64 r1]) []) = some r → ∃ v es, FnOk Tryd.prog glob 63 (npF raw 63 []) [.sl (.int .u8) v1, .int .i64 v2, .int .i64 v3] [] v es ∧ K v es = some r
theorem okn_yy23 {R : Type} : Ok_yy23 (R := R) (fun _ _ _ _ => none) := fun _ _ _ _ _ h => no_some h
theorem shok_63 {R : Type} {c_yy23 : T68 R} (h_yy23 : Ok_yy23 c_yy23) : ShOk Tryd.prog glob raw 63 (sh63 c_yy23) := by
 intro av es K r h
 unfold sh63 at h
 split at h
 ·exact h_yy23 _ _ _ _ _ h
 ·exact no_some h
def Ok_yy39 {R : Type} (c : T59 R) : Prop := ∀ (v1 : LI) (v2 : Int) (K : S → List Ent → Option R) (r : R), c v1 v2 (fun (r0 : Int) (r1 : Int) => K (.int .i64 r0) [.box (.int .i64 r1) false]) = some r → ∃ v es, FnOk Tryd.prog glob 67 (npF raw 67 [.box (.int .i64 v2) false]) [.sl (.int .i64) v1, .fn 53 [.ptr 0 []]] [.box (.int .i64 v2) false] v es ∧ K v es = some r
theorem okn_yy39 {R : Type} : Ok_yy39 (R := R) (fun _ _ _ => none) := fun _ _ _ _ h => no_some h
theorem shok_67 {R : Type} {c_yy39 : T59 R} (h_yy39 : Ok_yy39 c_yy39) : ShOk Tryd.prog glob raw 67 (sh67 c_yy39) := by
 intro av es K r h
 unfold sh67 at h
 split at h
 ·exact h_yy39 _ _ _ _ h
 ·exact no_some h
def Ok_yy14 {R : Type} (c : T24 R) : Prop := ∀ (v1 : Int) (v2 : LI) (v3 : LI) (K : S → List Ent → Option R) (r : R), c v1 v2 v3 (fun (r0 : LI) => K (.str r0) []) = some r → ∃ v es, FnOk Tryd.prog glob 68 (npF raw 68 []) [.int .i64 v1, .sl (.int .i64) v2, .sl (.int .i64) v3] [] v es ∧ K v es = some r
theorem okn_yy14 {R : Type} : Ok_yy14 (R := R) (fun _ _ _ _ => none) := fun _ _ _ _ _ h => no_some h
theorem shok_68 {R : Type} {c_yy14 : T24 R} (h_yy14 : Ok_yy14 c_yy14) : ShOk Tryd.prog glob raw 68 (sh68 c_yy14) := by
 intro av es K r h
 unfold sh68 at h
 split at h
 ·exact h_yy14 _ _ _ _ _ h
 ·exact no_some h
theorem t_yy40 : textOk C_yy40.bef Tryd.prog 62 = true := by kernel_rfl
theorem sln_yy40_l5 {R : Type} : SlOk (R := R) C_yy40 62 25 0 5 (sl_yy40_l5 (fun _ _ _ _ => none)) := by
 intro vs es K r h
 unfold sl_yy40_l5 at h
 split at h <;> exact no_some h
theorem lok_yy40_l5 {R : Type} (kf : Nat) : ∀ n, SlOk (R := R) C_yy40 62 25 0 5 (sl_yy40_l5 (yy40_l5 kf n)) := by
 intro n
 induction n with
 | zero =>
  intro vs es K r h
  unfold sl_yy40_l5 at h
  split at h <;> exact no_some h
 | succ k ih =>
  have hcf : CfOk (R := R) Tryd.prog glob raw (cf_yy40 (yy40_l5 kf k)) := cf_nil
  have hlf : LfOk (R := R) C_yy40 62 (lf_yy40 (yy40_l5 kf k)) := (lf_top (lf_cons ih lf_nil))
  intro vs es K r h
  unfold sl_yy40_l5 at h
  split at h
  ·exact loop_good (text_mixed t_yy40) hcf hlf (text_loop t_yy40 5).1 (text_loop t_yy40 5).2 ((eq_yy40_l5 (yy40_l5 kf k) _ _ _ K).trans h)
  ·exact no_some h
theorem ok_yy40 {R : Type} (kf : Nat) : Ok_yy40 (R := R) (yy40 kf) := by
 have hcf : CfOk (R := R) Tryd.prog glob raw (cf_yy40 (yy40_l5 kf kf)) := cf_nil
 have hlf : LfOk (R := R) C_yy40 62 (lf_yy40 (yy40_l5 kf kf)) := (lf_top (lf_cons (lok_yy40_l5 kf kf) lf_nil))
 intro v1 K r h
 exact run_good t_yy40 hcf hlf ((eq_yy40 (yy40_l5 kf kf) v1 K).trans h)
theorem t_yy22 : textOk C_yy22.bef Tryd.prog 44 = true := by kernel_rfl
theorem ok_yy22 {R : Type} (kf : Nat) : Ok_yy22 (R := R) (yy22 kf) := by
 have hcf : CfOk (R := R) Tryd.prog glob raw (cf_yy22 (yy40 kf)) := (cf_cons (shok_62 (ok_yy40 kf)) cf_nil)
 have hlf : LfOk (R := R) C_yy22 44 (lf_yy22 (yy40 kf)) := lf_none
 intro v1 v2 v3 K r h
 exact run_good t_yy22 hcf hlf ((eq_yy22 (yy40 kf) v1 v2 v3 K).trans h)
theorem t_yy19 : textOk C_yy19.bef Tryd.prog 53 = true := by kernel_rfl
theorem ok_yy19 {R : Type} : Ok_yy19 (R := R) (yy19) := by
 have hcf : CfOk (R := R) Tryd.prog glob raw (cf_yy19) := cf_nil
 have hlf : LfOk (R := R) C_yy19 53 (lf_yy19) := lf_none
 intro v1 v2 K r h
 exact run_good t_yy19 hcf hlf ((eq_yy19 v1 v2 K).trans h)
theorem t_yy39 : textOk C_yy39.bef Tryd.prog 67 = true := by kernel_rfl
theorem sln_yy39_l2 {R : Type} : SlOk (R := R) C_yy39 67 19 1 2 (sl_yy39_l2 (fun _ _ _ _ _ _ => none)) := by
 intro vs es K r h
 unfold sl_yy39_l2 at h
 split at h <;> exact no_some h
theorem lok_yy39_l2 {R : Type} (kf : Nat) : ∀ n, SlOk (R := R) C_yy39 67 19 1 2 (sl_yy39_l2 (yy39_l2 kf n)) := by
 intro n
 induction n with
 | zero =>
  intro vs es K r h
  unfold sl_yy39_l2 at h
  split at h <;> exact no_some h
 | succ k ih =>
  have hcf : CfOk (R := R) Tryd.prog glob raw (cf_yy39 yy19 (yy39_l2 kf k)) := (cf_cons (shok_53 ok_yy19) cf_nil)
  have hlf : LfOk (R := R) C_yy39 67 (lf_yy39 yy19 (yy39_l2 kf k)) := (lf_top (lf_cons ih lf_nil))
  intro vs es K r h
  unfold sl_yy39_l2 at h
  split at h
  ·exact loop_good (text_mixed t_yy39) hcf hlf (text_loop t_yy39 2).1 (text_loop t_yy39 2).2 ((eq_yy39_l2 yy19 (yy39_l2 kf k) _ _ _ _ K).trans h)
  ·exact no_some h
theorem ok_yy39 {R : Type} (kf : Nat) : Ok_yy39 (R := R) (yy39 kf) := by
 have hcf : CfOk (R := R) Tryd.prog glob raw (cf_yy39 yy19 (yy39_l2 kf kf)) := (cf_cons (shok_53 ok_yy19) cf_nil)
 have hlf : LfOk (R := R) C_yy39 67 (lf_yy39 yy19 (yy39_l2 kf kf)) := (lf_top (lf_cons (lok_yy39_l2 kf kf) lf_nil))
 intro v1 v2 K r h
 exact run_good t_yy39 hcf hlf ((eq_yy39 yy19 (yy39_l2 kf kf) v1 v2 K).trans h)
theorem t_yy34 : textOk C_yy34.bef Tryd.prog 52 = true := by kernel_rfl
theorem ok_yy34 {R : Type} (kf : Nat) : Ok_yy34 (R := R) (yy34 kf) := by
 have hcf : CfOk (R := R) Tryd.prog glob raw (cf_yy34 (yy39 kf)) := (cf_cons (shok_67 (ok_yy39 kf)) cf_nil)
 have hlf : LfOk (R := R) C_yy34 52 (lf_yy34 (yy39 kf)) := lf_none
 intro v1 v2 K r h
 exact run_good t_yy34 hcf hlf ((eq_yy34 (yy39 kf) v1 v2 K).trans h)
theorem t_yy18 : textOk C_yy18.bef Tryd.prog 41 = true := by kernel_rfl
theorem sln_yy18_l6 {R : Type} : SlOk (R := R) C_yy18 41 42 0 6 (sl_yy18_l6 (fun _ _ _ _ _ _ _ => none)) := by
 intro vs es K r h
 unfold sl_yy18_l6 at h
 split at h <;> exact no_some h
theorem lok_yy18_l6 {R : Type} (kf : Nat) : ∀ n, SlOk (R := R) C_yy18 41 42 0 6 (sl_yy18_l6 (yy18_l6 kf n)) := by
 intro n
 induction n with
 | zero =>
  intro vs es K r h
  unfold sl_yy18_l6 at h
  split at h <;> exact no_some h
 | succ k ih =>
  have hcf : CfOk (R := R) Tryd.prog glob raw (cf_yy18 (yy22 kf) (yy34 kf) (yy18_l6 kf k)) := (cf_cons (shok_44 (ok_yy22 kf)) (cf_cons (shok_52 (ok_yy34 kf)) cf_nil))
  have hlf : LfOk (R := R) C_yy18 41 (lf_yy18 (yy22 kf) (yy34 kf) (yy18_l6 kf k)) := (lf_top (lf_cons ih lf_nil))
  intro vs es K r h
  unfold sl_yy18_l6 at h
  split at h
  ·exact loop_good (text_mixed t_yy18) hcf hlf (text_loop t_yy18 6).1 (text_loop t_yy18 6).2 ((eq_yy18_l6 (yy22 kf) (yy34 kf) (yy18_l6 kf k) _ _ _ _ _ K).trans h)
  ·exact no_some h
theorem ok_yy18 {R : Type} (kf : Nat) : Ok_yy18 (R := R) (yy18 kf) := by
 have hcf : CfOk (R := R) Tryd.prog glob raw (cf_yy18 (yy22 kf) (yy34 kf) (yy18_l6 kf kf)) := (cf_cons (shok_44 (ok_yy22 kf)) (cf_cons (shok_52 (ok_yy34 kf)) cf_nil))
 have hlf : LfOk (R := R) C_yy18 41 (lf_yy18 (yy22 kf) (yy34 kf) (yy18_l6 kf kf)) := (lf_top (lf_cons (lok_yy18_l6 kf kf) lf_nil))
 intro v1 v2 v3 K r h
 exact run_good t_yy18 hcf hlf ((eq_yy18 (yy22 kf) (yy34 kf) (yy18_l6 kf kf) v1 v2 v3 K).trans h)
theorem t_yy14 : textOk C_yy14.bef Tryd.prog 68 = true := by kernel_rfl
theorem sln_yy14_l3 {R : Type} : SlOk (R := R) C_yy14 68 39 0 3 (sl_yy14_l3 (fun _ _ _ _ _ _ => none)) := by
 intro vs es K r h
 unfold sl_yy14_l3 at h
 split at h <;> exact no_some h
theorem lok_yy14_l3 {R : Type} (kf : Nat) : ∀ n, SlOk (R := R) C_yy14 68 39 0 3 (sl_yy14_l3 (yy14_l3 kf n)) := by
 intro n
 induction n with
 | zero =>
  intro vs es K r h
  unfold sl_yy14_l3 at h
  split at h <;> exact no_some h
 | succ k ih =>
  have hcf : CfOk (R := R) Tryd.prog glob raw (cf_yy14 (yy14_l3 kf k)) := cf_nil
  have hlf : LfOk (R := R) C_yy14 68 (lf_yy14 (yy14_l3 kf k)) := (lf_top (lf_cons ih lf_nil))
  intro vs es K r h
  unfold sl_yy14_l3 at h
  split at h
  ·exact loop_good (text_mixed t_yy14) hcf hlf (text_loop t_yy14 3).1 (text_loop t_yy14 3).2 ((eq_yy14_l3 (yy14_l3 kf k) _ _ _ _ _ K).trans h)
  ·exact no_some h
theorem ok_yy14 {R : Type} (kf : Nat) : Ok_yy14 (R := R) (yy14 kf) := by
 have hcf : CfOk (R := R) Tryd.prog glob raw (cf_yy14 (yy14_l3 kf kf)) := cf_nil
 have hlf : LfOk (R := R) C_yy14 68 (lf_yy14 (yy14_l3 kf kf)) := (lf_top (lf_cons (lok_yy14_l3 kf kf) lf_nil))
 intro v1 v2 v3 K r h
 exact run_good t_yy14 hcf hlf ((eq_yy14 (yy14_l3 kf kf) v1 v2 v3 K).trans h)
theorem t_yy16 : textOk C_yy16.bef Tryd.prog 58 = true := by kernel_rfl
theorem sln_yy16_l4 {R : Type} : SlOk (R := R) C_yy16 58 81 0 4 (sl_yy16_l4 (fun _ _ _ _ _ _ _ _ _ => none)) := by
 intro vs es K r h
 unfold sl_yy16_l4 at h
 split at h <;> exact no_some h
theorem sln_yy16_l9 {R : Type} : SlOk (R := R) C_yy16 58 81 0 9 (sl_yy16_l9 (fun _ _ _ _ _ _ => none)) := by
 intro vs es K r h
 unfold sl_yy16_l9 at h
 split at h <;> exact no_some h
theorem sln_yy16_l12 {R : Type} : SlOk (R := R) C_yy16 58 81 0 12 (sl_yy16_l12 (fun _ _ _ _ _ _ _ _ _ _ _ => none)) := by
 intro vs es K r h
 unfold sl_yy16_l12 at h
 split at h <;> exact no_some h
theorem lok_yy16_l4 {R : Type} (kf : Nat) : ∀ n, SlOk (R := R) C_yy16 58 81 0 4 (sl_yy16_l4 (yy16_l4 kf n)) := by
 intro n
 induction n with
 | zero =>
  intro vs es K r h
  unfold sl_yy16_l4 at h
  split at h <;> exact no_some h
 | succ k ih =>
  have hcf : CfOk (R := R) Tryd.prog glob raw (cf_yy16 (yy14 kf) (yy16_l4 kf k) (fun _ _ _ _ _ _ => none) (fun _ _ _ _ _ _ _ _ _ _ _ => none)) := (cf_cons (shok_68 (ok_yy14 kf)) cf_nil)
  have hlf : LfOk (R := R) C_yy16 58 (lf_yy16 (yy14 kf) (yy16_l4 kf k) (fun _ _ _ _ _ _ => none) (fun _ _ _ _ _ _ _ _ _ _ _ => none)) := (lf_top (lf_cons ih (lf_cons (sln_yy16_l9) (lf_cons (sln_yy16_l12) lf_nil))))
  intro vs es K r h
  unfold sl_yy16_l4 at h
  split at h
  ·exact loop_good (text_mixed t_yy16) hcf hlf (text_loop t_yy16 4).1 (text_loop t_yy16 4).2 ((eq_yy16_l4 (yy14 kf) (yy16_l4 kf k) (fun _ _ _ _ _ _ => none) (fun _ _ _ _ _ _ _ _ _ _ _ => none) _ _ _ _ _ _ _ _ K).trans h)
  ·exact no_some h
theorem lok_yy16_l12 {R : Type} (kf : Nat) : ∀ n, SlOk (R := R) C_yy16 58 81 0 12 (sl_yy16_l12 (yy16_l12 kf n)) := by
 intro n
 induction n with
 | zero =>
  intro vs es K r h
  unfold sl_yy16_l12 at h
  split at h <;> exact no_some h
 | succ k ih =>
  have hcf : CfOk (R := R) Tryd.prog glob raw (cf_yy16 (yy14 kf) (yy16_l4 kf k) (fun _ _ _ _ _ _ => none) (yy16_l12 kf k)) := (cf_cons (shok_68 (ok_yy14 kf)) cf_nil)
  have hlf : LfOk (R := R) C_yy16 58 (lf_yy16 (yy14 kf) (yy16_l4 kf k) (fun _ _ _ _ _ _ => none) (yy16_l12 kf k)) := (lf_top (lf_cons (lok_yy16_l4 kf k) (lf_cons (sln_yy16_l9) (lf_cons ih lf_nil))))
  intro vs es K r h
  unfold sl_yy16_l12 at h
  split at h
  ·exact loop_good (text_mixed t_yy16) hcf hlf (text_loop t_yy16 12).1 (text_loop t_yy16 12).2 ((eq_yy16_l12 (yy14 kf) (yy16_l4 kf k) (fun _ _ _ _ _ _ => none) (yy16_l12 kf k) _ _ _ _ _ _ _ _ _ _ K).trans h)
  ·exact no_some h
theorem lok_yy16_l9 {R : Type} (kf : Nat) : ∀ n, SlOk (R := R) C_yy16 58 81 0 9 (sl_yy16_l9 (yy16_l9 kf n)) := by
 intro n
 induction n with
 | zero =>
  intro vs es K r h
  unfold sl_yy16_l9 at h
  split at h <;> exact no_some h
 | succ k ih =>
  have hcf : CfOk (R := R) Tryd.prog glob raw (cf_yy16 (yy14 kf) (yy16_l4 kf k) (yy16_l9 kf k) (yy16_l12 kf k)) := (cf_cons (shok_68 (ok_yy14 kf)) cf_nil)
  have hlf : LfOk (R := R) C_yy16 58 (lf_yy16 (yy14 kf) (yy16_l4 kf k) (yy16_l9 kf k) (yy16_l12 kf k)) := (lf_top (lf_cons (lok_yy16_l4 kf k) (lf_cons ih (lf_cons (lok_yy16_l12 kf k) lf_nil))))
  intro vs es K r h
  unfold sl_yy16_l9 at h
  split at h
  ·exact loop_good (text_mixed t_yy16) hcf hlf (text_loop t_yy16 9).1 (text_loop t_yy16 9).2 ((eq_yy16_l9 (yy14 kf) (yy16_l4 kf k) (yy16_l9 kf k) (yy16_l12 kf k) _ _ _ _ _ K).trans h)
  ·exact no_some h
theorem ok_yy16 {R : Type} (kf : Nat) : Ok_yy16 (R := R) (yy16 kf) := by
 have hcf : CfOk (R := R) Tryd.prog glob raw (cf_yy16 (yy14 kf) (yy16_l4 kf kf) (yy16_l9 kf kf) (yy16_l12 kf kf)) := (cf_cons (shok_68 (ok_yy14 kf)) cf_nil)
 have hlf : LfOk (R := R) C_yy16 58 (lf_yy16 (yy14 kf) (yy16_l4 kf kf) (yy16_l9 kf kf) (yy16_l12 kf kf)) := (lf_top (lf_cons (lok_yy16_l4 kf kf) (lf_cons (lok_yy16_l9 kf kf) (lf_cons (lok_yy16_l12 kf kf) lf_nil))))
 intro v1 v2 v3 K r h
 exact run_good t_yy16 hcf hlf ((eq_yy16 (yy14 kf) (yy16_l4 kf kf) (yy16_l9 kf kf) (yy16_l12 kf kf) v1 v2 v3 K).trans h)
theorem t_yy15 : textOk C_yy15.bef Tryd.prog 59 = true := by kernel_rfl
theorem sln_yy15_l4 {R : Type} : SlOk (R := R) C_yy15 59 65 0 4 (sl_yy15_l4 (fun _ _ _ _ _ _ _ _ => none)) := by
 intro vs es K r h
 unfold sl_yy15_l4 at h
 split at h <;> exact no_some h
theorem sln_yy15_l7 {R : Type} : SlOk (R := R) C_yy15 59 65 0 7 (sl_yy15_l7 (fun _ _ _ _ _ _ _ _ _ => none)) := by
 intro vs es K r h
 unfold sl_yy15_l7 at h
 split at h <;> exact no_some h
theorem lok_yy15_l7 {R : Type} (kf : Nat) : ∀ n, SlOk (R := R) C_yy15 59 65 0 7 (sl_yy15_l7 (yy15_l7 kf n)) := by
 intro n
 induction n with
 | zero =>
  intro vs es K r h
  unfold sl_yy15_l7 at h
  split at h <;> exact no_some h
 | succ k ih =>
  have hcf : CfOk (R := R) Tryd.prog glob raw (cf_yy15 (fun _ _ _ _ _ _ _ _ => none) (yy15_l7 kf k)) := cf_nil
  have hlf : LfOk (R := R) C_yy15 59 (lf_yy15 (fun _ _ _ _ _ _ _ _ => none) (yy15_l7 kf k)) := (lf_top (lf_cons (sln_yy15_l4) (lf_cons ih lf_nil)))
  intro vs es K r h
  unfold sl_yy15_l7 at h
  split at h
  ·exact loop_good (text_mixed t_yy15) hcf hlf (text_loop t_yy15 7).1 (text_loop t_yy15 7).2 ((eq_yy15_l7 (fun _ _ _ _ _ _ _ _ => none) (yy15_l7 kf k) _ _ _ _ _ _ _ _ K).trans h)
  ·exact no_some h
theorem lok_yy15_l4 {R : Type} (kf : Nat) : ∀ n, SlOk (R := R) C_yy15 59 65 0 4 (sl_yy15_l4 (yy15_l4 kf n)) := by
 intro n
 induction n with
 | zero =>
  intro vs es K r h
  unfold sl_yy15_l4 at h
  split at h <;> exact no_some h
 | succ k ih =>
  have hcf : CfOk (R := R) Tryd.prog glob raw (cf_yy15 (yy15_l4 kf k) (yy15_l7 kf k)) := cf_nil
  have hlf : LfOk (R := R) C_yy15 59 (lf_yy15 (yy15_l4 kf k) (yy15_l7 kf k)) := (lf_top (lf_cons ih (lf_cons (lok_yy15_l7 kf k) lf_nil)))
  intro vs es K r h
  unfold sl_yy15_l4 at h
  split at h
  ·exact loop_good (text_mixed t_yy15) hcf hlf (text_loop t_yy15 4).1 (text_loop t_yy15 4).2 ((eq_yy15_l4 (yy15_l4 kf k) (yy15_l7 kf k) _ _ _ _ _ _ _ K).trans h)
  ·exact no_some h
theorem ok_yy15 {R : Type} (kf : Nat) : Ok_yy15 (R := R) (yy15 kf) := by
 have hcf : CfOk (R := R) Tryd.prog glob raw (cf_yy15 (yy15_l4 kf kf) (yy15_l7 kf kf)) := cf_nil
 have hlf : LfOk (R := R) C_yy15 59 (lf_yy15 (yy15_l4 kf kf) (yy15_l7 kf kf)) := (lf_top (lf_cons (lok_yy15_l4 kf kf) (lf_cons (lok_yy15_l7 kf kf) lf_nil)))
 intro v1 v2 v3 v4 K r h
 exact run_good t_yy15 hcf hlf ((eq_yy15 (yy15_l4 kf kf) (yy15_l7 kf kf) v1 v2 v3 v4 K).trans h)
theorem t_yy37 : textOk C_yy37.bef Tryd.prog 57 = true := by kernel_rfl
theorem sln_yy37_l4 {R : Type} : SlOk (R := R) C_yy37 57 26 0 4 (sl_yy37_l4 (fun _ _ _ _ _ _ => none)) := by
 intro vs es K r h
 unfold sl_yy37_l4 at h
 split at h <;> exact no_some h
theorem lok_yy37_l4 {R : Type} (kf : Nat) : ∀ n, SlOk (R := R) C_yy37 57 26 0 4 (sl_yy37_l4 (yy37_l4 kf n)) := by
 intro n
 induction n with
 | zero =>
  intro vs es K r h
  unfold sl_yy37_l4 at h
  split at h <;> exact no_some h
 | succ k ih =>
  have hcf : CfOk (R := R) Tryd.prog glob raw (cf_yy37 (yy37_l4 kf k)) := cf_nil
  have hlf : LfOk (R := R) C_yy37 57 (lf_yy37 (yy37_l4 kf k)) := (lf_top (lf_cons ih lf_nil))
  intro vs es K r h
  unfold sl_yy37_l4 at h
  split at h
  ·exact loop_good (text_mixed t_yy37) hcf hlf (text_loop t_yy37 4).1 (text_loop t_yy37 4).2 ((eq_yy37_l4 (yy37_l4 kf k) _ _ _ _ K).trans h)
  ·exact no_some h
theorem ok_yy37 {R : Type} (kf : Nat) : Ok_yy37 (R := R) (yy37 kf) := by
 have hcf : CfOk (R := R) Tryd.prog glob raw (cf_yy37 (yy37_l4 kf kf)) := cf_nil
 have hlf : LfOk (R := R) C_yy37 57 (lf_yy37 (yy37_l4 kf kf)) := (lf_top (lf_cons (lok_yy37_l4 kf kf) lf_nil))
 intro v1 v2 K r h
 exact run_good t_yy37 hcf hlf ((eq_yy37 (yy37_l4 kf kf) v1 v2 K).trans h)
theorem t_yy13 : textOk C_yy13.bef Tryd.prog 61 = true := by kernel_rfl
theorem ok_yy13 {R : Type} (kf : Nat) : Ok_yy13 (R := R) (yy13 kf) := by
 have hcf : CfOk (R := R) Tryd.prog glob raw (cf_yy13 (yy37 kf)) := (cf_cons (shok_57 (ok_yy37 kf)) cf_nil)
 have hlf : LfOk (R := R) C_yy13 61 (lf_yy13 (yy37 kf)) := lf_none
 intro v1 v2 K r h
 exact run_good t_yy13 hcf hlf ((eq_yy13 (yy37 kf) v1 v2 K).trans h)
theorem t_yy38 : textOk C_yy38.bef Tryd.prog 60 = true := by kernel_rfl
theorem sln_yy38_l2 {R : Type} : SlOk (R := R) C_yy38 60 19 1 2 (sl_yy38_l2 (fun _ _ _ _ _ _ => none)) := by
 intro vs es K r h
 unfold sl_yy38_l2 at h
 split at h <;> exact no_some h
theorem lok_yy38_l2 {R : Type} (kf : Nat) : ∀ n, SlOk (R := R) C_yy38 60 19 1 2 (sl_yy38_l2 (yy38_l2 kf n)) := by
 intro n
 induction n with
 | zero =>
  intro vs es K r h
  unfold sl_yy38_l2 at h
  split at h <;> exact no_some h
 | succ k ih =>
  have hcf : CfOk (R := R) Tryd.prog glob raw (cf_yy38 (yy13 kf) (yy38_l2 kf k)) := (cf_cons (shok_61 (ok_yy13 kf)) cf_nil)
  have hlf : LfOk (R := R) C_yy38 60 (lf_yy38 (yy13 kf) (yy38_l2 kf k)) := (lf_top (lf_cons ih lf_nil))
  intro vs es K r h
  unfold sl_yy38_l2 at h
  split at h
  ·exact loop_good (text_mixed t_yy38) hcf hlf (text_loop t_yy38 2).1 (text_loop t_yy38 2).2 ((eq_yy38_l2 (yy13 kf) (yy38_l2 kf k) _ _ _ _ K).trans h)
  ·exact no_some h
theorem ok_yy38 {R : Type} (kf : Nat) : Ok_yy38 (R := R) (yy38 kf) := by
 have hcf : CfOk (R := R) Tryd.prog glob raw (cf_yy38 (yy13 kf) (yy38_l2 kf kf)) := (cf_cons (shok_61 (ok_yy13 kf)) cf_nil)
 have hlf : LfOk (R := R) C_yy38 60 (lf_yy38 (yy13 kf) (yy38_l2 kf kf)) := (lf_top (lf_cons (lok_yy38_l2 kf kf) lf_nil))
 intro v1 v2 K r h
 exact run_good t_yy38 hcf hlf ((eq_yy38 (yy13 kf) (yy38_l2 kf kf) v1 v2 K).trans h)
theorem t_yy12 : textOk C_yy12.bef Tryd.prog 43 = true := by kernel_rfl
theorem sln_yy12_l8 {R : Type} : SlOk (R := R) C_yy12 43 115 0 8 (sl_yy12_l8 (fun _ _ _ _ _ _ _ _ _ _ _ _ _ _ _ => none)) := by
 intro vs es K r h
 unfold sl_yy12_l8 at h
 split at h <;> exact no_some h
theorem sln_yy12_l12 {R : Type} : SlOk (R := R) C_yy12 43 115 0 12 (sl_yy12_l12 (fun _ _ _ _ _ _ _ _ _ _ _ _ _ _ _ _ _ _ _ => none)) := by
 intro vs es K r h
 unfold sl_yy12_l12 at h
 split at h <;> exact no_some h
theorem sln_yy12_l23 {R : Type} : SlOk (R := R) C_yy12 43 115 0 23 (sl_yy12_l23 (fun _ _ _ _ _ _ _ _ _ _ _ _ _ _ => none)) := by
 intro vs es K r h
 unfold sl_yy12_l23 at h
 split at h <;> exact no_some h
theorem sln_yy12_l27 {R : Type} : SlOk (R := R) C_yy12 43 115 0 27 (sl_yy12_l27 (fun _ _ _ _ _ _ _ _ _ _ _ _ _ _ _ _ _ _ _ => none)) := by
 intro vs es K r h
 unfold sl_yy12_l27 at h
 split at h <;> exact no_some h
theorem lok_yy12_l12 {R : Type} (kf : Nat) : ∀ n, SlOk (R := R) C_yy12 43 115 0 12 (sl_yy12_l12 (yy12_l12 kf n)) := by
 intro n
 induction n with
 | zero =>
  intro vs es K r h
  unfold sl_yy12_l12 at h
  split at h <;> exact no_some h
 | succ k ih =>
  have hcf : CfOk (R := R) Tryd.prog glob raw (cf_yy12 (yy18 kf) (yy16 kf) (yy15 kf) (yy38 kf) (fun _ _ _ _ _ _ _ _ _ _ _ _ _ _ _ => none) (yy12_l12 kf k) (fun _ _ _ _ _ _ _ _ _ _ _ _ _ _ => none) (fun _ _ _ _ _ _ _ _ _ _ _ _ _ _ _ _ _ _ _ => none)) := (cf_cons (shok_41 (ok_yy18 kf)) (cf_cons (shok_58 (ok_yy16 kf)) (cf_cons (shok_59 (ok_yy15 kf)) (cf_cons (shok_60 (ok_yy38 kf)) cf_nil))))
  have hlf : LfOk (R := R) C_yy12 43 (lf_yy12 (yy18 kf) (yy16 kf) (yy15 kf) (yy38 kf) (fun _ _ _ _ _ _ _ _ _ _ _ _ _ _ _ => none) (yy12_l12 kf k) (fun _ _ _ _ _ _ _ _ _ _ _ _ _ _ => none) (fun _ _ _ _ _ _ _ _ _ _ _ _ _ _ _ _ _ _ _ => none)) := (lf_top (lf_cons (sln_yy12_l8) (lf_cons ih (lf_cons (sln_yy12_l23) (lf_cons (sln_yy12_l27) lf_nil)))))
  intro vs es K r h
  unfold sl_yy12_l12 at h
  split at h
  ·exact loop_good (text_mixed t_yy12) hcf hlf (text_loop t_yy12 12).1 (text_loop t_yy12 12).2 ((eq_yy12_l12 (yy18 kf) (yy16 kf) (yy15 kf) (yy38 kf) (fun _ _ _ _ _ _ _ _ _ _ _ _ _ _ _ => none) (yy12_l12 kf k) (fun _ _ _ _ _ _ _ _ _ _ _ _ _ _ => none) (fun _ _ _ _ _ _ _ _ _ _ _ _ _ _ _ _ _ _ _ => none) _ _ _ _ _ _ _ _ _ _ _ _ _ _ _ _ _ _ K).trans h)
  ·exact no_some h
theorem lok_yy12_l8 {R : Type} (kf : Nat) : ∀ n, SlOk (R := R) C_yy12 43 115 0 8 (sl_yy12_l8 (yy12_l8 kf n)) := by
 intro n
 induction n with
 | zero =>
  intro vs es K r h
  unfold sl_yy12_l8 at h
  split at h <;> exact no_some h
 | succ k ih =>
  have hcf : CfOk (R := R) Tryd.prog glob raw (cf_yy12 (yy18 kf) (yy16 kf) (yy15 kf) (yy38 kf) (yy12_l8 kf k) (yy12_l12 kf k) (fun _ _ _ _ _ _ _ _ _ _ _ _ _ _ => none) (fun _ _ _ _ _ _ _ _ _ _ _ _ _ _ _ _ _ _ _ => none)) := (cf_cons (shok_41 (ok_yy18 kf)) (cf_cons (shok_58 (ok_yy16 kf)) (cf_cons (shok_59 (ok_yy15 kf)) (cf_cons (shok_60 (ok_yy38 kf)) cf_nil))))
  have hlf : LfOk (R := R) C_yy12 43 (lf_yy12 (yy18 kf) (yy16 kf) (yy15 kf) (yy38 kf) (yy12_l8 kf k) (yy12_l12 kf k) (fun _ _ _ _ _ _ _ _ _ _ _ _ _ _ => none) (fun _ _ _ _ _ _ _ _ _ _ _ _ _ _ _ _ _ _ _ => none)) := (lf_top (lf_cons ih (lf_cons (lok_yy12_l12 kf k) (lf_cons (sln_yy12_l23) (lf_cons (sln_yy12_l27) lf_nil)))))
  intro vs es K r h
  unfold sl_yy12_l8 at h
  split at h
  ·exact loop_good (text_mixed t_yy12) hcf hlf (text_loop t_yy12 8).1 (text_loop t_yy12 8).2 ((eq_yy12_l8 (yy18 kf) (yy16 kf) (yy15 kf) (yy38 kf) (yy12_l8 kf k) (yy12_l12 kf k) (fun _ _ _ _ _ _ _ _ _ _ _ _ _ _ => none) (fun _ _ _ _ _ _ _ _ _ _ _ _ _ _ _ _ _ _ _ => none) _ _ _ _ _ _ _ _ _ _ _ _ _ _ K).trans h)
  ·exact no_some h
theorem lok_yy12_l27 {R : Type} (kf : Nat) : ∀ n, SlOk (R := R) C_yy12 43 115 0 27 (sl_yy12_l27 (yy12_l27 kf n)) := by
 intro n
 induction n with
 | zero =>
  intro vs es K r h
  unfold sl_yy12_l27 at h
  split at h <;> exact no_some h
 | succ k ih =>
  have hcf : CfOk (R := R) Tryd.prog glob raw (cf_yy12 (yy18 kf) (yy16 kf) (yy15 kf) (yy38 kf) (yy12_l8 kf k) (yy12_l12 kf k) (fun _ _ _ _ _ _ _ _ _ _ _ _ _ _ => none) (yy12_l27 kf k)) := (cf_cons (shok_41 (ok_yy18 kf)) (cf_cons (shok_58 (ok_yy16 kf)) (cf_cons (shok_59 (ok_yy15 kf)) (cf_cons (shok_60 (ok_yy38 kf)) cf_nil))))
  have hlf : LfOk (R := R) C_yy12 43 (lf_yy12 (yy18 kf) (yy16 kf) (yy15 kf) (yy38 kf) (yy12_l8 kf k) (yy12_l12 kf k) (fun _ _ _ _ _ _ _ _ _ _ _ _ _ _ => none) (yy12_l27 kf k)) := (lf_top (lf_cons (lok_yy12_l8 kf k) (lf_cons (lok_yy12_l12 kf k) (lf_cons (sln_yy12_l23) (lf_cons ih lf_nil)))))
  intro vs es K r h
  unfold sl_yy12_l27 at h
  split at h
  ·exact loop_good (text_mixed t_yy12) hcf hlf (text_loop t_yy12 27).1 (text_loop t_yy12 27).2 ((eq_yy12_l27 (yy18 kf) (yy16 kf) (yy15 kf) (yy38 kf) (yy12_l8 kf k) (yy12_l12 kf k) (fun _ _ _ _ _ _ _ _ _ _ _ _ _ _ => none) (yy12_l27 kf k) _ _ _ _ _ _ _ _ _ _ _ _ _ _ _ _ _ _ K).trans h)
  ·exact no_some h
theorem lok_yy12_l23 {R : Type} (kf : Nat) : ∀ n, SlOk (R := R) C_yy12 43 115 0 23 (sl_yy12_l23 (yy12_l23 kf n)) := by
 intro n
 induction n with
 | zero =>
  intro vs es K r h
  unfold sl_yy12_l23 at h
  split at h <;> exact no_some h
 | succ k ih =>
  have hcf : CfOk (R := R) Tryd.prog glob raw (cf_yy12 (yy18 kf) (yy16 kf) (yy15 kf) (yy38 kf) (yy12_l8 kf k) (yy12_l12 kf k) (yy12_l23 kf k) (yy12_l27 kf k)) := (cf_cons (shok_41 (ok_yy18 kf)) (cf_cons (shok_58 (ok_yy16 kf)) (cf_cons (shok_59 (ok_yy15 kf)) (cf_cons (shok_60 (ok_yy38 kf)) cf_nil))))
  have hlf : LfOk (R := R) C_yy12 43 (lf_yy12 (yy18 kf) (yy16 kf) (yy15 kf) (yy38 kf) (yy12_l8 kf k) (yy12_l12 kf k) (yy12_l23 kf k) (yy12_l27 kf k)) := (lf_top (lf_cons (lok_yy12_l8 kf k) (lf_cons (lok_yy12_l12 kf k) (lf_cons ih (lf_cons (lok_yy12_l27 kf k) lf_nil)))))
  intro vs es K r h
  unfold sl_yy12_l23 at h
  split at h
  ·exact loop_good (text_mixed t_yy12) hcf hlf (text_loop t_yy12 23).1 (text_loop t_yy12 23).2 ((eq_yy12_l23 (yy18 kf) (yy16 kf) (yy15 kf) (yy38 kf) (yy12_l8 kf k) (yy12_l12 kf k) (yy12_l23 kf k) (yy12_l27 kf k) _ _ _ _ _ _ _ _ _ _ _ _ _ K).trans h)
  ·exact no_some h
theorem ok_yy12 {R : Type} (kf : Nat) : Ok_yy12 (R := R) (yy12 kf) := by
 have hcf : CfOk (R := R) Tryd.prog glob raw (cf_yy12 (yy18 kf) (yy16 kf) (yy15 kf) (yy38 kf) (yy12_l8 kf kf) (yy12_l12 kf kf) (yy12_l23 kf kf) (yy12_l27 kf kf)) := (cf_cons (shok_41 (ok_yy18 kf)) (cf_cons (shok_58 (ok_yy16 kf)) (cf_cons (shok_59 (ok_yy15 kf)) (cf_cons (shok_60 (ok_yy38 kf)) cf_nil))))
 have hlf : LfOk (R := R) C_yy12 43 (lf_yy12 (yy18 kf) (yy16 kf) (yy15 kf) (yy38 kf) (yy12_l8 kf kf) (yy12_l12 kf kf) (yy12_l23 kf kf) (yy12_l27 kf kf)) := (lf_top (lf_cons (lok_yy12_l8 kf kf) (lf_cons (lok_yy12_l12 kf kf) (lf_cons (lok_yy12_l23 kf kf) (lf_cons (lok_yy12_l27 kf kf) lf_nil)))))
 intro v1 v2 v3 K r h
 exact run_good t_yy12 hcf hlf ((eq_yy12 (yy18 kf) (yy16 kf) (yy15 kf) (yy38 kf) (yy12_l8 kf kf) (yy12_l12 kf kf) (yy12_l23 kf kf) (yy12_l27 kf kf) v1 v2 v3 K).trans h)
theorem t_yy36 : textOk C_yy36.bef Tryd.prog 54 = true := by kernel_rfl
theorem sln_yy36_l4 {R : Type} : SlOk (R := R) C_yy36 54 26 0 4 (sl_yy36_l4 (fun _ _ _ _ _ _ => none)) := by
 intro vs es K r h
 unfold sl_yy36_l4 at h
 split at h <;> exact no_some h
theorem lok_yy36_l4 {R : Type} (kf : Nat) : ∀ n, SlOk (R := R) C_yy36 54 26 0 4 (sl_yy36_l4 (yy36_l4 kf n)) := by
 intro n
 induction n with
 | zero =>
  intro vs es K r h
  unfold sl_yy36_l4 at h
  split at h <;> exact no_some h
 | succ k ih =>
  have hcf : CfOk (R := R) Tryd.prog glob raw (cf_yy36 (yy36_l4 kf k)) := cf_nil
  have hlf : LfOk (R := R) C_yy36 54 (lf_yy36 (yy36_l4 kf k)) := (lf_top (lf_cons ih lf_nil))
  intro vs es K r h
  unfold sl_yy36_l4 at h
  split at h
  ·exact loop_good (text_mixed t_yy36) hcf hlf (text_loop t_yy36 4).1 (text_loop t_yy36 4).2 ((eq_yy36_l4 (yy36_l4 kf k) _ _ _ _ K).trans h)
  ·exact no_some h
theorem ok_yy36 {R : Type} (kf : Nat) : Ok_yy36 (R := R) (yy36 kf) := by
 have hcf : CfOk (R := R) Tryd.prog glob raw (cf_yy36 (yy36_l4 kf kf)) := cf_nil
 have hlf : LfOk (R := R) C_yy36 54 (lf_yy36 (yy36_l4 kf kf)) := (lf_top (lf_cons (lok_yy36_l4 kf kf) lf_nil))
 intro v1 v2 K r h
 exact run_good t_yy36 hcf hlf ((eq_yy36 (yy36_l4 kf kf) v1 v2 K).trans h)
theorem t_yy21 : textOk C_yy21.bef Tryd.prog 56 = true := by kernel_rfl
theorem ok_yy21 {R : Type} (kf : Nat) : Ok_yy21 (R := R) (yy21 kf) := by
 have hcf : CfOk (R := R) Tryd.prog glob raw (cf_yy21 (yy37 kf)) := (cf_cons (shok_57 (ok_yy37 kf)) cf_nil)
 have hlf : LfOk (R := R) C_yy21 56 (lf_yy21 (yy37 kf)) := lf_none
 intro v1 v2 K r h
 exact run_good t_yy21 hcf hlf ((eq_yy21 (yy37 kf) v1 v2 K).trans h)
theorem t_yy35 : textOk C_yy35.bef Tryd.prog 55 = true := by kernel_rfl
theorem sln_yy35_l4 {R : Type} : SlOk (R := R) C_yy35 55 32 0 4 (sl_yy35_l4 (fun _ _ _ _ _ _ => none)) := by
 intro vs es K r h
 unfold sl_yy35_l4 at h
 split at h <;> exact no_some h
theorem lok_yy35_l4 {R : Type} (kf : Nat) : ∀ n, SlOk (R := R) C_yy35 55 32 0 4 (sl_yy35_l4 (yy35_l4 kf n)) := by
 intro n
 induction n with
 | zero =>
  intro vs es K r h
  unfold sl_yy35_l4 at h
  split at h <;> exact no_some h
 | succ k ih =>
  have hcf : CfOk (R := R) Tryd.prog glob raw (cf_yy35 (yy21 kf) (yy35_l4 kf k)) := (cf_cons (shok_56 (ok_yy21 kf)) cf_nil)
  have hlf : LfOk (R := R) C_yy35 55 (lf_yy35 (yy21 kf) (yy35_l4 kf k)) := (lf_top (lf_cons ih lf_nil))
  intro vs es K r h
  unfold sl_yy35_l4 at h
  split at h
  ·exact loop_good (text_mixed t_yy35) hcf hlf (text_loop t_yy35 4).1 (text_loop t_yy35 4).2 ((eq_yy35_l4 (yy21 kf) (yy35_l4 kf k) _ _ _ _ K).trans h)
  ·exact no_some h
theorem ok_yy35 {R : Type} (kf : Nat) : Ok_yy35 (R := R) (yy35 kf) := by
 have hcf : CfOk (R := R) Tryd.prog glob raw (cf_yy35 (yy21 kf) (yy35_l4 kf kf)) := (cf_cons (shok_56 (ok_yy21 kf)) cf_nil)
 have hlf : LfOk (R := R) C_yy35 55 (lf_yy35 (yy21 kf) (yy35_l4 kf kf)) := (lf_top (lf_cons (lok_yy35_l4 kf kf) lf_nil))
 intro v1 v2 K r h
 exact run_good t_yy35 hcf hlf ((eq_yy35 (yy21 kf) (yy35_l4 kf kf) v1 v2 K).trans h)
theorem t_yy20 : textOk C_yy20.bef Tryd.prog 42 = true := by kernel_rfl
theorem ok_yy20 {R : Type} (kf : Nat) : Ok_yy20 (R := R) (yy20 kf) := by
 have hcf : CfOk (R := R) Tryd.prog glob raw (cf_yy20 (yy36 kf) (yy35 kf)) := (cf_cons (shok_54 (ok_yy36 kf)) (cf_cons (shok_55 (ok_yy35 kf)) cf_nil))
 have hlf : LfOk (R := R) C_yy20 42 (lf_yy20 (yy36 kf) (yy35 kf)) := lf_none
 intro v1 v2 v3 v4 v5 v6 K r h
 exact run_good t_yy20 hcf hlf ((eq_yy20 (yy36 kf) (yy35 kf) v1 v2 v3 v4 v5 v6 K).trans h)
theorem t_yy11 : textOk C_yy11.bef Tryd.prog 33 = true := by kernel_rfl
theorem ok_yy11 {R : Type} (kf : Nat) : Ok_yy11 (R := R) (yy11 kf) := by
 have hcf : CfOk (R := R) Tryd.prog glob raw (cf_yy11 (yy18 kf) (yy12 kf) (yy20 kf)) := (cf_cons (shok_41 (ok_yy18 kf)) (cf_cons (shok_43 (ok_yy12 kf)) (cf_cons (shok_42 (ok_yy20 kf)) cf_nil)))
 have hlf : LfOk (R := R) C_yy11 33 (lf_yy11 (yy18 kf) (yy12 kf) (yy20 kf)) := lf_none
 intro v1 v2 v3 K r h
 exact run_good t_yy11 hcf hlf ((eq_yy11 (yy18 kf) (yy12 kf) (yy20 kf) v1 v2 v3 K).trans h)
theorem t_yy17 : textOk C_yy17.bef Tryd.prog 34 = true := by kernel_rfl
theorem ok_yy17 {R : Type} (kf : Nat) : Ok_yy17 (R := R) (yy17 kf) := by
 have hcf : CfOk (R := R) Tryd.prog glob raw (cf_yy17 (yy18 kf) (yy22 kf)) := (cf_cons (shok_41 (ok_yy18 kf)) (cf_cons (shok_44 (ok_yy22 kf)) cf_nil))
 have hlf : LfOk (R := R) C_yy17 34 (lf_yy17 (yy18 kf) (yy22 kf)) := lf_none
 intro v1 v2 v3 K r h
 exact run_good t_yy17 hcf hlf ((eq_yy17 (yy18 kf) (yy22 kf) v1 v2 v3 K).trans h)
theorem t_yy0 : textOk C_yy0.bef Tryd.prog 13 = true := by kernel_rfl
theorem sln_yy0_l7 {R : Type} : SlOk (R := R) C_yy0 13 96 0 7 (sl_yy0_l7 (fun _ _ _ _ _ _ => none)) := by
 intro vs es K r h
 unfold sl_yy0_l7 at h
 split at h <;> exact no_some h
theorem sln_yy0_l15 {R : Type} : SlOk (R := R) C_yy0 13 96 0 15 (sl_yy0_l15 (fun _ _ _ _ _ _ _ _ => none)) := by
 intro vs es K r h
 unfold sl_yy0_l15 at h
 split at h <;> exact no_some h
theorem sln_yy0_l22 {R : Type} : SlOk (R := R) C_yy0 13 96 0 22 (sl_yy0_l22 (fun _ _ _ _ _ _ _ _ _ _ _ => none)) := by
 intro vs es K r h
 unfold sl_yy0_l22 at h
 split at h <;> exact no_some h
theorem lok_yy0_l7 {R : Type} (kf : Nat) : ∀ n, SlOk (R := R) C_yy0 13 96 0 7 (sl_yy0_l7 (yy0_l7 kf n)) := by
 intro n
 induction n with
 | zero =>
  intro vs es K r h
  unfold sl_yy0_l7 at h
  split at h <;> exact no_some h
 | succ k ih =>
  have hcf : CfOk (R := R) Tryd.prog glob raw (cf_yy0 (yy11 kf) (yy17 kf) (yy0_l7 kf k) (fun _ _ _ _ _ _ _ _ => none) (fun _ _ _ _ _ _ _ _ _ _ _ => none)) := (cf_cons (shok_33 (ok_yy11 kf)) (cf_cons (shok_34 (ok_yy17 kf)) cf_nil))
  have hlf : LfOk (R := R) C_yy0 13 (lf_yy0 (yy11 kf) (yy17 kf) (yy0_l7 kf k) (fun _ _ _ _ _ _ _ _ => none) (fun _ _ _ _ _ _ _ _ _ _ _ => none)) := (lf_top (lf_cons ih (lf_cons (sln_yy0_l15) (lf_cons (sln_yy0_l22) lf_nil))))
  intro vs es K r h
  unfold sl_yy0_l7 at h
  split at h
  ·exact loop_good (text_mixed t_yy0) hcf hlf (text_loop t_yy0 7).1 (text_loop t_yy0 7).2 ((eq_yy0_l7 (yy11 kf) (yy17 kf) (yy0_l7 kf k) (fun _ _ _ _ _ _ _ _ => none) (fun _ _ _ _ _ _ _ _ _ _ _ => none) _ _ _ _ _ K).trans h)
  ·exact no_some h
theorem lok_yy0_l22 {R : Type} (kf : Nat) : ∀ n, SlOk (R := R) C_yy0 13 96 0 22 (sl_yy0_l22 (yy0_l22 kf n)) := by
 intro n
 induction n with
 | zero =>
  intro vs es K r h
  unfold sl_yy0_l22 at h
  split at h <;> exact no_some h
 | succ k ih =>
  have hcf : CfOk (R := R) Tryd.prog glob raw (cf_yy0 (yy11 kf) (yy17 kf) (yy0_l7 kf k) (fun _ _ _ _ _ _ _ _ => none) (yy0_l22 kf k)) := (cf_cons (shok_33 (ok_yy11 kf)) (cf_cons (shok_34 (ok_yy17 kf)) cf_nil))
  have hlf : LfOk (R := R) C_yy0 13 (lf_yy0 (yy11 kf) (yy17 kf) (yy0_l7 kf k) (fun _ _ _ _ _ _ _ _ => none) (yy0_l22 kf k)) := (lf_top (lf_cons (lok_yy0_l7 kf k) (lf_cons (sln_yy0_l15) (lf_cons ih lf_nil))))
  intro vs es K r h
  unfold sl_yy0_l22 at h
  split at h
  ·exact loop_good (text_mixed t_yy0) hcf hlf (text_loop t_yy0 22).1 (text_loop t_yy0 22).2 ((eq_yy0_l22 (yy11 kf) (yy17 kf) (yy0_l7 kf k) (fun _ _ _ _ _ _ _ _ => none) (yy0_l22 kf k) _ _ _ _ _ _ _ _ _ _ K).trans h)
  ·exact no_some h
theorem lok_yy0_l15 {R : Type} (kf : Nat) : ∀ n, SlOk (R := R) C_yy0 13 96 0 15 (sl_yy0_l15 (yy0_l15 kf n)) := by
 intro n
 induction n with
 | zero =>
  intro vs es K r h
  unfold sl_yy0_l15 at h
  split at h <;> exact no_some h
 | succ k ih =>
  have hcf : CfOk (R := R) Tryd.prog glob raw (cf_yy0 (yy11 kf) (yy17 kf) (yy0_l7 kf k) (yy0_l15 kf k) (yy0_l22 kf k)) := (cf_cons (shok_33 (ok_yy11 kf)) (cf_cons (shok_34 (ok_yy17 kf)) cf_nil))
  have hlf : LfOk (R := R) C_yy0 13 (lf_yy0 (yy11 kf) (yy17 kf) (yy0_l7 kf k) (yy0_l15 kf k) (yy0_l22 kf k)) := (lf_top (lf_cons (lok_yy0_l7 kf k) (lf_cons ih (lf_cons (lok_yy0_l22 kf k) lf_nil))))
  intro vs es K r h
  unfold sl_yy0_l15 at h
  split at h
  ·exact loop_good (text_mixed t_yy0) hcf hlf (text_loop t_yy0 15).1 (text_loop t_yy0 15).2 ((eq_yy0_l15 (yy11 kf) (yy17 kf) (yy0_l7 kf k) (yy0_l15 kf k) (yy0_l22 kf k) _ _ _ _ _ _ _ K).trans h)
  ·exact no_some h
theorem ok_yy0 {R : Type} (kf : Nat) : Ok_yy0 (R := R) (yy0 kf) := by
 have hcf : CfOk (R := R) Tryd.prog glob raw (cf_yy0 (yy11 kf) (yy17 kf) (yy0_l7 kf kf) (yy0_l15 kf kf) (yy0_l22 kf kf)) := (cf_cons (shok_33 (ok_yy11 kf)) (cf_cons (shok_34 (ok_yy17 kf)) cf_nil))
 have hlf : LfOk (R := R) C_yy0 13 (lf_yy0 (yy11 kf) (yy17 kf) (yy0_l7 kf kf) (yy0_l15 kf kf) (yy0_l22 kf kf)) := (lf_top (lf_cons (lok_yy0_l7 kf kf) (lf_cons (lok_yy0_l15 kf kf) (lf_cons (lok_yy0_l22 kf kf) lf_nil))))
 intro v1 v2 v3 K r h
 exact run_good t_yy0 hcf hlf ((eq_yy0 (yy11 kf) (yy17 kf) (yy0_l7 kf kf) (yy0_l15 kf kf) (yy0_l22 kf kf) v1 v2 v3 K).trans h)
theorem t_yy23 : textOk C_yy23.bef Tryd.prog 63 = true := by kernel_rfl
theorem ok_yy23 {R : Type} : Ok_yy23 (R := R) (yy23) := by
 have hcf : CfOk (R := R) Tryd.prog glob raw (cf_yy23) := cf_nil
 have hlf : LfOk (R := R) C_yy23 63 (lf_yy23) := lf_none
 intro v1 v2 v3 K r h
 exact run_good t_yy23 hcf hlf ((eq_yy23 v1 v2 v3 K).trans h)
theorem t_yy3 : textOk C_yy3.bef Tryd.prog 47 = true := by kernel_rfl
theorem ok_yy3 {R : Type} : Ok_yy3 (R := R) (yy3) := by
 have hcf : CfOk (R := R) Tryd.prog glob raw (cf_yy3) := cf_nil
 have hlf : LfOk (R := R) C_yy3 47 (lf_yy3) := lf_none
 intro v1 K r h
 exact run_good t_yy3 hcf hlf ((eq_yy3 v1 K).trans h)
theorem t_yy4 : textOk C_yy4.bef Tryd.prog 45 = true := by kernel_rfl
theorem ok_yy4 {R : Type} : Ok_yy4 (R := R) (yy4) := by
 have hcf : CfOk (R := R) Tryd.prog glob raw (cf_yy4 yy23 yy3) := (cf_cons (shok_63 ok_yy23) (cf_cons (shok_47 ok_yy3) cf_nil))
 have hlf : LfOk (R := R) C_yy4 45 (lf_yy4 yy23 yy3) := lf_none
 intro v1 v2 v3 K r h
 exact run_good t_yy4 hcf hlf ((eq_yy4 yy23 yy3 v1 v2 v3 K).trans h)
theorem t_yy6 : textOk C_yy6.bef Tryd.prog 46 = true := by kernel_rfl
theorem sln_yy6_l6 {R : Type} : SlOk (R := R) C_yy6 46 78 1 6 (sl_yy6_l6 (fun _ _ _ _ _ _ _ _ _ _ => none)) := by
 intro vs es K r h
 unfold sl_yy6_l6 at h
 split at h <;> exact no_some h
theorem sln_yy6_l21 {R : Type} : SlOk (R := R) C_yy6 46 78 1 21 (sl_yy6_l21 (fun _ _ _ _ _ _ _ _ _ _ => none)) := by
 intro vs es K r h
 unfold sl_yy6_l21 at h
 split at h <;> exact no_some h
theorem lok_yy6_l21 {R : Type} (kf : Nat) : ∀ n, SlOk (R := R) C_yy6 46 78 1 21 (sl_yy6_l21 (yy6_l21 kf n)) := by
 intro n
 induction n with
 | zero =>
  intro vs es K r h
  unfold sl_yy6_l21 at h
  split at h <;> exact no_some h
 | succ k ih =>
  have hcf : CfOk (R := R) Tryd.prog glob raw (cf_yy6 yy4 yy3 (fun _ _ _ _ _ _ _ _ _ _ => none) (yy6_l21 kf k)) := (cf_cons (shok_45 ok_yy4) (cf_cons (shok_47 ok_yy3) cf_nil))
  have hlf : LfOk (R := R) C_yy6 46 (lf_yy6 yy4 yy3 (fun _ _ _ _ _ _ _ _ _ _ => none) (yy6_l21 kf k)) := (lf_top (lf_cons (sln_yy6_l6) (lf_cons ih lf_nil)))
  intro vs es K r h
  unfold sl_yy6_l21 at h
  split at h
  ·exact loop_good (text_mixed t_yy6) hcf hlf (text_loop t_yy6 21).1 (text_loop t_yy6 21).2 ((eq_yy6_l21 yy4 yy3 (fun _ _ _ _ _ _ _ _ _ _ => none) (yy6_l21 kf k) _ _ _ _ _ _ _ _ _ K).trans h)
  ·exact no_some h
theorem lok_yy6_l6 {R : Type} (kf : Nat) : ∀ n, SlOk (R := R) C_yy6 46 78 1 6 (sl_yy6_l6 (yy6_l6 kf n)) := by
 intro n
 induction n with
 | zero =>
  intro vs es K r h
  unfold sl_yy6_l6 at h
  split at h <;> exact no_some h
 | succ k ih =>
  have hcf : CfOk (R := R) Tryd.prog glob raw (cf_yy6 yy4 yy3 (yy6_l6 kf k) (yy6_l21 kf k)) := (cf_cons (shok_45 ok_yy4) (cf_cons (shok_47 ok_yy3) cf_nil))
  have hlf : LfOk (R := R) C_yy6 46 (lf_yy6 yy4 yy3 (yy6_l6 kf k) (yy6_l21 kf k)) := (lf_top (lf_cons ih (lf_cons (lok_yy6_l21 kf k) lf_nil)))
  intro vs es K r h
  unfold sl_yy6_l6 at h
  split at h
  ·exact loop_good (text_mixed t_yy6) hcf hlf (text_loop t_yy6 6).1 (text_loop t_yy6 6).2 ((eq_yy6_l6 yy4 yy3 (yy6_l6 kf k) (yy6_l21 kf k) _ _ _ _ _ _ _ _ K).trans h)
  ·exact no_some h
theorem ok_yy6 {R : Type} (kf : Nat) : Ok_yy6 (R := R) (yy6 kf) := by
 have hcf : CfOk (R := R) Tryd.prog glob raw (cf_yy6 yy4 yy3 (yy6_l6 kf kf) (yy6_l21 kf kf)) := (cf_cons (shok_45 ok_yy4) (cf_cons (shok_47 ok_yy3) cf_nil))
 have hlf : LfOk (R := R) C_yy6 46 (lf_yy6 yy4 yy3 (yy6_l6 kf kf) (yy6_l21 kf kf)) := (lf_top (lf_cons (lok_yy6_l6 kf kf) (lf_cons (lok_yy6_l21 kf kf) lf_nil)))
 intro v1 v2 K r h
 exact run_good t_yy6 hcf hlf ((eq_yy6 yy4 yy3 (yy6_l6 kf kf) (yy6_l21 kf kf) v1 v2 K).trans h)
theorem t_yy5 : textOk C_yy5.bef Tryd.prog 36 = true := by kernel_rfl
theorem sln_yy5_l11 {R : Type} : SlOk (R := R) C_yy5 36 101 1 11 (sl_yy5_l11 (fun _ _ _ _ _ _ _ _ _ _ => none)) := by
 intro vs es K r h
 unfold sl_yy5_l11 at h
 split at h <;> exact no_some h
theorem sln_yy5_l17 {R : Type} : SlOk (R := R) C_yy5 36 101 1 17 (sl_yy5_l17 (fun _ _ _ _ _ _ _ _ _ _ _ _ _ _ => none)) := by
 intro vs es K r h
 unfold sl_yy5_l17 at h
 split at h <;> exact no_some h
theorem lok_yy5_l17 {R : Type} (kf : Nat) : ∀ n, SlOk (R := R) C_yy5 36 101 1 17 (sl_yy5_l17 (yy5_l17 kf n)) := by
 intro n
 induction n with
 | zero =>
  intro vs es K r h
  unfold sl_yy5_l17 at h
  split at h <;> exact no_some h
 | succ k ih =>
  have hcf : CfOk (R := R) Tryd.prog glob raw (cf_yy5 yy4 (yy6 kf) (yy11 kf) yy3 (fun _ _ _ _ _ _ _ _ _ _ => none) (yy5_l17 kf k)) := (cf_cons (shok_45 ok_yy4) (cf_cons (shok_46 (ok_yy6 kf)) (cf_cons (shok_33 (ok_yy11 kf)) (cf_cons (shok_47 ok_yy3) cf_nil))))
  have hlf : LfOk (R := R) C_yy5 36 (lf_yy5 yy4 (yy6 kf) (yy11 kf) yy3 (fun _ _ _ _ _ _ _ _ _ _ => none) (yy5_l17 kf k)) := (lf_top (lf_cons (sln_yy5_l11) (lf_cons ih lf_nil)))
  intro vs es K r h
  unfold sl_yy5_l17 at h
  split at h
  ·exact loop_good (text_mixed t_yy5) hcf hlf (text_loop t_yy5 17).1 (text_loop t_yy5 17).2 ((eq_yy5_l17 yy4 (yy6 kf) (yy11 kf) yy3 (fun _ _ _ _ _ _ _ _ _ _ => none) (yy5_l17 kf k) _ _ _ _ _ _ _ _ _ _ _ _ K).trans h)
  ·exact no_some h
theorem lok_yy5_l11 {R : Type} (kf : Nat) : ∀ n, SlOk (R := R) C_yy5 36 101 1 11 (sl_yy5_l11 (yy5_l11 kf n)) := by
 intro n
 induction n with
 | zero =>
  intro vs es K r h
  unfold sl_yy5_l11 at h
  split at h <;> exact no_some h
 | succ k ih =>
  have hcf : CfOk (R := R) Tryd.prog glob raw (cf_yy5 yy4 (yy6 kf) (yy11 kf) yy3 (yy5_l11 kf k) (yy5_l17 kf k)) := (cf_cons (shok_45 ok_yy4) (cf_cons (shok_46 (ok_yy6 kf)) (cf_cons (shok_33 (ok_yy11 kf)) (cf_cons (shok_47 ok_yy3) cf_nil))))
  have hlf : LfOk (R := R) C_yy5 36 (lf_yy5 yy4 (yy6 kf) (yy11 kf) yy3 (yy5_l11 kf k) (yy5_l17 kf k)) := (lf_top (lf_cons ih (lf_cons (lok_yy5_l17 kf k) lf_nil)))
  intro vs es K r h
  unfold sl_yy5_l11 at h
  split at h
  ·exact loop_good (text_mixed t_yy5) hcf hlf (text_loop t_yy5 11).1 (text_loop t_yy5 11).2 ((eq_yy5_l11 yy4 (yy6 kf) (yy11 kf) yy3 (yy5_l11 kf k) (yy5_l17 kf k) _ _ _ _ _ _ _ _ K).trans h)
  ·exact no_some h
theorem ok_yy5 {R : Type} (kf : Nat) : Ok_yy5 (R := R) (yy5 kf) := by
 have hcf : CfOk (R := R) Tryd.prog glob raw (cf_yy5 yy4 (yy6 kf) (yy11 kf) yy3 (yy5_l11 kf kf) (yy5_l17 kf kf)) := (cf_cons (shok_45 ok_yy4) (cf_cons (shok_46 (ok_yy6 kf)) (cf_cons (shok_33 (ok_yy11 kf)) (cf_cons (shok_47 ok_yy3) cf_nil))))
 have hlf : LfOk (R := R) C_yy5 36 (lf_yy5 yy4 (yy6 kf) (yy11 kf) yy3 (yy5_l11 kf kf) (yy5_l17 kf kf)) := (lf_top (lf_cons (lok_yy5_l11 kf kf) (lf_cons (lok_yy5_l17 kf kf) lf_nil)))
 intro v1 K r h
 exact run_good t_yy5 hcf hlf ((eq_yy5 yy4 (yy6 kf) (yy11 kf) yy3 (yy5_l11 kf kf) (yy5_l17 kf kf) v1 K).trans h)
theorem t_yy2 : textOk C_yy2.bef Tryd.prog 18 = true := by kernel_rfl
theorem ok_yy2 {R : Type} (kf : Nat) : Ok_yy2 (R := R) (yy2 kf) := by
 have hcf : CfOk (R := R) Tryd.prog glob raw (cf_yy2 (yy5 kf)) := (cf_cons (shok_36 (ok_yy5 kf)) (cf_cons (pok_37) cf_nil))
 have hlf : LfOk (R := R) C_yy2 18 (lf_yy2 (yy5 kf)) := lf_none
 intro v1 K r h
 exact run_good t_yy2 hcf hlf ((eq_yy2 (yy5 kf) v1 K).trans h)
theorem t_yy1 : textOk C_yy1.bef Tryd.prog 15 = true := by kernel_rfl
theorem ok_yy1 {R : Type} (kf : Nat) : Ok_yy1 (R := R) (yy1 kf) := by
 have hcf : CfOk (R := R) Tryd.prog glob raw (cf_yy1 (yy0 kf)) := (cf_cons (shok_13 (ok_yy0 kf)) cf_nil)
 have hlf : LfOk (R := R) C_yy1 15 (lf_yy1 (yy0 kf)) := lf_none
 intro v1 v2 v3 K r h
 exact run_good t_yy1 hcf hlf ((eq_yy1 (yy0 kf) v1 v2 v3 K).trans h)
theorem t_yy10 : textOk C_yy10.bef Tryd.prog 9 = true := by kernel_rfl
theorem ok_yy10 {R : Type} (kf : Nat) : Ok_yy10 (R := R) (yy10 kf) := by
 have hcf : CfOk (R := R) Tryd.prog glob raw (cf_yy10 (yy0 kf) (yy2 kf) (yy1 kf)) := (cf_cons (shok_13 (ok_yy0 kf)) (cf_cons (shok_18 (ok_yy2 kf)) (cf_cons (shok_15 (ok_yy1 kf)) cf_nil)))
 have hlf : LfOk (R := R) C_yy10 9 (lf_yy10 (yy0 kf) (yy2 kf) (yy1 kf)) := lf_none
 intro K r h
 exact run_good t_yy10 hcf hlf ((eq_yy10 (yy0 kf) (yy2 kf) (yy1 kf) K).trans h)
theorem t_yy8 : textOk C_yy8.bef Tryd.prog 17 = true := by kernel_rfl
theorem sln_yy8_l4 {R : Type} : SlOk (R := R) C_yy8 17 27 0 4 (sl_yy8_l4 (fun _ _ _ _ _ => none)) := by
 intro vs es K r h
 unfold sl_yy8_l4 at h
 split at h <;> exact no_some h
theorem lok_yy8_l4 {R : Type} (kf : Nat) : ∀ n, SlOk (R := R) C_yy8 17 27 0 4 (sl_yy8_l4 (yy8_l4 kf n)) := by
 intro n
 induction n with
 | zero =>
  intro vs es K r h
  unfold sl_yy8_l4 at h
  split at h <;> exact no_some h
 | succ k ih =>
  have hcf : CfOk (R := R) Tryd.prog glob raw (cf_yy8 (yy8_l4 kf k)) := cf_nil
  have hlf : LfOk (R := R) C_yy8 17 (lf_yy8 (yy8_l4 kf k)) := (lf_top (lf_cons ih lf_nil))
  intro vs es K r h
  unfold sl_yy8_l4 at h
  split at h
  ·exact loop_good (text_mixed t_yy8) hcf hlf (text_loop t_yy8 4).1 (text_loop t_yy8 4).2 ((eq_yy8_l4 (yy8_l4 kf k) _ _ _ _ K).trans h)
  ·exact no_some h
theorem ok_yy8 {R : Type} (kf : Nat) : Ok_yy8 (R := R) (yy8 kf) := by
 have hcf : CfOk (R := R) Tryd.prog glob raw (cf_yy8 (yy8_l4 kf kf)) := cf_nil
 have hlf : LfOk (R := R) C_yy8 17 (lf_yy8 (yy8_l4 kf kf)) := (lf_top (lf_cons (lok_yy8_l4 kf kf) lf_nil))
 intro v1 K r h
 exact run_good t_yy8 hcf hlf ((eq_yy8 (yy8_l4 kf kf) v1 K).trans h)
theorem t_yy24 : textOk C_yy24.bef Tryd.prog 39 = true := by kernel_rfl
theorem sln_yy24_l3 {R : Type} : SlOk (R := R) C_yy24 39 18 0 3 (sl_yy24_l3 (fun _ _ _ _ => none)) := by
 intro vs es K r h
 unfold sl_yy24_l3 at h
 split at h <;> exact no_some h
theorem lok_yy24_l3 {R : Type} (kf : Nat) : ∀ n, SlOk (R := R) C_yy24 39 18 0 3 (sl_yy24_l3 (yy24_l3 kf n)) := by
 intro n
 induction n with
 | zero =>
  intro vs es K r h
  unfold sl_yy24_l3 at h
  split at h <;> exact no_some h
 | succ k ih =>
  have hcf : CfOk (R := R) Tryd.prog glob raw (cf_yy24 (yy24_l3 kf k)) := cf_nil
  have hlf : LfOk (R := R) C_yy24 39 (lf_yy24 (yy24_l3 kf k)) := (lf_top (lf_cons ih lf_nil))
  intro vs es K r h
  unfold sl_yy24_l3 at h
  split at h
  ·exact loop_good (text_mixed t_yy24) hcf hlf (text_loop t_yy24 3).1 (text_loop t_yy24 3).2 ((eq_yy24_l3 (yy24_l3 kf k) _ _ _ _ _ K).trans h)
  ·exact no_some h
theorem ok_yy24 {R : Type} (kf : Nat) : Ok_yy24 (R := R) (yy24 kf) := by
 have hcf : CfOk (R := R) Tryd.prog glob raw (cf_yy24 (yy24_l3 kf kf)) := cf_nil
 have hlf : LfOk (R := R) C_yy24 39 (lf_yy24 (yy24_l3 kf kf)) := (lf_top (lf_cons (lok_yy24_l3 kf kf) lf_nil))
 intro v1 v2 v3 K r h
 exact run_good t_yy24 hcf hlf ((eq_yy24 (yy24_l3 kf kf) v1 v2 v3 K).trans h)
theorem t_yy27 : textOk C_yy27.bef Tryd.prog 27 = true := by kernel_rfl
theorem sln_yy27_l5 {R : Type} : SlOk (R := R) C_yy27 27 64 0 5 (sl_yy27_l5 (fun _ _ _ _ _ _ _ _ => none)) := by
 intro vs es K r h
 unfold sl_yy27_l5 at h
 split at h <;> exact no_some h
theorem sln_yy27_l10 {R : Type} : SlOk (R := R) C_yy27 27 64 0 10 (sl_yy27_l10 (fun _ _ _ _ _ _ _ _ _ => none)) := by
 intro vs es K r h
 unfold sl_yy27_l10 at h
 split at h <;> exact no_some h
theorem lok_yy27_l10 {R : Type} (kf : Nat) : ∀ n, SlOk (R := R) C_yy27 27 64 0 10 (sl_yy27_l10 (yy27_l10 kf n)) := by
 intro n
 induction n with
 | zero =>
  intro vs es K r h
  unfold sl_yy27_l10 at h
  split at h <;> exact no_some h
 | succ k ih =>
  have hcf : CfOk (R := R) Tryd.prog glob raw (cf_yy27 (yy24 kf) (fun _ _ _ _ _ _ _ _ => none) (yy27_l10 kf k)) := (cf_cons (shok_39 (ok_yy24 kf)) cf_nil)
  have hlf : LfOk (R := R) C_yy27 27 (lf_yy27 (yy24 kf) (fun _ _ _ _ _ _ _ _ => none) (yy27_l10 kf k)) := (lf_top (lf_cons (sln_yy27_l5) (lf_cons ih lf_nil)))
  intro vs es K r h
  unfold sl_yy27_l10 at h
  split at h
  ·exact loop_good (text_mixed t_yy27) hcf hlf (text_loop t_yy27 10).1 (text_loop t_yy27 10).2 ((eq_yy27_l10 (yy24 kf) (fun _ _ _ _ _ _ _ _ => none) (yy27_l10 kf k) _ _ _ _ _ _ _ K).trans h)
  ·exact no_some h
theorem lok_yy27_l5 {R : Type} (kf : Nat) : ∀ n, SlOk (R := R) C_yy27 27 64 0 5 (sl_yy27_l5 (yy27_l5 kf n)) := by
 intro n
 induction n with
 | zero =>
  intro vs es K r h
  unfold sl_yy27_l5 at h
  split at h <;> exact no_some h
 | succ k ih =>
  have hcf : CfOk (R := R) Tryd.prog glob raw (cf_yy27 (yy24 kf) (yy27_l5 kf k) (yy27_l10 kf k)) := (cf_cons (shok_39 (ok_yy24 kf)) cf_nil)
  have hlf : LfOk (R := R) C_yy27 27 (lf_yy27 (yy24 kf) (yy27_l5 kf k) (yy27_l10 kf k)) := (lf_top (lf_cons ih (lf_cons (lok_yy27_l10 kf k) lf_nil)))
  intro vs es K r h
  unfold sl_yy27_l5 at h
  split at h
  ·exact loop_good (text_mixed t_yy27) hcf hlf (text_loop t_yy27 5).1 (text_loop t_yy27 5).2 ((eq_yy27_l5 (yy24 kf) (yy27_l5 kf k) (yy27_l10 kf k) _ _ _ _ _ _ K).trans h)
  ·exact no_some h
theorem ok_yy27 {R : Type} (kf : Nat) : Ok_yy27 (R := R) (yy27 kf) := by
 have hcf : CfOk (R := R) Tryd.prog glob raw (cf_yy27 (yy24 kf) (yy27_l5 kf kf) (yy27_l10 kf kf)) := (cf_cons (shok_39 (ok_yy24 kf)) cf_nil)
 have hlf : LfOk (R := R) C_yy27 27 (lf_yy27 (yy24 kf) (yy27_l5 kf kf) (yy27_l10 kf kf)) := (lf_top (lf_cons (lok_yy27_l5 kf kf) (lf_cons (lok_yy27_l10 kf kf) lf_nil)))
 intro v1 v2 v3 K r h
 exact run_good t_yy27 hcf hlf ((eq_yy27 (yy24 kf) (yy27_l5 kf kf) (yy27_l10 kf kf) v1 v2 v3 K).trans h)
theorem t_yy33 : textOk C_yy33.bef Tryd.prog 40 = true := by kernel_rfl
theorem sln_yy33_l4 {R : Type} : SlOk (R := R) C_yy33 40 52 0 4 (sl_yy33_l4 (fun _ _ _ _ _ _ _ => none)) := by
 intro vs es K r h
 unfold sl_yy33_l4 at h
 split at h <;> exact no_some h
theorem lok_yy33_l4 {R : Type} (kf : Nat) : ∀ n, SlOk (R := R) C_yy33 40 52 0 4 (sl_yy33_l4 (yy33_l4 kf n)) := by
 intro n
 induction n with
 | zero =>
  intro vs es K r h
  unfold sl_yy33_l4 at h
  split at h <;> exact no_some h
 | succ k ih =>
  have hcf : CfOk (R := R) Tryd.prog glob raw (cf_yy33 (yy33_l4 kf k)) := cf_nil
  have hlf : LfOk (R := R) C_yy33 40 (lf_yy33 (yy33_l4 kf k)) := (lf_top (lf_cons ih lf_nil))
  intro vs es K r h
  unfold sl_yy33_l4 at h
  split at h
  ·exact loop_good (text_mixed t_yy33) hcf hlf (text_loop t_yy33 4).1 (text_loop t_yy33 4).2 ((eq_yy33_l4 (yy33_l4 kf k) _ _ _ _ _ _ _ K).trans h)
  ·exact no_some h
theorem ok_yy33 {R : Type} (kf : Nat) : Ok_yy33 (R := R) (yy33 kf) := by
 have hcf : CfOk (R := R) Tryd.prog glob raw (cf_yy33 (yy33_l4 kf kf)) := cf_nil
 have hlf : LfOk (R := R) C_yy33 40 (lf_yy33 (yy33_l4 kf kf)) := (lf_top (lf_cons (lok_yy33_l4 kf kf) lf_nil))
 intro v1 v2 v3 v4 v5 v6 K r h
 exact run_good t_yy33 hcf hlf ((eq_yy33 (yy33_l4 kf kf) v1 v2 v3 v4 v5 v6 K).trans h)
theorem t_yy28 : textOk C_yy28.bef Tryd.prog 28 = true := by kernel_rfl
theorem sln_yy28_l6 {R : Type} : SlOk (R := R) C_yy28 28 95 0 6 (sl_yy28_l6 (fun _ _ _ _ _ _ _ => none)) := by
 intro vs es K r h
 unfold sl_yy28_l6 at h
 split at h <;> exact no_some h
theorem sln_yy28_l8 {R : Type} : SlOk (R := R) C_yy28 28 95 0 8 (sl_yy28_l8 (fun _ _ _ _ _ _ _ => none)) := by
 intro vs es K r h
 unfold sl_yy28_l8 at h
 split at h <;> exact no_some h
theorem sln_yy28_l11 {R : Type} : SlOk (R := R) C_yy28 28 95 0 11 (sl_yy28_l11 (fun _ _ _ _ _ _ _ => none)) := by
 intro vs es K r h
 unfold sl_yy28_l11 at h
 split at h <;> exact no_some h
theorem sln_yy28_l15 {R : Type} : SlOk (R := R) C_yy28 28 95 0 15 (sl_yy28_l15 (fun _ _ _ _ _ _ _ _ _ => none)) := by
 intro vs es K r h
 unfold sl_yy28_l15 at h
 split at h <;> exact no_some h
theorem sln_yy28_l17 {R : Type} : SlOk (R := R) C_yy28 28 95 0 17 (sl_yy28_l17 (fun _ _ _ _ _ _ _ _ _ => none)) := by
 intro vs es K r h
 unfold sl_yy28_l17 at h
 split at h <;> exact no_some h
theorem lok_yy28_l8 {R : Type} (kf : Nat) : ∀ n, SlOk (R := R) C_yy28 28 95 0 8 (sl_yy28_l8 (yy28_l8 kf n)) := by
 intro n
 induction n with
 | zero =>
  intro vs es K r h
  unfold sl_yy28_l8 at h
  split at h <;> exact no_some h
 | succ k ih =>
  have hcf : CfOk (R := R) Tryd.prog glob raw (cf_yy28 (yy27 kf) (yy33 kf) (fun _ _ _ _ _ _ _ => none) (yy28_l8 kf k) (fun _ _ _ _ _ _ _ => none) (fun _ _ _ _ _ _ _ _ _ => none) (fun _ _ _ _ _ _ _ _ _ => none)) := (cf_cons (shok_27 (ok_yy27 kf)) (cf_cons (shok_40 (ok_yy33 kf)) cf_nil))
  have hlf : LfOk (R := R) C_yy28 28 (lf_yy28 (yy27 kf) (yy33 kf) (fun _ _ _ _ _ _ _ => none) (yy28_l8 kf k) (fun _ _ _ _ _ _ _ => none) (fun _ _ _ _ _ _ _ _ _ => none) (fun _ _ _ _ _ _ _ _ _ => none)) := (lf_top (lf_cons (sln_yy28_l6) (lf_cons ih (lf_cons (sln_yy28_l11) (lf_cons (sln_yy28_l15) (lf_cons (sln_yy28_l17) lf_nil))))))
  intro vs es K r h
  unfold sl_yy28_l8 at h
  split at h
  ·exact loop_good (text_mixed t_yy28) hcf hlf (text_loop t_yy28 8).1 (text_loop t_yy28 8).2 ((eq_yy28_l8 (yy27 kf) (yy33 kf) (fun _ _ _ _ _ _ _ => none) (yy28_l8 kf k) (fun _ _ _ _ _ _ _ => none) (fun _ _ _ _ _ _ _ _ _ => none) (fun _ _ _ _ _ _ _ _ _ => none) _ _ _ _ _ _ K).trans h)
  ·exact no_some h
theorem lok_yy28_l6 {R : Type} (kf : Nat) : ∀ n, SlOk (R := R) C_yy28 28 95 0 6 (sl_yy28_l6 (yy28_l6 kf n)) := by
 intro n
 induction n with
 | zero =>
  intro vs es K r h
  unfold sl_yy28_l6 at h
  split at h <;> exact no_some h
 | succ k ih =>
  have hcf : CfOk (R := R) Tryd.prog glob raw (cf_yy28 (yy27 kf) (yy33 kf) (yy28_l6 kf k) (yy28_l8 kf k) (fun _ _ _ _ _ _ _ => none) (fun _ _ _ _ _ _ _ _ _ => none) (fun _ _ _ _ _ _ _ _ _ => none)) := (cf_cons (shok_27 (ok_yy27 kf)) (cf_cons (shok_40 (ok_yy33 kf)) cf_nil))
  have hlf : LfOk (R := R) C_yy28 28 (lf_yy28 (yy27 kf) (yy33 kf) (yy28_l6 kf k) (yy28_l8 kf k) (fun _ _ _ _ _ _ _ => none) (fun _ _ _ _ _ _ _ _ _ => none) (fun _ _ _ _ _ _ _ _ _ => none)) := (lf_top (lf_cons ih (lf_cons (lok_yy28_l8 kf k) (lf_cons (sln_yy28_l11) (lf_cons (sln_yy28_l15) (lf_cons (sln_yy28_l17) lf_nil))))))
  intro vs es K r h
  unfold sl_yy28_l6 at h
  split at h
  ·exact loop_good (text_mixed t_yy28) hcf hlf (text_loop t_yy28 6).1 (text_loop t_yy28 6).2 ((eq_yy28_l6 (yy27 kf) (yy33 kf) (yy28_l6 kf k) (yy28_l8 kf k) (fun _ _ _ _ _ _ _ => none) (fun _ _ _ _ _ _ _ _ _ => none) (fun _ _ _ _ _ _ _ _ _ => none) _ _ _ _ _ _ K).trans h)
  ·exact no_some h
theorem lok_yy28_l17 {R : Type} (kf : Nat) : ∀ n, SlOk (R := R) C_yy28 28 95 0 17 (sl_yy28_l17 (yy28_l17 kf n)) := by
 intro n
 induction n with
 | zero =>
  intro vs es K r h
  unfold sl_yy28_l17 at h
  split at h <;> exact no_some h
 | succ k ih =>
  have hcf : CfOk (R := R) Tryd.prog glob raw (cf_yy28 (yy27 kf) (yy33 kf) (yy28_l6 kf k) (yy28_l8 kf k) (fun _ _ _ _ _ _ _ => none) (fun _ _ _ _ _ _ _ _ _ => none) (yy28_l17 kf k)) := (cf_cons (shok_27 (ok_yy27 kf)) (cf_cons (shok_40 (ok_yy33 kf)) cf_nil))
  have hlf : LfOk (R := R) C_yy28 28 (lf_yy28 (yy27 kf) (yy33 kf) (yy28_l6 kf k) (yy28_l8 kf k) (fun _ _ _ _ _ _ _ => none) (fun _ _ _ _ _ _ _ _ _ => none) (yy28_l17 kf k)) := (lf_top (lf_cons (lok_yy28_l6 kf k) (lf_cons (lok_yy28_l8 kf k) (lf_cons (sln_yy28_l11) (lf_cons (sln_yy28_l15) (lf_cons ih lf_nil))))))
  intro vs es K r h
  unfold sl_yy28_l17 at h
  split at h
  ·exact loop_good (text_mixed t_yy28) hcf hlf (text_loop t_yy28 17).1 (text_loop t_yy28 17).2 ((eq_yy28_l17 (yy27 kf) (yy33 kf) (yy28_l6 kf k) (yy28_l8 kf k) (fun _ _ _ _ _ _ _ => none) (fun _ _ _ _ _ _ _ _ _ => none) (yy28_l17 kf k) _ _ _ _ _ _ _ _ K).trans h)
  ·exact no_some h
theorem lok_yy28_l15 {R : Type} (kf : Nat) : ∀ n, SlOk (R := R) C_yy28 28 95 0 15 (sl_yy28_l15 (yy28_l15 kf n)) := by
 intro n
 induction n with
 | zero =>
  intro vs es K r h
  unfold sl_yy28_l15 at h
  split at h <;> exact no_some h
 | succ k ih =>
  have hcf : CfOk (R := R) Tryd.prog glob raw (cf_yy28 (yy27 kf) (yy33 kf) (yy28_l6 kf k) (yy28_l8 kf k) (fun _ _ _ _ _ _ _ => none) (yy28_l15 kf k) (yy28_l17 kf k)) := (cf_cons (shok_27 (ok_yy27 kf)) (cf_cons (shok_40 (ok_yy33 kf)) cf_nil))
  have hlf : LfOk (R := R) C_yy28 28 (lf_yy28 (yy27 kf) (yy33 kf) (yy28_l6 kf k) (yy28_l8 kf k) (fun _ _ _ _ _ _ _ => none) (yy28_l15 kf k) (yy28_l17 kf k)) := (lf_top (lf_cons (lok_yy28_l6 kf k) (lf_cons (lok_yy28_l8 kf k) (lf_cons (sln_yy28_l11) (lf_cons ih (lf_cons (lok_yy28_l17 kf k) lf_nil))))))
  intro vs es K r h
  unfold sl_yy28_l15 at h
  split at h
  ·exact loop_good (text_mixed t_yy28) hcf hlf (text_loop t_yy28 15).1 (text_loop t_yy28 15).2 ((eq_yy28_l15 (yy27 kf) (yy33 kf) (yy28_l6 kf k) (yy28_l8 kf k) (fun _ _ _ _ _ _ _ => none) (yy28_l15 kf k) (yy28_l17 kf k) _ _ _ _ _ _ _ _ K).trans h)
  ·exact no_some h
theorem lok_yy28_l11 {R : Type} (kf : Nat) : ∀ n, SlOk (R := R) C_yy28 28 95 0 11 (sl_yy28_l11 (yy28_l11 kf n)) := by
 intro n
 induction n with
 | zero =>
  intro vs es K r h
  unfold sl_yy28_l11 at h
  split at h <;> exact no_some h
 | succ k ih =>
  have hcf : CfOk (R := R) Tryd.prog glob raw (cf_yy28 (yy27 kf) (yy33 kf) (yy28_l6 kf k) (yy28_l8 kf k) (yy28_l11 kf k) (yy28_l15 kf k) (yy28_l17 kf k)) := (cf_cons (shok_27 (ok_yy27 kf)) (cf_cons (shok_40 (ok_yy33 kf)) cf_nil))
  have hlf : LfOk (R := R) C_yy28 28 (lf_yy28 (yy27 kf) (yy33 kf) (yy28_l6 kf k) (yy28_l8 kf k) (yy28_l11 kf k) (yy28_l15 kf k) (yy28_l17 kf k)) := (lf_top (lf_cons (lok_yy28_l6 kf k) (lf_cons (lok_yy28_l8 kf k) (lf_cons ih (lf_cons (lok_yy28_l15 kf k) (lf_cons (lok_yy28_l17 kf k) lf_nil))))))
  intro vs es K r h
  unfold sl_yy28_l11 at h
  split at h
  ·exact loop_good (text_mixed t_yy28) hcf hlf (text_loop t_yy28 11).1 (text_loop t_yy28 11).2 ((eq_yy28_l11 (yy27 kf) (yy33 kf) (yy28_l6 kf k) (yy28_l8 kf k) (yy28_l11 kf k) (yy28_l15 kf k) (yy28_l17 kf k) _ _ _ _ _ _ K).trans h)
  ·exact no_some h
theorem ok_yy28 {R : Type} (kf : Nat) : Ok_yy28 (R := R) (yy28 kf) := by
 have hcf : CfOk (R := R) Tryd.prog glob raw (cf_yy28 (yy27 kf) (yy33 kf) (yy28_l6 kf kf) (yy28_l8 kf kf) (yy28_l11 kf kf) (yy28_l15 kf kf) (yy28_l17 kf kf)) := (cf_cons (shok_27 (ok_yy27 kf)) (cf_cons (shok_40 (ok_yy33 kf)) cf_nil))
 have hlf : LfOk (R := R) C_yy28 28 (lf_yy28 (yy27 kf) (yy33 kf) (yy28_l6 kf kf) (yy28_l8 kf kf) (yy28_l11 kf kf) (yy28_l15 kf kf) (yy28_l17 kf kf)) := (lf_top (lf_cons (lok_yy28_l6 kf kf) (lf_cons (lok_yy28_l8 kf kf) (lf_cons (lok_yy28_l11 kf kf) (lf_cons (lok_yy28_l15 kf kf) (lf_cons (lok_yy28_l17 kf kf) lf_nil))))))
 intro v1 v2 v3 K r h
 exact run_good t_yy28 hcf hlf ((eq_yy28 (yy27 kf) (yy33 kf) (yy28_l6 kf kf) (yy28_l8 kf kf) (yy28_l11 kf kf) (yy28_l15 kf kf) (yy28_l17 kf kf) v1 v2 v3 K).trans h)
theorem t_yy29 : textOk C_yy29.bef Tryd.prog 29 = true := by kernel_rfl
theorem sln_yy29_l6 {R : Type} : SlOk (R := R) C_yy29 29 65 0 6 (sl_yy29_l6 (fun _ _ _ _ _ _ => none)) := by
 intro vs es K r h
 unfold sl_yy29_l6 at h
 split at h <;> exact no_some h
theorem sln_yy29_l9 {R : Type} : SlOk (R := R) C_yy29 29 65 0 9 (sl_yy29_l9 (fun _ _ _ _ _ _ _ => none)) := by
 intro vs es K r h
 unfold sl_yy29_l9 at h
 split at h <;> exact no_some h
theorem sln_yy29_l12 {R : Type} : SlOk (R := R) C_yy29 29 65 0 12 (sl_yy29_l12 (fun _ _ _ _ _ _ _ _ => none)) := by
 intro vs es K r h
 unfold sl_yy29_l12 at h
 split at h <;> exact no_some h
theorem lok_yy29_l12 {R : Type} (kf : Nat) : ∀ n, SlOk (R := R) C_yy29 29 65 0 12 (sl_yy29_l12 (yy29_l12 kf n)) := by
 intro n
 induction n with
 | zero =>
  intro vs es K r h
  unfold sl_yy29_l12 at h
  split at h <;> exact no_some h
 | succ k ih =>
  have hcf : CfOk (R := R) Tryd.prog glob raw (cf_yy29 (yy27 kf) (fun _ _ _ _ _ _ => none) (fun _ _ _ _ _ _ _ => none) (yy29_l12 kf k)) := (cf_cons (shok_27 (ok_yy27 kf)) cf_nil)
  have hlf : LfOk (R := R) C_yy29 29 (lf_yy29 (yy27 kf) (fun _ _ _ _ _ _ => none) (fun _ _ _ _ _ _ _ => none) (yy29_l12 kf k)) := (lf_top (lf_cons (sln_yy29_l6) (lf_cons (sln_yy29_l9) (lf_cons ih lf_nil))))
  intro vs es K r h
  unfold sl_yy29_l12 at h
  split at h
  ·exact loop_good (text_mixed t_yy29) hcf hlf (text_loop t_yy29 12).1 (text_loop t_yy29 12).2 ((eq_yy29_l12 (yy27 kf) (fun _ _ _ _ _ _ => none) (fun _ _ _ _ _ _ _ => none) (yy29_l12 kf k) _ _ _ _ _ _ _ K).trans h)
  ·exact no_some h
theorem lok_yy29_l9 {R : Type} (kf : Nat) : ∀ n, SlOk (R := R) C_yy29 29 65 0 9 (sl_yy29_l9 (yy29_l9 kf n)) := by
 intro n
 induction n with
 | zero =>
  intro vs es K r h
  unfold sl_yy29_l9 at h
  split at h <;> exact no_some h
 | succ k ih =>
  have hcf : CfOk (R := R) Tryd.prog glob raw (cf_yy29 (yy27 kf) (fun _ _ _ _ _ _ => none) (yy29_l9 kf k) (yy29_l12 kf k)) := (cf_cons (shok_27 (ok_yy27 kf)) cf_nil)
  have hlf : LfOk (R := R) C_yy29 29 (lf_yy29 (yy27 kf) (fun _ _ _ _ _ _ => none) (yy29_l9 kf k) (yy29_l12 kf k)) := (lf_top (lf_cons (sln_yy29_l6) (lf_cons ih (lf_cons (lok_yy29_l12 kf k) lf_nil))))
  intro vs es K r h
  unfold sl_yy29_l9 at h
  split at h
  ·exact loop_good (text_mixed t_yy29) hcf hlf (text_loop t_yy29 9).1 (text_loop t_yy29 9).2 ((eq_yy29_l9 (yy27 kf) (fun _ _ _ _ _ _ => none) (yy29_l9 kf k) (yy29_l12 kf k) _ _ _ _ _ _ K).trans h)
  ·exact no_some h
theorem lok_yy29_l6 {R : Type} (kf : Nat) : ∀ n, SlOk (R := R) C_yy29 29 65 0 6 (sl_yy29_l6 (yy29_l6 kf n)) := by
 intro n
 induction n with
 | zero =>
  intro vs es K r h
  unfold sl_yy29_l6 at h
  split at h <;> exact no_some h
 | succ k ih =>
  have hcf : CfOk (R := R) Tryd.prog glob raw (cf_yy29 (yy27 kf) (yy29_l6 kf k) (yy29_l9 kf k) (yy29_l12 kf k)) := (cf_cons (shok_27 (ok_yy27 kf)) cf_nil)
  have hlf : LfOk (R := R) C_yy29 29 (lf_yy29 (yy27 kf) (yy29_l6 kf k) (yy29_l9 kf k) (yy29_l12 kf k)) := (lf_top (lf_cons ih (lf_cons (lok_yy29_l9 kf k) (lf_cons (lok_yy29_l12 kf k) lf_nil))))
  intro vs es K r h
  unfold sl_yy29_l6 at h
  split at h
  ·exact loop_good (text_mixed t_yy29) hcf hlf (text_loop t_yy29 6).1 (text_loop t_yy29 6).2 ((eq_yy29_l6 (yy27 kf) (yy29_l6 kf k) (yy29_l9 kf k) (yy29_l12 kf k) _ _ _ _ _ K).trans h)
  ·exact no_some h
theorem ok_yy29 {R : Type} (kf : Nat) : Ok_yy29 (R := R) (yy29 kf) := by
 have hcf : CfOk (R := R) Tryd.prog glob raw (cf_yy29 (yy27 kf) (yy29_l6 kf kf) (yy29_l9 kf kf) (yy29_l12 kf kf)) := (cf_cons (shok_27 (ok_yy27 kf)) cf_nil)
 have hlf : LfOk (R := R) C_yy29 29 (lf_yy29 (yy27 kf) (yy29_l6 kf kf) (yy29_l9 kf kf) (yy29_l12 kf kf)) := (lf_top (lf_cons (lok_yy29_l6 kf kf) (lf_cons (lok_yy29_l9 kf kf) (lf_cons (lok_yy29_l12 kf kf) lf_nil))))
 intro v1 v2 v3 K r h
 exact run_good t_yy29 hcf hlf ((eq_yy29 (yy27 kf) (yy29_l6 kf kf) (yy29_l9 kf kf) (yy29_l12 kf kf) v1 v2 v3 K).trans h)
theorem t_yy32 : textOk C_yy32.bef Tryd.prog 30 = true := by kernel_rfl
theorem sln_yy32_l2 {R : Type} : SlOk (R := R) C_yy32 30 48 0 2 (sl_yy32_l2 (fun _ _ _ _ _ _ _ _ => none)) := by
 intro vs es K r h
 unfold sl_yy32_l2 at h
 split at h <;> exact no_some h
theorem lok_yy32_l2 {R : Type} (kf : Nat) : ∀ n, SlOk (R := R) C_yy32 30 48 0 2 (sl_yy32_l2 (yy32_l2 kf n)) := by
 intro n
 induction n with
 | zero =>
  intro vs es K r h
  unfold sl_yy32_l2 at h
  split at h <;> exact no_some h
 | succ k ih =>
  have hcf : CfOk (R := R) Tryd.prog glob raw (cf_yy32 (yy32_l2 kf k)) := cf_nil
  have hlf : LfOk (R := R) C_yy32 30 (lf_yy32 (yy32_l2 kf k)) := (lf_top (lf_cons ih lf_nil))
  intro vs es K r h
  unfold sl_yy32_l2 at h
  split at h
  ·exact loop_good (text_mixed t_yy32) hcf hlf (text_loop t_yy32 2).1 (text_loop t_yy32 2).2 ((eq_yy32_l2 (yy32_l2 kf k) _ _ _ _ _ _ _ _ K).trans h)
  ·exact no_some h
theorem ok_yy32 {R : Type} (kf : Nat) : Ok_yy32 (R := R) (yy32 kf) := by
 have hcf : CfOk (R := R) Tryd.prog glob raw (cf_yy32 (yy32_l2 kf kf)) := cf_nil
 have hlf : LfOk (R := R) C_yy32 30 (lf_yy32 (yy32_l2 kf kf)) := (lf_top (lf_cons (lok_yy32_l2 kf kf) lf_nil))
 intro v1 v2 v3 v4 v5 v6 v7 K r h
 exact run_good t_yy32 hcf hlf ((eq_yy32 (yy32_l2 kf kf) v1 v2 v3 v4 v5 v6 v7 K).trans h)
theorem t_yy26 : textOk C_yy26.bef Tryd.prog 11 = true := by kernel_rfl
theorem sln_yy26_l8 {R : Type} : SlOk (R := R) C_yy26 11 148 0 8 (sl_yy26_l8 (fun _ _ _ _ _ _ _ _ _ _ _ _ _ _ => none)) := by
 intro vs es K r h
 unfold sl_yy26_l8 at h
 split at h <;> exact no_some h
theorem sln_yy26_l11 {R : Type} : SlOk (R := R) C_yy26 11 148 0 11 (sl_yy26_l11 (fun _ _ _ _ _ _ _ _ _ _ _ _ _ _ _ => none)) := by
 intro vs es K r h
 unfold sl_yy26_l11 at h
 split at h <;> exact no_some h
theorem sln_yy26_l18 {R : Type} : SlOk (R := R) C_yy26 11 148 0 18 (sl_yy26_l18 (fun _ _ _ _ _ _ _ _ _ _ _ _ _ _ => none)) := by
 intro vs es K r h
 unfold sl_yy26_l18 at h
 split at h <;> exact no_some h
theorem sln_yy26_l22 {R : Type} : SlOk (R := R) C_yy26 11 148 0 22 (sl_yy26_l22 (fun _ _ _ _ _ _ _ _ _ _ _ _ _ _ _ _ => none)) := by
 intro vs es K r h
 unfold sl_yy26_l22 at h
 split at h <;> exact no_some h
theorem sln_yy26_l26 {R : Type} : SlOk (R := R) C_yy26 11 148 0 26 (sl_yy26_l26 (fun _ _ _ _ _ _ _ _ _ _ _ _ _ _ _ _ _ _ => none)) := by
 intro vs es K r h
 unfold sl_yy26_l26 at h
 split at h <;> exact no_some h
theorem lok_yy26_l11 {R : Type} (kf : Nat) : ∀ n, SlOk (R := R) C_yy26 11 148 0 11 (sl_yy26_l11 (yy26_l11 kf n)) := by
 intro n
 induction n with
 | zero =>
  intro vs es K r h
  unfold sl_yy26_l11 at h
  split at h <;> exact no_some h
 | succ k ih =>
  have hcf : CfOk (R := R) Tryd.prog glob raw (cf_yy26 (yy27 kf) (yy28 kf) (yy29 kf) (yy32 kf) (fun _ _ _ _ _ _ _ _ _ _ _ _ _ _ => none) (yy26_l11 kf k) (fun _ _ _ _ _ _ _ _ _ _ _ _ _ _ => none) (fun _ _ _ _ _ _ _ _ _ _ _ _ _ _ _ _ => none) (fun _ _ _ _ _ _ _ _ _ _ _ _ _ _ _ _ _ _ => none)) := (cf_cons (shok_27 (ok_yy27 kf)) (cf_cons (shok_28 (ok_yy28 kf)) (cf_cons (shok_29 (ok_yy29 kf)) (cf_cons (shok_30 (ok_yy32 kf)) cf_nil))))
  have hlf : LfOk (R := R) C_yy26 11 (lf_yy26 (yy27 kf) (yy28 kf) (yy29 kf) (yy32 kf) (fun _ _ _ _ _ _ _ _ _ _ _ _ _ _ => none) (yy26_l11 kf k) (fun _ _ _ _ _ _ _ _ _ _ _ _ _ _ => none) (fun _ _ _ _ _ _ _ _ _ _ _ _ _ _ _ _ => none) (fun _ _ _ _ _ _ _ _ _ _ _ _ _ _ _ _ _ _ => none)) := (lf_top (lf_cons (sln_yy26_l8) (lf_cons ih (lf_cons (sln_yy26_l18) (lf_cons (sln_yy26_l22) (lf_cons (sln_yy26_l26) lf_nil))))))
  intro vs es K r h
  unfold sl_yy26_l11 at h
  split at h
  ·exact loop_good (text_mixed t_yy26) hcf hlf (text_loop t_yy26 11).1 (text_loop t_yy26 11).2 ((eq_yy26_l11 (yy27 kf) (yy28 kf) (yy29 kf) (yy32 kf) (fun _ _ _ _ _ _ _ _ _ _ _ _ _ _ => none) (yy26_l11 kf k) (fun _ _ _ _ _ _ _ _ _ _ _ _ _ _ => none) (fun _ _ _ _ _ _ _ _ _ _ _ _ _ _ _ _ => none) (fun _ _ _ _ _ _ _ _ _ _ _ _ _ _ _ _ _ _ => none) _ _ _ _ _ _ _ _ _ _ _ _ _ _ K).trans h)
  ·exact no_some h
theorem lok_yy26_l8 {R : Type} (kf : Nat) : ∀ n, SlOk (R := R) C_yy26 11 148 0 8 (sl_yy26_l8 (yy26_l8 kf n)) := by
 intro n
 induction n with
 | zero =>
  intro vs es K r h
  unfold sl_yy26_l8 at h
  split at h <;> exact no_some h
 | succ k ih =>
  have hcf : CfOk (R := R) Tryd.prog glob raw (cf_yy26 (yy27 kf) (yy28 kf) (yy29 kf) (yy32 kf) (yy26_l8 kf k) (yy26_l11 kf k) (fun _ _ _ _ _ _ _ _ _ _ _ _ _ _ => none) (fun _ _ _ _ _ _ _ _ _ _ _ _ _ _ _ _ => none) (fun _ _ _ _ _ _ _ _ _ _ _ _ _ _ _ _ _ _ => none)) := (cf_cons (shok_27 (ok_yy27 kf)) (cf_cons (shok_28 (ok_yy28 kf)) (cf_cons (shok_29 (ok_yy29 kf)) (cf_cons (shok_30 (ok_yy32 kf)) cf_nil))))
  have hlf : LfOk (R := R) C_yy26 11 (lf_yy26 (yy27 kf) (yy28 kf) (yy29 kf) (yy32 kf) (yy26_l8 kf k) (yy26_l11 kf k) (fun _ _ _ _ _ _ _ _ _ _ _ _ _ _ => none) (fun _ _ _ _ _ _ _ _ _ _ _ _ _ _ _ _ => none) (fun _ _ _ _ _ _ _ _ _ _ _ _ _ _ _ _ _ _ => none)) := (lf_top (lf_cons ih (lf_cons (lok_yy26_l11 kf k) (lf_cons (sln_yy26_l18) (lf_cons (sln_yy26_l22) (lf_cons (sln_yy26_l26) lf_nil))))))
  intro vs es K r h
  unfold sl_yy26_l8 at h
  split at h
  ·exact loop_good (text_mixed t_yy26) hcf hlf (text_loop t_yy26 8).1 (text_loop t_yy26 8).2 ((eq_yy26_l8 (yy27 kf) (yy28 kf) (yy29 kf) (yy32 kf) (yy26_l8 kf k) (yy26_l11 kf k) (fun _ _ _ _ _ _ _ _ _ _ _ _ _ _ => none) (fun _ _ _ _ _ _ _ _ _ _ _ _ _ _ _ _ => none) (fun _ _ _ _ _ _ _ _ _ _ _ _ _ _ _ _ _ _ => none) _ _ _ _ _ _ _ _ _ _ _ _ _ K).trans h)
  ·exact no_some h
theorem lok_yy26_l26 {R : Type} (kf : Nat) : ∀ n, SlOk (R := R) C_yy26 11 148 0 26 (sl_yy26_l26 (yy26_l26 kf n)) := by
 intro n
 induction n with
 | zero =>
  intro vs es K r h
  unfold sl_yy26_l26 at h
  split at h <;> exact no_some h
 | succ k ih =>
  have hcf : CfOk (R := R) Tryd.prog glob raw (cf_yy26 (yy27 kf) (yy28 kf) (yy29 kf) (yy32 kf) (yy26_l8 kf k) (yy26_l11 kf k) (fun _ _ _ _ _ _ _ _ _ _ _ _ _ _ => none) (fun _ _ _ _ _ _ _ _ _ _ _ _ _ _ _ _ => none) (yy26_l26 kf k)) := (cf_cons (shok_27 (ok_yy27 kf)) (cf_cons (shok_28 (ok_yy28 kf)) (cf_cons (shok_29 (ok_yy29 kf)) (cf_cons (shok_30 (ok_yy32 kf)) cf_nil))))
  have hlf : LfOk (R := R) C_yy26 11 (lf_yy26 (yy27 kf) (yy28 kf) (yy29 kf) (yy32 kf) (yy26_l8 kf k) (yy26_l11 kf k) (fun _ _ _ _ _ _ _ _ _ _ _ _ _ _ => none) (fun _ _ _ _ _ _ _ _ _ _ _ _ _ _ _ _ => none) (yy26_l26 kf k)) := (lf_top (lf_cons (lok_yy26_l8 kf k) (lf_cons (lok_yy26_l11 kf k) (lf_cons (sln_yy26_l18) (lf_cons (sln_yy26_l22) (lf_cons ih lf_nil))))))
  intro vs es K r h
  unfold sl_yy26_l26 at h
  split at h
  ·exact loop_good (text_mixed t_yy26) hcf hlf (text_loop t_yy26 26).1 (text_loop t_yy26 26).2 ((eq_yy26_l26 (yy27 kf) (yy28 kf) (yy29 kf) (yy32 kf) (yy26_l8 kf k) (yy26_l11 kf k) (fun _ _ _ _ _ _ _ _ _ _ _ _ _ _ => none) (fun _ _ _ _ _ _ _ _ _ _ _ _ _ _ _ _ => none) (yy26_l26 kf k) _ _ _ _ _ _ _ _ _ _ _ _ _ _ _ _ _ K).trans h)
  ·exact no_some h
theorem lok_yy26_l22 {R : Type} (kf : Nat) : ∀ n, SlOk (R := R) C_yy26 11 148 0 22 (sl_yy26_l22 (yy26_l22 kf n)) := by
 intro n
 induction n with
 | zero =>
  intro vs es K r h
  unfold sl_yy26_l22 at h
  split at h <;> exact no_some h
 | succ k ih =>
  have hcf : CfOk (R := R) Tryd.prog glob raw (cf_yy26 (yy27 kf) (yy28 kf) (yy29 kf) (yy32 kf) (yy26_l8 kf k) (yy26_l11 kf k) (fun _ _ _ _ _ _ _ _ _ _ _ _ _ _ => none) (yy26_l22 kf k) (yy26_l26 kf k)) := (cf_cons (shok_27 (ok_yy27 kf)) (cf_cons (shok_28 (ok_yy28 kf)) (cf_cons (shok_29 (ok_yy29 kf)) (cf_cons (shok_30 (ok_yy32 kf)) cf_nil))))
  have hlf : LfOk (R := R) C_yy26 11 (lf_yy26 (yy27 kf) (yy28 kf) (yy29 kf) (yy32 kf) (yy26_l8 kf k) (yy26_l11 kf k) (fun _ _ _ _ _ _ _ _ _ _ _ _ _ _ => none) (yy26_l22 kf k) (yy26_l26 kf k)) := (lf_top (lf_cons (lok_yy26_l8 kf k) (lf_cons (lok_yy26_l11 kf k) (lf_cons (sln_yy26_l18) (lf_cons ih (lf_cons (lok_yy26_l26 kf k) lf_nil))))))
  intro vs es K r h
  unfold sl_yy26_l22 at h
  split at h
  ·exact loop_good (text_mixed t_yy26) hcf hlf (text_loop t_yy26 22).1 (text_loop t_yy26 22).2 ((eq_yy26_l22 (yy27 kf) (yy28 kf) (yy29 kf) (yy32 kf) (yy26_l8 kf k) (yy26_l11 kf k) (fun _ _ _ _ _ _ _ _ _ _ _ _ _ _ => none) (yy26_l22 kf k) (yy26_l26 kf k) _ _ _ _ _ _ _ _ _ _ _ _ _ _ _ K).trans h)
  ·exact no_some h
theorem lok_yy26_l18 {R : Type} (kf : Nat) : ∀ n, SlOk (R := R) C_yy26 11 148 0 18 (sl_yy26_l18 (yy26_l18 kf n)) := by
 intro n
 induction n with
 | zero =>
  intro vs es K r h
  unfold sl_yy26_l18 at h
  split at h <;> exact no_some h
 | succ k ih =>
  have hcf : CfOk (R := R) Tryd.prog glob raw (cf_yy26 (yy27 kf) (yy28 kf) (yy29 kf) (yy32 kf) (yy26_l8 kf k) (yy26_l11 kf k) (yy26_l18 kf k) (yy26_l22 kf k) (yy26_l26 kf k)) := (cf_cons (shok_27 (ok_yy27 kf)) (cf_cons (shok_28 (ok_yy28 kf)) (cf_cons (shok_29 (ok_yy29 kf)) (cf_cons (shok_30 (ok_yy32 kf)) cf_nil))))
  have hlf : LfOk (R := R) C_yy26 11 (lf_yy26 (yy27 kf) (yy28 kf) (yy29 kf) (yy32 kf) (yy26_l8 kf k) (yy26_l11 kf k) (yy26_l18 kf k) (yy26_l22 kf k) (yy26_l26 kf k)) := (lf_top (lf_cons (lok_yy26_l8 kf k) (lf_cons (lok_yy26_l11 kf k) (lf_cons ih (lf_cons (lok_yy26_l22 kf k) (lf_cons (lok_yy26_l26 kf k) lf_nil))))))
  intro vs es K r h
  unfold sl_yy26_l18 at h
  split at h
  ·exact loop_good (text_mixed t_yy26) hcf hlf (text_loop t_yy26 18).1 (text_loop t_yy26 18).2 ((eq_yy26_l18 (yy27 kf) (yy28 kf) (yy29 kf) (yy32 kf) (yy26_l8 kf k) (yy26_l11 kf k) (yy26_l18 kf k) (yy26_l22 kf k) (yy26_l26 kf k) _ _ _ _ _ _ _ _ _ _ _ _ _ K).trans h)
  ·exact no_some h
theorem ok_yy26 {R : Type} (kf : Nat) : Ok_yy26 (R := R) (yy26 kf) := by
 have hcf : CfOk (R := R) Tryd.prog glob raw (cf_yy26 (yy27 kf) (yy28 kf) (yy29 kf) (yy32 kf) (yy26_l8 kf kf) (yy26_l11 kf kf) (yy26_l18 kf kf) (yy26_l22 kf kf) (yy26_l26 kf kf)) := (cf_cons (shok_27 (ok_yy27 kf)) (cf_cons (shok_28 (ok_yy28 kf)) (cf_cons (shok_29 (ok_yy29 kf)) (cf_cons (shok_30 (ok_yy32 kf)) cf_nil))))
 have hlf : LfOk (R := R) C_yy26 11 (lf_yy26 (yy27 kf) (yy28 kf) (yy29 kf) (yy32 kf) (yy26_l8 kf kf) (yy26_l11 kf kf) (yy26_l18 kf kf) (yy26_l22 kf kf) (yy26_l26 kf kf)) := (lf_top (lf_cons (lok_yy26_l8 kf kf) (lf_cons (lok_yy26_l11 kf kf) (lf_cons (lok_yy26_l18 kf kf) (lf_cons (lok_yy26_l22 kf kf) (lf_cons (lok_yy26_l26 kf kf) lf_nil))))))
 intro v1 v2 v3 K r h
 exact run_good t_yy26 hcf hlf ((eq_yy26 (yy27 kf) (yy28 kf) (yy29 kf) (yy32 kf) (yy26_l8 kf kf) (yy26_l11 kf kf) (yy26_l18 kf kf) (yy26_l22 kf kf) (yy26_l26 kf kf) v1 v2 v3 K).trans h)
theorem t_yy30 : textOk C_yy30.bef Tryd.prog 22 = true := by kernel_rfl
theorem sln_yy30_l4 {R : Type} : SlOk (R := R) C_yy30 22 96 0 4 (sl_yy30_l4 (fun _ _ _ _ _ _ _ _ _ => none)) := by
 intro vs es K r h
 unfold sl_yy30_l4 at h
 split at h <;> exact no_some h
theorem sln_yy30_l9 {R : Type} : SlOk (R := R) C_yy30 22 96 0 9 (sl_yy30_l9 (fun _ _ _ _ _ _ _ _ _ => none)) := by
 intro vs es K r h
 unfold sl_yy30_l9 at h
 split at h <;> exact no_some h
theorem sln_yy30_l14 {R : Type} : SlOk (R := R) C_yy30 22 96 0 14 (sl_yy30_l14 (fun _ _ _ _ _ _ _ _ _ _ => none)) := by
 intro vs es K r h
 unfold sl_yy30_l14 at h
 split at h <;> exact no_some h
theorem lok_yy30_l4 {R : Type} (kf : Nat) : ∀ n, SlOk (R := R) C_yy30 22 96 0 4 (sl_yy30_l4 (yy30_l4 kf n)) := by
 intro n
 induction n with
 | zero =>
  intro vs es K r h
  unfold sl_yy30_l4 at h
  split at h <;> exact no_some h
 | succ k ih =>
  have hcf : CfOk (R := R) Tryd.prog glob raw (cf_yy30 (yy30_l4 kf k) (fun _ _ _ _ _ _ _ _ _ => none) (fun _ _ _ _ _ _ _ _ _ _ => none)) := cf_nil
  have hlf : LfOk (R := R) C_yy30 22 (lf_yy30 (yy30_l4 kf k) (fun _ _ _ _ _ _ _ _ _ => none) (fun _ _ _ _ _ _ _ _ _ _ => none)) := (lf_top (lf_cons ih (lf_cons (sln_yy30_l9) (lf_cons (sln_yy30_l14) lf_nil))))
  intro vs es K r h
  unfold sl_yy30_l4 at h
  split at h
  ·exact loop_good (text_mixed t_yy30) hcf hlf (text_loop t_yy30 4).1 (text_loop t_yy30 4).2 ((eq_yy30_l4 (yy30_l4 kf k) (fun _ _ _ _ _ _ _ _ _ => none) (fun _ _ _ _ _ _ _ _ _ _ => none) _ _ _ _ _ _ _ K).trans h)
  ·exact no_some h
theorem lok_yy30_l14 {R : Type} (kf : Nat) : ∀ n, SlOk (R := R) C_yy30 22 96 0 14 (sl_yy30_l14 (yy30_l14 kf n)) := by
 intro n
 induction n with
 | zero =>
  intro vs es K r h
  unfold sl_yy30_l14 at h
  split at h <;> exact no_some h
 | succ k ih =>
  have hcf : CfOk (R := R) Tryd.prog glob raw (cf_yy30 (yy30_l4 kf k) (fun _ _ _ _ _ _ _ _ _ => none) (yy30_l14 kf k)) := cf_nil
  have hlf : LfOk (R := R) C_yy30 22 (lf_yy30 (yy30_l4 kf k) (fun _ _ _ _ _ _ _ _ _ => none) (yy30_l14 kf k)) := (lf_top (lf_cons (lok_yy30_l4 kf k) (lf_cons (sln_yy30_l9) (lf_cons ih lf_nil))))
  intro vs es K r h
  unfold sl_yy30_l14 at h
  split at h
  ·exact loop_good (text_mixed t_yy30) hcf hlf (text_loop t_yy30 14).1 (text_loop t_yy30 14).2 ((eq_yy30_l14 (yy30_l4 kf k) (fun _ _ _ _ _ _ _ _ _ => none) (yy30_l14 kf k) _ _ _ _ _ _ _ _ K).trans h)
  ·exact no_some h
theorem lok_yy30_l9 {R : Type} (kf : Nat) : ∀ n, SlOk (R := R) C_yy30 22 96 0 9 (sl_yy30_l9 (yy30_l9 kf n)) := by
 intro n
 induction n with
 | zero =>
  intro vs es K r h
  unfold sl_yy30_l9 at h
  split at h <;> exact no_some h
 | succ k ih =>
  have hcf : CfOk (R := R) Tryd.prog glob raw (cf_yy30 (yy30_l4 kf k) (yy30_l9 kf k) (yy30_l14 kf k)) := cf_nil
  have hlf : LfOk (R := R) C_yy30 22 (lf_yy30 (yy30_l4 kf k) (yy30_l9 kf k) (yy30_l14 kf k)) := (lf_top (lf_cons (lok_yy30_l4 kf k) (lf_cons ih (lf_cons (lok_yy30_l14 kf k) lf_nil))))
  intro vs es K r h
  unfold sl_yy30_l9 at h
  split at h
  ·exact loop_good (text_mixed t_yy30) hcf hlf (text_loop t_yy30 9).1 (text_loop t_yy30 9).2 ((eq_yy30_l9 (yy30_l4 kf k) (yy30_l9 kf k) (yy30_l14 kf k) _ _ _ _ _ _ _ K).trans h)
  ·exact no_some h
theorem ok_yy30 {R : Type} (kf : Nat) : Ok_yy30 (R := R) (yy30 kf) := by
 have hcf : CfOk (R := R) Tryd.prog glob raw (cf_yy30 (yy30_l4 kf kf) (yy30_l9 kf kf) (yy30_l14 kf kf)) := cf_nil
 have hlf : LfOk (R := R) C_yy30 22 (lf_yy30 (yy30_l4 kf kf) (yy30_l9 kf kf) (yy30_l14 kf kf)) := (lf_top (lf_cons (lok_yy30_l4 kf kf) (lf_cons (lok_yy30_l9 kf kf) (lf_cons (lok_yy30_l14 kf kf) lf_nil))))
 intro v1 v2 v3 v4 v5 v6 K r h
 exact run_good t_yy30 hcf hlf ((eq_yy30 (yy30_l4 kf kf) (yy30_l9 kf kf) (yy30_l14 kf kf) v1 v2 v3 v4 v5 v6 K).trans h)
theorem t_yy25 : textOk C_yy25.bef Tryd.prog 26 = true := by kernel_rfl
theorem ok_yy25 {R : Type} (kf : Nat) : Ok_yy25 (R := R) (yy25 kf) := by
 have hcf : CfOk (R := R) Tryd.prog glob raw (cf_yy25 (yy27 kf) (yy26 kf) (yy30 kf)) := (cf_cons (shok_27 (ok_yy27 kf)) (cf_cons (shok_11 (ok_yy26 kf)) (cf_cons (shok_22 (ok_yy30 kf)) cf_nil)))
 have hlf : LfOk (R := R) C_yy25 26 (lf_yy25 (yy27 kf) (yy26 kf) (yy30 kf)) := lf_none
 intro v1 v2 v3 K r h
 exact run_good t_yy25 hcf hlf ((eq_yy25 (yy27 kf) (yy26 kf) (yy30 kf) v1 v2 v3 K).trans h)
theorem t_yy31 : textOk C_yy31.bef Tryd.prog 19 = true := by kernel_rfl
theorem sln_yy31_l12 {R : Type} : SlOk (R := R) C_yy31 19 210 0 12 (sl_yy31_l12 (fun _ _ _ _ _ _ _ _ _ _ _ _ _ _ _ _ => none)) := by
 intro vs es K r h
 unfold sl_yy31_l12 at h
 split at h <;> exact no_some h
theorem sln_yy31_l23 {R : Type} : SlOk (R := R) C_yy31 19 210 0 23 (sl_yy31_l23 (fun _ _ _ _ _ _ _ _ _ _ _ _ _ _ => none)) := by
 intro vs es K r h
 unfold sl_yy31_l23 at h
 split at h <;> exact no_some h
theorem sln_yy31_l28 {R : Type} : SlOk (R := R) C_yy31 19 210 0 28 (sl_yy31_l28 (fun _ _ _ _ _ _ _ _ _ _ _ _ _ => none)) := by
 intro vs es K r h
 unfold sl_yy31_l28 at h
 split at h <;> exact no_some h
theorem sln_yy31_l32 {R : Type} : SlOk (R := R) C_yy31 19 210 0 32 (sl_yy31_l32 (fun _ _ _ _ _ _ _ _ _ _ _ _ _ _ _ => none)) := by
 intro vs es K r h
 unfold sl_yy31_l32 at h
 split at h <;> exact no_some h
theorem lok_yy31_l23 {R : Type} (kf : Nat) : ∀ n, SlOk (R := R) C_yy31 19 210 0 23 (sl_yy31_l23 (yy31_l23 kf n)) := by
 intro n
 induction n with
 | zero =>
  intro vs es K r h
  unfold sl_yy31_l23 at h
  split at h <;> exact no_some h
 | succ k ih =>
  have hcf : CfOk (R := R) Tryd.prog glob raw (cf_yy31 (yy25 kf) (fun _ _ _ _ _ _ _ _ _ _ _ _ _ _ _ _ => none) (yy31_l23 kf k) (fun _ _ _ _ _ _ _ _ _ _ _ _ _ => none) (fun _ _ _ _ _ _ _ _ _ _ _ _ _ _ _ => none)) := (cf_cons (shok_26 (ok_yy25 kf)) cf_nil)
  have hlf : LfOk (R := R) C_yy31 19 (lf_yy31 (yy25 kf) (fun _ _ _ _ _ _ _ _ _ _ _ _ _ _ _ _ => none) (yy31_l23 kf k) (fun _ _ _ _ _ _ _ _ _ _ _ _ _ => none) (fun _ _ _ _ _ _ _ _ _ _ _ _ _ _ _ => none)) := (lf_top (lf_cons (sln_yy31_l12) (lf_cons ih (lf_cons (sln_yy31_l28) (lf_cons (sln_yy31_l32) lf_nil)))))
  intro vs es K r h
  unfold sl_yy31_l23 at h
  split at h
  ·exact loop_good (text_mixed t_yy31) hcf hlf (text_loop t_yy31 23).1 (text_loop t_yy31 23).2 ((eq_yy31_l23 (yy25 kf) (fun _ _ _ _ _ _ _ _ _ _ _ _ _ _ _ _ => none) (yy31_l23 kf k) (fun _ _ _ _ _ _ _ _ _ _ _ _ _ => none) (fun _ _ _ _ _ _ _ _ _ _ _ _ _ _ _ => none) _ _ _ _ _ _ _ _ _ _ _ _ _ K).trans h)
  ·exact no_some h
theorem lok_yy31_l12 {R : Type} (kf : Nat) : ∀ n, SlOk (R := R) C_yy31 19 210 0 12 (sl_yy31_l12 (yy31_l12 kf n)) := by
 intro n
 induction n with
 | zero =>
  intro vs es K r h
  unfold sl_yy31_l12 at h
  split at h <;> exact no_some h
 | succ k ih =>
  have hcf : CfOk (R := R) Tryd.prog glob raw (cf_yy31 (yy25 kf) (yy31_l12 kf k) (yy31_l23 kf k) (fun _ _ _ _ _ _ _ _ _ _ _ _ _ => none) (fun _ _ _ _ _ _ _ _ _ _ _ _ _ _ _ => none)) := (cf_cons (shok_26 (ok_yy25 kf)) cf_nil)
  have hlf : LfOk (R := R) C_yy31 19 (lf_yy31 (yy25 kf) (yy31_l12 kf k) (yy31_l23 kf k) (fun _ _ _ _ _ _ _ _ _ _ _ _ _ => none) (fun _ _ _ _ _ _ _ _ _ _ _ _ _ _ _ => none)) := (lf_top (lf_cons ih (lf_cons (lok_yy31_l23 kf k) (lf_cons (sln_yy31_l28) (lf_cons (sln_yy31_l32) lf_nil)))))
  intro vs es K r h
  unfold sl_yy31_l12 at h
  split at h
  ·exact loop_good (text_mixed t_yy31) hcf hlf (text_loop t_yy31 12).1 (text_loop t_yy31 12).2 ((eq_yy31_l12 (yy25 kf) (yy31_l12 kf k) (yy31_l23 kf k) (fun _ _ _ _ _ _ _ _ _ _ _ _ _ => none) (fun _ _ _ _ _ _ _ _ _ _ _ _ _ _ _ => none) _ _ _ _ _ _ _ _ _ _ _ _ _ _ K).trans h)
  ·exact no_some h
theorem lok_yy31_l32 {R : Type} (kf : Nat) : ∀ n, SlOk (R := R) C_yy31 19 210 0 32 (sl_yy31_l32 (yy31_l32 kf n)) := by
 intro n
 induction n with
 | zero =>
  intro vs es K r h
  unfold sl_yy31_l32 at h
  split at h <;> exact no_some h
 | succ k ih =>
  have hcf : CfOk (R := R) Tryd.prog glob raw (cf_yy31 (yy25 kf) (yy31_l12 kf k) (yy31_l23 kf k) (fun _ _ _ _ _ _ _ _ _ _ _ _ _ => none) (yy31_l32 kf k)) := (cf_cons (shok_26 (ok_yy25 kf)) cf_nil)
  have hlf : LfOk (R := R) C_yy31 19 (lf_yy31 (yy25 kf) (yy31_l12 kf k) (yy31_l23 kf k) (fun _ _ _ _ _ _ _ _ _ _ _ _ _ => none) (yy31_l32 kf k)) := (lf_top (lf_cons (lok_yy31_l12 kf k) (lf_cons (lok_yy31_l23 kf k) (lf_cons (sln_yy31_l28) (lf_cons ih lf_nil)))))
  intro vs es K r h
  unfold sl_yy31_l32 at h
  split at h
  ·exact loop_good (text_mixed t_yy31) hcf hlf (text_loop t_yy31 32).1 (text_loop t_yy31 32).2 ((eq_yy31_l32 (yy25 kf) (yy31_l12 kf k) (yy31_l23 kf k) (fun _ _ _ _ _ _ _ _ _ _ _ _ _ => none) (yy31_l32 kf k) _ _ _ _ _ _ _ _ _ _ _ _ _ K).trans h)
  ·exact no_some h
theorem lok_yy31_l28 {R : Type} (kf : Nat) : ∀ n, SlOk (R := R) C_yy31 19 210 0 28 (sl_yy31_l28 (yy31_l28 kf n)) := by
 intro n
 induction n with
 | zero =>
  intro vs es K r h
  unfold sl_yy31_l28 at h
  split at h <;> exact no_some h
 | succ k ih =>
  have hcf : CfOk (R := R) Tryd.prog glob raw (cf_yy31 (yy25 kf) (yy31_l12 kf k) (yy31_l23 kf k) (yy31_l28 kf k) (yy31_l32 kf k)) := (cf_cons (shok_26 (ok_yy25 kf)) cf_nil)
  have hlf : LfOk (R := R) C_yy31 19 (lf_yy31 (yy25 kf) (yy31_l12 kf k) (yy31_l23 kf k) (yy31_l28 kf k) (yy31_l32 kf k)) := (lf_top (lf_cons (lok_yy31_l12 kf k) (lf_cons (lok_yy31_l23 kf k) (lf_cons ih (lf_cons (lok_yy31_l32 kf k) lf_nil)))))
  intro vs es K r h
  unfold sl_yy31_l28 at h
  split at h
  ·exact loop_good (text_mixed t_yy31) hcf hlf (text_loop t_yy31 28).1 (text_loop t_yy31 28).2 ((eq_yy31_l28 (yy25 kf) (yy31_l12 kf k) (yy31_l23 kf k) (yy31_l28 kf k) (yy31_l32 kf k) _ _ _ _ _ _ _ _ _ _ _ K).trans h)
  ·exact no_some h
theorem ok_yy31 {R : Type} (kf : Nat) : Ok_yy31 (R := R) (yy31 kf) := by
 have hcf : CfOk (R := R) Tryd.prog glob raw (cf_yy31 (yy25 kf) (yy31_l12 kf kf) (yy31_l23 kf kf) (yy31_l28 kf kf) (yy31_l32 kf kf)) := (cf_cons (shok_26 (ok_yy25 kf)) cf_nil)
 have hlf : LfOk (R := R) C_yy31 19 (lf_yy31 (yy25 kf) (yy31_l12 kf kf) (yy31_l23 kf kf) (yy31_l28 kf kf) (yy31_l32 kf kf)) := (lf_top (lf_cons (lok_yy31_l12 kf kf) (lf_cons (lok_yy31_l23 kf kf) (lf_cons (lok_yy31_l28 kf kf) (lf_cons (lok_yy31_l32 kf kf) lf_nil)))))
 intro v1 K r h
 exact run_good t_yy31 hcf hlf ((eq_yy31 (yy25 kf) (yy31_l12 kf kf) (yy31_l23 kf kf) (yy31_l28 kf kf) (yy31_l32 kf kf) v1 K).trans h)
theorem t_yy7 : textOk C_yy7.bef Tryd.prog 20 = true := by kernel_rfl
theorem sln_yy7_l5 {R : Type} : SlOk (R := R) C_yy7 20 38 1 5 (sl_yy7_l5 (fun _ _ _ _ _ _ => none)) := by
 intro vs es K r h
 unfold sl_yy7_l5 at h
 split at h <;> exact no_some h
theorem lok_yy7_l5 {R : Type} (kf : Nat) : ∀ n, SlOk (R := R) C_yy7 20 38 1 5 (sl_yy7_l5 (yy7_l5 kf n)) := by
 intro n
 induction n with
 | zero =>
  intro vs es K r h
  unfold sl_yy7_l5 at h
  split at h <;> exact no_some h
 | succ k ih =>
  have hcf : CfOk (R := R) Tryd.prog glob raw (cf_yy7 (yy7_l5 kf k)) := cf_nil
  have hlf : LfOk (R := R) C_yy7 20 (lf_yy7 (yy7_l5 kf k)) := (lf_top (lf_cons ih lf_nil))
  intro vs es K r h
  unfold sl_yy7_l5 at h
  split at h
  ·exact loop_good (text_mixed t_yy7) hcf hlf (text_loop t_yy7 5).1 (text_loop t_yy7 5).2 ((eq_yy7_l5 (yy7_l5 kf k) _ _ _ _ K).trans h)
  ·exact no_some h
theorem ok_yy7 {R : Type} (kf : Nat) : Ok_yy7 (R := R) (yy7 kf) := by
 have hcf : CfOk (R := R) Tryd.prog glob raw (cf_yy7 (yy7_l5 kf kf)) := cf_nil
 have hlf : LfOk (R := R) C_yy7 20 (lf_yy7 (yy7_l5 kf kf)) := (lf_top (lf_cons (lok_yy7_l5 kf kf) lf_nil))
 intro v1 v2 v3 K r h
 exact run_good t_yy7 hcf hlf ((eq_yy7 (yy7_l5 kf kf) v1 v2 v3 K).trans h)
theorem t_yy9 : textOk C_yy9.bef Tryd.prog 4 = true := by kernel_rfl
theorem ok_yy9 {R : Type} (kf : Nat) : Ok_yy9 (R := R) (yy9 kf) := by
 have hcf : CfOk (R := R) Tryd.prog glob raw (cf_yy9 (yy10 kf) (yy8 kf) (yy2 kf) (yy31 kf) (yy7 kf) (yy30 kf)) := (cf_cons (shok_9 (ok_yy10 kf)) (cf_cons (shok_17 (ok_yy8 kf)) (cf_cons (shok_18 (ok_yy2 kf)) (cf_cons (shok_19 (ok_yy31 kf)) (cf_cons (shok_20 (ok_yy7 kf)) (cf_cons (pok_21) (cf_cons (shok_22 (ok_yy30 kf)) cf_nil)))))))
 have hlf : LfOk (R := R) C_yy9 4 (lf_yy9 (yy10 kf) (yy8 kf) (yy2 kf) (yy31 kf) (yy7 kf) (yy30 kf)) := lf_none
 intro v1 K r h
 exact run_good t_yy9 hcf hlf ((eq_yy9 (yy10 kf) (yy8 kf) (yy2 kf) (yy31 kf) (yy7 kf) (yy30 kf) v1 K).trans h)
end
end Go.Ab.T
