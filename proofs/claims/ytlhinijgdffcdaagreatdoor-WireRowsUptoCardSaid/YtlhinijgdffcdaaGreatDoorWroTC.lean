/- WroTC: a part of the proofs of this seat's statements. -/
import Derived.Test.YtlhinijgdffcdaaGreatDoorWroTE
import Derived.Test.YtlhinijgdffcdaaGreatDoorKnot
import Derived.Test.YtlhinijgdffcdaaGreatDoorWroTP
namespace Go.Ab.T
open Go Go.Ab Go.Proofs
set_option maxRecDepth 100000
set_option linter.unusedVariables false
noncomputable section
variable {R : Type}
def Ok_yy0 (c : LI → (Bool → Option R) → Option R) : Prop := ∀ (v1 : LI) (K : KS R) (r : R), c v1 (fun r0 => K (.bool r0) []) = some r → ∃ v es, FnOk Tryz.prog glob 3 (npF raw 3 []) [.sl (.int .u8) v1] [] v es ∧ K v es = some r
theorem okn_yy0 : Ok_yy0 (R := R) (fun _ _ => none) := fun _ _ _ h => no_some h
theorem shok_3 {c0 : LI → (Bool → Option R) → Option R} (h0 : Ok_yy0 c0) : ShOk Tryz.prog glob raw 3 (sh3 c0) := by
 intro av es K r h
 unfold sh3 at h
 split at h
 ·exact h0 _ _ _ h
 ·exact no_some h
def Ok_yy1 (c : (Bool → Option R) → Option R) : Prop := ∀ (K : KS R) (r : R), c (fun r0 => K (.bool r0) []) = some r → ∃ v es, FnOk Tryz.prog glob 4 (npF raw 4 []) [] [] v es ∧ K v es = some r
theorem okn_yy1 : Ok_yy1 (R := R) (fun _ => none) := fun _ _ h => no_some h
theorem shok_4 {c1 : (Bool → Option R) → Option R} (h1 : Ok_yy1 c1) : ShOk Tryz.prog glob raw 4 (sh4 c1) := by
 intro av es K r h
 unfold sh4 at h
 split at h
 ·exact h1 _ _ h
 ·exact no_some h
def Ok_yy6 (c : T47 R) : Prop := ∀ (v1 : LI) (v2 : Int) (K : KS R) (r : R), c v1 v2 (fun r0 => K (.own tZ1 0) [.buf tZ1 r0 false]) = some r → ∃ v es, FnOk Tryz.prog glob 5 (npF raw 5 []) [.sl (.int .u8) v1, .int .i64 v2] [] v es ∧ K v es = some r
theorem okn_yy6 : Ok_yy6 (R := R) (fun _ _ _ => none) := fun _ _ _ _ h => no_some h
theorem shok_5 {c6 : T47 R} (h6 : Ok_yy6 c6) : ShOk Tryz.prog glob raw 5 (sh5 c6) := by
 intro av es K r h
 unfold sh5 at h
 split at h
 ·exact h6 _ _ _ _ h
 ·exact no_some h
def Ok_yy62 (c : T22 R) : Prop := ∀ (v1 : LI) (v2 : Int) (v3 v4 v5 : LI) (v6 : Int) (v7 : LI) (v8 : Int) (v9 : LZ1) (K : KS R) (r : R), c v1 v2 v3 v4 v5 v6 v7 v8 v9 (fun r0 r1 => K (.tup [.own (.int .u8) 0, .int .i64 r0]) [.buf (.int .u8) r1 false]) = some r → ∃ v es, FnOk Tryz.prog glob 6 (npF raw 6 []) [.sl (.int .u8) v1, .st [.int .i64 v2, .str v3, .str v4, .str v5, .int .i64 v6, .sl (.nw .u8) v7, .int .i64 v8, .sl tZ1 v9]] [] v es ∧ K v es = some r
theorem okn_yy62 : Ok_yy62 (R := R) (fun _ _ _ _ _ _ _ _ _ _ => none) := fun _ _ _ _ _ _ _ _ _ _ _ h => no_some h
theorem shok_6 {c62 : T22 R} (h62 : Ok_yy62 c62) : ShOk Tryz.prog glob raw 6 (sh6 c62) := by
 intro av es K r h
 unfold sh6 at h
 split at h
 ·exact h62 _ _ _ _ _ _ _ _ _ _ _ h
 ·exact no_some h
def Ok_yy64 (c : T23 R) : Prop := ∀ (v1 : LI) (K : KS R) (r : R), c v1 (fun r0 r1 r2 r3 r4 r5 r6 r7 r8 r9 => K (.tup [.st [.int .i64 r0, .str r1, .str r2, .str r3, .int .i64 r4, .own (.int .u8) 0, .int .i64 r5, .own tZ1 1], .int .i64 r6, .int .i64 r7]) [.buf (.int .u8) r8 false, .buf tZ1 r9 false]) = some r → ∃ v es, FnOk Tryz.prog glob 7 (npF raw 7 []) [.sl (.int .u8) v1] [] v es ∧ K v es = some r
theorem okn_yy64 : Ok_yy64 (R := R) (fun _ _ => none) := fun _ _ _ h => no_some h
theorem shok_7 {c64 : T23 R} (h64 : Ok_yy64 c64) : ShOk Tryz.prog glob raw 7 (sh7 c64) := by
 intro av es K r h
 unfold sh7 at h
 split at h
 ·exact h64 _ _ _ h
 ·exact no_some h
def Ok_yy28 (c : T13 R) : Prop := ∀ (v1 : Int) (v2 v3 v4 : LI) (v5 : Int) (v6 : LI) (v7 : Int) (v8 : LZ1) (v9 : Int) (v10 v11 v12 : LI) (v13 : Int) (v14 : LI) (v15 : Int) (v16 : LZ1) (K : KS R) (r : R), c v1 v2 v3 v4 v5 v6 v7 v8 v9 v10 v11 v12 v13 v14 v15 v16 (fun r0 => K (.bool r0) []) = some r → ∃ v es, FnOk Tryz.prog glob 8 (npF raw 8 []) [.st [.int .i64 v1, .str v2, .str v3, .str v4, .int .i64 v5, .sl (.nw .u8) v6, .int .i64 v7, .sl tZ1 v8], .st [.int .i64 v9, .str v10, .str v11, .str v12, .int .i64 v13, .sl (.nw .u8) v14, .int .i64 v15, .sl tZ1 v16]] [] v es ∧ K v es = some r
theorem okn_yy28 : Ok_yy28 (R := R) (fun _ _ _ _ _ _ _ _ _ _ _ _ _ _ _ _ _ => none) := fun _ _ _ _ _ _ _ _ _ _ _ _ _ _ _ _ _ _ h => no_some h
theorem shok_8 {c28 : T13 R} (h28 : Ok_yy28 c28) : ShOk Tryz.prog glob raw 8 (sh8 c28) := by
 intro av es K r h
 unfold sh8 at h
 split at h
 ·exact h28 _ _ _ _ _ _ _ _ _ _ _ _ _ _ _ _ _ _ h
 ·exact no_some h
def Ok_yy63 (c : T69 R) : Prop := ∀ (v1 : LI) (v2 v3 v4 : Int) (v5 : Bool) (v6 v7 : LI) (v8 : LL) (K : KS R) (r : R), c v1 v2 v3 v4 v5 v6 v7 v8 (fun r0 r1 => K (.tup [.own (.int .u8) 0, .int .i64 r0]) [.buf (.int .u8) r1 false]) = some r → ∃ v es, FnOk Tryz.prog glob 9 (npF raw 9 []) [.sl (.int .u8) v1, .st [.int .i64 v2, .int .i64 v3, .int .i64 v4, .st [.bool v5, .sl (.int .u8) v6], .str v7, .sl .str v8]] [] v es ∧ K v es = some r
theorem okn_yy63 : Ok_yy63 (R := R) (fun _ _ _ _ _ _ _ _ _ => none) := fun _ _ _ _ _ _ _ _ _ _ h => no_some h
theorem shok_9 {c63 : T69 R} (h63 : Ok_yy63 c63) : ShOk Tryz.prog glob raw 9 (sh9 c63) := by
 intro av es K r h
 unfold sh9 at h
 split at h
 ·exact h63 _ _ _ _ _ _ _ _ _ _ h
 ·exact no_some h
def Ok_yy65 (c : T70 R) : Prop := ∀ (v1 : LI) (K : KS R) (r : R), c v1 (fun r0 r1 r2 r3 r4 r5 r6 r7 r8 => K (.tup [.st [.int .i64 r0, .int .i64 r1, .int .i64 r2, .st [.bool r3, .own (.int .u8) 0], .str r4, .own .str 1], .int .i64 r5, .int .i64 r6]) [.buf (.int .u8) r7 false, .buf .str r8 false]) = some r → ∃ v es, FnOk Tryz.prog glob 10 (npF raw 10 []) [.sl (.int .u8) v1] [] v es ∧ K v es = some r
theorem okn_yy65 : Ok_yy65 (R := R) (fun _ _ => none) := fun _ _ _ h => no_some h
theorem shok_10 {c65 : T70 R} (h65 : Ok_yy65 c65) : ShOk Tryz.prog glob raw 10 (sh10 c65) := by
 intro av es K r h
 unfold sh10 at h
 split at h
 ·exact h65 _ _ _ h
 ·exact no_some h
def Ok_yy7 (c : T59 R) : Prop := ∀ (v1 : LI) (K : KS R) (r : R), c v1 (fun r0 r1 => K (.ptr 0 []) [.box (.st [.sl (.int .u8) r0, .int .i64 r1]) false]) = some r → ∃ v es, FnOk Tryz.prog glob 11 (npF raw 11 []) [.sl (.int .u8) v1] [] v es ∧ K v es = some r
theorem okn_yy7 : Ok_yy7 (R := R) (fun _ _ => none) := fun _ _ _ h => no_some h
theorem shok_11 {c7 : T59 R} (h7 : Ok_yy7 c7) : ShOk Tryz.prog glob raw 11 (sh11 c7) := by
 intro av es K r h
 unfold sh11 at h
 split at h
 ·exact h7 _ _ _ h
 ·exact no_some h
def Ok_yy16 (c : T32 R) : Prop := ∀ (v1 : LI) (v2 : Int) (K : KS R) (r : R), c v1 v2 (fun r0 r1 r2 => K (.bool r0) [.box (.st [.sl (.int .u8) r1, .int .i64 r2]) false]) = some r → ∃ v es, FnOk Tryz.prog glob 12 (npF raw 12 [.box (.st [.sl (.int .u8) v1, .int .i64 v2]) false]) [.ptr 0 []] [.box (.st [.sl (.int .u8) v1, .int .i64 v2]) false] v es ∧ K v es = some r
theorem okn_yy16 : Ok_yy16 (R := R) (fun _ _ _ => none) := fun _ _ _ _ h => no_some h
theorem shok_12 {c16 : T32 R} (h16 : Ok_yy16 c16) : ShOk Tryz.prog glob raw 12 (sh12 c16) := by
 intro av es K r h
 unfold sh12 at h
 split at h
 ·exact h16 _ _ _ _ h
 ·exact no_some h
def Ok_yy8 (c : T60 R) : Prop := ∀ (v1 : LI) (v2 : Int) (K : KS R) (r : R), c v1 v2 (fun r0 r1 r2 r3 r4 r5 r6 r7 r8 r9 => K (.st [.int .i64 r0, .str r1, .str r2, .str r3, .int .i64 r4, .own (.int .u8) 1, .int .i64 r5, .own tZ1 2]) [.box (.st [.sl (.int .u8) r6, .int .i64 r7]) false, .buf (.int .u8) r8 false, .buf tZ1 r9 false]) = some r → ∃ v es, FnOk Tryz.prog glob 13 (npF raw 13 [.box (.st [.sl (.int .u8) v1, .int .i64 v2]) false]) [.ptr 0 []] [.box (.st [.sl (.int .u8) v1, .int .i64 v2]) false] v es ∧ K v es = some r
theorem okn_yy8 : Ok_yy8 (R := R) (fun _ _ _ => none) := fun _ _ _ _ h => no_some h
theorem shok_13 {c8 : T60 R} (h8 : Ok_yy8 c8) : ShOk Tryz.prog glob raw 13 (sh13 c8) := by
 intro av es K r h
 unfold sh13 at h
 split at h
 ·exact h8 _ _ _ _ h
 ·exact no_some h
def Ok_yy74 (c : T18 R) : Prop := ∀ (v1 : Int) (v2 v3 v4 : LI) (v5 : Int) (v6 : LI) (v7 : Int) (v8 : LZ1) (v9 : Bool) (v10 : Err) (v11 : LI) (K : KS R) (r : R), c v1 v2 v3 v4 v5 v6 v7 v8 v9 v10 v11 (fun r0 r1 => K (.tup []) [.box (.st [.own (.int .u8) 1, .err r0]) false, .buf (.int .u8) r1 false]) = some r → ∃ v es, FnOk Tryz.prog glob 14 (npF raw 14 [.box (.st [.own (.int .u8) 1, .err v10]) false, .buf (.int .u8) v11 false]) [.ptr 0 [], .st [.int .i64 v1, .str v2, .str v3, .str v4, .int .i64 v5, .sl (.nw .u8) v6, .int .i64 v7, .sl tZ1 v8], .bool v9] [.box (.st [.own (.int .u8) 1, .err v10]) false, .buf (.int .u8) v11 false] v es ∧ K v es = some r
theorem okn_yy74 : Ok_yy74 (R := R) (fun _ _ _ _ _ _ _ _ _ _ _ _ => none) := fun _ _ _ _ _ _ _ _ _ _ _ _ _ h => no_some h
theorem shok_14 {c74 : T18 R} (h74 : Ok_yy74 c74) : ShOk Tryz.prog glob raw 14 (sh14 c74) := by
 intro av es K r h
 unfold sh14 at h
 split at h
 ·exact h74 _ _ _ _ _ _ _ _ _ _ _ _ _ h
 ·exact no_some h
def Ok_yy68 (c : Err → (Int → Option R) → Option R) : Prop := ∀ (v1 : Err) (K : KS R) (r : R), c v1 (fun r0 => K (.int .i64 r0) []) = some r → ∃ v es, FnOk Tryz.prog glob 15 (npF raw 15 []) [.err v1] [] v es ∧ K v es = some r
theorem okn_yy68 : Ok_yy68 (R := R) (fun _ _ => none) := fun _ _ _ h => no_some h
theorem shok_15 {c68 : Err → (Int → Option R) → Option R} (h68 : Ok_yy68 c68) : ShOk Tryz.prog glob raw 15 (sh15 c68) := by
 intro av es K r h
 unfold sh15 at h
 split at h
 ·exact h68 _ _ _ h
 ·exact no_some h
def Ok_yy69 (c : T21 R) : Prop := ∀ (v1 : Bool) (v2 : LI) (v3 : Err) (K : KS R) (r : R), c v1 v2 v3 (fun r0 r1 r2 r3 r4 r5 r6 r7 r8 r9 => K (.st [.int .i64 r0, .str r1, .str r2, .str r3, .int .i64 r4, .own (.int .u8) 1, .int .i64 r5, .own tZ1 2]) [.box (.st [.sl (.int .u8) r6, .err r7]) false, .buf (.int .u8) r8 false, .buf tZ1 r9 false]) = some r → ∃ v es, FnOk Tryz.prog glob 16 (npF raw 16 [.box (.st [.sl (.int .u8) v2, .err v3]) false]) [.ptr 0 [], .bool v1] [.box (.st [.sl (.int .u8) v2, .err v3]) false] v es ∧ K v es = some r
theorem okn_yy69 : Ok_yy69 (R := R) (fun _ _ _ _ => none) := fun _ _ _ _ _ h => no_some h
theorem shok_16 {c69 : T21 R} (h69 : Ok_yy69 c69) : ShOk Tryz.prog glob raw 16 (sh16 c69) := by
 intro av es K r h
 unfold sh16 at h
 split at h
 ·exact h69 _ _ _ _ _ h
 ·exact no_some h
def Ok_yy75 (c : T16 R) : Prop := ∀ (v1 v2 v3 : Int) (v4 : Err) (v5 : LI) (K : KS R) (r : R), c v1 v2 v3 v4 v5 (fun r0 r1 => K (.tup []) [.box (.st [.own (.int .u8) 1, .err r0]) false, .buf (.int .u8) r1 false]) = some r → ∃ v es, FnOk Tryz.prog glob 17 (npF raw 17 [.box (.st [.own (.int .u8) 1, .err v4]) false, .buf (.int .u8) v5 false]) [.ptr 0 [], .int .i64 v1, .int .i64 v2, .int .i64 v3] [.box (.st [.own (.int .u8) 1, .err v4]) false, .buf (.int .u8) v5 false] v es ∧ K v es = some r
theorem okn_yy75 : Ok_yy75 (R := R) (fun _ _ _ _ _ _ => none) := fun _ _ _ _ _ _ _ h => no_some h
theorem shok_17 {c75 : T16 R} (h75 : Ok_yy75 c75) : ShOk Tryz.prog glob raw 17 (sh17 c75) := by
 intro av es K r h
 unfold sh17 at h
 split at h
 ·exact h75 _ _ _ _ _ _ _ h
 ·exact no_some h
def Ok_yy76 (c : T17 R) : Prop := ∀ (v1 : LI) (v2 : Err) (v3 : LI) (K : KS R) (r : R), c v1 v2 v3 (fun r0 r1 => K (.tup []) [.box (.st [.own (.int .u8) 1, .err r0]) false, .buf (.int .u8) r1 false]) = some r → ∃ v es, FnOk Tryz.prog glob 18 (npF raw 18 [.box (.st [.own (.int .u8) 1, .err v2]) false, .buf (.int .u8) v3 false]) [.ptr 0 [], .str v1] [.box (.st [.own (.int .u8) 1, .err v2]) false, .buf (.int .u8) v3 false] v es ∧ K v es = some r
theorem okn_yy76 : Ok_yy76 (R := R) (fun _ _ _ _ => none) := fun _ _ _ _ _ h => no_some h
theorem shok_18 {c76 : T17 R} (h76 : Ok_yy76 c76) : ShOk Tryz.prog glob raw 18 (sh18 c76) := by
 intro av es K r h
 unfold sh18 at h
 split at h
 ·exact h76 _ _ _ _ _ h
 ·exact no_some h
def Ok_yy71 (c : T19 R) : Prop := ∀ (v1 : Int) (v2 : LI) (v3 : Err) (K : KS R) (r : R), c v1 v2 v3 (fun r0 r1 r2 => K (.int .i64 r0) [.box (.st [.sl (.int .u8) r1, .err r2]) false]) = some r → ∃ v es, FnOk Tryz.prog glob 19 (npF raw 19 [.box (.st [.sl (.int .u8) v2, .err v3]) false]) [.ptr 0 [], .int .i64 v1] [.box (.st [.sl (.int .u8) v2, .err v3]) false] v es ∧ K v es = some r
theorem okn_yy71 : Ok_yy71 (R := R) (fun _ _ _ _ => none) := fun _ _ _ _ _ h => no_some h
theorem shok_19 {c71 : T19 R} (h71 : Ok_yy71 c71) : ShOk Tryz.prog glob raw 19 (sh19 c71) := by
 intro av es K r h
 unfold sh19 at h
 split at h
 ·exact h71 _ _ _ _ _ h
 ·exact no_some h
def Ok_yy70 (c : T8 R) : Prop := ∀ (v1 : Int) (v2 : LI) (v3 : Err) (K : KS R) (r : R), c v1 v2 v3 (fun r0 r1 => K (.tup []) [.box (.st [.sl (.int .u8) r0, .err r1]) false]) = some r → ∃ v es, FnOk Tryz.prog glob 20 (npF raw 20 [.box (.st [.sl (.int .u8) v2, .err v3]) false]) [.ptr 0 [], .int .i64 v1] [.box (.st [.sl (.int .u8) v2, .err v3]) false] v es ∧ K v es = some r
theorem okn_yy70 : Ok_yy70 (R := R) (fun _ _ _ _ => none) := fun _ _ _ _ _ h => no_some h
theorem shok_20 {c70 : T8 R} (h70 : Ok_yy70 c70) : ShOk Tryz.prog glob raw 20 (sh20 c70) := by
 intro av es K r h
 unfold sh20 at h
 split at h
 ·exact h70 _ _ _ _ _ h
 ·exact no_some h
def Ok_yy72 (c : T20 R) : Prop := ∀ (v1 : LI) (v2 : Err) (K : KS R) (r : R), c v1 v2 (fun r0 r1 r2 => K (.str r0) [.box (.st [.sl (.int .u8) r1, .err r2]) false]) = some r → ∃ v es, FnOk Tryz.prog glob 21 (npF raw 21 [.box (.st [.sl (.int .u8) v1, .err v2]) false]) [.ptr 0 []] [.box (.st [.sl (.int .u8) v1, .err v2]) false] v es ∧ K v es = some r
theorem okn_yy72 : Ok_yy72 (R := R) (fun _ _ _ => none) := fun _ _ _ _ h => no_some h
theorem shok_21 {c72 : T20 R} (h72 : Ok_yy72 c72) : ShOk Tryz.prog glob raw 21 (sh21 c72) := by
 intro av es K r h
 unfold sh21 at h
 split at h
 ·exact h72 _ _ _ _ h
 ·exact no_some h
def Ok_yy14 (c : T25 R) : Prop := ∀ (v1 : Bool) (v2 : LI) (v3 : Int) (K : KS R) (r : R), c v1 v2 v3 (fun r0 r1 r2 r3 r4 r5 r6 r7 r8 r9 => K (.st [.int .i64 r0, .str r1, .str r2, .str r3, .int .i64 r4, .own (.int .u8) 1, .int .i64 r5, .own tZ1 2]) [.box (.st [.sl (.int .u8) r6, .int .i64 r7]) false, .buf (.int .u8) r8 false, .buf tZ1 r9 false]) = some r → ∃ v es, FnOk Tryz.prog glob 22 (npF raw 22 [.box (.st [.sl (.int .u8) v2, .int .i64 v3]) false]) [.ptr 0 [], .bool v1] [.box (.st [.sl (.int .u8) v2, .int .i64 v3]) false] v es ∧ K v es = some r
theorem okn_yy14 : Ok_yy14 (R := R) (fun _ _ _ _ => none) := fun _ _ _ _ _ h => no_some h
theorem shok_22 {c14 : T25 R} (h14 : Ok_yy14 c14) : ShOk Tryz.prog glob raw 22 (sh22 c14) := by
 intro av es K r h
 unfold sh22 at h
 split at h
 ·exact h14 _ _ _ _ _ h
 ·exact no_some h
def Ok_yy67 (c : T49 R) : Prop := ∀ (v1 : Int) (v2 v3 v4 : LI) (v5 : Int) (v6 : LI) (v7 : Int) (v8 : LZ1) (K : KS R) (r : R), c v1 v2 v3 v4 v5 v6 v7 v8 (fun r0 => K (.bool r0) []) = some r → ∃ v es, FnOk Tryz.prog glob 23 (npF raw 23 []) [.st [.int .i64 v1, .str v2, .str v3, .str v4, .int .i64 v5, .sl (.nw .u8) v6, .int .i64 v7, .sl tZ1 v8]] [] v es ∧ K v es = some r
theorem okn_yy67 : Ok_yy67 (R := R) (fun _ _ _ _ _ _ _ _ _ => none) := fun _ _ _ _ _ _ _ _ _ _ h => no_some h
theorem shok_23 {c67 : T49 R} (h67 : Ok_yy67 c67) : ShOk Tryz.prog glob raw 23 (sh23 c67) := by
 intro av es K r h
 unfold sh23 at h
 split at h
 ·exact h67 _ _ _ _ _ _ _ _ _ _ h
 ·exact no_some h
def Ok_yy73 (c : T48 R) : Prop := ∀ (v1 : Int) (v2 v3 v4 : LI) (v5 : Int) (v6 : LI) (v7 : Int) (v8 : LZ1) (K : KS R) (r : R), c v1 v2 v3 v4 v5 v6 v7 v8 (fun r0 r1 r2 r3 r4 r5 r6 r7 => K (.st [.int .i64 r0, .str r1, .str r2, .str r3, .int .i64 r4, .sl (.nw .u8) r5, .int .i64 r6, .sl tZ1 r7]) []) = some r → ∃ v es, FnOk Tryz.prog glob 24 (npF raw 24 []) [.st [.int .i64 v1, .str v2, .str v3, .str v4, .int .i64 v5, .sl (.nw .u8) v6, .int .i64 v7, .sl tZ1 v8]] [] v es ∧ K v es = some r
theorem okn_yy73 : Ok_yy73 (R := R) (fun _ _ _ _ _ _ _ _ _ => none) := fun _ _ _ _ _ _ _ _ _ _ h => no_some h
theorem shok_24 {c73 : T48 R} (h73 : Ok_yy73 c73) : ShOk Tryz.prog glob raw 24 (sh24 c73) := by
 intro av es K r h
 unfold sh24 at h
 split at h
 ·exact h73 _ _ _ _ _ _ _ _ _ _ h
 ·exact no_some h
def Ok_yy66 (c : Int → (Err → Option R) → Option R) : Prop := ∀ (v1 : Int) (K : KS R) (r : R), c v1 (fun r0 => K (.err r0) []) = some r → ∃ v es, FnOk Tryz.prog glob 25 (npF raw 25 []) [.int .i64 v1] [] v es ∧ K v es = some r
theorem okn_yy66 : Ok_yy66 (R := R) (fun _ _ => none) := fun _ _ _ h => no_some h
theorem shok_25 {c66 : Int → (Err → Option R) → Option R} (h66 : Ok_yy66 c66) : ShOk Tryz.prog glob raw 25 (sh25 c66) := by
 intro av es K r h
 unfold sh25 at h
 split at h
 ·exact h66 _ _ _ h
 ·exact no_some h
def Ok_yy2 (c : T39 R) : Prop := ∀ (v1 : LI) (v2 v3 : Int) (K : KS R) (r : R), c v1 v2 v3 (fun r0 => K (.own (.int .u8) 0) [.buf (.int .u8) r0 false]) = some r → ∃ v es, FnOk Tryz.prog glob 27 (npF raw 27 []) [.sl (.int .u8) v1, .int .u64 v2, .int .i64 v3] [] v es ∧ K v es = some r
theorem okn_yy2 : Ok_yy2 (R := R) (fun _ _ _ _ => none) := fun _ _ _ _ _ h => no_some h
theorem shok_27 {c2 : T39 R} (h2 : Ok_yy2 c2) : ShOk Tryz.prog glob raw 27 (sh27 c2) := by
 intro av es K r h
 unfold sh27 at h
 split at h
 ·exact h2 _ _ _ _ _ h
 ·exact no_some h
def Ok_yy5 (c : T15 R) : Prop := ∀ (v1 v2 : LI) (K : KS R) (r : R), c v1 v2 (fun r0 => K (.own (.int .u8) 0) [.buf (.int .u8) r0 false]) = some r → ∃ v es, FnOk Tryz.prog glob 28 (npF raw 28 []) [.sl (.int .u8) v1, .sl (.int .u8) v2] [] v es ∧ K v es = some r
theorem okn_yy5 : Ok_yy5 (R := R) (fun _ _ _ => none) := fun _ _ _ _ h => no_some h
theorem shok_28 {c5 : T15 R} (h5 : Ok_yy5 c5) : ShOk Tryz.prog glob raw 28 (sh28 c5) := by
 intro av es K r h
 unfold sh28 at h
 split at h
 ·exact h5 _ _ _ _ h
 ·exact no_some h
def Ok_yy3 (c : T40 R) : Prop := ∀ (v1 : LI) (v2 v3 : Int) (K : KS R) (r : R), c v1 v2 v3 (fun r0 r1 => K (.tup [.int .u64 r0, .int .i64 r1]) []) = some r → ∃ v es, FnOk Tryz.prog glob 29 (npF raw 29 []) [.sl (.int .u8) v1, .int .i64 v2, .int .i64 v3] [] v es ∧ K v es = some r
theorem okn_yy3 : Ok_yy3 (R := R) (fun _ _ _ _ => none) := fun _ _ _ _ _ h => no_some h
theorem shok_29 {c3 : T40 R} (h3 : Ok_yy3 c3) : ShOk Tryz.prog glob raw 29 (sh29 c3) := by
 intro av es K r h
 unfold sh29 at h
 split at h
 ·exact h3 _ _ _ _ _ h
 ·exact no_some h
def Ok_yy4 (c : T65 R) : Prop := ∀ (v1 : LI) (v2 : Int) (K : KS R) (r : R), c v1 v2 (fun r0 r1 r2 => K (.tup [.own (.int .u8) 0, .int .i64 r0, .int .i64 r1]) [.buf (.int .u8) r2 false]) = some r → ∃ v es, FnOk Tryz.prog glob 30 (npF raw 30 []) [.sl (.int .u8) v1, .int .i64 v2] [] v es ∧ K v es = some r
theorem okn_yy4 : Ok_yy4 (R := R) (fun _ _ _ => none) := fun _ _ _ _ h => no_some h
theorem shok_30 {c4 : T65 R} (h4 : Ok_yy4 c4) : ShOk Tryz.prog glob raw 30 (sh30 c4) := by
 intro av es K r h
 unfold sh30 at h
 split at h
 ·exact h4 _ _ _ _ h
 ·exact no_some h
def Ok_yy15 (c : T5 R) : Prop := ∀ (v1 : Int) (v2 : LI) (v3 : Int) (K : KS R) (r : R), c v1 v2 v3 (fun r0 r1 r2 => K (.int .i64 r0) [.box (.st [.sl (.int .u8) r1, .int .i64 r2]) false]) = some r → ∃ v es, FnOk Tryz.prog glob 31 (npF raw 31 [.box (.st [.sl (.int .u8) v2, .int .i64 v3]) false]) [.ptr 0 [], .int .i64 v1] [.box (.st [.sl (.int .u8) v2, .int .i64 v3]) false] v es ∧ K v es = some r
theorem okn_yy15 : Ok_yy15 (R := R) (fun _ _ _ _ => none) := fun _ _ _ _ _ h => no_some h
theorem shok_31 {c15 : T5 R} (h15 : Ok_yy15 c15) : ShOk Tryz.prog glob raw 31 (sh31 c15) := by
 intro av es K r h
 unfold sh31 at h
 split at h
 ·exact h15 _ _ _ _ _ h
 ·exact no_some h
def Ok_yy9 (c : T7 R) : Prop := ∀ (v1 : LI) (v2 : Int) (K : KS R) (r : R), c v1 v2 (fun r0 r1 r2 => K (.str r0) [.box (.st [.sl (.int .u8) r1, .int .i64 r2]) false]) = some r → ∃ v es, FnOk Tryz.prog glob 32 (npF raw 32 [.box (.st [.sl (.int .u8) v1, .int .i64 v2]) false]) [.ptr 0 []] [.box (.st [.sl (.int .u8) v1, .int .i64 v2]) false] v es ∧ K v es = some r
theorem okn_yy9 : Ok_yy9 (R := R) (fun _ _ _ => none) := fun _ _ _ _ h => no_some h
theorem shok_32 {c9 : T7 R} (h9 : Ok_yy9 c9) : ShOk Tryz.prog glob raw 32 (sh32 c9) := by
 intro av es K r h
 unfold sh32 at h
 split at h
 ·exact h9 _ _ _ _ h
 ·exact no_some h
def Ok_yy12 (c : T7 R) : Prop := ∀ (v1 : LI) (v2 : Int) (K : KS R) (r : R), c v1 v2 (fun r0 r1 r2 => K (.str r0) [.box (.st [.sl (.int .u8) r1, .int .i64 r2]) false]) = some r → ∃ v es, FnOk Tryz.prog glob 33 (npF raw 33 [.box (.st [.sl (.int .u8) v1, .int .i64 v2]) false]) [.ptr 0 []] [.box (.st [.sl (.int .u8) v1, .int .i64 v2]) false] v es ∧ K v es = some r
theorem okn_yy12 : Ok_yy12 (R := R) (fun _ _ _ => none) := fun _ _ _ _ h => no_some h
theorem shok_33 {c12 : T7 R} (h12 : Ok_yy12 c12) : ShOk Tryz.prog glob raw 33 (sh33 c12) := by
 intro av es K r h
 unfold sh33 at h
 split at h
 ·exact h12 _ _ _ _ h
 ·exact no_some h
def Ok_yy13 (c : T58 R) : Prop := ∀ (v1 : Int) (v2 : LI) (v3 : Int) (K : KS R) (r : R), c v1 v2 v3 (fun r0 r1 r2 => K (.own (.int .u8) 1) [.box (.st [.sl (.int .u8) r0, .int .i64 r1]) false, .buf (.int .u8) r2 false]) = some r → ∃ v es, FnOk Tryz.prog glob 34 (npF raw 34 [.box (.st [.sl (.int .u8) v2, .int .i64 v3]) false]) [.ptr 0 [], .int .i64 v1] [.box (.st [.sl (.int .u8) v2, .int .i64 v3]) false] v es ∧ K v es = some r
theorem okn_yy13 : Ok_yy13 (R := R) (fun _ _ _ _ => none) := fun _ _ _ _ _ h => no_some h
theorem shok_34 {c13 : T58 R} (h13 : Ok_yy13 c13) : ShOk Tryz.prog glob raw 34 (sh34 c13) := by
 intro av es K r h
 unfold sh34 at h
 split at h
 ·exact h13 _ _ _ _ _ h
 ·exact no_some h
def Ok_yy10 (c : T91 R) : Prop := ∀ (v1 : LI) (v2 : Int) (K : KS R) (r : R), c v1 v2 (fun r0 r1 r2 r3 r4 => K (.st [.int .i64 r0, .arr 4 (.int .u64) r1, .sl tZ0 r2]) [.box (.st [.sl (.int .u8) r3, .int .i64 r4]) false]) = some r → ∃ v es, FnOk Tryz.prog glob 39 (npF raw 39 [.box (.st [.sl (.int .u8) v1, .int .i64 v2]) false]) [.ptr 0 []] [.box (.st [.sl (.int .u8) v1, .int .i64 v2]) false] v es ∧ K v es = some r
theorem okn_yy10 : Ok_yy10 (R := R) (fun _ _ _ => none) := fun _ _ _ _ h => no_some h
theorem shok_39 {c10 : T91 R} (h10 : Ok_yy10 c10) : ShOk Tryz.prog glob raw 39 (sh39 c10) := by
 intro av es K r h
 unfold sh39 at h
 split at h
 ·exact h10 _ _ _ _ h
 ·exact no_some h
def Ok_yy45 (c : T9 R) : Prop := ∀ (v1 : Int) (v2 : LI) (v3 : LZ0) (K : KS R) (r : R), c v1 v2 v3 (fun r0 => K (.str r0) []) = some r → ∃ v es, FnOk Tryz.prog glob 40 (npF raw 40 []) [.st [.int .i64 v1, .arr 4 (.int .u64) v2, .sl tZ0 v3]] [] v es ∧ K v es = some r
theorem okn_yy45 : Ok_yy45 (R := R) (fun _ _ _ _ => none) := fun _ _ _ _ _ h => no_some h
theorem shok_40 {c45 : T9 R} (h45 : Ok_yy45 c45) : ShOk Tryz.prog glob raw 40 (sh40 c45) := by
 intro av es K r h
 unfold sh40 at h
 split at h
 ·exact h45 _ _ _ _ _ h
 ·exact no_some h
def Ok_yy51 (c : T92 R) : Prop := ∀ (v1 : Int) (v2 : LI) (v3 : LZ0) (v4 : Int) (K : KS R) (r : R), c v1 v2 v3 v4 (fun r0 => K (.bool r0) []) = some r → ∃ v es, FnOk Tryz.prog glob 41 (npF raw 41 []) [.st [.int .i64 v1, .arr 4 (.int .u64) v2, .sl tZ0 v3], .int .i64 v4] [] v es ∧ K v es = some r
theorem okn_yy51 : Ok_yy51 (R := R) (fun _ _ _ _ _ => none) := fun _ _ _ _ _ _ h => no_some h
theorem shok_41 {c51 : T92 R} (h51 : Ok_yy51 c51) : ShOk Tryz.prog glob raw 41 (sh41 c51) := by
 intro av es K r h
 unfold sh41 at h
 split at h
 ·exact h51 _ _ _ _ _ _ h
 ·exact no_some h
def Ok_yy17 (c : T41 R) : Prop := ∀ (v1 : Int) (v2 : LI) (v3 : Int) (K : KS R) (r : R), c v1 v2 v3 (fun r0 r1 r2 r3 r4 => K (.st [.int .i64 r0, .arr 4 (.int .u64) r1, .sl tZ0 r2]) [.box (.st [.sl (.int .u8) r3, .int .i64 r4]) false]) = some r → ∃ v es, FnOk Tryz.prog glob 45 (npF raw 45 [.box (.st [.sl (.int .u8) v2, .int .i64 v3]) false]) [.ptr 0 [], .int .i64 v1] [.box (.st [.sl (.int .u8) v2, .int .i64 v3]) false] v es ∧ K v es = some r
theorem okn_yy17 : Ok_yy17 (R := R) (fun _ _ _ _ => none) := fun _ _ _ _ _ h => no_some h
theorem shok_45 {c17 : T41 R} (h17 : Ok_yy17 c17) : ShOk Tryz.prog glob raw 45 (sh45 c17) := by
 intro av es K r h
 unfold sh45 at h
 split at h
 ·exact h17 _ _ _ _ _ h
 ·exact no_some h
def Ok_yy40 (c : T11 R) : Prop := ∀ (v1 : Int) (v2 : LI) (v3 : LZ0) (K : KS R) (r : R), c v1 v2 v3 (fun r0 => K (.bool r0) []) = some r → ∃ v es, FnOk Tryz.prog glob 46 (npF raw 46 []) [.st [.int .i64 v1, .arr 4 (.int .u64) v2, .sl tZ0 v3]] [] v es ∧ K v es = some r
theorem okn_yy40 : Ok_yy40 (R := R) (fun _ _ _ _ => none) := fun _ _ _ _ _ h => no_some h
theorem shok_46 {c40 : T11 R} (h40 : Ok_yy40 c40) : ShOk Tryz.prog glob raw 46 (sh46 c40) := by
 intro av es K r h
 unfold sh46 at h
 split at h
 ·exact h40 _ _ _ _ _ h
 ·exact no_some h
def Ok_yy49 (c : T9 R) : Prop := ∀ (v1 : Int) (v2 : LI) (v3 : LZ0) (K : KS R) (r : R), c v1 v2 v3 (fun r0 => K (.str r0) []) = some r → ∃ v es, FnOk Tryz.prog glob 47 (npF raw 47 []) [.st [.int .i64 v1, .arr 4 (.int .u64) v2, .sl tZ0 v3]] [] v es ∧ K v es = some r
theorem okn_yy49 : Ok_yy49 (R := R) (fun _ _ _ _ => none) := fun _ _ _ _ _ h => no_some h
theorem shok_47 {c49 : T9 R} (h49 : Ok_yy49 c49) : ShOk Tryz.prog glob raw 47 (sh47 c49) := by
 intro av es K r h
 unfold sh47 at h
 split at h
 ·exact h49 _ _ _ _ _ h
 ·exact no_some h
def Ok_yy57 (c : T90 R) : Prop := ∀ (v1 : Int) (v2 : LI) (v3 : LZ0) (v4 : Int) (K : KS R) (r : R), c v1 v2 v3 v4 (fun r0 r1 r2 r3 => K (.tup [.st [.arr 256 (.int .u8) r0, .own (.slice (.int .i64)) 0, .own .bool 1], .int .i64 r1]) [.buf (.slice (.int .i64)) r2 false, .buf .bool r3 false]) = some r → ∃ v es, FnOk Tryz.prog glob 48 (npF raw 48 []) [.st [.int .i64 v1, .arr 4 (.int .u64) v2, .sl tZ0 v3], .int .i64 v4] [] v es ∧ K v es = some r
theorem okn_yy57 : Ok_yy57 (R := R) (fun _ _ _ _ _ => none) := fun _ _ _ _ _ _ h => no_some h
theorem shok_48 {c57 : T90 R} (h57 : Ok_yy57 c57) : ShOk Tryz.prog glob raw 48 (sh48 c57) := by
 intro av es K r h
 unfold sh48 at h
 split at h
 ·exact h57 _ _ _ _ _ _ h
 ·exact no_some h
def Ok_yy37 (c : T3 R) : Prop := ∀ (v1 : Int) (v2 : LI) (v3 : LZ0) (K : KS R) (r : R), c v1 v2 v3 (fun r0 => K (.int .i64 r0) []) = some r → ∃ v es, FnOk Tryz.prog glob 49 (npF raw 49 []) [.st [.int .i64 v1, .arr 4 (.int .u64) v2, .sl tZ0 v3]] [] v es ∧ K v es = some r
theorem okn_yy37 : Ok_yy37 (R := R) (fun _ _ _ _ => none) := fun _ _ _ _ _ h => no_some h
theorem shok_49 {c37 : T3 R} (h37 : Ok_yy37 c37) : ShOk Tryz.prog glob raw 49 (sh49 c37) := by
 intro av es K r h
 unfold sh49 at h
 split at h
 ·exact h37 _ _ _ _ _ h
 ·exact no_some h
def Ok_yy30 (c : T31 R) : Prop := ∀ (v1 : LI) (K : KS R) (r : R), c v1 (fun r0 r1 r2 => K (.st [.int .i64 r0, .arr 4 (.int .u64) r1, .own tZ0 0]) [.buf tZ0 r2 false]) = some r → ∃ v es, FnOk Tryz.prog glob 50 (npF raw 50 []) [.arr 4 (.int .u64) v1] [] v es ∧ K v es = some r
theorem okn_yy30 : Ok_yy30 (R := R) (fun _ _ => none) := fun _ _ _ h => no_some h
theorem shok_50 {c30 : T31 R} (h30 : Ok_yy30 c30) : ShOk Tryz.prog glob raw 50 (sh50 c30) := by
 intro av es K r h
 unfold sh50 at h
 split at h
 ·exact h30 _ _ _ h
 ·exact no_some h
def Ok_yy11 (c : T7 R) : Prop := ∀ (v1 : LI) (v2 : Int) (K : KS R) (r : R), c v1 v2 (fun r0 r1 r2 => K (.arr 4 (.int .u64) r0) [.box (.st [.sl (.int .u8) r1, .int .i64 r2]) false]) = some r → ∃ v es, FnOk Tryz.prog glob 51 (npF raw 51 [.box (.st [.sl (.int .u8) v1, .int .i64 v2]) false]) [.ptr 0 []] [.box (.st [.sl (.int .u8) v1, .int .i64 v2]) false] v es ∧ K v es = some r
theorem okn_yy11 : Ok_yy11 (R := R) (fun _ _ _ => none) := fun _ _ _ _ h => no_some h
theorem shok_51 {c11 : T7 R} (h11 : Ok_yy11 c11) : ShOk Tryz.prog glob raw 51 (sh51 c11) := by
 intro av es K r h
 unfold sh51 at h
 split at h
 ·exact h11 _ _ _ _ h
 ·exact no_some h
def Ok_yy39 (c : T2 R) : Prop := ∀ (K : KS R) (r : R), c (fun r0 r1 r2 => K (.st [.int .i64 r0, .arr 4 (.int .u64) r1, .own tZ0 0]) [.buf tZ0 r2 false]) = some r → ∃ v es, FnOk Tryz.prog glob 52 (npF raw 52 []) [] [] v es ∧ K v es = some r
theorem okn_yy39 : Ok_yy39 (R := R) (fun _ => none) := fun _ _ h => no_some h
theorem shok_52 {c39 : T2 R} (h39 : Ok_yy39 c39) : ShOk Tryz.prog glob raw 52 (sh52 c39) := by
 intro av es K r h
 unfold sh52 at h
 split at h
 ·exact h39 _ _ h
 ·exact no_some h
def Ok_yy35 (c : T2 R) : Prop := ∀ (K : KS R) (r : R), c (fun r0 r1 r2 => K (.st [.int .i64 r0, .arr 4 (.int .u64) r1, .own tZ0 0]) [.buf tZ0 r2 false]) = some r → ∃ v es, FnOk Tryz.prog glob 53 (npF raw 53 []) [] [] v es ∧ K v es = some r
theorem okn_yy35 : Ok_yy35 (R := R) (fun _ => none) := fun _ _ h => no_some h
theorem shok_53 {c35 : T2 R} (h35 : Ok_yy35 c35) : ShOk Tryz.prog glob raw 53 (sh53 c35) := by
 intro av es K r h
 unfold sh53 at h
 split at h
 ·exact h35 _ _ h
 ·exact no_some h
def Ok_yy31 (c : T4 R) : Prop := ∀ (v1 : LZ0) (K : KS R) (r : R), c v1 (fun r0 r1 r2 => K (.st [.int .i64 r0, .arr 4 (.int .u64) r1, .sl tZ0 r2]) []) = some r → ∃ v es, FnOk Tryz.prog glob 54 (npF raw 54 []) [.sl tZ0 v1] [] v es ∧ K v es = some r
theorem okn_yy31 : Ok_yy31 (R := R) (fun _ _ => none) := fun _ _ _ h => no_some h
theorem shok_54 {c31 : T4 R} (h31 : Ok_yy31 c31) : ShOk Tryz.prog glob raw 54 (sh54 c31) := by
 intro av es K r h
 unfold sh54 at h
 split at h
 ·exact h31 _ _ _ h
 ·exact no_some h
def Ok_yy29 (c : T4 R) : Prop := ∀ (v1 : LZ0) (K : KS R) (r : R), c v1 (fun r0 r1 r2 => K (.st [.int .i64 r0, .arr 4 (.int .u64) r1, .sl tZ0 r2]) []) = some r → ∃ v es, FnOk Tryz.prog glob 55 (npF raw 55 []) [.sl tZ0 v1] [] v es ∧ K v es = some r
theorem okn_yy29 : Ok_yy29 (R := R) (fun _ _ => none) := fun _ _ _ h => no_some h
theorem shok_55 {c29 : T4 R} (h29 : Ok_yy29 c29) : ShOk Tryz.prog glob raw 55 (sh55 c29) := by
 intro av es K r h
 unfold sh55 at h
 split at h
 ·exact h29 _ _ _ h
 ·exact no_some h
def Ok_yy42 (c : T1 R) : Prop := ∀ (v1 : Int) (v2 : LI) (v3 : LZ0) (K : KS R) (r : R), c v1 v2 v3 (fun r0 r1 r2 => K (.st [.int .i64 r0, .arr 4 (.int .u64) r1, .own tZ0 0]) [.buf tZ0 r2 false]) = some r → ∃ v es, FnOk Tryz.prog glob 56 (npF raw 56 []) [.st [.int .i64 v1, .arr 4 (.int .u64) v2, .sl tZ0 v3]] [] v es ∧ K v es = some r
theorem okn_yy42 : Ok_yy42 (R := R) (fun _ _ _ _ => none) := fun _ _ _ _ _ h => no_some h
theorem shok_56 {c42 : T1 R} (h42 : Ok_yy42 c42) : ShOk Tryz.prog glob raw 56 (sh56 c42) := by
 intro av es K r h
 unfold sh56 at h
 split at h
 ·exact h42 _ _ _ _ _ h
 ·exact no_some h
def Ok_yy41 (c : T6 R) : Prop := ∀ (v1 : Int) (v2 : LI) (v3 : LZ0) (v4 : Int) (v5 : LI) (v6 : LZ0) (K : KS R) (r : R), c v1 v2 v3 v4 v5 v6 (fun r0 => K (.bool r0) []) = some r → ∃ v es, FnOk Tryz.prog glob 57 (npF raw 57 []) [.st [.int .i64 v1, .arr 4 (.int .u64) v2, .sl tZ0 v3], .st [.int .i64 v4, .arr 4 (.int .u64) v5, .sl tZ0 v6]] [] v es ∧ K v es = some r
theorem okn_yy41 : Ok_yy41 (R := R) (fun _ _ _ _ _ _ _ => none) := fun _ _ _ _ _ _ _ _ h => no_some h
theorem shok_57 {c41 : T6 R} (h41 : Ok_yy41 c41) : ShOk Tryz.prog glob raw 57 (sh57 c41) := by
 intro av es K r h
 unfold sh57 at h
 split at h
 ·exact h41 _ _ _ _ _ _ _ _ h
 ·exact no_some h
def Ok_yy47 (c : LI → (LI → Option R) → Option R) : Prop := ∀ (v1 : LI) (K : KS R) (r : R), c v1 (fun r0 => K (.str r0) []) = some r → ∃ v es, FnOk Tryz.prog glob 58 (npF raw 58 []) [.arr 4 (.int .u64) v1] [] v es ∧ K v es = some r
theorem okn_yy47 : Ok_yy47 (R := R) (fun _ _ => none) := fun _ _ _ h => no_some h
theorem shok_58 {c47 : LI → (LI → Option R) → Option R} (h47 : Ok_yy47 c47) : ShOk Tryz.prog glob raw 58 (sh58 c47) := by
 intro av es K r h
 unfold sh58 at h
 split at h
 ·exact h47 _ _ _ h
 ·exact no_some h
def Ok_yy52 (c : T33 R) : Prop := ∀ (v1 : Int) (v2 : LI) (v3 : LZ0) (K : KS R) (r : R), c v1 v2 v3 (fun r0 r1 r2 r3 r4 => K (.st [.own (.arr 4 (.int .u64)) 0, .sl (.int .i64) r0, .sl (.int .i64) r1, .own (.slice (.int .i64)) 1, .bool r2]) [.buf (.arr 4 (.int .u64)) r3 false, .buf (.slice (.int .i64)) r4 false]) = some r → ∃ v es, FnOk Tryz.prog glob 59 (npF raw 59 []) [.st [.int .i64 v1, .arr 4 (.int .u64) v2, .sl tZ0 v3]] [] v es ∧ K v es = some r
theorem okn_yy52 : Ok_yy52 (R := R) (fun _ _ _ _ => none) := fun _ _ _ _ _ h => no_some h
theorem shok_59 {c52 : T33 R} (h52 : Ok_yy52 c52) : ShOk Tryz.prog glob raw 59 (sh59 c52) := by
 intro av es K r h
 unfold sh59 at h
 split at h
 ·exact h52 _ _ _ _ _ h
 ·exact no_some h
def Ok_yy18 (c : T34 R) : Prop := ∀ (v1 : LL) (K : KS R) (r : R), c v1 (fun r0 r1 => K (.tup [.arr 256 (.int .u8) r0, .int .i64 r1]) []) = some r → ∃ v es, FnOk Tryz.prog glob 60 (npF raw 60 []) [.sl (.arr 4 (.int .u64)) v1] [] v es ∧ K v es = some r
theorem okn_yy18 : Ok_yy18 (R := R) (fun _ _ => none) := fun _ _ _ h => no_some h
theorem shok_60 {c18 : T34 R} (h18 : Ok_yy18 c18) : ShOk Tryz.prog glob raw 60 (sh60 c18) := by
 intro av es K r h
 unfold sh60 at h
 split at h
 ·exact h18 _ _ _ h
 ·exact no_some h
def Ok_yy50 (c : T35 R) : Prop := ∀ (v1 : LI) (v2 : Int) (K : KS R) (r : R), c v1 v2 (fun r0 => K (.own (.int .u8) 0) [.buf (.int .u8) r0 false]) = some r → ∃ v es, FnOk Tryz.prog glob 61 (npF raw 61 []) [.arr 256 (.int .u8) v1, .int .i64 v2] [] v es ∧ K v es = some r
theorem okn_yy50 : Ok_yy50 (R := R) (fun _ _ _ => none) := fun _ _ _ _ h => no_some h
theorem shok_61 {c50 : T35 R} (h50 : Ok_yy50 c50) : ShOk Tryz.prog glob raw 61 (sh61 c50) := by
 intro av es K r h
 unfold sh61 at h
 split at h
 ·exact h50 _ _ _ _ h
 ·exact no_some h
def Ok_yy59 (c : T0 R) : Prop := ∀ (v1 : LI) (v2 : Int) (K : KS R) (r : R), c v1 v2 (fun r0 => K (.bool r0) []) = some r → ∃ v es, FnOk Tryz.prog glob 62 (npF raw 62 []) [.sl (.int .i64) v1, .int .i64 v2] [] v es ∧ K v es = some r
theorem okn_yy59 : Ok_yy59 (R := R) (fun _ _ _ => none) := fun _ _ _ _ h => no_some h
theorem shok_62 {c59 : T0 R} (h59 : Ok_yy59 c59) : ShOk Tryz.prog glob raw 62 (sh62 c59) := by
 intro av es K r h
 unfold sh62 at h
 split at h
 ·exact h59 _ _ _ _ h
 ·exact no_some h
def Ok_yy56 (c : T36 R) : Prop := ∀ (v1 : LL) (v2 v3 : LI) (v4 : LL) (v5 : Bool) (v6 : LI) (v7 : Bool) (v8 : Int) (K : KS R) (r : R), c v1 v2 v3 v4 v5 v6 v7 v8 (fun r0 => K (.own (.int .i64) 0) [.buf (.int .i64) r0 false]) = some r → ∃ v es, FnOk Tryz.prog glob 63 (npF raw 63 []) [.st [.sl (.arr 4 (.int .u64)) v1, .sl (.int .i64) v2, .sl (.int .i64) v3, .sl (.slice (.int .i64)) v4, .bool v5], .sl (.int .i64) v6, .bool v7, .int .u8 v8] [] v es ∧ K v es = some r
theorem okn_yy56 : Ok_yy56 (R := R) (fun _ _ _ _ _ _ _ _ _ => none) := fun _ _ _ _ _ _ _ _ _ _ h => no_some h
theorem shok_63 {c56 : T36 R} (h56 : Ok_yy56 c56) : ShOk Tryz.prog glob raw 63 (sh63 c56) := by
 intro av es K r h
 unfold sh63 at h
 split at h
 ·exact h56 _ _ _ _ _ _ _ _ _ _ h
 ·exact no_some h
def Ok_yy58 (c : T37 R) : Prop := ∀ (v1 : LL) (v2 : LI) (K : KS R) (r : R), c v1 v2 (fun r0 => K (.int .i64 r0) []) = some r → ∃ v es, FnOk Tryz.prog glob 64 (npF raw 64 []) [.sl (.slice (.int .i64)) v1, .sl (.int .i64) v2] [] v es ∧ K v es = some r
theorem okn_yy58 : Ok_yy58 (R := R) (fun _ _ _ => none) := fun _ _ _ _ h => no_some h
theorem shok_64 {c58 : T37 R} (h58 : Ok_yy58 c58) : ShOk Tryz.prog glob raw 64 (sh64 c58) := by
 intro av es K r h
 unfold sh64 at h
 split at h
 ·exact h58 _ _ _ _ h
 ·exact no_some h
def Ok_yy38 (c : T3 R) : Prop := ∀ (v1 : Int) (v2 : LI) (v3 : LZ0) (K : KS R) (r : R), c v1 v2 v3 (fun r0 => K (.int .i64 r0) []) = some r → ∃ v es, FnOk Tryz.prog glob 65 (npF raw 65 []) [.st [.int .i64 v1, .arr 4 (.int .u64) v2, .sl tZ0 v3]] [] v es ∧ K v es = some r
theorem okn_yy38 : Ok_yy38 (R := R) (fun _ _ _ _ => none) := fun _ _ _ _ _ h => no_some h
theorem shok_65 {c38 : T3 R} (h38 : Ok_yy38 c38) : ShOk Tryz.prog glob raw 65 (sh65 c38) := by
 intro av es K r h
 unfold sh65 at h
 split at h
 ·exact h38 _ _ _ _ _ h
 ·exact no_some h
def Ok_yy34 (c : T3 R) : Prop := ∀ (v1 : Int) (v2 : LI) (v3 : LZ0) (K : KS R) (r : R), c v1 v2 v3 (fun r0 => K (.int .i64 r0) []) = some r → ∃ v es, FnOk Tryz.prog glob 66 (npF raw 66 []) [.st [.int .i64 v1, .arr 4 (.int .u64) v2, .sl tZ0 v3]] [] v es ∧ K v es = some r
theorem okn_yy34 : Ok_yy34 (R := R) (fun _ _ _ _ => none) := fun _ _ _ _ _ h => no_some h
theorem shok_66 {c34 : T3 R} (h34 : Ok_yy34 c34) : ShOk Tryz.prog glob raw 66 (sh66 c34) := by
 intro av es K r h
 unfold sh66 at h
 split at h
 ·exact h34 _ _ _ _ _ h
 ·exact no_some h
def Ok_yy24 (c : T75 R) : Prop := ∀ (v1 v2 : Int) (K : KS R) (r : R), c v1 v2 (fun r0 => K (.arr 4 (.int .u64) r0) []) = some r → ∃ v es, FnOk Tryz.prog glob 67 (npF raw 67 []) [.int .u8 v1, .int .u8 v2] [] v es ∧ K v es = some r
theorem okn_yy24 : Ok_yy24 (R := R) (fun _ _ _ => none) := fun _ _ _ _ h => no_some h
theorem shok_67 {c24 : T75 R} (h24 : Ok_yy24 c24) : ShOk Tryz.prog glob raw 67 (sh67 c24) := by
 intro av es K r h
 unfold sh67 at h
 split at h
 ·exact h24 _ _ _ _ h
 ·exact no_some h
def Ok_yy21 (c : LI → (LI → Option R) → Option R) : Prop := ∀ (v1 : LI) (K : KS R) (r : R), c v1 (fun r0 => K (.arr 4 (.int .u64) r0) []) = some r → ∃ v es, FnOk Tryz.prog glob 68 (npF raw 68 []) [.arr 4 (.int .u64) v1] [] v es ∧ K v es = some r
theorem okn_yy21 : Ok_yy21 (R := R) (fun _ _ => none) := fun _ _ _ h => no_some h
theorem shok_68 {c21 : LI → (LI → Option R) → Option R} (h21 : Ok_yy21 c21) : ShOk Tryz.prog glob raw 68 (sh68 c21) := by
 intro av es K r h
 unfold sh68 at h
 split at h
 ·exact h21 _ _ _ h
 ·exact no_some h
def Ok_yy22 (c : LI → (LI → Option R) → Option R) : Prop := ∀ (v1 : LI) (K : KS R) (r : R), c v1 (fun r0 => K (.arr 4 (.int .u64) r0) []) = some r → ∃ v es, FnOk Tryz.prog glob 69 (npF raw 69 []) [.sl (.int .u8) v1] [] v es ∧ K v es = some r
theorem okn_yy22 : Ok_yy22 (R := R) (fun _ _ => none) := fun _ _ _ h => no_some h
theorem shok_69 {c22 : LI → (LI → Option R) → Option R} (h22 : Ok_yy22 c22) : ShOk Tryz.prog glob raw 69 (sh69 c22) := by
 intro av es K r h
 unfold sh69 at h
 split at h
 ·exact h22 _ _ _ h
 ·exact no_some h
def Ok_yy43 (c : T24 R) : Prop := ∀ (v1 : Int) (v2 : LZ0) (K : KS R) (r : R), c v1 v2 (fun r0 => K (.own tZ0 0) [.buf tZ0 r0 false]) = some r → ∃ v es, FnOk Tryz.prog glob 70 (npF raw 70 []) [.int .i64 v1, .sl tZ0 v2] [] v es ∧ K v es = some r
theorem okn_yy43 : Ok_yy43 (R := R) (fun _ _ _ => none) := fun _ _ _ _ h => no_some h
theorem shok_70 {c43 : T24 R} (h43 : Ok_yy43 c43) : ShOk Tryz.prog glob raw 70 (sh70 c43) := by
 intro av es K r h
 unfold sh70 at h
 split at h
 ·exact h43 _ _ _ _ h
 ·exact no_some h
def Ok_yy33 (c : T1 R) : Prop := ∀ (v1 : Int) (v2 : LI) (v3 : LZ0) (K : KS R) (r : R), c v1 v2 v3 (fun r0 r1 r2 => K (.st [.int .i64 r0, .arr 4 (.int .u64) r1, .own tZ0 0]) [.buf tZ0 r2 false]) = some r → ∃ v es, FnOk Tryz.prog glob 71 (npF raw 71 []) [.st [.int .i64 v1, .arr 4 (.int .u64) v2, .sl tZ0 v3]] [] v es ∧ K v es = some r
theorem okn_yy33 : Ok_yy33 (R := R) (fun _ _ _ _ => none) := fun _ _ _ _ _ h => no_some h
theorem shok_71 {c33 : T1 R} (h33 : Ok_yy33 c33) : ShOk Tryz.prog glob raw 71 (sh71 c33) := by
 intro av es K r h
 unfold sh71 at h
 split at h
 ·exact h33 _ _ _ _ _ h
 ·exact no_some h
def Ok_yy23 (c : T15 R) : Prop := ∀ (v1 v2 : LI) (K : KS R) (r : R), c v1 v2 (fun r0 => K (.arr 4 (.int .u64) r0) []) = some r → ∃ v es, FnOk Tryz.prog glob 72 (npF raw 72 []) [.arr 4 (.int .u64) v1, .arr 4 (.int .u64) v2] [] v es ∧ K v es = some r
theorem okn_yy23 : Ok_yy23 (R := R) (fun _ _ _ => none) := fun _ _ _ _ h => no_some h
theorem shok_72 {c23 : T15 R} (h23 : Ok_yy23 c23) : ShOk Tryz.prog glob raw 72 (sh72 c23) := by
 intro av es K r h
 unfold sh72 at h
 split at h
 ·exact h23 _ _ _ _ h
 ·exact no_some h
def Ok_yy44 (c : T50 R) : Prop := ∀ (v1 : LZ0) (v2 : Int) (v3 : LI) (v4 : LZ0) (K : KS R) (r : R), c v1 v2 v3 v4 (fun r0 => K (.sl tZ0 r0) []) = some r → ∃ v es, FnOk Tryz.prog glob 73 (npF raw 73 []) [.sl tZ0 v1, .st [.int .i64 v2, .arr 4 (.int .u64) v3, .sl tZ0 v4]] [] v es ∧ K v es = some r
theorem okn_yy44 : Ok_yy44 (R := R) (fun _ _ _ _ _ => none) := fun _ _ _ _ _ _ h => no_some h
theorem shok_73 {c44 : T50 R} (h44 : Ok_yy44 c44) : ShOk Tryz.prog glob raw 73 (sh73 c44) := by
 intro av es K r h
 unfold sh73 at h
 split at h
 ·exact h44 _ _ _ _ _ _ h
 ·exact no_some h
def Ok_yy20 (c : LI → (LI → Option R) → Option R) : Prop := ∀ (v1 : LI) (K : KS R) (r : R), c v1 (fun r0 => K (.own (.int .u8) 0) [.buf (.int .u8) r0 false]) = some r → ∃ v es, FnOk Tryz.prog glob 74 (npF raw 74 []) [.arr 4 (.int .u64) v1] [] v es ∧ K v es = some r
theorem okn_yy20 : Ok_yy20 (R := R) (fun _ _ => none) := fun _ _ _ h => no_some h
theorem shok_74 {c20 : LI → (LI → Option R) → Option R} (h20 : Ok_yy20 c20) : ShOk Tryz.prog glob raw 74 (sh74 c20) := by
 intro av es K r h
 unfold sh74 at h
 split at h
 ·exact h20 _ _ _ h
 ·exact no_some h
def Ok_yy48 (c : Int → (LI → Option R) → Option R) : Prop := ∀ (v1 : Int) (K : KS R) (r : R), c v1 (fun r0 => K (.str r0) []) = some r → ∃ v es, FnOk Tryz.prog glob 75 (npF raw 75 []) [.int .u8 v1] [] v es ∧ K v es = some r
theorem okn_yy48 : Ok_yy48 (R := R) (fun _ _ => none) := fun _ _ _ h => no_some h
theorem shok_75 {c48 : Int → (LI → Option R) → Option R} (h48 : Ok_yy48 c48) : ShOk Tryz.prog glob raw 75 (sh75 c48) := by
 intro av es K r h
 unfold sh75 at h
 split at h
 ·exact h48 _ _ _ h
 ·exact no_some h
def Ok_yy55 (c : T12 R) : Prop := ∀ (v1 : Int) (v2 : LI) (v3 : LZ0) (v4 : Bool) (v5 : LL) (v6 v7 : LI) (v8 : LL) (K : KS R) (r : R), c v1 v2 v3 v4 v5 v6 v7 v8 (fun r0 r1 r2 r3 r4 r5 r6 r7 r8 r9 => K (.st [.sl (.arr 4 (.int .u64)) r0, .sl (.int .i64) r1, .sl (.int .i64) r2, .sl (.slice (.int .i64)) r3, .bool r4]) [.box (.st [.own (.arr 4 (.int .u64)) 1, .own (.int .i64) 2, .own (.int .i64) 3, .own (.slice (.int .i64)) 4, .bool r5]) false, .buf (.arr 4 (.int .u64)) r6 false, .buf (.int .i64) r7 false, .buf (.int .i64) r8 false, .buf (.slice (.int .i64)) r9 false]) = some r → ∃ v es, FnOk Tryz.prog glob 76 (npF raw 76 [.box (.st [.own (.arr 4 (.int .u64)) 1, .own (.int .i64) 2, .own (.int .i64) 3, .own (.slice (.int .i64)) 4, .bool v4]) false, .buf (.arr 4 (.int .u64)) v5 false, .buf (.int .i64) v6 false, .buf (.int .i64) v7 false, .buf (.slice (.int .i64)) v8 false]) [.ptr 0 [], .st [.int .i64 v1, .arr 4 (.int .u64) v2, .sl tZ0 v3]] [.box (.st [.own (.arr 4 (.int .u64)) 1, .own (.int .i64) 2, .own (.int .i64) 3, .own (.slice (.int .i64)) 4, .bool v4]) false, .buf (.arr 4 (.int .u64)) v5 false, .buf (.int .i64) v6 false, .buf (.int .i64) v7 false, .buf (.slice (.int .i64)) v8 false] v es ∧ K v es = some r
theorem okn_yy55 : Ok_yy55 (R := R) (fun _ _ _ _ _ _ _ _ _ => none) := fun _ _ _ _ _ _ _ _ _ _ h => no_some h
theorem shok_76 {c55 : T12 R} (h55 : Ok_yy55 c55) : ShOk Tryz.prog glob raw 76 (sh76 c55) := by
 intro av es K r h
 unfold sh76 at h
 split at h
 ·exact h55 _ _ _ _ _ _ _ _ _ _ h
 ·exact no_some h
def Ok_yy27 (c : T43 R) : Prop := ∀ (v1 : LL) (v2 v3 : Int) (K : KS R) (r : R), c v1 v2 v3 (fun r0 => K (.bool r0) []) = some r → ∃ v es, FnOk Tryz.prog glob 77 (npF raw 77 []) [.sl (.arr 4 (.int .u64)) v1, .int .u8 v2, .int .u8 v3] [] v es ∧ K v es = some r
theorem okn_yy27 : Ok_yy27 (R := R) (fun _ _ _ _ => none) := fun _ _ _ _ _ h => no_some h
theorem shok_77 {c27 : T43 R} (h27 : Ok_yy27 c27) : ShOk Tryz.prog glob raw 77 (sh77 c27) := by
 intro av es K r h
 unfold sh77 at h
 split at h
 ·exact h27 _ _ _ _ _ h
 ·exact no_some h
def Ok_yy54 (c : T57 R) : Prop := ∀ (v1 : LL) (v2 v3 : LI) (v4 : LL) (v5 : Bool) (v6 : LI) (v7 : Int) (v8 : LB) (K : KS R) (r : R), c v1 v2 v3 v4 v5 v6 v7 v8 (fun r0 => K (.tup []) [.buf .bool r0 false]) = some r → ∃ v es, FnOk Tryz.prog glob 78 (npF raw 78 [.buf .bool v8 false]) [.st [.sl (.arr 4 (.int .u64)) v1, .sl (.int .i64) v2, .sl (.int .i64) v3, .sl (.slice (.int .i64)) v4, .bool v5], .own .bool 0, .sl (.int .i64) v6, .int .u8 v7] [.buf .bool v8 false] v es ∧ K v es = some r
theorem okn_yy54 : Ok_yy54 (R := R) (fun _ _ _ _ _ _ _ _ _ => none) := fun _ _ _ _ _ _ _ _ _ _ h => no_some h
theorem shok_78 {c54 : T57 R} (h54 : Ok_yy54 c54) : ShOk Tryz.prog glob raw 78 (sh78 c54) := by
 intro av es K r h
 unfold sh78 at h
 split at h
 ·exact h54 _ _ _ _ _ _ _ _ _ _ h
 ·exact no_some h
def Ok_yy60 (c : LB → (LI → Option R) → Option R) : Prop := ∀ (v1 : LB) (K : KS R) (r : R), c v1 (fun r0 => K (.own (.int .i64) 0) [.buf (.int .i64) r0 false]) = some r → ∃ v es, FnOk Tryz.prog glob 79 (npF raw 79 []) [.sl .bool v1] [] v es ∧ K v es = some r
theorem okn_yy60 : Ok_yy60 (R := R) (fun _ _ => none) := fun _ _ _ h => no_some h
theorem shok_79 {c60 : LB → (LI → Option R) → Option R} (h60 : Ok_yy60 c60) : ShOk Tryz.prog glob raw 79 (sh79 c60) := by
 intro av es K r h
 unfold sh79 at h
 split at h
 ·exact h60 _ _ _ h
 ·exact no_some h
def Ok_yy61 (c : T14 R) : Prop := ∀ (v1 v2 : LI) (K : KS R) (r : R), c v1 v2 (fun r0 => K (.bool r0) []) = some r → ∃ v es, FnOk Tryz.prog glob 80 (npF raw 80 []) [.sl (.int .i64) v1, .sl (.int .i64) v2] [] v es ∧ K v es = some r
theorem okn_yy61 : Ok_yy61 (R := R) (fun _ _ _ => none) := fun _ _ _ _ h => no_some h
theorem shok_80 {c61 : T14 R} (h61 : Ok_yy61 c61) : ShOk Tryz.prog glob raw 80 (sh80 c61) := by
 intro av es K r h
 unfold sh80 at h
 split at h
 ·exact h61 _ _ _ _ h
 ·exact no_some h
def Ok_yy26 (c : LB → (LI → Option R) → Option R) : Prop := ∀ (v1 : LB) (K : KS R) (r : R), c v1 (fun r0 => K (.arr 4 (.int .u64) r0) []) = some r → ∃ v es, FnOk Tryz.prog glob 81 (npF raw 81 []) [.arr 256 .bool v1] [] v es ∧ K v es = some r
theorem okn_yy26 : Ok_yy26 (R := R) (fun _ _ => none) := fun _ _ _ h => no_some h
theorem shok_81 {c26 : LB → (LI → Option R) → Option R} (h26 : Ok_yy26 c26) : ShOk Tryz.prog glob raw 81 (sh81 c26) := by
 intro av es K r h
 unfold sh81 at h
 split at h
 ·exact h26 _ _ _ h
 ·exact no_some h
def Ok_yy19 (c : T0 R) : Prop := ∀ (v1 : LI) (v2 : Int) (K : KS R) (r : R), c v1 v2 (fun r0 => K (.bool r0) []) = some r → ∃ v es, FnOk Tryz.prog glob 82 (npF raw 82 []) [.arr 4 (.int .u64) v1, .int .u8 v2] [] v es ∧ K v es = some r
theorem okn_yy19 : Ok_yy19 (R := R) (fun _ _ _ => none) := fun _ _ _ _ h => no_some h
theorem shok_82 {c19 : T0 R} (h19 : Ok_yy19 c19) : ShOk Tryz.prog glob raw 82 (sh82 c19) := by
 intro av es K r h
 unfold sh82 at h
 split at h
 ·exact h19 _ _ _ _ h
 ·exact no_some h
def Ok_yy32 (c : T10 R) : Prop := ∀ (v1 : Int) (v2 : LI) (v3 : LZ0) (v4 : Int) (v5 : LI) (v6 : LZ0) (K : KS R) (r : R), c v1 v2 v3 v4 v5 v6 (fun r0 => K (.int .i64 r0) []) = some r → ∃ v es, FnOk Tryz.prog glob 83 (npF raw 83 []) [.st [.int .i64 v1, .arr 4 (.int .u64) v2, .sl tZ0 v3], .st [.int .i64 v4, .arr 4 (.int .u64) v5, .sl tZ0 v6]] [] v es ∧ K v es = some r
theorem okn_yy32 : Ok_yy32 (R := R) (fun _ _ _ _ _ _ _ => none) := fun _ _ _ _ _ _ _ _ h => no_some h
theorem shok_83 {c32 : T10 R} (h32 : Ok_yy32 c32) : ShOk Tryz.prog glob raw 83 (sh83 c32) := by
 intro av es K r h
 unfold sh83 at h
 split at h
 ·exact h32 _ _ _ _ _ _ _ _ h
 ·exact no_some h
def Ok_yy36 (c : T6 R) : Prop := ∀ (v1 : Int) (v2 : LI) (v3 : LZ0) (v4 : Int) (v5 : LI) (v6 : LZ0) (K : KS R) (r : R), c v1 v2 v3 v4 v5 v6 (fun r0 => K (.bool r0) []) = some r → ∃ v es, FnOk Tryz.prog glob 84 (npF raw 84 []) [.st [.int .i64 v1, .arr 4 (.int .u64) v2, .sl tZ0 v3], .st [.int .i64 v4, .arr 4 (.int .u64) v5, .sl tZ0 v6]] [] v es ∧ K v es = some r
theorem okn_yy36 : Ok_yy36 (R := R) (fun _ _ _ _ _ _ _ => none) := fun _ _ _ _ _ _ _ _ h => no_some h
theorem shok_84 {c36 : T6 R} (h36 : Ok_yy36 c36) : ShOk Tryz.prog glob raw 84 (sh84 c36) := by
 intro av es K r h
 unfold sh84 at h
 split at h
 ·exact h36 _ _ _ _ _ _ _ _ h
 ·exact no_some h
def Ok_yy46 (c : T0 R) : Prop := ∀ (v1 : LI) (v2 : Int) (K : KS R) (r : R), c v1 v2 (fun r0 => K (.bool r0) []) = some r → ∃ v es, FnOk Tryz.prog glob 85 (npF raw 85 []) [.str v1, .int .u8 v2] [] v es ∧ K v es = some r
theorem okn_yy46 : Ok_yy46 (R := R) (fun _ _ _ => none) := fun _ _ _ _ h => no_some h
theorem shok_85 {c46 : T0 R} (h46 : Ok_yy46 c46) : ShOk Tryz.prog glob raw 85 (sh85 c46) := by
 intro av es K r h
 unfold sh85 at h
 split at h
 ·exact h46 _ _ _ _ h
 ·exact no_some h
def Ok_yy53 (c : T42 R) : Prop := ∀ (v1 v2 : LI) (v3 : Bool) (v4 : LL) (v5 v6 : LI) (v7 : LL) (K : KS R) (r : R), c v1 v2 v3 v4 v5 v6 v7 (fun r0 r1 r2 r3 r4 => K (.tup []) [.box (.st [.own (.arr 4 (.int .u64)) 1, .own (.int .i64) 2, .own (.int .i64) 3, .own (.slice (.int .i64)) 4, .bool r0]) false, .buf (.arr 4 (.int .u64)) r1 false, .buf (.int .i64) r2 false, .buf (.int .i64) r3 false, .buf (.slice (.int .i64)) r4 false]) = some r → ∃ v es, FnOk Tryz.prog glob 86 (npF raw 86 [.box (.st [.own (.arr 4 (.int .u64)) 1, .own (.int .i64) 2, .own (.int .i64) 3, .own (.slice (.int .i64)) 4, .bool v3]) false, .buf (.arr 4 (.int .u64)) v4 false, .buf (.int .i64) v5 false, .buf (.int .i64) v6 false, .buf (.slice (.int .i64)) v7 false]) [.ptr 0 [], .sl (.int .i64) v1, .sl (.int .i64) v2] [.box (.st [.own (.arr 4 (.int .u64)) 1, .own (.int .i64) 2, .own (.int .i64) 3, .own (.slice (.int .i64)) 4, .bool v3]) false, .buf (.arr 4 (.int .u64)) v4 false, .buf (.int .i64) v5 false, .buf (.int .i64) v6 false, .buf (.slice (.int .i64)) v7 false] v es ∧ K v es = some r
theorem okn_yy53 : Ok_yy53 (R := R) (fun _ _ _ _ _ _ _ _ => none) := fun _ _ _ _ _ _ _ _ _ h => no_some h
theorem shok_86 {c53 : T42 R} (h53 : Ok_yy53 c53) : ShOk Tryz.prog glob raw 86 (sh86 c53) := by
 intro av es K r h
 unfold sh86 at h
 split at h
 ·exact h53 _ _ _ _ _ _ _ _ _ h
 ·exact no_some h
def Ok_yy25 (c : T14 R) : Prop := ∀ (v1 v2 : LI) (K : KS R) (r : R), c v1 v2 (fun r0 => K (.bool r0) []) = some r → ∃ v es, FnOk Tryz.prog glob 87 (npF raw 87 []) [.arr 4 (.int .u64) v1, .arr 4 (.int .u64) v2] [] v es ∧ K v es = some r
theorem okn_yy25 : Ok_yy25 (R := R) (fun _ _ _ => none) := fun _ _ _ _ h => no_some h
theorem shok_87 {c25 : T14 R} (h25 : Ok_yy25 c25) : ShOk Tryz.prog glob raw 87 (sh87 c25) := by
 intro av es K r h
 unfold sh87 at h
 split at h
 ·exact h25 _ _ _ _ h
 ·exact no_some h
theorem t_yy73 : textOk C_yy73.bef Tryz.prog 24 = true := by kernel_rfl
theorem ok_yy73 : Ok_yy73 (R := R) (yy73) := 
 fun _ _ _ _ _ _ _ _ _ _ h => run_good t_yy73 (by exact cf_nil) (by exact lf_none) ((eq_yy73 ..).trans h)
theorem t_yy67 : textOk C_yy67.bef Tryz.prog 23 = true := by kernel_rfl
theorem ok_yy67 : Ok_yy67 (R := R) (yy67) := 
 fun _ _ _ _ _ _ _ _ _ _ h => run_good t_yy67 (by exact cf_nil) (by exact lf_none) ((eq_yy67 ..).trans h)
theorem t_yy66 : textOk C_yy66.bef Tryz.prog 25 = true := by kernel_rfl
theorem ok_yy66 : Ok_yy66 (R := R) (yy66) := 
 fun _ _ _ h => run_good t_yy66 (by exact cf_nil) (by exact lf_none) ((eq_yy66 ..).trans h)
theorem t_yy2 : textOk C_yy2.bef Tryz.prog 27 = true := by kernel_rfl
theorem sln_yy2_l4 : SlOk (R := R) C_yy2 27 30 0 4 (sl_yy2_l4 (fun _ _ _ _ _ => none)) := by
 intro vs es K r h
 unfold sl_yy2_l4 at h
 split at h <;> exact no_some h
theorem lok_yy2_l4 (kf : Nat) : ∀ n, SlOk (R := R) C_yy2 27 30 0 4 (sl_yy2_l4 (yy2_l4 kf n)) := by
 intro n
 induction n with
 | zero => exact sln_yy2_l4
 | succ k ih =>
  intro vs es K r h
  unfold sl_yy2_l4 at h
  split at h
  ·exact loop_good (text_mixed t_yy2) (by exact cf_nil) (by exact lf_top (lf_cons ih lf_nil)) (text_loop t_yy2 4).1 (text_loop t_yy2 4).2 ((eq_yy2_l4 ..).trans h)
  ·exact no_some h
theorem ok_yy2 (kf : Nat) : Ok_yy2 (R := R) (yy2 kf) := 
 fun _ _ _ _ _ h => run_good t_yy2 (by exact cf_nil) (by exact lf_top (lf_cons (lok_yy2_l4 kf kf) lf_nil)) ((eq_yy2 ..).trans h)
theorem t_yy75 : textOk C_yy75.bef Tryz.prog 17 = true := by kernel_rfl
theorem ok_yy75 (kf : Nat) : Ok_yy75 (R := R) (yy75 kf) := 
 fun _ _ _ _ _ _ _ h => run_good t_yy75 (by exact cf_cons (shok_25 ok_yy66) (cf_cons (shok_27 (ok_yy2 kf)) cf_nil)) (by exact lf_none) ((eq_yy75 ..).trans h)
theorem t_yy5 : textOk C_yy5.bef Tryz.prog 28 = true := by kernel_rfl
theorem ok_yy5 (kf : Nat) : Ok_yy5 (R := R) (yy5 kf) := 
 fun _ _ _ _ h => run_good t_yy5 (by exact cf_cons (shok_27 (ok_yy2 kf)) cf_nil) (by exact lf_none) ((eq_yy5 ..).trans h)
theorem t_yy76 : textOk C_yy76.bef Tryz.prog 18 = true := by kernel_rfl
theorem ok_yy76 (kf : Nat) : Ok_yy76 (R := R) (yy76 kf) := 
 fun _ _ _ _ _ h => run_good t_yy76 (by exact cf_cons (shok_25 ok_yy66) (cf_cons (shok_28 (ok_yy5 kf)) cf_nil)) (by exact lf_none) ((eq_yy76 ..).trans h)
theorem t_yy74 : textOk C_yy74.bef Tryz.prog 14 = true := by kernel_rfl
theorem sln_yy74_l25 : SlOk (R := R) C_yy74 14 117 1 25 (sl_yy74_l25 (fun _ _ _ _ _ _ => none)) := by
 intro vs es K r h
 unfold sl_yy74_l25 at h
 split at h
 ·obtain ⟨_, h⟩ := dite_some h; exact no_some h
 ·exact no_some h
theorem lok_yy74_l25 {c_self : T18 R} (hs : Ok_yy74 c_self) (kf : Nat) : ∀ n, SlOk (R := R) C_yy74 14 117 1 25 (sl_yy74_l25 (yy74_l25 c_self kf n)) := by
 intro n
 induction n with
 | zero => exact sln_yy74_l25
 | succ k ih =>
  intro vs es K r h
  unfold sl_yy74_l25 at h
  split at h
  ·obtain ⟨q1, g1⟩ := dite_some h
   clear h; try subst q1
   have h := g1; clear g1
   repeat rw [castL_self] at h
   exact loop_good (text_mixed t_yy74) (by exact cf_cons (shok_24 ok_yy73) (cf_cons (shok_23 ok_yy67) (cf_cons (shok_25 ok_yy66) (cf_cons (shok_17 (ok_yy75 kf)) (cf_cons (shok_18 (ok_yy76 kf)) (cf_cons (shok_14 hs) cf_nil)))))) (by exact lf_top (lf_cons ih lf_nil)) (text_loop t_yy74 25).1 (text_loop t_yy74 25).2 ((eq_yy74_l25 ..).trans h)
  ·exact no_some h
theorem ok_yy74 : ∀ kf, Ok_yy74 (R := R) (yy74 kf) := by
 intro kf
 induction kf with
 | zero => exact okn_yy74
 | succ kf hs => exact fun _ _ _ _ _ _ _ _ _ _ _ _ _ h => run_good t_yy74 (by exact cf_cons (shok_24 ok_yy73) (cf_cons (shok_23 ok_yy67) (cf_cons (shok_25 ok_yy66) (cf_cons (shok_17 (ok_yy75 kf)) (cf_cons (shok_18 (ok_yy76 kf)) (cf_cons (shok_14 hs) cf_nil)))))) (by exact lf_top (lf_cons (lok_yy74_l25 hs kf kf) lf_nil)) ((eq_yy74 ..).trans h)
theorem t_yy68 : textOk C_yy68.bef Tryz.prog 15 = true := by kernel_rfl
theorem ok_yy68 : Ok_yy68 (R := R) (yy68) := 
 fun _ _ _ h => run_good t_yy68 (by exact cf_cons (pok_26) cf_nil) (by exact lf_none) ((eq_yy68 ..).trans h)
theorem t_yy62 : textOk C_yy62.bef Tryz.prog 6 = true := by kernel_rfl
theorem ok_yy62 (kf : Nat) : Ok_yy62 (R := R) (yy62 kf) := 
 fun _ _ _ _ _ _ _ _ _ _ _ h => run_good t_yy62 (by exact cf_cons (shok_14 (ok_yy74 kf)) (cf_cons (shok_15 ok_yy68) cf_nil)) (by exact lf_none) ((eq_yy62 ..).trans h)
theorem t_yy3 : textOk C_yy3.bef Tryz.prog 29 = true := by kernel_rfl
theorem ok_yy3 : Ok_yy3 (R := R) (yy3) := 
 fun _ _ _ _ _ h => run_good t_yy3 (by exact cf_nil) (by exact lf_none) ((eq_yy3 ..).trans h)
theorem t_yy70 : textOk C_yy70.bef Tryz.prog 20 = true := by kernel_rfl
theorem ok_yy70 : Ok_yy70 (R := R) (yy70) := 
 fun _ _ _ _ _ h => run_good t_yy70 (by exact cf_cons (shok_25 ok_yy66) cf_nil) (by exact lf_none) ((eq_yy70 ..).trans h)
theorem t_yy71 : textOk C_yy71.bef Tryz.prog 19 = true := by kernel_rfl
theorem ok_yy71 : Ok_yy71 (R := R) (yy71) := 
 fun _ _ _ _ _ h => run_good t_yy71 (by exact cf_cons (shok_29 ok_yy3) (cf_cons (shok_20 ok_yy70) cf_nil)) (by exact lf_none) ((eq_yy71 ..).trans h)
theorem t_yy4 : textOk C_yy4.bef Tryz.prog 30 = true := by kernel_rfl
theorem ok_yy4 : Ok_yy4 (R := R) (yy4) := 
 fun _ _ _ _ h => run_good t_yy4 (by exact cf_cons (shok_29 ok_yy3) cf_nil) (by exact lf_none) ((eq_yy4 ..).trans h)
theorem t_yy72 : textOk C_yy72.bef Tryz.prog 21 = true := by kernel_rfl
theorem ok_yy72 : Ok_yy72 (R := R) (yy72) := 
 fun _ _ _ _ h => run_good t_yy72 (by exact cf_cons (shok_30 ok_yy4) (cf_cons (shok_20 ok_yy70) cf_nil)) (by exact lf_none) ((eq_yy72 ..).trans h)
theorem t_yy69 : textOk C_yy69.bef Tryz.prog 16 = true := by kernel_rfl
theorem sln_yy69_l27 : SlOk (R := R) C_yy69 16 86 1 27 (sl_yy69_l27 (fun _ _ _ _ _ _ _ _ _ _ _ _ _ _ _ _ _ _ _ _ _ => none)) := by
 intro vs es K r h
 unfold sl_yy69_l27 at h
 split at h
 ·obtain ⟨_, h⟩ := dite_some h; obtain ⟨_, h⟩ := dite_some h; obtain ⟨_, h⟩ := dite_some h; obtain ⟨_, h⟩ := dite_some h; exact no_some h
 ·exact no_some h
theorem lok_yy69_l27 {c_self : T21 R} (hs : Ok_yy69 c_self) (kf : Nat) : ∀ n, SlOk (R := R) C_yy69 16 86 1 27 (sl_yy69_l27 (yy69_l27 c_self kf n)) := by
 intro n
 induction n with
 | zero => exact sln_yy69_l27
 | succ k ih =>
  intro vs es K r h
  unfold sl_yy69_l27 at h
  split at h
  ·obtain ⟨q1, g1⟩ := dite_some h
   clear h; try subst q1
   obtain ⟨q2, g2⟩ := dite_some g1
   clear g1; try subst q2
   obtain ⟨q3, g3⟩ := dite_some g2
   clear g2; try subst q3
   obtain ⟨q4, h⟩ := dite_some g3
   clear g3; try subst q4
   repeat rw [castL_self] at h
   exact loop_good (text_mixed t_yy69) (by exact cf_cons (shok_19 ok_yy71) (cf_cons (shok_21 ok_yy72) (cf_cons (shok_20 ok_yy70) (cf_cons (shok_16 hs) cf_nil)))) (by exact lf_top (lf_cons ih lf_nil)) (text_loop t_yy69 27).1 (text_loop t_yy69 27).2 ((eq_yy69_l27 ..).trans h)
  ·exact no_some h
theorem ok_yy69 : ∀ kf, Ok_yy69 (R := R) (yy69 kf) := by
 intro kf
 induction kf with
 | zero => exact okn_yy69
 | succ kf hs => exact fun _ _ _ _ _ h => run_good t_yy69 (by exact cf_cons (shok_19 ok_yy71) (cf_cons (shok_21 ok_yy72) (cf_cons (shok_20 ok_yy70) (cf_cons (shok_16 hs) cf_nil)))) (by exact lf_top (lf_cons (lok_yy69_l27 hs kf kf) lf_nil)) ((eq_yy69 ..).trans h)
theorem t_yy64 : textOk C_yy64.bef Tryz.prog 7 = true := by kernel_rfl
theorem ok_yy64 (kf : Nat) : Ok_yy64 (R := R) (yy64 kf) := 
 fun _ _ _ h => run_good t_yy64 (by exact cf_cons (shok_16 (ok_yy69 kf)) (cf_cons (shok_15 ok_yy68) cf_nil)) (by exact lf_none) ((eq_yy64 ..).trans h)
theorem t_yy63 : textOk C_yy63.bef Tryz.prog 9 = true := by kernel_rfl
theorem sln_yy63_l13 : SlOk (R := R) C_yy63 9 79 0 13 (sl_yy63_l13 (fun _ _ _ _ _ _ _ => none)) := by
 intro vs es K r h
 unfold sl_yy63_l13 at h
 split at h <;> exact no_some h
theorem lok_yy63_l13 (kf : Nat) : ∀ n, SlOk (R := R) C_yy63 9 79 0 13 (sl_yy63_l13 (yy63_l13 kf n)) := by
 intro n
 induction n with
 | zero => exact sln_yy63_l13
 | succ k ih =>
  intro vs es K r h
  unfold sl_yy63_l13 at h
  split at h
  ·exact loop_good (text_mixed t_yy63) (by exact cf_cons (shok_17 (ok_yy75 kf)) (cf_cons (shok_18 (ok_yy76 kf)) (cf_cons (shok_15 ok_yy68) cf_nil))) (by exact lf_top (lf_cons ih lf_nil)) (text_loop t_yy63 13).1 (text_loop t_yy63 13).2 ((eq_yy63_l13 ..).trans h)
  ·exact no_some h
theorem ok_yy63 (kf : Nat) : Ok_yy63 (R := R) (yy63 kf) := 
 fun _ _ _ _ _ _ _ _ _ _ h => run_good t_yy63 (by exact cf_cons (shok_17 (ok_yy75 kf)) (cf_cons (shok_18 (ok_yy76 kf)) (cf_cons (shok_15 ok_yy68) cf_nil))) (by exact lf_top (lf_cons (lok_yy63_l13 kf kf) lf_nil)) ((eq_yy63 ..).trans h)
theorem t_yy65 : textOk C_yy65.bef Tryz.prog 10 = true := by kernel_rfl
theorem sln_yy65_l12 : SlOk (R := R) C_yy65 10 78 0 12 (sl_yy65_l12 (fun _ _ _ _ _ _ _ _ _ _ _ _ => none)) := by
 intro vs es K r h
 unfold sl_yy65_l12 at h
 split at h <;> exact no_some h
theorem lok_yy65_l12 (kf : Nat) : ∀ n, SlOk (R := R) C_yy65 10 78 0 12 (sl_yy65_l12 (yy65_l12 kf n)) := by
 intro n
 induction n with
 | zero => exact sln_yy65_l12
 | succ k ih =>
  intro vs es K r h
  unfold sl_yy65_l12 at h
  split at h
  ·exact loop_good (text_mixed t_yy65) (by exact cf_cons (shok_19 ok_yy71) (cf_cons (shok_20 ok_yy70) (cf_cons (shok_21 ok_yy72) (cf_cons (shok_15 ok_yy68) cf_nil)))) (by exact lf_top (lf_cons ih lf_nil)) (text_loop t_yy65 12).1 (text_loop t_yy65 12).2 ((eq_yy65_l12 ..).trans h)
  ·exact no_some h
theorem ok_yy65 (kf : Nat) : Ok_yy65 (R := R) (yy65 kf) := 
 fun _ _ _ h => run_good t_yy65 (by exact cf_cons (shok_19 ok_yy71) (cf_cons (shok_20 ok_yy70) (cf_cons (shok_21 ok_yy72) (cf_cons (shok_15 ok_yy68) cf_nil)))) (by exact lf_top (lf_cons (lok_yy65_l12 kf kf) lf_nil)) ((eq_yy65 ..).trans h)
theorem t_yy1 : textOk C_yy1.bef Tryz.prog 4 = true := by kernel_rfl
theorem ok_yy1 (kf : Nat) : Ok_yy1 (R := R) (yy1 kf) := 
 fun _ _ h => run_good t_yy1 (by exact cf_cons (shok_6 (ok_yy62 kf)) (cf_cons (shok_7 (ok_yy64 kf)) (cf_cons (shok_9 (ok_yy63 kf)) (cf_cons (shok_10 (ok_yy65 kf)) cf_nil)))) (by exact lf_none) ((eq_yy1 ..).trans h)
theorem t_yy7 : textOk C_yy7.bef Tryz.prog 11 = true := by kernel_rfl
theorem ok_yy7 : Ok_yy7 (R := R) (yy7) := 
 fun _ _ _ h => run_good t_yy7 (by exact cf_nil) (by exact lf_none) ((eq_yy7 ..).trans h)
theorem t_yy16 : textOk C_yy16.bef Tryz.prog 12 = true := by kernel_rfl
theorem ok_yy16 : Ok_yy16 (R := R) (yy16) := 
 fun _ _ _ _ h => run_good t_yy16 (by exact cf_nil) (by exact lf_none) ((eq_yy16 ..).trans h)
theorem t_yy15 : textOk C_yy15.bef Tryz.prog 31 = true := by kernel_rfl
theorem ok_yy15 : Ok_yy15 (R := R) (yy15) := 
 fun _ _ _ _ _ h => run_good t_yy15 (by exact cf_nil) (by exact lf_none) ((eq_yy15 ..).trans h)
theorem t_yy9 : textOk C_yy9.bef Tryz.prog 32 = true := by kernel_rfl
theorem ok_yy9 : Ok_yy9 (R := R) (yy9) := 
 fun _ _ _ _ h => run_good t_yy9 (by exact cf_cons (shok_31 ok_yy15) cf_nil) (by exact lf_none) ((eq_yy9 ..).trans h)
theorem t_yy22 : textOk C_yy22.bef Tryz.prog 69 = true := by kernel_rfl
theorem sln_yy22_l3 : SlOk (R := R) C_yy22 69 27 0 3 (sl_yy22_l3 (fun _ _ _ _ _ => none)) := by
 intro vs es K r h
 unfold sl_yy22_l3 at h
 split at h <;> exact no_some h
theorem lok_yy22_l3 (kf : Nat) : ∀ n, SlOk (R := R) C_yy22 69 27 0 3 (sl_yy22_l3 (yy22_l3 kf n)) := by
 intro n
 induction n with
 | zero => exact sln_yy22_l3
 | succ k ih =>
  intro vs es K r h
  unfold sl_yy22_l3 at h
  split at h
  ·exact loop_good (text_mixed t_yy22) (by exact cf_nil) (by exact lf_top (lf_cons ih lf_nil)) (text_loop t_yy22 3).1 (text_loop t_yy22 3).2 ((eq_yy22_l3 ..).trans h)
  ·exact no_some h
theorem ok_yy22 (kf : Nat) : Ok_yy22 (R := R) (yy22 kf) := 
 fun _ _ _ h => run_good t_yy22 (by exact cf_nil) (by exact lf_top (lf_cons (lok_yy22_l3 kf kf) lf_nil)) ((eq_yy22 ..).trans h)
theorem t_yy26 : textOk C_yy26.bef Tryz.prog 81 = true := by kernel_rfl
theorem sln_yy26_l3 : SlOk (R := R) C_yy26 81 19 0 3 (sl_yy26_l3 (fun _ _ _ _ _ => none)) := by
 intro vs es K r h
 unfold sl_yy26_l3 at h
 split at h <;> exact no_some h
theorem lok_yy26_l3 (kf : Nat) : ∀ n, SlOk (R := R) C_yy26 81 19 0 3 (sl_yy26_l3 (yy26_l3 kf n)) := by
 intro n
 induction n with
 | zero => exact sln_yy26_l3
 | succ k ih =>
  intro vs es K r h
  unfold sl_yy26_l3 at h
  split at h
  ·exact loop_good (text_mixed t_yy26) (by exact cf_cons (shok_69 (ok_yy22 kf)) cf_nil) (by exact lf_top (lf_cons ih lf_nil)) (text_loop t_yy26 3).1 (text_loop t_yy26 3).2 ((eq_yy26_l3 ..).trans h)
  ·exact no_some h
theorem ok_yy26 (kf : Nat) : Ok_yy26 (R := R) (yy26 kf) := 
 fun _ _ _ h => run_good t_yy26 (by exact cf_cons (shok_69 (ok_yy22 kf)) cf_nil) (by exact lf_top (lf_cons (lok_yy26_l3 kf kf) lf_nil)) ((eq_yy26 ..).trans h)
theorem t_yy24 : textOk C_yy24.bef Tryz.prog 67 = true := by kernel_rfl
theorem sln_yy24_l3 : SlOk (R := R) C_yy24 67 19 0 3 (sl_yy24_l3 (fun _ _ _ _ _ => none)) := by
 intro vs es K r h
 unfold sl_yy24_l3 at h
 split at h <;> exact no_some h
theorem lok_yy24_l3 (kf : Nat) : ∀ n, SlOk (R := R) C_yy24 67 19 0 3 (sl_yy24_l3 (yy24_l3 kf n)) := by
 intro n
 induction n with
 | zero => exact sln_yy24_l3
 | succ k ih =>
  intro vs es K r h
  unfold sl_yy24_l3 at h
  split at h
  ·exact loop_good (text_mixed t_yy24) (by exact cf_cons (shok_81 (ok_yy26 kf)) cf_nil) (by exact lf_top (lf_cons ih lf_nil)) (text_loop t_yy24 3).1 (text_loop t_yy24 3).2 ((eq_yy24_l3 ..).trans h)
  ·exact no_some h
theorem ok_yy24 (kf : Nat) : Ok_yy24 (R := R) (yy24 kf) := 
 fun _ _ _ _ h => run_good t_yy24 (by exact cf_cons (shok_81 (ok_yy26 kf)) cf_nil) (by exact lf_top (lf_cons (lok_yy24_l3 kf kf) lf_nil)) ((eq_yy24 ..).trans h)
theorem t_yy19 : textOk C_yy19.bef Tryz.prog 82 = true := by kernel_rfl
theorem ok_yy19 : Ok_yy19 (R := R) (yy19) := 
 fun _ _ _ _ h => run_good t_yy19 (by exact cf_nil) (by exact lf_none) ((eq_yy19 ..).trans h)
theorem t_yy21 : textOk C_yy21.bef Tryz.prog 68 = true := by kernel_rfl
theorem sln_yy21_l3 : SlOk (R := R) C_yy21 68 18 0 3 (sl_yy21_l3 (fun _ _ _ _ _ => none)) := by
 intro vs es K r h
 unfold sl_yy21_l3 at h
 split at h <;> exact no_some h
theorem lok_yy21_l3 (kf : Nat) : ∀ n, SlOk (R := R) C_yy21 68 18 0 3 (sl_yy21_l3 (yy21_l3 kf n)) := by
 intro n
 induction n with
 | zero => exact sln_yy21_l3
 | succ k ih =>
  intro vs es K r h
  unfold sl_yy21_l3 at h
  split at h
  ·exact loop_good (text_mixed t_yy21) (by exact cf_cons (shok_82 ok_yy19) (cf_cons (shok_81 (ok_yy26 kf)) cf_nil)) (by exact lf_top (lf_cons ih lf_nil)) (text_loop t_yy21 3).1 (text_loop t_yy21 3).2 ((eq_yy21_l3 ..).trans h)
  ·exact no_some h
theorem ok_yy21 (kf : Nat) : Ok_yy21 (R := R) (yy21 kf) := 
 fun _ _ _ h => run_good t_yy21 (by exact cf_cons (shok_82 ok_yy19) (cf_cons (shok_81 (ok_yy26 kf)) cf_nil)) (by exact lf_top (lf_cons (lok_yy21_l3 kf kf) lf_nil)) ((eq_yy21 ..).trans h)
theorem t_yy11 : textOk C_yy11.bef Tryz.prog 51 = true := by kernel_rfl
theorem ok_yy11 (kf : Nat) : Ok_yy11 (R := R) (yy11 kf) := 
 fun _ _ _ _ h => run_good t_yy11 (by exact cf_cons (shok_31 ok_yy15) (cf_cons (shok_67 (ok_yy24 kf)) (cf_cons (shok_69 (ok_yy22 kf)) (cf_cons (shok_68 (ok_yy21 kf)) cf_nil)))) (by exact lf_none) ((eq_yy11 ..).trans h)
theorem t_yy39 : textOk C_yy39.bef Tryz.prog 52 = true := by kernel_rfl
theorem ok_yy39 : Ok_yy39 (R := R) (yy39) := 
 fun _ _ h => run_good t_yy39 (by exact cf_nil) (by exact lf_none) ((eq_yy39 ..).trans h)
theorem t_yy30 : textOk C_yy30.bef Tryz.prog 50 = true := by kernel_rfl
theorem ok_yy30 : Ok_yy30 (R := R) (yy30) := 
 fun _ _ _ h => run_good t_yy30 (by exact cf_cons (shok_52 ok_yy39) cf_nil) (by exact lf_none) ((eq_yy30 ..).trans h)
theorem t_yy35 : textOk C_yy35.bef Tryz.prog 53 = true := by kernel_rfl
theorem ok_yy35 : Ok_yy35 (R := R) (yy35) := 
 fun _ _ h => run_good t_yy35 (by exact cf_nil) (by exact lf_none) ((eq_yy35 ..).trans h)
theorem t_yy43 : textOk C_yy43.bef Tryz.prog 70 = true := by kernel_rfl
theorem sln_yy43_l3 : SlOk (R := R) C_yy43 70 35 0 3 (sl_yy43_l3 (fun _ _ _ _ _ => none)) := by
 intro vs es K r h
 unfold sl_yy43_l3 at h
 split at h
 ·obtain ⟨_, h⟩ := dite_some h; obtain ⟨_, h⟩ := dite_some h; obtain ⟨_, h⟩ := dite_some h; exact no_some h
 ·exact no_some h
theorem lok_yy43_l3 (kf : Nat) : ∀ n, SlOk (R := R) C_yy43 70 35 0 3 (sl_yy43_l3 (yy43_l3 kf n)) := by
 intro n
 induction n with
 | zero => exact sln_yy43_l3
 | succ k ih =>
  intro vs es K r h
  unfold sl_yy43_l3 at h
  split at h
  ·obtain ⟨q1, g1⟩ := dite_some h
   clear h; try subst q1
   obtain ⟨q2, g2⟩ := dite_some g1
   clear g1; try subst q2
   obtain ⟨q3, h⟩ := dite_some g2
   clear g2; try subst q3
   repeat rw [castL_self] at h
   exact loop_good (text_mixed t_yy43) (by exact cf_nil) (by exact lf_top (lf_cons ih lf_nil)) (text_loop t_yy43 3).1 (text_loop t_yy43 3).2 ((eq_yy43_l3 ..).trans h)
  ·exact no_some h
theorem ok_yy43 (kf : Nat) : Ok_yy43 (R := R) (yy43 kf) := 
 fun _ _ _ _ h => run_good t_yy43 (by exact cf_nil) (by exact lf_top (lf_cons (lok_yy43_l3 kf kf) lf_nil)) ((eq_yy43 ..).trans h)
theorem t_yy33 : textOk C_yy33.bef Tryz.prog 71 = true := by kernel_rfl
theorem sln_yy33_l3 : SlOk (R := R) C_yy33 71 24 0 3 (sl_yy33_l3 (fun _ _ _ _ _ _ _ _ _ => none)) := by
 intro vs es K r h
 unfold sl_yy33_l3 at h
 split at h
 ·obtain ⟨_, h⟩ := dite_some h; obtain ⟨_, h⟩ := dite_some h; obtain ⟨_, h⟩ := dite_some h; obtain ⟨_, h⟩ := dite_some h; obtain ⟨_, h⟩ := dite_some h; exact no_some h
 ·exact no_some h
theorem lok_yy33_l3 {c_self : T1 R} (hs : Ok_yy33 c_self) (kf : Nat) : ∀ n, SlOk (R := R) C_yy33 71 24 0 3 (sl_yy33_l3 (yy33_l3 c_self kf n)) := by
 intro n
 induction n with
 | zero => exact sln_yy33_l3
 | succ k ih =>
  intro vs es K r h
  unfold sl_yy33_l3 at h
  split at h
  ·obtain ⟨q1, g1⟩ := dite_some h
   clear h; try subst q1
   obtain ⟨q2, g2⟩ := dite_some g1
   clear g1; try subst q2
   obtain ⟨q3, g3⟩ := dite_some g2
   clear g2; try subst q3
   obtain ⟨q4, g4⟩ := dite_some g3
   clear g3; try subst q4
   obtain ⟨q5, h⟩ := dite_some g4
   clear g4; try subst q5
   repeat rw [castL_self] at h
   exact loop_good (text_mixed t_yy33) (by exact cf_cons (shok_71 hs) cf_nil) (by exact lf_top (lf_cons ih lf_nil)) (text_loop t_yy33 3).1 (text_loop t_yy33 3).2 ((eq_yy33_l3 ..).trans h)
  ·exact no_some h
theorem ok_yy33 : ∀ kf, Ok_yy33 (R := R) (yy33 kf) := by
 intro kf
 induction kf with
 | zero => exact okn_yy33
 | succ kf hs => exact fun _ _ _ _ _ h => run_good t_yy33 (by exact cf_cons (shok_71 hs) cf_nil) (by exact lf_top (lf_cons (lok_yy33_l3 hs kf kf) lf_nil)) ((eq_yy33 ..).trans h)
theorem t_yy31 : textOk C_yy31.bef Tryz.prog 54 = true := by kernel_rfl
theorem sln_yy31_l4 : SlOk (R := R) C_yy31 54 47 0 4 (sl_yy31_l4 (fun _ _ _ _ _ _ _ _ => none)) := by
 intro vs es K r h
 unfold sl_yy31_l4 at h
 split at h
 ·obtain ⟨_, h⟩ := dite_some h; obtain ⟨_, h⟩ := dite_some h; obtain ⟨_, h⟩ := dite_some h; obtain ⟨_, h⟩ := dite_some h; obtain ⟨_, h⟩ := dite_some h; obtain ⟨_, h⟩ := dite_some h; exact no_some h
 ·exact no_some h
theorem lok_yy31_l4 (kf : Nat) : ∀ n, SlOk (R := R) C_yy31 54 47 0 4 (sl_yy31_l4 (yy31_l4 kf n)) := by
 intro n
 induction n with
 | zero => exact sln_yy31_l4
 | succ k ih =>
  intro vs es K r h
  unfold sl_yy31_l4 at h
  split at h
  ·obtain ⟨q1, g1⟩ := dite_some h
   clear h; try subst q1
   obtain ⟨q2, g2⟩ := dite_some g1
   clear g1; try subst q2
   obtain ⟨q3, g3⟩ := dite_some g2
   clear g2; try subst q3
   obtain ⟨q4, g4⟩ := dite_some g3
   clear g3; try subst q4
   obtain ⟨q5, g5⟩ := dite_some g4
   clear g4; try subst q5
   obtain ⟨q6, h⟩ := dite_some g5
   clear g5; try subst q6
   repeat rw [castL_self] at h
   exact loop_good (text_mixed t_yy31) (by exact cf_cons (shok_70 (ok_yy43 kf)) (cf_cons (shok_52 ok_yy39) (cf_cons (shok_71 (ok_yy33 kf)) (cf_cons (shok_53 ok_yy35) cf_nil)))) (by exact lf_top (lf_cons ih lf_nil)) (text_loop t_yy31 4).1 (text_loop t_yy31 4).2 ((eq_yy31_l4 ..).trans h)
  ·exact no_some h
theorem ok_yy31 (kf : Nat) : Ok_yy31 (R := R) (yy31 kf) := 
 fun _ _ _ h => run_good t_yy31 (by exact cf_cons (shok_70 (ok_yy43 kf)) (cf_cons (shok_52 ok_yy39) (cf_cons (shok_71 (ok_yy33 kf)) (cf_cons (shok_53 ok_yy35) cf_nil)))) (by exact lf_top (lf_cons (lok_yy31_l4 kf kf) lf_nil)) ((eq_yy31 ..).trans h)
theorem t_yy20 : textOk C_yy20.bef Tryz.prog 74 = true := by kernel_rfl
theorem sln_yy20_l3 : SlOk (R := R) C_yy20 74 19 0 3 (sl_yy20_l3 (fun _ _ _ _ => none)) := by
 intro vs es K r h
 unfold sl_yy20_l3 at h
 split at h <;> exact no_some h
theorem lok_yy20_l3 (kf : Nat) : ∀ n, SlOk (R := R) C_yy20 74 19 0 3 (sl_yy20_l3 (yy20_l3 kf n)) := by
 intro n
 induction n with
 | zero => exact sln_yy20_l3
 | succ k ih =>
  intro vs es K r h
  unfold sl_yy20_l3 at h
  split at h
  ·exact loop_good (text_mixed t_yy20) (by exact cf_cons (shok_82 ok_yy19) cf_nil) (by exact lf_top (lf_cons ih lf_nil)) (text_loop t_yy20 3).1 (text_loop t_yy20 3).2 ((eq_yy20_l3 ..).trans h)
  ·exact no_some h
theorem ok_yy20 (kf : Nat) : Ok_yy20 (R := R) (yy20 kf) := 
 fun _ _ _ h => run_good t_yy20 (by exact cf_cons (shok_82 ok_yy19) cf_nil) (by exact lf_top (lf_cons (lok_yy20_l3 kf kf) lf_nil)) ((eq_yy20 ..).trans h)
theorem t_yy23 : textOk C_yy23.bef Tryz.prog 72 = true := by kernel_rfl
theorem ok_yy23 (kf : Nat) : Ok_yy23 (R := R) (yy23 kf) := 
 fun _ _ _ _ h => run_good t_yy23 (by exact cf_cons (shok_74 (ok_yy20 kf)) (cf_cons (shok_69 (ok_yy22 kf)) cf_nil)) (by exact lf_none) ((eq_yy23 ..).trans h)
theorem t_yy25 : textOk C_yy25.bef Tryz.prog 87 = true := by kernel_rfl
theorem sln_yy25_l2 : SlOk (R := R) C_yy25 87 23 0 2 (sl_yy25_l2 (fun _ _ _ _ _ => none)) := by
 intro vs es K r h
 unfold sl_yy25_l2 at h
 split at h <;> exact no_some h
theorem lok_yy25_l2 (kf : Nat) : ∀ n, SlOk (R := R) C_yy25 87 23 0 2 (sl_yy25_l2 (yy25_l2 kf n)) := by
 intro n
 induction n with
 | zero => exact sln_yy25_l2
 | succ k ih =>
  intro vs es K r h
  unfold sl_yy25_l2 at h
  split at h
  ·exact loop_good (text_mixed t_yy25) (by exact cf_cons (shok_82 ok_yy19) cf_nil) (by exact lf_top (lf_cons ih lf_nil)) (text_loop t_yy25 2).1 (text_loop t_yy25 2).2 ((eq_yy25_l2 ..).trans h)
  ·exact no_some h
theorem ok_yy25 (kf : Nat) : Ok_yy25 (R := R) (yy25 kf) := 
 fun _ _ _ _ h => run_good t_yy25 (by exact cf_cons (shok_82 ok_yy19) cf_nil) (by exact lf_top (lf_cons (lok_yy25_l2 kf kf) lf_nil)) ((eq_yy25 ..).trans h)
theorem t_yy32 : textOk C_yy32.bef Tryz.prog 83 = true := by kernel_rfl
theorem sln_yy32_l10 : SlOk (R := R) C_yy32 83 74 0 10 (sl_yy32_l10 (fun _ _ _ _ _ _ _ _ _ => none)) := by
 intro vs es K r h
 unfold sl_yy32_l10 at h
 split at h
 ·obtain ⟨_, h⟩ := dite_some h; obtain ⟨_, h⟩ := dite_some h; exact no_some h
 ·exact no_some h
theorem lok_yy32_l10 {c_self : T10 R} (hs : Ok_yy32 c_self) (kf : Nat) : ∀ n, SlOk (R := R) C_yy32 83 74 0 10 (sl_yy32_l10 (yy32_l10 c_self kf n)) := by
 intro n
 induction n with
 | zero => exact sln_yy32_l10
 | succ k ih =>
  intro vs es K r h
  unfold sl_yy32_l10 at h
  split at h
  ·obtain ⟨q1, g1⟩ := dite_some h
   clear h; try subst q1
   obtain ⟨q2, h⟩ := dite_some g1
   clear g1; try subst q2
   repeat rw [castL_self] at h
   exact loop_good (text_mixed t_yy32) (by exact cf_cons (shok_87 (ok_yy25 kf)) (cf_cons (shok_83 hs) cf_nil)) (by exact lf_top (lf_cons ih lf_nil)) (text_loop t_yy32 10).1 (text_loop t_yy32 10).2 ((eq_yy32_l10 ..).trans h)
  ·exact no_some h
theorem ok_yy32 : ∀ kf, Ok_yy32 (R := R) (yy32 kf) := by
 intro kf
 induction kf with
 | zero => exact okn_yy32
 | succ kf hs => exact fun _ _ _ _ _ _ _ _ h => run_good t_yy32 (by exact cf_cons (shok_87 (ok_yy25 kf)) (cf_cons (shok_83 hs) cf_nil)) (by exact lf_top (lf_cons (lok_yy32_l10 hs kf kf) lf_nil)) ((eq_yy32 ..).trans h)
theorem t_yy36 : textOk C_yy36.bef Tryz.prog 84 = true := by kernel_rfl
theorem ok_yy36 (kf : Nat) : Ok_yy36 (R := R) (yy36 kf) := 
 fun _ _ _ _ _ _ _ _ h => run_good t_yy36 (by exact cf_cons (shok_83 (ok_yy32 kf)) cf_nil) (by exact lf_none) ((eq_yy36 ..).trans h)
theorem t_yy44 : textOk C_yy44.bef Tryz.prog 73 = true := by kernel_rfl
theorem sln_yy44_l2 : SlOk (R := R) C_yy44 73 46 0 2 (sl_yy44_l2 (fun _ _ _ _ _ _ => none)) := by
 intro vs es K r h
 unfold sl_yy44_l2 at h
 split at h
 ·obtain ⟨_, h⟩ := dite_some h; obtain ⟨_, h⟩ := dite_some h; exact no_some h
 ·exact no_some h
theorem lok_yy44_l2 (kf : Nat) : ∀ n, SlOk (R := R) C_yy44 73 46 0 2 (sl_yy44_l2 (yy44_l2 kf n)) := by
 intro n
 induction n with
 | zero => exact sln_yy44_l2
 | succ k ih =>
  intro vs es K r h
  unfold sl_yy44_l2 at h
  split at h
  ·obtain ⟨q1, g1⟩ := dite_some h
   clear h; try subst q1
   obtain ⟨q2, h⟩ := dite_some g1
   clear g1; try subst q2
   repeat rw [castL_self] at h
   exact loop_good (text_mixed t_yy44) (by exact cf_cons (shok_83 (ok_yy32 kf)) (cf_cons (shok_84 (ok_yy36 kf)) cf_nil)) (by exact lf_top (lf_cons ih lf_nil)) (text_loop t_yy44 2).1 (text_loop t_yy44 2).2 ((eq_yy44_l2 ..).trans h)
  ·exact no_some h
theorem ok_yy44 (kf : Nat) : Ok_yy44 (R := R) (yy44 kf) := 
 fun _ _ _ _ _ _ h => run_good t_yy44 (by exact cf_cons (shok_83 (ok_yy32 kf)) (cf_cons (shok_84 (ok_yy36 kf)) cf_nil)) (by exact lf_top (lf_cons (lok_yy44_l2 kf kf) lf_nil)) ((eq_yy44 ..).trans h)
theorem t_yy29 : textOk C_yy29.bef Tryz.prog 55 = true := by kernel_rfl
theorem sln_yy29_l5 : SlOk (R := R) C_yy29 55 57 0 5 (sl_yy29_l5 (fun _ _ _ _ _ _ _ _ => none)) := by
 intro vs es K r h
 unfold sl_yy29_l5 at h
 split at h
 ·obtain ⟨_, h⟩ := dite_some h; obtain ⟨_, h⟩ := dite_some h; obtain ⟨_, h⟩ := dite_some h; obtain ⟨_, h⟩ := dite_some h; obtain ⟨_, h⟩ := dite_some h; exact no_some h
 ·exact no_some h
theorem lok_yy29_l5 (kf : Nat) : ∀ n, SlOk (R := R) C_yy29 55 57 0 5 (sl_yy29_l5 (yy29_l5 kf n)) := by
 intro n
 induction n with
 | zero => exact sln_yy29_l5
 | succ k ih =>
  intro vs es K r h
  unfold sl_yy29_l5 at h
  split at h
  ·obtain ⟨q1, g1⟩ := dite_some h
   clear h; try subst q1
   obtain ⟨q2, g2⟩ := dite_some g1
   clear g1; try subst q2
   obtain ⟨q3, g3⟩ := dite_some g2
   clear g2; try subst q3
   obtain ⟨q4, g4⟩ := dite_some g3
   clear g3; try subst q4
   obtain ⟨q5, h⟩ := dite_some g4
   clear g4; try subst q5
   repeat rw [castL_self] at h
   exact loop_good (text_mixed t_yy29) (by exact cf_cons (shok_70 (ok_yy43 kf)) (cf_cons (shok_72 (ok_yy23 kf)) (cf_cons (shok_71 (ok_yy33 kf)) (cf_cons (shok_73 (ok_yy44 kf)) (cf_cons (shok_50 ok_yy30) (cf_cons (shok_52 ok_yy39) cf_nil)))))) (by exact lf_top (lf_cons ih lf_nil)) (text_loop t_yy29 5).1 (text_loop t_yy29 5).2 ((eq_yy29_l5 ..).trans h)
  ·exact no_some h
theorem ok_yy29 (kf : Nat) : Ok_yy29 (R := R) (yy29 kf) := 
 fun _ _ _ h => run_good t_yy29 (by exact cf_cons (shok_70 (ok_yy43 kf)) (cf_cons (shok_72 (ok_yy23 kf)) (cf_cons (shok_71 (ok_yy33 kf)) (cf_cons (shok_73 (ok_yy44 kf)) (cf_cons (shok_50 ok_yy30) (cf_cons (shok_52 ok_yy39) cf_nil)))))) (by exact lf_top (lf_cons (lok_yy29_l5 kf kf) lf_nil)) ((eq_yy29 ..).trans h)
theorem t_yy42 : textOk C_yy42.bef Tryz.prog 56 = true := by kernel_rfl
theorem sln_yy42_l10 : SlOk (R := R) C_yy42 56 52 0 10 (sl_yy42_l10 (fun _ _ _ _ _ _ _ _ _ => none)) := by
 intro vs es K r h
 unfold sl_yy42_l10 at h
 split at h
 ·obtain ⟨_, h⟩ := dite_some h; obtain ⟨_, h⟩ := dite_some h; obtain ⟨_, h⟩ := dite_some h; obtain ⟨_, h⟩ := dite_some h; obtain ⟨_, h⟩ := dite_some h; exact no_some h
 ·exact no_some h
theorem lok_yy42_l10 {c_self : T1 R} (hs : Ok_yy42 c_self) (kf : Nat) : ∀ n, SlOk (R := R) C_yy42 56 52 0 10 (sl_yy42_l10 (yy42_l10 c_self kf n)) := by
 intro n
 induction n with
 | zero => exact sln_yy42_l10
 | succ k ih =>
  intro vs es K r h
  unfold sl_yy42_l10 at h
  split at h
  ·obtain ⟨q1, g1⟩ := dite_some h
   clear h; try subst q1
   obtain ⟨q2, g2⟩ := dite_some g1
   clear g1; try subst q2
   obtain ⟨q3, g3⟩ := dite_some g2
   clear g2; try subst q3
   obtain ⟨q4, g4⟩ := dite_some g3
   clear g3; try subst q4
   obtain ⟨q5, h⟩ := dite_some g4
   clear g4; try subst q5
   repeat rw [castL_self] at h
   exact loop_good (text_mixed t_yy42) (by exact cf_cons (shok_71 (ok_yy33 kf)) (cf_cons (shok_53 ok_yy35) (cf_cons (shok_55 (ok_yy29 kf)) (cf_cons (shok_56 hs) cf_nil)))) (by exact lf_top (lf_cons ih lf_nil)) (text_loop t_yy42 10).1 (text_loop t_yy42 10).2 ((eq_yy42_l10 ..).trans h)
  ·exact no_some h
theorem ok_yy42 : ∀ kf, Ok_yy42 (R := R) (yy42 kf) := by
 intro kf
 induction kf with
 | zero => exact okn_yy42
 | succ kf hs => exact fun _ _ _ _ _ h => run_good t_yy42 (by exact cf_cons (shok_71 (ok_yy33 kf)) (cf_cons (shok_53 ok_yy35) (cf_cons (shok_55 (ok_yy29 kf)) (cf_cons (shok_56 hs) cf_nil)))) (by exact lf_top (lf_cons (lok_yy42_l10 hs kf kf) lf_nil)) ((eq_yy42 ..).trans h)
theorem t_yy17 : textOk C_yy17.bef Tryz.prog 45 = true := by kernel_rfl
theorem ok_yy17 : ∀ kf, Ok_yy17 (R := R) (yy17 kf) := by
 intro kf
 induction kf with
 | zero => exact okn_yy17
 | succ kf hs => exact fun _ _ _ _ _ h => run_good t_yy17 (by exact cf_cons (shok_31 ok_yy15) (cf_cons (shok_12 ok_yy16) (cf_cons (shok_51 (ok_yy11 kf)) (cf_cons (shok_50 ok_yy30) (cf_cons (shok_52 ok_yy39) (cf_cons (shok_53 ok_yy35) (cf_cons (shok_45 hs) (cf_cons (shok_54 (ok_yy31 kf)) (cf_cons (shok_55 (ok_yy29 kf)) (cf_cons (shok_56 (ok_yy42 kf)) cf_nil)))))))))) (by exact lf_none) ((eq_yy17 ..).trans h)
theorem t_yy10 : textOk C_yy10.bef Tryz.prog 39 = true := by kernel_rfl
theorem ok_yy10 (kf : Nat) : Ok_yy10 (R := R) (yy10 kf) := 
 fun _ _ _ _ h => run_good t_yy10 (by exact cf_cons (shok_45 (ok_yy17 kf)) cf_nil) (by exact lf_none) ((eq_yy10 ..).trans h)
theorem t_yy41 : textOk C_yy41.bef Tryz.prog 57 = true := by kernel_rfl
theorem sln_yy41_l4 : SlOk (R := R) C_yy41 57 46 0 4 (sl_yy41_l4 (fun _ _ _ _ _ => none)) := by
 intro vs es K r h
 unfold sl_yy41_l4 at h
 split at h
 ·obtain ⟨_, h⟩ := dite_some h; obtain ⟨_, h⟩ := dite_some h; exact no_some h
 ·exact no_some h
theorem lok_yy41_l4 {c_self : T6 R} (hs : Ok_yy41 c_self) (kf : Nat) : ∀ n, SlOk (R := R) C_yy41 57 46 0 4 (sl_yy41_l4 (yy41_l4 c_self kf n)) := by
 intro n
 induction n with
 | zero => exact sln_yy41_l4
 | succ k ih =>
  intro vs es K r h
  unfold sl_yy41_l4 at h
  split at h
  ·obtain ⟨q1, g1⟩ := dite_some h
   clear h; try subst q1
   obtain ⟨q2, h⟩ := dite_some g1
   clear g1; try subst q2
   repeat rw [castL_self] at h
   exact loop_good (text_mixed t_yy41) (by exact cf_cons (shok_57 hs) cf_nil) (by exact lf_top (lf_cons ih lf_nil)) (text_loop t_yy41 4).1 (text_loop t_yy41 4).2 ((eq_yy41_l4 ..).trans h)
  ·exact no_some h
theorem ok_yy41 : ∀ kf, Ok_yy41 (R := R) (yy41 kf) := by
 intro kf
 induction kf with
 | zero => exact okn_yy41
 | succ kf hs => exact fun _ _ _ _ _ _ _ _ h => run_good t_yy41 (by exact cf_cons (shok_57 hs) cf_nil) (by exact lf_top (lf_cons (lok_yy41_l4 hs kf kf) lf_nil)) ((eq_yy41 ..).trans h)
theorem t_yy40 : textOk C_yy40.bef Tryz.prog 46 = true := by kernel_rfl
theorem sln_yy40_l2 : SlOk (R := R) C_yy40 46 119 0 2 (sl_yy40_l2 (fun _ _ _ _ _ _ => none)) := by
 intro vs es K r h
 unfold sl_yy40_l2 at h
 split at h
 ·obtain ⟨_, h⟩ := dite_some h; exact no_some h
 ·exact no_some h
theorem lok_yy40_l2 {c_self : T11 R} (hs : Ok_yy40 c_self) (kf : Nat) : ∀ n, SlOk (R := R) C_yy40 46 119 0 2 (sl_yy40_l2 (yy40_l2 c_self kf n)) := by
 intro n
 induction n with
 | zero => exact sln_yy40_l2
 | succ k ih =>
  intro vs es K r h
  unfold sl_yy40_l2 at h
  split at h
  ·obtain ⟨q1, g1⟩ := dite_some h
   clear h; try subst q1
   have h := g1; clear g1
   repeat rw [castL_self] at h
   exact loop_good (text_mixed t_yy40) (by exact cf_cons (shok_46 hs) (cf_cons (shok_54 (ok_yy31 kf)) (cf_cons (shok_57 (ok_yy41 kf)) (cf_cons (shok_55 (ok_yy29 kf)) cf_nil)))) (by exact lf_top (lf_cons ih lf_nil)) (text_loop t_yy40 2).1 (text_loop t_yy40 2).2 ((eq_yy40_l2 ..).trans h)
  ·exact no_some h
theorem ok_yy40 : ∀ kf, Ok_yy40 (R := R) (yy40 kf) := by
 intro kf
 induction kf with
 | zero => exact okn_yy40
 | succ kf hs => exact fun _ _ _ _ _ h => run_good t_yy40 (by exact cf_cons (shok_46 hs) (cf_cons (shok_54 (ok_yy31 kf)) (cf_cons (shok_57 (ok_yy41 kf)) (cf_cons (shok_55 (ok_yy29 kf)) cf_nil)))) (by exact lf_top (lf_cons (lok_yy40_l2 hs kf kf) lf_nil)) ((eq_yy40 ..).trans h)
theorem t_yy46 : textOk C_yy46.bef Tryz.prog 85 = true := by kernel_rfl
theorem sln_yy46_l2 : SlOk (R := R) C_yy46 85 17 0 2 (sl_yy46_l2 (fun _ _ _ _ _ => none)) := by
 intro vs es K r h
 unfold sl_yy46_l2 at h
 split at h <;> exact no_some h
theorem lok_yy46_l2 (kf : Nat) : ∀ n, SlOk (R := R) C_yy46 85 17 0 2 (sl_yy46_l2 (yy46_l2 kf n)) := by
 intro n
 induction n with
 | zero => exact sln_yy46_l2
 | succ k ih =>
  intro vs es K r h
  unfold sl_yy46_l2 at h
  split at h
  ·exact loop_good (text_mixed t_yy46) (by exact cf_nil) (by exact lf_top (lf_cons ih lf_nil)) (text_loop t_yy46 2).1 (text_loop t_yy46 2).2 ((eq_yy46_l2 ..).trans h)
  ·exact no_some h
theorem ok_yy46 (kf : Nat) : Ok_yy46 (R := R) (yy46 kf) := 
 fun _ _ _ _ h => run_good t_yy46 (by exact cf_nil) (by exact lf_top (lf_cons (lok_yy46_l2 kf kf) lf_nil)) ((eq_yy46 ..).trans h)
theorem t_yy48 : textOk C_yy48.bef Tryz.prog 75 = true := by kernel_rfl
theorem ok_yy48 (kf : Nat) : Ok_yy48 (R := R) (yy48 kf) := 
 fun _ _ _ h => run_good t_yy48 (by exact cf_cons (shok_85 (ok_yy46 kf)) cf_nil) (by exact lf_none) ((eq_yy48 ..).trans h)
theorem t_yy47 : textOk C_yy47.bef Tryz.prog 58 = true := by kernel_rfl
theorem sln_yy47_l8 : SlOk (R := R) C_yy47 58 89 0 8 (sl_yy47_l8 (fun _ _ _ _ => none)) := by
 intro vs es K r h
 unfold sl_yy47_l8 at h
 split at h <;> exact no_some h
theorem sln_yy47_l10 : SlOk (R := R) C_yy47 58 89 0 10 (sl_yy47_l10 (fun _ _ _ _ _ => none)) := by
 intro vs es K r h
 unfold sl_yy47_l10 at h
 split at h <;> exact no_some h
theorem lok_yy47_l10 (kf : Nat) : ∀ n, SlOk (R := R) C_yy47 58 89 0 10 (sl_yy47_l10 (yy47_l10 kf n)) := by
 intro n
 induction n with
 | zero => exact sln_yy47_l10
 | succ k ih =>
  intro vs es K r h
  unfold sl_yy47_l10 at h
  split at h
  ·exact loop_good (text_mixed t_yy47) (by exact cf_cons (shok_74 (ok_yy20 kf)) (cf_cons (shok_75 (ok_yy48 kf)) cf_nil)) (by exact lf_top (lf_cons (sln_yy47_l8) (lf_cons ih lf_nil))) (text_loop t_yy47 10).1 (text_loop t_yy47 10).2 ((eq_yy47_l10 ..).trans h)
  ·exact no_some h
theorem lok_yy47_l8 (kf : Nat) : ∀ n, SlOk (R := R) C_yy47 58 89 0 8 (sl_yy47_l8 (yy47_l8 kf n)) := by
 intro n
 induction n with
 | zero => exact sln_yy47_l8
 | succ k ih =>
  intro vs es K r h
  unfold sl_yy47_l8 at h
  split at h
  ·exact loop_good (text_mixed t_yy47) (by exact cf_cons (shok_74 (ok_yy20 kf)) (cf_cons (shok_75 (ok_yy48 kf)) cf_nil)) (by exact lf_top (lf_cons ih (lf_cons (lok_yy47_l10 kf k) lf_nil))) (text_loop t_yy47 8).1 (text_loop t_yy47 8).2 ((eq_yy47_l8 ..).trans h)
  ·exact no_some h
theorem ok_yy47 (kf : Nat) : Ok_yy47 (R := R) (yy47 kf) := 
 fun _ _ _ h => run_good t_yy47 (by exact cf_cons (shok_74 (ok_yy20 kf)) (cf_cons (shok_75 (ok_yy48 kf)) cf_nil)) (by exact lf_top (lf_cons (lok_yy47_l8 kf kf) (lf_cons (lok_yy47_l10 kf kf) lf_nil))) ((eq_yy47 ..).trans h)
theorem t_yy49 : textOk C_yy49.bef Tryz.prog 47 = true := by kernel_rfl
theorem sln_yy49_l15 : SlOk (R := R) C_yy49 47 86 0 15 (sl_yy49_l15 (fun _ _ _ _ _ => none)) := by
 intro vs es K r h
 unfold sl_yy49_l15 at h
 split at h
 ·obtain ⟨_, h⟩ := dite_some h; exact no_some h
 ·exact no_some h
theorem lok_yy49_l15 {c_self : T9 R} (hs : Ok_yy49 c_self) (kf : Nat) : ∀ n, SlOk (R := R) C_yy49 47 86 0 15 (sl_yy49_l15 (yy49_l15 c_self kf n)) := by
 intro n
 induction n with
 | zero => exact sln_yy49_l15
 | succ k ih =>
  intro vs es K r h
  unfold sl_yy49_l15 at h
  split at h
  ·obtain ⟨q1, g1⟩ := dite_some h
   clear h; try subst q1
   have h := g1; clear g1
   repeat rw [castL_self] at h
   exact loop_good (text_mixed t_yy49) (by exact cf_cons (shok_58 (ok_yy47 kf)) (cf_cons (shok_47 hs) cf_nil)) (by exact lf_top (lf_cons ih lf_nil)) (text_loop t_yy49 15).1 (text_loop t_yy49 15).2 ((eq_yy49_l15 ..).trans h)
  ·exact no_some h
theorem ok_yy49 : ∀ kf, Ok_yy49 (R := R) (yy49 kf) := by
 intro kf
 induction kf with
 | zero => exact okn_yy49
 | succ kf hs => exact fun _ _ _ _ _ h => run_good t_yy49 (by exact cf_cons (shok_58 (ok_yy47 kf)) (cf_cons (shok_47 hs) cf_nil)) (by exact lf_top (lf_cons (lok_yy49_l15 hs kf kf) lf_nil)) ((eq_yy49 ..).trans h)
theorem t_yy45 : textOk C_yy45.bef Tryz.prog 40 = true := by kernel_rfl
theorem ok_yy45 (kf : Nat) : Ok_yy45 (R := R) (yy45 kf) := 
 fun _ _ _ _ _ h => run_good t_yy45 (by exact cf_cons (shok_46 (ok_yy40 kf)) (cf_cons (shok_47 (ok_yy49 kf)) cf_nil)) (by exact lf_none) ((eq_yy45 ..).trans h)
theorem t_yy53 : textOk C_yy53.bef Tryz.prog 86 = true := by kernel_rfl
theorem sln_yy53_l1 : SlOk (R := R) C_yy53 86 36 1 1 (sl_yy53_l1 (fun _ _ _ _ _ _ _ _ _ => none)) := by
 intro vs es K r h
 unfold sl_yy53_l1 at h
 split at h <;> exact no_some h
theorem lok_yy53_l1 (kf : Nat) : ∀ n, SlOk (R := R) C_yy53 86 36 1 1 (sl_yy53_l1 (yy53_l1 kf n)) := by
 intro n
 induction n with
 | zero => exact sln_yy53_l1
 | succ k ih =>
  intro vs es K r h
  unfold sl_yy53_l1 at h
  split at h
  ·exact loop_good (text_mixed t_yy53) (by exact cf_nil) (by exact lf_top (lf_cons ih lf_nil)) (text_loop t_yy53 1).1 (text_loop t_yy53 1).2 ((eq_yy53_l1 ..).trans h)
  ·exact no_some h
theorem ok_yy53 (kf : Nat) : Ok_yy53 (R := R) (yy53 kf) := 
 fun _ _ _ _ _ _ _ _ _ h => run_good t_yy53 (by exact cf_nil) (by exact lf_top (lf_cons (lok_yy53_l1 kf kf) lf_nil)) ((eq_yy53 ..).trans h)
theorem t_yy55 : textOk C_yy55.bef Tryz.prog 76 = true := by kernel_rfl
theorem sln_yy55_l16 : SlOk (R := R) C_yy55 76 157 1 16 (sl_yy55_l16 (fun _ _ _ _ _ _ _ _ _ _ _ _ _ _ _ _ _ _ => none)) := by
 intro vs es K r h
 unfold sl_yy55_l16 at h
 split at h
 ·obtain ⟨_, h⟩ := dite_some h; exact no_some h
 ·exact no_some h
theorem sln_yy55_l24 : SlOk (R := R) C_yy55 76 157 1 24 (sl_yy55_l24 (fun _ _ _ _ _ _ _ _ _ _ _ _ _ _ _ _ _ _ => none)) := by
 intro vs es K r h
 unfold sl_yy55_l24 at h
 split at h
 ·obtain ⟨_, h⟩ := dite_some h; exact no_some h
 ·exact no_some h
theorem lok_yy55_l16 {c_self : T12 R} (hs : Ok_yy55 c_self) (kf : Nat) : ∀ n, SlOk (R := R) C_yy55 76 157 1 16 (sl_yy55_l16 (yy55_l16 c_self kf n)) := by
 intro n
 induction n with
 | zero => exact sln_yy55_l16
 | succ k ih =>
  intro vs es K r h
  unfold sl_yy55_l16 at h
  split at h
  ·obtain ⟨q1, g1⟩ := dite_some h
   clear h; try subst q1
   have h := g1; clear g1
   repeat rw [castL_self] at h
   exact loop_good (text_mixed t_yy55) (by exact cf_cons (shok_76 hs) (cf_cons (shok_86 (ok_yy53 kf)) cf_nil)) (by exact lf_top (lf_cons ih (lf_cons (sln_yy55_l24) lf_nil))) (text_loop t_yy55 16).1 (text_loop t_yy55 16).2 ((eq_yy55_l16 ..).trans h)
  ·exact no_some h
theorem lok_yy55_l24 {c_self : T12 R} (hs : Ok_yy55 c_self) (kf : Nat) : ∀ n, SlOk (R := R) C_yy55 76 157 1 24 (sl_yy55_l24 (yy55_l24 c_self kf n)) := by
 intro n
 induction n with
 | zero => exact sln_yy55_l24
 | succ k ih =>
  intro vs es K r h
  unfold sl_yy55_l24 at h
  split at h
  ·obtain ⟨q1, g1⟩ := dite_some h
   clear h; try subst q1
   have h := g1; clear g1
   repeat rw [castL_self] at h
   exact loop_good (text_mixed t_yy55) (by exact cf_cons (shok_76 hs) (cf_cons (shok_86 (ok_yy53 kf)) cf_nil)) (by exact lf_top (lf_cons (lok_yy55_l16 hs kf k) (lf_cons ih lf_nil))) (text_loop t_yy55 24).1 (text_loop t_yy55 24).2 ((eq_yy55_l24 ..).trans h)
  ·exact no_some h
theorem ok_yy55 : ∀ kf, Ok_yy55 (R := R) (yy55 kf) := by
 intro kf
 induction kf with
 | zero => exact okn_yy55
 | succ kf hs => exact fun _ _ _ _ _ _ _ _ _ _ h => run_good t_yy55 (by exact cf_cons (shok_76 hs) (cf_cons (shok_86 (ok_yy53 kf)) cf_nil)) (by exact lf_top (lf_cons (lok_yy55_l16 hs kf kf) (lf_cons (lok_yy55_l24 hs kf kf) lf_nil))) ((eq_yy55 ..).trans h)
theorem t_yy52 : textOk C_yy52.bef Tryz.prog 59 = true := by kernel_rfl
theorem ok_yy52 (kf : Nat) : Ok_yy52 (R := R) (yy52 kf) := 
 fun _ _ _ _ _ h => run_good t_yy52 (by exact cf_cons (shok_76 (ok_yy55 kf)) cf_nil) (by exact lf_none) ((eq_yy52 ..).trans h)
theorem t_yy27 : textOk C_yy27.bef Tryz.prog 77 = true := by kernel_rfl
theorem sln_yy27_l2 : SlOk (R := R) C_yy27 77 27 0 2 (sl_yy27_l2 (fun _ _ _ _ _ _ => none)) := by
 intro vs es K r h
 unfold sl_yy27_l2 at h
 split at h <;> exact no_some h
theorem lok_yy27_l2 (kf : Nat) : ∀ n, SlOk (R := R) C_yy27 77 27 0 2 (sl_yy27_l2 (yy27_l2 kf n)) := by
 intro n
 induction n with
 | zero => exact sln_yy27_l2
 | succ k ih =>
  intro vs es K r h
  unfold sl_yy27_l2 at h
  split at h
  ·exact loop_good (text_mixed t_yy27) (by exact cf_cons (shok_82 ok_yy19) cf_nil) (by exact lf_top (lf_cons ih lf_nil)) (text_loop t_yy27 2).1 (text_loop t_yy27 2).2 ((eq_yy27_l2 ..).trans h)
  ·exact no_some h
theorem ok_yy27 (kf : Nat) : Ok_yy27 (R := R) (yy27 kf) := 
 fun _ _ _ _ _ h => run_good t_yy27 (by exact cf_cons (shok_82 ok_yy19) cf_nil) (by exact lf_top (lf_cons (lok_yy27_l2 kf kf) lf_nil)) ((eq_yy27 ..).trans h)
theorem t_yy18 : textOk C_yy18.bef Tryz.prog 60 = true := by kernel_rfl
theorem sln_yy18_l4 : SlOk (R := R) C_yy18 60 45 0 4 (sl_yy18_l4 (fun _ _ _ _ _ _ => none)) := by
 intro vs es K r h
 unfold sl_yy18_l4 at h
 split at h <;> exact no_some h
theorem sln_yy18_l7 : SlOk (R := R) C_yy18 60 45 0 7 (sl_yy18_l7 (fun _ _ _ _ _ _ _ => none)) := by
 intro vs es K r h
 unfold sl_yy18_l7 at h
 split at h <;> exact no_some h
theorem lok_yy18_l7 (kf : Nat) : ∀ n, SlOk (R := R) C_yy18 60 45 0 7 (sl_yy18_l7 (yy18_l7 kf n)) := by
 intro n
 induction n with
 | zero => exact sln_yy18_l7
 | succ k ih =>
  intro vs es K r h
  unfold sl_yy18_l7 at h
  split at h
  ·exact loop_good (text_mixed t_yy18) (by exact cf_cons (shok_77 (ok_yy27 kf)) cf_nil) (by exact lf_top (lf_cons (sln_yy18_l4) (lf_cons ih lf_nil))) (text_loop t_yy18 7).1 (text_loop t_yy18 7).2 ((eq_yy18_l7 ..).trans h)
  ·exact no_some h
theorem lok_yy18_l4 (kf : Nat) : ∀ n, SlOk (R := R) C_yy18 60 45 0 4 (sl_yy18_l4 (yy18_l4 kf n)) := by
 intro n
 induction n with
 | zero => exact sln_yy18_l4
 | succ k ih =>
  intro vs es K r h
  unfold sl_yy18_l4 at h
  split at h
  ·exact loop_good (text_mixed t_yy18) (by exact cf_cons (shok_77 (ok_yy27 kf)) cf_nil) (by exact lf_top (lf_cons ih (lf_cons (lok_yy18_l7 kf k) lf_nil))) (text_loop t_yy18 4).1 (text_loop t_yy18 4).2 ((eq_yy18_l4 ..).trans h)
  ·exact no_some h
theorem ok_yy18 (kf : Nat) : Ok_yy18 (R := R) (yy18 kf) := 
 fun _ _ _ h => run_good t_yy18 (by exact cf_cons (shok_77 (ok_yy27 kf)) cf_nil) (by exact lf_top (lf_cons (lok_yy18_l4 kf kf) (lf_cons (lok_yy18_l7 kf kf) lf_nil))) ((eq_yy18 ..).trans h)
theorem t_yy50 : textOk C_yy50.bef Tryz.prog 61 = true := by kernel_rfl
theorem sln_yy50_l3 : SlOk (R := R) C_yy50 61 21 0 3 (sl_yy50_l3 (fun _ _ _ _ => none)) := by
 intro vs es K r h
 unfold sl_yy50_l3 at h
 split at h <;> exact no_some h
theorem lok_yy50_l3 (kf : Nat) : ∀ n, SlOk (R := R) C_yy50 61 21 0 3 (sl_yy50_l3 (yy50_l3 kf n)) := by
 intro n
 induction n with
 | zero => exact sln_yy50_l3
 | succ k ih =>
  intro vs es K r h
  unfold sl_yy50_l3 at h
  split at h
  ·exact loop_good (text_mixed t_yy50) (by exact cf_nil) (by exact lf_top (lf_cons ih lf_nil)) (text_loop t_yy50 3).1 (text_loop t_yy50 3).2 ((eq_yy50_l3 ..).trans h)
  ·exact no_some h
theorem ok_yy50 (kf : Nat) : Ok_yy50 (R := R) (yy50 kf) := 
 fun _ _ _ _ h => run_good t_yy50 (by exact cf_nil) (by exact lf_top (lf_cons (lok_yy50_l3 kf kf) lf_nil)) ((eq_yy50 ..).trans h)
theorem t_yy59 : textOk C_yy59.bef Tryz.prog 62 = true := by kernel_rfl
theorem sln_yy59_l2 : SlOk (R := R) C_yy59 62 18 0 2 (sl_yy59_l2 (fun _ _ _ _ _ => none)) := by
 intro vs es K r h
 unfold sl_yy59_l2 at h
 split at h <;> exact no_some h
theorem lok_yy59_l2 (kf : Nat) : ∀ n, SlOk (R := R) C_yy59 62 18 0 2 (sl_yy59_l2 (yy59_l2 kf n)) := by
 intro n
 induction n with
 | zero => exact sln_yy59_l2
 | succ k ih =>
  intro vs es K r h
  unfold sl_yy59_l2 at h
  split at h
  ·exact loop_good (text_mixed t_yy59) (by exact cf_nil) (by exact lf_top (lf_cons ih lf_nil)) (text_loop t_yy59 2).1 (text_loop t_yy59 2).2 ((eq_yy59_l2 ..).trans h)
  ·exact no_some h
theorem ok_yy59 (kf : Nat) : Ok_yy59 (R := R) (yy59 kf) := 
 fun _ _ _ _ h => run_good t_yy59 (by exact cf_nil) (by exact lf_top (lf_cons (lok_yy59_l2 kf kf) lf_nil)) ((eq_yy59 ..).trans h)
theorem t_yy54 : textOk C_yy54.bef Tryz.prog 78 = true := by kernel_rfl
theorem sln_yy54_l2 : SlOk (R := R) C_yy54 78 40 1 2 (sl_yy54_l2 (fun _ _ _ _ _ _ => none)) := by
 intro vs es K r h
 unfold sl_yy54_l2 at h
 split at h <;> exact no_some h
theorem lok_yy54_l2 (kf : Nat) : ∀ n, SlOk (R := R) C_yy54 78 40 1 2 (sl_yy54_l2 (yy54_l2 kf n)) := by
 intro n
 induction n with
 | zero => exact sln_yy54_l2
 | succ k ih =>
  intro vs es K r h
  unfold sl_yy54_l2 at h
  split at h
  ·exact loop_good (text_mixed t_yy54) (by exact cf_cons (shok_82 ok_yy19) cf_nil) (by exact lf_top (lf_cons ih lf_nil)) (text_loop t_yy54 2).1 (text_loop t_yy54 2).2 ((eq_yy54_l2 ..).trans h)
  ·exact no_some h
theorem ok_yy54 (kf : Nat) : Ok_yy54 (R := R) (yy54 kf) := 
 fun _ _ _ _ _ _ _ _ _ _ h => run_good t_yy54 (by exact cf_cons (shok_82 ok_yy19) cf_nil) (by exact lf_top (lf_cons (lok_yy54_l2 kf kf) lf_nil)) ((eq_yy54 ..).trans h)
theorem t_yy60 : textOk C_yy60.bef Tryz.prog 79 = true := by kernel_rfl
theorem sln_yy60_l3 : SlOk (R := R) C_yy60 79 20 0 3 (sl_yy60_l3 (fun _ _ _ _ => none)) := by
 intro vs es K r h
 unfold sl_yy60_l3 at h
 split at h <;> exact no_some h
theorem lok_yy60_l3 (kf : Nat) : ∀ n, SlOk (R := R) C_yy60 79 20 0 3 (sl_yy60_l3 (yy60_l3 kf n)) := by
 intro n
 induction n with
 | zero => exact sln_yy60_l3
 | succ k ih =>
  intro vs es K r h
  unfold sl_yy60_l3 at h
  split at h
  ·exact loop_good (text_mixed t_yy60) (by exact cf_nil) (by exact lf_top (lf_cons ih lf_nil)) (text_loop t_yy60 3).1 (text_loop t_yy60 3).2 ((eq_yy60_l3 ..).trans h)
  ·exact no_some h
theorem ok_yy60 (kf : Nat) : Ok_yy60 (R := R) (yy60 kf) := 
 fun _ _ _ h => run_good t_yy60 (by exact cf_nil) (by exact lf_top (lf_cons (lok_yy60_l3 kf kf) lf_nil)) ((eq_yy60 ..).trans h)
theorem t_yy56 : textOk C_yy56.bef Tryz.prog 63 = true := by kernel_rfl
theorem sln_yy56_l5 : SlOk (R := R) C_yy56 63 46 0 5 (sl_yy56_l5 (fun _ _ _ _ _ _ _ _ _ _ _ => none)) := by
 intro vs es K r h
 unfold sl_yy56_l5 at h
 split at h <;> exact no_some h
theorem lok_yy56_l5 (kf : Nat) : ∀ n, SlOk (R := R) C_yy56 63 46 0 5 (sl_yy56_l5 (yy56_l5 kf n)) := by
 intro n
 induction n with
 | zero => exact sln_yy56_l5
 | succ k ih =>
  intro vs es K r h
  unfold sl_yy56_l5 at h
  split at h
  ·exact loop_good (text_mixed t_yy56) (by exact cf_cons (shok_78 (ok_yy54 kf)) (cf_cons (shok_79 (ok_yy60 kf)) cf_nil)) (by exact lf_top (lf_cons ih lf_nil)) (text_loop t_yy56 5).1 (text_loop t_yy56 5).2 ((eq_yy56_l5 ..).trans h)
  ·exact no_some h
theorem ok_yy56 (kf : Nat) : Ok_yy56 (R := R) (yy56 kf) := 
 fun _ _ _ _ _ _ _ _ _ _ h => run_good t_yy56 (by exact cf_cons (shok_78 (ok_yy54 kf)) (cf_cons (shok_79 (ok_yy60 kf)) cf_nil)) (by exact lf_top (lf_cons (lok_yy56_l5 kf kf) lf_nil)) ((eq_yy56 ..).trans h)
theorem t_yy61 : textOk C_yy61.bef Tryz.prog 80 = true := by kernel_rfl
theorem sln_yy61_l4 : SlOk (R := R) C_yy61 80 26 0 4 (sl_yy61_l4 (fun _ _ _ _ _ => none)) := by
 intro vs es K r h
 unfold sl_yy61_l4 at h
 split at h <;> exact no_some h
theorem lok_yy61_l4 (kf : Nat) : ∀ n, SlOk (R := R) C_yy61 80 26 0 4 (sl_yy61_l4 (yy61_l4 kf n)) := by
 intro n
 induction n with
 | zero => exact sln_yy61_l4
 | succ k ih =>
  intro vs es K r h
  unfold sl_yy61_l4 at h
  split at h
  ·exact loop_good (text_mixed t_yy61) (by exact cf_nil) (by exact lf_top (lf_cons ih lf_nil)) (text_loop t_yy61 4).1 (text_loop t_yy61 4).2 ((eq_yy61_l4 ..).trans h)
  ·exact no_some h
theorem ok_yy61 (kf : Nat) : Ok_yy61 (R := R) (yy61 kf) := 
 fun _ _ _ _ h => run_good t_yy61 (by exact cf_nil) (by exact lf_top (lf_cons (lok_yy61_l4 kf kf) lf_nil)) ((eq_yy61 ..).trans h)
theorem t_yy58 : textOk C_yy58.bef Tryz.prog 64 = true := by kernel_rfl
theorem sln_yy58_l2 : SlOk (R := R) C_yy58 64 19 0 2 (sl_yy58_l2 (fun _ _ _ _ _ => none)) := by
 intro vs es K r h
 unfold sl_yy58_l2 at h
 split at h <;> exact no_some h
theorem lok_yy58_l2 (kf : Nat) : ∀ n, SlOk (R := R) C_yy58 64 19 0 2 (sl_yy58_l2 (yy58_l2 kf n)) := by
 intro n
 induction n with
 | zero => exact sln_yy58_l2
 | succ k ih =>
  intro vs es K r h
  unfold sl_yy58_l2 at h
  split at h
  ·exact loop_good (text_mixed t_yy58) (by exact cf_cons (shok_80 (ok_yy61 kf)) cf_nil) (by exact lf_top (lf_cons ih lf_nil)) (text_loop t_yy58 2).1 (text_loop t_yy58 2).2 ((eq_yy58_l2 ..).trans h)
  ·exact no_some h
theorem ok_yy58 (kf : Nat) : Ok_yy58 (R := R) (yy58 kf) := 
 fun _ _ _ _ h => run_good t_yy58 (by exact cf_cons (shok_80 (ok_yy61 kf)) cf_nil) (by exact lf_top (lf_cons (lok_yy58_l2 kf kf) lf_nil)) ((eq_yy58 ..).trans h)
theorem t_yy57 : textOk C_yy57.bef Tryz.prog 48 = true := by kernel_rfl
theorem sln_yy57_l7 : SlOk (R := R) C_yy57 48 130 0 7 (sl_yy57_l7 (fun _ _ _ _ _ _ _ _ _ _ _ _ _ _ _ _ _ => none)) := by
 intro vs es K r h
 unfold sl_yy57_l7 at h
 split at h <;> exact no_some h
theorem sln_yy57_l12 : SlOk (R := R) C_yy57 48 130 0 12 (sl_yy57_l12 (fun _ _ _ _ _ _ _ _ _ _ _ _ _ _ _ _ _ _ _ _ => none)) := by
 intro vs es K r h
 unfold sl_yy57_l12 at h
 split at h <;> exact no_some h
theorem sln_yy57_l16 : SlOk (R := R) C_yy57 48 130 0 16 (sl_yy57_l16 (fun _ _ _ _ _ _ _ _ _ _ _ _ _ _ _ _ _ _ _ _ => none)) := by
 intro vs es K r h
 unfold sl_yy57_l16 at h
 split at h <;> exact no_some h
theorem lok_yy57_l12 (kf : Nat) : ∀ n, SlOk (R := R) C_yy57 48 130 0 12 (sl_yy57_l12 (yy57_l12 kf n)) := by
 intro n
 induction n with
 | zero => exact sln_yy57_l12
 | succ k ih =>
  intro vs es K r h
  unfold sl_yy57_l12 at h
  split at h
  ·exact loop_good (text_mixed t_yy57) (by exact cf_cons (shok_59 (ok_yy52 kf)) (cf_cons (shok_60 (ok_yy18 kf)) (cf_cons (shok_61 (ok_yy50 kf)) (cf_cons (shok_62 (ok_yy59 kf)) (cf_cons (shok_63 (ok_yy56 kf)) (cf_cons (shok_64 (ok_yy58 kf)) cf_nil)))))) (by exact lf_top (lf_cons (sln_yy57_l7) (lf_cons ih (lf_cons (sln_yy57_l16) lf_nil)))) (text_loop t_yy57 12).1 (text_loop t_yy57 12).2 ((eq_yy57_l12 ..).trans h)
  ·exact no_some h
theorem lok_yy57_l16 (kf : Nat) : ∀ n, SlOk (R := R) C_yy57 48 130 0 16 (sl_yy57_l16 (yy57_l16 kf n)) := by
 intro n
 induction n with
 | zero => exact sln_yy57_l16
 | succ k ih =>
  intro vs es K r h
  unfold sl_yy57_l16 at h
  split at h
  ·exact loop_good (text_mixed t_yy57) (by exact cf_cons (shok_59 (ok_yy52 kf)) (cf_cons (shok_60 (ok_yy18 kf)) (cf_cons (shok_61 (ok_yy50 kf)) (cf_cons (shok_62 (ok_yy59 kf)) (cf_cons (shok_63 (ok_yy56 kf)) (cf_cons (shok_64 (ok_yy58 kf)) cf_nil)))))) (by exact lf_top (lf_cons (sln_yy57_l7) (lf_cons (lok_yy57_l12 kf k) (lf_cons ih lf_nil)))) (text_loop t_yy57 16).1 (text_loop t_yy57 16).2 ((eq_yy57_l16 ..).trans h)
  ·exact no_some h
theorem lok_yy57_l7 (kf : Nat) : ∀ n, SlOk (R := R) C_yy57 48 130 0 7 (sl_yy57_l7 (yy57_l7 kf n)) := by
 intro n
 induction n with
 | zero => exact sln_yy57_l7
 | succ k ih =>
  intro vs es K r h
  unfold sl_yy57_l7 at h
  split at h
  ·exact loop_good (text_mixed t_yy57) (by exact cf_cons (shok_59 (ok_yy52 kf)) (cf_cons (shok_60 (ok_yy18 kf)) (cf_cons (shok_61 (ok_yy50 kf)) (cf_cons (shok_62 (ok_yy59 kf)) (cf_cons (shok_63 (ok_yy56 kf)) (cf_cons (shok_64 (ok_yy58 kf)) cf_nil)))))) (by exact lf_top (lf_cons ih (lf_cons (lok_yy57_l12 kf k) (lf_cons (lok_yy57_l16 kf k) lf_nil)))) (text_loop t_yy57 7).1 (text_loop t_yy57 7).2 ((eq_yy57_l7 ..).trans h)
  ·exact no_some h
theorem ok_yy57 (kf : Nat) : Ok_yy57 (R := R) (yy57 kf) := 
 fun _ _ _ _ _ _ h => run_good t_yy57 (by exact cf_cons (shok_59 (ok_yy52 kf)) (cf_cons (shok_60 (ok_yy18 kf)) (cf_cons (shok_61 (ok_yy50 kf)) (cf_cons (shok_62 (ok_yy59 kf)) (cf_cons (shok_63 (ok_yy56 kf)) (cf_cons (shok_64 (ok_yy58 kf)) cf_nil)))))) (by exact lf_top (lf_cons (lok_yy57_l7 kf kf) (lf_cons (lok_yy57_l12 kf kf) (lf_cons (lok_yy57_l16 kf kf) lf_nil)))) ((eq_yy57 ..).trans h)
theorem t_yy38 : textOk C_yy38.bef Tryz.prog 65 = true := by kernel_rfl
theorem sln_yy38_l3 : SlOk (R := R) C_yy38 65 21 0 3 (sl_yy38_l3 (fun _ _ _ _ => none)) := by
 intro vs es K r h
 unfold sl_yy38_l3 at h
 split at h
 ·obtain ⟨_, h⟩ := dite_some h; exact no_some h
 ·exact no_some h
theorem lok_yy38_l3 {c_self : T3 R} (hs : Ok_yy38 c_self) (kf : Nat) : ∀ n, SlOk (R := R) C_yy38 65 21 0 3 (sl_yy38_l3 (yy38_l3 c_self kf n)) := by
 intro n
 induction n with
 | zero => exact sln_yy38_l3
 | succ k ih =>
  intro vs es K r h
  unfold sl_yy38_l3 at h
  split at h
  ·obtain ⟨q1, g1⟩ := dite_some h
   clear h; try subst q1
   have h := g1; clear g1
   repeat rw [castL_self] at h
   exact loop_good (text_mixed t_yy38) (by exact cf_cons (shok_65 hs) cf_nil) (by exact lf_top (lf_cons ih lf_nil)) (text_loop t_yy38 3).1 (text_loop t_yy38 3).2 ((eq_yy38_l3 ..).trans h)
  ·exact no_some h
theorem ok_yy38 : ∀ kf, Ok_yy38 (R := R) (yy38 kf) := by
 intro kf
 induction kf with
 | zero => exact okn_yy38
 | succ kf hs => exact fun _ _ _ _ _ h => run_good t_yy38 (by exact cf_cons (shok_65 hs) cf_nil) (by exact lf_top (lf_cons (lok_yy38_l3 hs kf kf) lf_nil)) ((eq_yy38 ..).trans h)
theorem t_yy34 : textOk C_yy34.bef Tryz.prog 66 = true := by kernel_rfl
theorem sln_yy34_l3 : SlOk (R := R) C_yy34 66 22 0 3 (sl_yy34_l3 (fun _ _ _ _ => none)) := by
 intro vs es K r h
 unfold sl_yy34_l3 at h
 split at h
 ·obtain ⟨_, h⟩ := dite_some h; exact no_some h
 ·exact no_some h
theorem lok_yy34_l3 {c_self : T3 R} (hs : Ok_yy34 c_self) (kf : Nat) : ∀ n, SlOk (R := R) C_yy34 66 22 0 3 (sl_yy34_l3 (yy34_l3 c_self kf n)) := by
 intro n
 induction n with
 | zero => exact sln_yy34_l3
 | succ k ih =>
  intro vs es K r h
  unfold sl_yy34_l3 at h
  split at h
  ·obtain ⟨q1, g1⟩ := dite_some h
   clear h; try subst q1
   have h := g1; clear g1
   repeat rw [castL_self] at h
   exact loop_good (text_mixed t_yy34) (by exact cf_cons (shok_66 hs) cf_nil) (by exact lf_top (lf_cons ih lf_nil)) (text_loop t_yy34 3).1 (text_loop t_yy34 3).2 ((eq_yy34_l3 ..).trans h)
  ·exact no_some h
theorem ok_yy34 : ∀ kf, Ok_yy34 (R := R) (yy34 kf) := by
 intro kf
 induction kf with
 | zero => exact okn_yy34
 | succ kf hs => exact fun _ _ _ _ _ h => run_good t_yy34 (by exact cf_cons (shok_66 hs) cf_nil) (by exact lf_top (lf_cons (lok_yy34_l3 hs kf kf) lf_nil)) ((eq_yy34 ..).trans h)
theorem t_yy37 : textOk C_yy37.bef Tryz.prog 49 = true := by kernel_rfl
theorem ok_yy37 (kf : Nat) : Ok_yy37 (R := R) (yy37 kf) := 
 fun _ _ _ _ _ h => run_good t_yy37 (by exact cf_cons (shok_65 (ok_yy38 kf)) (cf_cons (shok_66 (ok_yy34 kf)) (cf_cons (shok_46 (ok_yy40 kf)) cf_nil))) (by exact lf_none) ((eq_yy37 ..).trans h)
theorem t_yy51 : textOk C_yy51.bef Tryz.prog 41 = true := by kernel_rfl
theorem ok_yy51 (kf : Nat) : Ok_yy51 (R := R) (yy51 kf) := 
 fun _ _ _ _ _ _ h => run_good t_yy51 (by exact cf_cons (shok_48 (ok_yy57 kf)) (cf_cons (shok_49 (ok_yy37 kf)) cf_nil)) (by exact lf_none) ((eq_yy51 ..).trans h)
theorem t_yy12 : textOk C_yy12.bef Tryz.prog 33 = true := by kernel_rfl
theorem ok_yy12 (kf : Nat) : Ok_yy12 (R := R) (yy12 kf) := 
 fun _ _ _ _ h => run_good t_yy12 (by exact cf_cons (shok_39 (ok_yy10 kf)) (cf_cons (shok_40 (ok_yy45 kf)) (cf_cons (shok_41 (ok_yy51 kf)) cf_nil))) (by exact lf_none) ((eq_yy12 ..).trans h)
theorem t_yy13 : textOk C_yy13.bef Tryz.prog 34 = true := by kernel_rfl
theorem sln_yy13_l3 : SlOk (R := R) C_yy13 34 32 1 3 (sl_yy13_l3 (fun _ _ _ _ _ => none)) := by
 intro vs es K r h
 unfold sl_yy13_l3 at h
 split at h <;> exact no_some h
theorem lok_yy13_l3 (kf : Nat) : ∀ n, SlOk (R := R) C_yy13 34 32 1 3 (sl_yy13_l3 (yy13_l3 kf n)) := by
 intro n
 induction n with
 | zero => exact sln_yy13_l3
 | succ k ih =>
  intro vs es K r h
  unfold sl_yy13_l3 at h
  split at h
  ·exact loop_good (text_mixed t_yy13) (by exact cf_cons (shok_31 ok_yy15) cf_nil) (by exact lf_top (lf_cons ih lf_nil)) (text_loop t_yy13 3).1 (text_loop t_yy13 3).2 ((eq_yy13_l3 ..).trans h)
  ·exact no_some h
theorem ok_yy13 (kf : Nat) : Ok_yy13 (R := R) (yy13 kf) := 
 fun _ _ _ _ _ h => run_good t_yy13 (by exact cf_cons (shok_31 ok_yy15) cf_nil) (by exact lf_top (lf_cons (lok_yy13_l3 kf kf) lf_nil)) ((eq_yy13 ..).trans h)
theorem t_yy14 : textOk C_yy14.bef Tryz.prog 22 = true := by kernel_rfl
theorem sln_yy14_l24 : SlOk (R := R) C_yy14 22 90 1 24 (sl_yy14_l24 (fun _ _ _ _ _ _ _ _ _ _ _ _ _ _ _ _ _ _ _ _ => none)) := by
 intro vs es K r h
 unfold sl_yy14_l24 at h
 split at h
 ·obtain ⟨_, h⟩ := dite_some h; obtain ⟨_, h⟩ := dite_some h; obtain ⟨_, h⟩ := dite_some h; obtain ⟨_, h⟩ := dite_some h; exact no_some h
 ·exact no_some h
theorem lok_yy14_l24 {c_self : T25 R} (hs : Ok_yy14 c_self) (kf : Nat) : ∀ n, SlOk (R := R) C_yy14 22 90 1 24 (sl_yy14_l24 (yy14_l24 c_self kf n)) := by
 intro n
 induction n with
 | zero => exact sln_yy14_l24
 | succ k ih =>
  intro vs es K r h
  unfold sl_yy14_l24 at h
  split at h
  ·obtain ⟨q1, g1⟩ := dite_some h
   clear h; try subst q1
   obtain ⟨q2, g2⟩ := dite_some g1
   clear g1; try subst q2
   obtain ⟨q3, g3⟩ := dite_some g2
   clear g2; try subst q3
   obtain ⟨q4, h⟩ := dite_some g3
   clear g3; try subst q4
   repeat rw [castL_self] at h
   exact loop_good (text_mixed t_yy14) (by exact cf_cons (shok_31 ok_yy15) (cf_cons (shok_32 ok_yy9) (cf_cons (shok_33 (ok_yy12 kf)) (cf_cons (shok_34 (ok_yy13 kf)) (cf_cons (shok_22 hs) cf_nil))))) (by exact lf_top (lf_cons ih lf_nil)) (text_loop t_yy14 24).1 (text_loop t_yy14 24).2 ((eq_yy14_l24 ..).trans h)
  ·exact no_some h
theorem ok_yy14 : ∀ kf, Ok_yy14 (R := R) (yy14 kf) := by
 intro kf
 induction kf with
 | zero => exact okn_yy14
 | succ kf hs => exact fun _ _ _ _ _ h => run_good t_yy14 (by exact cf_cons (shok_31 ok_yy15) (cf_cons (shok_32 ok_yy9) (cf_cons (shok_33 (ok_yy12 kf)) (cf_cons (shok_34 (ok_yy13 kf)) (cf_cons (shok_22 hs) cf_nil))))) (by exact lf_top (lf_cons (lok_yy14_l24 hs kf kf) lf_nil)) ((eq_yy14 ..).trans h)
theorem t_yy8 : textOk C_yy8.bef Tryz.prog 13 = true := by kernel_rfl
theorem ok_yy8 (kf : Nat) : Ok_yy8 (R := R) (yy8 kf) := 
 fun _ _ _ _ h => run_good t_yy8 (by exact cf_cons (shok_22 (ok_yy14 kf)) cf_nil) (by exact lf_none) ((eq_yy8 ..).trans h)
theorem t_yy6 : textOk C_yy6.bef Tryz.prog 5 = true := by kernel_rfl
theorem sln_yy6_l3 : SlOk (R := R) C_yy6 5 24 0 3 (sl_yy6_l3 (fun _ _ _ _ _ => none)) := by
 intro vs es K r h
 unfold sl_yy6_l3 at h
 split at h
 ·obtain ⟨_, h⟩ := dite_some h; obtain ⟨_, h⟩ := dite_some h; exact no_some h
 ·exact no_some h
theorem lok_yy6_l3 (kf : Nat) : ∀ n, SlOk (R := R) C_yy6 5 24 0 3 (sl_yy6_l3 (yy6_l3 kf n)) := by
 intro n
 induction n with
 | zero => exact sln_yy6_l3
 | succ k ih =>
  intro vs es K r h
  unfold sl_yy6_l3 at h
  split at h
  ·obtain ⟨q1, g1⟩ := dite_some h
   clear h; try subst q1
   obtain ⟨q2, h⟩ := dite_some g1
   clear g1; try subst q2
   repeat rw [castL_self] at h
   exact loop_good (text_mixed t_yy6) (by exact cf_cons (shok_11 ok_yy7) (cf_cons (shok_12 ok_yy16) (cf_cons (shok_13 (ok_yy8 kf)) cf_nil))) (by exact lf_top (lf_cons ih lf_nil)) (text_loop t_yy6 3).1 (text_loop t_yy6 3).2 ((eq_yy6_l3 ..).trans h)
  ·exact no_some h
theorem ok_yy6 (kf : Nat) : Ok_yy6 (R := R) (yy6 kf) := 
 fun _ _ _ _ h => run_good t_yy6 (by exact cf_cons (shok_11 ok_yy7) (cf_cons (shok_12 ok_yy16) (cf_cons (shok_13 (ok_yy8 kf)) cf_nil))) (by exact lf_top (lf_cons (lok_yy6_l3 kf kf) lf_nil)) ((eq_yy6 ..).trans h)
theorem t_yy28 : textOk C_yy28.bef Tryz.prog 8 = true := by kernel_rfl
theorem sln_yy28_l4 : SlOk (R := R) C_yy28 8 83 0 4 (sl_yy28_l4 (fun _ _ _ _ _ => none)) := by
 intro vs es K r h
 unfold sl_yy28_l4 at h
 split at h
 ·obtain ⟨_, h⟩ := dite_some h; obtain ⟨_, h⟩ := dite_some h; exact no_some h
 ·exact no_some h
theorem lok_yy28_l4 {c_self : T13 R} (hs : Ok_yy28 c_self) (kf : Nat) : ∀ n, SlOk (R := R) C_yy28 8 83 0 4 (sl_yy28_l4 (yy28_l4 c_self kf n)) := by
 intro n
 induction n with
 | zero => exact sln_yy28_l4
 | succ k ih =>
  intro vs es K r h
  unfold sl_yy28_l4 at h
  split at h
  ·obtain ⟨q1, g1⟩ := dite_some h
   clear h; try subst q1
   obtain ⟨q2, h⟩ := dite_some g1
   clear g1; try subst q2
   repeat rw [castL_self] at h
   exact loop_good (text_mixed t_yy28) (by exact cf_cons (shok_8 hs) cf_nil) (by exact lf_top (lf_cons ih lf_nil)) (text_loop t_yy28 4).1 (text_loop t_yy28 4).2 ((eq_yy28_l4 ..).trans h)
  ·exact no_some h
theorem ok_yy28 : ∀ kf, Ok_yy28 (R := R) (yy28 kf) := by
 intro kf
 induction kf with
 | zero => exact okn_yy28
 | succ kf hs => exact fun _ _ _ _ _ _ _ _ _ _ _ _ _ _ _ _ _ _ h => run_good t_yy28 (by exact cf_cons (shok_8 hs) cf_nil) (by exact lf_top (lf_cons (lok_yy28_l4 hs kf kf) lf_nil)) ((eq_yy28 ..).trans h)
theorem t_yy0 : textOk C_yy0.bef Tryz.prog 3 = true := by kernel_rfl
theorem sln_yy0_l8 : SlOk (R := R) C_yy0 3 66 0 8 (sl_yy0_l8 (fun _ _ _ _ _ => none)) := by
 intro vs es K r h
 unfold sl_yy0_l8 at h
 split at h
 ·obtain ⟨_, h⟩ := dite_some h; obtain ⟨_, h⟩ := dite_some h; exact no_some h
 ·exact no_some h
theorem sln_yy0_l15 : SlOk (R := R) C_yy0 3 66 0 15 (sl_yy0_l15 (fun _ _ _ _ _ => none)) := by
 intro vs es K r h
 unfold sl_yy0_l15 at h
 split at h
 ·obtain ⟨_, h⟩ := dite_some h; obtain ⟨_, h⟩ := dite_some h; exact no_some h
 ·exact no_some h
theorem lok_yy0_l8 (kf : Nat) : ∀ n, SlOk (R := R) C_yy0 3 66 0 8 (sl_yy0_l8 (yy0_l8 kf n)) := by
 intro n
 induction n with
 | zero => exact sln_yy0_l8
 | succ k ih =>
  intro vs es K r h
  unfold sl_yy0_l8 at h
  split at h
  ·obtain ⟨q1, g1⟩ := dite_some h
   clear h; try subst q1
   obtain ⟨q2, h⟩ := dite_some g1
   clear g1; try subst q2
   repeat rw [castL_self] at h
   exact loop_good (text_mixed t_yy0) (by exact cf_cons (shok_4 (ok_yy1 kf)) (cf_cons (shok_5 (ok_yy6 kf)) (cf_cons (shok_6 (ok_yy62 kf)) (cf_cons (shok_7 (ok_yy64 kf)) (cf_cons (shok_8 (ok_yy28 kf)) cf_nil))))) (by exact lf_top (lf_cons ih (lf_cons (sln_yy0_l15) lf_nil))) (text_loop t_yy0 8).1 (text_loop t_yy0 8).2 ((eq_yy0_l8 ..).trans h)
  ·exact no_some h
theorem lok_yy0_l15 (kf : Nat) : ∀ n, SlOk (R := R) C_yy0 3 66 0 15 (sl_yy0_l15 (yy0_l15 kf n)) := by
 intro n
 induction n with
 | zero => exact sln_yy0_l15
 | succ k ih =>
  intro vs es K r h
  unfold sl_yy0_l15 at h
  split at h
  ·obtain ⟨q1, g1⟩ := dite_some h
   clear h; try subst q1
   obtain ⟨q2, h⟩ := dite_some g1
   clear g1; try subst q2
   repeat rw [castL_self] at h
   exact loop_good (text_mixed t_yy0) (by exact cf_cons (shok_4 (ok_yy1 kf)) (cf_cons (shok_5 (ok_yy6 kf)) (cf_cons (shok_6 (ok_yy62 kf)) (cf_cons (shok_7 (ok_yy64 kf)) (cf_cons (shok_8 (ok_yy28 kf)) cf_nil))))) (by exact lf_top (lf_cons (lok_yy0_l8 kf k) (lf_cons ih lf_nil))) (text_loop t_yy0 15).1 (text_loop t_yy0 15).2 ((eq_yy0_l15 ..).trans h)
  ·exact no_some h
theorem ok_yy0 (kf : Nat) : Ok_yy0 (R := R) (yy0 kf) := 
 fun _ _ _ h => run_good t_yy0 (by exact cf_cons (shok_4 (ok_yy1 kf)) (cf_cons (shok_5 (ok_yy6 kf)) (cf_cons (shok_6 (ok_yy62 kf)) (cf_cons (shok_7 (ok_yy64 kf)) (cf_cons (shok_8 (ok_yy28 kf)) cf_nil))))) (by exact lf_top (lf_cons (lok_yy0_l8 kf kf) (lf_cons (lok_yy0_l15 kf kf) lf_nil))) ((eq_yy0 ..).trans h)
end
end Go.Ab.T
