/- WrdTC: a part of the proofs of this seat's statements. -/
import Derived.Test.YtlhinijgdffcdaaDoorWrdTB
import Derived.Test.YtlhinijgdffcdaaDoorKnot
import Derived.Test.YtlhinijgdffcdaaDoorWrdTP



namespace Go.Ab.T

open Go Go.Ab Go.Proofs

set_option maxRecDepth 100000

set_option linter.unusedVariables false

noncomputable section

def Ok_law29_WireReads {R : Type} (c : (List Int) → (Bool → Option R) → Option R) : Prop := ∀ (v1 : (List Int)) (K : S → List Ent → Option R) (r : R), c v1 (fun (r0 : Bool) => K (.bool r0) []) = some r → ∃ v es, FnOk Tryd.prog glob 4 (npF raw 4 []) [.sl (.int .u8) v1] [] v es ∧ K v es = some r

theorem okn_law29_WireReads {R : Type} : Ok_law29_WireReads (R := R) (fun _ _ => none) := fun _ _ _ h => no_some h

theorem shok_4 {R : Type} {c_law29_WireReads : (List Int) → (Bool → Option R) → Option R} (h_law29_WireReads : Ok_law29_WireReads c_law29_WireReads) : ShOk Tryd.prog glob raw 4 (sh4 c_law29_WireReads) := by
  intro av es K r h
  unfold sh4 at h
  split at h
  · exact h_law29_WireReads _ _ _ h
  · exact no_some h

def Ok_law29_begun {R : Type} (c : (Bool → Option R) → Option R) : Prop := ∀ (K : S → List Ent → Option R) (r : R), c (fun (r0 : Bool) => K (.bool r0) []) = some r → ∃ v es, FnOk Tryd.prog glob 8 (npF raw 8 []) [] [] v es ∧ K v es = some r

theorem okn_law29_begun {R : Type} : Ok_law29_begun (R := R) (fun _ => none) := fun _ _ h => no_some h

theorem shok_8 {R : Type} {c_law29_begun : (Bool → Option R) → Option R} (h_law29_begun : Ok_law29_begun c_law29_begun) : ShOk Tryd.prog glob raw 8 (sh8 c_law29_begun) := by
  intro av es K r h
  unfold sh8 at h
  split at h
  · exact h_law29_begun _ _ h
  · exact no_some h

def Ok_law0_Twin {R : Type} (c : (List Int) → (Int → (List Int) → Option R) → Option R) : Prop := ∀ (v1 : (List Int)) (K : S → List Ent → Option R) (r : R), c v1 (fun (r0 : Int) (r1 : (List Int)) => K (.twn (.int .u8) 0 r0) [.buf (.int .u8) r1 false]) = some r → ∃ v es, FnOk Tryd.prog glob 10 (npF raw 10 []) [.sl (.int .u8) v1] [] v es ∧ K v es = some r

theorem okn_law0_Twin {R : Type} : Ok_law0_Twin (R := R) (fun _ _ => none) := fun _ _ _ h => no_some h

theorem shok_10 {R : Type} {c_law0_Twin : (List Int) → (Int → (List Int) → Option R) → Option R} (h_law0_Twin : Ok_law0_Twin c_law0_Twin) : ShOk Tryd.prog glob raw 10 (sh10 c_law0_Twin) := by
  intro av es K r h
  unfold sh10 at h
  split at h
  · exact h_law0_Twin _ _ _ h
  · exact no_some h

def Ok_wire_PutCmd {R : Type} (c : (List Int) → Int → (List Int) → (List Int) → (List Int) → Int → (List Int) → Int → (List (Rose (Int × ((List Int) × ((List Int) × ((List Int) × (Int × ((List Int) × (Int × Unit))))))))) → (Int → (List Int) → Option R) → Option R) : Prop := ∀ (v1 : (List Int)) (v2 : Int) (v3 : (List Int)) (v4 : (List Int)) (v5 : (List Int)) (v6 : Int) (v7 : (List Int)) (v8 : Int) (v9 : (List (Rose (Int × ((List Int) × ((List Int) × ((List Int) × (Int × ((List Int) × (Int × Unit)))))))))) (K : S → List Ent → Option R) (r : R), c v1 v2 v3 v4 v5 v6 v7 v8 v9 (fun (r0 : Int) (r1 : (List Int)) => K (.tup [.own (.int .u8) 0, .int .i64 r0]) [.buf (.int .u8) r1 false]) = some r → ∃ v es, FnOk Tryd.prog glob 11 (npF raw 11 []) [.sl (.int .u8) v1, .st [.int .i64 v2, .str v3, .str v4, .str v5, .int .i64 v6, .sl (.nw .u8) v7, .int .i64 v8, .sl (.rose (.pair (.int .i64) (.pair .str (.pair .str (.pair .str (.pair (.int .i64) (.pair (.slice (.nw .u8)) (.pair (.int .i64) .unit)))))))) v9]] [] v es ∧ K v es = some r

theorem okn_wire_PutCmd {R : Type} : Ok_wire_PutCmd (R := R) (fun _ _ _ _ _ _ _ _ _ _ => none) := fun _ _ _ _ _ _ _ _ _ _ _ h => no_some h

theorem shok_11 {R : Type} {c_wire_PutCmd : (List Int) → Int → (List Int) → (List Int) → (List Int) → Int → (List Int) → Int → (List (Rose (Int × ((List Int) × ((List Int) × ((List Int) × (Int × ((List Int) × (Int × Unit))))))))) → (Int → (List Int) → Option R) → Option R} (h_wire_PutCmd : Ok_wire_PutCmd c_wire_PutCmd) : ShOk Tryd.prog glob raw 11 (sh11 c_wire_PutCmd) := by
  intro av es K r h
  unfold sh11 at h
  split at h
  · exact h_wire_PutCmd _ _ _ _ _ _ _ _ _ _ _ h
  · exact no_some h

def Ok_wire_PutReply {R : Type} (c : (List Int) → Int → Int → Int → Bool → (List Int) → (List Int) → (List (List Int)) → (Int → (List Int) → Option R) → Option R) : Prop := ∀ (v1 : (List Int)) (v2 : Int) (v3 : Int) (v4 : Int) (v5 : Bool) (v6 : (List Int)) (v7 : (List Int)) (v8 : (List (List Int))) (K : S → List Ent → Option R) (r : R), c v1 v2 v3 v4 v5 v6 v7 v8 (fun (r0 : Int) (r1 : (List Int)) => K (.tup [.own (.int .u8) 0, .int .i64 r0]) [.buf (.int .u8) r1 false]) = some r → ∃ v es, FnOk Tryd.prog glob 13 (npF raw 13 []) [.sl (.int .u8) v1, .st [.int .i64 v2, .int .i64 v3, .int .i64 v4, .st [.bool v5, .sl (.int .u8) v6], .str v7, .sl .str v8]] [] v es ∧ K v es = some r

theorem okn_wire_PutReply {R : Type} : Ok_wire_PutReply (R := R) (fun _ _ _ _ _ _ _ _ _ => none) := fun _ _ _ _ _ _ _ _ _ _ h => no_some h

theorem shok_13 {R : Type} {c_wire_PutReply : (List Int) → Int → Int → Int → Bool → (List Int) → (List Int) → (List (List Int)) → (Int → (List Int) → Option R) → Option R} (h_wire_PutReply : Ok_wire_PutReply c_wire_PutReply) : ShOk Tryd.prog glob raw 13 (sh13 c_wire_PutReply) := by
  intro av es K r h
  unfold sh13 at h
  split at h
  · exact h_wire_PutReply _ _ _ _ _ _ _ _ _ _ h
  · exact no_some h

def Ok_law0_Kept {R : Type} (c : Int → (List Int) → (List Int) → (Bool → (List Int) → Option R) → Option R) : Prop := ∀ (v1 : Int) (v2 : (List Int)) (v3 : (List Int)) (K : S → List Ent → Option R) (r : R), c v1 v2 v3 (fun (r0 : Bool) (r1 : (List Int)) => K (.bool r0) [.buf (.int .u8) r1 false]) = some r → ∃ v es, FnOk Tryd.prog glob 15 (npF raw 15 [.buf (.int .u8) v3 false]) [.twn (.int .u8) 0 v1, .sl (.int .u8) v2] [.buf (.int .u8) v3 false] v es ∧ K v es = some r

theorem okn_law0_Kept {R : Type} : Ok_law0_Kept (R := R) (fun _ _ _ _ => none) := fun _ _ _ _ _ h => no_some h

theorem shok_15 {R : Type} {c_law0_Kept : Int → (List Int) → (List Int) → (Bool → (List Int) → Option R) → Option R} (h_law0_Kept : Ok_law0_Kept c_law0_Kept) : ShOk Tryd.prog glob raw 15 (sh15 c_law0_Kept) := by
  intro av es K r h
  unfold sh15 at h
  split at h
  · exact h_law0_Kept _ _ _ _ _ h
  · exact no_some h

def Ok_wire_TakeCmd {R : Type} (c : (List Int) → (Int → (List Int) → (List Int) → (List Int) → Int → Int → Int → Int → (List Int) → (List (Rose (Int × ((List Int) × ((List Int) × ((List Int) × (Int × ((List Int) × (Int × Unit))))))))) → Option R) → Option R) : Prop := ∀ (v1 : (List Int)) (K : S → List Ent → Option R) (r : R), c v1 (fun (r0 : Int) (r1 : (List Int)) (r2 : (List Int)) (r3 : (List Int)) (r4 : Int) (r5 : Int) (r6 : Int) (r7 : Int) (r8 : (List Int)) (r9 : (List (Rose (Int × ((List Int) × ((List Int) × ((List Int) × (Int × ((List Int) × (Int × Unit)))))))))) => K (.tup [.st [.int .i64 r0, .str r1, .str r2, .str r3, .int .i64 r4, .own (.int .u8) 0, .int .i64 r5, .own (.rose (.pair (.int .i64) (.pair .str (.pair .str (.pair .str (.pair (.int .i64) (.pair (.slice (.nw .u8)) (.pair (.int .i64) .unit)))))))) 1], .int .i64 r6, .int .i64 r7]) [.buf (.int .u8) r8 false, .buf (.rose (.pair (.int .i64) (.pair .str (.pair .str (.pair .str (.pair (.int .i64) (.pair (.slice (.nw .u8)) (.pair (.int .i64) .unit)))))))) r9 false]) = some r → ∃ v es, FnOk Tryd.prog glob 17 (npF raw 17 []) [.sl (.int .u8) v1] [] v es ∧ K v es = some r

theorem okn_wire_TakeCmd {R : Type} : Ok_wire_TakeCmd (R := R) (fun _ _ => none) := fun _ _ _ h => no_some h

theorem shok_17 {R : Type} {c_wire_TakeCmd : (List Int) → (Int → (List Int) → (List Int) → (List Int) → Int → Int → Int → Int → (List Int) → (List (Rose (Int × ((List Int) × ((List Int) × ((List Int) × (Int × ((List Int) × (Int × Unit))))))))) → Option R) → Option R} (h_wire_TakeCmd : Ok_wire_TakeCmd c_wire_TakeCmd) : ShOk Tryd.prog glob raw 17 (sh17 c_wire_TakeCmd) := by
  intro av es K r h
  unfold sh17 at h
  split at h
  · exact h_wire_TakeCmd _ _ _ h
  · exact no_some h

def Ok_ref29_TakeCmd {R : Type} (c : (List Int) → (Int → (List Int) → (List Int) → (List Int) → Int → Int → Int → Int → (List Int) → (List (Rose (Int × ((List Int) × ((List Int) × ((List Int) × (Int × ((List Int) × (Int × Unit))))))))) → Option R) → Option R) : Prop := ∀ (v1 : (List Int)) (K : S → List Ent → Option R) (r : R), c v1 (fun (r0 : Int) (r1 : (List Int)) (r2 : (List Int)) (r3 : (List Int)) (r4 : Int) (r5 : Int) (r6 : Int) (r7 : Int) (r8 : (List Int)) (r9 : (List (Rose (Int × ((List Int) × ((List Int) × ((List Int) × (Int × ((List Int) × (Int × Unit)))))))))) => K (.tup [.st [.int .i64 r0, .str r1, .str r2, .str r3, .int .i64 r4, .own (.int .u8) 0, .int .i64 r5, .own (.rose (.pair (.int .i64) (.pair .str (.pair .str (.pair .str (.pair (.int .i64) (.pair (.slice (.nw .u8)) (.pair (.int .i64) .unit)))))))) 1], .int .i64 r6, .int .i64 r7]) [.buf (.int .u8) r8 false, .buf (.rose (.pair (.int .i64) (.pair .str (.pair .str (.pair .str (.pair (.int .i64) (.pair (.slice (.nw .u8)) (.pair (.int .i64) .unit)))))))) r9 false]) = some r → ∃ v es, FnOk Tryd.prog glob 18 (npF raw 18 []) [.sl (.int .u8) v1] [] v es ∧ K v es = some r

theorem okn_ref29_TakeCmd {R : Type} : Ok_ref29_TakeCmd (R := R) (fun _ _ => none) := fun _ _ _ h => no_some h

theorem shok_18 {R : Type} {c_ref29_TakeCmd : (List Int) → (Int → (List Int) → (List Int) → (List Int) → Int → Int → Int → Int → (List Int) → (List (Rose (Int × ((List Int) × ((List Int) × ((List Int) × (Int × ((List Int) × (Int × Unit))))))))) → Option R) → Option R} (h_ref29_TakeCmd : Ok_ref29_TakeCmd c_ref29_TakeCmd) : ShOk Tryd.prog glob raw 18 (sh18 c_ref29_TakeCmd) := by
  intro av es K r h
  unfold sh18 at h
  split at h
  · exact h_ref29_TakeCmd _ _ _ h
  · exact no_some h

def Ok_wire_TakeReply {R : Type} (c : (List Int) → (Int → Int → Int → Bool → (List Int) → Int → Int → (List Int) → (List (List Int)) → Option R) → Option R) : Prop := ∀ (v1 : (List Int)) (K : S → List Ent → Option R) (r : R), c v1 (fun (r0 : Int) (r1 : Int) (r2 : Int) (r3 : Bool) (r4 : (List Int)) (r5 : Int) (r6 : Int) (r7 : (List Int)) (r8 : (List (List Int))) => K (.tup [.st [.int .i64 r0, .int .i64 r1, .int .i64 r2, .st [.bool r3, .own (.int .u8) 0], .str r4, .own .str 1], .int .i64 r5, .int .i64 r6]) [.buf (.int .u8) r7 false, .buf .str r8 false]) = some r → ∃ v es, FnOk Tryd.prog glob 19 (npF raw 19 []) [.sl (.int .u8) v1] [] v es ∧ K v es = some r

theorem okn_wire_TakeReply {R : Type} : Ok_wire_TakeReply (R := R) (fun _ _ => none) := fun _ _ _ h => no_some h

theorem shok_19 {R : Type} {c_wire_TakeReply : (List Int) → (Int → Int → Int → Bool → (List Int) → Int → Int → (List Int) → (List (List Int)) → Option R) → Option R} (h_wire_TakeReply : Ok_wire_TakeReply c_wire_TakeReply) : ShOk Tryd.prog glob raw 19 (sh19 c_wire_TakeReply) := by
  intro av es K r h
  unfold sh19 at h
  split at h
  · exact h_wire_TakeReply _ _ _ h
  · exact no_some h

def Ok_ref29_TakeReply {R : Type} (c : (List Int) → (Int → Int → Int → Bool → (List Int) → Int → Int → (List Int) → (List (List Int)) → Option R) → Option R) : Prop := ∀ (v1 : (List Int)) (K : S → List Ent → Option R) (r : R), c v1 (fun (r0 : Int) (r1 : Int) (r2 : Int) (r3 : Bool) (r4 : (List Int)) (r5 : Int) (r6 : Int) (r7 : (List Int)) (r8 : (List (List Int))) => K (.tup [.st [.int .i64 r0, .int .i64 r1, .int .i64 r2, .st [.bool r3, .own (.int .u8) 0], .str r4, .own .str 1], .int .i64 r5, .int .i64 r6]) [.buf (.int .u8) r7 false, .buf .str r8 false]) = some r → ∃ v es, FnOk Tryd.prog glob 20 (npF raw 20 []) [.sl (.int .u8) v1] [] v es ∧ K v es = some r

theorem okn_ref29_TakeReply {R : Type} : Ok_ref29_TakeReply (R := R) (fun _ _ => none) := fun _ _ _ h => no_some h

theorem shok_20 {R : Type} {c_ref29_TakeReply : (List Int) → (Int → Int → Int → Bool → (List Int) → Int → Int → (List Int) → (List (List Int)) → Option R) → Option R} (h_ref29_TakeReply : Ok_ref29_TakeReply c_ref29_TakeReply) : ShOk Tryd.prog glob raw 20 (sh20 c_ref29_TakeReply) := by
  intro av es K r h
  unfold sh20 at h
  split at h
  · exact h_ref29_TakeReply _ _ _ h
  · exact no_some h

def Ok_ref29_SameCmd {R : Type} (c : Int → (List Int) → (List Int) → (List Int) → Int → (List Int) → Int → (List (Rose (Int × ((List Int) × ((List Int) × ((List Int) × (Int × ((List Int) × (Int × Unit))))))))) → Int → (List Int) → (List Int) → (List Int) → Int → (List Int) → Int → (List (Rose (Int × ((List Int) × ((List Int) × ((List Int) × (Int × ((List Int) × (Int × Unit))))))))) → (Bool → Option R) → Option R) : Prop := ∀ (v1 : Int) (v2 : (List Int)) (v3 : (List Int)) (v4 : (List Int)) (v5 : Int) (v6 : (List Int)) (v7 : Int) (v8 : (List (Rose (Int × ((List Int) × ((List Int) × ((List Int) × (Int × ((List Int) × (Int × Unit)))))))))) (v9 : Int) (v10 : (List Int)) (v11 : (List Int)) (v12 : (List Int)) (v13 : Int) (v14 : (List Int)) (v15 : Int) (v16 : (List (Rose (Int × ((List Int) × ((List Int) × ((List Int) × (Int × ((List Int) × (Int × Unit)))))))))) (K : S → List Ent → Option R) (r : R), c v1 v2 v3 v4 v5 v6 v7 v8 v9 v10 v11 v12 v13 v14 v15 v16 (fun (r0 : Bool) => K (.bool r0) []) = some r → ∃ v es, FnOk Tryd.prog glob 21 (npF raw 21 []) [.st [.int .i64 v1, .str v2, .str v3, .str v4, .int .i64 v5, .sl (.nw .u8) v6, .int .i64 v7, .sl (.rose (.pair (.int .i64) (.pair .str (.pair .str (.pair .str (.pair (.int .i64) (.pair (.slice (.nw .u8)) (.pair (.int .i64) .unit)))))))) v8], .st [.int .i64 v9, .str v10, .str v11, .str v12, .int .i64 v13, .sl (.nw .u8) v14, .int .i64 v15, .sl (.rose (.pair (.int .i64) (.pair .str (.pair .str (.pair .str (.pair (.int .i64) (.pair (.slice (.nw .u8)) (.pair (.int .i64) .unit)))))))) v16]] [] v es ∧ K v es = some r

theorem okn_ref29_SameCmd {R : Type} : Ok_ref29_SameCmd (R := R) (fun _ _ _ _ _ _ _ _ _ _ _ _ _ _ _ _ _ => none) := fun _ _ _ _ _ _ _ _ _ _ _ _ _ _ _ _ _ _ h => no_some h

theorem shok_21 {R : Type} {c_ref29_SameCmd : Int → (List Int) → (List Int) → (List Int) → Int → (List Int) → Int → (List (Rose (Int × ((List Int) × ((List Int) × ((List Int) × (Int × ((List Int) × (Int × Unit))))))))) → Int → (List Int) → (List Int) → (List Int) → Int → (List Int) → Int → (List (Rose (Int × ((List Int) × ((List Int) × ((List Int) × (Int × ((List Int) × (Int × Unit))))))))) → (Bool → Option R) → Option R} (h_ref29_SameCmd : Ok_ref29_SameCmd c_ref29_SameCmd) : ShOk Tryd.prog glob raw 21 (sh21 c_ref29_SameCmd) := by
  intro av es K r h
  unfold sh21 at h
  split at h
  · exact h_ref29_SameCmd _ _ _ _ _ _ _ _ _ _ _ _ _ _ _ _ _ _ h
  · exact no_some h

def Ok_ref25_SameReply {R : Type} (c : Int → Int → Int → Bool → (List Int) → (List Int) → (List (List Int)) → Int → Int → Int → Bool → (List Int) → (List Int) → (List (List Int)) → (Bool → Option R) → Option R) : Prop := ∀ (v1 : Int) (v2 : Int) (v3 : Int) (v4 : Bool) (v5 : (List Int)) (v6 : (List Int)) (v7 : (List (List Int))) (v8 : Int) (v9 : Int) (v10 : Int) (v11 : Bool) (v12 : (List Int)) (v13 : (List Int)) (v14 : (List (List Int))) (K : S → List Ent → Option R) (r : R), c v1 v2 v3 v4 v5 v6 v7 v8 v9 v10 v11 v12 v13 v14 (fun (r0 : Bool) => K (.bool r0) []) = some r → ∃ v es, FnOk Tryd.prog glob 22 (npF raw 22 []) [.st [.int .i64 v1, .int .i64 v2, .int .i64 v3, .st [.bool v4, .sl (.int .u8) v5], .str v6, .sl .str v7], .st [.int .i64 v8, .int .i64 v9, .int .i64 v10, .st [.bool v11, .sl (.int .u8) v12], .str v13, .sl .str v14]] [] v es ∧ K v es = some r

theorem okn_ref25_SameReply {R : Type} : Ok_ref25_SameReply (R := R) (fun _ _ _ _ _ _ _ _ _ _ _ _ _ _ _ => none) := fun _ _ _ _ _ _ _ _ _ _ _ _ _ _ _ _ h => no_some h

theorem shok_22 {R : Type} {c_ref25_SameReply : Int → Int → Int → Bool → (List Int) → (List Int) → (List (List Int)) → Int → Int → Int → Bool → (List Int) → (List Int) → (List (List Int)) → (Bool → Option R) → Option R} (h_ref25_SameReply : Ok_ref25_SameReply c_ref25_SameReply) : ShOk Tryd.prog glob raw 22 (sh22 c_ref25_SameReply) := by
  intro av es K r h
  unfold sh22 at h
  split at h
  · exact h_ref25_SameReply _ _ _ _ _ _ _ _ _ _ _ _ _ _ _ _ h
  · exact no_some h

def Ok_wire_writer_cmd {R : Type} (c : Int → (List Int) → (List Int) → (List Int) → Int → (List Int) → Int → (List (Rose (Int × ((List Int) × ((List Int) × ((List Int) × (Int × ((List Int) × (Int × Unit))))))))) → Bool → Err → (List Int) → (Err → (List Int) → Option R) → Option R) : Prop := ∀ (v1 : Int) (v2 : (List Int)) (v3 : (List Int)) (v4 : (List Int)) (v5 : Int) (v6 : (List Int)) (v7 : Int) (v8 : (List (Rose (Int × ((List Int) × ((List Int) × ((List Int) × (Int × ((List Int) × (Int × Unit)))))))))) (v9 : Bool) (v10 : Err) (v11 : (List Int)) (K : S → List Ent → Option R) (r : R), c v1 v2 v3 v4 v5 v6 v7 v8 v9 v10 v11 (fun (r0 : Err) (r1 : (List Int)) => K (.tup []) [.box (.st [.own (.int .u8) 1, .err r0]) false, .buf (.int .u8) r1 false]) = some r → ∃ v es, FnOk Tryd.prog glob 24 (npF raw 24 [.box (.st [.own (.int .u8) 1, .err v10]) false, .buf (.int .u8) v11 false]) [.ptr 0 [], .st [.int .i64 v1, .str v2, .str v3, .str v4, .int .i64 v5, .sl (.nw .u8) v6, .int .i64 v7, .sl (.rose (.pair (.int .i64) (.pair .str (.pair .str (.pair .str (.pair (.int .i64) (.pair (.slice (.nw .u8)) (.pair (.int .i64) .unit)))))))) v8], .bool v9] [.box (.st [.own (.int .u8) 1, .err v10]) false, .buf (.int .u8) v11 false] v es ∧ K v es = some r

theorem okn_wire_writer_cmd {R : Type} : Ok_wire_writer_cmd (R := R) (fun _ _ _ _ _ _ _ _ _ _ _ _ => none) := fun _ _ _ _ _ _ _ _ _ _ _ _ _ h => no_some h

theorem shok_24 {R : Type} {c_wire_writer_cmd : Int → (List Int) → (List Int) → (List Int) → Int → (List Int) → Int → (List (Rose (Int × ((List Int) × ((List Int) × ((List Int) × (Int × ((List Int) × (Int × Unit))))))))) → Bool → Err → (List Int) → (Err → (List Int) → Option R) → Option R} (h_wire_writer_cmd : Ok_wire_writer_cmd c_wire_writer_cmd) : ShOk Tryd.prog glob raw 24 (sh24 c_wire_writer_cmd) := by
  intro av es K r h
  unfold sh24 at h
  split at h
  · exact h_wire_writer_cmd _ _ _ _ _ _ _ _ _ _ _ _ _ h
  · exact no_some h

def Ok_wire_code {R : Type} (c : Err → (Int → Option R) → Option R) : Prop := ∀ (v1 : Err) (K : S → List Ent → Option R) (r : R), c v1 (fun (r0 : Int) => K (.int .i64 r0) []) = some r → ∃ v es, FnOk Tryd.prog glob 25 (npF raw 25 []) [.err v1] [] v es ∧ K v es = some r

theorem okn_wire_code {R : Type} : Ok_wire_code (R := R) (fun _ _ => none) := fun _ _ _ h => no_some h

theorem shok_25 {R : Type} {c_wire_code : Err → (Int → Option R) → Option R} (h_wire_code : Ok_wire_code c_wire_code) : ShOk Tryd.prog glob raw 25 (sh25 c_wire_code) := by
  intro av es K r h
  unfold sh25 at h
  split at h
  · exact h_wire_code _ _ _ h
  · exact no_some h

def Ok_wire_writer_num {R : Type} (c : Int → Int → Int → Err → (List Int) → (Err → (List Int) → Option R) → Option R) : Prop := ∀ (v1 : Int) (v2 : Int) (v3 : Int) (v4 : Err) (v5 : (List Int)) (K : S → List Ent → Option R) (r : R), c v1 v2 v3 v4 v5 (fun (r0 : Err) (r1 : (List Int)) => K (.tup []) [.box (.st [.own (.int .u8) 1, .err r0]) false, .buf (.int .u8) r1 false]) = some r → ∃ v es, FnOk Tryd.prog glob 28 (npF raw 28 [.box (.st [.own (.int .u8) 1, .err v4]) false, .buf (.int .u8) v5 false]) [.ptr 0 [], .int .i64 v1, .int .i64 v2, .int .i64 v3] [.box (.st [.own (.int .u8) 1, .err v4]) false, .buf (.int .u8) v5 false] v es ∧ K v es = some r

theorem okn_wire_writer_num {R : Type} : Ok_wire_writer_num (R := R) (fun _ _ _ _ _ _ => none) := fun _ _ _ _ _ _ _ h => no_some h

theorem shok_28 {R : Type} {c_wire_writer_num : Int → Int → Int → Err → (List Int) → (Err → (List Int) → Option R) → Option R} (h_wire_writer_num : Ok_wire_writer_num c_wire_writer_num) : ShOk Tryd.prog glob raw 28 (sh28 c_wire_writer_num) := by
  intro av es K r h
  unfold sh28 at h
  split at h
  · exact h_wire_writer_num _ _ _ _ _ _ _ h
  · exact no_some h

def Ok_wire_writer_text {R : Type} (c : (List Int) → Err → (List Int) → (Err → (List Int) → Option R) → Option R) : Prop := ∀ (v1 : (List Int)) (v2 : Err) (v3 : (List Int)) (K : S → List Ent → Option R) (r : R), c v1 v2 v3 (fun (r0 : Err) (r1 : (List Int)) => K (.tup []) [.box (.st [.own (.int .u8) 1, .err r0]) false, .buf (.int .u8) r1 false]) = some r → ∃ v es, FnOk Tryd.prog glob 29 (npF raw 29 [.box (.st [.own (.int .u8) 1, .err v2]) false, .buf (.int .u8) v3 false]) [.ptr 0 [], .str v1] [.box (.st [.own (.int .u8) 1, .err v2]) false, .buf (.int .u8) v3 false] v es ∧ K v es = some r

theorem okn_wire_writer_text {R : Type} : Ok_wire_writer_text (R := R) (fun _ _ _ _ => none) := fun _ _ _ _ _ h => no_some h

theorem shok_29 {R : Type} {c_wire_writer_text : (List Int) → Err → (List Int) → (Err → (List Int) → Option R) → Option R} (h_wire_writer_text : Ok_wire_writer_text c_wire_writer_text) : ShOk Tryd.prog glob raw 29 (sh29 c_wire_writer_text) := by
  intro av es K r h
  unfold sh29 at h
  split at h
  · exact h_wire_writer_text _ _ _ _ _ h
  · exact no_some h

def Ok_wire_reader_cmd {R : Type} (c : Bool → (List Int) → Err → (Int → (List Int) → (List Int) → (List Int) → Int → Int → (List Int) → Err → (List Int) → (List (Rose (Int × ((List Int) × ((List Int) × ((List Int) × (Int × ((List Int) × (Int × Unit))))))))) → Option R) → Option R) : Prop := ∀ (v1 : Bool) (v2 : (List Int)) (v3 : Err) (K : S → List Ent → Option R) (r : R), c v1 v2 v3 (fun (r0 : Int) (r1 : (List Int)) (r2 : (List Int)) (r3 : (List Int)) (r4 : Int) (r5 : Int) (r6 : (List Int)) (r7 : Err) (r8 : (List Int)) (r9 : (List (Rose (Int × ((List Int) × ((List Int) × ((List Int) × (Int × ((List Int) × (Int × Unit)))))))))) => K (.st [.int .i64 r0, .str r1, .str r2, .str r3, .int .i64 r4, .own (.int .u8) 1, .int .i64 r5, .own (.rose (.pair (.int .i64) (.pair .str (.pair .str (.pair .str (.pair (.int .i64) (.pair (.slice (.nw .u8)) (.pair (.int .i64) .unit)))))))) 2]) [.box (.st [.sl (.int .u8) r6, .err r7]) false, .buf (.int .u8) r8 false, .buf (.rose (.pair (.int .i64) (.pair .str (.pair .str (.pair .str (.pair (.int .i64) (.pair (.slice (.nw .u8)) (.pair (.int .i64) .unit)))))))) r9 false]) = some r → ∃ v es, FnOk Tryd.prog glob 34 (npF raw 34 [.box (.st [.sl (.int .u8) v2, .err v3]) false]) [.ptr 0 [], .bool v1] [.box (.st [.sl (.int .u8) v2, .err v3]) false] v es ∧ K v es = some r

theorem okn_wire_reader_cmd {R : Type} : Ok_wire_reader_cmd (R := R) (fun _ _ _ _ => none) := fun _ _ _ _ _ h => no_some h

theorem shok_34 {R : Type} {c_wire_reader_cmd : Bool → (List Int) → Err → (Int → (List Int) → (List Int) → (List Int) → Int → Int → (List Int) → Err → (List Int) → (List (Rose (Int × ((List Int) × ((List Int) × ((List Int) × (Int × ((List Int) × (Int × Unit))))))))) → Option R) → Option R} (h_wire_reader_cmd : Ok_wire_reader_cmd c_wire_reader_cmd) : ShOk Tryd.prog glob raw 34 (sh34 c_wire_reader_cmd) := by
  intro av es K r h
  unfold sh34 at h
  split at h
  · exact h_wire_reader_cmd _ _ _ _ _ h
  · exact no_some h

def Ok_ref29_reader_cmd {R : Type} (c : Bool → (List Int) → Int → Int → (Int → (List Int) → (List Int) → (List Int) → Int → Int → (List Int) → Int → Int → (List Int) → (List (Rose (Int × ((List Int) × ((List Int) × ((List Int) × (Int × ((List Int) × (Int × Unit))))))))) → Option R) → Option R) : Prop := ∀ (v1 : Bool) (v2 : (List Int)) (v3 : Int) (v4 : Int) (K : S → List Ent → Option R) (r : R), c v1 v2 v3 v4 (fun (r0 : Int) (r1 : (List Int)) (r2 : (List Int)) (r3 : (List Int)) (r4 : Int) (r5 : Int) (r6 : (List Int)) (r7 : Int) (r8 : Int) (r9 : (List Int)) (r10 : (List (Rose (Int × ((List Int) × ((List Int) × ((List Int) × (Int × ((List Int) × (Int × Unit)))))))))) => K (.st [.int .i64 r0, .str r1, .str r2, .str r3, .int .i64 r4, .own (.int .u8) 1, .int .i64 r5, .own (.rose (.pair (.int .i64) (.pair .str (.pair .str (.pair .str (.pair (.int .i64) (.pair (.slice (.nw .u8)) (.pair (.int .i64) .unit)))))))) 2]) [.box (.st [.sl (.int .u8) r6, .int .i64 r7, .int .i64 r8]) false, .buf (.int .u8) r9 false, .buf (.rose (.pair (.int .i64) (.pair .str (.pair .str (.pair .str (.pair (.int .i64) (.pair (.slice (.nw .u8)) (.pair (.int .i64) .unit)))))))) r10 false]) = some r → ∃ v es, FnOk Tryd.prog glob 35 (npF raw 35 [.box (.st [.sl (.int .u8) v2, .int .i64 v3, .int .i64 v4]) false]) [.ptr 0 [], .bool v1] [.box (.st [.sl (.int .u8) v2, .int .i64 v3, .int .i64 v4]) false] v es ∧ K v es = some r

theorem okn_ref29_reader_cmd {R : Type} : Ok_ref29_reader_cmd (R := R) (fun _ _ _ _ _ => none) := fun _ _ _ _ _ _ h => no_some h

theorem shok_35 {R : Type} {c_ref29_reader_cmd : Bool → (List Int) → Int → Int → (Int → (List Int) → (List Int) → (List Int) → Int → Int → (List Int) → Int → Int → (List Int) → (List (Rose (Int × ((List Int) × ((List Int) × ((List Int) × (Int × ((List Int) × (Int × Unit))))))))) → Option R) → Option R} (h_ref29_reader_cmd : Ok_ref29_reader_cmd c_ref29_reader_cmd) : ShOk Tryd.prog glob raw 35 (sh35 c_ref29_reader_cmd) := by
  intro av es K r h
  unfold sh35 at h
  split at h
  · exact h_ref29_reader_cmd _ _ _ _ _ _ h
  · exact no_some h

def Ok_wire_reader_num {R : Type} (c : Int → (List Int) → Err → (Int → (List Int) → Err → Option R) → Option R) : Prop := ∀ (v1 : Int) (v2 : (List Int)) (v3 : Err) (K : S → List Ent → Option R) (r : R), c v1 v2 v3 (fun (r0 : Int) (r1 : (List Int)) (r2 : Err) => K (.int .i64 r0) [.box (.st [.sl (.int .u8) r1, .err r2]) false]) = some r → ∃ v es, FnOk Tryd.prog glob 36 (npF raw 36 [.box (.st [.sl (.int .u8) v2, .err v3]) false]) [.ptr 0 [], .int .i64 v1] [.box (.st [.sl (.int .u8) v2, .err v3]) false] v es ∧ K v es = some r

theorem okn_wire_reader_num {R : Type} : Ok_wire_reader_num (R := R) (fun _ _ _ _ => none) := fun _ _ _ _ _ h => no_some h

theorem shok_36 {R : Type} {c_wire_reader_num : Int → (List Int) → Err → (Int → (List Int) → Err → Option R) → Option R} (h_wire_reader_num : Ok_wire_reader_num c_wire_reader_num) : ShOk Tryd.prog glob raw 36 (sh36 c_wire_reader_num) := by
  intro av es K r h
  unfold sh36 at h
  split at h
  · exact h_wire_reader_num _ _ _ _ _ h
  · exact no_some h

def Ok_wire_reader_fails {R : Type} (c : Int → (List Int) → Err → ((List Int) → Err → Option R) → Option R) : Prop := ∀ (v1 : Int) (v2 : (List Int)) (v3 : Err) (K : S → List Ent → Option R) (r : R), c v1 v2 v3 (fun (r0 : (List Int)) (r1 : Err) => K (.tup []) [.box (.st [.sl (.int .u8) r0, .err r1]) false]) = some r → ∃ v es, FnOk Tryd.prog glob 37 (npF raw 37 [.box (.st [.sl (.int .u8) v2, .err v3]) false]) [.ptr 0 [], .int .i64 v1] [.box (.st [.sl (.int .u8) v2, .err v3]) false] v es ∧ K v es = some r

theorem okn_wire_reader_fails {R : Type} : Ok_wire_reader_fails (R := R) (fun _ _ _ _ => none) := fun _ _ _ _ _ h => no_some h

theorem shok_37 {R : Type} {c_wire_reader_fails : Int → (List Int) → Err → ((List Int) → Err → Option R) → Option R} (h_wire_reader_fails : Ok_wire_reader_fails c_wire_reader_fails) : ShOk Tryd.prog glob raw 37 (sh37 c_wire_reader_fails) := by
  intro av es K r h
  unfold sh37 at h
  split at h
  · exact h_wire_reader_fails _ _ _ _ _ h
  · exact no_some h

def Ok_wire_reader_text {R : Type} (c : (List Int) → Err → ((List Int) → (List Int) → Err → Option R) → Option R) : Prop := ∀ (v1 : (List Int)) (v2 : Err) (K : S → List Ent → Option R) (r : R), c v1 v2 (fun (r0 : (List Int)) (r1 : (List Int)) (r2 : Err) => K (.str r0) [.box (.st [.sl (.int .u8) r1, .err r2]) false]) = some r → ∃ v es, FnOk Tryd.prog glob 38 (npF raw 38 [.box (.st [.sl (.int .u8) v1, .err v2]) false]) [.ptr 0 []] [.box (.st [.sl (.int .u8) v1, .err v2]) false] v es ∧ K v es = some r

theorem okn_wire_reader_text {R : Type} : Ok_wire_reader_text (R := R) (fun _ _ _ => none) := fun _ _ _ _ h => no_some h

theorem shok_38 {R : Type} {c_wire_reader_text : (List Int) → Err → ((List Int) → (List Int) → Err → Option R) → Option R} (h_wire_reader_text : Ok_wire_reader_text c_wire_reader_text) : ShOk Tryd.prog glob raw 38 (sh38 c_wire_reader_text) := by
  intro av es K r h
  unfold sh38 at h
  split at h
  · exact h_wire_reader_text _ _ _ _ h
  · exact no_some h

def Ok_ref29_reader_num {R : Type} (c : Int → (List Int) → Int → Int → (Int → (List Int) → Int → Int → Option R) → Option R) : Prop := ∀ (v1 : Int) (v2 : (List Int)) (v3 : Int) (v4 : Int) (K : S → List Ent → Option R) (r : R), c v1 v2 v3 v4 (fun (r0 : Int) (r1 : (List Int)) (r2 : Int) (r3 : Int) => K (.int .i64 r0) [.box (.st [.sl (.int .u8) r1, .int .i64 r2, .int .i64 r3]) false]) = some r → ∃ v es, FnOk Tryd.prog glob 39 (npF raw 39 [.box (.st [.sl (.int .u8) v2, .int .i64 v3, .int .i64 v4]) false]) [.ptr 0 [], .int .i64 v1] [.box (.st [.sl (.int .u8) v2, .int .i64 v3, .int .i64 v4]) false] v es ∧ K v es = some r

theorem okn_ref29_reader_num {R : Type} : Ok_ref29_reader_num (R := R) (fun _ _ _ _ _ => none) := fun _ _ _ _ _ _ h => no_some h

theorem shok_39 {R : Type} {c_ref29_reader_num : Int → (List Int) → Int → Int → (Int → (List Int) → Int → Int → Option R) → Option R} (h_ref29_reader_num : Ok_ref29_reader_num c_ref29_reader_num) : ShOk Tryd.prog glob raw 39 (sh39 c_ref29_reader_num) := by
  intro av es K r h
  unfold sh39 at h
  split at h
  · exact h_ref29_reader_num _ _ _ _ _ _ h
  · exact no_some h

def Ok_ref29_reader_fail {R : Type} (c : Int → (List Int) → Int → Int → ((List Int) → Int → Int → Option R) → Option R) : Prop := ∀ (v1 : Int) (v2 : (List Int)) (v3 : Int) (v4 : Int) (K : S → List Ent → Option R) (r : R), c v1 v2 v3 v4 (fun (r0 : (List Int)) (r1 : Int) (r2 : Int) => K (.tup []) [.box (.st [.sl (.int .u8) r0, .int .i64 r1, .int .i64 r2]) false]) = some r → ∃ v es, FnOk Tryd.prog glob 40 (npF raw 40 [.box (.st [.sl (.int .u8) v2, .int .i64 v3, .int .i64 v4]) false]) [.ptr 0 [], .int .i64 v1] [.box (.st [.sl (.int .u8) v2, .int .i64 v3, .int .i64 v4]) false] v es ∧ K v es = some r

theorem okn_ref29_reader_fail {R : Type} : Ok_ref29_reader_fail (R := R) (fun _ _ _ _ _ => none) := fun _ _ _ _ _ _ h => no_some h

theorem shok_40 {R : Type} {c_ref29_reader_fail : Int → (List Int) → Int → Int → ((List Int) → Int → Int → Option R) → Option R} (h_ref29_reader_fail : Ok_ref29_reader_fail c_ref29_reader_fail) : ShOk Tryd.prog glob raw 40 (sh40 c_ref29_reader_fail) := by
  intro av es K r h
  unfold sh40 at h
  split at h
  · exact h_ref29_reader_fail _ _ _ _ _ _ h
  · exact no_some h

def Ok_ref29_reader_bytes {R : Type} (c : (List Int) → Int → Int → ((List Int) → Int → Int → (List Int) → Option R) → Option R) : Prop := ∀ (v1 : (List Int)) (v2 : Int) (v3 : Int) (K : S → List Ent → Option R) (r : R), c v1 v2 v3 (fun (r0 : (List Int)) (r1 : Int) (r2 : Int) (r3 : (List Int)) => K (.own (.int .u8) 1) [.box (.st [.sl (.int .u8) r0, .int .i64 r1, .int .i64 r2]) false, .buf (.int .u8) r3 false]) = some r → ∃ v es, FnOk Tryd.prog glob 41 (npF raw 41 [.box (.st [.sl (.int .u8) v1, .int .i64 v2, .int .i64 v3]) false]) [.ptr 0 []] [.box (.st [.sl (.int .u8) v1, .int .i64 v2, .int .i64 v3]) false] v es ∧ K v es = some r

theorem okn_ref29_reader_bytes {R : Type} : Ok_ref29_reader_bytes (R := R) (fun _ _ _ _ => none) := fun _ _ _ _ _ h => no_some h

theorem shok_41 {R : Type} {c_ref29_reader_bytes : (List Int) → Int → Int → ((List Int) → Int → Int → (List Int) → Option R) → Option R} (h_ref29_reader_bytes : Ok_ref29_reader_bytes c_ref29_reader_bytes) : ShOk Tryd.prog glob raw 41 (sh41 c_ref29_reader_bytes) := by
  intro av es K r h
  unfold sh41 at h
  split at h
  · exact h_ref29_reader_bytes _ _ _ _ _ h
  · exact no_some h

def Ok_ref11_SameVerdict {R : Type} (c : Bool → (List Int) → Bool → (List Int) → (Bool → Option R) → Option R) : Prop := ∀ (v1 : Bool) (v2 : (List Int)) (v3 : Bool) (v4 : (List Int)) (K : S → List Ent → Option R) (r : R), c v1 v2 v3 v4 (fun (r0 : Bool) => K (.bool r0) []) = some r → ∃ v es, FnOk Tryd.prog glob 42 (npF raw 42 []) [.st [.bool v1, .sl (.int .u8) v2], .st [.bool v3, .sl (.int .u8) v4]] [] v es ∧ K v es = some r

theorem okn_ref11_SameVerdict {R : Type} : Ok_ref11_SameVerdict (R := R) (fun _ _ _ _ _ => none) := fun _ _ _ _ _ _ h => no_some h

theorem shok_42 {R : Type} {c_ref11_SameVerdict : Bool → (List Int) → Bool → (List Int) → (Bool → Option R) → Option R} (h_ref11_SameVerdict : Ok_ref11_SameVerdict c_ref11_SameVerdict) : ShOk Tryd.prog glob raw 42 (sh42 c_ref11_SameVerdict) := by
  intro av es K r h
  unfold sh42 at h
  split at h
  · exact h_ref11_SameVerdict _ _ _ _ _ _ h
  · exact no_some h

def Ok_wire_blank {R : Type} (c : Int → (List Int) → (List Int) → (List Int) → Int → (List Int) → Int → (List (Rose (Int × ((List Int) × ((List Int) × ((List Int) × (Int × ((List Int) × (Int × Unit))))))))) → (Bool → Option R) → Option R) : Prop := ∀ (v1 : Int) (v2 : (List Int)) (v3 : (List Int)) (v4 : (List Int)) (v5 : Int) (v6 : (List Int)) (v7 : Int) (v8 : (List (Rose (Int × ((List Int) × ((List Int) × ((List Int) × (Int × ((List Int) × (Int × Unit)))))))))) (K : S → List Ent → Option R) (r : R), c v1 v2 v3 v4 v5 v6 v7 v8 (fun (r0 : Bool) => K (.bool r0) []) = some r → ∃ v es, FnOk Tryd.prog glob 43 (npF raw 43 []) [.st [.int .i64 v1, .str v2, .str v3, .str v4, .int .i64 v5, .sl (.nw .u8) v6, .int .i64 v7, .sl (.rose (.pair (.int .i64) (.pair .str (.pair .str (.pair .str (.pair (.int .i64) (.pair (.slice (.nw .u8)) (.pair (.int .i64) .unit)))))))) v8]] [] v es ∧ K v es = some r

theorem okn_wire_blank {R : Type} : Ok_wire_blank (R := R) (fun _ _ _ _ _ _ _ _ _ => none) := fun _ _ _ _ _ _ _ _ _ _ h => no_some h

theorem shok_43 {R : Type} {c_wire_blank : Int → (List Int) → (List Int) → (List Int) → Int → (List Int) → Int → (List (Rose (Int × ((List Int) × ((List Int) × ((List Int) × (Int × ((List Int) × (Int × Unit))))))))) → (Bool → Option R) → Option R} (h_wire_blank : Ok_wire_blank c_wire_blank) : ShOk Tryd.prog glob raw 43 (sh43 c_wire_blank) := by
  intro av es K r h
  unfold sh43 at h
  split at h
  · exact h_wire_blank _ _ _ _ _ _ _ _ _ _ h
  · exact no_some h

def Ok_wire_rest {R : Type} (c : Int → (List Int) → (List Int) → (List Int) → Int → (List Int) → Int → (List (Rose (Int × ((List Int) × ((List Int) × ((List Int) × (Int × ((List Int) × (Int × Unit))))))))) → (Int → (List Int) → (List Int) → (List Int) → Int → (List Int) → Int → (List (Rose (Int × ((List Int) × ((List Int) × ((List Int) × (Int × ((List Int) × (Int × Unit))))))))) → Option R) → Option R) : Prop := ∀ (v1 : Int) (v2 : (List Int)) (v3 : (List Int)) (v4 : (List Int)) (v5 : Int) (v6 : (List Int)) (v7 : Int) (v8 : (List (Rose (Int × ((List Int) × ((List Int) × ((List Int) × (Int × ((List Int) × (Int × Unit)))))))))) (K : S → List Ent → Option R) (r : R), c v1 v2 v3 v4 v5 v6 v7 v8 (fun (r0 : Int) (r1 : (List Int)) (r2 : (List Int)) (r3 : (List Int)) (r4 : Int) (r5 : (List Int)) (r6 : Int) (r7 : (List (Rose (Int × ((List Int) × ((List Int) × ((List Int) × (Int × ((List Int) × (Int × Unit)))))))))) => K (.st [.int .i64 r0, .str r1, .str r2, .str r3, .int .i64 r4, .sl (.nw .u8) r5, .int .i64 r6, .sl (.rose (.pair (.int .i64) (.pair .str (.pair .str (.pair .str (.pair (.int .i64) (.pair (.slice (.nw .u8)) (.pair (.int .i64) .unit)))))))) r7]) []) = some r → ∃ v es, FnOk Tryd.prog glob 44 (npF raw 44 []) [.st [.int .i64 v1, .str v2, .str v3, .str v4, .int .i64 v5, .sl (.nw .u8) v6, .int .i64 v7, .sl (.rose (.pair (.int .i64) (.pair .str (.pair .str (.pair .str (.pair (.int .i64) (.pair (.slice (.nw .u8)) (.pair (.int .i64) .unit)))))))) v8]] [] v es ∧ K v es = some r

theorem okn_wire_rest {R : Type} : Ok_wire_rest (R := R) (fun _ _ _ _ _ _ _ _ _ => none) := fun _ _ _ _ _ _ _ _ _ _ h => no_some h

theorem shok_44 {R : Type} {c_wire_rest : Int → (List Int) → (List Int) → (List Int) → Int → (List Int) → Int → (List (Rose (Int × ((List Int) × ((List Int) × ((List Int) × (Int × ((List Int) × (Int × Unit))))))))) → (Int → (List Int) → (List Int) → (List Int) → Int → (List Int) → Int → (List (Rose (Int × ((List Int) × ((List Int) × ((List Int) × (Int × ((List Int) × (Int × Unit))))))))) → Option R) → Option R} (h_wire_rest : Ok_wire_rest c_wire_rest) : ShOk Tryd.prog glob raw 44 (sh44 c_wire_rest) := by
  intro av es K r h
  unfold sh44 at h
  split at h
  · exact h_wire_rest _ _ _ _ _ _ _ _ _ _ h
  · exact no_some h

def Ok_wire_bad {R : Type} (c : Int → (Err → Option R) → Option R) : Prop := ∀ (v1 : Int) (K : S → List Ent → Option R) (r : R), c v1 (fun (r0 : Err) => K (.err r0) []) = some r → ∃ v es, FnOk Tryd.prog glob 45 (npF raw 45 []) [.int .i64 v1] [] v es ∧ K v es = some r

theorem okn_wire_bad {R : Type} : Ok_wire_bad (R := R) (fun _ _ => none) := fun _ _ _ h => no_some h

theorem shok_45 {R : Type} {c_wire_bad : Int → (Err → Option R) → Option R} (h_wire_bad : Ok_wire_bad c_wire_bad) : ShOk Tryd.prog glob raw 45 (sh45 c_wire_bad) := by
  intro av es K r h
  unfold sh45 at h
  split at h
  · exact h_wire_bad _ _ _ h
  · exact no_some h

def Ok_ref29_fields {R : Type} (c : Int → ((List Int) → Option R) → Option R) : Prop := ∀ (v1 : Int) (K : S → List Ent → Option R) (r : R), c v1 (fun (r0 : (List Int)) => K (.str r0) []) = some r → ∃ v es, FnOk Tryd.prog glob 47 (npF raw 47 []) [.int .i64 v1] [] v es ∧ K v es = some r

theorem okn_ref29_fields {R : Type} : Ok_ref29_fields (R := R) (fun _ _ => none) := fun _ _ _ h => no_some h

theorem shok_47 {R : Type} {c_ref29_fields : Int → ((List Int) → Option R) → Option R} (h_ref29_fields : Ok_ref29_fields c_ref29_fields) : ShOk Tryd.prog glob raw 47 (sh47 c_ref29_fields) := by
  intro av es K r h
  unfold sh47 at h
  split at h
  · exact h_ref29_fields _ _ _ h
  · exact no_some h

def Ok_octet_Put {R : Type} (c : (List Int) → Int → Int → ((List Int) → Option R) → Option R) : Prop := ∀ (v1 : (List Int)) (v2 : Int) (v3 : Int) (K : S → List Ent → Option R) (r : R), c v1 v2 v3 (fun (r0 : (List Int)) => K (.own (.int .u8) 0) [.buf (.int .u8) r0 false]) = some r → ∃ v es, FnOk Tryd.prog glob 49 (npF raw 49 []) [.sl (.int .u8) v1, .int .u64 v2, .int .i64 v3] [] v es ∧ K v es = some r

theorem okn_octet_Put {R : Type} : Ok_octet_Put (R := R) (fun _ _ _ _ => none) := fun _ _ _ _ _ h => no_some h

theorem shok_49 {R : Type} {c_octet_Put : (List Int) → Int → Int → ((List Int) → Option R) → Option R} (h_octet_Put : Ok_octet_Put c_octet_Put) : ShOk Tryd.prog glob raw 49 (sh49 c_octet_Put) := by
  intro av es K r h
  unfold sh49 at h
  split at h
  · exact h_octet_Put _ _ _ _ _ h
  · exact no_some h

def Ok_octet_Text {R : Type} (c : (List Int) → (List Int) → ((List Int) → Option R) → Option R) : Prop := ∀ (v1 : (List Int)) (v2 : (List Int)) (K : S → List Ent → Option R) (r : R), c v1 v2 (fun (r0 : (List Int)) => K (.own (.int .u8) 0) [.buf (.int .u8) r0 false]) = some r → ∃ v es, FnOk Tryd.prog glob 50 (npF raw 50 []) [.sl (.int .u8) v1, .sl (.int .u8) v2] [] v es ∧ K v es = some r

theorem okn_octet_Text {R : Type} : Ok_octet_Text (R := R) (fun _ _ _ => none) := fun _ _ _ _ h => no_some h

theorem shok_50 {R : Type} {c_octet_Text : (List Int) → (List Int) → ((List Int) → Option R) → Option R} (h_octet_Text : Ok_octet_Text c_octet_Text) : ShOk Tryd.prog glob raw 50 (sh50 c_octet_Text) := by
  intro av es K r h
  unfold sh50 at h
  split at h
  · exact h_octet_Text _ _ _ _ h
  · exact no_some h

def Ok_octet_Take {R : Type} (c : (List Int) → Int → Int → (Int → Int → Option R) → Option R) : Prop := ∀ (v1 : (List Int)) (v2 : Int) (v3 : Int) (K : S → List Ent → Option R) (r : R), c v1 v2 v3 (fun (r0 : Int) (r1 : Int) => K (.tup [.int .u64 r0, .int .i64 r1]) []) = some r → ∃ v es, FnOk Tryd.prog glob 52 (npF raw 52 []) [.sl (.int .u8) v1, .int .i64 v2, .int .i64 v3] [] v es ∧ K v es = some r

theorem okn_octet_Take {R : Type} : Ok_octet_Take (R := R) (fun _ _ _ _ => none) := fun _ _ _ _ _ h => no_some h

theorem shok_52 {R : Type} {c_octet_Take : (List Int) → Int → Int → (Int → Int → Option R) → Option R} (h_octet_Take : Ok_octet_Take c_octet_Take) : ShOk Tryd.prog glob raw 52 (sh52 c_octet_Take) := by
  intro av es K r h
  unfold sh52 at h
  split at h
  · exact h_octet_Take _ _ _ _ _ h
  · exact no_some h

def Ok_octet_TakeText {R : Type} (c : (List Int) → Int → (Int → Int → (List Int) → Option R) → Option R) : Prop := ∀ (v1 : (List Int)) (v2 : Int) (K : S → List Ent → Option R) (r : R), c v1 v2 (fun (r0 : Int) (r1 : Int) (r2 : (List Int)) => K (.tup [.own (.int .u8) 0, .int .i64 r0, .int .i64 r1]) [.buf (.int .u8) r2 false]) = some r → ∃ v es, FnOk Tryd.prog glob 53 (npF raw 53 []) [.sl (.int .u8) v1, .int .i64 v2] [] v es ∧ K v es = some r

theorem okn_octet_TakeText {R : Type} : Ok_octet_TakeText (R := R) (fun _ _ _ => none) := fun _ _ _ _ h => no_some h

theorem shok_53 {R : Type} {c_octet_TakeText : (List Int) → Int → (Int → Int → (List Int) → Option R) → Option R} (h_octet_TakeText : Ok_octet_TakeText c_octet_TakeText) : ShOk Tryd.prog glob raw 53 (sh53 c_octet_TakeText) := by
  intro av es K r h
  unfold sh53 at h
  split at h
  · exact h_octet_TakeText _ _ _ _ h
  · exact no_some h

def Ok_ref1_Take {R : Type} (c : (List Int) → Int → Int → (Int → Int → Option R) → Option R) : Prop := ∀ (v1 : (List Int)) (v2 : Int) (v3 : Int) (K : S → List Ent → Option R) (r : R), c v1 v2 v3 (fun (r0 : Int) (r1 : Int) => K (.tup [.int .u64 r0, .int .i64 r1]) []) = some r → ∃ v es, FnOk Tryd.prog glob 54 (npF raw 54 []) [.sl (.int .u8) v1, .int .i64 v2, .int .i64 v3] [] v es ∧ K v es = some r

theorem okn_ref1_Take {R : Type} : Ok_ref1_Take (R := R) (fun _ _ _ _ => none) := fun _ _ _ _ _ h => no_some h

theorem shok_54 {R : Type} {c_ref1_Take : (List Int) → Int → Int → (Int → Int → Option R) → Option R} (h_ref1_Take : Ok_ref1_Take c_ref1_Take) : ShOk Tryd.prog glob raw 54 (sh54 c_ref1_Take) := by
  intro av es K r h
  unfold sh54 at h
  split at h
  · exact h_ref1_Take _ _ _ _ _ h
  · exact no_some h

def Ok_ref1_TakeText {R : Type} (c : (List Int) → Int → (Int → Int → (List Int) → Option R) → Option R) : Prop := ∀ (v1 : (List Int)) (v2 : Int) (K : S → List Ent → Option R) (r : R), c v1 v2 (fun (r0 : Int) (r1 : Int) (r2 : (List Int)) => K (.tup [.own (.int .u8) 0, .int .i64 r0, .int .i64 r1]) [.buf (.int .u8) r2 false]) = some r → ∃ v es, FnOk Tryd.prog glob 55 (npF raw 55 []) [.sl (.int .u8) v1, .int .i64 v2] [] v es ∧ K v es = some r

theorem okn_ref1_TakeText {R : Type} : Ok_ref1_TakeText (R := R) (fun _ _ _ => none) := fun _ _ _ _ h => no_some h

theorem shok_55 {R : Type} {c_ref1_TakeText : (List Int) → Int → (Int → Int → (List Int) → Option R) → Option R} (h_ref1_TakeText : Ok_ref1_TakeText c_ref1_TakeText) : ShOk Tryd.prog glob raw 55 (sh55 c_ref1_TakeText) := by
  intro av es K r h
  unfold sh55 at h
  split at h
  · exact h_ref1_TakeText _ _ _ _ h
  · exact no_some h

theorem t_wire_rest : textOk C_wire_rest.bef Tryd.prog 44 = true := by kernel_rfl

theorem ok_wire_rest {R : Type} : Ok_wire_rest (R := R) (wire_rest) := by
  have hcf : CfOk (R := R) Tryd.prog glob raw (cf_wire_rest) := cf_nil
  have hlf : LfOk (R := R) C_wire_rest 44 (lf_wire_rest) := lf_none
  intro v1 v2 v3 v4 v5 v6 v7 v8 K r h
  exact run_good t_wire_rest hcf hlf ((eq_wire_rest v1 v2 v3 v4 v5 v6 v7 v8 K).trans h)

theorem t_wire_blank : textOk C_wire_blank.bef Tryd.prog 43 = true := by kernel_rfl

theorem ok_wire_blank {R : Type} : Ok_wire_blank (R := R) (wire_blank) := by
  have hcf : CfOk (R := R) Tryd.prog glob raw (cf_wire_blank) := cf_nil
  have hlf : LfOk (R := R) C_wire_blank 43 (lf_wire_blank) := lf_none
  intro v1 v2 v3 v4 v5 v6 v7 v8 K r h
  exact run_good t_wire_blank hcf hlf ((eq_wire_blank v1 v2 v3 v4 v5 v6 v7 v8 K).trans h)

theorem t_wire_bad : textOk C_wire_bad.bef Tryd.prog 45 = true := by kernel_rfl

theorem ok_wire_bad {R : Type} : Ok_wire_bad (R := R) (wire_bad) := by
  have hcf : CfOk (R := R) Tryd.prog glob raw (cf_wire_bad) := cf_nil
  have hlf : LfOk (R := R) C_wire_bad 45 (lf_wire_bad) := lf_none
  intro v1 K r h
  exact run_good t_wire_bad hcf hlf ((eq_wire_bad v1 K).trans h)

theorem t_octet_Put : textOk C_octet_Put.bef Tryd.prog 49 = true := by kernel_rfl

theorem sln_octet_Put_l4 {R : Type} : SlOk (R := R) C_octet_Put 49 30 0 4 (sl_octet_Put_l4 (fun _ _ _ _ _ => none)) := by
  intro vs es K r h
  unfold sl_octet_Put_l4 at h
  split at h <;> exact no_some h

theorem lok_octet_Put_l4 {R : Type} (kf : Nat) : ∀ n, SlOk (R := R) C_octet_Put 49 30 0 4 (sl_octet_Put_l4 (octet_Put_l4 kf n)) := by
  intro n
  induction n with
  | zero =>
    intro vs es K r h
    unfold sl_octet_Put_l4 at h
    split at h <;> exact no_some h
  | succ k ih =>
    have hcf : CfOk (R := R) Tryd.prog glob raw (cf_octet_Put (octet_Put_l4 kf k)) := cf_nil
    have hlf : LfOk (R := R) C_octet_Put 49 (lf_octet_Put (octet_Put_l4 kf k)) := (lf_top (lf_cons ih lf_nil))
    intro vs es K r h
    unfold sl_octet_Put_l4 at h
    split at h
    · exact loop_good (text_mixed t_octet_Put) hcf hlf (text_loop t_octet_Put 4).1 (text_loop t_octet_Put 4).2 ((eq_octet_Put_l4 (octet_Put_l4 kf k) _ _ _ _ K).trans h)
    · exact no_some h

theorem ok_octet_Put {R : Type} (kf : Nat) : Ok_octet_Put (R := R) (octet_Put kf) := by
  have hcf : CfOk (R := R) Tryd.prog glob raw (cf_octet_Put (octet_Put_l4 kf kf)) := cf_nil
  have hlf : LfOk (R := R) C_octet_Put 49 (lf_octet_Put (octet_Put_l4 kf kf)) := (lf_top (lf_cons (lok_octet_Put_l4 kf kf) lf_nil))
  intro v1 v2 v3 K r h
  exact run_good t_octet_Put hcf hlf ((eq_octet_Put (octet_Put_l4 kf kf) v1 v2 v3 K).trans h)

theorem t_wire_writer_num : textOk C_wire_writer_num.bef Tryd.prog 28 = true := by kernel_rfl

theorem ok_wire_writer_num {R : Type} (kf : Nat) : Ok_wire_writer_num (R := R) (wire_writer_num kf) := by
  have hcf : CfOk (R := R) Tryd.prog glob raw (cf_wire_writer_num wire_bad (octet_Put kf)) := (cf_cons (shok_45 ok_wire_bad) (cf_cons (shok_49 (ok_octet_Put kf)) cf_nil))
  have hlf : LfOk (R := R) C_wire_writer_num 28 (lf_wire_writer_num wire_bad (octet_Put kf)) := lf_none
  intro v1 v2 v3 v4 v5 K r h
  exact run_good t_wire_writer_num hcf hlf ((eq_wire_writer_num wire_bad (octet_Put kf) v1 v2 v3 v4 v5 K).trans h)

theorem t_octet_Text : textOk C_octet_Text.bef Tryd.prog 50 = true := by kernel_rfl

theorem ok_octet_Text {R : Type} (kf : Nat) : Ok_octet_Text (R := R) (octet_Text kf) := by
  have hcf : CfOk (R := R) Tryd.prog glob raw (cf_octet_Text (octet_Put kf)) := (cf_cons (shok_49 (ok_octet_Put kf)) cf_nil)
  have hlf : LfOk (R := R) C_octet_Text 50 (lf_octet_Text (octet_Put kf)) := lf_none
  intro v1 v2 K r h
  exact run_good t_octet_Text hcf hlf ((eq_octet_Text (octet_Put kf) v1 v2 K).trans h)

theorem t_wire_writer_text : textOk C_wire_writer_text.bef Tryd.prog 29 = true := by kernel_rfl

theorem ok_wire_writer_text {R : Type} (kf : Nat) : Ok_wire_writer_text (R := R) (wire_writer_text kf) := by
  have hcf : CfOk (R := R) Tryd.prog glob raw (cf_wire_writer_text wire_bad (octet_Text kf)) := (cf_cons (shok_45 ok_wire_bad) (cf_cons (shok_50 (ok_octet_Text kf)) cf_nil))
  have hlf : LfOk (R := R) C_wire_writer_text 29 (lf_wire_writer_text wire_bad (octet_Text kf)) := lf_none
  intro v1 v2 v3 K r h
  exact run_good t_wire_writer_text hcf hlf ((eq_wire_writer_text wire_bad (octet_Text kf) v1 v2 v3 K).trans h)

theorem t_wire_writer_cmd : textOk C_wire_writer_cmd.bef Tryd.prog 24 = true := by kernel_rfl

theorem sln_wire_writer_cmd_l25 {R : Type} : SlOk (R := R) C_wire_writer_cmd 24 117 1 25 (sl_wire_writer_cmd_l25 (fun _ _ _ _ _ _ => none)) := by
  intro vs es K r h
  unfold sl_wire_writer_cmd_l25 at h
  split at h
  · obtain ⟨_, h⟩ := dite_some h; exact no_some h
  · exact no_some h

theorem lok_wire_writer_cmd_l25 {R : Type} {c_self : Int → (List Int) → (List Int) → (List Int) → Int → (List Int) → Int → (List (Rose (Int × ((List Int) × ((List Int) × ((List Int) × (Int × ((List Int) × (Int × Unit))))))))) → Bool → Err → (List Int) → (Err → (List Int) → Option R) → Option R} (hs : Ok_wire_writer_cmd c_self) (kf : Nat) : ∀ n, SlOk (R := R) C_wire_writer_cmd 24 117 1 25 (sl_wire_writer_cmd_l25 (wire_writer_cmd_l25 c_self kf n)) := by
  intro n
  induction n with
  | zero =>
    intro vs es K r h
    unfold sl_wire_writer_cmd_l25 at h
    split at h
    · obtain ⟨_, h⟩ := dite_some h; exact no_some h
    · exact no_some h
  | succ k ih =>
    have hcf : CfOk (R := R) Tryd.prog glob raw (cf_wire_writer_cmd wire_rest wire_blank wire_bad (wire_writer_num kf) (wire_writer_text kf) c_self (wire_writer_cmd_l25 c_self kf k)) := (cf_cons (shok_44 ok_wire_rest) (cf_cons (shok_43 ok_wire_blank) (cf_cons (shok_45 ok_wire_bad) (cf_cons (shok_28 (ok_wire_writer_num kf)) (cf_cons (shok_29 (ok_wire_writer_text kf)) (cf_cons (shok_24 hs) cf_nil))))))
    have hlf : LfOk (R := R) C_wire_writer_cmd 24 (lf_wire_writer_cmd wire_rest wire_blank wire_bad (wire_writer_num kf) (wire_writer_text kf) c_self (wire_writer_cmd_l25 c_self kf k)) := (lf_top (lf_cons ih lf_nil))
    intro vs es K r h
    unfold sl_wire_writer_cmd_l25 at h
    split at h
    · obtain ⟨q1, g1⟩ := dite_some h
      clear h
      try subst q1
      have h := g1
      clear g1
      repeat rw [castL_self] at h
      exact loop_good (text_mixed t_wire_writer_cmd) hcf hlf (text_loop t_wire_writer_cmd 25).1 (text_loop t_wire_writer_cmd 25).2 ((eq_wire_writer_cmd_l25 wire_rest wire_blank wire_bad (wire_writer_num kf) (wire_writer_text kf) c_self (wire_writer_cmd_l25 c_self kf k) _ _ _ _ _ K).trans h)
    · exact no_some h

theorem ok_wire_writer_cmd {R : Type} : ∀ kf, Ok_wire_writer_cmd (R := R) (wire_writer_cmd kf) := by
  intro kf
  induction kf with
  | zero =>
    intro v1 v2 v3 v4 v5 v6 v7 v8 v9 v10 v11 K r h
    exact no_some h
  | succ kf hs =>
    have hcf : CfOk (R := R) Tryd.prog glob raw (cf_wire_writer_cmd wire_rest wire_blank wire_bad (wire_writer_num kf) (wire_writer_text kf) (wire_writer_cmd kf) (wire_writer_cmd_l25 (wire_writer_cmd kf) kf kf)) := (cf_cons (shok_44 ok_wire_rest) (cf_cons (shok_43 ok_wire_blank) (cf_cons (shok_45 ok_wire_bad) (cf_cons (shok_28 (ok_wire_writer_num kf)) (cf_cons (shok_29 (ok_wire_writer_text kf)) (cf_cons (shok_24 hs) cf_nil))))))
    have hlf : LfOk (R := R) C_wire_writer_cmd 24 (lf_wire_writer_cmd wire_rest wire_blank wire_bad (wire_writer_num kf) (wire_writer_text kf) (wire_writer_cmd kf) (wire_writer_cmd_l25 (wire_writer_cmd kf) kf kf)) := (lf_top (lf_cons (lok_wire_writer_cmd_l25 hs kf kf) lf_nil))
    intro v1 v2 v3 v4 v5 v6 v7 v8 v9 v10 v11 K r h
    exact run_good t_wire_writer_cmd hcf hlf ((eq_wire_writer_cmd wire_rest wire_blank wire_bad (wire_writer_num kf) (wire_writer_text kf) (wire_writer_cmd kf) (wire_writer_cmd_l25 (wire_writer_cmd kf) kf kf) v1 v2 v3 v4 v5 v6 v7 v8 v9 v10 v11 K).trans h)

theorem t_wire_code : textOk C_wire_code.bef Tryd.prog 25 = true := by kernel_rfl

theorem ok_wire_code {R : Type} : Ok_wire_code (R := R) (wire_code) := by
  have hcf : CfOk (R := R) Tryd.prog glob raw (cf_wire_code) := (cf_cons (pok_46) cf_nil)
  have hlf : LfOk (R := R) C_wire_code 25 (lf_wire_code) := lf_none
  intro v1 K r h
  exact run_good t_wire_code hcf hlf ((eq_wire_code v1 K).trans h)

theorem t_wire_PutCmd : textOk C_wire_PutCmd.bef Tryd.prog 11 = true := by kernel_rfl

theorem ok_wire_PutCmd {R : Type} (kf : Nat) : Ok_wire_PutCmd (R := R) (wire_PutCmd kf) := by
  have hcf : CfOk (R := R) Tryd.prog glob raw (cf_wire_PutCmd (wire_writer_cmd kf) wire_code) := (cf_cons (shok_24 (ok_wire_writer_cmd kf)) (cf_cons (shok_25 ok_wire_code) cf_nil))
  have hlf : LfOk (R := R) C_wire_PutCmd 11 (lf_wire_PutCmd (wire_writer_cmd kf) wire_code) := lf_none
  intro v1 v2 v3 v4 v5 v6 v7 v8 v9 K r h
  exact run_good t_wire_PutCmd hcf hlf ((eq_wire_PutCmd (wire_writer_cmd kf) wire_code v1 v2 v3 v4 v5 v6 v7 v8 v9 K).trans h)

theorem t_octet_Take : textOk C_octet_Take.bef Tryd.prog 52 = true := by kernel_rfl

theorem ok_octet_Take {R : Type} : Ok_octet_Take (R := R) (octet_Take) := by
  have hcf : CfOk (R := R) Tryd.prog glob raw (cf_octet_Take) := cf_nil
  have hlf : LfOk (R := R) C_octet_Take 52 (lf_octet_Take) := lf_none
  intro v1 v2 v3 K r h
  exact run_good t_octet_Take hcf hlf ((eq_octet_Take v1 v2 v3 K).trans h)

theorem t_wire_reader_fails : textOk C_wire_reader_fails.bef Tryd.prog 37 = true := by kernel_rfl

theorem ok_wire_reader_fails {R : Type} : Ok_wire_reader_fails (R := R) (wire_reader_fails) := by
  have hcf : CfOk (R := R) Tryd.prog glob raw (cf_wire_reader_fails wire_bad) := (cf_cons (shok_45 ok_wire_bad) cf_nil)
  have hlf : LfOk (R := R) C_wire_reader_fails 37 (lf_wire_reader_fails wire_bad) := lf_none
  intro v1 v2 v3 K r h
  exact run_good t_wire_reader_fails hcf hlf ((eq_wire_reader_fails wire_bad v1 v2 v3 K).trans h)

theorem t_wire_reader_num : textOk C_wire_reader_num.bef Tryd.prog 36 = true := by kernel_rfl

theorem ok_wire_reader_num {R : Type} : Ok_wire_reader_num (R := R) (wire_reader_num) := by
  have hcf : CfOk (R := R) Tryd.prog glob raw (cf_wire_reader_num octet_Take wire_reader_fails) := (cf_cons (shok_52 ok_octet_Take) (cf_cons (shok_37 ok_wire_reader_fails) cf_nil))
  have hlf : LfOk (R := R) C_wire_reader_num 36 (lf_wire_reader_num octet_Take wire_reader_fails) := lf_none
  intro v1 v2 v3 K r h
  exact run_good t_wire_reader_num hcf hlf ((eq_wire_reader_num octet_Take wire_reader_fails v1 v2 v3 K).trans h)

theorem t_octet_TakeText : textOk C_octet_TakeText.bef Tryd.prog 53 = true := by kernel_rfl

theorem ok_octet_TakeText {R : Type} : Ok_octet_TakeText (R := R) (octet_TakeText) := by
  have hcf : CfOk (R := R) Tryd.prog glob raw (cf_octet_TakeText octet_Take) := (cf_cons (shok_52 ok_octet_Take) cf_nil)
  have hlf : LfOk (R := R) C_octet_TakeText 53 (lf_octet_TakeText octet_Take) := lf_none
  intro v1 v2 K r h
  exact run_good t_octet_TakeText hcf hlf ((eq_octet_TakeText octet_Take v1 v2 K).trans h)

theorem t_wire_reader_text : textOk C_wire_reader_text.bef Tryd.prog 38 = true := by kernel_rfl

theorem ok_wire_reader_text {R : Type} : Ok_wire_reader_text (R := R) (wire_reader_text) := by
  have hcf : CfOk (R := R) Tryd.prog glob raw (cf_wire_reader_text octet_TakeText wire_reader_fails) := (cf_cons (shok_53 ok_octet_TakeText) (cf_cons (shok_37 ok_wire_reader_fails) cf_nil))
  have hlf : LfOk (R := R) C_wire_reader_text 38 (lf_wire_reader_text octet_TakeText wire_reader_fails) := lf_none
  intro v1 v2 K r h
  exact run_good t_wire_reader_text hcf hlf ((eq_wire_reader_text octet_TakeText wire_reader_fails v1 v2 K).trans h)

theorem t_wire_reader_cmd : textOk C_wire_reader_cmd.bef Tryd.prog 34 = true := by kernel_rfl

theorem sln_wire_reader_cmd_l27 {R : Type} : SlOk (R := R) C_wire_reader_cmd 34 86 1 27 (sl_wire_reader_cmd_l27 (fun _ _ _ _ _ _ _ _ _ _ _ _ _ _ _ _ _ _ _ _ _ => none)) := by
  intro vs es K r h
  unfold sl_wire_reader_cmd_l27 at h
  split at h
  · obtain ⟨_, h⟩ := dite_some h; obtain ⟨_, h⟩ := dite_some h; obtain ⟨_, h⟩ := dite_some h; obtain ⟨_, h⟩ := dite_some h; exact no_some h
  · exact no_some h

theorem lok_wire_reader_cmd_l27 {R : Type} {c_self : Bool → (List Int) → Err → (Int → (List Int) → (List Int) → (List Int) → Int → Int → (List Int) → Err → (List Int) → (List (Rose (Int × ((List Int) × ((List Int) × ((List Int) × (Int × ((List Int) × (Int × Unit))))))))) → Option R) → Option R} (hs : Ok_wire_reader_cmd c_self) (kf : Nat) : ∀ n, SlOk (R := R) C_wire_reader_cmd 34 86 1 27 (sl_wire_reader_cmd_l27 (wire_reader_cmd_l27 c_self kf n)) := by
  intro n
  induction n with
  | zero =>
    intro vs es K r h
    unfold sl_wire_reader_cmd_l27 at h
    split at h
    · obtain ⟨_, h⟩ := dite_some h; obtain ⟨_, h⟩ := dite_some h; obtain ⟨_, h⟩ := dite_some h; obtain ⟨_, h⟩ := dite_some h; exact no_some h
    · exact no_some h
  | succ k ih =>
    have hcf : CfOk (R := R) Tryd.prog glob raw (cf_wire_reader_cmd wire_reader_num wire_reader_text wire_reader_fails c_self (wire_reader_cmd_l27 c_self kf k)) := (cf_cons (shok_36 ok_wire_reader_num) (cf_cons (shok_38 ok_wire_reader_text) (cf_cons (shok_37 ok_wire_reader_fails) (cf_cons (shok_34 hs) cf_nil))))
    have hlf : LfOk (R := R) C_wire_reader_cmd 34 (lf_wire_reader_cmd wire_reader_num wire_reader_text wire_reader_fails c_self (wire_reader_cmd_l27 c_self kf k)) := (lf_top (lf_cons ih lf_nil))
    intro vs es K r h
    unfold sl_wire_reader_cmd_l27 at h
    split at h
    · obtain ⟨q1, g1⟩ := dite_some h
      clear h
      try subst q1
      obtain ⟨q2, g2⟩ := dite_some g1
      clear g1
      try subst q2
      obtain ⟨q3, g3⟩ := dite_some g2
      clear g2
      try subst q3
      obtain ⟨q4, g4⟩ := dite_some g3
      clear g3
      try subst q4
      have h := g4
      clear g4
      repeat rw [castL_self] at h
      exact loop_good (text_mixed t_wire_reader_cmd) hcf hlf (text_loop t_wire_reader_cmd 27).1 (text_loop t_wire_reader_cmd 27).2 ((eq_wire_reader_cmd_l27 wire_reader_num wire_reader_text wire_reader_fails c_self (wire_reader_cmd_l27 c_self kf k) _ _ _ _ _ _ _ _ _ _ _ _ _ _ _ _ _ _ _ _ K).trans h)
    · exact no_some h

theorem ok_wire_reader_cmd {R : Type} : ∀ kf, Ok_wire_reader_cmd (R := R) (wire_reader_cmd kf) := by
  intro kf
  induction kf with
  | zero =>
    intro v1 v2 v3 K r h
    exact no_some h
  | succ kf hs =>
    have hcf : CfOk (R := R) Tryd.prog glob raw (cf_wire_reader_cmd wire_reader_num wire_reader_text wire_reader_fails (wire_reader_cmd kf) (wire_reader_cmd_l27 (wire_reader_cmd kf) kf kf)) := (cf_cons (shok_36 ok_wire_reader_num) (cf_cons (shok_38 ok_wire_reader_text) (cf_cons (shok_37 ok_wire_reader_fails) (cf_cons (shok_34 hs) cf_nil))))
    have hlf : LfOk (R := R) C_wire_reader_cmd 34 (lf_wire_reader_cmd wire_reader_num wire_reader_text wire_reader_fails (wire_reader_cmd kf) (wire_reader_cmd_l27 (wire_reader_cmd kf) kf kf)) := (lf_top (lf_cons (lok_wire_reader_cmd_l27 hs kf kf) lf_nil))
    intro v1 v2 v3 K r h
    exact run_good t_wire_reader_cmd hcf hlf ((eq_wire_reader_cmd wire_reader_num wire_reader_text wire_reader_fails (wire_reader_cmd kf) (wire_reader_cmd_l27 (wire_reader_cmd kf) kf kf) v1 v2 v3 K).trans h)

theorem t_wire_TakeCmd : textOk C_wire_TakeCmd.bef Tryd.prog 17 = true := by kernel_rfl

theorem ok_wire_TakeCmd {R : Type} (kf : Nat) : Ok_wire_TakeCmd (R := R) (wire_TakeCmd kf) := by
  have hcf : CfOk (R := R) Tryd.prog glob raw (cf_wire_TakeCmd (wire_reader_cmd kf) wire_code) := (cf_cons (shok_34 (ok_wire_reader_cmd kf)) (cf_cons (shok_25 ok_wire_code) cf_nil))
  have hlf : LfOk (R := R) C_wire_TakeCmd 17 (lf_wire_TakeCmd (wire_reader_cmd kf) wire_code) := lf_none
  intro v1 K r h
  exact run_good t_wire_TakeCmd hcf hlf ((eq_wire_TakeCmd (wire_reader_cmd kf) wire_code v1 K).trans h)

theorem t_wire_PutReply : textOk C_wire_PutReply.bef Tryd.prog 13 = true := by kernel_rfl

theorem sln_wire_PutReply_l13 {R : Type} : SlOk (R := R) C_wire_PutReply 13 79 0 13 (sl_wire_PutReply_l13 (fun _ _ _ _ _ _ _ => none)) := by
  intro vs es K r h
  unfold sl_wire_PutReply_l13 at h
  split at h <;> exact no_some h

theorem lok_wire_PutReply_l13 {R : Type} (kf : Nat) : ∀ n, SlOk (R := R) C_wire_PutReply 13 79 0 13 (sl_wire_PutReply_l13 (wire_PutReply_l13 kf n)) := by
  intro n
  induction n with
  | zero =>
    intro vs es K r h
    unfold sl_wire_PutReply_l13 at h
    split at h <;> exact no_some h
  | succ k ih =>
    have hcf : CfOk (R := R) Tryd.prog glob raw (cf_wire_PutReply (wire_writer_num kf) (wire_writer_text kf) wire_code (wire_PutReply_l13 kf k)) := (cf_cons (shok_28 (ok_wire_writer_num kf)) (cf_cons (shok_29 (ok_wire_writer_text kf)) (cf_cons (shok_25 ok_wire_code) cf_nil)))
    have hlf : LfOk (R := R) C_wire_PutReply 13 (lf_wire_PutReply (wire_writer_num kf) (wire_writer_text kf) wire_code (wire_PutReply_l13 kf k)) := (lf_top (lf_cons ih lf_nil))
    intro vs es K r h
    unfold sl_wire_PutReply_l13 at h
    split at h
    · exact loop_good (text_mixed t_wire_PutReply) hcf hlf (text_loop t_wire_PutReply 13).1 (text_loop t_wire_PutReply 13).2 ((eq_wire_PutReply_l13 (wire_writer_num kf) (wire_writer_text kf) wire_code (wire_PutReply_l13 kf k) _ _ _ _ _ _ K).trans h)
    · exact no_some h

theorem ok_wire_PutReply {R : Type} (kf : Nat) : Ok_wire_PutReply (R := R) (wire_PutReply kf) := by
  have hcf : CfOk (R := R) Tryd.prog glob raw (cf_wire_PutReply (wire_writer_num kf) (wire_writer_text kf) wire_code (wire_PutReply_l13 kf kf)) := (cf_cons (shok_28 (ok_wire_writer_num kf)) (cf_cons (shok_29 (ok_wire_writer_text kf)) (cf_cons (shok_25 ok_wire_code) cf_nil)))
  have hlf : LfOk (R := R) C_wire_PutReply 13 (lf_wire_PutReply (wire_writer_num kf) (wire_writer_text kf) wire_code (wire_PutReply_l13 kf kf)) := (lf_top (lf_cons (lok_wire_PutReply_l13 kf kf) lf_nil))
  intro v1 v2 v3 v4 v5 v6 v7 v8 K r h
  exact run_good t_wire_PutReply hcf hlf ((eq_wire_PutReply (wire_writer_num kf) (wire_writer_text kf) wire_code (wire_PutReply_l13 kf kf) v1 v2 v3 v4 v5 v6 v7 v8 K).trans h)

theorem t_wire_TakeReply : textOk C_wire_TakeReply.bef Tryd.prog 19 = true := by kernel_rfl

theorem sln_wire_TakeReply_l12 {R : Type} : SlOk (R := R) C_wire_TakeReply 19 78 0 12 (sl_wire_TakeReply_l12 (fun _ _ _ _ _ _ _ _ _ _ _ _ => none)) := by
  intro vs es K r h
  unfold sl_wire_TakeReply_l12 at h
  split at h <;> exact no_some h

theorem lok_wire_TakeReply_l12 {R : Type} (kf : Nat) : ∀ n, SlOk (R := R) C_wire_TakeReply 19 78 0 12 (sl_wire_TakeReply_l12 (wire_TakeReply_l12 kf n)) := by
  intro n
  induction n with
  | zero =>
    intro vs es K r h
    unfold sl_wire_TakeReply_l12 at h
    split at h <;> exact no_some h
  | succ k ih =>
    have hcf : CfOk (R := R) Tryd.prog glob raw (cf_wire_TakeReply wire_reader_num wire_reader_fails wire_reader_text wire_code (wire_TakeReply_l12 kf k)) := (cf_cons (shok_36 ok_wire_reader_num) (cf_cons (shok_37 ok_wire_reader_fails) (cf_cons (shok_38 ok_wire_reader_text) (cf_cons (shok_25 ok_wire_code) cf_nil))))
    have hlf : LfOk (R := R) C_wire_TakeReply 19 (lf_wire_TakeReply wire_reader_num wire_reader_fails wire_reader_text wire_code (wire_TakeReply_l12 kf k)) := (lf_top (lf_cons ih lf_nil))
    intro vs es K r h
    unfold sl_wire_TakeReply_l12 at h
    split at h
    · exact loop_good (text_mixed t_wire_TakeReply) hcf hlf (text_loop t_wire_TakeReply 12).1 (text_loop t_wire_TakeReply 12).2 ((eq_wire_TakeReply_l12 wire_reader_num wire_reader_fails wire_reader_text wire_code (wire_TakeReply_l12 kf k) _ _ _ _ _ _ _ _ _ _ _ K).trans h)
    · exact no_some h

theorem ok_wire_TakeReply {R : Type} (kf : Nat) : Ok_wire_TakeReply (R := R) (wire_TakeReply kf) := by
  have hcf : CfOk (R := R) Tryd.prog glob raw (cf_wire_TakeReply wire_reader_num wire_reader_fails wire_reader_text wire_code (wire_TakeReply_l12 kf kf)) := (cf_cons (shok_36 ok_wire_reader_num) (cf_cons (shok_37 ok_wire_reader_fails) (cf_cons (shok_38 ok_wire_reader_text) (cf_cons (shok_25 ok_wire_code) cf_nil))))
  have hlf : LfOk (R := R) C_wire_TakeReply 19 (lf_wire_TakeReply wire_reader_num wire_reader_fails wire_reader_text wire_code (wire_TakeReply_l12 kf kf)) := (lf_top (lf_cons (lok_wire_TakeReply_l12 kf kf) lf_nil))
  intro v1 K r h
  exact run_good t_wire_TakeReply hcf hlf ((eq_wire_TakeReply wire_reader_num wire_reader_fails wire_reader_text wire_code (wire_TakeReply_l12 kf kf) v1 K).trans h)

theorem t_law29_begun : textOk C_law29_begun.bef Tryd.prog 8 = true := by kernel_rfl

theorem ok_law29_begun {R : Type} (kf : Nat) : Ok_law29_begun (R := R) (law29_begun kf) := by
  have hcf : CfOk (R := R) Tryd.prog glob raw (cf_law29_begun (wire_PutCmd kf) (wire_TakeCmd kf) (wire_PutReply kf) (wire_TakeReply kf)) := (cf_cons (shok_11 (ok_wire_PutCmd kf)) (cf_cons (shok_17 (ok_wire_TakeCmd kf)) (cf_cons (shok_13 (ok_wire_PutReply kf)) (cf_cons (shok_19 (ok_wire_TakeReply kf)) cf_nil))))
  have hlf : LfOk (R := R) C_law29_begun 8 (lf_law29_begun (wire_PutCmd kf) (wire_TakeCmd kf) (wire_PutReply kf) (wire_TakeReply kf)) := lf_none
  intro K r h
  exact run_good t_law29_begun hcf hlf ((eq_law29_begun (wire_PutCmd kf) (wire_TakeCmd kf) (wire_PutReply kf) (wire_TakeReply kf) K).trans h)

theorem t_law0_Twin : textOk C_law0_Twin.bef Tryd.prog 10 = true := by kernel_rfl

theorem sln_law0_Twin_l4 {R : Type} : SlOk (R := R) C_law0_Twin 10 27 0 4 (sl_law0_Twin_l4 (fun _ _ _ _ _ => none)) := by
  intro vs es K r h
  unfold sl_law0_Twin_l4 at h
  split at h <;> exact no_some h

theorem lok_law0_Twin_l4 {R : Type} (kf : Nat) : ∀ n, SlOk (R := R) C_law0_Twin 10 27 0 4 (sl_law0_Twin_l4 (law0_Twin_l4 kf n)) := by
  intro n
  induction n with
  | zero =>
    intro vs es K r h
    unfold sl_law0_Twin_l4 at h
    split at h <;> exact no_some h
  | succ k ih =>
    have hcf : CfOk (R := R) Tryd.prog glob raw (cf_law0_Twin (law0_Twin_l4 kf k)) := cf_nil
    have hlf : LfOk (R := R) C_law0_Twin 10 (lf_law0_Twin (law0_Twin_l4 kf k)) := (lf_top (lf_cons ih lf_nil))
    intro vs es K r h
    unfold sl_law0_Twin_l4 at h
    split at h
    · exact loop_good (text_mixed t_law0_Twin) hcf hlf (text_loop t_law0_Twin 4).1 (text_loop t_law0_Twin 4).2 ((eq_law0_Twin_l4 (law0_Twin_l4 kf k) _ _ _ _ K).trans h)
    · exact no_some h

theorem ok_law0_Twin {R : Type} (kf : Nat) : Ok_law0_Twin (R := R) (law0_Twin kf) := by
  have hcf : CfOk (R := R) Tryd.prog glob raw (cf_law0_Twin (law0_Twin_l4 kf kf)) := cf_nil
  have hlf : LfOk (R := R) C_law0_Twin 10 (lf_law0_Twin (law0_Twin_l4 kf kf)) := (lf_top (lf_cons (lok_law0_Twin_l4 kf kf) lf_nil))
  intro v1 K r h
  exact run_good t_law0_Twin hcf hlf ((eq_law0_Twin (law0_Twin_l4 kf kf) v1 K).trans h)

theorem t_ref1_Take : textOk C_ref1_Take.bef Tryd.prog 54 = true := by kernel_rfl

theorem sln_ref1_Take_l7 {R : Type} : SlOk (R := R) C_ref1_Take 54 50 0 7 (sl_ref1_Take_l7 (fun _ _ _ _ _ => none)) := by
  intro vs es K r h
  unfold sl_ref1_Take_l7 at h
  split at h <;> exact no_some h

theorem lok_ref1_Take_l7 {R : Type} (kf : Nat) : ∀ n, SlOk (R := R) C_ref1_Take 54 50 0 7 (sl_ref1_Take_l7 (ref1_Take_l7 kf n)) := by
  intro n
  induction n with
  | zero =>
    intro vs es K r h
    unfold sl_ref1_Take_l7 at h
    split at h <;> exact no_some h
  | succ k ih =>
    have hcf : CfOk (R := R) Tryd.prog glob raw (cf_ref1_Take (ref1_Take_l7 kf k)) := cf_nil
    have hlf : LfOk (R := R) C_ref1_Take 54 (lf_ref1_Take (ref1_Take_l7 kf k)) := (lf_top (lf_cons ih lf_nil))
    intro vs es K r h
    unfold sl_ref1_Take_l7 at h
    split at h
    · exact loop_good (text_mixed t_ref1_Take) hcf hlf (text_loop t_ref1_Take 7).1 (text_loop t_ref1_Take 7).2 ((eq_ref1_Take_l7 (ref1_Take_l7 kf k) _ _ _ _ K).trans h)
    · exact no_some h

theorem ok_ref1_Take {R : Type} (kf : Nat) : Ok_ref1_Take (R := R) (ref1_Take kf) := by
  have hcf : CfOk (R := R) Tryd.prog glob raw (cf_ref1_Take (ref1_Take_l7 kf kf)) := cf_nil
  have hlf : LfOk (R := R) C_ref1_Take 54 (lf_ref1_Take (ref1_Take_l7 kf kf)) := (lf_top (lf_cons (lok_ref1_Take_l7 kf kf) lf_nil))
  intro v1 v2 v3 K r h
  exact run_good t_ref1_Take hcf hlf ((eq_ref1_Take (ref1_Take_l7 kf kf) v1 v2 v3 K).trans h)

theorem t_ref29_reader_fail : textOk C_ref29_reader_fail.bef Tryd.prog 40 = true := by kernel_rfl

theorem ok_ref29_reader_fail {R : Type} : Ok_ref29_reader_fail (R := R) (ref29_reader_fail) := by
  have hcf : CfOk (R := R) Tryd.prog glob raw (cf_ref29_reader_fail) := cf_nil
  have hlf : LfOk (R := R) C_ref29_reader_fail 40 (lf_ref29_reader_fail) := lf_none
  intro v1 v2 v3 v4 K r h
  exact run_good t_ref29_reader_fail hcf hlf ((eq_ref29_reader_fail v1 v2 v3 v4 K).trans h)

theorem t_ref29_reader_num : textOk C_ref29_reader_num.bef Tryd.prog 39 = true := by kernel_rfl

theorem ok_ref29_reader_num {R : Type} (kf : Nat) : Ok_ref29_reader_num (R := R) (ref29_reader_num kf) := by
  have hcf : CfOk (R := R) Tryd.prog glob raw (cf_ref29_reader_num (ref1_Take kf) ref29_reader_fail) := (cf_cons (shok_54 (ok_ref1_Take kf)) (cf_cons (shok_40 ok_ref29_reader_fail) cf_nil))
  have hlf : LfOk (R := R) C_ref29_reader_num 39 (lf_ref29_reader_num (ref1_Take kf) ref29_reader_fail) := lf_none
  intro v1 v2 v3 v4 K r h
  exact run_good t_ref29_reader_num hcf hlf ((eq_ref29_reader_num (ref1_Take kf) ref29_reader_fail v1 v2 v3 v4 K).trans h)

theorem t_ref29_fields : textOk C_ref29_fields.bef Tryd.prog 47 = true := by kernel_rfl

theorem ok_ref29_fields {R : Type} : Ok_ref29_fields (R := R) (ref29_fields) := by
  have hcf : CfOk (R := R) Tryd.prog glob raw (cf_ref29_fields) := cf_nil
  have hlf : LfOk (R := R) C_ref29_fields 47 (lf_ref29_fields) := lf_none
  intro v1 K r h
  exact run_good t_ref29_fields hcf hlf ((eq_ref29_fields v1 K).trans h)

theorem t_ref1_TakeText : textOk C_ref1_TakeText.bef Tryd.prog 55 = true := by kernel_rfl

theorem ok_ref1_TakeText {R : Type} (kf : Nat) : Ok_ref1_TakeText (R := R) (ref1_TakeText kf) := by
  have hcf : CfOk (R := R) Tryd.prog glob raw (cf_ref1_TakeText (ref1_Take kf)) := (cf_cons (shok_54 (ok_ref1_Take kf)) cf_nil)
  have hlf : LfOk (R := R) C_ref1_TakeText 55 (lf_ref1_TakeText (ref1_Take kf)) := lf_none
  intro v1 v2 K r h
  exact run_good t_ref1_TakeText hcf hlf ((eq_ref1_TakeText (ref1_Take kf) v1 v2 K).trans h)

theorem t_ref29_reader_bytes : textOk C_ref29_reader_bytes.bef Tryd.prog 41 = true := by kernel_rfl

theorem ok_ref29_reader_bytes {R : Type} (kf : Nat) : Ok_ref29_reader_bytes (R := R) (ref29_reader_bytes kf) := by
  have hcf : CfOk (R := R) Tryd.prog glob raw (cf_ref29_reader_bytes (ref1_TakeText kf) ref29_reader_fail) := (cf_cons (shok_55 (ok_ref1_TakeText kf)) (cf_cons (shok_40 ok_ref29_reader_fail) cf_nil))
  have hlf : LfOk (R := R) C_ref29_reader_bytes 41 (lf_ref29_reader_bytes (ref1_TakeText kf) ref29_reader_fail) := lf_none
  intro v1 v2 v3 K r h
  exact run_good t_ref29_reader_bytes hcf hlf ((eq_ref29_reader_bytes (ref1_TakeText kf) ref29_reader_fail v1 v2 v3 K).trans h)

theorem t_ref29_reader_cmd : textOk C_ref29_reader_cmd.bef Tryd.prog 35 = true := by kernel_rfl

theorem sln_ref29_reader_cmd_l7 {R : Type} : SlOk (R := R) C_ref29_reader_cmd 35 112 1 7 (sl_ref29_reader_cmd_l7 (fun _ _ _ _ _ _ _ _ _ _ _ _ _ _ _ _ _ _ _ _ _ _ => none)) := by
  intro vs es K r h
  unfold sl_ref29_reader_cmd_l7 at h
  split at h
  · obtain ⟨_, h⟩ := dite_some h; obtain ⟨_, h⟩ := dite_some h; obtain ⟨_, h⟩ := dite_some h; obtain ⟨_, h⟩ := dite_some h; exact no_some h
  · exact no_some h

theorem sln_ref29_reader_cmd_l27 {R : Type} : SlOk (R := R) C_ref29_reader_cmd 35 112 1 27 (sl_ref29_reader_cmd_l27 (fun _ _ _ _ _ _ _ _ _ _ _ _ _ _ _ _ _ _ _ _ _ _ _ _ => none)) := by
  intro vs es K r h
  unfold sl_ref29_reader_cmd_l27 at h
  split at h
  · obtain ⟨_, h⟩ := dite_some h; obtain ⟨_, h⟩ := dite_some h; obtain ⟨_, h⟩ := dite_some h; obtain ⟨_, h⟩ := dite_some h; exact no_some h
  · exact no_some h

theorem lok_ref29_reader_cmd_l27 {R : Type} {c_self : Bool → (List Int) → Int → Int → (Int → (List Int) → (List Int) → (List Int) → Int → Int → (List Int) → Int → Int → (List Int) → (List (Rose (Int × ((List Int) × ((List Int) × ((List Int) × (Int × ((List Int) × (Int × Unit))))))))) → Option R) → Option R} (hs : Ok_ref29_reader_cmd c_self) (kf : Nat) : ∀ n, SlOk (R := R) C_ref29_reader_cmd 35 112 1 27 (sl_ref29_reader_cmd_l27 (ref29_reader_cmd_l27 c_self kf n)) := by
  intro n
  induction n with
  | zero =>
    intro vs es K r h
    unfold sl_ref29_reader_cmd_l27 at h
    split at h
    · obtain ⟨_, h⟩ := dite_some h; obtain ⟨_, h⟩ := dite_some h; obtain ⟨_, h⟩ := dite_some h; obtain ⟨_, h⟩ := dite_some h; exact no_some h
    · exact no_some h
  | succ k ih =>
    have hcf : CfOk (R := R) Tryd.prog glob raw (cf_ref29_reader_cmd (ref29_reader_num kf) ref29_fields ref29_reader_fail (ref29_reader_bytes kf) c_self (fun _ _ _ _ _ _ _ _ _ _ _ _ _ _ _ _ _ _ _ _ _ _ => none) (ref29_reader_cmd_l27 c_self kf k)) := (cf_cons (shok_39 (ok_ref29_reader_num kf)) (cf_cons (shok_47 ok_ref29_fields) (cf_cons (shok_40 ok_ref29_reader_fail) (cf_cons (shok_41 (ok_ref29_reader_bytes kf)) (cf_cons (shok_35 hs) cf_nil)))))
    have hlf : LfOk (R := R) C_ref29_reader_cmd 35 (lf_ref29_reader_cmd (ref29_reader_num kf) ref29_fields ref29_reader_fail (ref29_reader_bytes kf) c_self (fun _ _ _ _ _ _ _ _ _ _ _ _ _ _ _ _ _ _ _ _ _ _ => none) (ref29_reader_cmd_l27 c_self kf k)) := (lf_top (lf_cons (sln_ref29_reader_cmd_l7) (lf_cons ih lf_nil)))
    intro vs es K r h
    unfold sl_ref29_reader_cmd_l27 at h
    split at h
    · obtain ⟨q1, g1⟩ := dite_some h
      clear h
      try subst q1
      obtain ⟨q2, g2⟩ := dite_some g1
      clear g1
      try subst q2
      obtain ⟨q3, g3⟩ := dite_some g2
      clear g2
      try subst q3
      obtain ⟨q4, g4⟩ := dite_some g3
      clear g3
      try subst q4
      have h := g4
      clear g4
      repeat rw [castL_self] at h
      exact loop_good (text_mixed t_ref29_reader_cmd) hcf hlf (text_loop t_ref29_reader_cmd 27).1 (text_loop t_ref29_reader_cmd 27).2 ((eq_ref29_reader_cmd_l27 (ref29_reader_num kf) ref29_fields ref29_reader_fail (ref29_reader_bytes kf) c_self (fun _ _ _ _ _ _ _ _ _ _ _ _ _ _ _ _ _ _ _ _ _ _ => none) (ref29_reader_cmd_l27 c_self kf k) _ _ _ _ _ _ _ _ _ _ _ _ _ _ _ _ _ _ _ _ _ _ _ K).trans h)
    · exact no_some h

theorem lok_ref29_reader_cmd_l7 {R : Type} {c_self : Bool → (List Int) → Int → Int → (Int → (List Int) → (List Int) → (List Int) → Int → Int → (List Int) → Int → Int → (List Int) → (List (Rose (Int × ((List Int) × ((List Int) × ((List Int) × (Int × ((List Int) × (Int × Unit))))))))) → Option R) → Option R} (hs : Ok_ref29_reader_cmd c_self) (kf : Nat) : ∀ n, SlOk (R := R) C_ref29_reader_cmd 35 112 1 7 (sl_ref29_reader_cmd_l7 (ref29_reader_cmd_l7 c_self kf n)) := by
  intro n
  induction n with
  | zero =>
    intro vs es K r h
    unfold sl_ref29_reader_cmd_l7 at h
    split at h
    · obtain ⟨_, h⟩ := dite_some h; obtain ⟨_, h⟩ := dite_some h; obtain ⟨_, h⟩ := dite_some h; obtain ⟨_, h⟩ := dite_some h; exact no_some h
    · exact no_some h
  | succ k ih =>
    have hcf : CfOk (R := R) Tryd.prog glob raw (cf_ref29_reader_cmd (ref29_reader_num kf) ref29_fields ref29_reader_fail (ref29_reader_bytes kf) c_self (ref29_reader_cmd_l7 c_self kf k) (ref29_reader_cmd_l27 c_self kf k)) := (cf_cons (shok_39 (ok_ref29_reader_num kf)) (cf_cons (shok_47 ok_ref29_fields) (cf_cons (shok_40 ok_ref29_reader_fail) (cf_cons (shok_41 (ok_ref29_reader_bytes kf)) (cf_cons (shok_35 hs) cf_nil)))))
    have hlf : LfOk (R := R) C_ref29_reader_cmd 35 (lf_ref29_reader_cmd (ref29_reader_num kf) ref29_fields ref29_reader_fail (ref29_reader_bytes kf) c_self (ref29_reader_cmd_l7 c_self kf k) (ref29_reader_cmd_l27 c_self kf k)) := (lf_top (lf_cons ih (lf_cons (lok_ref29_reader_cmd_l27 hs kf k) lf_nil)))
    intro vs es K r h
    unfold sl_ref29_reader_cmd_l7 at h
    split at h
    · obtain ⟨q1, g1⟩ := dite_some h
      clear h
      try subst q1
      obtain ⟨q2, g2⟩ := dite_some g1
      clear g1
      try subst q2
      obtain ⟨q3, g3⟩ := dite_some g2
      clear g2
      try subst q3
      obtain ⟨q4, g4⟩ := dite_some g3
      clear g3
      try subst q4
      have h := g4
      clear g4
      repeat rw [castL_self] at h
      exact loop_good (text_mixed t_ref29_reader_cmd) hcf hlf (text_loop t_ref29_reader_cmd 7).1 (text_loop t_ref29_reader_cmd 7).2 ((eq_ref29_reader_cmd_l7 (ref29_reader_num kf) ref29_fields ref29_reader_fail (ref29_reader_bytes kf) c_self (ref29_reader_cmd_l7 c_self kf k) (ref29_reader_cmd_l27 c_self kf k) _ _ _ _ _ _ _ _ _ _ _ _ _ _ _ _ _ _ _ _ _ K).trans h)
    · exact no_some h

theorem ok_ref29_reader_cmd {R : Type} : ∀ kf, Ok_ref29_reader_cmd (R := R) (ref29_reader_cmd kf) := by
  intro kf
  induction kf with
  | zero =>
    intro v1 v2 v3 v4 K r h
    exact no_some h
  | succ kf hs =>
    have hcf : CfOk (R := R) Tryd.prog glob raw (cf_ref29_reader_cmd (ref29_reader_num kf) ref29_fields ref29_reader_fail (ref29_reader_bytes kf) (ref29_reader_cmd kf) (ref29_reader_cmd_l7 (ref29_reader_cmd kf) kf kf) (ref29_reader_cmd_l27 (ref29_reader_cmd kf) kf kf)) := (cf_cons (shok_39 (ok_ref29_reader_num kf)) (cf_cons (shok_47 ok_ref29_fields) (cf_cons (shok_40 ok_ref29_reader_fail) (cf_cons (shok_41 (ok_ref29_reader_bytes kf)) (cf_cons (shok_35 hs) cf_nil)))))
    have hlf : LfOk (R := R) C_ref29_reader_cmd 35 (lf_ref29_reader_cmd (ref29_reader_num kf) ref29_fields ref29_reader_fail (ref29_reader_bytes kf) (ref29_reader_cmd kf) (ref29_reader_cmd_l7 (ref29_reader_cmd kf) kf kf) (ref29_reader_cmd_l27 (ref29_reader_cmd kf) kf kf)) := (lf_top (lf_cons (lok_ref29_reader_cmd_l7 hs kf kf) (lf_cons (lok_ref29_reader_cmd_l27 hs kf kf) lf_nil)))
    intro v1 v2 v3 v4 K r h
    exact run_good t_ref29_reader_cmd hcf hlf ((eq_ref29_reader_cmd (ref29_reader_num kf) ref29_fields ref29_reader_fail (ref29_reader_bytes kf) (ref29_reader_cmd kf) (ref29_reader_cmd_l7 (ref29_reader_cmd kf) kf kf) (ref29_reader_cmd_l27 (ref29_reader_cmd kf) kf kf) v1 v2 v3 v4 K).trans h)

theorem t_ref29_TakeCmd : textOk C_ref29_TakeCmd.bef Tryd.prog 18 = true := by kernel_rfl

theorem ok_ref29_TakeCmd {R : Type} (kf : Nat) : Ok_ref29_TakeCmd (R := R) (ref29_TakeCmd kf) := by
  have hcf : CfOk (R := R) Tryd.prog glob raw (cf_ref29_TakeCmd (ref29_reader_cmd kf)) := (cf_cons (shok_35 (ok_ref29_reader_cmd kf)) cf_nil)
  have hlf : LfOk (R := R) C_ref29_TakeCmd 18 (lf_ref29_TakeCmd (ref29_reader_cmd kf)) := lf_none
  intro v1 K r h
  exact run_good t_ref29_TakeCmd hcf hlf ((eq_ref29_TakeCmd (ref29_reader_cmd kf) v1 K).trans h)

theorem t_ref29_TakeReply : textOk C_ref29_TakeReply.bef Tryd.prog 20 = true := by kernel_rfl

theorem sln_ref29_TakeReply_l14 {R : Type} : SlOk (R := R) C_ref29_TakeReply 20 77 0 14 (sl_ref29_TakeReply_l14 (fun _ _ _ _ _ _ _ _ _ _ _ _ _ _ _ _ _ _ _ _ => none)) := by
  intro vs es K r h
  unfold sl_ref29_TakeReply_l14 at h
  split at h <;> exact no_some h

theorem lok_ref29_TakeReply_l14 {R : Type} (kf : Nat) : ∀ n, SlOk (R := R) C_ref29_TakeReply 20 77 0 14 (sl_ref29_TakeReply_l14 (ref29_TakeReply_l14 kf n)) := by
  intro n
  induction n with
  | zero =>
    intro vs es K r h
    unfold sl_ref29_TakeReply_l14 at h
    split at h <;> exact no_some h
  | succ k ih =>
    have hcf : CfOk (R := R) Tryd.prog glob raw (cf_ref29_TakeReply (ref29_reader_num kf) ref29_reader_fail (ref29_reader_bytes kf) (ref29_TakeReply_l14 kf k)) := (cf_cons (shok_39 (ok_ref29_reader_num kf)) (cf_cons (shok_40 ok_ref29_reader_fail) (cf_cons (shok_41 (ok_ref29_reader_bytes kf)) cf_nil)))
    have hlf : LfOk (R := R) C_ref29_TakeReply 20 (lf_ref29_TakeReply (ref29_reader_num kf) ref29_reader_fail (ref29_reader_bytes kf) (ref29_TakeReply_l14 kf k)) := (lf_top (lf_cons ih lf_nil))
    intro vs es K r h
    unfold sl_ref29_TakeReply_l14 at h
    split at h
    · exact loop_good (text_mixed t_ref29_TakeReply) hcf hlf (text_loop t_ref29_TakeReply 14).1 (text_loop t_ref29_TakeReply 14).2 ((eq_ref29_TakeReply_l14 (ref29_reader_num kf) ref29_reader_fail (ref29_reader_bytes kf) (ref29_TakeReply_l14 kf k) _ _ _ _ _ _ _ _ _ _ _ _ _ _ _ _ _ _ _ K).trans h)
    · exact no_some h

theorem ok_ref29_TakeReply {R : Type} (kf : Nat) : Ok_ref29_TakeReply (R := R) (ref29_TakeReply kf) := by
  have hcf : CfOk (R := R) Tryd.prog glob raw (cf_ref29_TakeReply (ref29_reader_num kf) ref29_reader_fail (ref29_reader_bytes kf) (ref29_TakeReply_l14 kf kf)) := (cf_cons (shok_39 (ok_ref29_reader_num kf)) (cf_cons (shok_40 ok_ref29_reader_fail) (cf_cons (shok_41 (ok_ref29_reader_bytes kf)) cf_nil)))
  have hlf : LfOk (R := R) C_ref29_TakeReply 20 (lf_ref29_TakeReply (ref29_reader_num kf) ref29_reader_fail (ref29_reader_bytes kf) (ref29_TakeReply_l14 kf kf)) := (lf_top (lf_cons (lok_ref29_TakeReply_l14 kf kf) lf_nil))
  intro v1 K r h
  exact run_good t_ref29_TakeReply hcf hlf ((eq_ref29_TakeReply (ref29_reader_num kf) ref29_reader_fail (ref29_reader_bytes kf) (ref29_TakeReply_l14 kf kf) v1 K).trans h)

theorem t_law0_Kept : textOk C_law0_Kept.bef Tryd.prog 15 = true := by kernel_rfl

theorem sln_law0_Kept_l5 {R : Type} : SlOk (R := R) C_law0_Kept 15 38 1 5 (sl_law0_Kept_l5 (fun _ _ _ _ _ _ => none)) := by
  intro vs es K r h
  unfold sl_law0_Kept_l5 at h
  split at h <;> exact no_some h

theorem lok_law0_Kept_l5 {R : Type} (kf : Nat) : ∀ n, SlOk (R := R) C_law0_Kept 15 38 1 5 (sl_law0_Kept_l5 (law0_Kept_l5 kf n)) := by
  intro n
  induction n with
  | zero =>
    intro vs es K r h
    unfold sl_law0_Kept_l5 at h
    split at h <;> exact no_some h
  | succ k ih =>
    have hcf : CfOk (R := R) Tryd.prog glob raw (cf_law0_Kept (law0_Kept_l5 kf k)) := cf_nil
    have hlf : LfOk (R := R) C_law0_Kept 15 (lf_law0_Kept (law0_Kept_l5 kf k)) := (lf_top (lf_cons ih lf_nil))
    intro vs es K r h
    unfold sl_law0_Kept_l5 at h
    split at h
    · exact loop_good (text_mixed t_law0_Kept) hcf hlf (text_loop t_law0_Kept 5).1 (text_loop t_law0_Kept 5).2 ((eq_law0_Kept_l5 (law0_Kept_l5 kf k) _ _ _ _ K).trans h)
    · exact no_some h

theorem ok_law0_Kept {R : Type} (kf : Nat) : Ok_law0_Kept (R := R) (law0_Kept kf) := by
  have hcf : CfOk (R := R) Tryd.prog glob raw (cf_law0_Kept (law0_Kept_l5 kf kf)) := cf_nil
  have hlf : LfOk (R := R) C_law0_Kept 15 (lf_law0_Kept (law0_Kept_l5 kf kf)) := (lf_top (lf_cons (lok_law0_Kept_l5 kf kf) lf_nil))
  intro v1 v2 v3 K r h
  exact run_good t_law0_Kept hcf hlf ((eq_law0_Kept (law0_Kept_l5 kf kf) v1 v2 v3 K).trans h)

theorem t_ref29_SameCmd : textOk C_ref29_SameCmd.bef Tryd.prog 21 = true := by kernel_rfl

theorem sln_ref29_SameCmd_l4 {R : Type} : SlOk (R := R) C_ref29_SameCmd 21 83 0 4 (sl_ref29_SameCmd_l4 (fun _ _ _ _ _ => none)) := by
  intro vs es K r h
  unfold sl_ref29_SameCmd_l4 at h
  split at h
  · obtain ⟨_, h⟩ := dite_some h; obtain ⟨_, h⟩ := dite_some h; exact no_some h
  · exact no_some h

theorem lok_ref29_SameCmd_l4 {R : Type} {c_self : Int → (List Int) → (List Int) → (List Int) → Int → (List Int) → Int → (List (Rose (Int × ((List Int) × ((List Int) × ((List Int) × (Int × ((List Int) × (Int × Unit))))))))) → Int → (List Int) → (List Int) → (List Int) → Int → (List Int) → Int → (List (Rose (Int × ((List Int) × ((List Int) × ((List Int) × (Int × ((List Int) × (Int × Unit))))))))) → (Bool → Option R) → Option R} (hs : Ok_ref29_SameCmd c_self) (kf : Nat) : ∀ n, SlOk (R := R) C_ref29_SameCmd 21 83 0 4 (sl_ref29_SameCmd_l4 (ref29_SameCmd_l4 c_self kf n)) := by
  intro n
  induction n with
  | zero =>
    intro vs es K r h
    unfold sl_ref29_SameCmd_l4 at h
    split at h
    · obtain ⟨_, h⟩ := dite_some h; obtain ⟨_, h⟩ := dite_some h; exact no_some h
    · exact no_some h
  | succ k ih =>
    have hcf : CfOk (R := R) Tryd.prog glob raw (cf_ref29_SameCmd c_self (ref29_SameCmd_l4 c_self kf k)) := (cf_cons (shok_21 hs) cf_nil)
    have hlf : LfOk (R := R) C_ref29_SameCmd 21 (lf_ref29_SameCmd c_self (ref29_SameCmd_l4 c_self kf k)) := (lf_top (lf_cons ih lf_nil))
    intro vs es K r h
    unfold sl_ref29_SameCmd_l4 at h
    split at h
    · obtain ⟨q1, g1⟩ := dite_some h
      clear h
      try subst q1
      obtain ⟨q2, g2⟩ := dite_some g1
      clear g1
      try subst q2
      have h := g2
      clear g2
      repeat rw [castL_self] at h
      exact loop_good (text_mixed t_ref29_SameCmd) hcf hlf (text_loop t_ref29_SameCmd 4).1 (text_loop t_ref29_SameCmd 4).2 ((eq_ref29_SameCmd_l4 c_self (ref29_SameCmd_l4 c_self kf k) _ _ _ _ _ _ _ _ _ _ _ _ _ _ _ _ _ K).trans h)
    · exact no_some h

theorem ok_ref29_SameCmd {R : Type} : ∀ kf, Ok_ref29_SameCmd (R := R) (ref29_SameCmd kf) := by
  intro kf
  induction kf with
  | zero =>
    intro v1 v2 v3 v4 v5 v6 v7 v8 v9 v10 v11 v12 v13 v14 v15 v16 K r h
    exact no_some h
  | succ kf hs =>
    have hcf : CfOk (R := R) Tryd.prog glob raw (cf_ref29_SameCmd (ref29_SameCmd kf) (ref29_SameCmd_l4 (ref29_SameCmd kf) kf kf)) := (cf_cons (shok_21 hs) cf_nil)
    have hlf : LfOk (R := R) C_ref29_SameCmd 21 (lf_ref29_SameCmd (ref29_SameCmd kf) (ref29_SameCmd_l4 (ref29_SameCmd kf) kf kf)) := (lf_top (lf_cons (lok_ref29_SameCmd_l4 hs kf kf) lf_nil))
    intro v1 v2 v3 v4 v5 v6 v7 v8 v9 v10 v11 v12 v13 v14 v15 v16 K r h
    exact run_good t_ref29_SameCmd hcf hlf ((eq_ref29_SameCmd (ref29_SameCmd kf) (ref29_SameCmd_l4 (ref29_SameCmd kf) kf kf) v1 v2 v3 v4 v5 v6 v7 v8 v9 v10 v11 v12 v13 v14 v15 v16 K).trans h)

theorem t_ref11_SameVerdict : textOk C_ref11_SameVerdict.bef Tryd.prog 42 = true := by kernel_rfl

theorem ok_ref11_SameVerdict {R : Type} : Ok_ref11_SameVerdict (R := R) (ref11_SameVerdict) := by
  have hcf : CfOk (R := R) Tryd.prog glob raw (cf_ref11_SameVerdict) := cf_nil
  have hlf : LfOk (R := R) C_ref11_SameVerdict 42 (lf_ref11_SameVerdict) := lf_none
  intro v1 v2 v3 v4 K r h
  exact run_good t_ref11_SameVerdict hcf hlf ((eq_ref11_SameVerdict v1 v2 v3 v4 K).trans h)

theorem t_ref25_SameReply : textOk C_ref25_SameReply.bef Tryd.prog 22 = true := by kernel_rfl

theorem sln_ref25_SameReply_l4 {R : Type} : SlOk (R := R) C_ref25_SameReply 22 67 0 4 (sl_ref25_SameReply_l4 (fun _ _ _ _ _ => none)) := by
  intro vs es K r h
  unfold sl_ref25_SameReply_l4 at h
  split at h <;> exact no_some h

theorem lok_ref25_SameReply_l4 {R : Type} (kf : Nat) : ∀ n, SlOk (R := R) C_ref25_SameReply 22 67 0 4 (sl_ref25_SameReply_l4 (ref25_SameReply_l4 kf n)) := by
  intro n
  induction n with
  | zero =>
    intro vs es K r h
    unfold sl_ref25_SameReply_l4 at h
    split at h <;> exact no_some h
  | succ k ih =>
    have hcf : CfOk (R := R) Tryd.prog glob raw (cf_ref25_SameReply ref11_SameVerdict (ref25_SameReply_l4 kf k)) := (cf_cons (shok_42 ok_ref11_SameVerdict) cf_nil)
    have hlf : LfOk (R := R) C_ref25_SameReply 22 (lf_ref25_SameReply ref11_SameVerdict (ref25_SameReply_l4 kf k)) := (lf_top (lf_cons ih lf_nil))
    intro vs es K r h
    unfold sl_ref25_SameReply_l4 at h
    split at h
    · exact loop_good (text_mixed t_ref25_SameReply) hcf hlf (text_loop t_ref25_SameReply 4).1 (text_loop t_ref25_SameReply 4).2 ((eq_ref25_SameReply_l4 ref11_SameVerdict (ref25_SameReply_l4 kf k) _ _ _ _ _ _ _ _ _ _ _ _ _ _ _ K).trans h)
    · exact no_some h

theorem ok_ref25_SameReply {R : Type} (kf : Nat) : Ok_ref25_SameReply (R := R) (ref25_SameReply kf) := by
  have hcf : CfOk (R := R) Tryd.prog glob raw (cf_ref25_SameReply ref11_SameVerdict (ref25_SameReply_l4 kf kf)) := (cf_cons (shok_42 ok_ref11_SameVerdict) cf_nil)
  have hlf : LfOk (R := R) C_ref25_SameReply 22 (lf_ref25_SameReply ref11_SameVerdict (ref25_SameReply_l4 kf kf)) := (lf_top (lf_cons (lok_ref25_SameReply_l4 kf kf) lf_nil))
  intro v1 v2 v3 v4 v5 v6 v7 v8 v9 v10 v11 v12 v13 v14 K r h
  exact run_good t_ref25_SameReply hcf hlf ((eq_ref25_SameReply ref11_SameVerdict (ref25_SameReply_l4 kf kf) v1 v2 v3 v4 v5 v6 v7 v8 v9 v10 v11 v12 v13 v14 K).trans h)

theorem t_law29_WireReads : textOk C_law29_WireReads.bef Tryd.prog 4 = true := by kernel_rfl

theorem ok_law29_WireReads {R : Type} (kf : Nat) : Ok_law29_WireReads (R := R) (law29_WireReads kf) := by
  have hcf : CfOk (R := R) Tryd.prog glob raw (cf_law29_WireReads (law29_begun kf) (law0_Twin kf) (wire_TakeCmd kf) (ref29_TakeCmd kf) (wire_TakeReply kf) (ref29_TakeReply kf) (law0_Kept kf) (ref29_SameCmd kf) (ref25_SameReply kf)) := (cf_cons (shok_8 (ok_law29_begun kf)) (cf_cons (shok_10 (ok_law0_Twin kf)) (cf_cons (shok_17 (ok_wire_TakeCmd kf)) (cf_cons (shok_18 (ok_ref29_TakeCmd kf)) (cf_cons (shok_19 (ok_wire_TakeReply kf)) (cf_cons (shok_20 (ok_ref29_TakeReply kf)) (cf_cons (shok_15 (ok_law0_Kept kf)) (cf_cons (pok_16) (cf_cons (shok_21 (ok_ref29_SameCmd kf)) (cf_cons (shok_22 (ok_ref25_SameReply kf)) cf_nil))))))))))
  have hlf : LfOk (R := R) C_law29_WireReads 4 (lf_law29_WireReads (law29_begun kf) (law0_Twin kf) (wire_TakeCmd kf) (ref29_TakeCmd kf) (wire_TakeReply kf) (ref29_TakeReply kf) (law0_Kept kf) (ref29_SameCmd kf) (ref25_SameReply kf)) := lf_none
  intro v1 K r h
  exact run_good t_law29_WireReads hcf hlf ((eq_law29_WireReads (law29_begun kf) (law0_Twin kf) (wire_TakeCmd kf) (ref29_TakeCmd kf) (wire_TakeReply kf) (ref29_TakeReply kf) (law0_Kept kf) (ref29_SameCmd kf) (ref25_SameReply kf) v1 K).trans h)

end
end Go.Ab.T
