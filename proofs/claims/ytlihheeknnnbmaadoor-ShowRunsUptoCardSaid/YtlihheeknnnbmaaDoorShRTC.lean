/- ShRTC: a part of the proofs of this seat's statements. -/
import Derived.Test.YtlihheeknnnbmaaDoorShRTB
import Derived.Test.YtlihheeknnnbmaaDoorKnot
import Derived.Test.YtlihheeknnnbmaaDoorShRTP



namespace Go.Ab.T

open Go Go.Ab Go.Proofs

set_option maxRecDepth 100000

set_option linter.unusedVariables false

noncomputable section

def Ok_law7_ShowRuns {R : Type} (c : Int → Int → (Bool → Option R) → Option R) : Prop := ∀ (v1 : Int) (v2 : Int) (K : S → List Ent → Option R) (r : R), c v1 v2 (fun (r0 : Bool) => K (.bool r0) []) = some r → ∃ v es, FnOk Tryd.prog glob 7 (npF raw 7 []) [.int .u8 v1, .int .u8 v2] [] v es ∧ K v es = some r

theorem okn_law7_ShowRuns {R : Type} : Ok_law7_ShowRuns (R := R) (fun _ _ _ => none) := fun _ _ _ _ h => no_some h

theorem shok_7 {R : Type} {c_law7_ShowRuns : Int → Int → (Bool → Option R) → Option R} (h_law7_ShowRuns : Ok_law7_ShowRuns c_law7_ShowRuns) : ShOk Tryd.prog glob raw 7 (sh7 c_law7_ShowRuns) := by
  intro av es K r h
  unfold sh7 at h
  split at h
  · exact h_law7_ShowRuns _ _ _ _ h
  · exact no_some h

def Ok_law7_begun {R : Type} (c : (Bool → Option R) → Option R) : Prop := ∀ (K : S → List Ent → Option R) (r : R), c (fun (r0 : Bool) => K (.bool r0) []) = some r → ∃ v es, FnOk Tryd.prog glob 9 (npF raw 9 []) [] [] v es ∧ K v es = some r

theorem okn_law7_begun {R : Type} : Ok_law7_begun (R := R) (fun _ => none) := fun _ _ h => no_some h

theorem shok_9 {R : Type} {c_law7_begun : (Bool → Option R) → Option R} (h_law7_begun : Ok_law7_begun c_law7_begun) : ShOk Tryd.prog glob raw 9 (sh9 c_law7_begun) := by
  intro av es K r h
  unfold sh9 at h
  split at h
  · exact h_law7_begun _ _ h
  · exact no_some h

def Ok_ref5_Copy {R : Type} (c : Int → (List Int) → (List (Rose (Int × ((List Int) × Unit)))) → (Int → (List Int) → (List (Rose (Int × ((List Int) × Unit)))) → Option R) → Option R) : Prop := ∀ (v1 : Int) (v2 : (List Int)) (v3 : (List (Rose (Int × ((List Int) × Unit))))) (K : S → List Ent → Option R) (r : R), c v1 v2 v3 (fun (r0 : Int) (r1 : (List Int)) (r2 : (List (Rose (Int × ((List Int) × Unit))))) => K (.st [.int .i64 r0, .arr 4 (.int .u64) r1, .own (.rose (.pair (.int .i64) (.pair (.arr 4 (.int .u64)) .unit))) 0]) [.buf (.rose (.pair (.int .i64) (.pair (.arr 4 (.int .u64)) .unit))) r2 false]) = some r → ∃ v es, FnOk Tryd.prog glob 11 (npF raw 11 []) [.st [.int .i64 v1, .arr 4 (.int .u64) v2, .sl (.rose (.pair (.int .i64) (.pair (.arr 4 (.int .u64)) .unit))) v3]] [] v es ∧ K v es = some r

theorem okn_ref5_Copy {R : Type} : Ok_ref5_Copy (R := R) (fun _ _ _ _ => none) := fun _ _ _ _ _ h => no_some h

theorem shok_11 {R : Type} {c_ref5_Copy : Int → (List Int) → (List (Rose (Int × ((List Int) × Unit)))) → (Int → (List Int) → (List (Rose (Int × ((List Int) × Unit)))) → Option R) → Option R} (h_ref5_Copy : Ok_ref5_Copy c_ref5_Copy) : ShOk Tryd.prog glob raw 11 (sh11 c_ref5_Copy) := by
  intro av es K r h
  unfold sh11 at h
  split at h
  · exact h_ref5_Copy _ _ _ _ _ h
  · exact no_some h

def Ok_show_Show {R : Type} (c : Int → (List Int) → (List (Rose (Int × ((List Int) × Unit)))) → ((List Int) → Option R) → Option R) : Prop := ∀ (v1 : Int) (v2 : (List Int)) (v3 : (List (Rose (Int × ((List Int) × Unit))))) (K : S → List Ent → Option R) (r : R), c v1 v2 v3 (fun (r0 : (List Int)) => K (.str r0) []) = some r → ∃ v es, FnOk Tryd.prog glob 12 (npF raw 12 []) [.st [.int .i64 v1, .arr 4 (.int .u64) v2, .sl (.rose (.pair (.int .i64) (.pair (.arr 4 (.int .u64)) .unit))) v3]] [] v es ∧ K v es = some r

theorem okn_show_Show {R : Type} : Ok_show_Show (R := R) (fun _ _ _ _ => none) := fun _ _ _ _ _ h => no_some h

theorem shok_12 {R : Type} {c_show_Show : Int → (List Int) → (List (Rose (Int × ((List Int) × Unit)))) → ((List Int) → Option R) → Option R} (h_show_Show : Ok_show_Show c_show_Show) : ShOk Tryd.prog glob raw 12 (sh12 c_show_Show) := by
  intro av es K r h
  unfold sh12 at h
  split at h
  · exact h_show_Show _ _ _ _ _ h
  · exact no_some h

def Ok_ref5_Bytes {R : Type} (c : (List Int) → (Int → (List Int) → (List (Rose (Int × ((List Int) × Unit)))) → Option R) → Option R) : Prop := ∀ (v1 : (List Int)) (K : S → List Ent → Option R) (r : R), c v1 (fun (r0 : Int) (r1 : (List Int)) (r2 : (List (Rose (Int × ((List Int) × Unit))))) => K (.st [.int .i64 r0, .arr 4 (.int .u64) r1, .own (.rose (.pair (.int .i64) (.pair (.arr 4 (.int .u64)) .unit))) 0]) [.buf (.rose (.pair (.int .i64) (.pair (.arr 4 (.int .u64)) .unit))) r2 false]) = some r → ∃ v es, FnOk Tryd.prog glob 18 (npF raw 18 []) [.arr 4 (.int .u64) v1] [] v es ∧ K v es = some r

theorem okn_ref5_Bytes {R : Type} : Ok_ref5_Bytes (R := R) (fun _ _ => none) := fun _ _ _ h => no_some h

theorem shok_18 {R : Type} {c_ref5_Bytes : (List Int) → (Int → (List Int) → (List (Rose (Int × ((List Int) × Unit)))) → Option R) → Option R} (h_ref5_Bytes : Ok_ref5_Bytes c_ref5_Bytes) : ShOk Tryd.prog glob raw 18 (sh18 c_ref5_Bytes) := by
  intro av es K r h
  unfold sh18 at h
  split at h
  · exact h_ref5_Bytes _ _ _ h
  · exact no_some h

def Ok_ref1_Range {R : Type} (c : Int → Int → ((List Int) → Option R) → Option R) : Prop := ∀ (v1 : Int) (v2 : Int) (K : S → List Ent → Option R) (r : R), c v1 v2 (fun (r0 : (List Int)) => K (.arr 4 (.int .u64) r0) []) = some r → ∃ v es, FnOk Tryd.prog glob 19 (npF raw 19 []) [.int .u8 v1, .int .u8 v2] [] v es ∧ K v es = some r

theorem okn_ref1_Range {R : Type} : Ok_ref1_Range (R := R) (fun _ _ _ => none) := fun _ _ _ _ h => no_some h

theorem shok_19 {R : Type} {c_ref1_Range : Int → Int → ((List Int) → Option R) → Option R} (h_ref1_Range : Ok_ref1_Range c_ref1_Range) : ShOk Tryd.prog glob raw 19 (sh19 c_ref1_Range) := by
  intro av es K r h
  unfold sh19 at h
  split at h
  · exact h_ref1_Range _ _ _ _ h
  · exact no_some h

def Ok_ref1_Of {R : Type} (c : (List Int) → ((List Int) → Option R) → Option R) : Prop := ∀ (v1 : (List Int)) (K : S → List Ent → Option R) (r : R), c v1 (fun (r0 : (List Int)) => K (.arr 4 (.int .u64) r0) []) = some r → ∃ v es, FnOk Tryd.prog glob 20 (npF raw 20 []) [.sl (.int .u8) v1] [] v es ∧ K v es = some r

theorem okn_ref1_Of {R : Type} : Ok_ref1_Of (R := R) (fun _ _ => none) := fun _ _ _ h => no_some h

theorem shok_20 {R : Type} {c_ref1_Of : (List Int) → ((List Int) → Option R) → Option R} (h_ref1_Of : Ok_ref1_Of c_ref1_Of) : ShOk Tryd.prog glob raw 20 (sh20 c_ref1_Of) := by
  intro av es K r h
  unfold sh20 at h
  split at h
  · exact h_ref1_Of _ _ _ h
  · exact no_some h

def Ok_ref5_Star {R : Type} (c : Int → (List Int) → (List (Rose (Int × ((List Int) × Unit)))) → (Int → (List Int) → (List (Rose (Int × ((List Int) × Unit)))) → Option R) → Option R) : Prop := ∀ (v1 : Int) (v2 : (List Int)) (v3 : (List (Rose (Int × ((List Int) × Unit))))) (K : S → List Ent → Option R) (r : R), c v1 v2 v3 (fun (r0 : Int) (r1 : (List Int)) (r2 : (List (Rose (Int × ((List Int) × Unit))))) => K (.st [.int .i64 r0, .arr 4 (.int .u64) r1, .own (.rose (.pair (.int .i64) (.pair (.arr 4 (.int .u64)) .unit))) 0]) [.buf (.rose (.pair (.int .i64) (.pair (.arr 4 (.int .u64)) .unit))) r2 false]) = some r → ∃ v es, FnOk Tryd.prog glob 21 (npF raw 21 []) [.st [.int .i64 v1, .arr 4 (.int .u64) v2, .sl (.rose (.pair (.int .i64) (.pair (.arr 4 (.int .u64)) .unit))) v3]] [] v es ∧ K v es = some r

theorem okn_ref5_Star {R : Type} : Ok_ref5_Star (R := R) (fun _ _ _ _ => none) := fun _ _ _ _ _ h => no_some h

theorem shok_21 {R : Type} {c_ref5_Star : Int → (List Int) → (List (Rose (Int × ((List Int) × Unit)))) → (Int → (List Int) → (List (Rose (Int × ((List Int) × Unit)))) → Option R) → Option R} (h_ref5_Star : Ok_ref5_Star c_ref5_Star) : ShOk Tryd.prog glob raw 21 (sh21 c_ref5_Star) := by
  intro av es K r h
  unfold sh21 at h
  split at h
  · exact h_ref5_Star _ _ _ _ _ h
  · exact no_some h

def Ok_ref5_Empty {R : Type} (c : (Int → (List Int) → (List (Rose (Int × ((List Int) × Unit)))) → Option R) → Option R) : Prop := ∀ (K : S → List Ent → Option R) (r : R), c (fun (r0 : Int) (r1 : (List Int)) (r2 : (List (Rose (Int × ((List Int) × Unit))))) => K (.st [.int .i64 r0, .arr 4 (.int .u64) r1, .own (.rose (.pair (.int .i64) (.pair (.arr 4 (.int .u64)) .unit))) 0]) [.buf (.rose (.pair (.int .i64) (.pair (.arr 4 (.int .u64)) .unit))) r2 false]) = some r → ∃ v es, FnOk Tryd.prog glob 22 (npF raw 22 []) [] [] v es ∧ K v es = some r

theorem okn_ref5_Empty {R : Type} : Ok_ref5_Empty (R := R) (fun _ => none) := fun _ _ h => no_some h

theorem shok_22 {R : Type} {c_ref5_Empty : (Int → (List Int) → (List (Rose (Int × ((List Int) × Unit)))) → Option R) → Option R} (h_ref5_Empty : Ok_ref5_Empty c_ref5_Empty) : ShOk Tryd.prog glob raw 22 (sh22 c_ref5_Empty) := by
  intro av es K r h
  unfold sh22 at h
  split at h
  · exact h_ref5_Empty _ _ h
  · exact no_some h

def Ok_rx_Plain {R : Type} (c : Int → (List Int) → (List (Rose (Int × ((List Int) × Unit)))) → (Bool → Option R) → Option R) : Prop := ∀ (v1 : Int) (v2 : (List Int)) (v3 : (List (Rose (Int × ((List Int) × Unit))))) (K : S → List Ent → Option R) (r : R), c v1 v2 v3 (fun (r0 : Bool) => K (.bool r0) []) = some r → ∃ v es, FnOk Tryd.prog glob 25 (npF raw 25 []) [.st [.int .i64 v1, .arr 4 (.int .u64) v2, .sl (.rose (.pair (.int .i64) (.pair (.arr 4 (.int .u64)) .unit))) v3]] [] v es ∧ K v es = some r

theorem okn_rx_Plain {R : Type} : Ok_rx_Plain (R := R) (fun _ _ _ _ => none) := fun _ _ _ _ _ h => no_some h

theorem shok_25 {R : Type} {c_rx_Plain : Int → (List Int) → (List (Rose (Int × ((List Int) × Unit)))) → (Bool → Option R) → Option R} (h_rx_Plain : Ok_rx_Plain c_rx_Plain) : ShOk Tryd.prog glob raw 25 (sh25 c_rx_Plain) := by
  intro av es K r h
  unfold sh25 at h
  split at h
  · exact h_rx_Plain _ _ _ _ _ h
  · exact no_some h

def Ok_show_writer_rx {R : Type} (c : Int → (List Int) → (List (Rose (Int × ((List Int) × Unit)))) → Bool → (List Int) → (Bool → (List Int) → Option R) → Option R) : Prop := ∀ (v1 : Int) (v2 : (List Int)) (v3 : (List (Rose (Int × ((List Int) × Unit))))) (v4 : Bool) (v5 : (List Int)) (K : S → List Ent → Option R) (r : R), c v1 v2 v3 v4 v5 (fun (r0 : Bool) (r1 : (List Int)) => K (.tup []) [.box (.st [.own (.int .u8) 1, .bool r0]) false, .buf (.int .u8) r1 false]) = some r → ∃ v es, FnOk Tryd.prog glob 26 (npF raw 26 [.box (.st [.own (.int .u8) 1, .bool v4]) false, .buf (.int .u8) v5 false]) [.ptr 0 [], .st [.int .i64 v1, .arr 4 (.int .u64) v2, .sl (.rose (.pair (.int .i64) (.pair (.arr 4 (.int .u64)) .unit))) v3]] [.box (.st [.own (.int .u8) 1, .bool v4]) false, .buf (.int .u8) v5 false] v es ∧ K v es = some r

theorem okn_show_writer_rx {R : Type} : Ok_show_writer_rx (R := R) (fun _ _ _ _ _ _ => none) := fun _ _ _ _ _ _ _ h => no_some h

theorem shok_26 {R : Type} {c_show_writer_rx : Int → (List Int) → (List (Rose (Int × ((List Int) × Unit)))) → Bool → (List Int) → (Bool → (List Int) → Option R) → Option R} (h_show_writer_rx : Ok_show_writer_rx c_show_writer_rx) : ShOk Tryd.prog glob raw 26 (sh26 c_show_writer_rx) := by
  intro av es K r h
  unfold sh26 at h
  split at h
  · exact h_show_writer_rx _ _ _ _ _ _ _ h
  · exact no_some h

def Ok_ref5_None {R : Type} (c : (Int → (List Int) → (List (Rose (Int × ((List Int) × Unit)))) → Option R) → Option R) : Prop := ∀ (K : S → List Ent → Option R) (r : R), c (fun (r0 : Int) (r1 : (List Int)) (r2 : (List (Rose (Int × ((List Int) × Unit))))) => K (.st [.int .i64 r0, .arr 4 (.int .u64) r1, .own (.rose (.pair (.int .i64) (.pair (.arr 4 (.int .u64)) .unit))) 0]) [.buf (.rose (.pair (.int .i64) (.pair (.arr 4 (.int .u64)) .unit))) r2 false]) = some r → ∃ v es, FnOk Tryd.prog glob 33 (npF raw 33 []) [] [] v es ∧ K v es = some r

theorem okn_ref5_None {R : Type} : Ok_ref5_None (R := R) (fun _ => none) := fun _ _ h => no_some h

theorem shok_33 {R : Type} {c_ref5_None : (Int → (List Int) → (List (Rose (Int × ((List Int) × Unit)))) → Option R) → Option R} (h_ref5_None : Ok_ref5_None c_ref5_None) : ShOk Tryd.prog glob raw 33 (sh33 c_ref5_None) := by
  intro av es K r h
  unfold sh33 at h
  split at h
  · exact h_ref5_None _ _ h
  · exact no_some h

def Ok_ref1_Where {R : Type} (c : (List Bool) → ((List Int) → Option R) → Option R) : Prop := ∀ (v1 : (List Bool)) (K : S → List Ent → Option R) (r : R), c v1 (fun (r0 : (List Int)) => K (.arr 4 (.int .u64) r0) []) = some r → ∃ v es, FnOk Tryd.prog glob 34 (npF raw 34 []) [.arr 256 .bool v1] [] v es ∧ K v es = some r

theorem okn_ref1_Where {R : Type} : Ok_ref1_Where (R := R) (fun _ _ => none) := fun _ _ _ h => no_some h

theorem shok_34 {R : Type} {c_ref1_Where : (List Bool) → ((List Int) → Option R) → Option R} (h_ref1_Where : Ok_ref1_Where c_ref1_Where) : ShOk Tryd.prog glob raw 34 (sh34 c_ref1_Where) := by
  intro av es K r h
  unfold sh34 at h
  split at h
  · exact h_ref1_Where _ _ _ h
  · exact no_some h

def Ok_ref5_Alt {R : Type} (c : (List (Rose (Int × ((List Int) × Unit)))) → (Int → (List Int) → (List (Rose (Int × ((List Int) × Unit)))) → Option R) → Option R) : Prop := ∀ (v1 : (List (Rose (Int × ((List Int) × Unit))))) (K : S → List Ent → Option R) (r : R), c v1 (fun (r0 : Int) (r1 : (List Int)) (r2 : (List (Rose (Int × ((List Int) × Unit))))) => K (.st [.int .i64 r0, .arr 4 (.int .u64) r1, .sl (.rose (.pair (.int .i64) (.pair (.arr 4 (.int .u64)) .unit))) r2]) []) = some r → ∃ v es, FnOk Tryd.prog glob 35 (npF raw 35 []) [.sl (.rose (.pair (.int .i64) (.pair (.arr 4 (.int .u64)) .unit))) v1] [] v es ∧ K v es = some r

theorem okn_ref5_Alt {R : Type} : Ok_ref5_Alt (R := R) (fun _ _ => none) := fun _ _ _ h => no_some h

theorem shok_35 {R : Type} {c_ref5_Alt : (List (Rose (Int × ((List Int) × Unit)))) → (Int → (List Int) → (List (Rose (Int × ((List Int) × Unit)))) → Option R) → Option R} (h_ref5_Alt : Ok_ref5_Alt c_ref5_Alt) : ShOk Tryd.prog glob raw 35 (sh35 c_ref5_Alt) := by
  intro av es K r h
  unfold sh35 at h
  split at h
  · exact h_ref5_Alt _ _ _ h
  · exact no_some h

def Ok_rx_bad {R : Type} (c : (List (Rose (Int × ((List Int) × Unit)))) → (List Int) → (Bool → Option R) → Option R) : Prop := ∀ (v1 : (List (Rose (Int × ((List Int) × Unit))))) (v2 : (List Int)) (K : S → List Ent → Option R) (r : R), c v1 v2 (fun (r0 : Bool) => K (.bool r0) []) = some r → ∃ v es, FnOk Tryd.prog glob 36 (npF raw 36 []) [.sl (.rose (.pair (.int .i64) (.pair (.arr 4 (.int .u64)) .unit))) v1, .sl (.int .i64) v2] [] v es ∧ K v es = some r

theorem okn_rx_bad {R : Type} : Ok_rx_bad (R := R) (fun _ _ _ => none) := fun _ _ _ _ h => no_some h

theorem shok_36 {R : Type} {c_rx_bad : (List (Rose (Int × ((List Int) × Unit)))) → (List Int) → (Bool → Option R) → Option R} (h_rx_bad : Ok_rx_bad c_rx_bad) : ShOk Tryd.prog glob raw 36 (sh36 c_rx_bad) := by
  intro av es K r h
  unfold sh36 at h
  split at h
  · exact h_rx_bad _ _ _ _ h
  · exact no_some h

def Ok_rx_rising {R : Type} (c : (List (Rose (Int × ((List Int) × Unit)))) → (Bool → Option R) → Option R) : Prop := ∀ (v1 : (List (Rose (Int × ((List Int) × Unit))))) (K : S → List Ent → Option R) (r : R), c v1 (fun (r0 : Bool) => K (.bool r0) []) = some r → ∃ v es, FnOk Tryd.prog glob 37 (npF raw 37 []) [.sl (.rose (.pair (.int .i64) (.pair (.arr 4 (.int .u64)) .unit))) v1] [] v es ∧ K v es = some r

theorem okn_rx_rising {R : Type} : Ok_rx_rising (R := R) (fun _ _ => none) := fun _ _ _ h => no_some h

theorem shok_37 {R : Type} {c_rx_rising : (List (Rose (Int × ((List Int) × Unit)))) → (Bool → Option R) → Option R} (h_rx_rising : Ok_rx_rising c_rx_rising) : ShOk Tryd.prog glob raw 37 (sh37 c_rx_rising) := by
  intro av es K r h
  unfold sh37 at h
  split at h
  · exact h_rx_rising _ _ _ h
  · exact no_some h

def Ok_slices_ContainsFunc_api_Rx_api_Rx {R : Type} (c : (List (Rose (Int × ((List Int) × Unit)))) → (List Int) → (Bool → (List Int) → Option R) → Option R) : Prop := ∀ (v1 : (List (Rose (Int × ((List Int) × Unit))))) (v2 : (List Int)) (K : S → List Ent → Option R) (r : R), c v1 v2 (fun (r0 : Bool) (r1 : (List Int)) => K (.bool r0) [.box (.sl (.int .i64) r1) false]) = some r → ∃ v es, FnOk Tryd.prog glob 38 (npF raw 38 [.box (.sl (.int .i64) v2) false]) [.sl (.rose (.pair (.int .i64) (.pair (.arr 4 (.int .u64)) .unit))) v1, .fn 54 [.ptr 0 []]] [.box (.sl (.int .i64) v2) false] v es ∧ K v es = some r

theorem okn_slices_ContainsFunc_api_Rx_api_Rx {R : Type} : Ok_slices_ContainsFunc_api_Rx_api_Rx (R := R) (fun _ _ _ => none) := fun _ _ _ _ h => no_some h

def Ok_slices_ContainsFunc_api_Rx_api_Rx_s1 {R : Type} (c : (List (Rose (Int × ((List Int) × Unit)))) → (Bool → Option R) → Option R) : Prop := ∀ (v1 : (List (Rose (Int × ((List Int) × Unit))))) (K : S → List Ent → Option R) (r : R), c v1 (fun (r0 : Bool) => K (.bool r0) []) = some r → ∃ v es, FnOk Tryd.prog glob 38 (npF raw 38 []) [.sl (.rose (.pair (.int .i64) (.pair (.arr 4 (.int .u64)) .unit))) v1, .fn 39 []] [] v es ∧ K v es = some r

theorem okn_slices_ContainsFunc_api_Rx_api_Rx_s1 {R : Type} : Ok_slices_ContainsFunc_api_Rx_api_Rx_s1 (R := R) (fun _ _ => none) := fun _ _ _ h => no_some h

theorem shok_38 {R : Type} {c_slices_ContainsFunc_api_Rx_api_Rx : (List (Rose (Int × ((List Int) × Unit)))) → (List Int) → (Bool → (List Int) → Option R) → Option R} {c_slices_ContainsFunc_api_Rx_api_Rx_s1 : (List (Rose (Int × ((List Int) × Unit)))) → (Bool → Option R) → Option R} (h_slices_ContainsFunc_api_Rx_api_Rx : Ok_slices_ContainsFunc_api_Rx_api_Rx c_slices_ContainsFunc_api_Rx_api_Rx) (h_slices_ContainsFunc_api_Rx_api_Rx_s1 : Ok_slices_ContainsFunc_api_Rx_api_Rx_s1 c_slices_ContainsFunc_api_Rx_api_Rx_s1) : ShOk Tryd.prog glob raw 38 (sh38 c_slices_ContainsFunc_api_Rx_api_Rx c_slices_ContainsFunc_api_Rx_api_Rx_s1) := by
  intro av es K r h
  unfold sh38 at h
  split at h
  · exact h_slices_ContainsFunc_api_Rx_api_Rx _ _ _ _ h
  · exact h_slices_ContainsFunc_api_Rx_api_Rx_s1 _ _ _ h
  · exact no_some h

def Ok_rx_Plain_1 {R : Type} (c : Int → (List Int) → (List (Rose (Int × ((List Int) × Unit)))) → (Bool → Option R) → Option R) : Prop := ∀ (v1 : Int) (v2 : (List Int)) (v3 : (List (Rose (Int × ((List Int) × Unit))))) (K : S → List Ent → Option R) (r : R), c v1 v2 v3 (fun (r0 : Bool) => K (.bool r0) []) = some r → ∃ v es, FnOk Tryd.prog glob 39 (npF raw 39 []) [.st [.int .i64 v1, .arr 4 (.int .u64) v2, .sl (.rose (.pair (.int .i64) (.pair (.arr 4 (.int .u64)) .unit))) v3]] [] v es ∧ K v es = some r

theorem okn_rx_Plain_1 {R : Type} : Ok_rx_Plain_1 (R := R) (fun _ _ _ _ => none) := fun _ _ _ _ _ h => no_some h

theorem shok_39 {R : Type} {c_rx_Plain_1 : Int → (List Int) → (List (Rose (Int × ((List Int) × Unit)))) → (Bool → Option R) → Option R} (h_rx_Plain_1 : Ok_rx_Plain_1 c_rx_Plain_1) : ShOk Tryd.prog glob raw 39 (sh39 c_rx_Plain_1) := by
  intro av es K r h
  unfold sh39 at h
  split at h
  · exact h_rx_Plain_1 _ _ _ _ _ h
  · exact no_some h

def Ok_show_writer_put {R : Type} (c : (List Int) → Bool → (List Int) → (Bool → (List Int) → Option R) → Option R) : Prop := ∀ (v1 : (List Int)) (v2 : Bool) (v3 : (List Int)) (K : S → List Ent → Option R) (r : R), c v1 v2 v3 (fun (r0 : Bool) (r1 : (List Int)) => K (.tup []) [.box (.st [.own (.int .u8) 1, .bool r0]) false, .buf (.int .u8) r1 false]) = some r → ∃ v es, FnOk Tryd.prog glob 40 (npF raw 40 [.box (.st [.own (.int .u8) 1, .bool v2]) false, .buf (.int .u8) v3 false]) [.ptr 0 [], .str v1] [.box (.st [.own (.int .u8) 1, .bool v2]) false, .buf (.int .u8) v3 false] v es ∧ K v es = some r

theorem okn_show_writer_put {R : Type} : Ok_show_writer_put (R := R) (fun _ _ _ _ => none) := fun _ _ _ _ _ h => no_some h

theorem shok_40 {R : Type} {c_show_writer_put : (List Int) → Bool → (List Int) → (Bool → (List Int) → Option R) → Option R} (h_show_writer_put : Ok_show_writer_put c_show_writer_put) : ShOk Tryd.prog glob raw 40 (sh40 c_show_writer_put) := by
  intro av es K r h
  unfold sh40 at h
  split at h
  · exact h_show_writer_put _ _ _ _ _ h
  · exact no_some h

def Ok_show_writer_set {R : Type} (c : (List Int) → Bool → (List Int) → (Bool → (List Int) → Option R) → Option R) : Prop := ∀ (v1 : (List Int)) (v2 : Bool) (v3 : (List Int)) (K : S → List Ent → Option R) (r : R), c v1 v2 v3 (fun (r0 : Bool) (r1 : (List Int)) => K (.tup []) [.box (.st [.own (.int .u8) 1, .bool r0]) false, .buf (.int .u8) r1 false]) = some r → ∃ v es, FnOk Tryd.prog glob 41 (npF raw 41 [.box (.st [.own (.int .u8) 1, .bool v2]) false, .buf (.int .u8) v3 false]) [.ptr 0 [], .arr 4 (.int .u64) v1] [.box (.st [.own (.int .u8) 1, .bool v2]) false, .buf (.int .u8) v3 false] v es ∧ K v es = some r

theorem okn_show_writer_set {R : Type} : Ok_show_writer_set (R := R) (fun _ _ _ _ => none) := fun _ _ _ _ _ h => no_some h

theorem shok_41 {R : Type} {c_show_writer_set : (List Int) → Bool → (List Int) → (Bool → (List Int) → Option R) → Option R} (h_show_writer_set : Ok_show_writer_set c_show_writer_set) : ShOk Tryd.prog glob raw 41 (sh41 c_show_writer_set) := by
  intro av es K r h
  unfold sh41 at h
  split at h
  · exact h_show_writer_set _ _ _ _ _ h
  · exact no_some h

def Ok_show_writer_within {R : Type} (c : Int → (List Int) → (List (Rose (Int × ((List Int) × Unit)))) → (List Int) → Bool → (List Int) → (Bool → (List Int) → Option R) → Option R) : Prop := ∀ (v1 : Int) (v2 : (List Int)) (v3 : (List (Rose (Int × ((List Int) × Unit))))) (v4 : (List Int)) (v5 : Bool) (v6 : (List Int)) (K : S → List Ent → Option R) (r : R), c v1 v2 v3 v4 v5 v6 (fun (r0 : Bool) (r1 : (List Int)) => K (.tup []) [.box (.st [.own (.int .u8) 1, .bool r0]) false, .buf (.int .u8) r1 false]) = some r → ∃ v es, FnOk Tryd.prog glob 42 (npF raw 42 [.box (.st [.own (.int .u8) 1, .bool v5]) false, .buf (.int .u8) v6 false]) [.ptr 0 [], .st [.int .i64 v1, .arr 4 (.int .u64) v2, .sl (.rose (.pair (.int .i64) (.pair (.arr 4 (.int .u64)) .unit))) v3], .sl (.int .i64) v4] [.box (.st [.own (.int .u8) 1, .bool v5]) false, .buf (.int .u8) v6 false] v es ∧ K v es = some r

theorem okn_show_writer_within {R : Type} : Ok_show_writer_within (R := R) (fun _ _ _ _ _ _ _ => none) := fun _ _ _ _ _ _ _ _ h => no_some h

theorem shok_42 {R : Type} {c_show_writer_within : Int → (List Int) → (List (Rose (Int × ((List Int) × Unit)))) → (List Int) → Bool → (List Int) → (Bool → (List Int) → Option R) → Option R} (h_show_writer_within : Ok_show_writer_within c_show_writer_within) : ShOk Tryd.prog glob raw 42 (sh42 c_show_writer_within) := by
  intro av es K r h
  unfold sh42 at h
  split at h
  · exact h_show_writer_within _ _ _ _ _ _ _ _ h
  · exact no_some h

def Ok_ref5_flat {R : Type} (c : Int → (List (Rose (Int × ((List Int) × Unit)))) → ((List (Rose (Int × ((List Int) × Unit)))) → Option R) → Option R) : Prop := ∀ (v1 : Int) (v2 : (List (Rose (Int × ((List Int) × Unit))))) (K : S → List Ent → Option R) (r : R), c v1 v2 (fun (r0 : (List (Rose (Int × ((List Int) × Unit))))) => K (.own (.rose (.pair (.int .i64) (.pair (.arr 4 (.int .u64)) .unit))) 0) [.buf (.rose (.pair (.int .i64) (.pair (.arr 4 (.int .u64)) .unit))) r0 false]) = some r → ∃ v es, FnOk Tryd.prog glob 51 (npF raw 51 []) [.int .i64 v1, .sl (.rose (.pair (.int .i64) (.pair (.arr 4 (.int .u64)) .unit))) v2] [] v es ∧ K v es = some r

theorem okn_ref5_flat {R : Type} : Ok_ref5_flat (R := R) (fun _ _ _ => none) := fun _ _ _ _ h => no_some h

theorem shok_51 {R : Type} {c_ref5_flat : Int → (List (Rose (Int × ((List Int) × Unit)))) → ((List (Rose (Int × ((List Int) × Unit)))) → Option R) → Option R} (h_ref5_flat : Ok_ref5_flat c_ref5_flat) : ShOk Tryd.prog glob raw 51 (sh51 c_ref5_flat) := by
  intro av es K r h
  unfold sh51 at h
  split at h
  · exact h_ref5_flat _ _ _ _ h
  · exact no_some h

def Ok_ref1_Or {R : Type} (c : (List Int) → (List Int) → ((List Int) → Option R) → Option R) : Prop := ∀ (v1 : (List Int)) (v2 : (List Int)) (K : S → List Ent → Option R) (r : R), c v1 v2 (fun (r0 : (List Int)) => K (.arr 4 (.int .u64) r0) []) = some r → ∃ v es, FnOk Tryd.prog glob 52 (npF raw 52 []) [.arr 4 (.int .u64) v1, .arr 4 (.int .u64) v2] [] v es ∧ K v es = some r

theorem okn_ref1_Or {R : Type} : Ok_ref1_Or (R := R) (fun _ _ _ => none) := fun _ _ _ _ h => no_some h

theorem shok_52 {R : Type} {c_ref1_Or : (List Int) → (List Int) → ((List Int) → Option R) → Option R} (h_ref1_Or : Ok_ref1_Or c_ref1_Or) : ShOk Tryd.prog glob raw 52 (sh52 c_ref1_Or) := by
  intro av es K r h
  unfold sh52 at h
  split at h
  · exact h_ref1_Or _ _ _ _ h
  · exact no_some h

def Ok_ref5_insert {R : Type} (c : (List (Rose (Int × ((List Int) × Unit)))) → Int → (List Int) → (List (Rose (Int × ((List Int) × Unit)))) → ((List (Rose (Int × ((List Int) × Unit)))) → Option R) → Option R) : Prop := ∀ (v1 : (List (Rose (Int × ((List Int) × Unit))))) (v2 : Int) (v3 : (List Int)) (v4 : (List (Rose (Int × ((List Int) × Unit))))) (K : S → List Ent → Option R) (r : R), c v1 v2 v3 v4 (fun (r0 : (List (Rose (Int × ((List Int) × Unit))))) => K (.sl (.rose (.pair (.int .i64) (.pair (.arr 4 (.int .u64)) .unit))) r0) []) = some r → ∃ v es, FnOk Tryd.prog glob 53 (npF raw 53 []) [.sl (.rose (.pair (.int .i64) (.pair (.arr 4 (.int .u64)) .unit))) v1, .st [.int .i64 v2, .arr 4 (.int .u64) v3, .sl (.rose (.pair (.int .i64) (.pair (.arr 4 (.int .u64)) .unit))) v4]] [] v es ∧ K v es = some r

theorem okn_ref5_insert {R : Type} : Ok_ref5_insert (R := R) (fun _ _ _ _ _ => none) := fun _ _ _ _ _ _ h => no_some h

theorem shok_53 {R : Type} {c_ref5_insert : (List (Rose (Int × ((List Int) × Unit)))) → Int → (List Int) → (List (Rose (Int × ((List Int) × Unit)))) → ((List (Rose (Int × ((List Int) × Unit)))) → Option R) → Option R} (h_ref5_insert : Ok_ref5_insert c_ref5_insert) : ShOk Tryd.prog glob raw 53 (sh53 c_ref5_insert) := by
  intro av es K r h
  unfold sh53 at h
  split at h
  · exact h_ref5_insert _ _ _ _ _ _ h
  · exact no_some h

def Ok_rx_bad_1 {R : Type} (c : Int → (List Int) → (List (Rose (Int × ((List Int) × Unit)))) → (List Int) → (Bool → (List Int) → Option R) → Option R) : Prop := ∀ (v1 : Int) (v2 : (List Int)) (v3 : (List (Rose (Int × ((List Int) × Unit))))) (v4 : (List Int)) (K : S → List Ent → Option R) (r : R), c v1 v2 v3 v4 (fun (r0 : Bool) (r1 : (List Int)) => K (.bool r0) [.box (.sl (.int .i64) r1) false]) = some r → ∃ v es, FnOk Tryd.prog glob 54 (npF raw 54 [.box (.sl (.int .i64) v4) false]) [.st [.int .i64 v1, .arr 4 (.int .u64) v2, .sl (.rose (.pair (.int .i64) (.pair (.arr 4 (.int .u64)) .unit))) v3], .ptr 0 []] [.box (.sl (.int .i64) v4) false] v es ∧ K v es = some r

theorem okn_rx_bad_1 {R : Type} : Ok_rx_bad_1 (R := R) (fun _ _ _ _ _ => none) := fun _ _ _ _ _ _ h => no_some h

theorem shok_54 {R : Type} {c_rx_bad_1 : Int → (List Int) → (List (Rose (Int × ((List Int) × Unit)))) → (List Int) → (Bool → (List Int) → Option R) → Option R} (h_rx_bad_1 : Ok_rx_bad_1 c_rx_bad_1) : ShOk Tryd.prog glob raw 54 (sh54 c_rx_bad_1) := by
  intro av es K r h
  unfold sh54 at h
  split at h
  · exact h_rx_bad_1 _ _ _ _ _ _ h
  · exact no_some h

def Ok_slices_Contains_int_int {R : Type} (c : (List Int) → Int → (Bool → Option R) → Option R) : Prop := ∀ (v1 : (List Int)) (v2 : Int) (K : S → List Ent → Option R) (r : R), c v1 v2 (fun (r0 : Bool) => K (.bool r0) []) = some r → ∃ v es, FnOk Tryd.prog glob 55 (npF raw 55 []) [.sl (.int .i64) v1, .int .i64 v2] [] v es ∧ K v es = some r

theorem okn_slices_Contains_int_int {R : Type} : Ok_slices_Contains_int_int (R := R) (fun _ _ _ => none) := fun _ _ _ _ h => no_some h

theorem shok_55 {R : Type} {c_slices_Contains_int_int : (List Int) → Int → (Bool → Option R) → Option R} (h_slices_Contains_int_int : Ok_slices_Contains_int_int c_slices_Contains_int_int) : ShOk Tryd.prog glob raw 55 (sh55 c_slices_Contains_int_int) := by
  intro av es K r h
  unfold sh55 at h
  split at h
  · exact h_slices_Contains_int_int _ _ _ _ h
  · exact no_some h

def Ok_rx_isSet {R : Type} (c : Int → (List Int) → (List (Rose (Int × ((List Int) × Unit)))) → (Bool → Option R) → Option R) : Prop := ∀ (v1 : Int) (v2 : (List Int)) (v3 : (List (Rose (Int × ((List Int) × Unit))))) (K : S → List Ent → Option R) (r : R), c v1 v2 v3 (fun (r0 : Bool) => K (.bool r0) []) = some r → ∃ v es, FnOk Tryd.prog glob 56 (npF raw 56 []) [.st [.int .i64 v1, .arr 4 (.int .u64) v2, .sl (.rose (.pair (.int .i64) (.pair (.arr 4 (.int .u64)) .unit))) v3]] [] v es ∧ K v es = some r

theorem okn_rx_isSet {R : Type} : Ok_rx_isSet (R := R) (fun _ _ _ _ => none) := fun _ _ _ _ _ h => no_some h

theorem shok_56 {R : Type} {c_rx_isSet : Int → (List Int) → (List (Rose (Int × ((List Int) × Unit)))) → (Bool → Option R) → Option R} (h_rx_isSet : Ok_rx_isSet c_rx_isSet) : ShOk Tryd.prog glob raw 56 (sh56 c_rx_isSet) := by
  intro av es K r h
  unfold sh56 at h
  split at h
  · exact h_rx_isSet _ _ _ _ _ h
  · exact no_some h

def Ok_rx_Compare {R : Type} (c : Int → (List Int) → (List (Rose (Int × ((List Int) × Unit)))) → Int → (List Int) → (List (Rose (Int × ((List Int) × Unit)))) → (Int → Option R) → Option R) : Prop := ∀ (v1 : Int) (v2 : (List Int)) (v3 : (List (Rose (Int × ((List Int) × Unit))))) (v4 : Int) (v5 : (List Int)) (v6 : (List (Rose (Int × ((List Int) × Unit))))) (K : S → List Ent → Option R) (r : R), c v1 v2 v3 v4 v5 v6 (fun (r0 : Int) => K (.int .i64 r0) []) = some r → ∃ v es, FnOk Tryd.prog glob 57 (npF raw 57 []) [.st [.int .i64 v1, .arr 4 (.int .u64) v2, .sl (.rose (.pair (.int .i64) (.pair (.arr 4 (.int .u64)) .unit))) v3], .st [.int .i64 v4, .arr 4 (.int .u64) v5, .sl (.rose (.pair (.int .i64) (.pair (.arr 4 (.int .u64)) .unit))) v6]] [] v es ∧ K v es = some r

theorem okn_rx_Compare {R : Type} : Ok_rx_Compare (R := R) (fun _ _ _ _ _ _ _ => none) := fun _ _ _ _ _ _ _ _ h => no_some h

theorem shok_57 {R : Type} {c_rx_Compare : Int → (List Int) → (List (Rose (Int × ((List Int) × Unit)))) → Int → (List Int) → (List (Rose (Int × ((List Int) × Unit)))) → (Int → Option R) → Option R} (h_rx_Compare : Ok_rx_Compare c_rx_Compare) : ShOk Tryd.prog glob raw 57 (sh57 c_rx_Compare) := by
  intro av es K r h
  unfold sh57 at h
  split at h
  · exact h_rx_Compare _ _ _ _ _ _ _ _ h
  · exact no_some h

def Ok_slices_IndexFunc_api_Rx_api_Rx {R : Type} (c : (List (Rose (Int × ((List Int) × Unit)))) → (List Int) → (Int → (List Int) → Option R) → Option R) : Prop := ∀ (v1 : (List (Rose (Int × ((List Int) × Unit))))) (v2 : (List Int)) (K : S → List Ent → Option R) (r : R), c v1 v2 (fun (r0 : Int) (r1 : (List Int)) => K (.int .i64 r0) [.box (.sl (.int .i64) r1) false]) = some r → ∃ v es, FnOk Tryd.prog glob 58 (npF raw 58 [.box (.sl (.int .i64) v2) false]) [.sl (.rose (.pair (.int .i64) (.pair (.arr 4 (.int .u64)) .unit))) v1, .fn 54 [.ptr 0 []]] [.box (.sl (.int .i64) v2) false] v es ∧ K v es = some r

theorem okn_slices_IndexFunc_api_Rx_api_Rx {R : Type} : Ok_slices_IndexFunc_api_Rx_api_Rx (R := R) (fun _ _ _ => none) := fun _ _ _ _ h => no_some h

def Ok_slices_IndexFunc_api_Rx_api_Rx_s1 {R : Type} (c : (List (Rose (Int × ((List Int) × Unit)))) → (Int → Option R) → Option R) : Prop := ∀ (v1 : (List (Rose (Int × ((List Int) × Unit))))) (K : S → List Ent → Option R) (r : R), c v1 (fun (r0 : Int) => K (.int .i64 r0) []) = some r → ∃ v es, FnOk Tryd.prog glob 58 (npF raw 58 []) [.sl (.rose (.pair (.int .i64) (.pair (.arr 4 (.int .u64)) .unit))) v1, .fn 39 []] [] v es ∧ K v es = some r

theorem okn_slices_IndexFunc_api_Rx_api_Rx_s1 {R : Type} : Ok_slices_IndexFunc_api_Rx_api_Rx_s1 (R := R) (fun _ _ => none) := fun _ _ _ h => no_some h

theorem shok_58 {R : Type} {c_slices_IndexFunc_api_Rx_api_Rx : (List (Rose (Int × ((List Int) × Unit)))) → (List Int) → (Int → (List Int) → Option R) → Option R} {c_slices_IndexFunc_api_Rx_api_Rx_s1 : (List (Rose (Int × ((List Int) × Unit)))) → (Int → Option R) → Option R} (h_slices_IndexFunc_api_Rx_api_Rx : Ok_slices_IndexFunc_api_Rx_api_Rx c_slices_IndexFunc_api_Rx_api_Rx) (h_slices_IndexFunc_api_Rx_api_Rx_s1 : Ok_slices_IndexFunc_api_Rx_api_Rx_s1 c_slices_IndexFunc_api_Rx_api_Rx_s1) : ShOk Tryd.prog glob raw 58 (sh58 c_slices_IndexFunc_api_Rx_api_Rx c_slices_IndexFunc_api_Rx_api_Rx_s1) := by
  intro av es K r h
  unfold sh58 at h
  split at h
  · exact h_slices_IndexFunc_api_Rx_api_Rx _ _ _ _ h
  · exact h_slices_IndexFunc_api_Rx_api_Rx_s1 _ _ _ h
  · exact no_some h

def Ok_byteset_List {R : Type} (c : (List Int) → ((List Int) → Option R) → Option R) : Prop := ∀ (v1 : (List Int)) (K : S → List Ent → Option R) (r : R), c v1 (fun (r0 : (List Int)) => K (.own (.int .u8) 0) [.buf (.int .u8) r0 false]) = some r → ∃ v es, FnOk Tryd.prog glob 59 (npF raw 59 []) [.arr 4 (.int .u64) v1] [] v es ∧ K v es = some r

theorem okn_byteset_List {R : Type} : Ok_byteset_List (R := R) (fun _ _ => none) := fun _ _ _ h => no_some h

theorem shok_59 {R : Type} {c_byteset_List : (List Int) → ((List Int) → Option R) → Option R} (h_byteset_List : Ok_byteset_List c_byteset_List) : ShOk Tryd.prog glob raw 59 (sh59 c_byteset_List) := by
  intro av es K r h
  unfold sh59 at h
  split at h
  · exact h_byteset_List _ _ _ h
  · exact no_some h

def Ok_show_sign {R : Type} (c : Int → ((List Int) → Option R) → Option R) : Prop := ∀ (v1 : Int) (K : S → List Ent → Option R) (r : R), c v1 (fun (r0 : (List Int)) => K (.str r0) []) = some r → ∃ v es, FnOk Tryd.prog glob 60 (npF raw 60 []) [.int .u8 v1] [] v es ∧ K v es = some r

theorem okn_show_sign {R : Type} : Ok_show_sign (R := R) (fun _ _ => none) := fun _ _ _ h => no_some h

theorem shok_60 {R : Type} {c_show_sign : Int → ((List Int) → Option R) → Option R} (h_show_sign : Ok_show_sign c_show_sign) : ShOk Tryd.prog glob raw 60 (sh60 c_show_sign) := by
  intro av es K r h
  unfold sh60 at h
  split at h
  · exact h_show_sign _ _ _ h
  · exact no_some h

def Ok_ref1_List {R : Type} (c : (List Int) → ((List Int) → Option R) → Option R) : Prop := ∀ (v1 : (List Int)) (K : S → List Ent → Option R) (r : R), c v1 (fun (r0 : (List Int)) => K (.own (.int .u8) 0) [.buf (.int .u8) r0 false]) = some r → ∃ v es, FnOk Tryd.prog glob 61 (npF raw 61 []) [.arr 4 (.int .u64) v1] [] v es ∧ K v es = some r

theorem okn_ref1_List {R : Type} : Ok_ref1_List (R := R) (fun _ _ => none) := fun _ _ _ h => no_some h

theorem shok_61 {R : Type} {c_ref1_List : (List Int) → ((List Int) → Option R) → Option R} (h_ref1_List : Ok_ref1_List c_ref1_List) : ShOk Tryd.prog glob raw 61 (sh61 c_ref1_List) := by
  intro av es K r h
  unfold sh61 at h
  split at h
  · exact h_ref1_List _ _ _ h
  · exact no_some h

def Ok_ref5_Compare {R : Type} (c : Int → (List Int) → (List (Rose (Int × ((List Int) × Unit)))) → Int → (List Int) → (List (Rose (Int × ((List Int) × Unit)))) → (Int → Option R) → Option R) : Prop := ∀ (v1 : Int) (v2 : (List Int)) (v3 : (List (Rose (Int × ((List Int) × Unit))))) (v4 : Int) (v5 : (List Int)) (v6 : (List (Rose (Int × ((List Int) × Unit))))) (K : S → List Ent → Option R) (r : R), c v1 v2 v3 v4 v5 v6 (fun (r0 : Int) => K (.int .i64 r0) []) = some r → ∃ v es, FnOk Tryd.prog glob 67 (npF raw 67 []) [.st [.int .i64 v1, .arr 4 (.int .u64) v2, .sl (.rose (.pair (.int .i64) (.pair (.arr 4 (.int .u64)) .unit))) v3], .st [.int .i64 v4, .arr 4 (.int .u64) v5, .sl (.rose (.pair (.int .i64) (.pair (.arr 4 (.int .u64)) .unit))) v6]] [] v es ∧ K v es = some r

theorem okn_ref5_Compare {R : Type} : Ok_ref5_Compare (R := R) (fun _ _ _ _ _ _ _ => none) := fun _ _ _ _ _ _ _ _ h => no_some h

theorem shok_67 {R : Type} {c_ref5_Compare : Int → (List Int) → (List (Rose (Int × ((List Int) × Unit)))) → Int → (List Int) → (List (Rose (Int × ((List Int) × Unit)))) → (Int → Option R) → Option R} (h_ref5_Compare : Ok_ref5_Compare c_ref5_Compare) : ShOk Tryd.prog glob raw 67 (sh67 c_ref5_Compare) := by
  intro av es K r h
  unfold sh67 at h
  split at h
  · exact h_ref5_Compare _ _ _ _ _ _ _ _ h
  · exact no_some h

def Ok_ref5_Equal {R : Type} (c : Int → (List Int) → (List (Rose (Int × ((List Int) × Unit)))) → Int → (List Int) → (List (Rose (Int × ((List Int) × Unit)))) → (Bool → Option R) → Option R) : Prop := ∀ (v1 : Int) (v2 : (List Int)) (v3 : (List (Rose (Int × ((List Int) × Unit))))) (v4 : Int) (v5 : (List Int)) (v6 : (List (Rose (Int × ((List Int) × Unit))))) (K : S → List Ent → Option R) (r : R), c v1 v2 v3 v4 v5 v6 (fun (r0 : Bool) => K (.bool r0) []) = some r → ∃ v es, FnOk Tryd.prog glob 68 (npF raw 68 []) [.st [.int .i64 v1, .arr 4 (.int .u64) v2, .sl (.rose (.pair (.int .i64) (.pair (.arr 4 (.int .u64)) .unit))) v3], .st [.int .i64 v4, .arr 4 (.int .u64) v5, .sl (.rose (.pair (.int .i64) (.pair (.arr 4 (.int .u64)) .unit))) v6]] [] v es ∧ K v es = some r

theorem okn_ref5_Equal {R : Type} : Ok_ref5_Equal (R := R) (fun _ _ _ _ _ _ _ => none) := fun _ _ _ _ _ _ _ _ h => no_some h

theorem shok_68 {R : Type} {c_ref5_Equal : Int → (List Int) → (List (Rose (Int × ((List Int) × Unit)))) → Int → (List Int) → (List (Rose (Int × ((List Int) × Unit)))) → (Bool → Option R) → Option R} (h_ref5_Equal : Ok_ref5_Equal c_ref5_Equal) : ShOk Tryd.prog glob raw 68 (sh68 c_ref5_Equal) := by
  intro av es K r h
  unfold sh68 at h
  split at h
  · exact h_ref5_Equal _ _ _ _ _ _ _ _ h
  · exact no_some h

def Ok_slices_Index_int_int {R : Type} (c : (List Int) → Int → (Int → Option R) → Option R) : Prop := ∀ (v1 : (List Int)) (v2 : Int) (K : S → List Ent → Option R) (r : R), c v1 v2 (fun (r0 : Int) => K (.int .i64 r0) []) = some r → ∃ v es, FnOk Tryd.prog glob 69 (npF raw 69 []) [.sl (.int .i64) v1, .int .i64 v2] [] v es ∧ K v es = some r

theorem okn_slices_Index_int_int {R : Type} : Ok_slices_Index_int_int (R := R) (fun _ _ _ => none) := fun _ _ _ _ h => no_some h

theorem shok_69 {R : Type} {c_slices_Index_int_int : (List Int) → Int → (Int → Option R) → Option R} (h_slices_Index_int_int : Ok_slices_Index_int_int c_slices_Index_int_int) : ShOk Tryd.prog glob raw 69 (sh69 c_slices_Index_int_int) := by
  intro av es K r h
  unfold sh69 at h
  split at h
  · exact h_slices_Index_int_int _ _ _ _ h
  · exact no_some h

def Ok_cmp_Compare_int {R : Type} (c : Int → Int → (Int → Option R) → Option R) : Prop := ∀ (v1 : Int) (v2 : Int) (K : S → List Ent → Option R) (r : R), c v1 v2 (fun (r0 : Int) => K (.int .i64 r0) []) = some r → ∃ v es, FnOk Tryd.prog glob 70 (npF raw 70 []) [.int .i64 v1, .int .i64 v2] [] v es ∧ K v es = some r

theorem okn_cmp_Compare_int {R : Type} : Ok_cmp_Compare_int (R := R) (fun _ _ _ => none) := fun _ _ _ _ h => no_some h

theorem shok_70 {R : Type} {c_cmp_Compare_int : Int → Int → (Int → Option R) → Option R} (h_cmp_Compare_int : Ok_cmp_Compare_int c_cmp_Compare_int) : ShOk Tryd.prog glob raw 70 (sh70 c_cmp_Compare_int) := by
  intro av es K r h
  unfold sh70 at h
  split at h
  · exact h_cmp_Compare_int _ _ _ _ h
  · exact no_some h

def Ok_byteset_Less {R : Type} (c : (List Int) → (List Int) → (Bool → Option R) → Option R) : Prop := ∀ (v1 : (List Int)) (v2 : (List Int)) (K : S → List Ent → Option R) (r : R), c v1 v2 (fun (r0 : Bool) => K (.bool r0) []) = some r → ∃ v es, FnOk Tryd.prog glob 71 (npF raw 71 []) [.arr 4 (.int .u64) v1, .arr 4 (.int .u64) v2] [] v es ∧ K v es = some r

theorem okn_byteset_Less {R : Type} : Ok_byteset_Less (R := R) (fun _ _ _ => none) := fun _ _ _ _ h => no_some h

theorem shok_71 {R : Type} {c_byteset_Less : (List Int) → (List Int) → (Bool → Option R) → Option R} (h_byteset_Less : Ok_byteset_Less c_byteset_Less) : ShOk Tryd.prog glob raw 71 (sh71 c_byteset_Less) := by
  intro av es K r h
  unfold sh71 at h
  split at h
  · exact h_byteset_Less _ _ _ _ h
  · exact no_some h

def Ok_slices_CompareFunc_api_Rx_api_Rx_api_Rx_api_Rx {R : Type} (c : (List (Rose (Int × ((List Int) × Unit)))) → (List (Rose (Int × ((List Int) × Unit)))) → (Int → Option R) → Option R) : Prop := ∀ (v1 : (List (Rose (Int × ((List Int) × Unit))))) (v2 : (List (Rose (Int × ((List Int) × Unit))))) (K : S → List Ent → Option R) (r : R), c v1 v2 (fun (r0 : Int) => K (.int .i64 r0) []) = some r → ∃ v es, FnOk Tryd.prog glob 72 (npF raw 72 []) [.sl (.rose (.pair (.int .i64) (.pair (.arr 4 (.int .u64)) .unit))) v1, .sl (.rose (.pair (.int .i64) (.pair (.arr 4 (.int .u64)) .unit))) v2, .fn 57 []] [] v es ∧ K v es = some r

theorem okn_slices_CompareFunc_api_Rx_api_Rx_api_Rx_api_Rx {R : Type} : Ok_slices_CompareFunc_api_Rx_api_Rx_api_Rx_api_Rx (R := R) (fun _ _ _ => none) := fun _ _ _ _ h => no_some h

theorem shok_72 {R : Type} {c_slices_CompareFunc_api_Rx_api_Rx_api_Rx_api_Rx : (List (Rose (Int × ((List Int) × Unit)))) → (List (Rose (Int × ((List Int) × Unit)))) → (Int → Option R) → Option R} (h_slices_CompareFunc_api_Rx_api_Rx_api_Rx_api_Rx : Ok_slices_CompareFunc_api_Rx_api_Rx_api_Rx_api_Rx c_slices_CompareFunc_api_Rx_api_Rx_api_Rx_api_Rx) : ShOk Tryd.prog glob raw 72 (sh72 c_slices_CompareFunc_api_Rx_api_Rx_api_Rx_api_Rx) := by
  intro av es K r h
  unfold sh72 at h
  split at h
  · exact h_slices_CompareFunc_api_Rx_api_Rx_api_Rx_api_Rx _ _ _ _ h
  · exact no_some h

def Ok_byteset_Has {R : Type} (c : (List Int) → Int → (Bool → Option R) → Option R) : Prop := ∀ (v1 : (List Int)) (v2 : Int) (K : S → List Ent → Option R) (r : R), c v1 v2 (fun (r0 : Bool) => K (.bool r0) []) = some r → ∃ v es, FnOk Tryd.prog glob 73 (npF raw 73 []) [.arr 4 (.int .u64) v1, .int .u8 v2] [] v es ∧ K v es = some r

theorem okn_byteset_Has {R : Type} : Ok_byteset_Has (R := R) (fun _ _ _ => none) := fun _ _ _ _ h => no_some h

theorem shok_73 {R : Type} {c_byteset_Has : (List Int) → Int → (Bool → Option R) → Option R} (h_byteset_Has : Ok_byteset_Has c_byteset_Has) : ShOk Tryd.prog glob raw 73 (sh73 c_byteset_Has) := by
  intro av es K r h
  unfold sh73 at h
  split at h
  · exact h_byteset_Has _ _ _ _ h
  · exact no_some h

def Ok_ref1_Has {R : Type} (c : (List Int) → Int → (Bool → Option R) → Option R) : Prop := ∀ (v1 : (List Int)) (v2 : Int) (K : S → List Ent → Option R) (r : R), c v1 v2 (fun (r0 : Bool) => K (.bool r0) []) = some r → ∃ v es, FnOk Tryd.prog glob 75 (npF raw 75 []) [.arr 4 (.int .u64) v1, .int .u8 v2] [] v es ∧ K v es = some r

theorem okn_ref1_Has {R : Type} : Ok_ref1_Has (R := R) (fun _ _ _ => none) := fun _ _ _ _ h => no_some h

theorem shok_75 {R : Type} {c_ref1_Has : (List Int) → Int → (Bool → Option R) → Option R} (h_ref1_Has : Ok_ref1_Has c_ref1_Has) : ShOk Tryd.prog glob raw 75 (sh75 c_ref1_Has) := by
  intro av es K r h
  unfold sh75 at h
  split at h
  · exact h_ref1_Has _ _ _ _ h
  · exact no_some h

def Ok_ref1_SetLess {R : Type} (c : (List Int) → (List Int) → (Bool → Option R) → Option R) : Prop := ∀ (v1 : (List Int)) (v2 : (List Int)) (K : S → List Ent → Option R) (r : R), c v1 v2 (fun (r0 : Bool) => K (.bool r0) []) = some r → ∃ v es, FnOk Tryd.prog glob 79 (npF raw 79 []) [.arr 4 (.int .u64) v1, .arr 4 (.int .u64) v2] [] v es ∧ K v es = some r

theorem okn_ref1_SetLess {R : Type} : Ok_ref1_SetLess (R := R) (fun _ _ _ => none) := fun _ _ _ _ h => no_some h

theorem shok_79 {R : Type} {c_ref1_SetLess : (List Int) → (List Int) → (Bool → Option R) → Option R} (h_ref1_SetLess : Ok_ref1_SetLess c_ref1_SetLess) : ShOk Tryd.prog glob raw 79 (sh79 c_ref1_SetLess) := by
  intro av es K r h
  unfold sh79 at h
  split at h
  · exact h_ref1_SetLess _ _ _ _ h
  · exact no_some h

def Ok_cmp_isNaN_int {R : Type} (c : Int → (Bool → Option R) → Option R) : Prop := ∀ (v1 : Int) (K : S → List Ent → Option R) (r : R), c v1 (fun (r0 : Bool) => K (.bool r0) []) = some r → ∃ v es, FnOk Tryd.prog glob 80 (npF raw 80 []) [.int .i64 v1] [] v es ∧ K v es = some r

theorem okn_cmp_isNaN_int {R : Type} : Ok_cmp_isNaN_int (R := R) (fun _ _ => none) := fun _ _ _ h => no_some h

theorem shok_80 {R : Type} {c_cmp_isNaN_int : Int → (Bool → Option R) → Option R} (h_cmp_isNaN_int : Ok_cmp_isNaN_int c_cmp_isNaN_int) : ShOk Tryd.prog glob raw 80 (sh80 c_cmp_isNaN_int) := by
  intro av es K r h
  unfold sh80 at h
  split at h
  · exact h_cmp_isNaN_int _ _ _ h
  · exact no_some h

def Ok_math_bits_TrailingZeros64 {R : Type} (c : Int → (Int → Option R) → Option R) : Prop := ∀ (v1 : Int) (K : S → List Ent → Option R) (r : R), c v1 (fun (r0 : Int) => K (.int .i64 r0) []) = some r → ∃ v es, FnOk Tryd.prog glob 81 (npF raw 81 []) [.int .u64 v1] [] v es ∧ K v es = some r

theorem okn_math_bits_TrailingZeros64 {R : Type} : Ok_math_bits_TrailingZeros64 (R := R) (fun _ _ => none) := fun _ _ _ h => no_some h

theorem shok_81 {R : Type} {c_math_bits_TrailingZeros64 : Int → (Int → Option R) → Option R} (h_math_bits_TrailingZeros64 : Ok_math_bits_TrailingZeros64 c_math_bits_TrailingZeros64) : ShOk Tryd.prog glob raw 81 (sh81 c_math_bits_TrailingZeros64) := by
  intro av es K r h
  unfold sh81 at h
  split at h
  · exact h_math_bits_TrailingZeros64 _ _ _ h
  · exact no_some h

theorem t_ref1_Of : textOk C_ref1_Of.bef Tryd.prog 20 = true := by kernel_rfl

theorem sln_ref1_Of_l3 {R : Type} : SlOk (R := R) C_ref1_Of 20 27 0 3 (sl_ref1_Of_l3 (fun _ _ _ _ _ => none)) := by
  intro vs es K r h
  unfold sl_ref1_Of_l3 at h
  split at h <;> exact no_some h

theorem lok_ref1_Of_l3 {R : Type} (kf : Nat) : ∀ n, SlOk (R := R) C_ref1_Of 20 27 0 3 (sl_ref1_Of_l3 (ref1_Of_l3 kf n)) := by
  intro n
  induction n with
  | zero =>
    intro vs es K r h
    unfold sl_ref1_Of_l3 at h
    split at h <;> exact no_some h
  | succ k ih =>
    have hcf : CfOk (R := R) Tryd.prog glob raw (cf_ref1_Of (ref1_Of_l3 kf k)) := cf_nil
    have hlf : LfOk (R := R) C_ref1_Of 20 (lf_ref1_Of (ref1_Of_l3 kf k)) := (lf_top (lf_cons ih lf_nil))
    intro vs es K r h
    unfold sl_ref1_Of_l3 at h
    split at h
    · exact loop_good (text_mixed t_ref1_Of) hcf hlf (text_loop t_ref1_Of 3).1 (text_loop t_ref1_Of 3).2 ((eq_ref1_Of_l3 (ref1_Of_l3 kf k) _ _ _ _ K).trans h)
    · exact no_some h

theorem ok_ref1_Of {R : Type} (kf : Nat) : Ok_ref1_Of (R := R) (ref1_Of kf) := by
  have hcf : CfOk (R := R) Tryd.prog glob raw (cf_ref1_Of (ref1_Of_l3 kf kf)) := cf_nil
  have hlf : LfOk (R := R) C_ref1_Of 20 (lf_ref1_Of (ref1_Of_l3 kf kf)) := (lf_top (lf_cons (lok_ref1_Of_l3 kf kf) lf_nil))
  intro v1 K r h
  exact run_good t_ref1_Of hcf hlf ((eq_ref1_Of (ref1_Of_l3 kf kf) v1 K).trans h)

theorem t_ref5_None : textOk C_ref5_None.bef Tryd.prog 33 = true := by kernel_rfl

theorem ok_ref5_None {R : Type} : Ok_ref5_None (R := R) (ref5_None) := by
  have hcf : CfOk (R := R) Tryd.prog glob raw (cf_ref5_None) := cf_nil
  have hlf : LfOk (R := R) C_ref5_None 33 (lf_ref5_None) := lf_none
  intro K r h
  exact run_good t_ref5_None hcf hlf ((eq_ref5_None K).trans h)

theorem t_ref5_Bytes : textOk C_ref5_Bytes.bef Tryd.prog 18 = true := by kernel_rfl

theorem ok_ref5_Bytes {R : Type} : Ok_ref5_Bytes (R := R) (ref5_Bytes) := by
  have hcf : CfOk (R := R) Tryd.prog glob raw (cf_ref5_Bytes ref5_None) := (cf_cons (shok_33 ok_ref5_None) cf_nil)
  have hlf : LfOk (R := R) C_ref5_Bytes 18 (lf_ref5_Bytes ref5_None) := lf_none
  intro v1 K r h
  exact run_good t_ref5_Bytes hcf hlf ((eq_ref5_Bytes ref5_None v1 K).trans h)

theorem t_ref5_Copy : textOk C_ref5_Copy.bef Tryd.prog 11 = true := by kernel_rfl

theorem sln_ref5_Copy_l3 {R : Type} : SlOk (R := R) C_ref5_Copy 11 24 0 3 (sl_ref5_Copy_l3 (fun _ _ _ _ _ _ _ _ _ => none)) := by
  intro vs es K r h
  unfold sl_ref5_Copy_l3 at h
  split at h <;> exact no_some h

theorem lok_ref5_Copy_l3 {R : Type} {c_self : Int → (List Int) → (List (Rose (Int × ((List Int) × Unit)))) → (Int → (List Int) → (List (Rose (Int × ((List Int) × Unit)))) → Option R) → Option R} (hs : Ok_ref5_Copy c_self) (kf : Nat) : ∀ n, SlOk (R := R) C_ref5_Copy 11 24 0 3 (sl_ref5_Copy_l3 (ref5_Copy_l3 c_self kf n)) := by
  intro n
  induction n with
  | zero =>
    intro vs es K r h
    unfold sl_ref5_Copy_l3 at h
    split at h <;> exact no_some h
  | succ k ih =>
    have hcf : CfOk (R := R) Tryd.prog glob raw (cf_ref5_Copy c_self (ref5_Copy_l3 c_self kf k)) := (cf_cons (shok_11 hs) cf_nil)
    have hlf : LfOk (R := R) C_ref5_Copy 11 (lf_ref5_Copy c_self (ref5_Copy_l3 c_self kf k)) := (lf_top (lf_cons ih lf_nil))
    intro vs es K r h
    unfold sl_ref5_Copy_l3 at h
    split at h
    · exact loop_good (text_mixed t_ref5_Copy) hcf hlf (text_loop t_ref5_Copy 3).1 (text_loop t_ref5_Copy 3).2 ((eq_ref5_Copy_l3 c_self (ref5_Copy_l3 c_self kf k) _ _ _ _ _ _ _ _ K).trans h)
    · exact no_some h

theorem ok_ref5_Copy {R : Type} : ∀ kf, Ok_ref5_Copy (R := R) (ref5_Copy kf) := by
  intro kf
  induction kf with
  | zero =>
    intro v1 v2 v3 K r h
    exact no_some h
  | succ kf hs =>
    have hcf : CfOk (R := R) Tryd.prog glob raw (cf_ref5_Copy (ref5_Copy kf) (ref5_Copy_l3 (ref5_Copy kf) kf kf)) := (cf_cons (shok_11 hs) cf_nil)
    have hlf : LfOk (R := R) C_ref5_Copy 11 (lf_ref5_Copy (ref5_Copy kf) (ref5_Copy_l3 (ref5_Copy kf) kf kf)) := (lf_top (lf_cons (lok_ref5_Copy_l3 hs kf kf) lf_nil))
    intro v1 v2 v3 K r h
    exact run_good t_ref5_Copy hcf hlf ((eq_ref5_Copy (ref5_Copy kf) (ref5_Copy_l3 (ref5_Copy kf) kf kf) v1 v2 v3 K).trans h)

theorem t_ref5_Empty : textOk C_ref5_Empty.bef Tryd.prog 22 = true := by kernel_rfl

theorem ok_ref5_Empty {R : Type} : Ok_ref5_Empty (R := R) (ref5_Empty) := by
  have hcf : CfOk (R := R) Tryd.prog glob raw (cf_ref5_Empty) := cf_nil
  have hlf : LfOk (R := R) C_ref5_Empty 22 (lf_ref5_Empty) := lf_none
  intro K r h
  exact run_good t_ref5_Empty hcf hlf ((eq_ref5_Empty K).trans h)

theorem t_ref5_flat : textOk C_ref5_flat.bef Tryd.prog 51 = true := by kernel_rfl

theorem sln_ref5_flat_l3 {R : Type} : SlOk (R := R) C_ref5_flat 51 35 0 3 (sl_ref5_flat_l3 (fun _ _ _ _ _ => none)) := by
  intro vs es K r h
  unfold sl_ref5_flat_l3 at h
  split at h <;> exact no_some h

theorem lok_ref5_flat_l3 {R : Type} (kf : Nat) : ∀ n, SlOk (R := R) C_ref5_flat 51 35 0 3 (sl_ref5_flat_l3 (ref5_flat_l3 kf n)) := by
  intro n
  induction n with
  | zero =>
    intro vs es K r h
    unfold sl_ref5_flat_l3 at h
    split at h <;> exact no_some h
  | succ k ih =>
    have hcf : CfOk (R := R) Tryd.prog glob raw (cf_ref5_flat (ref5_flat_l3 kf k)) := cf_nil
    have hlf : LfOk (R := R) C_ref5_flat 51 (lf_ref5_flat (ref5_flat_l3 kf k)) := (lf_top (lf_cons ih lf_nil))
    intro vs es K r h
    unfold sl_ref5_flat_l3 at h
    split at h
    · exact loop_good (text_mixed t_ref5_flat) hcf hlf (text_loop t_ref5_flat 3).1 (text_loop t_ref5_flat 3).2 ((eq_ref5_flat_l3 (ref5_flat_l3 kf k) _ _ _ _ K).trans h)
    · exact no_some h

theorem ok_ref5_flat {R : Type} (kf : Nat) : Ok_ref5_flat (R := R) (ref5_flat kf) := by
  have hcf : CfOk (R := R) Tryd.prog glob raw (cf_ref5_flat (ref5_flat_l3 kf kf)) := cf_nil
  have hlf : LfOk (R := R) C_ref5_flat 51 (lf_ref5_flat (ref5_flat_l3 kf kf)) := (lf_top (lf_cons (lok_ref5_flat_l3 kf kf) lf_nil))
  intro v1 v2 K r h
  exact run_good t_ref5_flat hcf hlf ((eq_ref5_flat (ref5_flat_l3 kf kf) v1 v2 K).trans h)

theorem t_ref1_Has : textOk C_ref1_Has.bef Tryd.prog 75 = true := by kernel_rfl

theorem ok_ref1_Has {R : Type} : Ok_ref1_Has (R := R) (ref1_Has) := by
  have hcf : CfOk (R := R) Tryd.prog glob raw (cf_ref1_Has) := cf_nil
  have hlf : LfOk (R := R) C_ref1_Has 75 (lf_ref1_Has) := lf_none
  intro v1 v2 K r h
  exact run_good t_ref1_Has hcf hlf ((eq_ref1_Has v1 v2 K).trans h)

theorem t_ref1_List : textOk C_ref1_List.bef Tryd.prog 61 = true := by kernel_rfl

theorem sln_ref1_List_l3 {R : Type} : SlOk (R := R) C_ref1_List 61 19 0 3 (sl_ref1_List_l3 (fun _ _ _ _ => none)) := by
  intro vs es K r h
  unfold sl_ref1_List_l3 at h
  split at h <;> exact no_some h

theorem lok_ref1_List_l3 {R : Type} (kf : Nat) : ∀ n, SlOk (R := R) C_ref1_List 61 19 0 3 (sl_ref1_List_l3 (ref1_List_l3 kf n)) := by
  intro n
  induction n with
  | zero =>
    intro vs es K r h
    unfold sl_ref1_List_l3 at h
    split at h <;> exact no_some h
  | succ k ih =>
    have hcf : CfOk (R := R) Tryd.prog glob raw (cf_ref1_List ref1_Has (ref1_List_l3 kf k)) := (cf_cons (shok_75 ok_ref1_Has) cf_nil)
    have hlf : LfOk (R := R) C_ref1_List 61 (lf_ref1_List ref1_Has (ref1_List_l3 kf k)) := (lf_top (lf_cons ih lf_nil))
    intro vs es K r h
    unfold sl_ref1_List_l3 at h
    split at h
    · exact loop_good (text_mixed t_ref1_List) hcf hlf (text_loop t_ref1_List 3).1 (text_loop t_ref1_List 3).2 ((eq_ref1_List_l3 ref1_Has (ref1_List_l3 kf k) _ _ _ K).trans h)
    · exact no_some h

theorem ok_ref1_List {R : Type} (kf : Nat) : Ok_ref1_List (R := R) (ref1_List kf) := by
  have hcf : CfOk (R := R) Tryd.prog glob raw (cf_ref1_List ref1_Has (ref1_List_l3 kf kf)) := (cf_cons (shok_75 ok_ref1_Has) cf_nil)
  have hlf : LfOk (R := R) C_ref1_List 61 (lf_ref1_List ref1_Has (ref1_List_l3 kf kf)) := (lf_top (lf_cons (lok_ref1_List_l3 kf kf) lf_nil))
  intro v1 K r h
  exact run_good t_ref1_List hcf hlf ((eq_ref1_List ref1_Has (ref1_List_l3 kf kf) v1 K).trans h)

theorem t_ref1_Or : textOk C_ref1_Or.bef Tryd.prog 52 = true := by kernel_rfl

theorem ok_ref1_Or {R : Type} (kf : Nat) : Ok_ref1_Or (R := R) (ref1_Or kf) := by
  have hcf : CfOk (R := R) Tryd.prog glob raw (cf_ref1_Or (ref1_List kf) (ref1_Of kf)) := (cf_cons (shok_61 (ok_ref1_List kf)) (cf_cons (shok_20 (ok_ref1_Of kf)) cf_nil))
  have hlf : LfOk (R := R) C_ref1_Or 52 (lf_ref1_Or (ref1_List kf) (ref1_Of kf)) := lf_none
  intro v1 v2 K r h
  exact run_good t_ref1_Or hcf hlf ((eq_ref1_Or (ref1_List kf) (ref1_Of kf) v1 v2 K).trans h)

theorem t_ref1_SetLess : textOk C_ref1_SetLess.bef Tryd.prog 79 = true := by kernel_rfl

theorem sln_ref1_SetLess_l2 {R : Type} : SlOk (R := R) C_ref1_SetLess 79 23 0 2 (sl_ref1_SetLess_l2 (fun _ _ _ _ _ => none)) := by
  intro vs es K r h
  unfold sl_ref1_SetLess_l2 at h
  split at h <;> exact no_some h

theorem lok_ref1_SetLess_l2 {R : Type} (kf : Nat) : ∀ n, SlOk (R := R) C_ref1_SetLess 79 23 0 2 (sl_ref1_SetLess_l2 (ref1_SetLess_l2 kf n)) := by
  intro n
  induction n with
  | zero =>
    intro vs es K r h
    unfold sl_ref1_SetLess_l2 at h
    split at h <;> exact no_some h
  | succ k ih =>
    have hcf : CfOk (R := R) Tryd.prog glob raw (cf_ref1_SetLess ref1_Has (ref1_SetLess_l2 kf k)) := (cf_cons (shok_75 ok_ref1_Has) cf_nil)
    have hlf : LfOk (R := R) C_ref1_SetLess 79 (lf_ref1_SetLess ref1_Has (ref1_SetLess_l2 kf k)) := (lf_top (lf_cons ih lf_nil))
    intro vs es K r h
    unfold sl_ref1_SetLess_l2 at h
    split at h
    · exact loop_good (text_mixed t_ref1_SetLess) hcf hlf (text_loop t_ref1_SetLess 2).1 (text_loop t_ref1_SetLess 2).2 ((eq_ref1_SetLess_l2 ref1_Has (ref1_SetLess_l2 kf k) _ _ _ K).trans h)
    · exact no_some h

theorem ok_ref1_SetLess {R : Type} (kf : Nat) : Ok_ref1_SetLess (R := R) (ref1_SetLess kf) := by
  have hcf : CfOk (R := R) Tryd.prog glob raw (cf_ref1_SetLess ref1_Has (ref1_SetLess_l2 kf kf)) := (cf_cons (shok_75 ok_ref1_Has) cf_nil)
  have hlf : LfOk (R := R) C_ref1_SetLess 79 (lf_ref1_SetLess ref1_Has (ref1_SetLess_l2 kf kf)) := (lf_top (lf_cons (lok_ref1_SetLess_l2 kf kf) lf_nil))
  intro v1 v2 K r h
  exact run_good t_ref1_SetLess hcf hlf ((eq_ref1_SetLess ref1_Has (ref1_SetLess_l2 kf kf) v1 v2 K).trans h)

theorem t_ref5_Compare : textOk C_ref5_Compare.bef Tryd.prog 67 = true := by kernel_rfl

theorem sln_ref5_Compare_l10 {R : Type} : SlOk (R := R) C_ref5_Compare 67 74 0 10 (sl_ref5_Compare_l10 (fun _ _ _ _ _ _ _ _ _ => none)) := by
  intro vs es K r h
  unfold sl_ref5_Compare_l10 at h
  split at h <;> exact no_some h

theorem lok_ref5_Compare_l10 {R : Type} {c_self : Int → (List Int) → (List (Rose (Int × ((List Int) × Unit)))) → Int → (List Int) → (List (Rose (Int × ((List Int) × Unit)))) → (Int → Option R) → Option R} (hs : Ok_ref5_Compare c_self) (kf : Nat) : ∀ n, SlOk (R := R) C_ref5_Compare 67 74 0 10 (sl_ref5_Compare_l10 (ref5_Compare_l10 c_self kf n)) := by
  intro n
  induction n with
  | zero =>
    intro vs es K r h
    unfold sl_ref5_Compare_l10 at h
    split at h <;> exact no_some h
  | succ k ih =>
    have hcf : CfOk (R := R) Tryd.prog glob raw (cf_ref5_Compare (ref1_SetLess kf) c_self (ref5_Compare_l10 c_self kf k)) := (cf_cons (shok_79 (ok_ref1_SetLess kf)) (cf_cons (shok_67 hs) cf_nil))
    have hlf : LfOk (R := R) C_ref5_Compare 67 (lf_ref5_Compare (ref1_SetLess kf) c_self (ref5_Compare_l10 c_self kf k)) := (lf_top (lf_cons ih lf_nil))
    intro vs es K r h
    unfold sl_ref5_Compare_l10 at h
    split at h
    · exact loop_good (text_mixed t_ref5_Compare) hcf hlf (text_loop t_ref5_Compare 10).1 (text_loop t_ref5_Compare 10).2 ((eq_ref5_Compare_l10 (ref1_SetLess kf) c_self (ref5_Compare_l10 c_self kf k) _ _ _ _ _ _ _ K).trans h)
    · exact no_some h

theorem ok_ref5_Compare {R : Type} : ∀ kf, Ok_ref5_Compare (R := R) (ref5_Compare kf) := by
  intro kf
  induction kf with
  | zero =>
    intro v1 v2 v3 v4 v5 v6 K r h
    exact no_some h
  | succ kf hs =>
    have hcf : CfOk (R := R) Tryd.prog glob raw (cf_ref5_Compare (ref1_SetLess kf) (ref5_Compare kf) (ref5_Compare_l10 (ref5_Compare kf) kf kf)) := (cf_cons (shok_79 (ok_ref1_SetLess kf)) (cf_cons (shok_67 hs) cf_nil))
    have hlf : LfOk (R := R) C_ref5_Compare 67 (lf_ref5_Compare (ref1_SetLess kf) (ref5_Compare kf) (ref5_Compare_l10 (ref5_Compare kf) kf kf)) := (lf_top (lf_cons (lok_ref5_Compare_l10 hs kf kf) lf_nil))
    intro v1 v2 v3 v4 v5 v6 K r h
    exact run_good t_ref5_Compare hcf hlf ((eq_ref5_Compare (ref1_SetLess kf) (ref5_Compare kf) (ref5_Compare_l10 (ref5_Compare kf) kf kf) v1 v2 v3 v4 v5 v6 K).trans h)

theorem t_ref5_Equal : textOk C_ref5_Equal.bef Tryd.prog 68 = true := by kernel_rfl

theorem ok_ref5_Equal {R : Type} (kf : Nat) : Ok_ref5_Equal (R := R) (ref5_Equal kf) := by
  have hcf : CfOk (R := R) Tryd.prog glob raw (cf_ref5_Equal (ref5_Compare kf)) := (cf_cons (shok_67 (ok_ref5_Compare kf)) cf_nil)
  have hlf : LfOk (R := R) C_ref5_Equal 68 (lf_ref5_Equal (ref5_Compare kf)) := lf_none
  intro v1 v2 v3 v4 v5 v6 K r h
  exact run_good t_ref5_Equal hcf hlf ((eq_ref5_Equal (ref5_Compare kf) v1 v2 v3 v4 v5 v6 K).trans h)

theorem t_ref5_insert : textOk C_ref5_insert.bef Tryd.prog 53 = true := by kernel_rfl

theorem sln_ref5_insert_l2 {R : Type} : SlOk (R := R) C_ref5_insert 53 46 0 2 (sl_ref5_insert_l2 (fun _ _ _ _ _ _ => none)) := by
  intro vs es K r h
  unfold sl_ref5_insert_l2 at h
  split at h <;> exact no_some h

theorem lok_ref5_insert_l2 {R : Type} (kf : Nat) : ∀ n, SlOk (R := R) C_ref5_insert 53 46 0 2 (sl_ref5_insert_l2 (ref5_insert_l2 kf n)) := by
  intro n
  induction n with
  | zero =>
    intro vs es K r h
    unfold sl_ref5_insert_l2 at h
    split at h <;> exact no_some h
  | succ k ih =>
    have hcf : CfOk (R := R) Tryd.prog glob raw (cf_ref5_insert (ref5_Compare kf) (ref5_Equal kf) (ref5_insert_l2 kf k)) := (cf_cons (shok_67 (ok_ref5_Compare kf)) (cf_cons (shok_68 (ok_ref5_Equal kf)) cf_nil))
    have hlf : LfOk (R := R) C_ref5_insert 53 (lf_ref5_insert (ref5_Compare kf) (ref5_Equal kf) (ref5_insert_l2 kf k)) := (lf_top (lf_cons ih lf_nil))
    intro vs es K r h
    unfold sl_ref5_insert_l2 at h
    split at h
    · exact loop_good (text_mixed t_ref5_insert) hcf hlf (text_loop t_ref5_insert 2).1 (text_loop t_ref5_insert 2).2 ((eq_ref5_insert_l2 (ref5_Compare kf) (ref5_Equal kf) (ref5_insert_l2 kf k) _ _ _ _ _ K).trans h)
    · exact no_some h

theorem ok_ref5_insert {R : Type} (kf : Nat) : Ok_ref5_insert (R := R) (ref5_insert kf) := by
  have hcf : CfOk (R := R) Tryd.prog glob raw (cf_ref5_insert (ref5_Compare kf) (ref5_Equal kf) (ref5_insert_l2 kf kf)) := (cf_cons (shok_67 (ok_ref5_Compare kf)) (cf_cons (shok_68 (ok_ref5_Equal kf)) cf_nil))
  have hlf : LfOk (R := R) C_ref5_insert 53 (lf_ref5_insert (ref5_Compare kf) (ref5_Equal kf) (ref5_insert_l2 kf kf)) := (lf_top (lf_cons (lok_ref5_insert_l2 kf kf) lf_nil))
  intro v1 v2 v3 v4 K r h
  exact run_good t_ref5_insert hcf hlf ((eq_ref5_insert (ref5_Compare kf) (ref5_Equal kf) (ref5_insert_l2 kf kf) v1 v2 v3 v4 K).trans h)

theorem t_ref5_Alt : textOk C_ref5_Alt.bef Tryd.prog 35 = true := by kernel_rfl

theorem sln_ref5_Alt_l5 {R : Type} : SlOk (R := R) C_ref5_Alt 35 57 0 5 (sl_ref5_Alt_l5 (fun _ _ _ _ _ _ _ _ => none)) := by
  intro vs es K r h
  unfold sl_ref5_Alt_l5 at h
  split at h <;> exact no_some h

theorem lok_ref5_Alt_l5 {R : Type} (kf : Nat) : ∀ n, SlOk (R := R) C_ref5_Alt 35 57 0 5 (sl_ref5_Alt_l5 (ref5_Alt_l5 kf n)) := by
  intro n
  induction n with
  | zero =>
    intro vs es K r h
    unfold sl_ref5_Alt_l5 at h
    split at h <;> exact no_some h
  | succ k ih =>
    have hcf : CfOk (R := R) Tryd.prog glob raw (cf_ref5_Alt (ref5_flat kf) (ref1_Or kf) (ref5_Copy kf) (ref5_insert kf) ref5_Bytes ref5_None (ref5_Alt_l5 kf k)) := (cf_cons (shok_51 (ok_ref5_flat kf)) (cf_cons (shok_52 (ok_ref1_Or kf)) (cf_cons (shok_11 (ok_ref5_Copy kf)) (cf_cons (shok_53 (ok_ref5_insert kf)) (cf_cons (shok_18 ok_ref5_Bytes) (cf_cons (shok_33 ok_ref5_None) cf_nil))))))
    have hlf : LfOk (R := R) C_ref5_Alt 35 (lf_ref5_Alt (ref5_flat kf) (ref1_Or kf) (ref5_Copy kf) (ref5_insert kf) ref5_Bytes ref5_None (ref5_Alt_l5 kf k)) := (lf_top (lf_cons ih lf_nil))
    intro vs es K r h
    unfold sl_ref5_Alt_l5 at h
    split at h
    · exact loop_good (text_mixed t_ref5_Alt) hcf hlf (text_loop t_ref5_Alt 5).1 (text_loop t_ref5_Alt 5).2 ((eq_ref5_Alt_l5 (ref5_flat kf) (ref1_Or kf) (ref5_Copy kf) (ref5_insert kf) ref5_Bytes ref5_None (ref5_Alt_l5 kf k) _ _ _ _ _ _ _ K).trans h)
    · exact no_some h

theorem ok_ref5_Alt {R : Type} (kf : Nat) : Ok_ref5_Alt (R := R) (ref5_Alt kf) := by
  have hcf : CfOk (R := R) Tryd.prog glob raw (cf_ref5_Alt (ref5_flat kf) (ref1_Or kf) (ref5_Copy kf) (ref5_insert kf) ref5_Bytes ref5_None (ref5_Alt_l5 kf kf)) := (cf_cons (shok_51 (ok_ref5_flat kf)) (cf_cons (shok_52 (ok_ref1_Or kf)) (cf_cons (shok_11 (ok_ref5_Copy kf)) (cf_cons (shok_53 (ok_ref5_insert kf)) (cf_cons (shok_18 ok_ref5_Bytes) (cf_cons (shok_33 ok_ref5_None) cf_nil))))))
  have hlf : LfOk (R := R) C_ref5_Alt 35 (lf_ref5_Alt (ref5_flat kf) (ref1_Or kf) (ref5_Copy kf) (ref5_insert kf) ref5_Bytes ref5_None (ref5_Alt_l5 kf kf)) := (lf_top (lf_cons (lok_ref5_Alt_l5 kf kf) lf_nil))
  intro v1 K r h
  exact run_good t_ref5_Alt hcf hlf ((eq_ref5_Alt (ref5_flat kf) (ref1_Or kf) (ref5_Copy kf) (ref5_insert kf) ref5_Bytes ref5_None (ref5_Alt_l5 kf kf) v1 K).trans h)

theorem t_ref5_Star : textOk C_ref5_Star.bef Tryd.prog 21 = true := by kernel_rfl

theorem sln_ref5_Star_l10 {R : Type} : SlOk (R := R) C_ref5_Star 21 52 0 10 (sl_ref5_Star_l10 (fun _ _ _ _ _ _ _ _ _ => none)) := by
  intro vs es K r h
  unfold sl_ref5_Star_l10 at h
  split at h <;> exact no_some h

theorem lok_ref5_Star_l10 {R : Type} {c_self : Int → (List Int) → (List (Rose (Int × ((List Int) × Unit)))) → (Int → (List Int) → (List (Rose (Int × ((List Int) × Unit)))) → Option R) → Option R} (hs : Ok_ref5_Star c_self) (kf : Nat) : ∀ n, SlOk (R := R) C_ref5_Star 21 52 0 10 (sl_ref5_Star_l10 (ref5_Star_l10 c_self kf n)) := by
  intro n
  induction n with
  | zero =>
    intro vs es K r h
    unfold sl_ref5_Star_l10 at h
    split at h <;> exact no_some h
  | succ k ih =>
    have hcf : CfOk (R := R) Tryd.prog glob raw (cf_ref5_Star (ref5_Copy kf) ref5_Empty (ref5_Alt kf) c_self (ref5_Star_l10 c_self kf k)) := (cf_cons (shok_11 (ok_ref5_Copy kf)) (cf_cons (shok_22 ok_ref5_Empty) (cf_cons (shok_35 (ok_ref5_Alt kf)) (cf_cons (shok_21 hs) cf_nil))))
    have hlf : LfOk (R := R) C_ref5_Star 21 (lf_ref5_Star (ref5_Copy kf) ref5_Empty (ref5_Alt kf) c_self (ref5_Star_l10 c_self kf k)) := (lf_top (lf_cons ih lf_nil))
    intro vs es K r h
    unfold sl_ref5_Star_l10 at h
    split at h
    · exact loop_good (text_mixed t_ref5_Star) hcf hlf (text_loop t_ref5_Star 10).1 (text_loop t_ref5_Star 10).2 ((eq_ref5_Star_l10 (ref5_Copy kf) ref5_Empty (ref5_Alt kf) c_self (ref5_Star_l10 c_self kf k) _ _ _ _ _ _ _ _ K).trans h)
    · exact no_some h

theorem ok_ref5_Star {R : Type} : ∀ kf, Ok_ref5_Star (R := R) (ref5_Star kf) := by
  intro kf
  induction kf with
  | zero =>
    intro v1 v2 v3 K r h
    exact no_some h
  | succ kf hs =>
    have hcf : CfOk (R := R) Tryd.prog glob raw (cf_ref5_Star (ref5_Copy kf) ref5_Empty (ref5_Alt kf) (ref5_Star kf) (ref5_Star_l10 (ref5_Star kf) kf kf)) := (cf_cons (shok_11 (ok_ref5_Copy kf)) (cf_cons (shok_22 ok_ref5_Empty) (cf_cons (shok_35 (ok_ref5_Alt kf)) (cf_cons (shok_21 hs) cf_nil))))
    have hlf : LfOk (R := R) C_ref5_Star 21 (lf_ref5_Star (ref5_Copy kf) ref5_Empty (ref5_Alt kf) (ref5_Star kf) (ref5_Star_l10 (ref5_Star kf) kf kf)) := (lf_top (lf_cons (lok_ref5_Star_l10 hs kf kf) lf_nil))
    intro v1 v2 v3 K r h
    exact run_good t_ref5_Star hcf hlf ((eq_ref5_Star (ref5_Copy kf) ref5_Empty (ref5_Alt kf) (ref5_Star kf) (ref5_Star_l10 (ref5_Star kf) kf kf) v1 v2 v3 K).trans h)

theorem t_slices_Index_int_int : textOk C_slices_Index_int_int.bef Tryd.prog 69 = true := by kernel_rfl

theorem sln_slices_Index_int_int_l2 {R : Type} : SlOk (R := R) C_slices_Index_int_int 69 19 0 2 (sl_slices_Index_int_int_l2 (fun _ _ _ _ _ _ => none)) := by
  intro vs es K r h
  unfold sl_slices_Index_int_int_l2 at h
  split at h <;> exact no_some h

theorem lok_slices_Index_int_int_l2 {R : Type} (kf : Nat) : ∀ n, SlOk (R := R) C_slices_Index_int_int 69 19 0 2 (sl_slices_Index_int_int_l2 (slices_Index_int_int_l2 kf n)) := by
  intro n
  induction n with
  | zero =>
    intro vs es K r h
    unfold sl_slices_Index_int_int_l2 at h
    split at h <;> exact no_some h
  | succ k ih =>
    have hcf : CfOk (R := R) Tryd.prog glob raw (cf_slices_Index_int_int (slices_Index_int_int_l2 kf k)) := cf_nil
    have hlf : LfOk (R := R) C_slices_Index_int_int 69 (lf_slices_Index_int_int (slices_Index_int_int_l2 kf k)) := (lf_top (lf_cons ih lf_nil))
    intro vs es K r h
    unfold sl_slices_Index_int_int_l2 at h
    split at h
    · exact loop_good (text_mixed t_slices_Index_int_int) hcf hlf (text_loop t_slices_Index_int_int 2).1 (text_loop t_slices_Index_int_int 2).2 ((eq_slices_Index_int_int_l2 (slices_Index_int_int_l2 kf k) _ _ _ _ K).trans h)
    · exact no_some h

theorem ok_slices_Index_int_int {R : Type} (kf : Nat) : Ok_slices_Index_int_int (R := R) (slices_Index_int_int kf) := by
  have hcf : CfOk (R := R) Tryd.prog glob raw (cf_slices_Index_int_int (slices_Index_int_int_l2 kf kf)) := cf_nil
  have hlf : LfOk (R := R) C_slices_Index_int_int 69 (lf_slices_Index_int_int (slices_Index_int_int_l2 kf kf)) := (lf_top (lf_cons (lok_slices_Index_int_int_l2 kf kf) lf_nil))
  intro v1 v2 K r h
  exact run_good t_slices_Index_int_int hcf hlf ((eq_slices_Index_int_int (slices_Index_int_int_l2 kf kf) v1 v2 K).trans h)

theorem t_slices_Contains_int_int : textOk C_slices_Contains_int_int.bef Tryd.prog 55 = true := by kernel_rfl

theorem ok_slices_Contains_int_int {R : Type} (kf : Nat) : Ok_slices_Contains_int_int (R := R) (slices_Contains_int_int kf) := by
  have hcf : CfOk (R := R) Tryd.prog glob raw (cf_slices_Contains_int_int (slices_Index_int_int kf)) := (cf_cons (shok_69 (ok_slices_Index_int_int kf)) cf_nil)
  have hlf : LfOk (R := R) C_slices_Contains_int_int 55 (lf_slices_Contains_int_int (slices_Index_int_int kf)) := lf_none
  intro v1 v2 K r h
  exact run_good t_slices_Contains_int_int hcf hlf ((eq_slices_Contains_int_int (slices_Index_int_int kf) v1 v2 K).trans h)

theorem t_rx_bad_1 : textOk C_rx_bad_1.bef Tryd.prog 54 = true := by kernel_rfl

theorem ok_rx_bad_1 {R : Type} (kf : Nat) : Ok_rx_bad_1 (R := R) (rx_bad_1 kf) := by
  have hcf : CfOk (R := R) Tryd.prog glob raw (cf_rx_bad_1 (slices_Contains_int_int kf)) := (cf_cons (shok_55 (ok_slices_Contains_int_int kf)) cf_nil)
  have hlf : LfOk (R := R) C_rx_bad_1 54 (lf_rx_bad_1 (slices_Contains_int_int kf)) := lf_none
  intro v1 v2 v3 v4 K r h
  exact run_good t_rx_bad_1 hcf hlf ((eq_rx_bad_1 (slices_Contains_int_int kf) v1 v2 v3 v4 K).trans h)

theorem t_slices_IndexFunc_api_Rx_api_Rx : textOk C_slices_IndexFunc_api_Rx_api_Rx.bef Tryd.prog 58 = true := by kernel_rfl

theorem sln_slices_IndexFunc_api_Rx_api_Rx_l2 {R : Type} : SlOk (R := R) C_slices_IndexFunc_api_Rx_api_Rx 58 19 1 2 (sl_slices_IndexFunc_api_Rx_api_Rx_l2 (fun _ _ _ _ _ _ => none)) := by
  intro vs es K r h
  unfold sl_slices_IndexFunc_api_Rx_api_Rx_l2 at h
  split at h <;> exact no_some h

theorem lok_slices_IndexFunc_api_Rx_api_Rx_l2 {R : Type} (kf : Nat) : ∀ n, SlOk (R := R) C_slices_IndexFunc_api_Rx_api_Rx 58 19 1 2 (sl_slices_IndexFunc_api_Rx_api_Rx_l2 (slices_IndexFunc_api_Rx_api_Rx_l2 kf n)) := by
  intro n
  induction n with
  | zero =>
    intro vs es K r h
    unfold sl_slices_IndexFunc_api_Rx_api_Rx_l2 at h
    split at h <;> exact no_some h
  | succ k ih =>
    have hcf : CfOk (R := R) Tryd.prog glob raw (cf_slices_IndexFunc_api_Rx_api_Rx (rx_bad_1 kf) (slices_IndexFunc_api_Rx_api_Rx_l2 kf k)) := (cf_cons (shok_54 (ok_rx_bad_1 kf)) cf_nil)
    have hlf : LfOk (R := R) C_slices_IndexFunc_api_Rx_api_Rx 58 (lf_slices_IndexFunc_api_Rx_api_Rx (rx_bad_1 kf) (slices_IndexFunc_api_Rx_api_Rx_l2 kf k)) := (lf_top (lf_cons ih lf_nil))
    intro vs es K r h
    unfold sl_slices_IndexFunc_api_Rx_api_Rx_l2 at h
    split at h
    · exact loop_good (text_mixed t_slices_IndexFunc_api_Rx_api_Rx) hcf hlf (text_loop t_slices_IndexFunc_api_Rx_api_Rx 2).1 (text_loop t_slices_IndexFunc_api_Rx_api_Rx 2).2 ((eq_slices_IndexFunc_api_Rx_api_Rx_l2 (rx_bad_1 kf) (slices_IndexFunc_api_Rx_api_Rx_l2 kf k) _ _ _ _ K).trans h)
    · exact no_some h

theorem ok_slices_IndexFunc_api_Rx_api_Rx {R : Type} (kf : Nat) : Ok_slices_IndexFunc_api_Rx_api_Rx (R := R) (slices_IndexFunc_api_Rx_api_Rx kf) := by
  have hcf : CfOk (R := R) Tryd.prog glob raw (cf_slices_IndexFunc_api_Rx_api_Rx (rx_bad_1 kf) (slices_IndexFunc_api_Rx_api_Rx_l2 kf kf)) := (cf_cons (shok_54 (ok_rx_bad_1 kf)) cf_nil)
  have hlf : LfOk (R := R) C_slices_IndexFunc_api_Rx_api_Rx 58 (lf_slices_IndexFunc_api_Rx_api_Rx (rx_bad_1 kf) (slices_IndexFunc_api_Rx_api_Rx_l2 kf kf)) := (lf_top (lf_cons (lok_slices_IndexFunc_api_Rx_api_Rx_l2 kf kf) lf_nil))
  intro v1 v2 K r h
  exact run_good t_slices_IndexFunc_api_Rx_api_Rx hcf hlf ((eq_slices_IndexFunc_api_Rx_api_Rx (rx_bad_1 kf) (slices_IndexFunc_api_Rx_api_Rx_l2 kf kf) v1 v2 K).trans h)

theorem t_slices_ContainsFunc_api_Rx_api_Rx : textOk C_slices_ContainsFunc_api_Rx_api_Rx.bef Tryd.prog 38 = true := by kernel_rfl

theorem ok_slices_ContainsFunc_api_Rx_api_Rx {R : Type} (kf : Nat) : Ok_slices_ContainsFunc_api_Rx_api_Rx (R := R) (slices_ContainsFunc_api_Rx_api_Rx kf) := by
  have hcf : CfOk (R := R) Tryd.prog glob raw (cf_slices_ContainsFunc_api_Rx_api_Rx (slices_IndexFunc_api_Rx_api_Rx kf)) := (cf_cons (shok_58 (ok_slices_IndexFunc_api_Rx_api_Rx kf) okn_slices_IndexFunc_api_Rx_api_Rx_s1) cf_nil)
  have hlf : LfOk (R := R) C_slices_ContainsFunc_api_Rx_api_Rx 38 (lf_slices_ContainsFunc_api_Rx_api_Rx (slices_IndexFunc_api_Rx_api_Rx kf)) := lf_none
  intro v1 v2 K r h
  exact run_good t_slices_ContainsFunc_api_Rx_api_Rx hcf hlf ((eq_slices_ContainsFunc_api_Rx_api_Rx (slices_IndexFunc_api_Rx_api_Rx kf) v1 v2 K).trans h)

theorem t_rx_bad : textOk C_rx_bad.bef Tryd.prog 36 = true := by kernel_rfl

theorem ok_rx_bad {R : Type} (kf : Nat) : Ok_rx_bad (R := R) (rx_bad kf) := by
  have hcf : CfOk (R := R) Tryd.prog glob raw (cf_rx_bad (slices_ContainsFunc_api_Rx_api_Rx kf)) := (cf_cons (shok_38 (ok_slices_ContainsFunc_api_Rx_api_Rx kf) okn_slices_ContainsFunc_api_Rx_api_Rx_s1) cf_nil)
  have hlf : LfOk (R := R) C_rx_bad 36 (lf_rx_bad (slices_ContainsFunc_api_Rx_api_Rx kf)) := lf_none
  intro v1 v2 K r h
  exact run_good t_rx_bad hcf hlf ((eq_rx_bad (slices_ContainsFunc_api_Rx_api_Rx kf) v1 v2 K).trans h)

theorem t_rx_isSet : textOk C_rx_isSet.bef Tryd.prog 56 = true := by kernel_rfl

theorem ok_rx_isSet {R : Type} : Ok_rx_isSet (R := R) (rx_isSet) := by
  have hcf : CfOk (R := R) Tryd.prog glob raw (cf_rx_isSet) := cf_nil
  have hlf : LfOk (R := R) C_rx_isSet 56 (lf_rx_isSet) := lf_none
  intro v1 v2 v3 K r h
  exact run_good t_rx_isSet hcf hlf ((eq_rx_isSet v1 v2 v3 K).trans h)

theorem t_cmp_isNaN_int : textOk C_cmp_isNaN_int.bef Tryd.prog 80 = true := by kernel_rfl

theorem ok_cmp_isNaN_int {R : Type} : Ok_cmp_isNaN_int (R := R) (cmp_isNaN_int) := by
  have hcf : CfOk (R := R) Tryd.prog glob raw (cf_cmp_isNaN_int) := cf_nil
  have hlf : LfOk (R := R) C_cmp_isNaN_int 80 (lf_cmp_isNaN_int) := lf_none
  intro v1 K r h
  exact run_good t_cmp_isNaN_int hcf hlf ((eq_cmp_isNaN_int v1 K).trans h)

theorem t_cmp_Compare_int : textOk C_cmp_Compare_int.bef Tryd.prog 70 = true := by kernel_rfl

theorem ok_cmp_Compare_int {R : Type} : Ok_cmp_Compare_int (R := R) (cmp_Compare_int) := by
  have hcf : CfOk (R := R) Tryd.prog glob raw (cf_cmp_Compare_int cmp_isNaN_int) := (cf_cons (shok_80 ok_cmp_isNaN_int) cf_nil)
  have hlf : LfOk (R := R) C_cmp_Compare_int 70 (lf_cmp_Compare_int cmp_isNaN_int) := lf_none
  intro v1 v2 K r h
  exact run_good t_cmp_Compare_int hcf hlf ((eq_cmp_Compare_int cmp_isNaN_int v1 v2 K).trans h)

theorem t_math_bits_TrailingZeros64 : textOk C_math_bits_TrailingZeros64.bef Tryd.prog 81 = true := by kernel_rfl

theorem ok_math_bits_TrailingZeros64 {R : Type} : Ok_math_bits_TrailingZeros64 (R := R) (math_bits_TrailingZeros64) := by
  have hcf : CfOk (R := R) Tryd.prog glob raw (cf_math_bits_TrailingZeros64) := cf_nil
  have hlf : LfOk (R := R) C_math_bits_TrailingZeros64 81 (lf_math_bits_TrailingZeros64) := lf_none
  intro v1 K r h
  exact run_good t_math_bits_TrailingZeros64 hcf hlf ((eq_math_bits_TrailingZeros64 v1 K).trans h)

theorem t_byteset_Less : textOk C_byteset_Less.bef Tryd.prog 71 = true := by kernel_rfl

theorem sln_byteset_Less_l2 {R : Type} : SlOk (R := R) C_byteset_Less 71 28 0 2 (sl_byteset_Less_l2 (fun _ _ _ _ _ => none)) := by
  intro vs es K r h
  unfold sl_byteset_Less_l2 at h
  split at h <;> exact no_some h

theorem lok_byteset_Less_l2 {R : Type} (kf : Nat) : ∀ n, SlOk (R := R) C_byteset_Less 71 28 0 2 (sl_byteset_Less_l2 (byteset_Less_l2 kf n)) := by
  intro n
  induction n with
  | zero =>
    intro vs es K r h
    unfold sl_byteset_Less_l2 at h
    split at h <;> exact no_some h
  | succ k ih =>
    have hcf : CfOk (R := R) Tryd.prog glob raw (cf_byteset_Less math_bits_TrailingZeros64 (byteset_Less_l2 kf k)) := (cf_cons (shok_81 ok_math_bits_TrailingZeros64) cf_nil)
    have hlf : LfOk (R := R) C_byteset_Less 71 (lf_byteset_Less math_bits_TrailingZeros64 (byteset_Less_l2 kf k)) := (lf_top (lf_cons ih lf_nil))
    intro vs es K r h
    unfold sl_byteset_Less_l2 at h
    split at h
    · exact loop_good (text_mixed t_byteset_Less) hcf hlf (text_loop t_byteset_Less 2).1 (text_loop t_byteset_Less 2).2 ((eq_byteset_Less_l2 math_bits_TrailingZeros64 (byteset_Less_l2 kf k) _ _ _ K).trans h)
    · exact no_some h

theorem ok_byteset_Less {R : Type} (kf : Nat) : Ok_byteset_Less (R := R) (byteset_Less kf) := by
  have hcf : CfOk (R := R) Tryd.prog glob raw (cf_byteset_Less math_bits_TrailingZeros64 (byteset_Less_l2 kf kf)) := (cf_cons (shok_81 ok_math_bits_TrailingZeros64) cf_nil)
  have hlf : LfOk (R := R) C_byteset_Less 71 (lf_byteset_Less math_bits_TrailingZeros64 (byteset_Less_l2 kf kf)) := (lf_top (lf_cons (lok_byteset_Less_l2 kf kf) lf_nil))
  intro v1 v2 K r h
  exact run_good t_byteset_Less hcf hlf ((eq_byteset_Less math_bits_TrailingZeros64 (byteset_Less_l2 kf kf) v1 v2 K).trans h)

theorem t_slices_CompareFunc_api_Rx_api_Rx_api_Rx_api_Rx : textOk C_slices_CompareFunc_api_Rx_api_Rx_api_Rx_api_Rx.bef Tryd.prog 72 = true := by kernel_rfl

theorem sln_slices_CompareFunc_api_Rx_api_Rx_api_Rx_api_Rx_l2 {R : Type} : SlOk (R := R) C_slices_CompareFunc_api_Rx_api_Rx_api_Rx_api_Rx 72 39 0 2 (sl_slices_CompareFunc_api_Rx_api_Rx_api_Rx_api_Rx_l2 (fun _ _ _ _ _ _ _ => none)) := by
  intro vs es K r h
  unfold sl_slices_CompareFunc_api_Rx_api_Rx_api_Rx_api_Rx_l2 at h
  split at h <;> exact no_some h

theorem lok_slices_CompareFunc_api_Rx_api_Rx_api_Rx_api_Rx_l2 {R : Type} {c_rx_Compare : Int → (List Int) → (List (Rose (Int × ((List Int) × Unit)))) → Int → (List Int) → (List (Rose (Int × ((List Int) × Unit)))) → (Int → Option R) → Option R} (h_rx_Compare : Ok_rx_Compare c_rx_Compare) (kf : Nat) : ∀ n, SlOk (R := R) C_slices_CompareFunc_api_Rx_api_Rx_api_Rx_api_Rx 72 39 0 2 (sl_slices_CompareFunc_api_Rx_api_Rx_api_Rx_api_Rx_l2 (slices_CompareFunc_api_Rx_api_Rx_api_Rx_api_Rx_l2 c_rx_Compare kf n)) := by
  intro n
  induction n with
  | zero =>
    intro vs es K r h
    unfold sl_slices_CompareFunc_api_Rx_api_Rx_api_Rx_api_Rx_l2 at h
    split at h <;> exact no_some h
  | succ k ih =>
    have hcf : CfOk (R := R) Tryd.prog glob raw (cf_slices_CompareFunc_api_Rx_api_Rx_api_Rx_api_Rx c_rx_Compare (slices_CompareFunc_api_Rx_api_Rx_api_Rx_api_Rx_l2 c_rx_Compare kf k)) := (cf_cons (shok_57 h_rx_Compare) cf_nil)
    have hlf : LfOk (R := R) C_slices_CompareFunc_api_Rx_api_Rx_api_Rx_api_Rx 72 (lf_slices_CompareFunc_api_Rx_api_Rx_api_Rx_api_Rx c_rx_Compare (slices_CompareFunc_api_Rx_api_Rx_api_Rx_api_Rx_l2 c_rx_Compare kf k)) := (lf_top (lf_cons ih lf_nil))
    intro vs es K r h
    unfold sl_slices_CompareFunc_api_Rx_api_Rx_api_Rx_api_Rx_l2 at h
    split at h
    · exact loop_good (text_mixed t_slices_CompareFunc_api_Rx_api_Rx_api_Rx_api_Rx) hcf hlf (text_loop t_slices_CompareFunc_api_Rx_api_Rx_api_Rx_api_Rx 2).1 (text_loop t_slices_CompareFunc_api_Rx_api_Rx_api_Rx_api_Rx 2).2 ((eq_slices_CompareFunc_api_Rx_api_Rx_api_Rx_api_Rx_l2 c_rx_Compare (slices_CompareFunc_api_Rx_api_Rx_api_Rx_api_Rx_l2 c_rx_Compare kf k) _ _ _ _ _ K).trans h)
    · exact no_some h

theorem ok_slices_CompareFunc_api_Rx_api_Rx_api_Rx_api_Rx {R : Type} {c_rx_Compare : Int → (List Int) → (List (Rose (Int × ((List Int) × Unit)))) → Int → (List Int) → (List (Rose (Int × ((List Int) × Unit)))) → (Int → Option R) → Option R} (h_rx_Compare : Ok_rx_Compare c_rx_Compare) (kf : Nat) : Ok_slices_CompareFunc_api_Rx_api_Rx_api_Rx_api_Rx (R := R) (slices_CompareFunc_api_Rx_api_Rx_api_Rx_api_Rx c_rx_Compare kf) := by
  have hcf : CfOk (R := R) Tryd.prog glob raw (cf_slices_CompareFunc_api_Rx_api_Rx_api_Rx_api_Rx c_rx_Compare (slices_CompareFunc_api_Rx_api_Rx_api_Rx_api_Rx_l2 c_rx_Compare kf kf)) := (cf_cons (shok_57 h_rx_Compare) cf_nil)
  have hlf : LfOk (R := R) C_slices_CompareFunc_api_Rx_api_Rx_api_Rx_api_Rx 72 (lf_slices_CompareFunc_api_Rx_api_Rx_api_Rx_api_Rx c_rx_Compare (slices_CompareFunc_api_Rx_api_Rx_api_Rx_api_Rx_l2 c_rx_Compare kf kf)) := (lf_top (lf_cons (lok_slices_CompareFunc_api_Rx_api_Rx_api_Rx_api_Rx_l2 h_rx_Compare kf kf) lf_nil))
  intro v1 v2 K r h
  exact run_good t_slices_CompareFunc_api_Rx_api_Rx_api_Rx_api_Rx hcf hlf ((eq_slices_CompareFunc_api_Rx_api_Rx_api_Rx_api_Rx c_rx_Compare (slices_CompareFunc_api_Rx_api_Rx_api_Rx_api_Rx_l2 c_rx_Compare kf kf) v1 v2 K).trans h)

theorem t_rx_Compare : textOk C_rx_Compare.bef Tryd.prog 57 = true := by kernel_rfl

theorem ok_rx_Compare {R : Type} : ∀ kf, Ok_rx_Compare (R := R) (rx_Compare kf) := by
  intro kf
  induction kf with
  | zero =>
    intro v1 v2 v3 v4 v5 v6 K r h
    exact no_some h
  | succ kf hs =>
    have hcf : CfOk (R := R) Tryd.prog glob raw (cf_rx_Compare cmp_Compare_int (byteset_Less kf) (slices_CompareFunc_api_Rx_api_Rx_api_Rx_api_Rx (rx_Compare kf) kf)) := (cf_cons (shok_70 ok_cmp_Compare_int) (cf_cons (shok_71 (ok_byteset_Less kf)) (cf_cons (shok_72 (ok_slices_CompareFunc_api_Rx_api_Rx_api_Rx_api_Rx hs kf)) cf_nil)))
    have hlf : LfOk (R := R) C_rx_Compare 57 (lf_rx_Compare cmp_Compare_int (byteset_Less kf) (slices_CompareFunc_api_Rx_api_Rx_api_Rx_api_Rx (rx_Compare kf) kf)) := lf_none
    intro v1 v2 v3 v4 v5 v6 K r h
    exact run_good t_rx_Compare hcf hlf ((eq_rx_Compare cmp_Compare_int (byteset_Less kf) (slices_CompareFunc_api_Rx_api_Rx_api_Rx_api_Rx (rx_Compare kf) kf) v1 v2 v3 v4 v5 v6 K).trans h)

theorem t_rx_rising : textOk C_rx_rising.bef Tryd.prog 37 = true := by kernel_rfl

theorem sln_rx_rising_l3 {R : Type} : SlOk (R := R) C_rx_rising 37 32 0 3 (sl_rx_rising_l3 (fun _ _ _ _ _ _ _ => none)) := by
  intro vs es K r h
  unfold sl_rx_rising_l3 at h
  split at h <;> exact no_some h

theorem lok_rx_rising_l3 {R : Type} (kf : Nat) : ∀ n, SlOk (R := R) C_rx_rising 37 32 0 3 (sl_rx_rising_l3 (rx_rising_l3 kf n)) := by
  intro n
  induction n with
  | zero =>
    intro vs es K r h
    unfold sl_rx_rising_l3 at h
    split at h <;> exact no_some h
  | succ k ih =>
    have hcf : CfOk (R := R) Tryd.prog glob raw (cf_rx_rising rx_isSet (rx_Compare kf) (rx_rising_l3 kf k)) := (cf_cons (shok_56 ok_rx_isSet) (cf_cons (shok_57 (ok_rx_Compare kf)) cf_nil))
    have hlf : LfOk (R := R) C_rx_rising 37 (lf_rx_rising rx_isSet (rx_Compare kf) (rx_rising_l3 kf k)) := (lf_top (lf_cons ih lf_nil))
    intro vs es K r h
    unfold sl_rx_rising_l3 at h
    split at h
    · exact loop_good (text_mixed t_rx_rising) hcf hlf (text_loop t_rx_rising 3).1 (text_loop t_rx_rising 3).2 ((eq_rx_rising_l3 rx_isSet (rx_Compare kf) (rx_rising_l3 kf k) _ _ _ _ _ K).trans h)
    · exact no_some h

theorem ok_rx_rising {R : Type} (kf : Nat) : Ok_rx_rising (R := R) (rx_rising kf) := by
  have hcf : CfOk (R := R) Tryd.prog glob raw (cf_rx_rising rx_isSet (rx_Compare kf) (rx_rising_l3 kf kf)) := (cf_cons (shok_56 ok_rx_isSet) (cf_cons (shok_57 (ok_rx_Compare kf)) cf_nil))
  have hlf : LfOk (R := R) C_rx_rising 37 (lf_rx_rising rx_isSet (rx_Compare kf) (rx_rising_l3 kf kf)) := (lf_top (lf_cons (lok_rx_rising_l3 kf kf) lf_nil))
  intro v1 K r h
  exact run_good t_rx_rising hcf hlf ((eq_rx_rising rx_isSet (rx_Compare kf) (rx_rising_l3 kf kf) v1 K).trans h)

theorem t_rx_Plain_1 : textOk C_rx_Plain_1.bef Tryd.prog 39 = true := by kernel_rfl

theorem ok_rx_Plain_1 {R : Type} {c_rx_Plain : Int → (List Int) → (List (Rose (Int × ((List Int) × Unit)))) → (Bool → Option R) → Option R} (h_rx_Plain : Ok_rx_Plain c_rx_Plain) (kf : Nat) : Ok_rx_Plain_1 (R := R) (rx_Plain_1 c_rx_Plain kf) := by
  have hcf : CfOk (R := R) Tryd.prog glob raw (cf_rx_Plain_1 c_rx_Plain) := (cf_cons (shok_25 h_rx_Plain) cf_nil)
  have hlf : LfOk (R := R) C_rx_Plain_1 39 (lf_rx_Plain_1 c_rx_Plain) := lf_none
  intro v1 v2 v3 K r h
  exact run_good t_rx_Plain_1 hcf hlf ((eq_rx_Plain_1 c_rx_Plain v1 v2 v3 K).trans h)

theorem t_slices_IndexFunc_api_Rx_api_Rx_s1 : textOk C_slices_IndexFunc_api_Rx_api_Rx_s1.bef Tryd.prog 58 = true := by kernel_rfl

theorem sln_slices_IndexFunc_api_Rx_api_Rx_s1_l2 {R : Type} : SlOk (R := R) C_slices_IndexFunc_api_Rx_api_Rx_s1 58 19 0 2 (sl_slices_IndexFunc_api_Rx_api_Rx_s1_l2 (fun _ _ _ _ _ => none)) := by
  intro vs es K r h
  unfold sl_slices_IndexFunc_api_Rx_api_Rx_s1_l2 at h
  split at h <;> exact no_some h

theorem lok_slices_IndexFunc_api_Rx_api_Rx_s1_l2 {R : Type} {c_rx_Plain : Int → (List Int) → (List (Rose (Int × ((List Int) × Unit)))) → (Bool → Option R) → Option R} (h_rx_Plain : Ok_rx_Plain c_rx_Plain) (kf : Nat) : ∀ n, SlOk (R := R) C_slices_IndexFunc_api_Rx_api_Rx_s1 58 19 0 2 (sl_slices_IndexFunc_api_Rx_api_Rx_s1_l2 (slices_IndexFunc_api_Rx_api_Rx_s1_l2 c_rx_Plain kf n)) := by
  intro n
  induction n with
  | zero =>
    intro vs es K r h
    unfold sl_slices_IndexFunc_api_Rx_api_Rx_s1_l2 at h
    split at h <;> exact no_some h
  | succ k ih =>
    have hcf : CfOk (R := R) Tryd.prog glob raw (cf_slices_IndexFunc_api_Rx_api_Rx_s1 (rx_Plain_1 c_rx_Plain kf) (slices_IndexFunc_api_Rx_api_Rx_s1_l2 c_rx_Plain kf k)) := (cf_cons (shok_39 (ok_rx_Plain_1 h_rx_Plain kf)) cf_nil)
    have hlf : LfOk (R := R) C_slices_IndexFunc_api_Rx_api_Rx_s1 58 (lf_slices_IndexFunc_api_Rx_api_Rx_s1 (rx_Plain_1 c_rx_Plain kf) (slices_IndexFunc_api_Rx_api_Rx_s1_l2 c_rx_Plain kf k)) := (lf_top (lf_cons ih lf_nil))
    intro vs es K r h
    unfold sl_slices_IndexFunc_api_Rx_api_Rx_s1_l2 at h
    split at h
    · exact loop_good (text_mixed t_slices_IndexFunc_api_Rx_api_Rx_s1) hcf hlf (text_loop t_slices_IndexFunc_api_Rx_api_Rx_s1 2).1 (text_loop t_slices_IndexFunc_api_Rx_api_Rx_s1 2).2 ((eq_slices_IndexFunc_api_Rx_api_Rx_s1_l2 (rx_Plain_1 c_rx_Plain kf) (slices_IndexFunc_api_Rx_api_Rx_s1_l2 c_rx_Plain kf k) _ _ _ K).trans h)
    · exact no_some h

theorem ok_slices_IndexFunc_api_Rx_api_Rx_s1 {R : Type} {c_rx_Plain : Int → (List Int) → (List (Rose (Int × ((List Int) × Unit)))) → (Bool → Option R) → Option R} (h_rx_Plain : Ok_rx_Plain c_rx_Plain) (kf : Nat) : Ok_slices_IndexFunc_api_Rx_api_Rx_s1 (R := R) (slices_IndexFunc_api_Rx_api_Rx_s1 c_rx_Plain kf) := by
  have hcf : CfOk (R := R) Tryd.prog glob raw (cf_slices_IndexFunc_api_Rx_api_Rx_s1 (rx_Plain_1 c_rx_Plain kf) (slices_IndexFunc_api_Rx_api_Rx_s1_l2 c_rx_Plain kf kf)) := (cf_cons (shok_39 (ok_rx_Plain_1 h_rx_Plain kf)) cf_nil)
  have hlf : LfOk (R := R) C_slices_IndexFunc_api_Rx_api_Rx_s1 58 (lf_slices_IndexFunc_api_Rx_api_Rx_s1 (rx_Plain_1 c_rx_Plain kf) (slices_IndexFunc_api_Rx_api_Rx_s1_l2 c_rx_Plain kf kf)) := (lf_top (lf_cons (lok_slices_IndexFunc_api_Rx_api_Rx_s1_l2 h_rx_Plain kf kf) lf_nil))
  intro v1 K r h
  exact run_good t_slices_IndexFunc_api_Rx_api_Rx_s1 hcf hlf ((eq_slices_IndexFunc_api_Rx_api_Rx_s1 (rx_Plain_1 c_rx_Plain kf) (slices_IndexFunc_api_Rx_api_Rx_s1_l2 c_rx_Plain kf kf) v1 K).trans h)

theorem t_slices_ContainsFunc_api_Rx_api_Rx_s1 : textOk C_slices_ContainsFunc_api_Rx_api_Rx_s1.bef Tryd.prog 38 = true := by kernel_rfl

theorem ok_slices_ContainsFunc_api_Rx_api_Rx_s1 {R : Type} {c_rx_Plain : Int → (List Int) → (List (Rose (Int × ((List Int) × Unit)))) → (Bool → Option R) → Option R} (h_rx_Plain : Ok_rx_Plain c_rx_Plain) (kf : Nat) : Ok_slices_ContainsFunc_api_Rx_api_Rx_s1 (R := R) (slices_ContainsFunc_api_Rx_api_Rx_s1 c_rx_Plain kf) := by
  have hcf : CfOk (R := R) Tryd.prog glob raw (cf_slices_ContainsFunc_api_Rx_api_Rx_s1 (slices_IndexFunc_api_Rx_api_Rx_s1 c_rx_Plain kf)) := (cf_cons (shok_58 okn_slices_IndexFunc_api_Rx_api_Rx (ok_slices_IndexFunc_api_Rx_api_Rx_s1 h_rx_Plain kf)) cf_nil)
  have hlf : LfOk (R := R) C_slices_ContainsFunc_api_Rx_api_Rx_s1 38 (lf_slices_ContainsFunc_api_Rx_api_Rx_s1 (slices_IndexFunc_api_Rx_api_Rx_s1 c_rx_Plain kf)) := lf_none
  intro v1 K r h
  exact run_good t_slices_ContainsFunc_api_Rx_api_Rx_s1 hcf hlf ((eq_slices_ContainsFunc_api_Rx_api_Rx_s1 (slices_IndexFunc_api_Rx_api_Rx_s1 c_rx_Plain kf) v1 K).trans h)

theorem t_rx_Plain : textOk C_rx_Plain.bef Tryd.prog 25 = true := by kernel_rfl

theorem ok_rx_Plain {R : Type} : ∀ kf, Ok_rx_Plain (R := R) (rx_Plain kf) := by
  intro kf
  induction kf with
  | zero =>
    intro v1 v2 v3 K r h
    exact no_some h
  | succ kf hs =>
    have hcf : CfOk (R := R) Tryd.prog glob raw (cf_rx_Plain (rx_bad kf) (rx_rising kf) (slices_ContainsFunc_api_Rx_api_Rx_s1 (rx_Plain kf) kf)) := (cf_cons (shok_36 (ok_rx_bad kf)) (cf_cons (shok_37 (ok_rx_rising kf)) (cf_cons (shok_38 okn_slices_ContainsFunc_api_Rx_api_Rx (ok_slices_ContainsFunc_api_Rx_api_Rx_s1 hs kf)) cf_nil)))
    have hlf : LfOk (R := R) C_rx_Plain 25 (lf_rx_Plain (rx_bad kf) (rx_rising kf) (slices_ContainsFunc_api_Rx_api_Rx_s1 (rx_Plain kf) kf)) := lf_none
    intro v1 v2 v3 K r h
    exact run_good t_rx_Plain hcf hlf ((eq_rx_Plain (rx_bad kf) (rx_rising kf) (slices_ContainsFunc_api_Rx_api_Rx_s1 (rx_Plain kf) kf) v1 v2 v3 K).trans h)

theorem t_show_writer_put : textOk C_show_writer_put.bef Tryd.prog 40 = true := by kernel_rfl

theorem ok_show_writer_put {R : Type} : Ok_show_writer_put (R := R) (show_writer_put) := by
  have hcf : CfOk (R := R) Tryd.prog glob raw (cf_show_writer_put) := cf_nil
  have hlf : LfOk (R := R) C_show_writer_put 40 (lf_show_writer_put) := lf_none
  intro v1 v2 v3 K r h
  exact run_good t_show_writer_put hcf hlf ((eq_show_writer_put v1 v2 v3 K).trans h)

theorem t_byteset_Has : textOk C_byteset_Has.bef Tryd.prog 73 = true := by kernel_rfl

theorem ok_byteset_Has {R : Type} : Ok_byteset_Has (R := R) (byteset_Has) := by
  have hcf : CfOk (R := R) Tryd.prog glob raw (cf_byteset_Has) := cf_nil
  have hlf : LfOk (R := R) C_byteset_Has 73 (lf_byteset_Has) := lf_none
  intro v1 v2 K r h
  exact run_good t_byteset_Has hcf hlf ((eq_byteset_Has v1 v2 K).trans h)

theorem t_byteset_List : textOk C_byteset_List.bef Tryd.prog 59 = true := by kernel_rfl

theorem sln_byteset_List_l3 {R : Type} : SlOk (R := R) C_byteset_List 59 19 0 3 (sl_byteset_List_l3 (fun _ _ _ _ => none)) := by
  intro vs es K r h
  unfold sl_byteset_List_l3 at h
  split at h <;> exact no_some h

theorem lok_byteset_List_l3 {R : Type} (kf : Nat) : ∀ n, SlOk (R := R) C_byteset_List 59 19 0 3 (sl_byteset_List_l3 (byteset_List_l3 kf n)) := by
  intro n
  induction n with
  | zero =>
    intro vs es K r h
    unfold sl_byteset_List_l3 at h
    split at h <;> exact no_some h
  | succ k ih =>
    have hcf : CfOk (R := R) Tryd.prog glob raw (cf_byteset_List byteset_Has (byteset_List_l3 kf k)) := (cf_cons (shok_73 ok_byteset_Has) cf_nil)
    have hlf : LfOk (R := R) C_byteset_List 59 (lf_byteset_List byteset_Has (byteset_List_l3 kf k)) := (lf_top (lf_cons ih lf_nil))
    intro vs es K r h
    unfold sl_byteset_List_l3 at h
    split at h
    · exact loop_good (text_mixed t_byteset_List) hcf hlf (text_loop t_byteset_List 3).1 (text_loop t_byteset_List 3).2 ((eq_byteset_List_l3 byteset_Has (byteset_List_l3 kf k) _ _ _ K).trans h)
    · exact no_some h

theorem ok_byteset_List {R : Type} (kf : Nat) : Ok_byteset_List (R := R) (byteset_List kf) := by
  have hcf : CfOk (R := R) Tryd.prog glob raw (cf_byteset_List byteset_Has (byteset_List_l3 kf kf)) := (cf_cons (shok_73 ok_byteset_Has) cf_nil)
  have hlf : LfOk (R := R) C_byteset_List 59 (lf_byteset_List byteset_Has (byteset_List_l3 kf kf)) := (lf_top (lf_cons (lok_byteset_List_l3 kf kf) lf_nil))
  intro v1 K r h
  exact run_good t_byteset_List hcf hlf ((eq_byteset_List byteset_Has (byteset_List_l3 kf kf) v1 K).trans h)

theorem t_show_sign : textOk C_show_sign.bef Tryd.prog 60 = true := by kernel_rfl

theorem ok_show_sign {R : Type} : Ok_show_sign (R := R) (show_sign) := by
  have hcf : CfOk (R := R) Tryd.prog glob raw (cf_show_sign) := (cf_cons (pok_74) cf_nil)
  have hlf : LfOk (R := R) C_show_sign 60 (lf_show_sign) := lf_none
  intro v1 K r h
  exact run_good t_show_sign hcf hlf ((eq_show_sign v1 K).trans h)

theorem t_show_writer_set : textOk C_show_writer_set.bef Tryd.prog 41 = true := by kernel_rfl

theorem sln_show_writer_set_l9 {R : Type} : SlOk (R := R) C_show_writer_set 41 77 1 9 (sl_show_writer_set_l9 (fun _ _ _ _ _ => none)) := by
  intro vs es K r h
  unfold sl_show_writer_set_l9 at h
  split at h <;> exact no_some h

theorem sln_show_writer_set_l11 {R : Type} : SlOk (R := R) C_show_writer_set 41 77 1 11 (sl_show_writer_set_l11 (fun _ _ _ _ _ _ => none)) := by
  intro vs es K r h
  unfold sl_show_writer_set_l11 at h
  split at h <;> exact no_some h

theorem lok_show_writer_set_l11 {R : Type} (kf : Nat) : ∀ n, SlOk (R := R) C_show_writer_set 41 77 1 11 (sl_show_writer_set_l11 (show_writer_set_l11 kf n)) := by
  intro n
  induction n with
  | zero =>
    intro vs es K r h
    unfold sl_show_writer_set_l11 at h
    split at h <;> exact no_some h
  | succ k ih =>
    have hcf : CfOk (R := R) Tryd.prog glob raw (cf_show_writer_set (byteset_List kf) show_writer_put show_sign (fun _ _ _ _ _ => none) (show_writer_set_l11 kf k)) := (cf_cons (shok_59 (ok_byteset_List kf)) (cf_cons (shok_40 ok_show_writer_put) (cf_cons (shok_60 ok_show_sign) cf_nil)))
    have hlf : LfOk (R := R) C_show_writer_set 41 (lf_show_writer_set (byteset_List kf) show_writer_put show_sign (fun _ _ _ _ _ => none) (show_writer_set_l11 kf k)) := (lf_top (lf_cons (sln_show_writer_set_l9) (lf_cons ih lf_nil)))
    intro vs es K r h
    unfold sl_show_writer_set_l11 at h
    split at h
    · exact loop_good (text_mixed t_show_writer_set) hcf hlf (text_loop t_show_writer_set 11).1 (text_loop t_show_writer_set 11).2 ((eq_show_writer_set_l11 (byteset_List kf) show_writer_put show_sign (fun _ _ _ _ _ => none) (show_writer_set_l11 kf k) _ _ _ _ _ K).trans h)
    · exact no_some h

theorem lok_show_writer_set_l9 {R : Type} (kf : Nat) : ∀ n, SlOk (R := R) C_show_writer_set 41 77 1 9 (sl_show_writer_set_l9 (show_writer_set_l9 kf n)) := by
  intro n
  induction n with
  | zero =>
    intro vs es K r h
    unfold sl_show_writer_set_l9 at h
    split at h <;> exact no_some h
  | succ k ih =>
    have hcf : CfOk (R := R) Tryd.prog glob raw (cf_show_writer_set (byteset_List kf) show_writer_put show_sign (show_writer_set_l9 kf k) (show_writer_set_l11 kf k)) := (cf_cons (shok_59 (ok_byteset_List kf)) (cf_cons (shok_40 ok_show_writer_put) (cf_cons (shok_60 ok_show_sign) cf_nil)))
    have hlf : LfOk (R := R) C_show_writer_set 41 (lf_show_writer_set (byteset_List kf) show_writer_put show_sign (show_writer_set_l9 kf k) (show_writer_set_l11 kf k)) := (lf_top (lf_cons ih (lf_cons (lok_show_writer_set_l11 kf k) lf_nil)))
    intro vs es K r h
    unfold sl_show_writer_set_l9 at h
    split at h
    · exact loop_good (text_mixed t_show_writer_set) hcf hlf (text_loop t_show_writer_set 9).1 (text_loop t_show_writer_set 9).2 ((eq_show_writer_set_l9 (byteset_List kf) show_writer_put show_sign (show_writer_set_l9 kf k) (show_writer_set_l11 kf k) _ _ _ _ K).trans h)
    · exact no_some h

theorem ok_show_writer_set {R : Type} (kf : Nat) : Ok_show_writer_set (R := R) (show_writer_set kf) := by
  have hcf : CfOk (R := R) Tryd.prog glob raw (cf_show_writer_set (byteset_List kf) show_writer_put show_sign (show_writer_set_l9 kf kf) (show_writer_set_l11 kf kf)) := (cf_cons (shok_59 (ok_byteset_List kf)) (cf_cons (shok_40 ok_show_writer_put) (cf_cons (shok_60 ok_show_sign) cf_nil)))
  have hlf : LfOk (R := R) C_show_writer_set 41 (lf_show_writer_set (byteset_List kf) show_writer_put show_sign (show_writer_set_l9 kf kf) (show_writer_set_l11 kf kf)) := (lf_top (lf_cons (lok_show_writer_set_l9 kf kf) (lf_cons (lok_show_writer_set_l11 kf kf) lf_nil)))
  intro v1 v2 v3 K r h
  exact run_good t_show_writer_set hcf hlf ((eq_show_writer_set (byteset_List kf) show_writer_put show_sign (show_writer_set_l9 kf kf) (show_writer_set_l11 kf kf) v1 v2 v3 K).trans h)

theorem t_show_writer_within : textOk C_show_writer_within.bef Tryd.prog 42 = true := by kernel_rfl

theorem ok_show_writer_within {R : Type} {c_show_writer_rx : Int → (List Int) → (List (Rose (Int × ((List Int) × Unit)))) → Bool → (List Int) → (Bool → (List Int) → Option R) → Option R} (h_show_writer_rx : Ok_show_writer_rx c_show_writer_rx) (kf : Nat) : Ok_show_writer_within (R := R) (show_writer_within c_show_writer_rx kf) := by
  have hcf : CfOk (R := R) Tryd.prog glob raw (cf_show_writer_within (slices_Contains_int_int kf) c_show_writer_rx show_writer_put) := (cf_cons (shok_55 (ok_slices_Contains_int_int kf)) (cf_cons (shok_26 h_show_writer_rx) (cf_cons (shok_40 ok_show_writer_put) cf_nil)))
  have hlf : LfOk (R := R) C_show_writer_within 42 (lf_show_writer_within (slices_Contains_int_int kf) c_show_writer_rx show_writer_put) := lf_none
  intro v1 v2 v3 v4 v5 v6 K r h
  exact run_good t_show_writer_within hcf hlf ((eq_show_writer_within (slices_Contains_int_int kf) c_show_writer_rx show_writer_put v1 v2 v3 v4 v5 v6 K).trans h)

theorem t_show_writer_rx : textOk C_show_writer_rx.bef Tryd.prog 26 = true := by kernel_rfl

theorem sln_show_writer_rx_l11 {R : Type} : SlOk (R := R) C_show_writer_rx 26 74 1 11 (sl_show_writer_rx_l11 (fun _ _ _ _ _ _ => none)) := by
  intro vs es K r h
  unfold sl_show_writer_rx_l11 at h
  split at h <;> exact no_some h

theorem sln_show_writer_rx_l17 {R : Type} : SlOk (R := R) C_show_writer_rx 26 74 1 17 (sl_show_writer_rx_l17 (fun _ _ _ _ _ _ => none)) := by
  intro vs es K r h
  unfold sl_show_writer_rx_l17 at h
  split at h <;> exact no_some h

theorem lok_show_writer_rx_l11 {R : Type} {c_self : Int → (List Int) → (List (Rose (Int × ((List Int) × Unit)))) → Bool → (List Int) → (Bool → (List Int) → Option R) → Option R} (hs : Ok_show_writer_rx c_self) (kf : Nat) : ∀ n, SlOk (R := R) C_show_writer_rx 26 74 1 11 (sl_show_writer_rx_l11 (show_writer_rx_l11 c_self kf n)) := by
  intro n
  induction n with
  | zero =>
    intro vs es K r h
    unfold sl_show_writer_rx_l11 at h
    split at h <;> exact no_some h
  | succ k ih =>
    have hcf : CfOk (R := R) Tryd.prog glob raw (cf_show_writer_rx show_writer_put (show_writer_set kf) (show_writer_within c_self kf) c_self (show_writer_rx_l11 c_self kf k) (fun _ _ _ _ _ _ => none)) := (cf_cons (shok_40 ok_show_writer_put) (cf_cons (shok_41 (ok_show_writer_set kf)) (cf_cons (shok_42 (ok_show_writer_within hs kf)) (cf_cons (shok_26 hs) cf_nil))))
    have hlf : LfOk (R := R) C_show_writer_rx 26 (lf_show_writer_rx show_writer_put (show_writer_set kf) (show_writer_within c_self kf) c_self (show_writer_rx_l11 c_self kf k) (fun _ _ _ _ _ _ => none)) := (lf_top (lf_cons ih (lf_cons (sln_show_writer_rx_l17) lf_nil)))
    intro vs es K r h
    unfold sl_show_writer_rx_l11 at h
    split at h
    · exact loop_good (text_mixed t_show_writer_rx) hcf hlf (text_loop t_show_writer_rx 11).1 (text_loop t_show_writer_rx 11).2 ((eq_show_writer_rx_l11 show_writer_put (show_writer_set kf) (show_writer_within c_self kf) c_self (show_writer_rx_l11 c_self kf k) (fun _ _ _ _ _ _ => none) _ _ _ _ _ K).trans h)
    · exact no_some h

theorem lok_show_writer_rx_l17 {R : Type} {c_self : Int → (List Int) → (List (Rose (Int × ((List Int) × Unit)))) → Bool → (List Int) → (Bool → (List Int) → Option R) → Option R} (hs : Ok_show_writer_rx c_self) (kf : Nat) : ∀ n, SlOk (R := R) C_show_writer_rx 26 74 1 17 (sl_show_writer_rx_l17 (show_writer_rx_l17 c_self kf n)) := by
  intro n
  induction n with
  | zero =>
    intro vs es K r h
    unfold sl_show_writer_rx_l17 at h
    split at h <;> exact no_some h
  | succ k ih =>
    have hcf : CfOk (R := R) Tryd.prog glob raw (cf_show_writer_rx show_writer_put (show_writer_set kf) (show_writer_within c_self kf) c_self (show_writer_rx_l11 c_self kf k) (show_writer_rx_l17 c_self kf k)) := (cf_cons (shok_40 ok_show_writer_put) (cf_cons (shok_41 (ok_show_writer_set kf)) (cf_cons (shok_42 (ok_show_writer_within hs kf)) (cf_cons (shok_26 hs) cf_nil))))
    have hlf : LfOk (R := R) C_show_writer_rx 26 (lf_show_writer_rx show_writer_put (show_writer_set kf) (show_writer_within c_self kf) c_self (show_writer_rx_l11 c_self kf k) (show_writer_rx_l17 c_self kf k)) := (lf_top (lf_cons (lok_show_writer_rx_l11 hs kf k) (lf_cons ih lf_nil)))
    intro vs es K r h
    unfold sl_show_writer_rx_l17 at h
    split at h
    · exact loop_good (text_mixed t_show_writer_rx) hcf hlf (text_loop t_show_writer_rx 17).1 (text_loop t_show_writer_rx 17).2 ((eq_show_writer_rx_l17 show_writer_put (show_writer_set kf) (show_writer_within c_self kf) c_self (show_writer_rx_l11 c_self kf k) (show_writer_rx_l17 c_self kf k) _ _ _ _ _ K).trans h)
    · exact no_some h

theorem ok_show_writer_rx {R : Type} : ∀ kf, Ok_show_writer_rx (R := R) (show_writer_rx kf) := by
  intro kf
  induction kf with
  | zero =>
    intro v1 v2 v3 v4 v5 K r h
    exact no_some h
  | succ kf hs =>
    have hcf : CfOk (R := R) Tryd.prog glob raw (cf_show_writer_rx show_writer_put (show_writer_set kf) (show_writer_within (show_writer_rx kf) kf) (show_writer_rx kf) (show_writer_rx_l11 (show_writer_rx kf) kf kf) (show_writer_rx_l17 (show_writer_rx kf) kf kf)) := (cf_cons (shok_40 ok_show_writer_put) (cf_cons (shok_41 (ok_show_writer_set kf)) (cf_cons (shok_42 (ok_show_writer_within hs kf)) (cf_cons (shok_26 hs) cf_nil))))
    have hlf : LfOk (R := R) C_show_writer_rx 26 (lf_show_writer_rx show_writer_put (show_writer_set kf) (show_writer_within (show_writer_rx kf) kf) (show_writer_rx kf) (show_writer_rx_l11 (show_writer_rx kf) kf kf) (show_writer_rx_l17 (show_writer_rx kf) kf kf)) := (lf_top (lf_cons (lok_show_writer_rx_l11 hs kf kf) (lf_cons (lok_show_writer_rx_l17 hs kf kf) lf_nil)))
    intro v1 v2 v3 v4 v5 K r h
    exact run_good t_show_writer_rx hcf hlf ((eq_show_writer_rx show_writer_put (show_writer_set kf) (show_writer_within (show_writer_rx kf) kf) (show_writer_rx kf) (show_writer_rx_l11 (show_writer_rx kf) kf kf) (show_writer_rx_l17 (show_writer_rx kf) kf kf) v1 v2 v3 v4 v5 K).trans h)

theorem t_show_Show : textOk C_show_Show.bef Tryd.prog 12 = true := by kernel_rfl

theorem ok_show_Show {R : Type} (kf : Nat) : Ok_show_Show (R := R) (show_Show kf) := by
  have hcf : CfOk (R := R) Tryd.prog glob raw (cf_show_Show (rx_Plain kf) (show_writer_rx kf)) := (cf_cons (shok_25 (ok_rx_Plain kf)) (cf_cons (shok_26 (ok_show_writer_rx kf)) cf_nil))
  have hlf : LfOk (R := R) C_show_Show 12 (lf_show_Show (rx_Plain kf) (show_writer_rx kf)) := lf_none
  intro v1 v2 v3 K r h
  exact run_good t_show_Show hcf hlf ((eq_show_Show (rx_Plain kf) (show_writer_rx kf) v1 v2 v3 K).trans h)

theorem t_law7_begun : textOk C_law7_begun.bef Tryd.prog 9 = true := by kernel_rfl

theorem ok_law7_begun {R : Type} (kf : Nat) : Ok_law7_begun (R := R) (law7_begun kf) := by
  have hcf : CfOk (R := R) Tryd.prog glob raw (cf_law7_begun (ref1_Of kf) ref5_Bytes (ref5_Star kf) (show_Show kf) ref5_Empty) := (cf_cons (shok_20 (ok_ref1_Of kf)) (cf_cons (shok_18 ok_ref5_Bytes) (cf_cons (shok_21 (ok_ref5_Star kf)) (cf_cons (shok_12 (ok_show_Show kf)) (cf_cons (shok_22 ok_ref5_Empty) cf_nil)))))
  have hlf : LfOk (R := R) C_law7_begun 9 (lf_law7_begun (ref1_Of kf) ref5_Bytes (ref5_Star kf) (show_Show kf) ref5_Empty) := lf_none
  intro K r h
  exact run_good t_law7_begun hcf hlf ((eq_law7_begun (ref1_Of kf) ref5_Bytes (ref5_Star kf) (show_Show kf) ref5_Empty K).trans h)

theorem t_ref1_Where : textOk C_ref1_Where.bef Tryd.prog 34 = true := by kernel_rfl

theorem sln_ref1_Where_l3 {R : Type} : SlOk (R := R) C_ref1_Where 34 19 0 3 (sl_ref1_Where_l3 (fun _ _ _ _ _ => none)) := by
  intro vs es K r h
  unfold sl_ref1_Where_l3 at h
  split at h <;> exact no_some h

theorem lok_ref1_Where_l3 {R : Type} (kf : Nat) : ∀ n, SlOk (R := R) C_ref1_Where 34 19 0 3 (sl_ref1_Where_l3 (ref1_Where_l3 kf n)) := by
  intro n
  induction n with
  | zero =>
    intro vs es K r h
    unfold sl_ref1_Where_l3 at h
    split at h <;> exact no_some h
  | succ k ih =>
    have hcf : CfOk (R := R) Tryd.prog glob raw (cf_ref1_Where (ref1_Of kf) (ref1_Where_l3 kf k)) := (cf_cons (shok_20 (ok_ref1_Of kf)) cf_nil)
    have hlf : LfOk (R := R) C_ref1_Where 34 (lf_ref1_Where (ref1_Of kf) (ref1_Where_l3 kf k)) := (lf_top (lf_cons ih lf_nil))
    intro vs es K r h
    unfold sl_ref1_Where_l3 at h
    split at h
    · exact loop_good (text_mixed t_ref1_Where) hcf hlf (text_loop t_ref1_Where 3).1 (text_loop t_ref1_Where 3).2 ((eq_ref1_Where_l3 (ref1_Of kf) (ref1_Where_l3 kf k) _ _ _ _ K).trans h)
    · exact no_some h

theorem ok_ref1_Where {R : Type} (kf : Nat) : Ok_ref1_Where (R := R) (ref1_Where kf) := by
  have hcf : CfOk (R := R) Tryd.prog glob raw (cf_ref1_Where (ref1_Of kf) (ref1_Where_l3 kf kf)) := (cf_cons (shok_20 (ok_ref1_Of kf)) cf_nil)
  have hlf : LfOk (R := R) C_ref1_Where 34 (lf_ref1_Where (ref1_Of kf) (ref1_Where_l3 kf kf)) := (lf_top (lf_cons (lok_ref1_Where_l3 kf kf) lf_nil))
  intro v1 K r h
  exact run_good t_ref1_Where hcf hlf ((eq_ref1_Where (ref1_Of kf) (ref1_Where_l3 kf kf) v1 K).trans h)

theorem t_ref1_Range : textOk C_ref1_Range.bef Tryd.prog 19 = true := by kernel_rfl

theorem sln_ref1_Range_l3 {R : Type} : SlOk (R := R) C_ref1_Range 19 19 0 3 (sl_ref1_Range_l3 (fun _ _ _ _ _ => none)) := by
  intro vs es K r h
  unfold sl_ref1_Range_l3 at h
  split at h <;> exact no_some h

theorem lok_ref1_Range_l3 {R : Type} (kf : Nat) : ∀ n, SlOk (R := R) C_ref1_Range 19 19 0 3 (sl_ref1_Range_l3 (ref1_Range_l3 kf n)) := by
  intro n
  induction n with
  | zero =>
    intro vs es K r h
    unfold sl_ref1_Range_l3 at h
    split at h <;> exact no_some h
  | succ k ih =>
    have hcf : CfOk (R := R) Tryd.prog glob raw (cf_ref1_Range (ref1_Where kf) (ref1_Range_l3 kf k)) := (cf_cons (shok_34 (ok_ref1_Where kf)) cf_nil)
    have hlf : LfOk (R := R) C_ref1_Range 19 (lf_ref1_Range (ref1_Where kf) (ref1_Range_l3 kf k)) := (lf_top (lf_cons ih lf_nil))
    intro vs es K r h
    unfold sl_ref1_Range_l3 at h
    split at h
    · exact loop_good (text_mixed t_ref1_Range) hcf hlf (text_loop t_ref1_Range 3).1 (text_loop t_ref1_Range 3).2 ((eq_ref1_Range_l3 (ref1_Where kf) (ref1_Range_l3 kf k) _ _ _ _ K).trans h)
    · exact no_some h

theorem ok_ref1_Range {R : Type} (kf : Nat) : Ok_ref1_Range (R := R) (ref1_Range kf) := by
  have hcf : CfOk (R := R) Tryd.prog glob raw (cf_ref1_Range (ref1_Where kf) (ref1_Range_l3 kf kf)) := (cf_cons (shok_34 (ok_ref1_Where kf)) cf_nil)
  have hlf : LfOk (R := R) C_ref1_Range 19 (lf_ref1_Range (ref1_Where kf) (ref1_Range_l3 kf kf)) := (lf_top (lf_cons (lok_ref1_Range_l3 kf kf) lf_nil))
  intro v1 v2 K r h
  exact run_good t_ref1_Range hcf hlf ((eq_ref1_Range (ref1_Where kf) (ref1_Range_l3 kf kf) v1 v2 K).trans h)

theorem t_law7_ShowRuns : textOk C_law7_ShowRuns.bef Tryd.prog 7 = true := by kernel_rfl

theorem ok_law7_ShowRuns {R : Type} (kf : Nat) : Ok_law7_ShowRuns (R := R) (law7_ShowRuns kf) := by
  have hcf : CfOk (R := R) Tryd.prog glob raw (cf_law7_ShowRuns (law7_begun kf) (ref1_Range kf) ref5_Bytes (show_Show kf)) := (cf_cons (shok_9 (ok_law7_begun kf)) (cf_cons (shok_19 (ok_ref1_Range kf)) (cf_cons (shok_18 ok_ref5_Bytes) (cf_cons (shok_12 (ok_show_Show kf)) cf_nil))))
  have hlf : LfOk (R := R) C_law7_ShowRuns 7 (lf_law7_ShowRuns (law7_begun kf) (ref1_Range kf) ref5_Bytes (show_Show kf)) := lf_none
  intro v1 v2 K r h
  exact run_good t_law7_ShowRuns hcf hlf ((eq_law7_ShowRuns (law7_begun kf) (ref1_Range kf) ref5_Bytes (show_Show kf) v1 v2 K).trans h)

end
end Go.Ab.T
