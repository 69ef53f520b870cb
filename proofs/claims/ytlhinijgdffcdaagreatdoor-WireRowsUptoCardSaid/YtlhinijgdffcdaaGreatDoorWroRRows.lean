/- 'scriptorylaw29.WireRows': for every input of bulk at most 1048576 the call returns true, and each argument reads afterwards as it read before; the variable that the row lists is tied to the program's text. -/
import Derived.Test.YtlhinijgdffcdaaGreatDoorWroTC
import Derived.Test.YtlhinijgdffcdaaGreatDoorWroG4
import Derived.Test.YtlhinijgdffcdaaGreatDoorTop4
import Derived.Test.YtlhinijgdffcdaaGreatDoorCards
import Derived.Test.YtlhinijgdffcdaaGreatDoorTie
import Derived.JoinedCond
import Derived.WalkKit
import Derived.ProofKit
import Derived.OpenShut
import Derived.Deep.DeepHandedRow
import Derived.LaidHandle
namespace Go.Proofs.YtlhinijgdffcdaaGreatDoor
open Go Go.Ab Go.ChangeShapes Go.WideShapes Go.ChangeAt Go.RowKit
set_option linter.unusedVariables false
set_option maxRecDepth 100000

mutual
theorem bulk_eq {H : Type} : ∀ d : DataW H, bulkD d = Rows.uptoBulk d
  | .lit l => by cases l <;> simp [bulkD, Rows.uptoBulk]
  | .nil => by simp [bulkD, Rows.uptoBulk]
  | .ptr d => by simp [bulkD, Rows.uptoBulk, bulk_eq d]
  | .slice a b => by simp [bulkD, Rows.uptoBulk, bulks_eq a, bulks_eq b]
  | .agg a => by simp [bulkD, Rows.uptoBulk, bulks_eq a]
  | .iface _ d => by simp [bulkD, Rows.uptoBulk, bulk_eq d]
  | .map m => by simp [bulkD, Rows.uptoBulk, bulke_eq m]
  | .held _ => by simp [bulkD, Rows.uptoBulk]
theorem bulks_eq {H : Type} : ∀ l : List (DataW H), bulkDs l = Rows.uptoBulkAll l
  | [] => by simp [bulkDs, Rows.uptoBulkAll]
  | d :: r => by simp [bulkDs, Rows.uptoBulkAll, bulk_eq d, bulks_eq r]
theorem bulke_eq {H : Type} : ∀ l : List (Lit × DataW H), bulkDe l = Rows.uptoBulkEntries l
  | [] => by simp [bulkDe, Rows.uptoBulkEntries]
  | x :: r => by simp [bulkDe, Rows.uptoBulkEntries, bulkp_eq x, bulke_eq r]
theorem bulkp_eq {H : Type} : ∀ x : Lit × DataW H, bulkDp x = Rows.uptoBulkEntry x
  | (l, d) => by cases l <;> simp [bulkDp, Rows.uptoBulkEntry, bulk_eq d]
end

theorem own : ownKnob Tryz.prog.godebug = none := by kernel_rfl
theorem kids : Kids Tryz.prog (· < Tryz.prog.types.size) := kids_rows (by kernel_rfl) (by kernel_rfl)
theorem full : ∀ t e, t < Tryz.prog.types.size → Tryz.prog.underlying t = some (.slice e) → 0 < Tryz.prog.cellsOf e := slices_full_of Tryz.prog (by kernel_rfl)

theorem in_u8 {n : Int} (h : inK .u8 n = true) : 0 ≤ n ∧ n ≤ 255 := by
  have := inK_iff.1 h
  simpa [IntKind.min, IntKind.max, IntKind.signed, IntKind.bits] using this
theorem in_u64 {n : Int} (h : inK .u64 n = true) : 0 ≤ n ∧ n ≤ 18446744073709551615 := by
  have := inK_iff.1 h
  simpa [IntKind.min, IntKind.max, IntKind.signed, IntKind.bits] using this
theorem in_i64 {n : Int} (h : inK .i64 n = true) : -9223372036854775808 ≤ n ∧ n ≤ 9223372036854775807 := by
  have := inK_iff.1 h
  simpa [IntKind.min, IntKind.max, IntKind.signed, IntKind.bits] using this
theorem g0 : Tryz.prog.globalNamed "errors.errorType" = some 0 := by kernel_rfl
theorem gU : (Tryz.prog.cutTypes.find? (·.1 == "internal/reflectlite.rtype")).map (·.2) = some 105 := by kernel_rfl
theorem gT : ((List.range Tryz.prog.types.size).filter fun t => Tryz.prog.rowNamed t [101, 114, 114, 111, 114]) = [48] := by kernel_rfl
theorem gV : typeHandle Tryz.prog 48 = .pointer (some ⟨1, 48, none⟩) := by kernel_rfl

/-- the law, of typed arguments -/
theorem lawRows : LawOk Tryz.prog T.glob 3 [.slice (.int .u8)] 1048576 := by
  intro xs h hok hb
  match xs, h with
  | [⟨t1, x1⟩], h =>
    simp only [List.map_cons, List.map_nil, List.cons.injEq, and_true] at h
    subst h
    have o1 := hok ⟨_, x1⟩ (by simp)
    obtain ⟨v, es, h1, h2⟩ := T.ok_yy0 100020000 (R := S × List Ent) x1 (fun v es => some (v, es)) _ (T.wrows_ok 100020000 (by omega) x1 (fun x hx => in_u8 (o1 x hx)) _)
    simp only [Option.some.injEq, Prod.mk.injEq] at h2
    obtain ⟨rfl, rfl⟩ := h2
    exact ⟨_, h1⟩

theorem contractRows (H : Type) (enc : TypeId × Value → H) (W : World) (base : Nat) (args : Array Value) (ds gs : List (DataW H)) (before : List MemPlace)
    (hval : ∀ (j : Nat) t v, Tryz.f3.params[j]? = some t → args[j]? = some v → Value.okWide Tryz.prog W .any base t v)
    (hW : DataW.Whole enc Tryz.prog Tryz.f3.params.toList Rows.wireRowsSpec.vars false W args.toList ds gs before) (hbulk : bulkDs (ds ++ gs) ≤ 1048576) (hL : laidMetH Tryz.prog Rows.wireRowsUptoRow.laid W) :
    Calls Tryz.prog 3 args W fun e W' => ∃ v, e = .returned v ∧ Rows.wireRowsSpec.post enc Tryz.prog Tryz.f3 false true false false W args v W' :=
  contract_of (s := Rows.wireRowsSpec) (gl := T.glob) (tys := [.slice (.int .u8)]) (N := 1048576) (tb := 4) kids full
    (fun t ht => of_decide_eq_true (List.all_eq_true.1 (show (Tryz.f3.params.toList.all fun t => decide (t < Tryz.prog.types.size)) = true by kernel_rfl) t ht))
    (by kernel_rfl) (by kernel_rfl) (by kernel_rfl) rfl
    (fun ds hl => by
      match ds, hl with
      | [d1], _ => rfl)
    (by decide) lawRows (fun g x hg => by
      unfold T.glob at hg
      split at hg
      · rename_i h0
        subst h0
        simp only [Option.some.injEq] at hg
        subst hg
        exact glob_handle hL gU gT g0 gV
      · cases hg) hval hW hbulk

noncomputable def laidWorld (os : Os) : World :=
  { World.holding Tryz.prog os ⟨#[], #[], []⟩ with heap := (World.holding Tryz.prog os ⟨#[], #[], []⟩).heap.modify 0 fun
      | .cells _ t frozen => .cells #[.iface 105 (.agg #[.pointer (some ⟨1, 48, none⟩)])] t frozen
      | o => o }
theorem laid_met (os : Os) : laidMetH Tryz.prog Rows.wireRowsUptoRow.laid ((laidWorld os).forCall (fun _ _ => 0) ⟨#[], #[.slice none 0 0], []⟩).memory :=
  laidMetH_of_parts (laidMet_of_run' 8 (by kernel_rfl) (by kernel_rfl)) (by kernel_rfl)
theorem reads (os : Os) {H : Type} (enc : TypeId × Value → H) : ∃ places, DataW.whole enc Tryz.prog ((laidWorld os).forCall (fun _ _ => 0) ⟨#[], #[.slice none 0 0], []⟩).memory Tryz.f3.params.toList Rows.wireRowsSpec.vars false (#[.slice none 0 0] : Array Value).toList 8 = some ([.nil], [], places) :=
  ⟨[], by kernel_rfl⟩

set_option maxRecDepth 100000 in
theorem liftedRows (os : Os) (started : os.Started) (H : Type) (enc : TypeId × Value → H) (F : Stop.Interp) :
    ReturnsInHanded {} Tryz.checked os 3 .any ((Rows.OpenSpec.upto Rows.wireRowsSpec).preRow enc Tryz.prog Tryz.f3 Rows.wireRowsUptoRow.domain false Rows.wireRowsUptoRow.laid) (((Rows.OpenSpec.upto Rows.wireRowsSpec).at F).post enc Tryz.prog Tryz.f3 false true false false) := by
  obtain ⟨places, hx⟩ := reads os enc
  refine returnsInHanded_of_row (C := Tryz.checked) (s := Rows.OpenSpec.upto Rows.wireRowsSpec) own started (by kernel_rfl) Tryz.func3
    (witness_row_at (enc := enc) (C := Tryz.checked) false (laidWorld os) #[.slice none 0 0] rfl (by kernel_rfl) (by kernel_rfl) (by kernel_rfl)
      (OpenSpec.preRow_of_cond 8 hx (by kernel_rfl) (fun k hk => by cases hk; kernel_rfl) (by kernel_rfl) (laid_met os))) ?_
  intro W base args ds gs before hval hW _ hcond _ hL _ _
  have hk := hcond _ rfl
  have hbulk : bulkDs (ds ++ gs) ≤ 1048576 := by rw [bulks_eq]; exact of_decide_eq_true hk
  exact contractRows H enc W base args ds gs before hval hW hbulk hL

theorem saidRows : Rows.WireRowsUptoSaid :=
  OpenClaim.holds_of_cond 3 Tryz.f3 rfl rfl rfl rfl rfl rfl rfl ⟨rfl, rfl, rfl, rfl, rfl⟩ rfl rfl rfl rfl rfl (by kernel_rfl) Tryz.func3 (by kernel_rfl)
    (of_decide_eq_true (by kernel_rfl)) (by unfold Func.isWrapper; first | (rw [if_pos (by decide +kernel)]; kernel_rfl) | (rw [if_neg (by decide +kernel)]; exact ⟨rfl, rfl⟩))
    (fun os started H enc _ F => by rw [OpenClaim.pre_eq_preRow]; exact liftedRows os started H enc F)

theorem plainRows (f : FuncId) (fn : Func) (hf : Tryz.pinned.checked.prog.funcNamed "scriptory/scriptorylaw29.WireRows" = some f) (hfn : Tryz.pinned.checked.prog.funcs[f]? = some fn) :
    true = Tryz.pinned.checked.prog.looks [] ∧ ∀ (j : Nat) t, fn.params[j]? = some t → Tryz.pinned.checked.prog.wantsStandIn t = false := by
  obtain rfl : f = 3 := Option.some.inj ((show Tryz.prog.funcNamed "scriptory/scriptorylaw29.WireRows" = some 3 by kernel_rfl).symm.trans hf) |>.symm
  obtain rfl : fn = Tryz.f3 := (Option.some.inj (Tryz.func3.symm.trans hfn)).symm
  refine ⟨by kernel_rfl, fun j t ht => ?_⟩
  have h1 := List.all_eq_true.1 (show (Tryz.f3.params.toList.all fun t => !Tryz.prog.wantsStandIn t) = true by kernel_rfl) t (by simpa using Array.mem_of_getElem? ht)
  have h2 : (!Tryz.prog.wantsStandIn t) = true := h1
  cases hq : Tryz.prog.wantsStandIn t with
  | false => exact hq
  | true => rw [hq] at h2; cases h2

theorem wireRows_holds : Rows.WireRowsUptoCardSaid :=
  Claim7.holds_tied_plain_at .later [] _ _ _ _ saidRows (fun _ h => by cases h) (by kernel_rfl) (fun _ h => by cases h) wireRowsUpto_row_tie rfl ⟨rfl, rfl⟩ (by kernel_rfl) rfl plainRows (by kernel_rfl)
end Go.Proofs.YtlhinijgdffcdaaGreatDoor
