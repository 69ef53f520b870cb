/- 'scriptorylaw29.WireReads': for every input of bulk at most 1048576 the call returns true, and each argument reads afterwards as it read before; the variable that the row lists is tied to the program's text. -/
import Derived.Test.YtlhinijgdffcdaaDoorWrdTC
import Derived.Test.YtlhinijgdffcdaaDoorWrdL
import Derived.Test.YtlhinijgdffcdaaDoorTop4
import Derived.Test.YtlhinijgdffcdaaDoorCards
import Derived.Test.YtlhinijgdffcdaaDoorTie
import Derived.JoinedCond
import Derived.WalkKit
import Derived.ProofKit
import Derived.OpenShut
import Derived.Deep.DeepHandedRow
import Derived.LaidHandle
namespace Go.Proofs.YtlhinijgdffcdaaDoor
open Go Go.Ab Go.ChangeShapes Go.WideShapes Go.ChangeAt Go.RowKit
set_option linter.unusedVariables false
set_option maxRecDepth 100000

mutual
theorem bulk_eq {H : Type} : ∀ d : DataW H, bulkD d = Rows.uptoBulk d
  | .lit l => by cases l <;> simp [bulkD, Rows.uptoBulk]
  | .nil => by simp [bulkD, Rows.uptoBulk]
  | .ptr d => by simp [bulkD, Rows.uptoBulk, bulk_eq d]
  | .slice a b => by simp [bulkD, Rows.uptoBulk, bulks_eq a, bulks_eq b]
  | .agg a => by simp [bulkD, Rows.uptoBulk, bulks_eq a]
  | .iface _ d => by simp [bulkD, Rows.uptoBulk, bulk_eq d]
  | .map m => by simp [bulkD, Rows.uptoBulk, bulke_eq m]
  | .held _ => by simp [bulkD, Rows.uptoBulk]
theorem bulks_eq {H : Type} : ∀ l : List (DataW H), bulkDs l = Rows.uptoBulkAll l
  | [] => by simp [bulkDs, Rows.uptoBulkAll]
  | d :: r => by simp [bulkDs, Rows.uptoBulkAll, bulk_eq d, bulks_eq r]
theorem bulke_eq {H : Type} : ∀ l : List (Lit × DataW H), bulkDe l = Rows.uptoBulkEntries l
  | [] => by simp [bulkDe, Rows.uptoBulkEntries]
  | x :: r => by simp [bulkDe, Rows.uptoBulkEntries, bulkp_eq x, bulke_eq r]
theorem bulkp_eq {H : Type} : ∀ x : Lit × DataW H, bulkDp x = Rows.uptoBulkEntry x
  | (l, d) => by cases l <;> simp [bulkDp, Rows.uptoBulkEntry, bulk_eq d]
end

theorem own : ownKnob Tryd.prog.godebug = none := by kernel_rfl
theorem kids : Kids Tryd.prog (· < Tryd.prog.types.size) := kids_rows (by kernel_rfl) (by kernel_rfl)
theorem full : ∀ t e, t < Tryd.prog.types.size → Tryd.prog.underlying t = some (.slice e) → 0 < Tryd.prog.cellsOf e := slices_full_of Tryd.prog (by kernel_rfl)

theorem in_u8 {n : Int} (h : inK .u8 n = true) : 0 ≤ n ∧ n ≤ 255 := by
  have := inK_iff.1 h
  simpa [IntKind.min, IntKind.max, IntKind.signed, IntKind.bits] using this
theorem in_u64 {n : Int} (h : inK .u64 n = true) : 0 ≤ n ∧ n ≤ 18446744073709551615 := by
  have := inK_iff.1 h
  simpa [IntKind.min, IntKind.max, IntKind.signed, IntKind.bits] using this
theorem in_i64 {n : Int} (h : inK .i64 n = true) : -9223372036854775808 ≤ n ∧ n ≤ 9223372036854775807 := by
  have := inK_iff.1 h
  simpa [IntKind.min, IntKind.max, IntKind.signed, IntKind.bits] using this
theorem g0 : Tryd.prog.globalNamed "errors.errorType" = some 0 := by kernel_rfl
theorem gU : (Tryd.prog.cutTypes.find? (·.1 == "internal/reflectlite.rtype")).map (·.2) = some 110 := by kernel_rfl
theorem gT : ((List.range Tryd.prog.types.size).filter fun t => Tryd.prog.rowNamed t [101, 114, 114, 111, 114]) = [55] := by kernel_rfl
theorem gV : typeHandle Tryd.prog 55 = .pointer (some ⟨1, 55, none⟩) := by kernel_rfl

/-- the law, of typed arguments -/
theorem lawReads : LawOk Tryd.prog T.glob 4 [.slice (.int .u8)] 1048576 := by
  intro xs h hok hb
  match xs, h with
  | [⟨t1, x1⟩], h =>
    simp only [List.map_cons, List.map_nil, List.cons.injEq, and_true] at h
    subst h
    have o1 := hok ⟨_, x1⟩ (by simp)
    obtain ⟨v, es, h1, h2⟩ := T.ok_law29_WireReads 20000 (R := S × List Ent) x1 (fun v es => some (v, es)) _ (T.reads_ok 20000 (by omega) x1 (fun x hx => in_u8 (o1 x hx)) _)
    simp only [Option.some.injEq, Prod.mk.injEq] at h2
    obtain ⟨rfl, rfl⟩ := h2
    exact ⟨_, h1⟩

theorem contractReads (H : Type) (enc : TypeId × Value → H) (W : World) (base : Nat) (args : Array Value) (ds gs : List (DataW H)) (before : List MemPlace)
    (hval : ∀ (j : Nat) t v, Tryd.f4.params[j]? = some t → args[j]? = some v → Value.okWide Tryd.prog W .any base t v)
    (hW : DataW.Whole enc Tryd.prog Tryd.f4.params.toList Rows.wireReadsSpec.vars false W args.toList ds gs before) (hbulk : bulkDs (ds ++ gs) ≤ 1048576) (hL : laidMetH Tryd.prog Rows.wireReadsUptoRow.laid W) :
    Calls Tryd.prog 4 args W fun e W' => ∃ v, e = .returned v ∧ Rows.wireReadsSpec.post enc Tryd.prog Tryd.f4 false true false false W args v W' :=
  contract_of (s := Rows.wireReadsSpec) (gl := T.glob) (tys := [.slice (.int .u8)]) (N := 1048576) (tb := 4) kids full
    (fun t ht => of_decide_eq_true (List.all_eq_true.1 (show (Tryd.f4.params.toList.all fun t => decide (t < Tryd.prog.types.size)) = true by kernel_rfl) t ht))
    (by kernel_rfl) (by kernel_rfl) (by kernel_rfl) rfl
    (fun ds hl => by
      match ds, hl with
      | [d1], _ => rfl)
    (by decide) lawReads (fun g x hg => by
      unfold T.glob at hg
      split at hg
      · rename_i h0
        subst h0
        simp only [Option.some.injEq] at hg
        subst hg
        exact glob_handle hL gU gT g0 gV
      · cases hg) hval hW hbulk

noncomputable def laidWorld (os : Os) : World :=
  { World.holding Tryd.prog os ⟨#[], #[], []⟩ with heap := (World.holding Tryd.prog os ⟨#[], #[], []⟩).heap.modify 0 fun
      | .cells _ t frozen => .cells #[.iface 110 (.agg #[.pointer (some ⟨1, 55, none⟩)])] t frozen
      | o => o }
theorem laid_met (os : Os) : laidMetH Tryd.prog Rows.wireReadsUptoRow.laid ((laidWorld os).forCall (fun _ _ => 0) ⟨#[], #[.slice none 0 0], []⟩).memory :=
  laidMetH_of_parts (laidMet_of_run' 8 (by kernel_rfl) (by kernel_rfl)) (by kernel_rfl)
theorem reads (os : Os) {H : Type} (enc : TypeId × Value → H) : ∃ places, DataW.whole enc Tryd.prog ((laidWorld os).forCall (fun _ _ => 0) ⟨#[], #[.slice none 0 0], []⟩).memory Tryd.f4.params.toList Rows.wireReadsSpec.vars false (#[.slice none 0 0] : Array Value).toList 8 = some ([.nil], [], places) :=
  ⟨[], by kernel_rfl⟩

set_option maxRecDepth 100000 in
theorem liftedReads (os : Os) (started : os.Started) (H : Type) (enc : TypeId × Value → H) (F : Stop.Interp) :
    ReturnsInHanded {} Tryd.checked os 4 .any ((Rows.OpenSpec.upto Rows.wireReadsSpec).preRow enc Tryd.prog Tryd.f4 Rows.wireReadsUptoRow.domain false Rows.wireReadsUptoRow.laid) (((Rows.OpenSpec.upto Rows.wireReadsSpec).at F).post enc Tryd.prog Tryd.f4 false true false false) := by
  obtain ⟨places, hx⟩ := reads os enc
  refine returnsInHanded_of_row (C := Tryd.checked) (s := Rows.OpenSpec.upto Rows.wireReadsSpec) own started (by kernel_rfl) Tryd.func4
    (witness_row_at (enc := enc) (C := Tryd.checked) false (laidWorld os) #[.slice none 0 0] rfl (by kernel_rfl) (by kernel_rfl) (by kernel_rfl)
      (OpenSpec.preRow_of_cond 8 hx (by kernel_rfl) (fun k hk => by cases hk; kernel_rfl) (by kernel_rfl) (laid_met os))) ?_
  intro W base args ds gs before hval hW _ hcond _ hL _ _
  have hk := hcond _ rfl
  have hbulk : bulkDs (ds ++ gs) ≤ 1048576 := by rw [bulks_eq]; exact of_decide_eq_true hk
  exact contractReads H enc W base args ds gs before hval hW hbulk hL

theorem saidReads : Rows.WireReadsUptoSaid :=
  OpenClaim.holds_of_cond 4 Tryd.f4 rfl rfl rfl rfl rfl rfl rfl ⟨rfl, rfl, rfl, rfl, rfl⟩ rfl rfl rfl rfl rfl (by kernel_rfl) Tryd.func4 (by kernel_rfl)
    (of_decide_eq_true (by kernel_rfl)) (by unfold Func.isWrapper; first | (rw [if_pos (by decide +kernel)]; kernel_rfl) | (rw [if_neg (by decide +kernel)]; exact ⟨rfl, rfl⟩))
    (fun os started H enc _ F => by rw [OpenClaim.pre_eq_preRow]; exact liftedReads os started H enc F)

theorem plainReads (f : FuncId) (fn : Func) (hf : Tryd.pinned.checked.prog.funcNamed "scriptory/scriptorylaw29.WireReads" = some f) (hfn : Tryd.pinned.checked.prog.funcs[f]? = some fn) :
    true = Tryd.pinned.checked.prog.looks [] ∧ ∀ (j : Nat) t, fn.params[j]? = some t → Tryd.pinned.checked.prog.wantsStandIn t = false := by
  obtain rfl : f = 4 := Option.some.inj ((show Tryd.prog.funcNamed "scriptory/scriptorylaw29.WireReads" = some 4 by kernel_rfl).symm.trans hf) |>.symm
  obtain rfl : fn = Tryd.f4 := (Option.some.inj (Tryd.func4.symm.trans hfn)).symm
  refine ⟨by kernel_rfl, fun j t ht => ?_⟩
  have h1 := List.all_eq_true.1 (show (Tryd.f4.params.toList.all fun t => !Tryd.prog.wantsStandIn t) = true by kernel_rfl) t (by simpa using Array.mem_of_getElem? ht)
  have h2 : (!Tryd.prog.wantsStandIn t) = true := h1
  cases hq : Tryd.prog.wantsStandIn t with
  | false => exact hq
  | true => rw [hq] at h2; cases h2

theorem wireReads_holds : Rows.WireReadsUptoCardSaid :=
  Claim7.holds_tied_plain_at .later [] _ _ _ _ saidReads (fun _ h => by cases h) (by kernel_rfl) (fun _ h => by cases h) wireReadsUpto_row_tie rfl ⟨rfl, rfl⟩ (by kernel_rfl) rfl plainReads (by kernel_rfl)
end Go.Proofs.YtlhinijgdffcdaaDoor
