/- 'scriptorylaw11.MachineSpoilt': for every input of bulk at most 1048576 the call returns true, and each argument reads afterwards as it read before. -/
import Derived.Test.YtepemhpippkmiaaMspQX
import Derived.Test.YtepemhpippkmiaaTop2
import Derived.Test.YtepemhpippkmiaaRows
import Derived.JoinedCond
namespace Go.Proofs.Ytepemhpippkmiaa
open Go Go.Ab Go.ChangeShapes Go.WideShapes Go.ChangeAt Go.RowKit
set_option linter.unusedVariables false

mutual
theorem bulk_eq {H : Type} : ∀ d : DataW H, bulkD d = Rows.uptoBulk d
  | .lit l => by cases l <;> simp [bulkD, Rows.uptoBulk]
  | .nil => by simp [bulkD, Rows.uptoBulk]
  | .ptr d => by simp [bulkD, Rows.uptoBulk, bulk_eq d]
  | .slice a b => by simp [bulkD, Rows.uptoBulk, bulks_eq a, bulks_eq b]
  | .agg a => by simp [bulkD, Rows.uptoBulk, bulks_eq a]
  | .iface _ d => by simp [bulkD, Rows.uptoBulk, bulk_eq d]
  | .map m => by simp [bulkD, Rows.uptoBulk, bulke_eq m]
  | .held _ => by simp [bulkD, Rows.uptoBulk]
theorem bulks_eq {H : Type} : ∀ l : List (DataW H), bulkDs l = Rows.uptoBulkAll l
  | [] => by simp [bulkDs, Rows.uptoBulkAll]
  | d :: r => by simp [bulkDs, Rows.uptoBulkAll, bulk_eq d, bulks_eq r]
theorem bulke_eq {H : Type} : ∀ l : List (Lit × DataW H), bulkDe l = Rows.uptoBulkEntries l
  | [] => by simp [bulkDe, Rows.uptoBulkEntries]
  | x :: r => by simp [bulkDe, Rows.uptoBulkEntries, bulkp_eq x, bulke_eq r]
theorem bulkp_eq {H : Type} : ∀ x : Lit × DataW H, bulkDp x = Rows.uptoBulkEntry x
  | (l, d) => by cases l <;> simp [bulkDp, Rows.uptoBulkEntry, bulk_eq d]
end

theorem own : ownKnob Try.prog.godebug = none := by kernel_rfl
theorem kids : Kids Try.prog (· < Try.prog.types.size) := kids_rows (by kernel_rfl) (by kernel_rfl)
theorem full : ∀ t e, t < Try.prog.types.size → Try.prog.underlying t = some (.slice e) → 0 < Try.prog.cellsOf e := slices_full_of Try.prog (by kernel_rfl)

theorem in_u8 {n : Int} (h : inK .u8 n = true) : 0 ≤ n ∧ n ≤ 255 := by
  have := inK_iff.1 h
  simpa [IntKind.min, IntKind.max, IntKind.signed, IntKind.bits] using this
theorem in_u16 {n : Int} (h : inK .u16 n = true) : 0 ≤ n ∧ n ≤ 65535 := by
  have := inK_iff.1 h
  simpa [IntKind.min, IntKind.max, IntKind.signed, IntKind.bits] using this
theorem in_u64 {n : Int} (h : inK .u64 n = true) : 0 ≤ n ∧ n ≤ 18446744073709551615 := by
  have := inK_iff.1 h
  simpa [IntKind.min, IntKind.max, IntKind.signed, IntKind.bits] using this
theorem in_i64 {n : Int} (h : inK .i64 n = true) : -9223372036854775808 ≤ n ∧ n ≤ 9223372036854775807 := by
  have := inK_iff.1 h
  simpa [IntKind.min, IntKind.max, IntKind.signed, IntKind.bits] using this

/-- the law, of typed arguments -/
theorem lawSpoilt : LawOkX Try.prog T.glob 6 [.int .u8, .int .u8, .slice (.int .u8), .int .u8, .slice (.int .u8)] 1048576 := by
  intro xs h hok hb
  match xs, h with
  | [⟨t1, x1⟩, ⟨t2, x2⟩, ⟨t3, x3⟩, ⟨t4, x4⟩, ⟨t5, x5⟩], h =>
    simp only [List.map_cons, List.map_nil, List.cons.injEq, and_true] at h
    obtain ⟨rfl, rfl, rfl, rfl, rfl⟩ := h
    have o1 := hok ⟨_, x1⟩ (by simp)
    have o2 := hok ⟨_, x2⟩ (by simp)
    have o3 := hok ⟨_, x3⟩ (by simp)
    have o4 := hok ⟨_, x4⟩ (by simp)
    have o5 := hok ⟨_, x5⟩ (by simp)
    exact T.okN_law11_MachineSpoilt 700000 x1 x2 x3 x4 x5 (T.spoilt11_ok 700000 (by omega) x1 x2 (in_u8 o1) (in_u8 o2) x3 (fun x hx => in_u8 (o3 x hx)) x4 (in_u8 o4) x5)


set_option maxRecDepth 100000 in
theorem liftedSpoilt (os : Os) (started : os.Started) (H : Type) (enc : TypeId × Value → H) (F : Stop.Interp) :
    ReturnsInHanded {} Try.checked os 6 .any ((Rows.OpenSpec.upto Rows.machineSpoiltSpec).pre6 enc Try.prog Try.f6 Rows.machineSpoiltUptoRow.domain false) (((Rows.OpenSpec.upto Rows.machineSpoiltSpec).at F).post enc Try.prog Try.f6 false true false false) := by
  refine returnsInHanded_of_cond (C := Try.checked) (s := Rows.OpenSpec.upto Rows.machineSpoiltSpec) (k := Rows.uptoSmall) rfl own started (by kernel_rfl) Try.func6
    (OpenSpec.witness (enc := enc) (C := Try.checked) (s := Rows.OpenSpec.upto Rows.machineSpoiltSpec) (k := Rows.uptoSmall) rfl false ⟨#[], #[.int .u8 0, .int .u8 0, .slice none 0 0, .int .u8 0, .slice none 0 0], []⟩ 8 (by kernel_rfl) (by kernel_rfl) (by kernel_rfl)
      (x := ([.lit (.int .u8 0), .lit (.int .u8 0), .nil, .lit (.int .u8 0), .nil], [], [])) (by kernel_rfl) rfl (by kernel_rfl)) ?_
  intro W base args ds gs before hval hW _ hk _
  have hbulk : bulkDs (ds ++ gs) ≤ 1048576 := by rw [bulks_eq]; exact of_decide_eq_true hk
  exact contract_ofX (s := Rows.machineSpoiltSpec) (gl := T.glob) (tys := [.int .u8, .int .u8, .slice (.int .u8), .int .u8, .slice (.int .u8)]) (N := 1048576) (tb := 4) kids full
    (fun t ht => of_decide_eq_true (List.all_eq_true.1 (show (Try.f6.params.toList.all fun t => decide (t < Try.prog.types.size)) = true by kernel_rfl) t ht))
    (by kernel_rfl) (by kernel_rfl) (by kernel_rfl) rfl
    (fun ds hl => by
      match ds, hl with
      | [d1, d2, d3, d4, d5], _ => rfl)
    (by decide) lawSpoilt (by kernel_rfl) T.sp_glob hval hW hbulk

theorem overSpoilt : Rows.machineSpoiltUptoRow.holds Try.pinned (Rows.OpenSpec.upto Rows.machineSpoiltSpec) :=
  OpenClaim.holds_of_cond 6 Try.f6 rfl rfl rfl rfl rfl rfl rfl ⟨rfl, rfl, rfl, rfl, rfl⟩ rfl rfl rfl rfl rfl (by kernel_rfl) Try.func6 (by kernel_rfl)
    (of_decide_eq_true (by kernel_rfl)) (by unfold Func.isWrapper; first | (rw [if_pos (by decide +kernel)]; kernel_rfl) | (rw [if_neg (by decide +kernel)]; exact ⟨rfl, rfl⟩))
    (fun os started H enc _ F => liftedSpoilt os started H enc F)

theorem machineSpoilt_holds : Rows.MachineSpoiltUptoSaid := overSpoilt
end Go.Proofs.Ytepemhpippkmiaa
