/-
  NARROWER THAN 'FOR EVERY INPUT', by the rows' own cells (each row's printed sentence says how): CauseAll: laid · CauseWraps: laid · CauseCodes: laid · CausePlaces: laid.
  DERIVED. THE GIVEN ROWS OF THIS SEAT. 4 by the template 'for every input the law returns true; each argument reads behind the call as it read before'; 0 by the template 'total and deterministic' (their statements: YtpflljjomcbnmaaDoorTotals.lean).
  GIVEN WITH THE SEED: the statements are not yours to turn. If you find one false, say at which input.
  Laid BY PROGRAM, IN A SANDBOX (cutbox-rows.mjs): the forced cells as the released guide's own fill.sh prints them over the translation 9d1d9e78fe6dc5c5… (all of the seat's roots in one cut). By AI agents, Wed Nov 11 2026. No macro, syntax, notation, axiom, sorry.
-/
import Derived.Test.YtpflljjomcbnmaaDoorChecked
import GoSem.Claim
import GoSem.ClaimJoined
import GoSem.ClaimMapViews
import Derived.JoinedTies
import Derived.KernelRfl
namespace Go.Proofs.YtpflljjomcbnmaaDoor
/- THE CELL 'sum', in the pinned program and in every row, IS THE sha256 OF THE DUMP (.gsa) THAT YtpflljjomcbnmaaDoorProg.lean LOADS. Nothing in Lean hashes anything: it is a label: what it is worth is what the hold of that sum in a sandbox is worth. -/
noncomputable def Tryd.pinned : Pinned := { name := "ytpflljjomcbnmaadoor", sum := "9d1d9e78fe6dc5c5653ab1a24acfecea7e2cb1146059be0ea668ada53b93ecd8", checked := Tryd.checked }
namespace Rows
def none {H : Type} : Left H := { results := [], args := [] }

/- WHAT THE LISTED PACKAGE-LEVEL VARIABLES READ AS WHEN THE CALL BEGINS. Each datum BY PROGRAM (the guide's laid-datum.mjs) off the statement by which the dump's own 'gosem.cut.vars' lays the variable. In a bare row this is a premise. The card (YtpflljjomcbnmaaDoorCards.lean) ties it to the program's text. -/
def laid_errors_errorType {H : Type} : DataW H := .iface "internal/reflectlite.rtype" (.agg [.ptr (.lit (.string [101, 114, 114, 111, 114]))])

/-- 'scriptorylaw2.CauseAll': WHATEVER THE INPUT: true; the input reads as it did. -/
def causeAllSpec : ChangeSpec := { name := "causeAll", fn := fun _ => fun
  | [d1, d2, d3] => { results := [.lit (.bool true)], args := [d1, d2, d3] }
  | _ => none }
def causeAllRow : OpenClaim := { program := "ytpflljjomcbnmaadoor", sum := "9d1d9e78fe6dc5c5653ab1a24acfecea7e2cb1146059be0ea668ada53b93ecd8", func := "scriptory/scriptorylaw2.CauseAll", spec := "causeAll", inPlace := ["internal/reflectlite.ValueOf", "(internal/reflectlite.Value).Type", "(internal/reflectlite.Value).IsNil", "internal/reflectlite.TypeOf", "(internal/reflectlite.Value).Elem", "(internal/reflectlite.Value).Set"], unfollowed := true, recurses := true, named := ["errors.errorType"], apart := false, laid := [("errors.errorType", laid_errors_errorType)] }
def CauseAllSaid : Prop := causeAllRow.holds Tryd.pinned (OpenSpec.ofChange causeAllSpec)

/-- ITS FALSE NEIGHBOUR: 'it returns false'. Refute it at one input. -/
def causeAllWrong : ChangeSpec := { name := "causeAll", fn := fun _ => fun
  | [d1, d2, d3] => { results := [.lit (.bool false)], args := [d1, d2, d3] }
  | _ => none }
def CauseAllWrongFalsely : Prop := causeAllRow.holds Tryd.pinned (OpenSpec.ofChange causeAllWrong)

/-- 'scriptorylaw2.CauseWraps': WHATEVER THE INPUT: true; the input reads as it did. -/
def causeWrapsSpec : ChangeSpec := { name := "causeWraps", fn := fun _ => fun
  | [d1, d2, d3] => { results := [.lit (.bool true)], args := [d1, d2, d3] }
  | _ => none }
def causeWrapsRow : OpenClaim := { program := "ytpflljjomcbnmaadoor", sum := "9d1d9e78fe6dc5c5653ab1a24acfecea7e2cb1146059be0ea668ada53b93ecd8", func := "scriptory/scriptorylaw2.CauseWraps", spec := "causeWraps", inPlace := ["internal/reflectlite.ValueOf", "(internal/reflectlite.Value).Type", "(internal/reflectlite.Value).IsNil", "internal/reflectlite.TypeOf", "(internal/reflectlite.Value).Elem", "(internal/reflectlite.Value).Set"], unfollowed := true, recurses := true, named := ["errors.errorType"], apart := false, laid := [("errors.errorType", laid_errors_errorType)] }
def CauseWrapsSaid : Prop := causeWrapsRow.holds Tryd.pinned (OpenSpec.ofChange causeWrapsSpec)

/-- ITS FALSE NEIGHBOUR: 'it returns false'. Refute it at one input. -/
def causeWrapsWrong : ChangeSpec := { name := "causeWraps", fn := fun _ => fun
  | [d1, d2, d3] => { results := [.lit (.bool false)], args := [d1, d2, d3] }
  | _ => none }
def CauseWrapsWrongFalsely : Prop := causeWrapsRow.holds Tryd.pinned (OpenSpec.ofChange causeWrapsWrong)

/-- 'scriptorylaw2.CauseCodes': WHATEVER THE INPUT: true; the input reads as it did. -/
def causeCodesSpec : ChangeSpec := { name := "causeCodes", fn := fun _ => fun
  | [d1, d2, d3] => { results := [.lit (.bool true)], args := [d1, d2, d3] }
  | _ => none }
def causeCodesRow : OpenClaim := { program := "ytpflljjomcbnmaadoor", sum := "9d1d9e78fe6dc5c5653ab1a24acfecea7e2cb1146059be0ea668ada53b93ecd8", func := "scriptory/scriptorylaw2.CauseCodes", spec := "causeCodes", inPlace := ["internal/reflectlite.ValueOf", "(internal/reflectlite.Value).Type", "(internal/reflectlite.Value).IsNil", "internal/reflectlite.TypeOf", "(internal/reflectlite.Value).Elem", "(internal/reflectlite.Value).Set"], unfollowed := true, recurses := true, named := ["errors.errorType"], apart := false, laid := [("errors.errorType", laid_errors_errorType)] }
def CauseCodesSaid : Prop := causeCodesRow.holds Tryd.pinned (OpenSpec.ofChange causeCodesSpec)

/-- ITS FALSE NEIGHBOUR: 'it returns false'. Refute it at one input. -/
def causeCodesWrong : ChangeSpec := { name := "causeCodes", fn := fun _ => fun
  | [d1, d2, d3] => { results := [.lit (.bool false)], args := [d1, d2, d3] }
  | _ => none }
def CauseCodesWrongFalsely : Prop := causeCodesRow.holds Tryd.pinned (OpenSpec.ofChange causeCodesWrong)

/-- 'scriptorylaw2.CausePlaces': WHATEVER THE INPUT: true; the input reads as it did. -/
def causePlacesSpec : ChangeSpec := { name := "causePlaces", fn := fun _ => fun
  | [d1, d2] => { results := [.lit (.bool true)], args := [d1, d2] }
  | _ => none }
def causePlacesRow : OpenClaim := { program := "ytpflljjomcbnmaadoor", sum := "9d1d9e78fe6dc5c5653ab1a24acfecea7e2cb1146059be0ea668ada53b93ecd8", func := "scriptory/scriptorylaw2.CausePlaces", spec := "causePlaces", inPlace := ["internal/reflectlite.ValueOf", "(internal/reflectlite.Value).Type", "(internal/reflectlite.Value).IsNil", "internal/reflectlite.TypeOf", "(internal/reflectlite.Value).Elem", "(internal/reflectlite.Value).Set"], unfollowed := true, recurses := true, named := ["errors.errorType"], apart := false, laid := [("errors.errorType", laid_errors_errorType)] }
def CausePlacesSaid : Prop := causePlacesRow.holds Tryd.pinned (OpenSpec.ofChange causePlacesSpec)

/-- ITS FALSE NEIGHBOUR: 'it returns false'. Refute it at one input. -/
def causePlacesWrong : ChangeSpec := { name := "causePlaces", fn := fun _ => fun
  | [d1, d2] => { results := [.lit (.bool false)], args := [d1, d2] }
  | _ => none }
def CausePlacesWrongFalsely : Prop := causePlacesRow.holds Tryd.pinned (OpenSpec.ofChange causePlacesWrong)

/- THE SECOND FORM. 'bulk': how many values and letters a reading holds, each counted each time it is reached (what is shared counts as often as it is met; a slice's spare places count too). A statement '..UptoSaid' is the law's where the arguments, and the package variables that the reading takes, are together of bulk at most 1048576: NARROWER than '..Said'. Prove '..Said' where nothing that the law and all that it calls make is longer than what came in: it says more and counts as full. Else prove '..UptoSaid'. A law counts once. -/
mutual
def uptoBulk {H : Type} : DataW H → Nat
  | .lit (.string bytes) => bytes.length + 1
  | .lit _ => 1
  | .nil => 1
  | .ptr d => uptoBulk d + 1
  | .slice elems spare => uptoBulkAll elems + uptoBulkAll spare + 1
  | .agg parts => uptoBulkAll parts + 1
  | .iface _ d => uptoBulk d + 1
  | .map entries => uptoBulkEntries entries + 1
  | .held _ => 1
def uptoBulkAll {H : Type} : List (DataW H) → Nat
  | [] => 0
  | d :: r => uptoBulk d + uptoBulkAll r
def uptoBulkEntries {H : Type} : List (Lit × DataW H) → Nat
  | [] => 0
  | x :: r => uptoBulkEntry x + uptoBulkEntries r
def uptoBulkEntry {H : Type} : Lit × DataW H → Nat
  | (.string bytes, d) => bytes.length + uptoBulk d + 1
  | (_, d) => uptoBulk d + 1
 end
def uptoSmall : (H : Type) → List (DataW H) → Bool := fun _ ds => decide (uptoBulkAll ds ≤ 1048576)
def OpenSpec.upto (s : _root_.Go.ChangeSpec) : _root_.Go.OpenSpec := { _root_.Go.OpenSpec.ofChange s with cond := some uptoSmall }

/-- 'scriptorylaw2.CauseAll', WHERE WHAT IT READS IS OF BULK AT MOST 1048576: true; the input reads as it did. -/
def causeAllUptoRow : OpenClaim := { program := "ytpflljjomcbnmaadoor", sum := "9d1d9e78fe6dc5c5653ab1a24acfecea7e2cb1146059be0ea668ada53b93ecd8", func := "scriptory/scriptorylaw2.CauseAll", spec := "causeAll", inPlace := ["internal/reflectlite.ValueOf", "(internal/reflectlite.Value).Type", "(internal/reflectlite.Value).IsNil", "internal/reflectlite.TypeOf", "(internal/reflectlite.Value).Elem", "(internal/reflectlite.Value).Set"], unfollowed := true, recurses := true, named := ["errors.errorType"], apart := false, laid := [("errors.errorType", laid_errors_errorType)], narrowed := true }
def CauseAllUptoSaid : Prop := causeAllUptoRow.holds Tryd.pinned (OpenSpec.upto causeAllSpec)

/-- 'scriptorylaw2.CauseWraps', WHERE WHAT IT READS IS OF BULK AT MOST 1048576: true; the input reads as it did. -/
def causeWrapsUptoRow : OpenClaim := { program := "ytpflljjomcbnmaadoor", sum := "9d1d9e78fe6dc5c5653ab1a24acfecea7e2cb1146059be0ea668ada53b93ecd8", func := "scriptory/scriptorylaw2.CauseWraps", spec := "causeWraps", inPlace := ["internal/reflectlite.ValueOf", "(internal/reflectlite.Value).Type", "(internal/reflectlite.Value).IsNil", "internal/reflectlite.TypeOf", "(internal/reflectlite.Value).Elem", "(internal/reflectlite.Value).Set"], unfollowed := true, recurses := true, named := ["errors.errorType"], apart := false, laid := [("errors.errorType", laid_errors_errorType)], narrowed := true }
def CauseWrapsUptoSaid : Prop := causeWrapsUptoRow.holds Tryd.pinned (OpenSpec.upto causeWrapsSpec)

/-- 'scriptorylaw2.CauseCodes', WHERE WHAT IT READS IS OF BULK AT MOST 1048576: true; the input reads as it did. -/
def causeCodesUptoRow : OpenClaim := { program := "ytpflljjomcbnmaadoor", sum := "9d1d9e78fe6dc5c5653ab1a24acfecea7e2cb1146059be0ea668ada53b93ecd8", func := "scriptory/scriptorylaw2.CauseCodes", spec := "causeCodes", inPlace := ["internal/reflectlite.ValueOf", "(internal/reflectlite.Value).Type", "(internal/reflectlite.Value).IsNil", "internal/reflectlite.TypeOf", "(internal/reflectlite.Value).Elem", "(internal/reflectlite.Value).Set"], unfollowed := true, recurses := true, named := ["errors.errorType"], apart := false, laid := [("errors.errorType", laid_errors_errorType)], narrowed := true }
def CauseCodesUptoSaid : Prop := causeCodesUptoRow.holds Tryd.pinned (OpenSpec.upto causeCodesSpec)

/-- 'scriptorylaw2.CausePlaces', WHERE WHAT IT READS IS OF BULK AT MOST 1048576: true; the input reads as it did. -/
def causePlacesUptoRow : OpenClaim := { program := "ytpflljjomcbnmaadoor", sum := "9d1d9e78fe6dc5c5653ab1a24acfecea7e2cb1146059be0ea668ada53b93ecd8", func := "scriptory/scriptorylaw2.CausePlaces", spec := "causePlaces", inPlace := ["internal/reflectlite.ValueOf", "(internal/reflectlite.Value).Type", "(internal/reflectlite.Value).IsNil", "internal/reflectlite.TypeOf", "(internal/reflectlite.Value).Elem", "(internal/reflectlite.Value).Set"], unfollowed := true, recurses := true, named := ["errors.errorType"], apart := false, laid := [("errors.errorType", laid_errors_errorType)], narrowed := true }
def CausePlacesUptoSaid : Prop := causePlacesUptoRow.holds Tryd.pinned (OpenSpec.upto causePlacesSpec)

end Rows
end Go.Proofs.YtpflljjomcbnmaaDoor
