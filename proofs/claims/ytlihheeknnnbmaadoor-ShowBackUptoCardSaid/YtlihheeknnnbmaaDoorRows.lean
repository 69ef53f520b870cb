/-
  NARROWER THAN 'FOR EVERY INPUT', by the rows' own cells (each row's printed sentence says how): ShowAll: loops, laid · ShowMade: laid · ShowBack: laid · ShowSets: laid · ShowRuns: laid · ShowParts: laid.
  DERIVED. THE GIVEN ROWS OF THIS SEAT. 6 by the template 'for every input the law returns true; each argument reads behind the call as it read before'; 0 by the template 'total and deterministic' (their statements: YtlihheeknnnbmaaDoorTotals.lean).
  GIVEN WITH THE SEED: the statements are not yours to turn. If you find one false, say at which input.
  Laid BY PROGRAM, IN A SANDBOX (cutbox-rows.mjs): the forced cells as the released guide's own fill.sh prints them over the translation 38bfb1b9ee42b212… (all of the seat's roots in one cut). By AI agents, Wed Nov 11 2026. No macro, syntax, notation, axiom, sorry.
-/
import Derived.Test.YtlihheeknnnbmaaDoorChecked
import GoSem.Claim
import GoSem.ClaimJoined
import GoSem.ClaimMapViews
import Derived.JoinedTies
import Derived.KernelRfl
namespace Go.Proofs.YtlihheeknnnbmaaDoor
/- THE CELL 'sum', in the pinned program and in every row, IS THE sha256 OF THE DUMP (.gsa) THAT YtlihheeknnnbmaaDoorProg.lean LOADS. Nothing in Lean hashes anything: it is a label: what it is worth is what the hold of that sum in a sandbox is worth. -/
noncomputable def Tryd.pinned : Pinned := { name := "ytlihheeknnnbmaadoor", sum := "38bfb1b9ee42b212a08b11d5295fbd31216e2574a54cb66def9cb444cb9045ee", checked := Tryd.checked }
namespace Rows
def none {H : Type} : Left H := { results := [], args := [] }

/- WHAT THE LISTED PACKAGE-LEVEL VARIABLES READ AS WHEN THE CALL BEGINS. Each datum BY PROGRAM (the guide's laid-datum.mjs) off the statement by which the dump's own 'gosem.cut.vars' lays the variable. In a bare row this is a premise. The card (YtlihheeknnnbmaaDoorCards.lean) ties it to the program's text. -/
def laid_math_bits_deBruijn64tab {H : Type} : DataW H := .agg [.lit (.int .u8 0), .lit (.int .u8 1), .lit (.int .u8 56), .lit (.int .u8 2), .lit (.int .u8 57), .lit (.int .u8 49), .lit (.int .u8 28), .lit (.int .u8 3), .lit (.int .u8 61), .lit (.int .u8 58), .lit (.int .u8 42), .lit (.int .u8 50), .lit (.int .u8 38), .lit (.int .u8 29), .lit (.int .u8 17), .lit (.int .u8 4), .lit (.int .u8 62), .lit (.int .u8 47), .lit (.int .u8 59), .lit (.int .u8 36), .lit (.int .u8 45), .lit (.int .u8 43), .lit (.int .u8 51), .lit (.int .u8 22), .lit (.int .u8 53), .lit (.int .u8 39), .lit (.int .u8 33), .lit (.int .u8 30), .lit (.int .u8 24), .lit (.int .u8 18), .lit (.int .u8 12), .lit (.int .u8 5), .lit (.int .u8 63), .lit (.int .u8 55), .lit (.int .u8 48), .lit (.int .u8 27), .lit (.int .u8 60), .lit (.int .u8 41), .lit (.int .u8 37), .lit (.int .u8 16), .lit (.int .u8 46), .lit (.int .u8 35), .lit (.int .u8 44), .lit (.int .u8 21), .lit (.int .u8 52), .lit (.int .u8 32), .lit (.int .u8 23), .lit (.int .u8 11), .lit (.int .u8 54), .lit (.int .u8 26), .lit (.int .u8 40), .lit (.int .u8 15), .lit (.int .u8 34), .lit (.int .u8 20), .lit (.int .u8 31), .lit (.int .u8 10), .lit (.int .u8 25), .lit (.int .u8 14), .lit (.int .u8 19), .lit (.int .u8 9), .lit (.int .u8 13), .lit (.int .u8 8), .lit (.int .u8 7), .lit (.int .u8 6)]

/-- 'scriptorylaw7.ShowAll': WHATEVER THE INPUT: true; the input reads as it did. -/
def showAllSpec : ChangeSpec := { name := "showAll", fn := fun _ => fun
  | [d] => { results := [.lit (.bool true)], args := [d] }
  | _ => none }
def showAllRow : OpenClaim := { program := "ytlihheeknnnbmaadoor", sum := "38bfb1b9ee42b212a08b11d5295fbd31216e2574a54cb66def9cb444cb9045ee", func := "scriptory/scriptorylaw7.ShowAll", spec := "showAll", inPlace := ["internal/bytealg.IndexByteString"], unfollowed := true, recurses := true, named := ["math/bits.deBruijn64tab"], loops := true, apart := false, laid := [("math/bits.deBruijn64tab", laid_math_bits_deBruijn64tab)] }
def ShowAllSaid : Prop := showAllRow.holds Tryd.pinned (OpenSpec.ofChange showAllSpec)

/-- ITS FALSE NEIGHBOUR: 'it returns false'. Refute it at one input. -/
def showAllWrong : ChangeSpec := { name := "showAll", fn := fun _ => fun
  | [d] => { results := [.lit (.bool false)], args := [d] }
  | _ => none }
def ShowAllWrongFalsely : Prop := showAllRow.holds Tryd.pinned (OpenSpec.ofChange showAllWrong)

/-- 'scriptorylaw7.ShowMade': WHATEVER THE INPUT: true; the input reads as it did. -/
def showMadeSpec : ChangeSpec := { name := "showMade", fn := fun _ => fun
  | [d] => { results := [.lit (.bool true)], args := [d] }
  | _ => none }
def showMadeRow : OpenClaim := { program := "ytlihheeknnnbmaadoor", sum := "38bfb1b9ee42b212a08b11d5295fbd31216e2574a54cb66def9cb444cb9045ee", func := "scriptory/scriptorylaw7.ShowMade", spec := "showMade", inPlace := ["internal/bytealg.IndexByteString"], unfollowed := true, recurses := true, named := ["math/bits.deBruijn64tab"], apart := false, laid := [("math/bits.deBruijn64tab", laid_math_bits_deBruijn64tab)] }
def ShowMadeSaid : Prop := showMadeRow.holds Tryd.pinned (OpenSpec.ofChange showMadeSpec)

/-- ITS FALSE NEIGHBOUR: 'it returns false'. Refute it at one input. -/
def showMadeWrong : ChangeSpec := { name := "showMade", fn := fun _ => fun
  | [d] => { results := [.lit (.bool false)], args := [d] }
  | _ => none }
def ShowMadeWrongFalsely : Prop := showMadeRow.holds Tryd.pinned (OpenSpec.ofChange showMadeWrong)

/-- 'scriptorylaw7.ShowBack': WHATEVER THE INPUT: true; the input reads as it did. -/
def showBackSpec : ChangeSpec := { name := "showBack", fn := fun _ => fun
  | [d1, d2] => { results := [.lit (.bool true)], args := [d1, d2] }
  | _ => none }
def showBackRow : OpenClaim := { program := "ytlihheeknnnbmaadoor", sum := "38bfb1b9ee42b212a08b11d5295fbd31216e2574a54cb66def9cb444cb9045ee", func := "scriptory/scriptorylaw7.ShowBack", spec := "showBack", inPlace := ["internal/bytealg.IndexByteString"], unfollowed := true, recurses := true, named := ["math/bits.deBruijn64tab"], apart := false, laid := [("math/bits.deBruijn64tab", laid_math_bits_deBruijn64tab)] }
def ShowBackSaid : Prop := showBackRow.holds Tryd.pinned (OpenSpec.ofChange showBackSpec)

/-- ITS FALSE NEIGHBOUR: 'it returns false'. Refute it at one input. -/
def showBackWrong : ChangeSpec := { name := "showBack", fn := fun _ => fun
  | [d1, d2] => { results := [.lit (.bool false)], args := [d1, d2] }
  | _ => none }
def ShowBackWrongFalsely : Prop := showBackRow.holds Tryd.pinned (OpenSpec.ofChange showBackWrong)

/-- 'scriptorylaw7.ShowSets': WHATEVER THE INPUT: true; the input reads as it did. -/
def showSetsSpec : ChangeSpec := { name := "showSets", fn := fun _ => fun
  | [d] => { results := [.lit (.bool true)], args := [d] }
  | _ => none }
def showSetsRow : OpenClaim := { program := "ytlihheeknnnbmaadoor", sum := "38bfb1b9ee42b212a08b11d5295fbd31216e2574a54cb66def9cb444cb9045ee", func := "scriptory/scriptorylaw7.ShowSets", spec := "showSets", inPlace := ["internal/bytealg.IndexByteString"], unfollowed := true, recurses := true, named := ["math/bits.deBruijn64tab"], apart := false, laid := [("math/bits.deBruijn64tab", laid_math_bits_deBruijn64tab)] }
def ShowSetsSaid : Prop := showSetsRow.holds Tryd.pinned (OpenSpec.ofChange showSetsSpec)

/-- ITS FALSE NEIGHBOUR: 'it returns false'. Refute it at one input. -/
def showSetsWrong : ChangeSpec := { name := "showSets", fn := fun _ => fun
  | [d] => { results := [.lit (.bool false)], args := [d] }
  | _ => none }
def ShowSetsWrongFalsely : Prop := showSetsRow.holds Tryd.pinned (OpenSpec.ofChange showSetsWrong)

/-- 'scriptorylaw7.ShowRuns': WHATEVER THE INPUT: true; the input reads as it did. -/
def showRunsSpec : ChangeSpec := { name := "showRuns", fn := fun _ => fun
  | [d1, d2] => { results := [.lit (.bool true)], args := [d1, d2] }
  | _ => none }
def showRunsRow : OpenClaim := { program := "ytlihheeknnnbmaadoor", sum := "38bfb1b9ee42b212a08b11d5295fbd31216e2574a54cb66def9cb444cb9045ee", func := "scriptory/scriptorylaw7.ShowRuns", spec := "showRuns", inPlace := ["internal/bytealg.IndexByteString"], unfollowed := true, recurses := true, named := ["math/bits.deBruijn64tab"], apart := false, laid := [("math/bits.deBruijn64tab", laid_math_bits_deBruijn64tab)] }
def ShowRunsSaid : Prop := showRunsRow.holds Tryd.pinned (OpenSpec.ofChange showRunsSpec)

/-- ITS FALSE NEIGHBOUR: 'it returns false'. Refute it at one input. -/
def showRunsWrong : ChangeSpec := { name := "showRuns", fn := fun _ => fun
  | [d1, d2] => { results := [.lit (.bool false)], args := [d1, d2] }
  | _ => none }
def ShowRunsWrongFalsely : Prop := showRunsRow.holds Tryd.pinned (OpenSpec.ofChange showRunsWrong)

/-- 'scriptorylaw7.ShowParts': WHATEVER THE INPUT: true; the input reads as it did. -/
def showPartsSpec : ChangeSpec := { name := "showParts", fn := fun _ => fun
  | [d] => { results := [.lit (.bool true)], args := [d] }
  | _ => none }
def showPartsRow : OpenClaim := { program := "ytlihheeknnnbmaadoor", sum := "38bfb1b9ee42b212a08b11d5295fbd31216e2574a54cb66def9cb444cb9045ee", func := "scriptory/scriptorylaw7.ShowParts", spec := "showParts", inPlace := ["internal/bytealg.IndexByteString"], unfollowed := true, recurses := true, named := ["math/bits.deBruijn64tab"], apart := false, laid := [("math/bits.deBruijn64tab", laid_math_bits_deBruijn64tab)] }
def ShowPartsSaid : Prop := showPartsRow.holds Tryd.pinned (OpenSpec.ofChange showPartsSpec)

/-- ITS FALSE NEIGHBOUR: 'it returns false'. Refute it at one input. -/
def showPartsWrong : ChangeSpec := { name := "showParts", fn := fun _ => fun
  | [d] => { results := [.lit (.bool false)], args := [d] }
  | _ => none }
def ShowPartsWrongFalsely : Prop := showPartsRow.holds Tryd.pinned (OpenSpec.ofChange showPartsWrong)

/- THE SECOND FORM. 'bulk': how many values and letters a reading holds, each counted each time it is reached (what is shared counts as often as it is met; a slice's spare places count too). A statement '..UptoSaid' is the law's where the arguments, and the package variables that the reading takes, are together of bulk at most 1048576: NARROWER than '..Said'. Prove '..Said' where nothing that the law and all that it calls make is longer than what came in: it says more and counts as full. Else prove '..UptoSaid'. A law counts once. -/
mutual
def uptoBulk {H : Type} : DataW H → Nat
  | .lit (.string bytes) => bytes.length + 1
  | .lit _ => 1
  | .nil => 1
  | .ptr d => uptoBulk d + 1
  | .slice elems spare => uptoBulkAll elems + uptoBulkAll spare + 1
  | .agg parts => uptoBulkAll parts + 1
  | .iface _ d => uptoBulk d + 1
  | .map entries => uptoBulkEntries entries + 1
  | .held _ => 1
def uptoBulkAll {H : Type} : List (DataW H) → Nat
  | [] => 0
  | d :: r => uptoBulk d + uptoBulkAll r
def uptoBulkEntries {H : Type} : List (Lit × DataW H) → Nat
  | [] => 0
  | x :: r => uptoBulkEntry x + uptoBulkEntries r
def uptoBulkEntry {H : Type} : Lit × DataW H → Nat
  | (.string bytes, d) => bytes.length + uptoBulk d + 1
  | (_, d) => uptoBulk d + 1
 end
def uptoSmall : (H : Type) → List (DataW H) → Bool := fun _ ds => decide (uptoBulkAll ds ≤ 1048576)
def OpenSpec.upto (s : _root_.Go.ChangeSpec) : _root_.Go.OpenSpec := { _root_.Go.OpenSpec.ofChange s with cond := some uptoSmall }

/-- 'scriptorylaw7.ShowAll', WHERE WHAT IT READS IS OF BULK AT MOST 1048576: true; the input reads as it did. -/
def showAllUptoRow : OpenClaim := { program := "ytlihheeknnnbmaadoor", sum := "38bfb1b9ee42b212a08b11d5295fbd31216e2574a54cb66def9cb444cb9045ee", func := "scriptory/scriptorylaw7.ShowAll", spec := "showAll", inPlace := ["internal/bytealg.IndexByteString"], unfollowed := true, recurses := true, named := ["math/bits.deBruijn64tab"], loops := true, apart := false, laid := [("math/bits.deBruijn64tab", laid_math_bits_deBruijn64tab)], narrowed := true }
def ShowAllUptoSaid : Prop := showAllUptoRow.holds Tryd.pinned (OpenSpec.upto showAllSpec)

/-- 'scriptorylaw7.ShowMade', WHERE WHAT IT READS IS OF BULK AT MOST 1048576: true; the input reads as it did. -/
def showMadeUptoRow : OpenClaim := { program := "ytlihheeknnnbmaadoor", sum := "38bfb1b9ee42b212a08b11d5295fbd31216e2574a54cb66def9cb444cb9045ee", func := "scriptory/scriptorylaw7.ShowMade", spec := "showMade", inPlace := ["internal/bytealg.IndexByteString"], unfollowed := true, recurses := true, named := ["math/bits.deBruijn64tab"], apart := false, laid := [("math/bits.deBruijn64tab", laid_math_bits_deBruijn64tab)], narrowed := true }
def ShowMadeUptoSaid : Prop := showMadeUptoRow.holds Tryd.pinned (OpenSpec.upto showMadeSpec)

/-- 'scriptorylaw7.ShowBack', WHERE WHAT IT READS IS OF BULK AT MOST 1048576: true; the input reads as it did. -/
def showBackUptoRow : OpenClaim := { program := "ytlihheeknnnbmaadoor", sum := "38bfb1b9ee42b212a08b11d5295fbd31216e2574a54cb66def9cb444cb9045ee", func := "scriptory/scriptorylaw7.ShowBack", spec := "showBack", inPlace := ["internal/bytealg.IndexByteString"], unfollowed := true, recurses := true, named := ["math/bits.deBruijn64tab"], apart := false, laid := [("math/bits.deBruijn64tab", laid_math_bits_deBruijn64tab)], narrowed := true }
def ShowBackUptoSaid : Prop := showBackUptoRow.holds Tryd.pinned (OpenSpec.upto showBackSpec)

/-- 'scriptorylaw7.ShowSets', WHERE WHAT IT READS IS OF BULK AT MOST 1048576: true; the input reads as it did. -/
def showSetsUptoRow : OpenClaim := { program := "ytlihheeknnnbmaadoor", sum := "38bfb1b9ee42b212a08b11d5295fbd31216e2574a54cb66def9cb444cb9045ee", func := "scriptory/scriptorylaw7.ShowSets", spec := "showSets", inPlace := ["internal/bytealg.IndexByteString"], unfollowed := true, recurses := true, named := ["math/bits.deBruijn64tab"], apart := false, laid := [("math/bits.deBruijn64tab", laid_math_bits_deBruijn64tab)], narrowed := true }
def ShowSetsUptoSaid : Prop := showSetsUptoRow.holds Tryd.pinned (OpenSpec.upto showSetsSpec)

/-- 'scriptorylaw7.ShowRuns', WHERE WHAT IT READS IS OF BULK AT MOST 1048576: true; the input reads as it did. -/
def showRunsUptoRow : OpenClaim := { program := "ytlihheeknnnbmaadoor", sum := "38bfb1b9ee42b212a08b11d5295fbd31216e2574a54cb66def9cb444cb9045ee", func := "scriptory/scriptorylaw7.ShowRuns", spec := "showRuns", inPlace := ["internal/bytealg.IndexByteString"], unfollowed := true, recurses := true, named := ["math/bits.deBruijn64tab"], apart := false, laid := [("math/bits.deBruijn64tab", laid_math_bits_deBruijn64tab)], narrowed := true }
def ShowRunsUptoSaid : Prop := showRunsUptoRow.holds Tryd.pinned (OpenSpec.upto showRunsSpec)

/-- 'scriptorylaw7.ShowParts', WHERE WHAT IT READS IS OF BULK AT MOST 1048576: true; the input reads as it did. -/
def showPartsUptoRow : OpenClaim := { program := "ytlihheeknnnbmaadoor", sum := "38bfb1b9ee42b212a08b11d5295fbd31216e2574a54cb66def9cb444cb9045ee", func := "scriptory/scriptorylaw7.ShowParts", spec := "showParts", inPlace := ["internal/bytealg.IndexByteString"], unfollowed := true, recurses := true, named := ["math/bits.deBruijn64tab"], apart := false, laid := [("math/bits.deBruijn64tab", laid_math_bits_deBruijn64tab)], narrowed := true }
def ShowPartsUptoSaid : Prop := showPartsUptoRow.holds Tryd.pinned (OpenSpec.upto showPartsSpec)

end Rows
end Go.Proofs.YtlihheeknnnbmaaDoor
