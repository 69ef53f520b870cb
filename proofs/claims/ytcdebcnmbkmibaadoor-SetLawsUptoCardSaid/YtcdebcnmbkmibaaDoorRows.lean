/-
  NARROWER THAN 'FOR EVERY INPUT', by the rows' own cells (each row's printed sentence says how): SetAll: laid · SetParts: laid · SetLaws: laid · SetWhole: laid · SetRanges: laid · SetFirst: laid · SetCoarse: laid.
  DERIVED. THE GIVEN ROWS OF THIS SEAT. 7 by the template 'for every input the law returns true; each argument reads behind the call as it read before'; 0 by the template 'total and deterministic' (their statements: YtcdebcnmbkmibaaDoorTotals.lean).
  GIVEN WITH THE SEED: the statements are not yours to turn. If you find one false, say at which input.
  Laid BY PROGRAM, IN A SANDBOX (cutbox-rows.mjs): the forced cells as the released guide's own fill.sh prints them over the translation a476884e60e34ba5… (all of the seat's roots in one cut). By AI agents, Wed Nov 11 2026. No macro, syntax, notation, axiom, sorry.
-/
import Derived.Test.YtcdebcnmbkmibaaDoorChecked
import GoSem.Claim
import GoSem.ClaimJoined
import GoSem.ClaimMapViews
import Derived.JoinedTies
import Derived.KernelRfl
namespace Go.Proofs.YtcdebcnmbkmibaaDoor
/- THE CELL 'sum', in the pinned program and in every row, IS THE sha256 OF THE DUMP (.gsa) THAT YtcdebcnmbkmibaaDoorProg.lean LOADS. Nothing in Lean hashes anything: it is a label: what it is worth is what the hold of that sum in a sandbox is worth. -/
noncomputable def Tryd.pinned : Pinned := { name := "ytcdebcnmbkmibaadoor", sum := "a476884e60e34ba59d202ca35390b8c859ac845153a098641358b48126c5ffe6", checked := Tryd.checked }
namespace Rows
def none {H : Type} : Left H := { results := [], args := [] }

/- WHAT THE LISTED PACKAGE-LEVEL VARIABLES READ AS WHEN THE CALL BEGINS. Each datum BY PROGRAM (the guide's laid-datum.mjs) off the statement by which the dump's own 'gosem.cut.vars' lays the variable. In a bare row this is a premise. The card (YtcdebcnmbkmibaaDoorCards.lean) ties it to the program's text. -/
def laid_math_bits_deBruijn64tab {H : Type} : DataW H := .agg [.lit (.int .u8 0), .lit (.int .u8 1), .lit (.int .u8 56), .lit (.int .u8 2), .lit (.int .u8 57), .lit (.int .u8 49), .lit (.int .u8 28), .lit (.int .u8 3), .lit (.int .u8 61), .lit (.int .u8 58), .lit (.int .u8 42), .lit (.int .u8 50), .lit (.int .u8 38), .lit (.int .u8 29), .lit (.int .u8 17), .lit (.int .u8 4), .lit (.int .u8 62), .lit (.int .u8 47), .lit (.int .u8 59), .lit (.int .u8 36), .lit (.int .u8 45), .lit (.int .u8 43), .lit (.int .u8 51), .lit (.int .u8 22), .lit (.int .u8 53), .lit (.int .u8 39), .lit (.int .u8 33), .lit (.int .u8 30), .lit (.int .u8 24), .lit (.int .u8 18), .lit (.int .u8 12), .lit (.int .u8 5), .lit (.int .u8 63), .lit (.int .u8 55), .lit (.int .u8 48), .lit (.int .u8 27), .lit (.int .u8 60), .lit (.int .u8 41), .lit (.int .u8 37), .lit (.int .u8 16), .lit (.int .u8 46), .lit (.int .u8 35), .lit (.int .u8 44), .lit (.int .u8 21), .lit (.int .u8 52), .lit (.int .u8 32), .lit (.int .u8 23), .lit (.int .u8 11), .lit (.int .u8 54), .lit (.int .u8 26), .lit (.int .u8 40), .lit (.int .u8 15), .lit (.int .u8 34), .lit (.int .u8 20), .lit (.int .u8 31), .lit (.int .u8 10), .lit (.int .u8 25), .lit (.int .u8 14), .lit (.int .u8 19), .lit (.int .u8 9), .lit (.int .u8 13), .lit (.int .u8 8), .lit (.int .u8 7), .lit (.int .u8 6)]

/-- 'scriptorylaw4.SetAll': WHATEVER THE INPUT: true; the input reads as it did. -/
def setAllSpec : ChangeSpec := { name := "setAll", fn := fun _ => fun
  | [d1, d2, d3, d4, d5] => { results := [.lit (.bool true)], args := [d1, d2, d3, d4, d5] }
  | _ => none }
def setAllRow : OpenClaim := { program := "ytcdebcnmbkmibaadoor", sum := "a476884e60e34ba59d202ca35390b8c859ac845153a098641358b48126c5ffe6", func := "scriptory/scriptorylaw4.SetAll", spec := "setAll", unfollowed := true, recurses := true, named := ["math/bits.deBruijn64tab"], apart := false, laid := [("math/bits.deBruijn64tab", laid_math_bits_deBruijn64tab)] }
def SetAllSaid : Prop := setAllRow.holds Tryd.pinned (OpenSpec.ofChange setAllSpec)

/-- ITS FALSE NEIGHBOUR: 'it returns false'. Refute it at one input. -/
def setAllWrong : ChangeSpec := { name := "setAll", fn := fun _ => fun
  | [d1, d2, d3, d4, d5] => { results := [.lit (.bool false)], args := [d1, d2, d3, d4, d5] }
  | _ => none }
def SetAllWrongFalsely : Prop := setAllRow.holds Tryd.pinned (OpenSpec.ofChange setAllWrong)

/-- 'scriptorylaw4.SetParts': WHATEVER THE INPUT: true; the input reads as it did. -/
def setPartsSpec : ChangeSpec := { name := "setParts", fn := fun _ => fun
  | [d] => { results := [.lit (.bool true)], args := [d] }
  | _ => none }
def setPartsRow : OpenClaim := { program := "ytcdebcnmbkmibaadoor", sum := "a476884e60e34ba59d202ca35390b8c859ac845153a098641358b48126c5ffe6", func := "scriptory/scriptorylaw4.SetParts", spec := "setParts", unfollowed := true, recurses := true, named := ["math/bits.deBruijn64tab"], apart := false, laid := [("math/bits.deBruijn64tab", laid_math_bits_deBruijn64tab)] }
def SetPartsSaid : Prop := setPartsRow.holds Tryd.pinned (OpenSpec.ofChange setPartsSpec)

/-- ITS FALSE NEIGHBOUR: 'it returns false'. Refute it at one input. -/
def setPartsWrong : ChangeSpec := { name := "setParts", fn := fun _ => fun
  | [d] => { results := [.lit (.bool false)], args := [d] }
  | _ => none }
def SetPartsWrongFalsely : Prop := setPartsRow.holds Tryd.pinned (OpenSpec.ofChange setPartsWrong)

/-- 'scriptorylaw4.SetLaws': WHATEVER THE INPUT: true; the input reads as it did. -/
def setLawsSpec : ChangeSpec := { name := "setLaws", fn := fun _ => fun
  | [d1, d2, d3, d4] => { results := [.lit (.bool true)], args := [d1, d2, d3, d4] }
  | _ => none }
def setLawsRow : OpenClaim := { program := "ytcdebcnmbkmibaadoor", sum := "a476884e60e34ba59d202ca35390b8c859ac845153a098641358b48126c5ffe6", func := "scriptory/scriptorylaw4.SetLaws", spec := "setLaws", unfollowed := true, recurses := true, named := ["math/bits.deBruijn64tab"], apart := false, laid := [("math/bits.deBruijn64tab", laid_math_bits_deBruijn64tab)] }
def SetLawsSaid : Prop := setLawsRow.holds Tryd.pinned (OpenSpec.ofChange setLawsSpec)

/-- ITS FALSE NEIGHBOUR: 'it returns false'. Refute it at one input. -/
def setLawsWrong : ChangeSpec := { name := "setLaws", fn := fun _ => fun
  | [d1, d2, d3, d4] => { results := [.lit (.bool false)], args := [d1, d2, d3, d4] }
  | _ => none }
def SetLawsWrongFalsely : Prop := setLawsRow.holds Tryd.pinned (OpenSpec.ofChange setLawsWrong)

/-- 'scriptorylaw4.SetWhole': WHATEVER THE INPUT: true; the input reads as it did. -/
def setWholeSpec : ChangeSpec := { name := "setWhole", fn := fun _ => fun
  | [d] => { results := [.lit (.bool true)], args := [d] }
  | _ => none }
def setWholeRow : OpenClaim := { program := "ytcdebcnmbkmibaadoor", sum := "a476884e60e34ba59d202ca35390b8c859ac845153a098641358b48126c5ffe6", func := "scriptory/scriptorylaw4.SetWhole", spec := "setWhole", unfollowed := true, recurses := true, named := ["math/bits.deBruijn64tab"], apart := false, laid := [("math/bits.deBruijn64tab", laid_math_bits_deBruijn64tab)] }
def SetWholeSaid : Prop := setWholeRow.holds Tryd.pinned (OpenSpec.ofChange setWholeSpec)

/-- ITS FALSE NEIGHBOUR: 'it returns false'. Refute it at one input. -/
def setWholeWrong : ChangeSpec := { name := "setWhole", fn := fun _ => fun
  | [d] => { results := [.lit (.bool false)], args := [d] }
  | _ => none }
def SetWholeWrongFalsely : Prop := setWholeRow.holds Tryd.pinned (OpenSpec.ofChange setWholeWrong)

/-- 'scriptorylaw4.SetRanges': WHATEVER THE INPUT: true; the input reads as it did. -/
def setRangesSpec : ChangeSpec := { name := "setRanges", fn := fun _ => fun
  | [d1, d2, d3] => { results := [.lit (.bool true)], args := [d1, d2, d3] }
  | _ => none }
def setRangesRow : OpenClaim := { program := "ytcdebcnmbkmibaadoor", sum := "a476884e60e34ba59d202ca35390b8c859ac845153a098641358b48126c5ffe6", func := "scriptory/scriptorylaw4.SetRanges", spec := "setRanges", unfollowed := true, recurses := true, named := ["math/bits.deBruijn64tab"], apart := false, laid := [("math/bits.deBruijn64tab", laid_math_bits_deBruijn64tab)] }
def SetRangesSaid : Prop := setRangesRow.holds Tryd.pinned (OpenSpec.ofChange setRangesSpec)

/-- ITS FALSE NEIGHBOUR: 'it returns false'. Refute it at one input. -/
def setRangesWrong : ChangeSpec := { name := "setRanges", fn := fun _ => fun
  | [d1, d2, d3] => { results := [.lit (.bool false)], args := [d1, d2, d3] }
  | _ => none }
def SetRangesWrongFalsely : Prop := setRangesRow.holds Tryd.pinned (OpenSpec.ofChange setRangesWrong)

/-- 'scriptorylaw4.SetFirst': WHATEVER THE INPUT: true; the input reads as it did. -/
def setFirstSpec : ChangeSpec := { name := "setFirst", fn := fun _ => fun
  | [d1, d2] => { results := [.lit (.bool true)], args := [d1, d2] }
  | _ => none }
def setFirstRow : OpenClaim := { program := "ytcdebcnmbkmibaadoor", sum := "a476884e60e34ba59d202ca35390b8c859ac845153a098641358b48126c5ffe6", func := "scriptory/scriptorylaw4.SetFirst", spec := "setFirst", unfollowed := true, recurses := true, named := ["math/bits.deBruijn64tab"], apart := false, laid := [("math/bits.deBruijn64tab", laid_math_bits_deBruijn64tab)] }
def SetFirstSaid : Prop := setFirstRow.holds Tryd.pinned (OpenSpec.ofChange setFirstSpec)

/-- ITS FALSE NEIGHBOUR: 'it returns false'. Refute it at one input. -/
def setFirstWrong : ChangeSpec := { name := "setFirst", fn := fun _ => fun
  | [d1, d2] => { results := [.lit (.bool false)], args := [d1, d2] }
  | _ => none }
def SetFirstWrongFalsely : Prop := setFirstRow.holds Tryd.pinned (OpenSpec.ofChange setFirstWrong)

/-- 'scriptorylaw4.SetCoarse': WHATEVER THE INPUT: true; the input reads as it did. -/
def setCoarseSpec : ChangeSpec := { name := "setCoarse", fn := fun _ => fun
  | [d1, d2, d3] => { results := [.lit (.bool true)], args := [d1, d2, d3] }
  | _ => none }
def setCoarseRow : OpenClaim := { program := "ytcdebcnmbkmibaadoor", sum := "a476884e60e34ba59d202ca35390b8c859ac845153a098641358b48126c5ffe6", func := "scriptory/scriptorylaw4.SetCoarse", spec := "setCoarse", unfollowed := true, recurses := true, named := ["math/bits.deBruijn64tab"], apart := false, laid := [("math/bits.deBruijn64tab", laid_math_bits_deBruijn64tab)] }
def SetCoarseSaid : Prop := setCoarseRow.holds Tryd.pinned (OpenSpec.ofChange setCoarseSpec)

/-- ITS FALSE NEIGHBOUR: 'it returns false'. Refute it at one input. -/
def setCoarseWrong : ChangeSpec := { name := "setCoarse", fn := fun _ => fun
  | [d1, d2, d3] => { results := [.lit (.bool false)], args := [d1, d2, d3] }
  | _ => none }
def SetCoarseWrongFalsely : Prop := setCoarseRow.holds Tryd.pinned (OpenSpec.ofChange setCoarseWrong)

/- THE SECOND FORM. 'bulk': how many values and letters a reading holds, each counted each time it is reached (what is shared counts as often as it is met; a slice's spare places count too). A statement '..UptoSaid' is the law's where the arguments, and the package variables that the reading takes, are together of bulk at most 1048576: NARROWER than '..Said'. Prove '..Said' where nothing that the law and all that it calls make is longer than what came in: it says more and counts as full. Else prove '..UptoSaid'. A law counts once. -/
mutual
def uptoBulk {H : Type} : DataW H → Nat
  | .lit (.string bytes) => bytes.length + 1
  | .lit _ => 1
  | .nil => 1
  | .ptr d => uptoBulk d + 1
  | .slice elems spare => uptoBulkAll elems + uptoBulkAll spare + 1
  | .agg parts => uptoBulkAll parts + 1
  | .iface _ d => uptoBulk d + 1
  | .map entries => uptoBulkEntries entries + 1
  | .held _ => 1
def uptoBulkAll {H : Type} : List (DataW H) → Nat
  | [] => 0
  | d :: r => uptoBulk d + uptoBulkAll r
def uptoBulkEntries {H : Type} : List (Lit × DataW H) → Nat
  | [] => 0
  | x :: r => uptoBulkEntry x + uptoBulkEntries r
def uptoBulkEntry {H : Type} : Lit × DataW H → Nat
  | (.string bytes, d) => bytes.length + uptoBulk d + 1
  | (_, d) => uptoBulk d + 1
 end
def uptoSmall : (H : Type) → List (DataW H) → Bool := fun _ ds => decide (uptoBulkAll ds ≤ 1048576)
def OpenSpec.upto (s : _root_.Go.ChangeSpec) : _root_.Go.OpenSpec := { _root_.Go.OpenSpec.ofChange s with cond := some uptoSmall }

/-- 'scriptorylaw4.SetAll', WHERE WHAT IT READS IS OF BULK AT MOST 1048576: true; the input reads as it did. -/
def setAllUptoRow : OpenClaim := { program := "ytcdebcnmbkmibaadoor", sum := "a476884e60e34ba59d202ca35390b8c859ac845153a098641358b48126c5ffe6", func := "scriptory/scriptorylaw4.SetAll", spec := "setAll", unfollowed := true, recurses := true, named := ["math/bits.deBruijn64tab"], apart := false, laid := [("math/bits.deBruijn64tab", laid_math_bits_deBruijn64tab)], narrowed := true }
def SetAllUptoSaid : Prop := setAllUptoRow.holds Tryd.pinned (OpenSpec.upto setAllSpec)

/-- 'scriptorylaw4.SetParts', WHERE WHAT IT READS IS OF BULK AT MOST 1048576: true; the input reads as it did. -/
def setPartsUptoRow : OpenClaim := { program := "ytcdebcnmbkmibaadoor", sum := "a476884e60e34ba59d202ca35390b8c859ac845153a098641358b48126c5ffe6", func := "scriptory/scriptorylaw4.SetParts", spec := "setParts", unfollowed := true, recurses := true, named := ["math/bits.deBruijn64tab"], apart := false, laid := [("math/bits.deBruijn64tab", laid_math_bits_deBruijn64tab)], narrowed := true }
def SetPartsUptoSaid : Prop := setPartsUptoRow.holds Tryd.pinned (OpenSpec.upto setPartsSpec)

/-- 'scriptorylaw4.SetLaws', WHERE WHAT IT READS IS OF BULK AT MOST 1048576: true; the input reads as it did. -/
def setLawsUptoRow : OpenClaim := { program := "ytcdebcnmbkmibaadoor", sum := "a476884e60e34ba59d202ca35390b8c859ac845153a098641358b48126c5ffe6", func := "scriptory/scriptorylaw4.SetLaws", spec := "setLaws", unfollowed := true, recurses := true, named := ["math/bits.deBruijn64tab"], apart := false, laid := [("math/bits.deBruijn64tab", laid_math_bits_deBruijn64tab)], narrowed := true }
def SetLawsUptoSaid : Prop := setLawsUptoRow.holds Tryd.pinned (OpenSpec.upto setLawsSpec)

/-- 'scriptorylaw4.SetWhole', WHERE WHAT IT READS IS OF BULK AT MOST 1048576: true; the input reads as it did. -/
def setWholeUptoRow : OpenClaim := { program := "ytcdebcnmbkmibaadoor", sum := "a476884e60e34ba59d202ca35390b8c859ac845153a098641358b48126c5ffe6", func := "scriptory/scriptorylaw4.SetWhole", spec := "setWhole", unfollowed := true, recurses := true, named := ["math/bits.deBruijn64tab"], apart := false, laid := [("math/bits.deBruijn64tab", laid_math_bits_deBruijn64tab)], narrowed := true }
def SetWholeUptoSaid : Prop := setWholeUptoRow.holds Tryd.pinned (OpenSpec.upto setWholeSpec)

/-- 'scriptorylaw4.SetRanges', WHERE WHAT IT READS IS OF BULK AT MOST 1048576: true; the input reads as it did. -/
def setRangesUptoRow : OpenClaim := { program := "ytcdebcnmbkmibaadoor", sum := "a476884e60e34ba59d202ca35390b8c859ac845153a098641358b48126c5ffe6", func := "scriptory/scriptorylaw4.SetRanges", spec := "setRanges", unfollowed := true, recurses := true, named := ["math/bits.deBruijn64tab"], apart := false, laid := [("math/bits.deBruijn64tab", laid_math_bits_deBruijn64tab)], narrowed := true }
def SetRangesUptoSaid : Prop := setRangesUptoRow.holds Tryd.pinned (OpenSpec.upto setRangesSpec)

/-- 'scriptorylaw4.SetFirst', WHERE WHAT IT READS IS OF BULK AT MOST 1048576: true; the input reads as it did. -/
def setFirstUptoRow : OpenClaim := { program := "ytcdebcnmbkmibaadoor", sum := "a476884e60e34ba59d202ca35390b8c859ac845153a098641358b48126c5ffe6", func := "scriptory/scriptorylaw4.SetFirst", spec := "setFirst", unfollowed := true, recurses := true, named := ["math/bits.deBruijn64tab"], apart := false, laid := [("math/bits.deBruijn64tab", laid_math_bits_deBruijn64tab)], narrowed := true }
def SetFirstUptoSaid : Prop := setFirstUptoRow.holds Tryd.pinned (OpenSpec.upto setFirstSpec)

/-- 'scriptorylaw4.SetCoarse', WHERE WHAT IT READS IS OF BULK AT MOST 1048576: true; the input reads as it did. -/
def setCoarseUptoRow : OpenClaim := { program := "ytcdebcnmbkmibaadoor", sum := "a476884e60e34ba59d202ca35390b8c859ac845153a098641358b48126c5ffe6", func := "scriptory/scriptorylaw4.SetCoarse", spec := "setCoarse", unfollowed := true, recurses := true, named := ["math/bits.deBruijn64tab"], apart := false, laid := [("math/bits.deBruijn64tab", laid_math_bits_deBruijn64tab)], narrowed := true }
def SetCoarseUptoSaid : Prop := setCoarseUptoRow.holds Tryd.pinned (OpenSpec.upto setCoarseSpec)

end Rows
end Go.Proofs.YtcdebcnmbkmibaaDoor
