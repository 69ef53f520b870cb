/-
  No cell of these rows narrows 'for every input' (looked for: loops, veiled, ifaces, maps, wideKeys, modest, calm, conditions, laid).
  DERIVED. THE GIVEN ROWS OF THIS SEAT. 6 by the template 'for every input the law returns true; each argument reads behind the call as it read before'; 0 by the template 'total and deterministic' (their statements: YtpcfmaghlglomaaTotals.lean).
  GIVEN WITH THE SEED: the statements are not yours to turn. If you find one false, say at which input.
  Laid BY PROGRAM, IN A SANDBOX (cutbox-rows.mjs): the forced cells as the released guide's own fill.sh prints them over the translation b4b048a97da89fd6… (all of the seat's roots in one cut). By AI agents, Wed Nov 11 2026. No macro, syntax, notation, axiom, sorry.
-/
import Derived.Test.YtpcfmaghlglomaaChecked
import GoSem.Claim
import GoSem.ClaimJoined
import GoSem.ClaimMapViews
import Derived.JoinedTies
import Derived.KernelRfl
namespace Go.Proofs.Ytpcfmaghlglomaa
/- THE CELL 'sum', in the pinned program and in every row, IS THE sha256 OF THE DUMP (.gsa) THAT YtpcfmaghlglomaaProg.lean LOADS. Nothing in Lean hashes anything: it is a label: what it is worth is what the hold of that sum in a sandbox is worth. -/
noncomputable def Try.pinned : Pinned := { name := "ytpcfmaghlglomaa", sum := "b4b048a97da89fd66f22188a028cf1aba4b860863d5b78760fce5744f19f6ccf", checked := Try.checked }
namespace Rows
def none {H : Type} : Left H := { results := [], args := [] }

/-- 'scriptorylaw14.WitnessMade': WHATEVER THE INPUT: true; the input reads as it did. -/
def witnessMadeSpec : ChangeSpec := { name := "witnessMade", fn := fun _ => fun
  | [d1, d2, d3, d4, d5] => { results := [.lit (.bool true)], args := [d1, d2, d3, d4, d5] }
  | _ => none }
def witnessMadeRow : OpenClaim := { program := "ytpcfmaghlglomaa", sum := "b4b048a97da89fd66f22188a028cf1aba4b860863d5b78760fce5744f19f6ccf", func := "scriptory/scriptorylaw14.WitnessMade", spec := "witnessMade", unfollowed := true, recurses := true, apart := false }
def WitnessMadeSaid : Prop := witnessMadeRow.holds Try.pinned (OpenSpec.ofChange witnessMadeSpec)

/-- ITS FALSE NEIGHBOUR: 'it returns false'. Refute it at one input. -/
def witnessMadeWrong : ChangeSpec := { name := "witnessMade", fn := fun _ => fun
  | [d1, d2, d3, d4, d5] => { results := [.lit (.bool false)], args := [d1, d2, d3, d4, d5] }
  | _ => none }
def WitnessMadeWrongFalsely : Prop := witnessMadeRow.holds Try.pinned (OpenSpec.ofChange witnessMadeWrong)

/-- 'scriptorylaw14.WitnessLeast': WHATEVER THE INPUT: true; the input reads as it did. -/
def witnessLeastSpec : ChangeSpec := { name := "witnessLeast", fn := fun _ => fun
  | [d1, d2, d3] => { results := [.lit (.bool true)], args := [d1, d2, d3] }
  | _ => none }
def witnessLeastRow : OpenClaim := { program := "ytpcfmaghlglomaa", sum := "b4b048a97da89fd66f22188a028cf1aba4b860863d5b78760fce5744f19f6ccf", func := "scriptory/scriptorylaw14.WitnessLeast", spec := "witnessLeast", unfollowed := true, recurses := true, apart := false }
def WitnessLeastSaid : Prop := witnessLeastRow.holds Try.pinned (OpenSpec.ofChange witnessLeastSpec)

/-- ITS FALSE NEIGHBOUR: 'it returns false'. Refute it at one input. -/
def witnessLeastWrong : ChangeSpec := { name := "witnessLeast", fn := fun _ => fun
  | [d1, d2, d3] => { results := [.lit (.bool false)], args := [d1, d2, d3] }
  | _ => none }
def WitnessLeastWrongFalsely : Prop := witnessLeastRow.holds Try.pinned (OpenSpec.ofChange witnessLeastWrong)

/-- 'scriptorylaw14.WitnessWords': WHATEVER THE INPUT: true; the input reads as it did. -/
def witnessWordsSpec : ChangeSpec := { name := "witnessWords", fn := fun _ => fun
  | [d1, d2, d3, d4] => { results := [.lit (.bool true)], args := [d1, d2, d3, d4] }
  | _ => none }
def witnessWordsRow : OpenClaim := { program := "ytpcfmaghlglomaa", sum := "b4b048a97da89fd66f22188a028cf1aba4b860863d5b78760fce5744f19f6ccf", func := "scriptory/scriptorylaw14.WitnessWords", spec := "witnessWords", unfollowed := true, recurses := true, apart := false }
def WitnessWordsSaid : Prop := witnessWordsRow.holds Try.pinned (OpenSpec.ofChange witnessWordsSpec)

/-- ITS FALSE NEIGHBOUR: 'it returns false'. Refute it at one input. -/
def witnessWordsWrong : ChangeSpec := { name := "witnessWords", fn := fun _ => fun
  | [d1, d2, d3, d4] => { results := [.lit (.bool false)], args := [d1, d2, d3, d4] }
  | _ => none }
def WitnessWordsWrongFalsely : Prop := witnessWordsRow.holds Try.pinned (OpenSpec.ofChange witnessWordsWrong)

/-- 'scriptorylaw14.WitnessFlip': WHATEVER THE INPUT: true; the input reads as it did. -/
def witnessFlipSpec : ChangeSpec := { name := "witnessFlip", fn := fun _ => fun
  | [d1, d2, d3, d4] => { results := [.lit (.bool true)], args := [d1, d2, d3, d4] }
  | _ => none }
def witnessFlipRow : OpenClaim := { program := "ytpcfmaghlglomaa", sum := "b4b048a97da89fd66f22188a028cf1aba4b860863d5b78760fce5744f19f6ccf", func := "scriptory/scriptorylaw14.WitnessFlip", spec := "witnessFlip", unfollowed := true, recurses := true, apart := false }
def WitnessFlipSaid : Prop := witnessFlipRow.holds Try.pinned (OpenSpec.ofChange witnessFlipSpec)

/-- ITS FALSE NEIGHBOUR: 'it returns false'. Refute it at one input. -/
def witnessFlipWrong : ChangeSpec := { name := "witnessFlip", fn := fun _ => fun
  | [d1, d2, d3, d4] => { results := [.lit (.bool false)], args := [d1, d2, d3, d4] }
  | _ => none }
def WitnessFlipWrongFalsely : Prop := witnessFlipRow.holds Try.pinned (OpenSpec.ofChange witnessFlipWrong)

/-- 'scriptorylaw14.WitnessPairs': WHATEVER THE INPUT: true; the input reads as it did. -/
def witnessPairsSpec : ChangeSpec := { name := "witnessPairs", fn := fun _ => fun
  | [d1, d2, d3, d4, d5, d6, d7] => { results := [.lit (.bool true)], args := [d1, d2, d3, d4, d5, d6, d7] }
  | _ => none }
def witnessPairsRow : OpenClaim := { program := "ytpcfmaghlglomaa", sum := "b4b048a97da89fd66f22188a028cf1aba4b860863d5b78760fce5744f19f6ccf", func := "scriptory/scriptorylaw14.WitnessPairs", spec := "witnessPairs", unfollowed := true, recurses := true, apart := false }
def WitnessPairsSaid : Prop := witnessPairsRow.holds Try.pinned (OpenSpec.ofChange witnessPairsSpec)

/-- ITS FALSE NEIGHBOUR: 'it returns false'. Refute it at one input. -/
def witnessPairsWrong : ChangeSpec := { name := "witnessPairs", fn := fun _ => fun
  | [d1, d2, d3, d4, d5, d6, d7] => { results := [.lit (.bool false)], args := [d1, d2, d3, d4, d5, d6, d7] }
  | _ => none }
def WitnessPairsWrongFalsely : Prop := witnessPairsRow.holds Try.pinned (OpenSpec.ofChange witnessPairsWrong)

/-- 'scriptorylaw14.WitnessFirst': WHATEVER THE INPUT: true; the input reads as it did. -/
def witnessFirstSpec : ChangeSpec := { name := "witnessFirst", fn := fun _ => fun
  | [d1, d2, d3, d4, d5] => { results := [.lit (.bool true)], args := [d1, d2, d3, d4, d5] }
  | _ => none }
def witnessFirstRow : OpenClaim := { program := "ytpcfmaghlglomaa", sum := "b4b048a97da89fd66f22188a028cf1aba4b860863d5b78760fce5744f19f6ccf", func := "scriptory/scriptorylaw14.WitnessFirst", spec := "witnessFirst", unfollowed := true, recurses := true, apart := false }
def WitnessFirstSaid : Prop := witnessFirstRow.holds Try.pinned (OpenSpec.ofChange witnessFirstSpec)

/-- ITS FALSE NEIGHBOUR: 'it returns false'. Refute it at one input. -/
def witnessFirstWrong : ChangeSpec := { name := "witnessFirst", fn := fun _ => fun
  | [d1, d2, d3, d4, d5] => { results := [.lit (.bool false)], args := [d1, d2, d3, d4, d5] }
  | _ => none }
def WitnessFirstWrongFalsely : Prop := witnessFirstRow.holds Try.pinned (OpenSpec.ofChange witnessFirstWrong)

/- THE SECOND FORM. 'bulk': how many values and letters a reading holds, each counted each time it is reached (what is shared counts as often as it is met; a slice's spare places count too). A statement '..UptoSaid' is the law's where the arguments, and the package variables that the reading takes, are together of bulk at most 1048576: NARROWER than '..Said'. Prove '..Said' where nothing that the law and all that it calls make is longer than what came in: it says more and counts as full. Else prove '..UptoSaid'. A law counts once. -/
mutual
def uptoBulk {H : Type} : DataW H → Nat
  | .lit (.string bytes) => bytes.length + 1
  | .lit _ => 1
  | .nil => 1
  | .ptr d => uptoBulk d + 1
  | .slice elems spare => uptoBulkAll elems + uptoBulkAll spare + 1
  | .agg parts => uptoBulkAll parts + 1
  | .iface _ d => uptoBulk d + 1
  | .map entries => uptoBulkEntries entries + 1
  | .held _ => 1
def uptoBulkAll {H : Type} : List (DataW H) → Nat
  | [] => 0
  | d :: r => uptoBulk d + uptoBulkAll r
def uptoBulkEntries {H : Type} : List (Lit × DataW H) → Nat
  | [] => 0
  | x :: r => uptoBulkEntry x + uptoBulkEntries r
def uptoBulkEntry {H : Type} : Lit × DataW H → Nat
  | (.string bytes, d) => bytes.length + uptoBulk d + 1
  | (_, d) => uptoBulk d + 1
 end
def uptoSmall : (H : Type) → List (DataW H) → Bool := fun _ ds => decide (uptoBulkAll ds ≤ 1048576)
def OpenSpec.upto (s : _root_.Go.ChangeSpec) : _root_.Go.OpenSpec := { _root_.Go.OpenSpec.ofChange s with cond := some uptoSmall }

/-- 'scriptorylaw14.WitnessMade', WHERE WHAT IT READS IS OF BULK AT MOST 1048576: true; the input reads as it did. -/
def witnessMadeUptoRow : OpenClaim := { program := "ytpcfmaghlglomaa", sum := "b4b048a97da89fd66f22188a028cf1aba4b860863d5b78760fce5744f19f6ccf", func := "scriptory/scriptorylaw14.WitnessMade", spec := "witnessMade", unfollowed := true, recurses := true, apart := false, narrowed := true }
def WitnessMadeUptoSaid : Prop := witnessMadeUptoRow.holds Try.pinned (OpenSpec.upto witnessMadeSpec)

/-- 'scriptorylaw14.WitnessLeast', WHERE WHAT IT READS IS OF BULK AT MOST 1048576: true; the input reads as it did. -/
def witnessLeastUptoRow : OpenClaim := { program := "ytpcfmaghlglomaa", sum := "b4b048a97da89fd66f22188a028cf1aba4b860863d5b78760fce5744f19f6ccf", func := "scriptory/scriptorylaw14.WitnessLeast", spec := "witnessLeast", unfollowed := true, recurses := true, apart := false, narrowed := true }
def WitnessLeastUptoSaid : Prop := witnessLeastUptoRow.holds Try.pinned (OpenSpec.upto witnessLeastSpec)

/-- 'scriptorylaw14.WitnessWords', WHERE WHAT IT READS IS OF BULK AT MOST 1048576: true; the input reads as it did. -/
def witnessWordsUptoRow : OpenClaim := { program := "ytpcfmaghlglomaa", sum := "b4b048a97da89fd66f22188a028cf1aba4b860863d5b78760fce5744f19f6ccf", func := "scriptory/scriptorylaw14.WitnessWords", spec := "witnessWords", unfollowed := true, recurses := true, apart := false, narrowed := true }
def WitnessWordsUptoSaid : Prop := witnessWordsUptoRow.holds Try.pinned (OpenSpec.upto witnessWordsSpec)

/-- 'scriptorylaw14.WitnessFlip', WHERE WHAT IT READS IS OF BULK AT MOST 1048576: true; the input reads as it did. -/
def witnessFlipUptoRow : OpenClaim := { program := "ytpcfmaghlglomaa", sum := "b4b048a97da89fd66f22188a028cf1aba4b860863d5b78760fce5744f19f6ccf", func := "scriptory/scriptorylaw14.WitnessFlip", spec := "witnessFlip", unfollowed := true, recurses := true, apart := false, narrowed := true }
def WitnessFlipUptoSaid : Prop := witnessFlipUptoRow.holds Try.pinned (OpenSpec.upto witnessFlipSpec)

/-- 'scriptorylaw14.WitnessPairs', WHERE WHAT IT READS IS OF BULK AT MOST 1048576: true; the input reads as it did. -/
def witnessPairsUptoRow : OpenClaim := { program := "ytpcfmaghlglomaa", sum := "b4b048a97da89fd66f22188a028cf1aba4b860863d5b78760fce5744f19f6ccf", func := "scriptory/scriptorylaw14.WitnessPairs", spec := "witnessPairs", unfollowed := true, recurses := true, apart := false, narrowed := true }
def WitnessPairsUptoSaid : Prop := witnessPairsUptoRow.holds Try.pinned (OpenSpec.upto witnessPairsSpec)

/-- 'scriptorylaw14.WitnessFirst', WHERE WHAT IT READS IS OF BULK AT MOST 1048576: true; the input reads as it did. -/
def witnessFirstUptoRow : OpenClaim := { program := "ytpcfmaghlglomaa", sum := "b4b048a97da89fd66f22188a028cf1aba4b860863d5b78760fce5744f19f6ccf", func := "scriptory/scriptorylaw14.WitnessFirst", spec := "witnessFirst", unfollowed := true, recurses := true, apart := false, narrowed := true }
def WitnessFirstUptoSaid : Prop := witnessFirstUptoRow.holds Try.pinned (OpenSpec.upto witnessFirstSpec)

end Rows
end Go.Proofs.Ytpcfmaghlglomaa
