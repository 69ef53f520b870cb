/-
  No cell of these rows narrows 'for every input' (looked for: loops, veiled, ifaces, maps, wideKeys, modest, calm, conditions, laid).
  DERIVED. THE GIVEN ROWS OF THIS SEAT. 7 by the template 'for every input the law returns true; each argument reads behind the call as it read before'; 0 by the template 'total and deterministic' (their statements: YtnnojemckfikfaaTotals.lean).
  GIVEN WITH THE SEED: the statements are not yours to turn. If you find one false, say at which input.
  Laid BY PROGRAM, IN A SANDBOX (cutbox-rows.mjs): the forced cells as the released guide's own fill.sh prints them over the translation 0c5ce1a9ce1e200f… (all of the seat's roots in one cut). By AI agents, Wed Nov 11 2026. No macro, syntax, notation, axiom, sorry.
-/
import Derived.Test.YtnnojemckfikfaaChecked
import GoSem.Claim
import GoSem.ClaimJoined
import GoSem.ClaimMapViews
import Derived.JoinedTies
import Derived.KernelRfl
namespace Go.Proofs.Ytnnojemckfikfaa
/- THE CELL 'sum', in the pinned program and in every row, IS THE sha256 OF THE DUMP (.gsa) THAT YtnnojemckfikfaaProg.lean LOADS. Nothing in Lean hashes anything: it is a label: what it is worth is what the hold of that sum in a sandbox is worth. -/
noncomputable def Try.pinned : Pinned := { name := "ytnnojemckfikfaa", sum := "0c5ce1a9ce1e200ff961150a548f64dc4d62505d8e6038e2b94c61a208a2086c", checked := Try.checked }
namespace Rows
def none {H : Type} : Left H := { results := [], args := [] }

/-- 'scriptorylaw12.LeastMade': WHATEVER THE INPUT: true; the input reads as it did. -/
def leastMadeSpec : ChangeSpec := { name := "leastMade", fn := fun _ => fun
  | [d1, d2, d3] => { results := [.lit (.bool true)], args := [d1, d2, d3] }
  | _ => none }
def leastMadeRow : OpenClaim := { program := "ytnnojemckfikfaa", sum := "0c5ce1a9ce1e200ff961150a548f64dc4d62505d8e6038e2b94c61a208a2086c", func := "scriptory/scriptorylaw12.LeastMade", spec := "leastMade", unfollowed := true, recurses := true, apart := false }
def LeastMadeSaid : Prop := leastMadeRow.holds Try.pinned (OpenSpec.ofChange leastMadeSpec)

/-- ITS FALSE NEIGHBOUR: 'it returns false'. Refute it at one input. -/
def leastMadeWrong : ChangeSpec := { name := "leastMade", fn := fun _ => fun
  | [d1, d2, d3] => { results := [.lit (.bool false)], args := [d1, d2, d3] }
  | _ => none }
def LeastMadeWrongFalsely : Prop := leastMadeRow.holds Try.pinned (OpenSpec.ofChange leastMadeWrong)

/-- 'scriptorylaw12.LeastRuns': WHATEVER THE INPUT: true; the input reads as it did. -/
def leastRunsSpec : ChangeSpec := { name := "leastRuns", fn := fun _ => fun
  | [d1, d2, d3, d4] => { results := [.lit (.bool true)], args := [d1, d2, d3, d4] }
  | _ => none }
def leastRunsRow : OpenClaim := { program := "ytnnojemckfikfaa", sum := "0c5ce1a9ce1e200ff961150a548f64dc4d62505d8e6038e2b94c61a208a2086c", func := "scriptory/scriptorylaw12.LeastRuns", spec := "leastRuns", unfollowed := true, recurses := true, apart := false }
def LeastRunsSaid : Prop := leastRunsRow.holds Try.pinned (OpenSpec.ofChange leastRunsSpec)

/-- ITS FALSE NEIGHBOUR: 'it returns false'. Refute it at one input. -/
def leastRunsWrong : ChangeSpec := { name := "leastRuns", fn := fun _ => fun
  | [d1, d2, d3, d4] => { results := [.lit (.bool false)], args := [d1, d2, d3, d4] }
  | _ => none }
def LeastRunsWrongFalsely : Prop := leastRunsRow.holds Try.pinned (OpenSpec.ofChange leastRunsWrong)

/-- 'scriptorylaw12.LeastTurned': WHATEVER THE INPUT: true; the input reads as it did. -/
def leastTurnedSpec : ChangeSpec := { name := "leastTurned", fn := fun _ => fun
  | [d1, d2, d3, d4] => { results := [.lit (.bool true)], args := [d1, d2, d3, d4] }
  | _ => none }
def leastTurnedRow : OpenClaim := { program := "ytnnojemckfikfaa", sum := "0c5ce1a9ce1e200ff961150a548f64dc4d62505d8e6038e2b94c61a208a2086c", func := "scriptory/scriptorylaw12.LeastTurned", spec := "leastTurned", unfollowed := true, recurses := true, apart := false }
def LeastTurnedSaid : Prop := leastTurnedRow.holds Try.pinned (OpenSpec.ofChange leastTurnedSpec)

/-- ITS FALSE NEIGHBOUR: 'it returns false'. Refute it at one input. -/
def leastTurnedWrong : ChangeSpec := { name := "leastTurned", fn := fun _ => fun
  | [d1, d2, d3, d4] => { results := [.lit (.bool false)], args := [d1, d2, d3, d4] }
  | _ => none }
def LeastTurnedWrongFalsely : Prop := leastTurnedRow.holds Try.pinned (OpenSpec.ofChange leastTurnedWrong)

/-- 'scriptorylaw12.LeastApart': WHATEVER THE INPUT: true; the input reads as it did. -/
def leastApartSpec : ChangeSpec := { name := "leastApart", fn := fun _ => fun
  | [d1, d2, d3] => { results := [.lit (.bool true)], args := [d1, d2, d3] }
  | _ => none }
def leastApartRow : OpenClaim := { program := "ytnnojemckfikfaa", sum := "0c5ce1a9ce1e200ff961150a548f64dc4d62505d8e6038e2b94c61a208a2086c", func := "scriptory/scriptorylaw12.LeastApart", spec := "leastApart", unfollowed := true, recurses := true, apart := false }
def LeastApartSaid : Prop := leastApartRow.holds Try.pinned (OpenSpec.ofChange leastApartSpec)

/-- ITS FALSE NEIGHBOUR: 'it returns false'. Refute it at one input. -/
def leastApartWrong : ChangeSpec := { name := "leastApart", fn := fun _ => fun
  | [d1, d2, d3] => { results := [.lit (.bool false)], args := [d1, d2, d3] }
  | _ => none }
def LeastApartWrongFalsely : Prop := leastApartRow.holds Try.pinned (OpenSpec.ofChange leastApartWrong)

/-- 'scriptorylaw12.LeastSame': WHATEVER THE INPUT: true; the input reads as it did. -/
def leastSameSpec : ChangeSpec := { name := "leastSame", fn := fun _ => fun
  | [d1, d2, d3, d4, d5, d6] => { results := [.lit (.bool true)], args := [d1, d2, d3, d4, d5, d6] }
  | _ => none }
def leastSameRow : OpenClaim := { program := "ytnnojemckfikfaa", sum := "0c5ce1a9ce1e200ff961150a548f64dc4d62505d8e6038e2b94c61a208a2086c", func := "scriptory/scriptorylaw12.LeastSame", spec := "leastSame", unfollowed := true, recurses := true, apart := false }
def LeastSameSaid : Prop := leastSameRow.holds Try.pinned (OpenSpec.ofChange leastSameSpec)

/-- ITS FALSE NEIGHBOUR: 'it returns false'. Refute it at one input. -/
def leastSameWrong : ChangeSpec := { name := "leastSame", fn := fun _ => fun
  | [d1, d2, d3, d4, d5, d6] => { results := [.lit (.bool false)], args := [d1, d2, d3, d4, d5, d6] }
  | _ => none }
def LeastSameWrongFalsely : Prop := leastSameRow.holds Try.pinned (OpenSpec.ofChange leastSameWrong)

/-- 'scriptorylaw12.LeastParts': WHATEVER THE INPUT: true; the input reads as it did. -/
def leastPartsSpec : ChangeSpec := { name := "leastParts", fn := fun _ => fun
  | [d1, d2, d3] => { results := [.lit (.bool true)], args := [d1, d2, d3] }
  | _ => none }
def leastPartsRow : OpenClaim := { program := "ytnnojemckfikfaa", sum := "0c5ce1a9ce1e200ff961150a548f64dc4d62505d8e6038e2b94c61a208a2086c", func := "scriptory/scriptorylaw12.LeastParts", spec := "leastParts", unfollowed := true, recurses := true, apart := false }
def LeastPartsSaid : Prop := leastPartsRow.holds Try.pinned (OpenSpec.ofChange leastPartsSpec)

/-- ITS FALSE NEIGHBOUR: 'it returns false'. Refute it at one input. -/
def leastPartsWrong : ChangeSpec := { name := "leastParts", fn := fun _ => fun
  | [d1, d2, d3] => { results := [.lit (.bool false)], args := [d1, d2, d3] }
  | _ => none }
def LeastPartsWrongFalsely : Prop := leastPartsRow.holds Try.pinned (OpenSpec.ofChange leastPartsWrong)

/-- 'scriptorylaw12.LeastFlip': WHATEVER THE INPUT: true; the input reads as it did. -/
def leastFlipSpec : ChangeSpec := { name := "leastFlip", fn := fun _ => fun
  | [d1, d2, d3] => { results := [.lit (.bool true)], args := [d1, d2, d3] }
  | _ => none }
def leastFlipRow : OpenClaim := { program := "ytnnojemckfikfaa", sum := "0c5ce1a9ce1e200ff961150a548f64dc4d62505d8e6038e2b94c61a208a2086c", func := "scriptory/scriptorylaw12.LeastFlip", spec := "leastFlip", unfollowed := true, recurses := true, apart := false }
def LeastFlipSaid : Prop := leastFlipRow.holds Try.pinned (OpenSpec.ofChange leastFlipSpec)

/-- ITS FALSE NEIGHBOUR: 'it returns false'. Refute it at one input. -/
def leastFlipWrong : ChangeSpec := { name := "leastFlip", fn := fun _ => fun
  | [d1, d2, d3] => { results := [.lit (.bool false)], args := [d1, d2, d3] }
  | _ => none }
def LeastFlipWrongFalsely : Prop := leastFlipRow.holds Try.pinned (OpenSpec.ofChange leastFlipWrong)

/- THE SECOND FORM. 'bulk': how many values and letters a reading holds, each counted each time it is reached (what is shared counts as often as it is met; a slice's spare places count too). A statement '..UptoSaid' is the law's where the arguments, and the package variables that the reading takes, are together of bulk at most 1048576: NARROWER than '..Said'. Prove '..Said' where nothing that the law and all that it calls make is longer than what came in: it says more and counts as full. Else prove '..UptoSaid'. A law counts once. -/
mutual
def uptoBulk {H : Type} : DataW H → Nat
  | .lit (.string bytes) => bytes.length + 1
  | .lit _ => 1
  | .nil => 1
  | .ptr d => uptoBulk d + 1
  | .slice elems spare => uptoBulkAll elems + uptoBulkAll spare + 1
  | .agg parts => uptoBulkAll parts + 1
  | .iface _ d => uptoBulk d + 1
  | .map entries => uptoBulkEntries entries + 1
  | .held _ => 1
def uptoBulkAll {H : Type} : List (DataW H) → Nat
  | [] => 0
  | d :: r => uptoBulk d + uptoBulkAll r
def uptoBulkEntries {H : Type} : List (Lit × DataW H) → Nat
  | [] => 0
  | x :: r => uptoBulkEntry x + uptoBulkEntries r
def uptoBulkEntry {H : Type} : Lit × DataW H → Nat
  | (.string bytes, d) => bytes.length + uptoBulk d + 1
  | (_, d) => uptoBulk d + 1
 end
def uptoSmall : (H : Type) → List (DataW H) → Bool := fun _ ds => decide (uptoBulkAll ds ≤ 1048576)
def OpenSpec.upto (s : _root_.Go.ChangeSpec) : _root_.Go.OpenSpec := { _root_.Go.OpenSpec.ofChange s with cond := some uptoSmall }

/-- 'scriptorylaw12.LeastMade', WHERE WHAT IT READS IS OF BULK AT MOST 1048576: true; the input reads as it did. -/
def leastMadeUptoRow : OpenClaim := { program := "ytnnojemckfikfaa", sum := "0c5ce1a9ce1e200ff961150a548f64dc4d62505d8e6038e2b94c61a208a2086c", func := "scriptory/scriptorylaw12.LeastMade", spec := "leastMade", unfollowed := true, recurses := true, apart := false, narrowed := true }
def LeastMadeUptoSaid : Prop := leastMadeUptoRow.holds Try.pinned (OpenSpec.upto leastMadeSpec)

/-- 'scriptorylaw12.LeastRuns', WHERE WHAT IT READS IS OF BULK AT MOST 1048576: true; the input reads as it did. -/
def leastRunsUptoRow : OpenClaim := { program := "ytnnojemckfikfaa", sum := "0c5ce1a9ce1e200ff961150a548f64dc4d62505d8e6038e2b94c61a208a2086c", func := "scriptory/scriptorylaw12.LeastRuns", spec := "leastRuns", unfollowed := true, recurses := true, apart := false, narrowed := true }
def LeastRunsUptoSaid : Prop := leastRunsUptoRow.holds Try.pinned (OpenSpec.upto leastRunsSpec)

/-- 'scriptorylaw12.LeastTurned', WHERE WHAT IT READS IS OF BULK AT MOST 1048576: true; the input reads as it did. -/
def leastTurnedUptoRow : OpenClaim := { program := "ytnnojemckfikfaa", sum := "0c5ce1a9ce1e200ff961150a548f64dc4d62505d8e6038e2b94c61a208a2086c", func := "scriptory/scriptorylaw12.LeastTurned", spec := "leastTurned", unfollowed := true, recurses := true, apart := false, narrowed := true }
def LeastTurnedUptoSaid : Prop := leastTurnedUptoRow.holds Try.pinned (OpenSpec.upto leastTurnedSpec)

/-- 'scriptorylaw12.LeastApart', WHERE WHAT IT READS IS OF BULK AT MOST 1048576: true; the input reads as it did. -/
def leastApartUptoRow : OpenClaim := { program := "ytnnojemckfikfaa", sum := "0c5ce1a9ce1e200ff961150a548f64dc4d62505d8e6038e2b94c61a208a2086c", func := "scriptory/scriptorylaw12.LeastApart", spec := "leastApart", unfollowed := true, recurses := true, apart := false, narrowed := true }
def LeastApartUptoSaid : Prop := leastApartUptoRow.holds Try.pinned (OpenSpec.upto leastApartSpec)

/-- 'scriptorylaw12.LeastSame', WHERE WHAT IT READS IS OF BULK AT MOST 1048576: true; the input reads as it did. -/
def leastSameUptoRow : OpenClaim := { program := "ytnnojemckfikfaa", sum := "0c5ce1a9ce1e200ff961150a548f64dc4d62505d8e6038e2b94c61a208a2086c", func := "scriptory/scriptorylaw12.LeastSame", spec := "leastSame", unfollowed := true, recurses := true, apart := false, narrowed := true }
def LeastSameUptoSaid : Prop := leastSameUptoRow.holds Try.pinned (OpenSpec.upto leastSameSpec)

/-- 'scriptorylaw12.LeastParts', WHERE WHAT IT READS IS OF BULK AT MOST 1048576: true; the input reads as it did. -/
def leastPartsUptoRow : OpenClaim := { program := "ytnnojemckfikfaa", sum := "0c5ce1a9ce1e200ff961150a548f64dc4d62505d8e6038e2b94c61a208a2086c", func := "scriptory/scriptorylaw12.LeastParts", spec := "leastParts", unfollowed := true, recurses := true, apart := false, narrowed := true }
def LeastPartsUptoSaid : Prop := leastPartsUptoRow.holds Try.pinned (OpenSpec.upto leastPartsSpec)

/-- 'scriptorylaw12.LeastFlip', WHERE WHAT IT READS IS OF BULK AT MOST 1048576: true; the input reads as it did. -/
def leastFlipUptoRow : OpenClaim := { program := "ytnnojemckfikfaa", sum := "0c5ce1a9ce1e200ff961150a548f64dc4d62505d8e6038e2b94c61a208a2086c", func := "scriptory/scriptorylaw12.LeastFlip", spec := "leastFlip", unfollowed := true, recurses := true, apart := false, narrowed := true }
def LeastFlipUptoSaid : Prop := leastFlipUptoRow.holds Try.pinned (OpenSpec.upto leastFlipSpec)

end Rows
end Go.Proofs.Ytnnojemckfikfaa
