/-
  No cell of these rows narrows 'for every input' (looked for: loops, veiled, ifaces, maps, wideKeys, modest, calm, conditions, laid).
  DERIVED. THE GIVEN ROWS OF THIS SEAT. 4 by the template 'for every input the law returns true; each argument reads behind the call as it read before'; 0 by the template 'total and deterministic' (their statements: YtepemhpippkmiaaTotals.lean).
  GIVEN WITH THE SEED: the statements are not yours to turn. If you find one false, say at which input.
  Laid BY PROGRAM, IN A SANDBOX (cutbox-rows.mjs): the forced cells as the released guide's own fill.sh prints them over the translation eaf449167e24ee0f… (all of the seat's roots in one cut). By AI agents, Wed Nov 11 2026. No macro, syntax, notation, axiom, sorry.
-/
import Derived.Test.YtepemhpippkmiaaChecked
import GoSem.Claim
import GoSem.ClaimJoined
import GoSem.ClaimMapViews
import Derived.JoinedTies
import Derived.KernelRfl
namespace Go.Proofs.Ytepemhpippkmiaa
/- THE CELL 'sum', in the pinned program and in every row, IS THE sha256 OF THE DUMP (.gsa) THAT YtepemhpippkmiaaProg.lean LOADS. Nothing in Lean hashes anything: it is a label: what it is worth is what the hold of that sum in a sandbox is worth. -/
noncomputable def Try.pinned : Pinned := { name := "ytepemhpippkmiaa", sum := "eaf449167e24ee0fbad7369581ec49de29f8cc2d0c053fbbb5c3be37847683e5", checked := Try.checked }
namespace Rows
def none {H : Type} : Left H := { results := [], args := [] }

/-- 'scriptorylaw11.MachineMade': WHATEVER THE INPUT: true; the input reads as it did. -/
def machineMadeSpec : ChangeSpec := { name := "machineMade", fn := fun _ => fun
  | [d1, d2, d3, d4] => { results := [.lit (.bool true)], args := [d1, d2, d3, d4] }
  | _ => none }
def machineMadeRow : OpenClaim := { program := "ytepemhpippkmiaa", sum := "eaf449167e24ee0fbad7369581ec49de29f8cc2d0c053fbbb5c3be37847683e5", func := "scriptory/scriptorylaw11.MachineMade", spec := "machineMade", unfollowed := true, recurses := true, apart := false }
def MachineMadeSaid : Prop := machineMadeRow.holds Try.pinned (OpenSpec.ofChange machineMadeSpec)

/-- ITS FALSE NEIGHBOUR: 'it returns false'. Refute it at one input. -/
def machineMadeWrong : ChangeSpec := { name := "machineMade", fn := fun _ => fun
  | [d1, d2, d3, d4] => { results := [.lit (.bool false)], args := [d1, d2, d3, d4] }
  | _ => none }
def MachineMadeWrongFalsely : Prop := machineMadeRow.holds Try.pinned (OpenSpec.ofChange machineMadeWrong)

/-- 'scriptorylaw11.MachineGoes': WHATEVER THE INPUT: true; the input reads as it did. -/
def machineGoesSpec : ChangeSpec := { name := "machineGoes", fn := fun _ => fun
  | [d1, d2, d3, d4, d5, d6] => { results := [.lit (.bool true)], args := [d1, d2, d3, d4, d5, d6] }
  | _ => none }
def machineGoesRow : OpenClaim := { program := "ytepemhpippkmiaa", sum := "eaf449167e24ee0fbad7369581ec49de29f8cc2d0c053fbbb5c3be37847683e5", func := "scriptory/scriptorylaw11.MachineGoes", spec := "machineGoes", unfollowed := true, recurses := true, apart := false }
def MachineGoesSaid : Prop := machineGoesRow.holds Try.pinned (OpenSpec.ofChange machineGoesSpec)

/-- ITS FALSE NEIGHBOUR: 'it returns false'. Refute it at one input. -/
def machineGoesWrong : ChangeSpec := { name := "machineGoes", fn := fun _ => fun
  | [d1, d2, d3, d4, d5, d6] => { results := [.lit (.bool false)], args := [d1, d2, d3, d4, d5, d6] }
  | _ => none }
def MachineGoesWrongFalsely : Prop := machineGoesRow.holds Try.pinned (OpenSpec.ofChange machineGoesWrong)

/-- 'scriptorylaw11.MachineFlips': WHATEVER THE INPUT: true; the input reads as it did. -/
def machineFlipsSpec : ChangeSpec := { name := "machineFlips", fn := fun _ => fun
  | [d1, d2, d3] => { results := [.lit (.bool true)], args := [d1, d2, d3] }
  | _ => none }
def machineFlipsRow : OpenClaim := { program := "ytepemhpippkmiaa", sum := "eaf449167e24ee0fbad7369581ec49de29f8cc2d0c053fbbb5c3be37847683e5", func := "scriptory/scriptorylaw11.MachineFlips", spec := "machineFlips", unfollowed := true, recurses := true, apart := false }
def MachineFlipsSaid : Prop := machineFlipsRow.holds Try.pinned (OpenSpec.ofChange machineFlipsSpec)

/-- ITS FALSE NEIGHBOUR: 'it returns false'. Refute it at one input. -/
def machineFlipsWrong : ChangeSpec := { name := "machineFlips", fn := fun _ => fun
  | [d1, d2, d3] => { results := [.lit (.bool false)], args := [d1, d2, d3] }
  | _ => none }
def MachineFlipsWrongFalsely : Prop := machineFlipsRow.holds Try.pinned (OpenSpec.ofChange machineFlipsWrong)

/-- 'scriptorylaw11.MachineSpoilt': WHATEVER THE INPUT: true; the input reads as it did. -/
def machineSpoiltSpec : ChangeSpec := { name := "machineSpoilt", fn := fun _ => fun
  | [d1, d2, d3, d4, d5] => { results := [.lit (.bool true)], args := [d1, d2, d3, d4, d5] }
  | _ => none }
def machineSpoiltRow : OpenClaim := { program := "ytepemhpippkmiaa", sum := "eaf449167e24ee0fbad7369581ec49de29f8cc2d0c053fbbb5c3be37847683e5", func := "scriptory/scriptorylaw11.MachineSpoilt", spec := "machineSpoilt", unfollowed := true, recurses := true, apart := false }
def MachineSpoiltSaid : Prop := machineSpoiltRow.holds Try.pinned (OpenSpec.ofChange machineSpoiltSpec)

/-- ITS FALSE NEIGHBOUR: 'it returns false'. Refute it at one input. -/
def machineSpoiltWrong : ChangeSpec := { name := "machineSpoilt", fn := fun _ => fun
  | [d1, d2, d3, d4, d5] => { results := [.lit (.bool false)], args := [d1, d2, d3, d4, d5] }
  | _ => none }
def MachineSpoiltWrongFalsely : Prop := machineSpoiltRow.holds Try.pinned (OpenSpec.ofChange machineSpoiltWrong)

/- THE SECOND FORM. 'bulk': how many values and letters a reading holds, each counted each time it is reached (what is shared counts as often as it is met; a slice's spare places count too). A statement '..UptoSaid' is the law's where the arguments, and the package variables that the reading takes, are together of bulk at most 1048576: NARROWER than '..Said'. Prove '..Said' where nothing that the law and all that it calls make is longer than what came in: it says more and counts as full. Else prove '..UptoSaid'. A law counts once. -/
mutual
def uptoBulk {H : Type} : DataW H → Nat
  | .lit (.string bytes) => bytes.length + 1
  | .lit _ => 1
  | .nil => 1
  | .ptr d => uptoBulk d + 1
  | .slice elems spare => uptoBulkAll elems + uptoBulkAll spare + 1
  | .agg parts => uptoBulkAll parts + 1
  | .iface _ d => uptoBulk d + 1
  | .map entries => uptoBulkEntries entries + 1
  | .held _ => 1
def uptoBulkAll {H : Type} : List (DataW H) → Nat
  | [] => 0
  | d :: r => uptoBulk d + uptoBulkAll r
def uptoBulkEntries {H : Type} : List (Lit × DataW H) → Nat
  | [] => 0
  | x :: r => uptoBulkEntry x + uptoBulkEntries r
def uptoBulkEntry {H : Type} : Lit × DataW H → Nat
  | (.string bytes, d) => bytes.length + uptoBulk d + 1
  | (_, d) => uptoBulk d + 1
 end
def uptoSmall : (H : Type) → List (DataW H) → Bool := fun _ ds => decide (uptoBulkAll ds ≤ 1048576)
def OpenSpec.upto (s : _root_.Go.ChangeSpec) : _root_.Go.OpenSpec := { _root_.Go.OpenSpec.ofChange s with cond := some uptoSmall }

/-- 'scriptorylaw11.MachineMade', WHERE WHAT IT READS IS OF BULK AT MOST 1048576: true; the input reads as it did. -/
def machineMadeUptoRow : OpenClaim := { program := "ytepemhpippkmiaa", sum := "eaf449167e24ee0fbad7369581ec49de29f8cc2d0c053fbbb5c3be37847683e5", func := "scriptory/scriptorylaw11.MachineMade", spec := "machineMade", unfollowed := true, recurses := true, apart := false, narrowed := true }
def MachineMadeUptoSaid : Prop := machineMadeUptoRow.holds Try.pinned (OpenSpec.upto machineMadeSpec)

/-- 'scriptorylaw11.MachineGoes', WHERE WHAT IT READS IS OF BULK AT MOST 1048576: true; the input reads as it did. -/
def machineGoesUptoRow : OpenClaim := { program := "ytepemhpippkmiaa", sum := "eaf449167e24ee0fbad7369581ec49de29f8cc2d0c053fbbb5c3be37847683e5", func := "scriptory/scriptorylaw11.MachineGoes", spec := "machineGoes", unfollowed := true, recurses := true, apart := false, narrowed := true }
def MachineGoesUptoSaid : Prop := machineGoesUptoRow.holds Try.pinned (OpenSpec.upto machineGoesSpec)

/-- 'scriptorylaw11.MachineFlips', WHERE WHAT IT READS IS OF BULK AT MOST 1048576: true; the input reads as it did. -/
def machineFlipsUptoRow : OpenClaim := { program := "ytepemhpippkmiaa", sum := "eaf449167e24ee0fbad7369581ec49de29f8cc2d0c053fbbb5c3be37847683e5", func := "scriptory/scriptorylaw11.MachineFlips", spec := "machineFlips", unfollowed := true, recurses := true, apart := false, narrowed := true }
def MachineFlipsUptoSaid : Prop := machineFlipsUptoRow.holds Try.pinned (OpenSpec.upto machineFlipsSpec)

/-- 'scriptorylaw11.MachineSpoilt', WHERE WHAT IT READS IS OF BULK AT MOST 1048576: true; the input reads as it did. -/
def machineSpoiltUptoRow : OpenClaim := { program := "ytepemhpippkmiaa", sum := "eaf449167e24ee0fbad7369581ec49de29f8cc2d0c053fbbb5c3be37847683e5", func := "scriptory/scriptorylaw11.MachineSpoilt", spec := "machineSpoilt", unfollowed := true, recurses := true, apart := false, narrowed := true }
def MachineSpoiltUptoSaid : Prop := machineSpoiltUptoRow.holds Try.pinned (OpenSpec.upto machineSpoiltSpec)

end Rows
end Go.Proofs.Ytepemhpippkmiaa
