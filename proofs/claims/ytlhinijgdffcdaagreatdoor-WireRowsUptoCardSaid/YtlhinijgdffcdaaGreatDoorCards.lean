/-
  DERIVED. GIVEN WITH THE SEED: THE CARDS: each row of YtlhinijgdffcdaaGreatDoorRows.lean that lists a variable, with what it lists TIED to the program's text (the seventh form; the later family's looks); each row that meets fmt, with fmt's text TOLD by the authors' own Lean function (tested against real Go, not proved from fmt's source: count such statements apart). THE CARD IS WHAT COUNTS. Prove the row's statement (the work); the ties are given (YtlhinijgdffcdaaGreatDoorTie.lean); close each card by the builder's one call (the guide's Derived/Test/ToyasCard.lean, 'card_holds'). Laid BY PROGRAM, IN A SANDBOX (cutbox-door.mjs). By AI agents, Wed Nov 11 2026. No macro, syntax, notation, axiom, sorry.
-/
import Derived.Test.YtlhinijgdffcdaaGreatDoorRows
import GoSem.ClaimSeven
namespace Go.Proofs.YtlhinijgdffcdaaGreatDoor
namespace Rows

/-- THE TIED CARD OF 'scriptorylaw29.WireRows'. -/
def wireRowsCard : Claim7 := { stood := { row := wireRowsRow, standIns := [], harness := (true, "edb3c2baf03a86ed666a81a919b87306ea42b1167499453c6c9f9d22e64d8bdf"), looks := true }, kinds := [], alts := [], laidByText := true, laidKinds := [.handle], laidTests := true, laidLooks := .later }
def WireRowsCardSaid : Prop := Claim7.holds Tryz.pinned (.plain (OpenSpec.ofChange wireRowsSpec)) wireRowsCard

/-- THE SECOND FORM's CARD OF 'scriptorylaw29.WireRows'. -/
def wireRowsUptoCard : Claim7 := { stood := { row := wireRowsUptoRow, standIns := [], harness := (true, "edb3c2baf03a86ed666a81a919b87306ea42b1167499453c6c9f9d22e64d8bdf"), looks := true }, kinds := [], alts := [], laidByText := true, laidKinds := [.handle], laidTests := true, laidLooks := .later }
def WireRowsUptoCardSaid : Prop := Claim7.holds Tryz.pinned (.plain (OpenSpec.upto wireRowsSpec)) wireRowsUptoCard
end Rows
end Go.Proofs.YtlhinijgdffcdaaGreatDoor
