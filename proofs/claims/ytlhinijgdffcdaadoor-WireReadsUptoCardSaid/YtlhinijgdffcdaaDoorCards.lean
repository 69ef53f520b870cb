/-
  DERIVED. GIVEN WITH THE SEED: THE CARDS: each row of YtlhinijgdffcdaaDoorRows.lean that lists a variable, with what it lists TIED to the program's text (the seventh form; the later family's looks); each row that meets fmt, with fmt's text TOLD by the authors' own Lean function (tested against real Go, not proved from fmt's source: count such statements apart). THE CARD IS WHAT COUNTS. Prove the row's statement (the work); the ties are given (YtlhinijgdffcdaaDoorTie.lean); close each card by the builder's one call (the guide's Derived/Test/ToyasCard.lean, 'card_holds'). Laid BY PROGRAM, IN A SANDBOX (cutbox-door.mjs). By AI agents, Wed Nov 11 2026. No macro, syntax, notation, axiom, sorry.
-/
import Derived.Test.YtlhinijgdffcdaaDoorRows
import GoSem.ClaimSeven
namespace Go.Proofs.YtlhinijgdffcdaaDoor
namespace Rows

/-- THE TIED CARD OF 'scriptorylaw29.WireWrites'. -/
def wireWritesCard : Claim7 := { stood := { row := wireWritesRow, standIns := [], harness := (true, "98647959cdf04a49652ba4b97dc3bc2eefb1dcfc3b7c9fa08d97efcef9034351"), looks := true }, kinds := [], alts := [], laidByText := true, laidKinds := [.handle], laidTests := true, laidLooks := .later }
def WireWritesCardSaid : Prop := Claim7.holds Tryd.pinned (.plain (OpenSpec.ofChange wireWritesSpec)) wireWritesCard

/-- THE TIED CARD OF 'scriptorylaw29.WireReads'. -/
def wireReadsCard : Claim7 := { stood := { row := wireReadsRow, standIns := [], harness := (true, "98647959cdf04a49652ba4b97dc3bc2eefb1dcfc3b7c9fa08d97efcef9034351"), looks := true }, kinds := [], alts := [], laidByText := true, laidKinds := [.handle], laidTests := true, laidLooks := .later }
def WireReadsCardSaid : Prop := Claim7.holds Tryd.pinned (.plain (OpenSpec.ofChange wireReadsSpec)) wireReadsCard

/-- THE TIED CARD OF 'scriptorylaw29.WireBack'. -/
def wireBackCard : Claim7 := { stood := { row := wireBackRow, standIns := [], harness := (true, "98647959cdf04a49652ba4b97dc3bc2eefb1dcfc3b7c9fa08d97efcef9034351"), looks := true }, kinds := [], alts := [], laidByText := true, laidKinds := [.handle], laidTests := true, laidLooks := .later }
def WireBackCardSaid : Prop := Claim7.holds Tryd.pinned (.plain (OpenSpec.ofChange wireBackSpec)) wireBackCard

/-- THE TIED CARD OF 'scriptorylaw29.WireOnly'. -/
def wireOnlyCard : Claim7 := { stood := { row := wireOnlyRow, standIns := [], harness := (true, "98647959cdf04a49652ba4b97dc3bc2eefb1dcfc3b7c9fa08d97efcef9034351"), looks := true }, kinds := [], alts := [], laidByText := true, laidKinds := [.handle], laidTests := true, laidLooks := .later }
def WireOnlyCardSaid : Prop := Claim7.holds Tryd.pinned (.plain (OpenSpec.ofChange wireOnlySpec)) wireOnlyCard

/-- THE TIED CARD OF 'scriptorylaw29.WireFields'. -/
def wireFieldsCard : Claim7 := { stood := { row := wireFieldsRow, standIns := [], harness := (true, "98647959cdf04a49652ba4b97dc3bc2eefb1dcfc3b7c9fa08d97efcef9034351"), looks := true }, kinds := [], alts := [], laidByText := true, laidKinds := [.handle], laidTests := true, laidLooks := .later }
def WireFieldsCardSaid : Prop := Claim7.holds Tryd.pinned (.plain (OpenSpec.ofChange wireFieldsSpec)) wireFieldsCard

/-- THE SECOND FORM's CARD OF 'scriptorylaw29.WireWrites'. -/
def wireWritesUptoCard : Claim7 := { stood := { row := wireWritesUptoRow, standIns := [], harness := (true, "98647959cdf04a49652ba4b97dc3bc2eefb1dcfc3b7c9fa08d97efcef9034351"), looks := true }, kinds := [], alts := [], laidByText := true, laidKinds := [.handle], laidTests := true, laidLooks := .later }
def WireWritesUptoCardSaid : Prop := Claim7.holds Tryd.pinned (.plain (OpenSpec.upto wireWritesSpec)) wireWritesUptoCard

/-- THE SECOND FORM's CARD OF 'scriptorylaw29.WireReads'. -/
def wireReadsUptoCard : Claim7 := { stood := { row := wireReadsUptoRow, standIns := [], harness := (true, "98647959cdf04a49652ba4b97dc3bc2eefb1dcfc3b7c9fa08d97efcef9034351"), looks := true }, kinds := [], alts := [], laidByText := true, laidKinds := [.handle], laidTests := true, laidLooks := .later }
def WireReadsUptoCardSaid : Prop := Claim7.holds Tryd.pinned (.plain (OpenSpec.upto wireReadsSpec)) wireReadsUptoCard

/-- THE SECOND FORM's CARD OF 'scriptorylaw29.WireBack'. -/
def wireBackUptoCard : Claim7 := { stood := { row := wireBackUptoRow, standIns := [], harness := (true, "98647959cdf04a49652ba4b97dc3bc2eefb1dcfc3b7c9fa08d97efcef9034351"), looks := true }, kinds := [], alts := [], laidByText := true, laidKinds := [.handle], laidTests := true, laidLooks := .later }
def WireBackUptoCardSaid : Prop := Claim7.holds Tryd.pinned (.plain (OpenSpec.upto wireBackSpec)) wireBackUptoCard

/-- THE SECOND FORM's CARD OF 'scriptorylaw29.WireOnly'. -/
def wireOnlyUptoCard : Claim7 := { stood := { row := wireOnlyUptoRow, standIns := [], harness := (true, "98647959cdf04a49652ba4b97dc3bc2eefb1dcfc3b7c9fa08d97efcef9034351"), looks := true }, kinds := [], alts := [], laidByText := true, laidKinds := [.handle], laidTests := true, laidLooks := .later }
def WireOnlyUptoCardSaid : Prop := Claim7.holds Tryd.pinned (.plain (OpenSpec.upto wireOnlySpec)) wireOnlyUptoCard

/-- THE SECOND FORM's CARD OF 'scriptorylaw29.WireFields'. -/
def wireFieldsUptoCard : Claim7 := { stood := { row := wireFieldsUptoRow, standIns := [], harness := (true, "98647959cdf04a49652ba4b97dc3bc2eefb1dcfc3b7c9fa08d97efcef9034351"), looks := true }, kinds := [], alts := [], laidByText := true, laidKinds := [.handle], laidTests := true, laidLooks := .later }
def WireFieldsUptoCardSaid : Prop := Claim7.holds Tryd.pinned (.plain (OpenSpec.upto wireFieldsSpec)) wireFieldsUptoCard
end Rows
end Go.Proofs.YtlhinijgdffcdaaDoor
