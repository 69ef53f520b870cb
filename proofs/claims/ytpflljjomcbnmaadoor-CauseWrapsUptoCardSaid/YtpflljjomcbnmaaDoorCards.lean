/-
  DERIVED. GIVEN WITH THE SEED: THE CARDS: each row of YtpflljjomcbnmaaDoorRows.lean that lists a variable, with what it lists TIED to the program's text (the seventh form; the later family's looks); each row that meets fmt, with fmt's text TOLD by the authors' own Lean function (tested against real Go, not proved from fmt's source: count such statements apart). THE CARD IS WHAT COUNTS. Prove the row's statement (the work); the ties are given (YtpflljjomcbnmaaDoorTie.lean); close each card by the builder's one call (the guide's Derived/Test/ToyasCard.lean, 'card_holds'). Laid BY PROGRAM, IN A SANDBOX (cutbox-door.mjs). By AI agents, Wed Nov 11 2026. No macro, syntax, notation, axiom, sorry.
-/
import Derived.Test.YtpflljjomcbnmaaDoorRows
import GoSem.ClaimSeven
namespace Go.Proofs.YtpflljjomcbnmaaDoor
namespace Rows

/-- THE TIED CARD OF 'scriptorylaw2.CauseAll'. -/
def causeAllCard : Claim7 := { stood := { row := causeAllRow, standIns := [], harness := (true, "fcaf062328b09518a8010f929a31fc89f3a2305b8345c36b8317eba8e760d700"), looks := true }, kinds := [], alts := [], laidByText := true, laidKinds := [.handle], laidTests := true, laidLooks := .later }
def CauseAllCardSaid : Prop := Claim7.holds Tryd.pinned (.plain (OpenSpec.ofChange causeAllSpec)) causeAllCard

/-- THE TIED CARD OF 'scriptorylaw2.CauseWraps'. -/
def causeWrapsCard : Claim7 := { stood := { row := causeWrapsRow, standIns := [], harness := (true, "fcaf062328b09518a8010f929a31fc89f3a2305b8345c36b8317eba8e760d700"), looks := true }, kinds := [], alts := [], laidByText := true, laidKinds := [.handle], laidTests := true, laidLooks := .later }
def CauseWrapsCardSaid : Prop := Claim7.holds Tryd.pinned (.plain (OpenSpec.ofChange causeWrapsSpec)) causeWrapsCard

/-- THE TIED CARD OF 'scriptorylaw2.CauseCodes'. -/
def causeCodesCard : Claim7 := { stood := { row := causeCodesRow, standIns := [], harness := (true, "fcaf062328b09518a8010f929a31fc89f3a2305b8345c36b8317eba8e760d700"), looks := true }, kinds := [], alts := [], laidByText := true, laidKinds := [.handle], laidTests := true, laidLooks := .later }
def CauseCodesCardSaid : Prop := Claim7.holds Tryd.pinned (.plain (OpenSpec.ofChange causeCodesSpec)) causeCodesCard

/-- THE TIED CARD OF 'scriptorylaw2.CausePlaces'. -/
def causePlacesCard : Claim7 := { stood := { row := causePlacesRow, standIns := [], harness := (true, "fcaf062328b09518a8010f929a31fc89f3a2305b8345c36b8317eba8e760d700"), looks := true }, kinds := [], alts := [], laidByText := true, laidKinds := [.handle], laidTests := true, laidLooks := .later }
def CausePlacesCardSaid : Prop := Claim7.holds Tryd.pinned (.plain (OpenSpec.ofChange causePlacesSpec)) causePlacesCard

/-- THE SECOND FORM's CARD OF 'scriptorylaw2.CauseAll'. -/
def causeAllUptoCard : Claim7 := { stood := { row := causeAllUptoRow, standIns := [], harness := (true, "fcaf062328b09518a8010f929a31fc89f3a2305b8345c36b8317eba8e760d700"), looks := true }, kinds := [], alts := [], laidByText := true, laidKinds := [.handle], laidTests := true, laidLooks := .later }
def CauseAllUptoCardSaid : Prop := Claim7.holds Tryd.pinned (.plain (OpenSpec.upto causeAllSpec)) causeAllUptoCard

/-- THE SECOND FORM's CARD OF 'scriptorylaw2.CauseWraps'. -/
def causeWrapsUptoCard : Claim7 := { stood := { row := causeWrapsUptoRow, standIns := [], harness := (true, "fcaf062328b09518a8010f929a31fc89f3a2305b8345c36b8317eba8e760d700"), looks := true }, kinds := [], alts := [], laidByText := true, laidKinds := [.handle], laidTests := true, laidLooks := .later }
def CauseWrapsUptoCardSaid : Prop := Claim7.holds Tryd.pinned (.plain (OpenSpec.upto causeWrapsSpec)) causeWrapsUptoCard

/-- THE SECOND FORM's CARD OF 'scriptorylaw2.CauseCodes'. -/
def causeCodesUptoCard : Claim7 := { stood := { row := causeCodesUptoRow, standIns := [], harness := (true, "fcaf062328b09518a8010f929a31fc89f3a2305b8345c36b8317eba8e760d700"), looks := true }, kinds := [], alts := [], laidByText := true, laidKinds := [.handle], laidTests := true, laidLooks := .later }
def CauseCodesUptoCardSaid : Prop := Claim7.holds Tryd.pinned (.plain (OpenSpec.upto causeCodesSpec)) causeCodesUptoCard

/-- THE SECOND FORM's CARD OF 'scriptorylaw2.CausePlaces'. -/
def causePlacesUptoCard : Claim7 := { stood := { row := causePlacesUptoRow, standIns := [], harness := (true, "fcaf062328b09518a8010f929a31fc89f3a2305b8345c36b8317eba8e760d700"), looks := true }, kinds := [], alts := [], laidByText := true, laidKinds := [.handle], laidTests := true, laidLooks := .later }
def CausePlacesUptoCardSaid : Prop := Claim7.holds Tryd.pinned (.plain (OpenSpec.upto causePlacesSpec)) causePlacesUptoCard
end Rows
end Go.Proofs.YtpflljjomcbnmaaDoor
