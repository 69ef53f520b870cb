/-
  DERIVED. GIVEN WITH THE SEED: THE CARDS: each row of YtcdebcnmbkmibaaDoorRows.lean that lists a variable, with what it lists TIED to the program's text (the seventh form; the later family's looks); each row that meets fmt, with fmt's text TOLD by the authors' own Lean function (tested against real Go, not proved from fmt's source: count such statements apart). THE CARD IS WHAT COUNTS. Prove the row's statement (the work); the ties are given (YtcdebcnmbkmibaaDoorTie.lean); close each card by the builder's one call (the guide's Derived/Test/ToyasCard.lean, 'card_holds'). Laid BY PROGRAM, IN A SANDBOX (cutbox-door.mjs). By AI agents, Wed Nov 11 2026. No macro, syntax, notation, axiom, sorry.
-/
import Derived.Test.YtcdebcnmbkmibaaDoorRows
import GoSem.ClaimSeven
namespace Go.Proofs.YtcdebcnmbkmibaaDoor
namespace Rows

/-- THE TIED CARD OF 'scriptorylaw4.SetAll'. -/
def setAllCard : Claim7 := { stood := { row := setAllRow, standIns := [], harness := (true, "cfebc19b424980f42ce39d63ca421072ea289fa95c02e3e86e2a0c3c7b0ae019"), looks := false }, kinds := [], alts := [], laidByText := true, laidKinds := [.data], laidTests := true, laidLooks := .later }
def SetAllCardSaid : Prop := Claim7.holds Tryd.pinned (.plain (OpenSpec.ofChange setAllSpec)) setAllCard

/-- THE TIED CARD OF 'scriptorylaw4.SetParts'. -/
def setPartsCard : Claim7 := { stood := { row := setPartsRow, standIns := [], harness := (true, "cfebc19b424980f42ce39d63ca421072ea289fa95c02e3e86e2a0c3c7b0ae019"), looks := false }, kinds := [], alts := [], laidByText := true, laidKinds := [.data], laidTests := true, laidLooks := .later }
def SetPartsCardSaid : Prop := Claim7.holds Tryd.pinned (.plain (OpenSpec.ofChange setPartsSpec)) setPartsCard

/-- THE TIED CARD OF 'scriptorylaw4.SetLaws'. -/
def setLawsCard : Claim7 := { stood := { row := setLawsRow, standIns := [], harness := (true, "cfebc19b424980f42ce39d63ca421072ea289fa95c02e3e86e2a0c3c7b0ae019"), looks := false }, kinds := [], alts := [], laidByText := true, laidKinds := [.data], laidTests := true, laidLooks := .later }
def SetLawsCardSaid : Prop := Claim7.holds Tryd.pinned (.plain (OpenSpec.ofChange setLawsSpec)) setLawsCard

/-- THE TIED CARD OF 'scriptorylaw4.SetWhole'. -/
def setWholeCard : Claim7 := { stood := { row := setWholeRow, standIns := [], harness := (true, "cfebc19b424980f42ce39d63ca421072ea289fa95c02e3e86e2a0c3c7b0ae019"), looks := false }, kinds := [], alts := [], laidByText := true, laidKinds := [.data], laidTests := true, laidLooks := .later }
def SetWholeCardSaid : Prop := Claim7.holds Tryd.pinned (.plain (OpenSpec.ofChange setWholeSpec)) setWholeCard

/-- THE TIED CARD OF 'scriptorylaw4.SetRanges'. -/
def setRangesCard : Claim7 := { stood := { row := setRangesRow, standIns := [], harness := (true, "cfebc19b424980f42ce39d63ca421072ea289fa95c02e3e86e2a0c3c7b0ae019"), looks := false }, kinds := [], alts := [], laidByText := true, laidKinds := [.data], laidTests := true, laidLooks := .later }
def SetRangesCardSaid : Prop := Claim7.holds Tryd.pinned (.plain (OpenSpec.ofChange setRangesSpec)) setRangesCard

/-- THE TIED CARD OF 'scriptorylaw4.SetFirst'. -/
def setFirstCard : Claim7 := { stood := { row := setFirstRow, standIns := [], harness := (true, "cfebc19b424980f42ce39d63ca421072ea289fa95c02e3e86e2a0c3c7b0ae019"), looks := false }, kinds := [], alts := [], laidByText := true, laidKinds := [.data], laidTests := true, laidLooks := .later }
def SetFirstCardSaid : Prop := Claim7.holds Tryd.pinned (.plain (OpenSpec.ofChange setFirstSpec)) setFirstCard

/-- THE TIED CARD OF 'scriptorylaw4.SetCoarse'. -/
def setCoarseCard : Claim7 := { stood := { row := setCoarseRow, standIns := [], harness := (true, "cfebc19b424980f42ce39d63ca421072ea289fa95c02e3e86e2a0c3c7b0ae019"), looks := false }, kinds := [], alts := [], laidByText := true, laidKinds := [.data], laidTests := true, laidLooks := .later }
def SetCoarseCardSaid : Prop := Claim7.holds Tryd.pinned (.plain (OpenSpec.ofChange setCoarseSpec)) setCoarseCard

/-- THE SECOND FORM's CARD OF 'scriptorylaw4.SetAll'. -/
def setAllUptoCard : Claim7 := { stood := { row := setAllUptoRow, standIns := [], harness := (true, "cfebc19b424980f42ce39d63ca421072ea289fa95c02e3e86e2a0c3c7b0ae019"), looks := false }, kinds := [], alts := [], laidByText := true, laidKinds := [.data], laidTests := true, laidLooks := .later }
def SetAllUptoCardSaid : Prop := Claim7.holds Tryd.pinned (.plain (OpenSpec.upto setAllSpec)) setAllUptoCard

/-- THE SECOND FORM's CARD OF 'scriptorylaw4.SetParts'. -/
def setPartsUptoCard : Claim7 := { stood := { row := setPartsUptoRow, standIns := [], harness := (true, "cfebc19b424980f42ce39d63ca421072ea289fa95c02e3e86e2a0c3c7b0ae019"), looks := false }, kinds := [], alts := [], laidByText := true, laidKinds := [.data], laidTests := true, laidLooks := .later }
def SetPartsUptoCardSaid : Prop := Claim7.holds Tryd.pinned (.plain (OpenSpec.upto setPartsSpec)) setPartsUptoCard

/-- THE SECOND FORM's CARD OF 'scriptorylaw4.SetLaws'. -/
def setLawsUptoCard : Claim7 := { stood := { row := setLawsUptoRow, standIns := [], harness := (true, "cfebc19b424980f42ce39d63ca421072ea289fa95c02e3e86e2a0c3c7b0ae019"), looks := false }, kinds := [], alts := [], laidByText := true, laidKinds := [.data], laidTests := true, laidLooks := .later }
def SetLawsUptoCardSaid : Prop := Claim7.holds Tryd.pinned (.plain (OpenSpec.upto setLawsSpec)) setLawsUptoCard

/-- THE SECOND FORM's CARD OF 'scriptorylaw4.SetWhole'. -/
def setWholeUptoCard : Claim7 := { stood := { row := setWholeUptoRow, standIns := [], harness := (true, "cfebc19b424980f42ce39d63ca421072ea289fa95c02e3e86e2a0c3c7b0ae019"), looks := false }, kinds := [], alts := [], laidByText := true, laidKinds := [.data], laidTests := true, laidLooks := .later }
def SetWholeUptoCardSaid : Prop := Claim7.holds Tryd.pinned (.plain (OpenSpec.upto setWholeSpec)) setWholeUptoCard

/-- THE SECOND FORM's CARD OF 'scriptorylaw4.SetRanges'. -/
def setRangesUptoCard : Claim7 := { stood := { row := setRangesUptoRow, standIns := [], harness := (true, "cfebc19b424980f42ce39d63ca421072ea289fa95c02e3e86e2a0c3c7b0ae019"), looks := false }, kinds := [], alts := [], laidByText := true, laidKinds := [.data], laidTests := true, laidLooks := .later }
def SetRangesUptoCardSaid : Prop := Claim7.holds Tryd.pinned (.plain (OpenSpec.upto setRangesSpec)) setRangesUptoCard

/-- THE SECOND FORM's CARD OF 'scriptorylaw4.SetFirst'. -/
def setFirstUptoCard : Claim7 := { stood := { row := setFirstUptoRow, standIns := [], harness := (true, "cfebc19b424980f42ce39d63ca421072ea289fa95c02e3e86e2a0c3c7b0ae019"), looks := false }, kinds := [], alts := [], laidByText := true, laidKinds := [.data], laidTests := true, laidLooks := .later }
def SetFirstUptoCardSaid : Prop := Claim7.holds Tryd.pinned (.plain (OpenSpec.upto setFirstSpec)) setFirstUptoCard

/-- THE SECOND FORM's CARD OF 'scriptorylaw4.SetCoarse'. -/
def setCoarseUptoCard : Claim7 := { stood := { row := setCoarseUptoRow, standIns := [], harness := (true, "cfebc19b424980f42ce39d63ca421072ea289fa95c02e3e86e2a0c3c7b0ae019"), looks := false }, kinds := [], alts := [], laidByText := true, laidKinds := [.data], laidTests := true, laidLooks := .later }
def SetCoarseUptoCardSaid : Prop := Claim7.holds Tryd.pinned (.plain (OpenSpec.upto setCoarseSpec)) setCoarseUptoCard
end Rows
end Go.Proofs.YtcdebcnmbkmibaaDoor
