/-
  DERIVED. GIVEN WITH THE SEED: THE CARDS: each row of YtlihheeknnnbmaaDoorRows.lean that lists a variable, with what it lists TIED to the program's text (the seventh form; the later family's looks); each row that meets fmt, with fmt's text TOLD by the authors' own Lean function (tested against real Go, not proved from fmt's source: count such statements apart). THE CARD IS WHAT COUNTS. Prove the row's statement (the work); the ties are given (YtlihheeknnnbmaaDoorTie.lean); close each card by the builder's one call (the guide's Derived/Test/ToyasCard.lean, 'card_holds'). Laid BY PROGRAM, IN A SANDBOX (cutbox-door.mjs). By AI agents, Wed Nov 11 2026. No macro, syntax, notation, axiom, sorry.
-/
import Derived.Test.YtlihheeknnnbmaaDoorRows
import GoSem.ClaimSeven
namespace Go.Proofs.YtlihheeknnnbmaaDoor
namespace Rows

/-- THE TIED CARD OF 'scriptorylaw7.ShowAll'. -/
def showAllCard : Claim7 := { stood := { row := showAllRow, standIns := [], harness := (true, "8eda827a14ab5debb62642ddda4df560879001fd87cb70858743d3155c713220"), looks := false }, kinds := [], alts := [], laidByText := true, laidKinds := [.data], laidTests := true, laidLooks := .later }
def ShowAllCardSaid : Prop := Claim7.holds Tryd.pinned (.plain (OpenSpec.ofChange showAllSpec)) showAllCard

/-- THE TIED CARD OF 'scriptorylaw7.ShowMade'. -/
def showMadeCard : Claim7 := { stood := { row := showMadeRow, standIns := [], harness := (true, "8eda827a14ab5debb62642ddda4df560879001fd87cb70858743d3155c713220"), looks := false }, kinds := [], alts := [], laidByText := true, laidKinds := [.data], laidTests := true, laidLooks := .later }
def ShowMadeCardSaid : Prop := Claim7.holds Tryd.pinned (.plain (OpenSpec.ofChange showMadeSpec)) showMadeCard

/-- THE TIED CARD OF 'scriptorylaw7.ShowBack'. -/
def showBackCard : Claim7 := { stood := { row := showBackRow, standIns := [], harness := (true, "8eda827a14ab5debb62642ddda4df560879001fd87cb70858743d3155c713220"), looks := false }, kinds := [], alts := [], laidByText := true, laidKinds := [.data], laidTests := true, laidLooks := .later }
def ShowBackCardSaid : Prop := Claim7.holds Tryd.pinned (.plain (OpenSpec.ofChange showBackSpec)) showBackCard

/-- THE TIED CARD OF 'scriptorylaw7.ShowSets'. -/
def showSetsCard : Claim7 := { stood := { row := showSetsRow, standIns := [], harness := (true, "8eda827a14ab5debb62642ddda4df560879001fd87cb70858743d3155c713220"), looks := false }, kinds := [], alts := [], laidByText := true, laidKinds := [.data], laidTests := true, laidLooks := .later }
def ShowSetsCardSaid : Prop := Claim7.holds Tryd.pinned (.plain (OpenSpec.ofChange showSetsSpec)) showSetsCard

/-- THE TIED CARD OF 'scriptorylaw7.ShowRuns'. -/
def showRunsCard : Claim7 := { stood := { row := showRunsRow, standIns := [], harness := (true, "8eda827a14ab5debb62642ddda4df560879001fd87cb70858743d3155c713220"), looks := false }, kinds := [], alts := [], laidByText := true, laidKinds := [.data], laidTests := true, laidLooks := .later }
def ShowRunsCardSaid : Prop := Claim7.holds Tryd.pinned (.plain (OpenSpec.ofChange showRunsSpec)) showRunsCard

/-- THE TIED CARD OF 'scriptorylaw7.ShowParts'. -/
def showPartsCard : Claim7 := { stood := { row := showPartsRow, standIns := [], harness := (true, "8eda827a14ab5debb62642ddda4df560879001fd87cb70858743d3155c713220"), looks := false }, kinds := [], alts := [], laidByText := true, laidKinds := [.data], laidTests := true, laidLooks := .later }
def ShowPartsCardSaid : Prop := Claim7.holds Tryd.pinned (.plain (OpenSpec.ofChange showPartsSpec)) showPartsCard

/-- THE SECOND FORM's CARD OF 'scriptorylaw7.ShowAll'. -/
def showAllUptoCard : Claim7 := { stood := { row := showAllUptoRow, standIns := [], harness := (true, "8eda827a14ab5debb62642ddda4df560879001fd87cb70858743d3155c713220"), looks := false }, kinds := [], alts := [], laidByText := true, laidKinds := [.data], laidTests := true, laidLooks := .later }
def ShowAllUptoCardSaid : Prop := Claim7.holds Tryd.pinned (.plain (OpenSpec.upto showAllSpec)) showAllUptoCard

/-- THE SECOND FORM's CARD OF 'scriptorylaw7.ShowMade'. -/
def showMadeUptoCard : Claim7 := { stood := { row := showMadeUptoRow, standIns := [], harness := (true, "8eda827a14ab5debb62642ddda4df560879001fd87cb70858743d3155c713220"), looks := false }, kinds := [], alts := [], laidByText := true, laidKinds := [.data], laidTests := true, laidLooks := .later }
def ShowMadeUptoCardSaid : Prop := Claim7.holds Tryd.pinned (.plain (OpenSpec.upto showMadeSpec)) showMadeUptoCard

/-- THE SECOND FORM's CARD OF 'scriptorylaw7.ShowBack'. -/
def showBackUptoCard : Claim7 := { stood := { row := showBackUptoRow, standIns := [], harness := (true, "8eda827a14ab5debb62642ddda4df560879001fd87cb70858743d3155c713220"), looks := false }, kinds := [], alts := [], laidByText := true, laidKinds := [.data], laidTests := true, laidLooks := .later }
def ShowBackUptoCardSaid : Prop := Claim7.holds Tryd.pinned (.plain (OpenSpec.upto showBackSpec)) showBackUptoCard

/-- THE SECOND FORM's CARD OF 'scriptorylaw7.ShowSets'. -/
def showSetsUptoCard : Claim7 := { stood := { row := showSetsUptoRow, standIns := [], harness := (true, "8eda827a14ab5debb62642ddda4df560879001fd87cb70858743d3155c713220"), looks := false }, kinds := [], alts := [], laidByText := true, laidKinds := [.data], laidTests := true, laidLooks := .later }
def ShowSetsUptoCardSaid : Prop := Claim7.holds Tryd.pinned (.plain (OpenSpec.upto showSetsSpec)) showSetsUptoCard

/-- THE SECOND FORM's CARD OF 'scriptorylaw7.ShowRuns'. -/
def showRunsUptoCard : Claim7 := { stood := { row := showRunsUptoRow, standIns := [], harness := (true, "8eda827a14ab5debb62642ddda4df560879001fd87cb70858743d3155c713220"), looks := false }, kinds := [], alts := [], laidByText := true, laidKinds := [.data], laidTests := true, laidLooks := .later }
def ShowRunsUptoCardSaid : Prop := Claim7.holds Tryd.pinned (.plain (OpenSpec.upto showRunsSpec)) showRunsUptoCard

/-- THE SECOND FORM's CARD OF 'scriptorylaw7.ShowParts'. -/
def showPartsUptoCard : Claim7 := { stood := { row := showPartsUptoRow, standIns := [], harness := (true, "8eda827a14ab5debb62642ddda4df560879001fd87cb70858743d3155c713220"), looks := false }, kinds := [], alts := [], laidByText := true, laidKinds := [.data], laidTests := true, laidLooks := .later }
def ShowPartsUptoCardSaid : Prop := Claim7.holds Tryd.pinned (.plain (OpenSpec.upto showPartsSpec)) showPartsUptoCard
end Rows
end Go.Proofs.YtlihheeknnnbmaaDoor
