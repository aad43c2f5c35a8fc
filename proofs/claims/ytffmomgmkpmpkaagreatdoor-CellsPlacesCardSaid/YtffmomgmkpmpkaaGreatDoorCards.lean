/-
  DERIVED. GIVEN WITH THE SEED: THE CARDS: each row of YtffmomgmkpmpkaaGreatDoorRows.lean that lists a variable, with what it lists TIED to the program's text (the seventh form; the later family's looks); each row that meets fmt, with fmt's text TOLD by the authors' own Lean function (tested against real Go, not proved from fmt's source: count such statements apart). THE CARD IS WHAT COUNTS. Prove the row's statement (the work); the ties are given (YtffmomgmkpmpkaaGreatDoorTie.lean); close each card by the builder's one call (the guide's Derived/Test/ToyasCard.lean, 'card_holds'). Laid BY PROGRAM, IN A SANDBOX (cutbox-door.mjs). By AI agents, Wed Nov 11 2026. No macro, syntax, notation, axiom, sorry.
-/
import Derived.Test.YtffmomgmkpmpkaaGreatDoorRows
import GoSem.ClaimSeven
namespace Go.Proofs.YtffmomgmkpmpkaaGreatDoor
namespace Rows

/-- THE TIED CARD OF 'casementlaw15.CellsDraw'. -/
def cellsDrawCard : Claim7 := { stood := { row := cellsDrawRow, standIns := [], harness := (true, "1d2ef8768ad7b35b78013a6f5482d1dfbcb9622c7495e952a1ad9ae170bd2641"), looks := false }, kinds := [], alts := [], laidByText := true, laidKinds := [.data, .data, .data, .data, .pinned], laidTests := true, laidLooks := .later }
def CellsDrawCardSaid : Prop := Claim7.holds Tryz.pinned (.plain (OpenSpec.ofChange cellsDrawSpec)) cellsDrawCard

/-- THE TIED CARD OF 'casementlaw15.CellsRead'. -/
def cellsReadCard : Claim7 := { stood := { row := cellsReadRow, standIns := [], harness := (true, "1d2ef8768ad7b35b78013a6f5482d1dfbcb9622c7495e952a1ad9ae170bd2641"), looks := false }, kinds := [], alts := [], laidByText := true, laidKinds := [.data, .data, .data, .data, .pinned], laidTests := true, laidLooks := .later }
def CellsReadCardSaid : Prop := Claim7.holds Tryz.pinned (.plain (OpenSpec.ofChange cellsReadSpec)) cellsReadCard

/-- THE TIED CARD OF 'casementlaw15.CellsAsked'. -/
def cellsAskedCard : Claim7 := { stood := { row := cellsAskedRow, standIns := [], harness := (true, "1d2ef8768ad7b35b78013a6f5482d1dfbcb9622c7495e952a1ad9ae170bd2641"), looks := false }, kinds := [], alts := [], laidByText := true, laidKinds := [.data, .data, .data, .data, .pinned], laidTests := true, laidLooks := .later }
def CellsAskedCardSaid : Prop := Claim7.holds Tryz.pinned (.plain (OpenSpec.ofChange cellsAskedSpec)) cellsAskedCard

/-- THE TIED CARD OF 'casementlaw15.CellsRuns'. -/
def cellsRunsCard : Claim7 := { stood := { row := cellsRunsRow, standIns := [], harness := (true, "1d2ef8768ad7b35b78013a6f5482d1dfbcb9622c7495e952a1ad9ae170bd2641"), looks := false }, kinds := [], alts := [], laidByText := true, laidKinds := [.data, .data, .data, .data, .pinned], laidTests := true, laidLooks := .later }
def CellsRunsCardSaid : Prop := Claim7.holds Tryz.pinned (.plain (OpenSpec.ofChange cellsRunsSpec)) cellsRunsCard

/-- THE TIED CARD OF 'casementlaw15.CellsPlaces'. -/
def cellsPlacesCard : Claim7 := { stood := { row := cellsPlacesRow, standIns := [], harness := (true, "1d2ef8768ad7b35b78013a6f5482d1dfbcb9622c7495e952a1ad9ae170bd2641"), looks := false }, kinds := [], alts := [], laidByText := true, laidKinds := [.data, .data, .data, .data, .pinned], laidTests := true, laidLooks := .later }
def CellsPlacesCardSaid : Prop := Claim7.holds Tryz.pinned (.plain (OpenSpec.ofChange cellsPlacesSpec)) cellsPlacesCard

/-- THE SECOND FORM's CARD OF 'casementlaw15.CellsDraw'. -/
def cellsDrawUptoCard : Claim7 := { stood := { row := cellsDrawUptoRow, standIns := [], harness := (true, "1d2ef8768ad7b35b78013a6f5482d1dfbcb9622c7495e952a1ad9ae170bd2641"), looks := false }, kinds := [], alts := [], laidByText := true, laidKinds := [.data, .data, .data, .data, .pinned], laidTests := true, laidLooks := .later }
def CellsDrawUptoCardSaid : Prop := Claim7.holds Tryz.pinned (.plain (OpenSpec.upto cellsDrawSpec)) cellsDrawUptoCard

/-- THE SECOND FORM's CARD OF 'casementlaw15.CellsRead'. -/
def cellsReadUptoCard : Claim7 := { stood := { row := cellsReadUptoRow, standIns := [], harness := (true, "1d2ef8768ad7b35b78013a6f5482d1dfbcb9622c7495e952a1ad9ae170bd2641"), looks := false }, kinds := [], alts := [], laidByText := true, laidKinds := [.data, .data, .data, .data, .pinned], laidTests := true, laidLooks := .later }
def CellsReadUptoCardSaid : Prop := Claim7.holds Tryz.pinned (.plain (OpenSpec.upto cellsReadSpec)) cellsReadUptoCard

/-- THE SECOND FORM's CARD OF 'casementlaw15.CellsAsked'. -/
def cellsAskedUptoCard : Claim7 := { stood := { row := cellsAskedUptoRow, standIns := [], harness := (true, "1d2ef8768ad7b35b78013a6f5482d1dfbcb9622c7495e952a1ad9ae170bd2641"), looks := false }, kinds := [], alts := [], laidByText := true, laidKinds := [.data, .data, .data, .data, .pinned], laidTests := true, laidLooks := .later }
def CellsAskedUptoCardSaid : Prop := Claim7.holds Tryz.pinned (.plain (OpenSpec.upto cellsAskedSpec)) cellsAskedUptoCard

/-- THE SECOND FORM's CARD OF 'casementlaw15.CellsRuns'. -/
def cellsRunsUptoCard : Claim7 := { stood := { row := cellsRunsUptoRow, standIns := [], harness := (true, "1d2ef8768ad7b35b78013a6f5482d1dfbcb9622c7495e952a1ad9ae170bd2641"), looks := false }, kinds := [], alts := [], laidByText := true, laidKinds := [.data, .data, .data, .data, .pinned], laidTests := true, laidLooks := .later }
def CellsRunsUptoCardSaid : Prop := Claim7.holds Tryz.pinned (.plain (OpenSpec.upto cellsRunsSpec)) cellsRunsUptoCard

/-- THE SECOND FORM's CARD OF 'casementlaw15.CellsPlaces'. -/
def cellsPlacesUptoCard : Claim7 := { stood := { row := cellsPlacesUptoRow, standIns := [], harness := (true, "1d2ef8768ad7b35b78013a6f5482d1dfbcb9622c7495e952a1ad9ae170bd2641"), looks := false }, kinds := [], alts := [], laidByText := true, laidKinds := [.data, .data, .data, .data, .pinned], laidTests := true, laidLooks := .later }
def CellsPlacesUptoCardSaid : Prop := Claim7.holds Tryz.pinned (.plain (OpenSpec.upto cellsPlacesSpec)) cellsPlacesUptoCard
end Rows
end Go.Proofs.YtffmomgmkpmpkaaGreatDoor
