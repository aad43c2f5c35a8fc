/-
  DERIVED. GIVEN WITH THE SEED: THE CARDS: each row of YtffmomgmkpmpkaaDoorRows.lean that lists a variable, with what it lists TIED to the program's text (the seventh form; the later family's looks); each row that meets fmt, with fmt's text TOLD by the authors' own Lean function (tested against real Go, not proved from fmt's source: count such statements apart). THE CARD IS WHAT COUNTS. Prove the row's statement (the work); the ties are given (YtffmomgmkpmpkaaDoorTie.lean); close each card by the builder's one call (the guide's Derived/Test/ToyasCard.lean, 'card_holds'). Laid BY PROGRAM, IN A SANDBOX (cutbox-door.mjs). By AI agents, Wed Nov 11 2026. No macro, syntax, notation, axiom, sorry.
-/
import Derived.Test.YtffmomgmkpmpkaaDoorRows
import GoSem.ClaimSeven
namespace Go.Proofs.YtffmomgmkpmpkaaDoor
namespace Rows

/-- THE TIED CARD OF 'casementlaw15.CellsBack'. -/
def cellsBackCard : Claim7 := { stood := { row := cellsBackRow, standIns := [], harness := (true, "e86fb298316f6142240aa3c39290b4dc3ed785dc500b7e5f65d7b40d3729d4fe"), looks := false }, kinds := [], alts := [], laidByText := true, laidKinds := [.data, .data, .data, .data, .pinned], laidTests := true, laidLooks := .later }
def CellsBackCardSaid : Prop := Claim7.holds Tryd.pinned (.plain (OpenSpec.ofChange cellsBackSpec)) cellsBackCard

/-- THE TIED CARD OF 'casementlaw15.CellsTwice'. -/
def cellsTwiceCard : Claim7 := { stood := { row := cellsTwiceRow, standIns := [], harness := (true, "e86fb298316f6142240aa3c39290b4dc3ed785dc500b7e5f65d7b40d3729d4fe"), looks := false }, kinds := [], alts := [], laidByText := true, laidKinds := [.data, .data, .data, .data, .pinned], laidTests := true, laidLooks := .later }
def CellsTwiceCardSaid : Prop := Claim7.holds Tryd.pinned (.plain (OpenSpec.ofChange cellsTwiceSpec)) cellsTwiceCard

/-- THE SECOND FORM's CARD OF 'casementlaw15.CellsBack'. -/
def cellsBackUptoCard : Claim7 := { stood := { row := cellsBackUptoRow, standIns := [], harness := (true, "e86fb298316f6142240aa3c39290b4dc3ed785dc500b7e5f65d7b40d3729d4fe"), looks := false }, kinds := [], alts := [], laidByText := true, laidKinds := [.data, .data, .data, .data, .pinned], laidTests := true, laidLooks := .later }
def CellsBackUptoCardSaid : Prop := Claim7.holds Tryd.pinned (.plain (OpenSpec.upto cellsBackSpec)) cellsBackUptoCard

/-- THE SECOND FORM's CARD OF 'casementlaw15.CellsTwice'. -/
def cellsTwiceUptoCard : Claim7 := { stood := { row := cellsTwiceUptoRow, standIns := [], harness := (true, "e86fb298316f6142240aa3c39290b4dc3ed785dc500b7e5f65d7b40d3729d4fe"), looks := false }, kinds := [], alts := [], laidByText := true, laidKinds := [.data, .data, .data, .data, .pinned], laidTests := true, laidLooks := .later }
def CellsTwiceUptoCardSaid : Prop := Claim7.holds Tryd.pinned (.plain (OpenSpec.upto cellsTwiceSpec)) cellsTwiceUptoCard
end Rows
end Go.Proofs.YtffmomgmkpmpkaaDoor
