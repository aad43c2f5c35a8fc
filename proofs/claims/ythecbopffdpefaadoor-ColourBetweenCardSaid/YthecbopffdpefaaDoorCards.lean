/-
  DERIVED. GIVEN WITH THE SEED: THE CARDS: each row of YthecbopffdpefaaDoorRows.lean that lists a variable, with what it lists TIED to the program's text (the seventh form; the later family's looks); each row that meets fmt, with fmt's text TOLD by the authors' own Lean function (tested against real Go, not proved from fmt's source: count such statements apart). THE CARD IS WHAT COUNTS. Prove the row's statement (the work); the ties are given (YthecbopffdpefaaDoorTie.lean); close each card by the builder's one call (the guide's Derived/Test/ToyasCard.lean, 'card_holds'). Laid BY PROGRAM, IN A SANDBOX (cutbox-door.mjs). By AI agents, Wed Nov 11 2026. No macro, syntax, notation, axiom, sorry.
-/
import Derived.Test.YthecbopffdpefaaDoorRows
import GoSem.ClaimSeven
namespace Go.Proofs.YthecbopffdpefaaDoor
namespace Rows

/-- THE TIED CARD OF 'casementlaw04.ColourTexts'. -/
def colourTextsCard : Claim7 := { stood := { row := colourTextsRow, standIns := [], harness := (true, "5b117b8264a10ce4bcb4f35144f3fd5e48136e39e75cd5cb313d1f9d0dfd6c1f"), looks := true }, kinds := [], alts := [], laidByText := true, laidKinds := [.data, .data, .data, .sentinel, .sentinel], laidTests := true, laidLooks := .later }
def ColourTextsCardSaid : Prop := Claim7.holds Tryd.pinned (.plain (OpenSpec.ofChange colourTextsSpec)) colourTextsCard

/-- THE TIED CARD OF 'casementlaw04.ColourBetween'. -/
def colourBetweenCard : Claim7 := { stood := { row := colourBetweenRow, standIns := [], harness := (true, "5b117b8264a10ce4bcb4f35144f3fd5e48136e39e75cd5cb313d1f9d0dfd6c1f"), looks := true }, kinds := [], alts := [], laidByText := true, laidKinds := [.data, .data, .data, .sentinel, .sentinel], laidTests := true, laidLooks := .later }
def ColourBetweenCardSaid : Prop := Claim7.holds Tryd.pinned (.plain (OpenSpec.ofChange colourBetweenSpec)) colourBetweenCard

/-- THE TIED CARD OF 'casementlaw04.ColourLight'. -/
def colourLightCard : Claim7 := { stood := { row := colourLightRow, standIns := [], harness := (true, "5b117b8264a10ce4bcb4f35144f3fd5e48136e39e75cd5cb313d1f9d0dfd6c1f"), looks := true }, kinds := [], alts := [], laidByText := true, laidKinds := [.data, .data, .data, .sentinel, .sentinel], laidTests := true, laidLooks := .later }
def ColourLightCardSaid : Prop := Claim7.holds Tryd.pinned (.plain (OpenSpec.ofChange colourLightSpec)) colourLightCard

/-- THE TIED CARD OF 'casementlaw04.ColourBack'. -/
def colourBackCard : Claim7 := { stood := { row := colourBackRow, standIns := [], harness := (true, "5b117b8264a10ce4bcb4f35144f3fd5e48136e39e75cd5cb313d1f9d0dfd6c1f"), looks := true }, kinds := [], alts := [], laidByText := true, laidKinds := [.data, .data, .data, .sentinel, .sentinel], laidTests := true, laidLooks := .later }
def ColourBackCardSaid : Prop := Claim7.holds Tryd.pinned (.plain (OpenSpec.ofChange colourBackSpec)) colourBackCard

/-- THE TIED CARD OF 'casementlaw04.ColourNearest'. -/
def colourNearestCard : Claim7 := { stood := { row := colourNearestRow, standIns := [], harness := (true, "5b117b8264a10ce4bcb4f35144f3fd5e48136e39e75cd5cb313d1f9d0dfd6c1f"), looks := true }, kinds := [], alts := [], laidByText := true, laidKinds := [.data, .data, .data, .sentinel, .sentinel], laidTests := true, laidLooks := .later }
def ColourNearestCardSaid : Prop := Claim7.holds Tryd.pinned (.plain (OpenSpec.ofChange colourNearestSpec)) colourNearestCard

/-- THE TIED CARD OF 'casementlaw04.ColourNames'. -/
def colourNamesCard : Claim7 := { stood := { row := colourNamesRow, standIns := [], harness := (true, "5b117b8264a10ce4bcb4f35144f3fd5e48136e39e75cd5cb313d1f9d0dfd6c1f"), looks := true }, kinds := [], alts := [], laidByText := true, laidKinds := [.data, .data, .data, .sentinel, .sentinel], laidTests := true, laidLooks := .later }
def ColourNamesCardSaid : Prop := Claim7.holds Tryd.pinned (.plain (OpenSpec.ofChange colourNamesSpec)) colourNamesCard

/-- THE SECOND FORM's CARD OF 'casementlaw04.ColourTexts'. -/
def colourTextsUptoCard : Claim7 := { stood := { row := colourTextsUptoRow, standIns := [], harness := (true, "5b117b8264a10ce4bcb4f35144f3fd5e48136e39e75cd5cb313d1f9d0dfd6c1f"), looks := true }, kinds := [], alts := [], laidByText := true, laidKinds := [.data, .data, .data, .sentinel, .sentinel], laidTests := true, laidLooks := .later }
def ColourTextsUptoCardSaid : Prop := Claim7.holds Tryd.pinned (.plain (OpenSpec.upto colourTextsSpec)) colourTextsUptoCard

/-- THE SECOND FORM's CARD OF 'casementlaw04.ColourBetween'. -/
def colourBetweenUptoCard : Claim7 := { stood := { row := colourBetweenUptoRow, standIns := [], harness := (true, "5b117b8264a10ce4bcb4f35144f3fd5e48136e39e75cd5cb313d1f9d0dfd6c1f"), looks := true }, kinds := [], alts := [], laidByText := true, laidKinds := [.data, .data, .data, .sentinel, .sentinel], laidTests := true, laidLooks := .later }
def ColourBetweenUptoCardSaid : Prop := Claim7.holds Tryd.pinned (.plain (OpenSpec.upto colourBetweenSpec)) colourBetweenUptoCard

/-- THE SECOND FORM's CARD OF 'casementlaw04.ColourLight'. -/
def colourLightUptoCard : Claim7 := { stood := { row := colourLightUptoRow, standIns := [], harness := (true, "5b117b8264a10ce4bcb4f35144f3fd5e48136e39e75cd5cb313d1f9d0dfd6c1f"), looks := true }, kinds := [], alts := [], laidByText := true, laidKinds := [.data, .data, .data, .sentinel, .sentinel], laidTests := true, laidLooks := .later }
def ColourLightUptoCardSaid : Prop := Claim7.holds Tryd.pinned (.plain (OpenSpec.upto colourLightSpec)) colourLightUptoCard

/-- THE SECOND FORM's CARD OF 'casementlaw04.ColourBack'. -/
def colourBackUptoCard : Claim7 := { stood := { row := colourBackUptoRow, standIns := [], harness := (true, "5b117b8264a10ce4bcb4f35144f3fd5e48136e39e75cd5cb313d1f9d0dfd6c1f"), looks := true }, kinds := [], alts := [], laidByText := true, laidKinds := [.data, .data, .data, .sentinel, .sentinel], laidTests := true, laidLooks := .later }
def ColourBackUptoCardSaid : Prop := Claim7.holds Tryd.pinned (.plain (OpenSpec.upto colourBackSpec)) colourBackUptoCard

/-- THE SECOND FORM's CARD OF 'casementlaw04.ColourNearest'. -/
def colourNearestUptoCard : Claim7 := { stood := { row := colourNearestUptoRow, standIns := [], harness := (true, "5b117b8264a10ce4bcb4f35144f3fd5e48136e39e75cd5cb313d1f9d0dfd6c1f"), looks := true }, kinds := [], alts := [], laidByText := true, laidKinds := [.data, .data, .data, .sentinel, .sentinel], laidTests := true, laidLooks := .later }
def ColourNearestUptoCardSaid : Prop := Claim7.holds Tryd.pinned (.plain (OpenSpec.upto colourNearestSpec)) colourNearestUptoCard

/-- THE SECOND FORM's CARD OF 'casementlaw04.ColourNames'. -/
def colourNamesUptoCard : Claim7 := { stood := { row := colourNamesUptoRow, standIns := [], harness := (true, "5b117b8264a10ce4bcb4f35144f3fd5e48136e39e75cd5cb313d1f9d0dfd6c1f"), looks := true }, kinds := [], alts := [], laidByText := true, laidKinds := [.data, .data, .data, .sentinel, .sentinel], laidTests := true, laidLooks := .later }
def ColourNamesUptoCardSaid : Prop := Claim7.holds Tryd.pinned (.plain (OpenSpec.upto colourNamesSpec)) colourNamesUptoCard
end Rows
end Go.Proofs.YthecbopffdpefaaDoor
