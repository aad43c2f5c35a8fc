/-
  DERIVED. GIVEN WITH THE SEED: THE CARDS: each row of YtpbolbpenkfpiaaDoorRows.lean that lists a variable, with what it lists TIED to the program's text (the seventh form; the later family's looks); each row that meets fmt, with fmt's text TOLD by the authors' own Lean function (tested against real Go, not proved from fmt's source: count such statements apart). THE CARD IS WHAT COUNTS. Prove the row's statement (the work); the ties are given (YtpbolbpenkfpiaaDoorTie.lean); close each card by the builder's one call (the guide's Derived/Test/ToyasCard.lean, 'card_holds'). Laid BY PROGRAM, IN A SANDBOX (cutbox-door.mjs). By AI agents, Wed Nov 11 2026. No macro, syntax, notation, axiom, sorry.
-/
import Derived.Test.YtpbolbpenkfpiaaDoorRows
import GoSem.ClaimSeven
namespace Go.Proofs.YtpbolbpenkfpiaaDoor
namespace Rows

/-- THE TIED CARD OF 'casementlaw16.VectorTexts'. -/
def vectorTextsCard : Claim7 := { stood := { row := vectorTextsRow, standIns := [], harness := (true, "a37a6dd2debc200cfaea0331a3fc201a02121653102b6b6330ae0d434ac39115"), looks := false }, kinds := [], alts := [], laidByText := true, laidKinds := [.data, .data, .data], laidTests := true, laidLooks := .later }
def VectorTextsCardSaid : Prop := Claim7.holds Tryd.pinned (.plain (OpenSpec.ofChange vectorTextsSpec)) vectorTextsCard

/-- THE SECOND FORM's CARD OF 'casementlaw16.VectorTexts'. -/
def vectorTextsUptoCard : Claim7 := { stood := { row := vectorTextsUptoRow, standIns := [], harness := (true, "a37a6dd2debc200cfaea0331a3fc201a02121653102b6b6330ae0d434ac39115"), looks := false }, kinds := [], alts := [], laidByText := true, laidKinds := [.data, .data, .data], laidTests := true, laidLooks := .later }
def VectorTextsUptoCardSaid : Prop := Claim7.holds Tryd.pinned (.plain (OpenSpec.upto vectorTextsSpec)) vectorTextsUptoCard
end Rows
end Go.Proofs.YtpbolbpenkfpiaaDoor
