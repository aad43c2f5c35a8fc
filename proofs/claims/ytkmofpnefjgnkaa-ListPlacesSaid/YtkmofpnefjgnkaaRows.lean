/-
  No cell of these rows narrows 'for every input' (looked for: loops, veiled, ifaces, maps, wideKeys, modest, calm, conditions, laid).
  DERIVED. THE GIVEN ROWS OF THIS SEAT. 4 by the template 'for every input the law returns true; each argument reads behind the call as it read before'; 0 by the template 'total and deterministic' (their statements: YtkmofpnefjgnkaaTotals.lean).
  GIVEN WITH THE SEED: the statements are not yours to turn. If you find one false, say at which input.
  Laid BY PROGRAM, IN A SANDBOX (cutbox-rows.mjs): the forced cells as the released guide's own fill.sh prints them over the translation 54815c71f8d7883a… (all of the seat's roots in one cut). By AI agents, Wed Nov 11 2026. No macro, syntax, notation, axiom, sorry.
-/
import Derived.Test.YtkmofpnefjgnkaaChecked
import GoSem.Claim
import GoSem.ClaimJoined
import GoSem.ClaimMapViews
import Derived.JoinedTies
import Derived.KernelRfl
namespace Go.Proofs.Ytkmofpnefjgnkaa
/- THE CELL 'sum', in the pinned program and in every row, IS THE sha256 OF THE DUMP (.gsa) THAT YtkmofpnefjgnkaaProg.lean LOADS. Nothing in Lean hashes anything: it is a label: what it is worth is what the hold of that sum in a sandbox is worth. -/
noncomputable def Try.pinned : Pinned := { name := "ytkmofpnefjgnkaa", sum := "54815c71f8d7883a5b547904147fb12a30b57076d3dbc015417fc894ad0433d5", checked := Try.checked }
namespace Rows
def none {H : Type} : Left H := { results := [], args := [] }

/-- 'casementlaw13.ListMoves': WHATEVER THE INPUT: true; the input reads as it did. -/
def listMovesSpec : ChangeSpec := { name := "listMoves", fn := fun _ => fun
  | [d1, d2, d3] => { results := [.lit (.bool true)], args := [d1, d2, d3] }
  | _ => none }
def listMovesRow : OpenClaim := { program := "ytkmofpnefjgnkaa", sum := "54815c71f8d7883a5b547904147fb12a30b57076d3dbc015417fc894ad0433d5", func := "casement/casementlaw13.ListMoves", spec := "listMoves", apart := false }
def ListMovesSaid : Prop := listMovesRow.holds Try.pinned (OpenSpec.ofChange listMovesSpec)

/-- ITS FALSE NEIGHBOUR: 'it returns false'. Refute it at one input. -/
def listMovesWrong : ChangeSpec := { name := "listMoves", fn := fun _ => fun
  | [d1, d2, d3] => { results := [.lit (.bool false)], args := [d1, d2, d3] }
  | _ => none }
def ListMovesWrongFalsely : Prop := listMovesRow.holds Try.pinned (OpenSpec.ofChange listMovesWrong)

/-- 'casementlaw13.ListBack': WHATEVER THE INPUT: true; the input reads as it did. -/
def listBackSpec : ChangeSpec := { name := "listBack", fn := fun _ => fun
  | [d1, d2, d3] => { results := [.lit (.bool true)], args := [d1, d2, d3] }
  | _ => none }
def listBackRow : OpenClaim := { program := "ytkmofpnefjgnkaa", sum := "54815c71f8d7883a5b547904147fb12a30b57076d3dbc015417fc894ad0433d5", func := "casement/casementlaw13.ListBack", spec := "listBack", unfollowed := true, recurses := true, apart := false }
def ListBackSaid : Prop := listBackRow.holds Try.pinned (OpenSpec.ofChange listBackSpec)

/-- ITS FALSE NEIGHBOUR: 'it returns false'. Refute it at one input. -/
def listBackWrong : ChangeSpec := { name := "listBack", fn := fun _ => fun
  | [d1, d2, d3] => { results := [.lit (.bool false)], args := [d1, d2, d3] }
  | _ => none }
def ListBackWrongFalsely : Prop := listBackRow.holds Try.pinned (OpenSpec.ofChange listBackWrong)

/-- 'casementlaw13.ListPlaces': WHATEVER THE INPUT: true; the input reads as it did. -/
def listPlacesSpec : ChangeSpec := { name := "listPlaces", fn := fun _ => fun
  | [d1, d2] => { results := [.lit (.bool true)], args := [d1, d2] }
  | _ => none }
def listPlacesRow : OpenClaim := { program := "ytkmofpnefjgnkaa", sum := "54815c71f8d7883a5b547904147fb12a30b57076d3dbc015417fc894ad0433d5", func := "casement/casementlaw13.ListPlaces", spec := "listPlaces", unfollowed := true, recurses := true, apart := false }
def ListPlacesSaid : Prop := listPlacesRow.holds Try.pinned (OpenSpec.ofChange listPlacesSpec)

/-- ITS FALSE NEIGHBOUR: 'it returns false'. Refute it at one input. -/
def listPlacesWrong : ChangeSpec := { name := "listPlaces", fn := fun _ => fun
  | [d1, d2] => { results := [.lit (.bool false)], args := [d1, d2] }
  | _ => none }
def ListPlacesWrongFalsely : Prop := listPlacesRow.holds Try.pinned (OpenSpec.ofChange listPlacesWrong)

/-- 'casementlaw13.ListNames': WHATEVER THE INPUT: true; the input reads as it did. -/
def listNamesSpec : ChangeSpec := { name := "listNames", fn := fun _ => fun
  | [] => { results := [.lit (.bool true)], args := [] }
  | _ => none }
def listNamesRow : OpenClaim := { program := "ytkmofpnefjgnkaa", sum := "54815c71f8d7883a5b547904147fb12a30b57076d3dbc015417fc894ad0433d5", func := "casement/casementlaw13.ListNames", spec := "listNames", unfollowed := true, recurses := true, apart := false }
def ListNamesSaid : Prop := listNamesRow.holds Try.pinned (OpenSpec.ofChange listNamesSpec)

/-- ITS FALSE NEIGHBOUR: 'it returns false'. Refute it at one input. -/
def listNamesWrong : ChangeSpec := { name := "listNames", fn := fun _ => fun
  | [] => { results := [.lit (.bool false)], args := [] }
  | _ => none }
def ListNamesWrongFalsely : Prop := listNamesRow.holds Try.pinned (OpenSpec.ofChange listNamesWrong)

/- THE SECOND FORM. 'bulk': how many values and letters a reading holds, each counted each time it is reached (what is shared counts as often as it is met; a slice's spare places count too). A statement '..UptoSaid' is the law's where the arguments, and the package variables that the reading takes, are together of bulk at most 1048576: NARROWER than '..Said'. Prove '..Said' where nothing that the law and all that it calls make is longer than what came in: it says more and counts as full. Else prove '..UptoSaid'. A law counts once. -/
mutual
def uptoBulk {H : Type} : DataW H → Nat
  | .lit (.string bytes) => bytes.length + 1
  | .lit _ => 1
  | .nil => 1
  | .ptr d => uptoBulk d + 1
  | .slice elems spare => uptoBulkAll elems + uptoBulkAll spare + 1
  | .agg parts => uptoBulkAll parts + 1
  | .iface _ d => uptoBulk d + 1
  | .map entries => uptoBulkEntries entries + 1
  | .held _ => 1
def uptoBulkAll {H : Type} : List (DataW H) → Nat
  | [] => 0
  | d :: r => uptoBulk d + uptoBulkAll r
def uptoBulkEntries {H : Type} : List (Lit × DataW H) → Nat
  | [] => 0
  | x :: r => uptoBulkEntry x + uptoBulkEntries r
def uptoBulkEntry {H : Type} : Lit × DataW H → Nat
  | (.string bytes, d) => bytes.length + uptoBulk d + 1
  | (_, d) => uptoBulk d + 1
 end
def uptoSmall : (H : Type) → List (DataW H) → Bool := fun _ ds => decide (uptoBulkAll ds ≤ 1048576)
def OpenSpec.upto (s : _root_.Go.ChangeSpec) : _root_.Go.OpenSpec := { _root_.Go.OpenSpec.ofChange s with cond := some uptoSmall }

/-- 'casementlaw13.ListMoves', WHERE WHAT IT READS IS OF BULK AT MOST 1048576: true; the input reads as it did. -/
def listMovesUptoRow : OpenClaim := { program := "ytkmofpnefjgnkaa", sum := "54815c71f8d7883a5b547904147fb12a30b57076d3dbc015417fc894ad0433d5", func := "casement/casementlaw13.ListMoves", spec := "listMoves", apart := false, narrowed := true }
def ListMovesUptoSaid : Prop := listMovesUptoRow.holds Try.pinned (OpenSpec.upto listMovesSpec)

/-- 'casementlaw13.ListBack', WHERE WHAT IT READS IS OF BULK AT MOST 1048576: true; the input reads as it did. -/
def listBackUptoRow : OpenClaim := { program := "ytkmofpnefjgnkaa", sum := "54815c71f8d7883a5b547904147fb12a30b57076d3dbc015417fc894ad0433d5", func := "casement/casementlaw13.ListBack", spec := "listBack", unfollowed := true, recurses := true, apart := false, narrowed := true }
def ListBackUptoSaid : Prop := listBackUptoRow.holds Try.pinned (OpenSpec.upto listBackSpec)

/-- 'casementlaw13.ListPlaces', WHERE WHAT IT READS IS OF BULK AT MOST 1048576: true; the input reads as it did. -/
def listPlacesUptoRow : OpenClaim := { program := "ytkmofpnefjgnkaa", sum := "54815c71f8d7883a5b547904147fb12a30b57076d3dbc015417fc894ad0433d5", func := "casement/casementlaw13.ListPlaces", spec := "listPlaces", unfollowed := true, recurses := true, apart := false, narrowed := true }
def ListPlacesUptoSaid : Prop := listPlacesUptoRow.holds Try.pinned (OpenSpec.upto listPlacesSpec)

/-- 'casementlaw13.ListNames', WHERE WHAT IT READS IS OF BULK AT MOST 1048576: true; the input reads as it did. -/
def listNamesUptoRow : OpenClaim := { program := "ytkmofpnefjgnkaa", sum := "54815c71f8d7883a5b547904147fb12a30b57076d3dbc015417fc894ad0433d5", func := "casement/casementlaw13.ListNames", spec := "listNames", unfollowed := true, recurses := true, apart := false, narrowed := true }
def ListNamesUptoSaid : Prop := listNamesUptoRow.holds Try.pinned (OpenSpec.upto listNamesSpec)

end Rows
end Go.Proofs.Ytkmofpnefjgnkaa
