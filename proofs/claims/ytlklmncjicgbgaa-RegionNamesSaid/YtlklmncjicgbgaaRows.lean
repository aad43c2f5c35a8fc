/-
  No cell of these rows narrows 'for every input' (looked for: loops, veiled, ifaces, maps, wideKeys, modest, calm, conditions, laid).
  DERIVED. THE GIVEN ROWS OF THIS SEAT. 5 by the template 'for every input the law returns true; each argument reads behind the call as it read before'; 0 by the template 'total and deterministic' (their statements: YtlklmncjicgbgaaTotals.lean).
  GIVEN WITH THE SEED: the statements are not yours to turn. If you find one false, say at which input.
  Laid BY PROGRAM, IN A SANDBOX (cutbox-rows.mjs): the forced cells as the released guide's own fill.sh prints them over the translation eba3605e07f52b82… (all of the seat's roots in one cut). By AI agents, Wed Nov 11 2026. No macro, syntax, notation, axiom, sorry.
-/
import Derived.Test.YtlklmncjicgbgaaChecked
import GoSem.Claim
import GoSem.ClaimJoined
import GoSem.ClaimMapViews
import Derived.JoinedTies
import Derived.KernelRfl
namespace Go.Proofs.Ytlklmncjicgbgaa
/- THE CELL 'sum', in the pinned program and in every row, IS THE sha256 OF THE DUMP (.gsa) THAT YtlklmncjicgbgaaProg.lean LOADS. Nothing in Lean hashes anything: it is a label: what it is worth is what the hold of that sum in a sandbox is worth. -/
noncomputable def Try.pinned : Pinned := { name := "ytlklmncjicgbgaa", sum := "eba3605e07f52b82a8ca4fdf2efa13257a1bf675867e39f6839308d17f5cca5f", checked := Try.checked }
namespace Rows
def none {H : Type} : Left H := { results := [], args := [] }

/-- 'casementlaw02.RegionTwos': WHATEVER THE INPUT: true; the input reads as it did. -/
def regionTwosSpec : ChangeSpec := { name := "regionTwos", fn := fun _ => fun
  | [d1, d2] => { results := [.lit (.bool true)], args := [d1, d2] }
  | _ => none }
def regionTwosRow : OpenClaim := { program := "ytlklmncjicgbgaa", sum := "eba3605e07f52b82a8ca4fdf2efa13257a1bf675867e39f6839308d17f5cca5f", func := "casement/casementlaw02.RegionTwos", spec := "regionTwos", unfollowed := true, recurses := true, apart := false }
def RegionTwosSaid : Prop := regionTwosRow.holds Try.pinned (OpenSpec.ofChange regionTwosSpec)

/-- ITS FALSE NEIGHBOUR: 'it returns false'. Refute it at one input. -/
def regionTwosWrong : ChangeSpec := { name := "regionTwos", fn := fun _ => fun
  | [d1, d2] => { results := [.lit (.bool false)], args := [d1, d2] }
  | _ => none }
def RegionTwosWrongFalsely : Prop := regionTwosRow.holds Try.pinned (OpenSpec.ofChange regionTwosWrong)

/-- 'casementlaw02.RegionPlaces': WHATEVER THE INPUT: true; the input reads as it did. -/
def regionPlacesSpec : ChangeSpec := { name := "regionPlaces", fn := fun _ => fun
  | [d1, d2, d3] => { results := [.lit (.bool true)], args := [d1, d2, d3] }
  | _ => none }
def regionPlacesRow : OpenClaim := { program := "ytlklmncjicgbgaa", sum := "eba3605e07f52b82a8ca4fdf2efa13257a1bf675867e39f6839308d17f5cca5f", func := "casement/casementlaw02.RegionPlaces", spec := "regionPlaces", unfollowed := true, recurses := true, apart := false }
def RegionPlacesSaid : Prop := regionPlacesRow.holds Try.pinned (OpenSpec.ofChange regionPlacesSpec)

/-- ITS FALSE NEIGHBOUR: 'it returns false'. Refute it at one input. -/
def regionPlacesWrong : ChangeSpec := { name := "regionPlaces", fn := fun _ => fun
  | [d1, d2, d3] => { results := [.lit (.bool false)], args := [d1, d2, d3] }
  | _ => none }
def RegionPlacesWrongFalsely : Prop := regionPlacesRow.holds Try.pinned (OpenSpec.ofChange regionPlacesWrong)

/-- 'casementlaw02.RegionRules': WHATEVER THE INPUT: true; the input reads as it did. -/
def regionRulesSpec : ChangeSpec := { name := "regionRules", fn := fun _ => fun
  | [d1, d2, d3] => { results := [.lit (.bool true)], args := [d1, d2, d3] }
  | _ => none }
def regionRulesRow : OpenClaim := { program := "ytlklmncjicgbgaa", sum := "eba3605e07f52b82a8ca4fdf2efa13257a1bf675867e39f6839308d17f5cca5f", func := "casement/casementlaw02.RegionRules", spec := "regionRules", unfollowed := true, recurses := true, apart := false }
def RegionRulesSaid : Prop := regionRulesRow.holds Try.pinned (OpenSpec.ofChange regionRulesSpec)

/-- ITS FALSE NEIGHBOUR: 'it returns false'. Refute it at one input. -/
def regionRulesWrong : ChangeSpec := { name := "regionRules", fn := fun _ => fun
  | [d1, d2, d3] => { results := [.lit (.bool false)], args := [d1, d2, d3] }
  | _ => none }
def RegionRulesWrongFalsely : Prop := regionRulesRow.holds Try.pinned (OpenSpec.ofChange regionRulesWrong)

/-- 'casementlaw02.RegionOnes': WHATEVER THE INPUT: true; the input reads as it did. -/
def regionOnesSpec : ChangeSpec := { name := "regionOnes", fn := fun _ => fun
  | [d1, d2, d3] => { results := [.lit (.bool true)], args := [d1, d2, d3] }
  | _ => none }
def regionOnesRow : OpenClaim := { program := "ytlklmncjicgbgaa", sum := "eba3605e07f52b82a8ca4fdf2efa13257a1bf675867e39f6839308d17f5cca5f", func := "casement/casementlaw02.RegionOnes", spec := "regionOnes", unfollowed := true, recurses := true, apart := false }
def RegionOnesSaid : Prop := regionOnesRow.holds Try.pinned (OpenSpec.ofChange regionOnesSpec)

/-- ITS FALSE NEIGHBOUR: 'it returns false'. Refute it at one input. -/
def regionOnesWrong : ChangeSpec := { name := "regionOnes", fn := fun _ => fun
  | [d1, d2, d3] => { results := [.lit (.bool false)], args := [d1, d2, d3] }
  | _ => none }
def RegionOnesWrongFalsely : Prop := regionOnesRow.holds Try.pinned (OpenSpec.ofChange regionOnesWrong)

/-- 'casementlaw02.RegionNames': WHATEVER THE INPUT: true; the input reads as it did. -/
def regionNamesSpec : ChangeSpec := { name := "regionNames", fn := fun _ => fun
  | [] => { results := [.lit (.bool true)], args := [] }
  | _ => none }
def regionNamesRow : OpenClaim := { program := "ytlklmncjicgbgaa", sum := "eba3605e07f52b82a8ca4fdf2efa13257a1bf675867e39f6839308d17f5cca5f", func := "casement/casementlaw02.RegionNames", spec := "regionNames", unfollowed := true, recurses := true, apart := false }
def RegionNamesSaid : Prop := regionNamesRow.holds Try.pinned (OpenSpec.ofChange regionNamesSpec)

/-- ITS FALSE NEIGHBOUR: 'it returns false'. Refute it at one input. -/
def regionNamesWrong : ChangeSpec := { name := "regionNames", fn := fun _ => fun
  | [] => { results := [.lit (.bool false)], args := [] }
  | _ => none }
def RegionNamesWrongFalsely : Prop := regionNamesRow.holds Try.pinned (OpenSpec.ofChange regionNamesWrong)

/- THE SECOND FORM. 'bulk': how many values and letters a reading holds, each counted each time it is reached (what is shared counts as often as it is met; a slice's spare places count too). A statement '..UptoSaid' is the law's where the arguments, and the package variables that the reading takes, are together of bulk at most 1048576: NARROWER than '..Said'. Prove '..Said' where nothing that the law and all that it calls make is longer than what came in: it says more and counts as full. Else prove '..UptoSaid'. A law counts once. -/
mutual
def uptoBulk {H : Type} : DataW H → Nat
  | .lit (.string bytes) => bytes.length + 1
  | .lit _ => 1
  | .nil => 1
  | .ptr d => uptoBulk d + 1
  | .slice elems spare => uptoBulkAll elems + uptoBulkAll spare + 1
  | .agg parts => uptoBulkAll parts + 1
  | .iface _ d => uptoBulk d + 1
  | .map entries => uptoBulkEntries entries + 1
  | .held _ => 1
def uptoBulkAll {H : Type} : List (DataW H) → Nat
  | [] => 0
  | d :: r => uptoBulk d + uptoBulkAll r
def uptoBulkEntries {H : Type} : List (Lit × DataW H) → Nat
  | [] => 0
  | x :: r => uptoBulkEntry x + uptoBulkEntries r
def uptoBulkEntry {H : Type} : Lit × DataW H → Nat
  | (.string bytes, d) => bytes.length + uptoBulk d + 1
  | (_, d) => uptoBulk d + 1
 end
def uptoSmall : (H : Type) → List (DataW H) → Bool := fun _ ds => decide (uptoBulkAll ds ≤ 1048576)
def OpenSpec.upto (s : _root_.Go.ChangeSpec) : _root_.Go.OpenSpec := { _root_.Go.OpenSpec.ofChange s with cond := some uptoSmall }

/-- 'casementlaw02.RegionTwos', WHERE WHAT IT READS IS OF BULK AT MOST 1048576: true; the input reads as it did. -/
def regionTwosUptoRow : OpenClaim := { program := "ytlklmncjicgbgaa", sum := "eba3605e07f52b82a8ca4fdf2efa13257a1bf675867e39f6839308d17f5cca5f", func := "casement/casementlaw02.RegionTwos", spec := "regionTwos", unfollowed := true, recurses := true, apart := false, narrowed := true }
def RegionTwosUptoSaid : Prop := regionTwosUptoRow.holds Try.pinned (OpenSpec.upto regionTwosSpec)

/-- 'casementlaw02.RegionPlaces', WHERE WHAT IT READS IS OF BULK AT MOST 1048576: true; the input reads as it did. -/
def regionPlacesUptoRow : OpenClaim := { program := "ytlklmncjicgbgaa", sum := "eba3605e07f52b82a8ca4fdf2efa13257a1bf675867e39f6839308d17f5cca5f", func := "casement/casementlaw02.RegionPlaces", spec := "regionPlaces", unfollowed := true, recurses := true, apart := false, narrowed := true }
def RegionPlacesUptoSaid : Prop := regionPlacesUptoRow.holds Try.pinned (OpenSpec.upto regionPlacesSpec)

/-- 'casementlaw02.RegionRules', WHERE WHAT IT READS IS OF BULK AT MOST 1048576: true; the input reads as it did. -/
def regionRulesUptoRow : OpenClaim := { program := "ytlklmncjicgbgaa", sum := "eba3605e07f52b82a8ca4fdf2efa13257a1bf675867e39f6839308d17f5cca5f", func := "casement/casementlaw02.RegionRules", spec := "regionRules", unfollowed := true, recurses := true, apart := false, narrowed := true }
def RegionRulesUptoSaid : Prop := regionRulesUptoRow.holds Try.pinned (OpenSpec.upto regionRulesSpec)

/-- 'casementlaw02.RegionOnes', WHERE WHAT IT READS IS OF BULK AT MOST 1048576: true; the input reads as it did. -/
def regionOnesUptoRow : OpenClaim := { program := "ytlklmncjicgbgaa", sum := "eba3605e07f52b82a8ca4fdf2efa13257a1bf675867e39f6839308d17f5cca5f", func := "casement/casementlaw02.RegionOnes", spec := "regionOnes", unfollowed := true, recurses := true, apart := false, narrowed := true }
def RegionOnesUptoSaid : Prop := regionOnesUptoRow.holds Try.pinned (OpenSpec.upto regionOnesSpec)

/-- 'casementlaw02.RegionNames', WHERE WHAT IT READS IS OF BULK AT MOST 1048576: true; the input reads as it did. -/
def regionNamesUptoRow : OpenClaim := { program := "ytlklmncjicgbgaa", sum := "eba3605e07f52b82a8ca4fdf2efa13257a1bf675867e39f6839308d17f5cca5f", func := "casement/casementlaw02.RegionNames", spec := "regionNames", unfollowed := true, recurses := true, apart := false, narrowed := true }
def RegionNamesUptoSaid : Prop := regionNamesUptoRow.holds Try.pinned (OpenSpec.upto regionNamesSpec)

end Rows
end Go.Proofs.Ytlklmncjicgbgaa
