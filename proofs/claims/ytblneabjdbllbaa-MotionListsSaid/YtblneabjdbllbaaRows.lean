/-
  No cell of these rows narrows 'for every input' (looked for: loops, veiled, ifaces, maps, wideKeys, modest, calm, conditions, laid).
  DERIVED. THE GIVEN ROWS OF THIS SEAT. 6 by the template 'for every input the law returns true; each argument reads behind the call as it read before'; 0 by the template 'total and deterministic' (their statements: YtblneabjdbllbaaTotals.lean).
  GIVEN WITH THE SEED: the statements are not yours to turn. If you find one false, say at which input.
  Laid BY PROGRAM, IN A SANDBOX (cutbox-rows.mjs): the forced cells as the released guide's own fill.sh prints them over the translation a5efabebb770559e… (all of the seat's roots in one cut). By AI agents, Wed Nov 11 2026. No macro, syntax, notation, axiom, sorry.
-/
import Derived.Test.YtblneabjdbllbaaChecked
import GoSem.Claim
import GoSem.ClaimJoined
import GoSem.ClaimMapViews
import Derived.JoinedTies
import Derived.KernelRfl
namespace Go.Proofs.Ytblneabjdbllbaa
/- THE CELL 'sum', in the pinned program and in every row, IS THE sha256 OF THE DUMP (.gsa) THAT YtblneabjdbllbaaProg.lean LOADS. Nothing in Lean hashes anything: it is a label: what it is worth is what the hold of that sum in a sandbox is worth. -/
noncomputable def Try.pinned : Pinned := { name := "ytblneabjdbllbaa", sum := "a5efabebb770559ecdfbcb70d7a909f8fc62f42144552e131df61cdb9f63ec56", checked := Try.checked }
namespace Rows
def none {H : Type} : Left H := { results := [], args := [] }

/-- 'casementlaw23.MotionOnes': WHATEVER THE INPUT: true; the input reads as it did. -/
def motionOnesSpec : ChangeSpec := { name := "motionOnes", fn := fun _ => fun
  | [d1, d2, d3, d4] => { results := [.lit (.bool true)], args := [d1, d2, d3, d4] }
  | _ => none }
def motionOnesRow : OpenClaim := { program := "ytblneabjdbllbaa", sum := "a5efabebb770559ecdfbcb70d7a909f8fc62f42144552e131df61cdb9f63ec56", func := "casement/casementlaw23.MotionOnes", spec := "motionOnes", unfollowed := true, recurses := true, apart := false }
def MotionOnesSaid : Prop := motionOnesRow.holds Try.pinned (OpenSpec.ofChange motionOnesSpec)

/-- ITS FALSE NEIGHBOUR: 'it returns false'. Refute it at one input. -/
def motionOnesWrong : ChangeSpec := { name := "motionOnes", fn := fun _ => fun
  | [d1, d2, d3, d4] => { results := [.lit (.bool false)], args := [d1, d2, d3, d4] }
  | _ => none }
def MotionOnesWrongFalsely : Prop := motionOnesRow.holds Try.pinned (OpenSpec.ofChange motionOnesWrong)

/-- 'casementlaw23.MotionBends': WHATEVER THE INPUT: true; the input reads as it did. -/
def motionBendsSpec : ChangeSpec := { name := "motionBends", fn := fun _ => fun
  | [d1, d2] => { results := [.lit (.bool true)], args := [d1, d2] }
  | _ => none }
def motionBendsRow : OpenClaim := { program := "ytblneabjdbllbaa", sum := "a5efabebb770559ecdfbcb70d7a909f8fc62f42144552e131df61cdb9f63ec56", func := "casement/casementlaw23.MotionBends", spec := "motionBends", unfollowed := true, recurses := true, apart := false }
def MotionBendsSaid : Prop := motionBendsRow.holds Try.pinned (OpenSpec.ofChange motionBendsSpec)

/-- ITS FALSE NEIGHBOUR: 'it returns false'. Refute it at one input. -/
def motionBendsWrong : ChangeSpec := { name := "motionBends", fn := fun _ => fun
  | [d1, d2] => { results := [.lit (.bool false)], args := [d1, d2] }
  | _ => none }
def MotionBendsWrongFalsely : Prop := motionBendsRow.holds Try.pinned (OpenSpec.ofChange motionBendsWrong)

/-- 'casementlaw23.MotionLies': WHATEVER THE INPUT: true; the input reads as it did. -/
def motionLiesSpec : ChangeSpec := { name := "motionLies", fn := fun _ => fun
  | [d1, d2, d3] => { results := [.lit (.bool true)], args := [d1, d2, d3] }
  | _ => none }
def motionLiesRow : OpenClaim := { program := "ytblneabjdbllbaa", sum := "a5efabebb770559ecdfbcb70d7a909f8fc62f42144552e131df61cdb9f63ec56", func := "casement/casementlaw23.MotionLies", spec := "motionLies", unfollowed := true, recurses := true, apart := false }
def MotionLiesSaid : Prop := motionLiesRow.holds Try.pinned (OpenSpec.ofChange motionLiesSpec)

/-- ITS FALSE NEIGHBOUR: 'it returns false'. Refute it at one input. -/
def motionLiesWrong : ChangeSpec := { name := "motionLies", fn := fun _ => fun
  | [d1, d2, d3] => { results := [.lit (.bool false)], args := [d1, d2, d3] }
  | _ => none }
def MotionLiesWrongFalsely : Prop := motionLiesRow.holds Try.pinned (OpenSpec.ofChange motionLiesWrong)

/-- 'casementlaw23.MotionNames': WHATEVER THE INPUT: true; the input reads as it did. -/
def motionNamesSpec : ChangeSpec := { name := "motionNames", fn := fun _ => fun
  | [] => { results := [.lit (.bool true)], args := [] }
  | _ => none }
def motionNamesRow : OpenClaim := { program := "ytblneabjdbllbaa", sum := "a5efabebb770559ecdfbcb70d7a909f8fc62f42144552e131df61cdb9f63ec56", func := "casement/casementlaw23.MotionNames", spec := "motionNames", unfollowed := true, recurses := true, apart := false }
def MotionNamesSaid : Prop := motionNamesRow.holds Try.pinned (OpenSpec.ofChange motionNamesSpec)

/-- ITS FALSE NEIGHBOUR: 'it returns false'. Refute it at one input. -/
def motionNamesWrong : ChangeSpec := { name := "motionNames", fn := fun _ => fun
  | [] => { results := [.lit (.bool false)], args := [] }
  | _ => none }
def MotionNamesWrongFalsely : Prop := motionNamesRow.holds Try.pinned (OpenSpec.ofChange motionNamesWrong)

/-- 'casementlaw23.MotionLists': WHATEVER THE INPUT: true; the input reads as it did. -/
def motionListsSpec : ChangeSpec := { name := "motionLists", fn := fun _ => fun
  | [d1, d2] => { results := [.lit (.bool true)], args := [d1, d2] }
  | _ => none }
def motionListsRow : OpenClaim := { program := "ytblneabjdbllbaa", sum := "a5efabebb770559ecdfbcb70d7a909f8fc62f42144552e131df61cdb9f63ec56", func := "casement/casementlaw23.MotionLists", spec := "motionLists", unfollowed := true, recurses := true, apart := false }
def MotionListsSaid : Prop := motionListsRow.holds Try.pinned (OpenSpec.ofChange motionListsSpec)

/-- ITS FALSE NEIGHBOUR: 'it returns false'. Refute it at one input. -/
def motionListsWrong : ChangeSpec := { name := "motionLists", fn := fun _ => fun
  | [d1, d2] => { results := [.lit (.bool false)], args := [d1, d2] }
  | _ => none }
def MotionListsWrongFalsely : Prop := motionListsRow.holds Try.pinned (OpenSpec.ofChange motionListsWrong)

/-- 'casementlaw23.MotionStays': WHATEVER THE INPUT: true; the input reads as it did. -/
def motionStaysSpec : ChangeSpec := { name := "motionStays", fn := fun _ => fun
  | [d1, d2] => { results := [.lit (.bool true)], args := [d1, d2] }
  | _ => none }
def motionStaysRow : OpenClaim := { program := "ytblneabjdbllbaa", sum := "a5efabebb770559ecdfbcb70d7a909f8fc62f42144552e131df61cdb9f63ec56", func := "casement/casementlaw23.MotionStays", spec := "motionStays", unfollowed := true, recurses := true, apart := false }
def MotionStaysSaid : Prop := motionStaysRow.holds Try.pinned (OpenSpec.ofChange motionStaysSpec)

/-- ITS FALSE NEIGHBOUR: 'it returns false'. Refute it at one input. -/
def motionStaysWrong : ChangeSpec := { name := "motionStays", fn := fun _ => fun
  | [d1, d2] => { results := [.lit (.bool false)], args := [d1, d2] }
  | _ => none }
def MotionStaysWrongFalsely : Prop := motionStaysRow.holds Try.pinned (OpenSpec.ofChange motionStaysWrong)

/- THE SECOND FORM. 'bulk': how many values and letters a reading holds, each counted each time it is reached (what is shared counts as often as it is met; a slice's spare places count too). A statement '..UptoSaid' is the law's where the arguments, and the package variables that the reading takes, are together of bulk at most 1048576: NARROWER than '..Said'. Prove '..Said' where nothing that the law and all that it calls make is longer than what came in: it says more and counts as full. Else prove '..UptoSaid'. A law counts once. -/
mutual
def uptoBulk {H : Type} : DataW H → Nat
  | .lit (.string bytes) => bytes.length + 1
  | .lit _ => 1
  | .nil => 1
  | .ptr d => uptoBulk d + 1
  | .slice elems spare => uptoBulkAll elems + uptoBulkAll spare + 1
  | .agg parts => uptoBulkAll parts + 1
  | .iface _ d => uptoBulk d + 1
  | .map entries => uptoBulkEntries entries + 1
  | .held _ => 1
def uptoBulkAll {H : Type} : List (DataW H) → Nat
  | [] => 0
  | d :: r => uptoBulk d + uptoBulkAll r
def uptoBulkEntries {H : Type} : List (Lit × DataW H) → Nat
  | [] => 0
  | x :: r => uptoBulkEntry x + uptoBulkEntries r
def uptoBulkEntry {H : Type} : Lit × DataW H → Nat
  | (.string bytes, d) => bytes.length + uptoBulk d + 1
  | (_, d) => uptoBulk d + 1
 end
def uptoSmall : (H : Type) → List (DataW H) → Bool := fun _ ds => decide (uptoBulkAll ds ≤ 1048576)
def OpenSpec.upto (s : _root_.Go.ChangeSpec) : _root_.Go.OpenSpec := { _root_.Go.OpenSpec.ofChange s with cond := some uptoSmall }

/-- 'casementlaw23.MotionOnes', WHERE WHAT IT READS IS OF BULK AT MOST 1048576: true; the input reads as it did. -/
def motionOnesUptoRow : OpenClaim := { program := "ytblneabjdbllbaa", sum := "a5efabebb770559ecdfbcb70d7a909f8fc62f42144552e131df61cdb9f63ec56", func := "casement/casementlaw23.MotionOnes", spec := "motionOnes", unfollowed := true, recurses := true, apart := false, narrowed := true }
def MotionOnesUptoSaid : Prop := motionOnesUptoRow.holds Try.pinned (OpenSpec.upto motionOnesSpec)

/-- 'casementlaw23.MotionBends', WHERE WHAT IT READS IS OF BULK AT MOST 1048576: true; the input reads as it did. -/
def motionBendsUptoRow : OpenClaim := { program := "ytblneabjdbllbaa", sum := "a5efabebb770559ecdfbcb70d7a909f8fc62f42144552e131df61cdb9f63ec56", func := "casement/casementlaw23.MotionBends", spec := "motionBends", unfollowed := true, recurses := true, apart := false, narrowed := true }
def MotionBendsUptoSaid : Prop := motionBendsUptoRow.holds Try.pinned (OpenSpec.upto motionBendsSpec)

/-- 'casementlaw23.MotionLies', WHERE WHAT IT READS IS OF BULK AT MOST 1048576: true; the input reads as it did. -/
def motionLiesUptoRow : OpenClaim := { program := "ytblneabjdbllbaa", sum := "a5efabebb770559ecdfbcb70d7a909f8fc62f42144552e131df61cdb9f63ec56", func := "casement/casementlaw23.MotionLies", spec := "motionLies", unfollowed := true, recurses := true, apart := false, narrowed := true }
def MotionLiesUptoSaid : Prop := motionLiesUptoRow.holds Try.pinned (OpenSpec.upto motionLiesSpec)

/-- 'casementlaw23.MotionNames', WHERE WHAT IT READS IS OF BULK AT MOST 1048576: true; the input reads as it did. -/
def motionNamesUptoRow : OpenClaim := { program := "ytblneabjdbllbaa", sum := "a5efabebb770559ecdfbcb70d7a909f8fc62f42144552e131df61cdb9f63ec56", func := "casement/casementlaw23.MotionNames", spec := "motionNames", unfollowed := true, recurses := true, apart := false, narrowed := true }
def MotionNamesUptoSaid : Prop := motionNamesUptoRow.holds Try.pinned (OpenSpec.upto motionNamesSpec)

/-- 'casementlaw23.MotionLists', WHERE WHAT IT READS IS OF BULK AT MOST 1048576: true; the input reads as it did. -/
def motionListsUptoRow : OpenClaim := { program := "ytblneabjdbllbaa", sum := "a5efabebb770559ecdfbcb70d7a909f8fc62f42144552e131df61cdb9f63ec56", func := "casement/casementlaw23.MotionLists", spec := "motionLists", unfollowed := true, recurses := true, apart := false, narrowed := true }
def MotionListsUptoSaid : Prop := motionListsUptoRow.holds Try.pinned (OpenSpec.upto motionListsSpec)

/-- 'casementlaw23.MotionStays', WHERE WHAT IT READS IS OF BULK AT MOST 1048576: true; the input reads as it did. -/
def motionStaysUptoRow : OpenClaim := { program := "ytblneabjdbllbaa", sum := "a5efabebb770559ecdfbcb70d7a909f8fc62f42144552e131df61cdb9f63ec56", func := "casement/casementlaw23.MotionStays", spec := "motionStays", unfollowed := true, recurses := true, apart := false, narrowed := true }
def MotionStaysUptoSaid : Prop := motionStaysUptoRow.holds Try.pinned (OpenSpec.upto motionStaysSpec)

end Rows
end Go.Proofs.Ytblneabjdbllbaa
