/-
  NARROWER THAN 'FOR EVERY INPUT', by the rows' own cells (each row's printed sentence says how): TopDamaged: laid · DamageNames: laid · DamageTwos: laid · DamageMends: laid · DamageChanges: laid · DamageNodes: laid · DamageMended: laid · DamageNone: laid.
  DERIVED. THE GIVEN ROWS OF THIS SEAT. 8 by the template 'for every input the law returns true; each argument reads behind the call as it read before'; 0 by the template 'total and deterministic' (their statements: YtfcphagmjijmkaaGreatDoorTotals.lean).
  GIVEN WITH THE SEED: the statements are not yours to turn. If you find one false, say at which input.
  Laid BY PROGRAM, IN A SANDBOX (cutbox-rows.mjs): the forced cells as the released guide's own fill.sh prints them over the translation 8f4cd5ab12b655b7… (all of the seat's roots in one cut). By AI agents, Wed Nov 11 2026. No macro, syntax, notation, axiom, sorry.
-/
import Derived.Test.YtfcphagmjijmkaaGreatDoorChecked
import GoSem.PinnedTables
import GoSem.Claim
import GoSem.ClaimJoined
import GoSem.ClaimMapViews
import Derived.JoinedTies
import Derived.KernelRfl
namespace Go.Proofs.YtfcphagmjijmkaaGreatDoor
/- THE CELL 'sum', in the pinned program and in every row, IS THE sha256 OF THE DUMP (.gsa) THAT YtfcphagmjijmkaaGreatDoorProg.lean LOADS. Nothing in Lean hashes anything: it is a label: what it is worth is what the hold of that sum in a sandbox is worth. -/
noncomputable def Tryz.pinned : Pinned := { name := "ytfcphagmjijmkaagreatdoor", sum := "8f4cd5ab12b655b7156bf0535daa55d3f3ee8b01cb573641805f231c35ded22f", checked := Tryz.checked }
namespace Rows
def none {H : Type} : Left H := { results := [], args := [] }

/- WHAT THE LISTED PACKAGE-LEVEL VARIABLES READ AS WHEN THE CALL BEGINS. Each datum BY PROGRAM (the guide's laid-datum.mjs) off the statement by which the dump's own 'gosem.cut.vars' lays the variable. In a bare row this is a premise. The card (YtfcphagmjijmkaaGreatDoorCards.lean) ties it to the program's text. -/
def laid_math_bits_deBruijn32tab {H : Type} : DataW H := .agg [.lit (.int .u8 0), .lit (.int .u8 1), .lit (.int .u8 28), .lit (.int .u8 2), .lit (.int .u8 29), .lit (.int .u8 14), .lit (.int .u8 24), .lit (.int .u8 3), .lit (.int .u8 30), .lit (.int .u8 22), .lit (.int .u8 20), .lit (.int .u8 15), .lit (.int .u8 25), .lit (.int .u8 17), .lit (.int .u8 4), .lit (.int .u8 8), .lit (.int .u8 31), .lit (.int .u8 27), .lit (.int .u8 13), .lit (.int .u8 23), .lit (.int .u8 21), .lit (.int .u8 19), .lit (.int .u8 16), .lit (.int .u8 7), .lit (.int .u8 26), .lit (.int .u8 12), .lit (.int .u8 18), .lit (.int .u8 6), .lit (.int .u8 11), .lit (.int .u8 5), .lit (.int .u8 10), .lit (.int .u8 9)]
def laid_math_bits_deBruijn64tab {H : Type} : DataW H := .agg [.lit (.int .u8 0), .lit (.int .u8 1), .lit (.int .u8 56), .lit (.int .u8 2), .lit (.int .u8 57), .lit (.int .u8 49), .lit (.int .u8 28), .lit (.int .u8 3), .lit (.int .u8 61), .lit (.int .u8 58), .lit (.int .u8 42), .lit (.int .u8 50), .lit (.int .u8 38), .lit (.int .u8 29), .lit (.int .u8 17), .lit (.int .u8 4), .lit (.int .u8 62), .lit (.int .u8 47), .lit (.int .u8 59), .lit (.int .u8 36), .lit (.int .u8 45), .lit (.int .u8 43), .lit (.int .u8 51), .lit (.int .u8 22), .lit (.int .u8 53), .lit (.int .u8 39), .lit (.int .u8 33), .lit (.int .u8 30), .lit (.int .u8 24), .lit (.int .u8 18), .lit (.int .u8 12), .lit (.int .u8 5), .lit (.int .u8 63), .lit (.int .u8 55), .lit (.int .u8 48), .lit (.int .u8 27), .lit (.int .u8 60), .lit (.int .u8 41), .lit (.int .u8 37), .lit (.int .u8 16), .lit (.int .u8 46), .lit (.int .u8 35), .lit (.int .u8 44), .lit (.int .u8 21), .lit (.int .u8 52), .lit (.int .u8 32), .lit (.int .u8 23), .lit (.int .u8 11), .lit (.int .u8 54), .lit (.int .u8 26), .lit (.int .u8 40), .lit (.int .u8 15), .lit (.int .u8 34), .lit (.int .u8 20), .lit (.int .u8 31), .lit (.int .u8 10), .lit (.int .u8 25), .lit (.int .u8 14), .lit (.int .u8 19), .lit (.int .u8 9), .lit (.int .u8 13), .lit (.int .u8 8), .lit (.int .u8 7), .lit (.int .u8 6)]
def laid_internal_strconv_uint64pow10 {H : Type} : DataW H := .agg [.lit (.int .u64 1), .lit (.int .u64 10), .lit (.int .u64 100), .lit (.int .u64 1000), .lit (.int .u64 10000), .lit (.int .u64 100000), .lit (.int .u64 1000000), .lit (.int .u64 10000000), .lit (.int .u64 100000000), .lit (.int .u64 1000000000), .lit (.int .u64 10000000000), .lit (.int .u64 100000000000), .lit (.int .u64 1000000000000), .lit (.int .u64 10000000000000), .lit (.int .u64 100000000000000), .lit (.int .u64 1000000000000000), .lit (.int .u64 10000000000000000), .lit (.int .u64 100000000000000000), .lit (.int .u64 1000000000000000000), .lit (.int .u64 10000000000000000000)]
def laid_unicode_utf8_acceptRanges {H : Type} : DataW H := .agg [.agg [.lit (.int .u8 128), .lit (.int .u8 191)], .agg [.lit (.int .u8 160), .lit (.int .u8 191)], .agg [.lit (.int .u8 128), .lit (.int .u8 159)], .agg [.lit (.int .u8 144), .lit (.int .u8 191)], .agg [.lit (.int .u8 128), .lit (.int .u8 143)], .agg [.lit (.int .u8 0), .lit (.int .u8 0)], .agg [.lit (.int .u8 0), .lit (.int .u8 0)], .agg [.lit (.int .u8 0), .lit (.int .u8 0)], .agg [.lit (.int .u8 0), .lit (.int .u8 0)], .agg [.lit (.int .u8 0), .lit (.int .u8 0)], .agg [.lit (.int .u8 0), .lit (.int .u8 0)], .agg [.lit (.int .u8 0), .lit (.int .u8 0)], .agg [.lit (.int .u8 0), .lit (.int .u8 0)], .agg [.lit (.int .u8 0), .lit (.int .u8 0)], .agg [.lit (.int .u8 0), .lit (.int .u8 0)], .agg [.lit (.int .u8 0), .lit (.int .u8 0)]]
/-- One of Go's own tables, pinned by name: the form's constant. -/
def laid_unicode_utf8_first : DataW Unit := Go.Pinned.utf8First

/-- 'casementtop.TopDamaged': WHATEVER THE INPUT: true; the input reads as it did. -/
def topDamagedSpec : ChangeSpec := { name := "topDamaged", fn := fun _ => fun
  | [d1, d2, d3] => { results := [.lit (.bool true)], args := [d1, d2, d3] }
  | _ => none }
def topDamagedRow : OpenClaim := { program := "ytfcphagmjijmkaagreatdoor", sum := "8f4cd5ab12b655b7156bf0535daa55d3f3ee8b01cb573641805f231c35ded22f", func := "casement/casementtop.TopDamaged", spec := "topDamaged", inPlace := ["internal/bytealg.IndexByteString", "internal/bytealg.IndexString", "internal/abi.NoEscape"], unfollowed := true, recurses := true, named := ["unicode/utf8.first", "unicode/utf8.acceptRanges", "internal/bytealg.MaxLen", "internal/strconv.uint64pow10", "math/bits.deBruijn32tab", "math/bits.deBruijn64tab"], plainKeys := false, apart := false, laid := [("math/bits.deBruijn32tab", laid_math_bits_deBruijn32tab), ("math/bits.deBruijn64tab", laid_math_bits_deBruijn64tab), ("internal/strconv.uint64pow10", laid_internal_strconv_uint64pow10), ("unicode/utf8.acceptRanges", laid_unicode_utf8_acceptRanges), ("unicode/utf8.first", laid_unicode_utf8_first)] }
def TopDamagedSaid : Prop := topDamagedRow.holds Tryz.pinned (OpenSpec.ofChange topDamagedSpec)

/-- ITS FALSE NEIGHBOUR: 'it returns false'. Refute it at one input. -/
def topDamagedWrong : ChangeSpec := { name := "topDamaged", fn := fun _ => fun
  | [d1, d2, d3] => { results := [.lit (.bool false)], args := [d1, d2, d3] }
  | _ => none }
def TopDamagedWrongFalsely : Prop := topDamagedRow.holds Tryz.pinned (OpenSpec.ofChange topDamagedWrong)

/-- 'casementlaw17.DamageNames': WHATEVER THE INPUT: true; the input reads as it did. -/
def damageNamesSpec : ChangeSpec := { name := "damageNames", fn := fun _ => fun
  | [] => { results := [.lit (.bool true)], args := [] }
  | _ => none }
def damageNamesRow : OpenClaim := { program := "ytfcphagmjijmkaagreatdoor", sum := "8f4cd5ab12b655b7156bf0535daa55d3f3ee8b01cb573641805f231c35ded22f", func := "casement/casementlaw17.DamageNames", spec := "damageNames", inPlace := ["internal/bytealg.IndexByteString", "internal/bytealg.IndexString"], unfollowed := true, recurses := true, named := ["unicode/utf8.first", "unicode/utf8.acceptRanges", "internal/bytealg.MaxLen"], plainKeys := false, apart := false, laid := [("unicode/utf8.acceptRanges", laid_unicode_utf8_acceptRanges), ("unicode/utf8.first", laid_unicode_utf8_first)] }
def DamageNamesSaid : Prop := damageNamesRow.holds Tryz.pinned (OpenSpec.ofChange damageNamesSpec)

/-- ITS FALSE NEIGHBOUR: 'it returns false'. Refute it at one input. -/
def damageNamesWrong : ChangeSpec := { name := "damageNames", fn := fun _ => fun
  | [] => { results := [.lit (.bool false)], args := [] }
  | _ => none }
def DamageNamesWrongFalsely : Prop := damageNamesRow.holds Tryz.pinned (OpenSpec.ofChange damageNamesWrong)

/-- 'casementlaw17.DamageTwos': WHATEVER THE INPUT: true; the input reads as it did. -/
def damageTwosSpec : ChangeSpec := { name := "damageTwos", fn := fun _ => fun
  | [d1, d2] => { results := [.lit (.bool true)], args := [d1, d2] }
  | _ => none }
def damageTwosRow : OpenClaim := { program := "ytfcphagmjijmkaagreatdoor", sum := "8f4cd5ab12b655b7156bf0535daa55d3f3ee8b01cb573641805f231c35ded22f", func := "casement/casementlaw17.DamageTwos", spec := "damageTwos", inPlace := ["internal/bytealg.IndexByteString", "internal/bytealg.IndexString"], unfollowed := true, recurses := true, named := ["unicode/utf8.first", "unicode/utf8.acceptRanges", "internal/bytealg.MaxLen"], plainKeys := false, apart := false, laid := [("unicode/utf8.acceptRanges", laid_unicode_utf8_acceptRanges), ("unicode/utf8.first", laid_unicode_utf8_first)] }
def DamageTwosSaid : Prop := damageTwosRow.holds Tryz.pinned (OpenSpec.ofChange damageTwosSpec)

/-- ITS FALSE NEIGHBOUR: 'it returns false'. Refute it at one input. -/
def damageTwosWrong : ChangeSpec := { name := "damageTwos", fn := fun _ => fun
  | [d1, d2] => { results := [.lit (.bool false)], args := [d1, d2] }
  | _ => none }
def DamageTwosWrongFalsely : Prop := damageTwosRow.holds Tryz.pinned (OpenSpec.ofChange damageTwosWrong)

/-- 'casementlaw17.DamageMends': WHATEVER THE INPUT: true; the input reads as it did. -/
def damageMendsSpec : ChangeSpec := { name := "damageMends", fn := fun _ => fun
  | [d1, d2, d3] => { results := [.lit (.bool true)], args := [d1, d2, d3] }
  | _ => none }
def damageMendsRow : OpenClaim := { program := "ytfcphagmjijmkaagreatdoor", sum := "8f4cd5ab12b655b7156bf0535daa55d3f3ee8b01cb573641805f231c35ded22f", func := "casement/casementlaw17.DamageMends", spec := "damageMends", inPlace := ["internal/bytealg.IndexByteString", "internal/bytealg.IndexString"], unfollowed := true, recurses := true, named := ["unicode/utf8.first", "unicode/utf8.acceptRanges", "internal/bytealg.MaxLen"], plainKeys := false, apart := false, laid := [("unicode/utf8.acceptRanges", laid_unicode_utf8_acceptRanges), ("unicode/utf8.first", laid_unicode_utf8_first)] }
def DamageMendsSaid : Prop := damageMendsRow.holds Tryz.pinned (OpenSpec.ofChange damageMendsSpec)

/-- ITS FALSE NEIGHBOUR: 'it returns false'. Refute it at one input. -/
def damageMendsWrong : ChangeSpec := { name := "damageMends", fn := fun _ => fun
  | [d1, d2, d3] => { results := [.lit (.bool false)], args := [d1, d2, d3] }
  | _ => none }
def DamageMendsWrongFalsely : Prop := damageMendsRow.holds Tryz.pinned (OpenSpec.ofChange damageMendsWrong)

/-- 'casementlaw17.DamageChanges': WHATEVER THE INPUT: true; the input reads as it did. -/
def damageChangesSpec : ChangeSpec := { name := "damageChanges", fn := fun _ => fun
  | [d1, d2] => { results := [.lit (.bool true)], args := [d1, d2] }
  | _ => none }
def damageChangesRow : OpenClaim := { program := "ytfcphagmjijmkaagreatdoor", sum := "8f4cd5ab12b655b7156bf0535daa55d3f3ee8b01cb573641805f231c35ded22f", func := "casement/casementlaw17.DamageChanges", spec := "damageChanges", inPlace := ["internal/bytealg.IndexByteString", "internal/bytealg.IndexString"], unfollowed := true, recurses := true, named := ["unicode/utf8.first", "unicode/utf8.acceptRanges", "internal/bytealg.MaxLen"], plainKeys := false, apart := false, laid := [("unicode/utf8.acceptRanges", laid_unicode_utf8_acceptRanges), ("unicode/utf8.first", laid_unicode_utf8_first)] }
def DamageChangesSaid : Prop := damageChangesRow.holds Tryz.pinned (OpenSpec.ofChange damageChangesSpec)

/-- ITS FALSE NEIGHBOUR: 'it returns false'. Refute it at one input. -/
def damageChangesWrong : ChangeSpec := { name := "damageChanges", fn := fun _ => fun
  | [d1, d2] => { results := [.lit (.bool false)], args := [d1, d2] }
  | _ => none }
def DamageChangesWrongFalsely : Prop := damageChangesRow.holds Tryz.pinned (OpenSpec.ofChange damageChangesWrong)

/-- 'casementlaw17.DamageNodes': WHATEVER THE INPUT: true; the input reads as it did. -/
def damageNodesSpec : ChangeSpec := { name := "damageNodes", fn := fun _ => fun
  | [d1, d2] => { results := [.lit (.bool true)], args := [d1, d2] }
  | _ => none }
def damageNodesRow : OpenClaim := { program := "ytfcphagmjijmkaagreatdoor", sum := "8f4cd5ab12b655b7156bf0535daa55d3f3ee8b01cb573641805f231c35ded22f", func := "casement/casementlaw17.DamageNodes", spec := "damageNodes", inPlace := ["internal/bytealg.IndexByteString", "internal/bytealg.IndexString"], unfollowed := true, recurses := true, named := ["unicode/utf8.first", "unicode/utf8.acceptRanges", "internal/bytealg.MaxLen"], plainKeys := false, apart := false, laid := [("unicode/utf8.acceptRanges", laid_unicode_utf8_acceptRanges), ("unicode/utf8.first", laid_unicode_utf8_first)] }
def DamageNodesSaid : Prop := damageNodesRow.holds Tryz.pinned (OpenSpec.ofChange damageNodesSpec)

/-- ITS FALSE NEIGHBOUR: 'it returns false'. Refute it at one input. -/
def damageNodesWrong : ChangeSpec := { name := "damageNodes", fn := fun _ => fun
  | [d1, d2] => { results := [.lit (.bool false)], args := [d1, d2] }
  | _ => none }
def DamageNodesWrongFalsely : Prop := damageNodesRow.holds Tryz.pinned (OpenSpec.ofChange damageNodesWrong)

/-- 'casementlaw17.DamageMended': WHATEVER THE INPUT: true; the input reads as it did. -/
def damageMendedSpec : ChangeSpec := { name := "damageMended", fn := fun _ => fun
  | [d1, d2, d3, d4] => { results := [.lit (.bool true)], args := [d1, d2, d3, d4] }
  | _ => none }
def damageMendedRow : OpenClaim := { program := "ytfcphagmjijmkaagreatdoor", sum := "8f4cd5ab12b655b7156bf0535daa55d3f3ee8b01cb573641805f231c35ded22f", func := "casement/casementlaw17.DamageMended", spec := "damageMended", inPlace := ["internal/bytealg.IndexByteString", "internal/bytealg.IndexString"], unfollowed := true, recurses := true, named := ["unicode/utf8.first", "unicode/utf8.acceptRanges", "internal/bytealg.MaxLen"], plainKeys := false, apart := false, laid := [("unicode/utf8.acceptRanges", laid_unicode_utf8_acceptRanges), ("unicode/utf8.first", laid_unicode_utf8_first)] }
def DamageMendedSaid : Prop := damageMendedRow.holds Tryz.pinned (OpenSpec.ofChange damageMendedSpec)

/-- ITS FALSE NEIGHBOUR: 'it returns false'. Refute it at one input. -/
def damageMendedWrong : ChangeSpec := { name := "damageMended", fn := fun _ => fun
  | [d1, d2, d3, d4] => { results := [.lit (.bool false)], args := [d1, d2, d3, d4] }
  | _ => none }
def DamageMendedWrongFalsely : Prop := damageMendedRow.holds Tryz.pinned (OpenSpec.ofChange damageMendedWrong)

/-- 'casementlaw17.DamageNone': WHATEVER THE INPUT: true; the input reads as it did. -/
def damageNoneSpec : ChangeSpec := { name := "damageNone", fn := fun _ => fun
  | [d1, d2] => { results := [.lit (.bool true)], args := [d1, d2] }
  | _ => none }
def damageNoneRow : OpenClaim := { program := "ytfcphagmjijmkaagreatdoor", sum := "8f4cd5ab12b655b7156bf0535daa55d3f3ee8b01cb573641805f231c35ded22f", func := "casement/casementlaw17.DamageNone", spec := "damageNone", inPlace := ["internal/bytealg.IndexByteString", "internal/bytealg.IndexString"], unfollowed := true, recurses := true, named := ["unicode/utf8.first", "unicode/utf8.acceptRanges", "internal/bytealg.MaxLen"], plainKeys := false, apart := false, laid := [("unicode/utf8.acceptRanges", laid_unicode_utf8_acceptRanges), ("unicode/utf8.first", laid_unicode_utf8_first)] }
def DamageNoneSaid : Prop := damageNoneRow.holds Tryz.pinned (OpenSpec.ofChange damageNoneSpec)

/-- ITS FALSE NEIGHBOUR: 'it returns false'. Refute it at one input. -/
def damageNoneWrong : ChangeSpec := { name := "damageNone", fn := fun _ => fun
  | [d1, d2] => { results := [.lit (.bool false)], args := [d1, d2] }
  | _ => none }
def DamageNoneWrongFalsely : Prop := damageNoneRow.holds Tryz.pinned (OpenSpec.ofChange damageNoneWrong)

/- THE SECOND FORM. 'bulk': how many values and letters a reading holds, each counted each time it is reached (what is shared counts as often as it is met; a slice's spare places count too). A statement '..UptoSaid' is the law's where the arguments, and the package variables that the reading takes, are together of bulk at most 1048576: NARROWER than '..Said'. Prove '..Said' where nothing that the law and all that it calls make is longer than what came in: it says more and counts as full. Else prove '..UptoSaid'. A law counts once. -/
mutual
def uptoBulk {H : Type} : DataW H → Nat
  | .lit (.string bytes) => bytes.length + 1
  | .lit _ => 1
  | .nil => 1
  | .ptr d => uptoBulk d + 1
  | .slice elems spare => uptoBulkAll elems + uptoBulkAll spare + 1
  | .agg parts => uptoBulkAll parts + 1
  | .iface _ d => uptoBulk d + 1
  | .map entries => uptoBulkEntries entries + 1
  | .held _ => 1
def uptoBulkAll {H : Type} : List (DataW H) → Nat
  | [] => 0
  | d :: r => uptoBulk d + uptoBulkAll r
def uptoBulkEntries {H : Type} : List (Lit × DataW H) → Nat
  | [] => 0
  | x :: r => uptoBulkEntry x + uptoBulkEntries r
def uptoBulkEntry {H : Type} : Lit × DataW H → Nat
  | (.string bytes, d) => bytes.length + uptoBulk d + 1
  | (_, d) => uptoBulk d + 1
 end
def uptoSmall : (H : Type) → List (DataW H) → Bool := fun _ ds => decide (uptoBulkAll ds ≤ 1048576)
def OpenSpec.upto (s : _root_.Go.ChangeSpec) : _root_.Go.OpenSpec := { _root_.Go.OpenSpec.ofChange s with cond := some uptoSmall }

/-- 'casementtop.TopDamaged', WHERE WHAT IT READS IS OF BULK AT MOST 1048576: true; the input reads as it did. -/
def topDamagedUptoRow : OpenClaim := { program := "ytfcphagmjijmkaagreatdoor", sum := "8f4cd5ab12b655b7156bf0535daa55d3f3ee8b01cb573641805f231c35ded22f", func := "casement/casementtop.TopDamaged", spec := "topDamaged", inPlace := ["internal/bytealg.IndexByteString", "internal/bytealg.IndexString", "internal/abi.NoEscape"], unfollowed := true, recurses := true, named := ["unicode/utf8.first", "unicode/utf8.acceptRanges", "internal/bytealg.MaxLen", "internal/strconv.uint64pow10", "math/bits.deBruijn32tab", "math/bits.deBruijn64tab"], plainKeys := false, apart := false, laid := [("math/bits.deBruijn32tab", laid_math_bits_deBruijn32tab), ("math/bits.deBruijn64tab", laid_math_bits_deBruijn64tab), ("internal/strconv.uint64pow10", laid_internal_strconv_uint64pow10), ("unicode/utf8.acceptRanges", laid_unicode_utf8_acceptRanges), ("unicode/utf8.first", laid_unicode_utf8_first)], narrowed := true }
def TopDamagedUptoSaid : Prop := topDamagedUptoRow.holds Tryz.pinned (OpenSpec.upto topDamagedSpec)

/-- 'casementlaw17.DamageNames', WHERE WHAT IT READS IS OF BULK AT MOST 1048576: true; the input reads as it did. -/
def damageNamesUptoRow : OpenClaim := { program := "ytfcphagmjijmkaagreatdoor", sum := "8f4cd5ab12b655b7156bf0535daa55d3f3ee8b01cb573641805f231c35ded22f", func := "casement/casementlaw17.DamageNames", spec := "damageNames", inPlace := ["internal/bytealg.IndexByteString", "internal/bytealg.IndexString"], unfollowed := true, recurses := true, named := ["unicode/utf8.first", "unicode/utf8.acceptRanges", "internal/bytealg.MaxLen"], plainKeys := false, apart := false, laid := [("unicode/utf8.acceptRanges", laid_unicode_utf8_acceptRanges), ("unicode/utf8.first", laid_unicode_utf8_first)], narrowed := true }
def DamageNamesUptoSaid : Prop := damageNamesUptoRow.holds Tryz.pinned (OpenSpec.upto damageNamesSpec)

/-- 'casementlaw17.DamageTwos', WHERE WHAT IT READS IS OF BULK AT MOST 1048576: true; the input reads as it did. -/
def damageTwosUptoRow : OpenClaim := { program := "ytfcphagmjijmkaagreatdoor", sum := "8f4cd5ab12b655b7156bf0535daa55d3f3ee8b01cb573641805f231c35ded22f", func := "casement/casementlaw17.DamageTwos", spec := "damageTwos", inPlace := ["internal/bytealg.IndexByteString", "internal/bytealg.IndexString"], unfollowed := true, recurses := true, named := ["unicode/utf8.first", "unicode/utf8.acceptRanges", "internal/bytealg.MaxLen"], plainKeys := false, apart := false, laid := [("unicode/utf8.acceptRanges", laid_unicode_utf8_acceptRanges), ("unicode/utf8.first", laid_unicode_utf8_first)], narrowed := true }
def DamageTwosUptoSaid : Prop := damageTwosUptoRow.holds Tryz.pinned (OpenSpec.upto damageTwosSpec)

/-- 'casementlaw17.DamageMends', WHERE WHAT IT READS IS OF BULK AT MOST 1048576: true; the input reads as it did. -/
def damageMendsUptoRow : OpenClaim := { program := "ytfcphagmjijmkaagreatdoor", sum := "8f4cd5ab12b655b7156bf0535daa55d3f3ee8b01cb573641805f231c35ded22f", func := "casement/casementlaw17.DamageMends", spec := "damageMends", inPlace := ["internal/bytealg.IndexByteString", "internal/bytealg.IndexString"], unfollowed := true, recurses := true, named := ["unicode/utf8.first", "unicode/utf8.acceptRanges", "internal/bytealg.MaxLen"], plainKeys := false, apart := false, laid := [("unicode/utf8.acceptRanges", laid_unicode_utf8_acceptRanges), ("unicode/utf8.first", laid_unicode_utf8_first)], narrowed := true }
def DamageMendsUptoSaid : Prop := damageMendsUptoRow.holds Tryz.pinned (OpenSpec.upto damageMendsSpec)

/-- 'casementlaw17.DamageChanges', WHERE WHAT IT READS IS OF BULK AT MOST 1048576: true; the input reads as it did. -/
def damageChangesUptoRow : OpenClaim := { program := "ytfcphagmjijmkaagreatdoor", sum := "8f4cd5ab12b655b7156bf0535daa55d3f3ee8b01cb573641805f231c35ded22f", func := "casement/casementlaw17.DamageChanges", spec := "damageChanges", inPlace := ["internal/bytealg.IndexByteString", "internal/bytealg.IndexString"], unfollowed := true, recurses := true, named := ["unicode/utf8.first", "unicode/utf8.acceptRanges", "internal/bytealg.MaxLen"], plainKeys := false, apart := false, laid := [("unicode/utf8.acceptRanges", laid_unicode_utf8_acceptRanges), ("unicode/utf8.first", laid_unicode_utf8_first)], narrowed := true }
def DamageChangesUptoSaid : Prop := damageChangesUptoRow.holds Tryz.pinned (OpenSpec.upto damageChangesSpec)

/-- 'casementlaw17.DamageNodes', WHERE WHAT IT READS IS OF BULK AT MOST 1048576: true; the input reads as it did. -/
def damageNodesUptoRow : OpenClaim := { program := "ytfcphagmjijmkaagreatdoor", sum := "8f4cd5ab12b655b7156bf0535daa55d3f3ee8b01cb573641805f231c35ded22f", func := "casement/casementlaw17.DamageNodes", spec := "damageNodes", inPlace := ["internal/bytealg.IndexByteString", "internal/bytealg.IndexString"], unfollowed := true, recurses := true, named := ["unicode/utf8.first", "unicode/utf8.acceptRanges", "internal/bytealg.MaxLen"], plainKeys := false, apart := false, laid := [("unicode/utf8.acceptRanges", laid_unicode_utf8_acceptRanges), ("unicode/utf8.first", laid_unicode_utf8_first)], narrowed := true }
def DamageNodesUptoSaid : Prop := damageNodesUptoRow.holds Tryz.pinned (OpenSpec.upto damageNodesSpec)

/-- 'casementlaw17.DamageMended', WHERE WHAT IT READS IS OF BULK AT MOST 1048576: true; the input reads as it did. -/
def damageMendedUptoRow : OpenClaim := { program := "ytfcphagmjijmkaagreatdoor", sum := "8f4cd5ab12b655b7156bf0535daa55d3f3ee8b01cb573641805f231c35ded22f", func := "casement/casementlaw17.DamageMended", spec := "damageMended", inPlace := ["internal/bytealg.IndexByteString", "internal/bytealg.IndexString"], unfollowed := true, recurses := true, named := ["unicode/utf8.first", "unicode/utf8.acceptRanges", "internal/bytealg.MaxLen"], plainKeys := false, apart := false, laid := [("unicode/utf8.acceptRanges", laid_unicode_utf8_acceptRanges), ("unicode/utf8.first", laid_unicode_utf8_first)], narrowed := true }
def DamageMendedUptoSaid : Prop := damageMendedUptoRow.holds Tryz.pinned (OpenSpec.upto damageMendedSpec)

/-- 'casementlaw17.DamageNone', WHERE WHAT IT READS IS OF BULK AT MOST 1048576: true; the input reads as it did. -/
def damageNoneUptoRow : OpenClaim := { program := "ytfcphagmjijmkaagreatdoor", sum := "8f4cd5ab12b655b7156bf0535daa55d3f3ee8b01cb573641805f231c35ded22f", func := "casement/casementlaw17.DamageNone", spec := "damageNone", inPlace := ["internal/bytealg.IndexByteString", "internal/bytealg.IndexString"], unfollowed := true, recurses := true, named := ["unicode/utf8.first", "unicode/utf8.acceptRanges", "internal/bytealg.MaxLen"], plainKeys := false, apart := false, laid := [("unicode/utf8.acceptRanges", laid_unicode_utf8_acceptRanges), ("unicode/utf8.first", laid_unicode_utf8_first)], narrowed := true }
def DamageNoneUptoSaid : Prop := damageNoneUptoRow.holds Tryz.pinned (OpenSpec.upto damageNoneSpec)

end Rows
end Go.Proofs.YtfcphagmjijmkaaGreatDoor
