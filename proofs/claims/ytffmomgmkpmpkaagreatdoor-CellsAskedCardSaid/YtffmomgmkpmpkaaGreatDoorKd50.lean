/-
  Cells: a terminal reads a rune.
-/
import Derived.Laws.CopyOwn
import Derived.Laws.CopyRow
import Derived.Laws.IdiomCopy
import Derived.Test.YtffmomgmkpmpkaaGreatDoorProg
import Derived.Test.YtffmomgmkpmpkaaGreatDoorKd13
import Derived.Test.YtffmomgmkpmpkaaGreatDoorKd14
import Derived.Test.YtffmomgmkpmpkaaGreatDoorKd16
import Derived.Test.YtffmomgmkpmpkaaGreatDoorKd46
import Derived.Test.YtffmomgmkpmpkaaGreatDoorKd47
import Derived.Test.YtffmomgmkpmpkaaGreatDoorKd48
import Derived.Test.YtffmomgmkpmpkaaGreatDoorKd49
namespace Go.Proofs.YtffmomgmkpmpkaaGreatDoor
open Go.RowKit
set_option linter.unusedVariables false
attribute [local go_sem] vwp vUpon_value vUpon_skip vUpon_enter vUpon_row
set_option linter.unusedSimpArgs false
set_option linter.unusedVariables false
theorem rcell_any (wd ht : Int) (cs : List Ce) (v : Value) (t : Tm) (c : UInt8) (r : List UInt8) (b base : Nat) (w : World) (hB : Blk w b (tmC wd ht v t) 97) (hv : OwnsC base w v cs) (hfit : fitsS wd ht = true) (hlen : (cs.length : Int) = wd * ht) (hl : r.length < 1048576) (hD : DecT w) :
    Calls Tryz.prog 54 #[.pointer (some ⟨b, 0, none⟩), .string (strL (c :: r))] w fun e w' => e = .returned (.int .i64 (cellN (cellP wd ht cs t (c :: r)))) ∧
      TmO base b wd ht v (cellC cs (cellP wd ht cs t (c :: r))) (cellT t (cellP wd ht cs t (c :: r))) w' ∧ KeptBut (fun k => k = b ∨ v.ownBlock = some k) w w' := by
  by_cases h14 : c = 14
  · exact rcell_14 wd ht cs v t c r b base w h14 hB hv hfit hlen hl hD
  · by_cases h15 : c = 15
    · exact rcell_15 wd ht cs v t c r b base w h15 hB hv hfit hlen hl hD
    · exact rcell_no wd ht cs v t c r b base w ⟨h14, h15⟩ hB hv hfit hlen hl hD
end Go.Proofs.YtffmomgmkpmpkaaGreatDoor
