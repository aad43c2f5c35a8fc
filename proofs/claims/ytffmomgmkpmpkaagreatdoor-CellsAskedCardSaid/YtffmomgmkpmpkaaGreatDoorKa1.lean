/-
  XGa: XLisA XLisB XLisC XLisD XLisE XRegP XRegQ XRegR XRegPa.
-/
import Derived.Below
import Derived.ChangeSame
import Derived.Deep.DeepCutAuto
import Derived.Deep.Fields
import Derived.Deep.RegionHeld3
import Derived.Deep.Slices
import Derived.IntWalk
import Derived.KernelRfl
import Derived.Laws.AppendOwnNone
import Derived.Laws.BitsLemmas
import Derived.Laws.CopyOwn
import Derived.Laws.CopyRow
import Derived.Laws.EntriesVeiled
import Derived.Laws.Externs
import Derived.Laws.IdiomCopy
import Derived.Laws.MakeOwn
import Derived.Laws.OwnMore
import Derived.Laws.StructEq
import Derived.Lib.AppendIntMem
import Derived.Lib.Bytealg
import Derived.Lib.DecodeNEq
import Derived.Lib.Hide
import Derived.Lib.IndexBytes
import Derived.Lib.LaidTab
import Derived.Lib.LaidU8T
import Derived.Lib.OthersKept
import Derived.Lib.SmallJoins
import Derived.LoopIn
import Derived.LoopNIn
import Derived.Maps.AppendAt
import Derived.OneCell
import Derived.OrdersHeld
import Derived.OwnWalk
import Derived.OwnWalkIn
import Derived.RangeFuncBound
import Derived.RangeFuncCalls
import Derived.RangeFuncLeaves
import Derived.RangeFuncNested
import Derived.ScopeJumps
import Derived.Shelf.Bits.Mul64
import Derived.Shelf.LaysM
import Derived.Shelf.RegionOpen
import Derived.Shelf.SlSortCmp.NoneTotal
import Derived.Shelf.SlSortCmp.WholeK
import Derived.Shelf.Slices.CompactI
import Derived.Shelf.Slices.In.SortNone
import Derived.Shelf.Small.Bits
import Derived.Shelf.Small.Wraps
import Derived.Shelf.Sort.Plain
import Derived.Shelf.Spec.SlicesInsert
import Derived.Shelf.Strconv.Itoa0
import Derived.Shelf.Strconv.Itoa1
import Derived.Shelf.Strconv.Itoa2
import Derived.Shelf.Strconv.Itoa3
import Derived.Shelf.Strings.Builder1
import Derived.Shelf.Strings.BuilderCap
import Derived.Shelf.Strings.BuilderF
import Derived.Shelf.Strings.BuilderK
import Derived.Shelf.Strings.BuilderRune
import Derived.Shelf.Strings.Prefix
import Derived.Shelf.Unicode.Decode
import Derived.Shelf.Unicode.DecodeAny
import Derived.Shelf.Unicode.DecodeSlow
import Derived.Shelf.Utf8.AppendRune
import Derived.Shelf.Utf8.AppendRunePlain
import Derived.SizedLaws
import Derived.Sort.OwnSortedInts
import Derived.StillTail
import Derived.Tactics2
import Derived.TacticsInMore
import Derived.WalkKit
import Derived.WalkLawsBesides
import Derived.WalkSpells
import Derived.Test.YtffmomgmkpmpkaaGreatDoorKd35
import Derived.Test.YtffmomgmkpmpkaaGreatDoorKd40
import Derived.Test.YtffmomgmkpmpkaaGreatDoorKd50
import Derived.Test.YtffmomgmkpmpkaaGreatDoorProg
namespace Go.Proofs.YtffmomgmkpmpkaaGreatDoor
open Go.RowKit
set_option linter.unusedVariables false
attribute [local go_sem] vwp vUpon_value vUpon_skip vUpon_enter vUpon_row
set_option linter.unusedSimpArgs false
set_option linter.unusedVariables false
section
set_option linter.unusedSimpArgs false
instance : Inhabited Re := ⟨⟨0, 0, 0, 0⟩⟩
end
section
set_option linter.unusedSimpArgs false
set_option linter.unusedVariables false
instance : Inhabited St := ⟨⟨0, default, ⟨0, 0, 0, 0⟩, ⟨0, 0, 0, 0⟩, default, 0⟩⟩
end
end Go.Proofs.YtffmomgmkpmpkaaGreatDoor

namespace Go.Proofs.YtffmomgmkpmpkaaGreatDoor
open Go.RowKit
set_option linter.unusedVariables false
attribute [local go_sem] vwp vUpon_value vUpon_skip vUpon_enter vUpon_row
set_option linter.unusedSimpArgs false
set_option linter.unusedVariables false
instance : Inhabited Gl := ⟨⟨0, false, false⟩⟩
end Go.Proofs.YtffmomgmkpmpkaaGreatDoor

namespace Go.Proofs.YtffmomgmkpmpkaaGreatDoor
open Go.RowKit
set_option linter.unusedVariables false
attribute [local go_sem] vwp vUpon_value vUpon_skip vUpon_enter vUpon_row
set_option linter.unusedSimpArgs false
set_option linter.unusedVariables false
/-! ### one rune, plain -/
instance (b : Nat) : Decidable (contN b) := by unfold contN; exact inferInstance
/-! ### one rune, walked -/
end Go.Proofs.YtffmomgmkpmpkaaGreatDoor

namespace Go.Proofs.YtffmomgmkpmpkaaGreatDoor
open Go.RowKit
set_option linter.unusedVariables false
attribute [local go_sem] vwp vUpon_value vUpon_skip vUpon_enter vUpon_row
set_option linter.unusedSimpArgs false
set_option linter.unusedVariables false
instance : Inhabited Ce := ⟨⟨0, ⟨0, 0, 0, 0⟩, ⟨0, 0, 0, 0⟩, false, false⟩⟩
/-! ### rows of cells -/
end Go.Proofs.YtffmomgmkpmpkaaGreatDoor

namespace Go.Proofs.YtffmomgmkpmpkaaGreatDoor
open Go.RowKit
set_option linter.unusedVariables false
attribute [local go_sem] vwp vUpon_value vUpon_skip vUpon_enter vUpon_row
set_option linter.unusedSimpArgs false
set_option linter.unusedVariables false
/-! ### places -/
set_option maxHeartbeats 4000000 in
theorem rplace_any (wd ht x y : Int) (v : Value) (w : World) : Calls Tryz.prog 59 #[.agg #[.int .i64 (wd), .int .i64 (ht), v], .agg #[.int .i64 (x), .int .i64 (y)]] w fun e w' => e = .returned (.bool (plcS wd ht x y)) ∧ Below w.heap.size w w' := by
 obtain ⟨R, hR⟩ : ∃ R, plcS wd ht x y = R := ⟨_, rfl⟩
 rw [hR]
 unfold plcS at hR
 go_enter Tryz.func59, Tryz.ntmps59
 by_cases a1 : 0 ≤ x
 ·by_cases a2 : 0 ≤ y
  ·by_cases a3 : x < wd
   ·by_cases a4 : y < ht
    ·have : R = true := by rw [← hR]; simp [a1, a2, a3, a4]
     subst this
     clear hR
     go_wp2
     go_ret
     exact ⟨rfl, (by repeat (first | exact Below.refl _ _ | assumption | refine Below.drew ?_ | refine Below.alloc ?_ (by (try simp) <;> omega) _ | refine Below.setCell ?_ (by (try simp) <;> omega) _))⟩
    ·have : R = false := by rw [← hR]; simp [a4]
     subst this
     clear hR
     go_wp2
     go_ret
     exact ⟨rfl, (by repeat (first | exact Below.refl _ _ | assumption | refine Below.drew ?_ | refine Below.alloc ?_ (by (try simp) <;> omega) _ | refine Below.setCell ?_ (by (try simp) <;> omega) _))⟩
   ·have : R = false := by rw [← hR]; simp [a3]
    subst this
    clear hR
    go_wp2
    go_ret
    exact ⟨rfl, (by repeat (first | exact Below.refl _ _ | assumption | refine Below.drew ?_ | refine Below.alloc ?_ (by (try simp) <;> omega) _ | refine Below.setCell ?_ (by (try simp) <;> omega) _))⟩
  ·have : R = false := by rw [← hR]; simp [a2]
   subst this
   clear hR
   go_wp2
   go_ret
   exact ⟨rfl, (by repeat (first | exact Below.refl _ _ | assumption | refine Below.drew ?_ | refine Below.alloc ?_ (by (try simp) <;> omega) _ | refine Below.setCell ?_ (by (try simp) <;> omega) _))⟩
 ·have : R = false := by rw [← hR]; simp [a1]
  subst this
  clear hR
  go_wp2
  go_ret
  exact ⟨rfl, (by repeat (first | exact Below.refl _ _ | assumption | refine Below.drew ?_ | refine Below.alloc ?_ (by (try simp) <;> omega) _ | refine Below.setCell ?_ (by (try simp) <;> omega) _))⟩
end Go.Proofs.YtffmomgmkpmpkaaGreatDoor

namespace Go.Proofs.YtffmomgmkpmpkaaGreatDoor
open Go.RowKit
set_option linter.unusedVariables false
attribute [local go_sem] vwp vUpon_value vUpon_skip vUpon_enter vUpon_row
set_option linter.unusedSimpArgs false
set_option linter.unusedVariables false
attribute [local go_sem high] neq_cell neq_size
set_option maxHeartbeats 4000000 in
theorem crpair_any (s t : Ce) (w : World) : Calls Tryz.prog 64 #[.agg #[.int .i32 (s).rune, .int .u8 (s).col.r, .int .u8 (s).col.g, .int .u8 (s).col.b, .int .u8 (s).col.a, .int .u8 (s).back.r, .int .u8 (s).back.g, .int .u8 (s).back.b, .int .u8 (s).back.a, .bool (s).wide, .bool (s).tail], .agg #[.int .i32 (t).rune, .int .u8 (t).col.r, .int .u8 (t).col.g, .int .u8 (t).col.b, .int .u8 (t).col.a, .int .u8 (t).back.r, .int .u8 (t).back.g, .int .u8 (t).back.b, .int .u8 (t).back.a, .bool (t).wide, .bool (t).tail]] w fun e w' => e = .returned (.bool (pairC s t)) ∧ Below w.heap.size w w' := by
 obtain ⟨res, hres⟩ : ∃ r, pairC s t = r := ⟨_, rfl⟩
 rw [hres]
 obtain ⟨kd, ⟨u0, u1, u2, u3⟩, ⟨r0, r1, r2, r3⟩, tx, nd⟩ := s
 obtain ⟨kd', ⟨u0', u1', u2', u3'⟩, ⟨r0', r1', r2', r3'⟩, tx', nd'⟩ := t
 unfold pairC at hres
 dsimp only at hres ⊢
 obtain ⟨c, hc⟩ : ∃ c, (kd == kd') = c := ⟨_, rfl⟩
 rw [hc] at hres
 go_enter Tryz.func64, Tryz.ntmps64
 cases tx
 ·subst hres
  go_wp2
  go_ret
  exact ⟨rfl, (by repeat (first | exact Below.refl _ _ | assumption | refine Below.drew ?_ | refine Below.alloc ?_ (by (try simp) <;> omega) _ | refine Below.setCell ?_ (by (try simp) <;> omega) _))⟩
 ·cases nd'
  ·subst hres
   go_wp2
   go_ret
   exact ⟨rfl, (by repeat (first | exact Below.refl _ _ | assumption | refine Below.drew ?_ | refine Below.alloc ?_ (by (try simp) <;> omega) _ | refine Below.setCell ?_ (by (try simp) <;> omega) _))⟩
  ·have hres : c = res := hres
   subst hres
   go_wp2
   go_ret
   exact ⟨rfl, (by repeat (first | exact Below.refl _ _ | assumption | refine Below.drew ?_ | refine Below.alloc ?_ (by (try simp) <;> omega) _ | refine Below.setCell ?_ (by (try simp) <;> omega) _))⟩
end Go.Proofs.YtffmomgmkpmpkaaGreatDoor

namespace Go.Proofs.YtffmomgmkpmpkaaGreatDoor
open Go.RowKit
set_option linter.unusedVariables false
attribute [local go_sem] vwp vUpon_value vUpon_skip vUpon_enter vUpon_row
set_option linter.unusedSimpArgs false
set_option linter.unusedVariables false
section
set_option linter.unusedSimpArgs false
set_option linter.unusedVariables false
open Go.Sort Go.Shelf
instance : Inhabited SpB := ⟨⟨(0, 0), by unfold InM; omega⟩⟩
end
end Go.Proofs.YtffmomgmkpmpkaaGreatDoor

namespace Go.Proofs.YtffmomgmkpmpkaaGreatDoor
open Go.RowKit
set_option linter.unusedVariables false
attribute [local go_sem] vwp vUpon_value vUpon_skip vUpon_enter vUpon_row
set_option linter.unusedSimpArgs false
set_option linter.unusedVariables false
set_option maxHeartbeats 8000000 in
set_option maxRecDepth 100000 in
theorem crblank_any (wd ht : Int) (back : Co) (w : World) (h1 : I64 wd) (h2 : I64 ht) : Calls Tryz.prog 26 #[.agg #[.int .i64 (wd), .int .i64 (ht)], .agg #[.int .u8 (back.r), .int .u8 (back.g), .int .u8 (back.b), .int .u8 (back.a)]] w (OutS w.heap.size (blankE wd ht) (blankZ wd wd ht) (blankZ ht wd ht) (blankC wd ht back) w) := by
 obtain ⟨iM, hi0, hm0, hm1, hm2⟩ := info_parts infoCe
 have X := rsize_any wd ht
 obtain ⟨E, hE⟩ : ∃ E, blankE wd ht = E := ⟨_, rfl⟩
 obtain ⟨Z1, hZ1⟩ : ∃ Z, blankZ wd wd ht = Z := ⟨_, rfl⟩
 obtain ⟨Z2, hZ2⟩ : ∃ Z, blankZ ht wd ht = Z := ⟨_, rfl⟩
 obtain ⟨RC, hRC⟩ : ∃ R, blankC wd ht back = R := ⟨_, rfl⟩
 rw [hE, hZ1, hZ2, hRC]
 unfold blankE at hE
 unfold blankZ at hZ1 hZ2
 unfold blankC at hRC
 obtain ⟨b0, b1, b2, b3⟩ := back
 dsimp only
 go_enter Tryz.func26, Tryz.ntmps26
 go_upto_region 1 with fail
 obtain ⟨W, hW⟩ : ∃ W, ((w.alloc (.cells #[.int .i64 wd, .int .i64 ht] 23)).alloc (.cells #[.int .u8 b0, .int .u8 b1, .int .u8 b2, .int .u8 b3] 44)).alloc (.cells #[.int .i64 0, .int .i64 0, .slice none 0 0] 26) = W := ⟨_, rfl⟩
 have B2 : Blk W w.heap.size [.int .i64 wd, .int .i64 ht] 23 := by rw [← hW]; exact ((Blk.new' rfl).alloc _).alloc _
 have B3 : Blk W (w.heap.size + 1) [.int .u8 b0, .int .u8 b1, .int .u8 b2, .int .u8 b3] 44 := by rw [← hW]; exact (Blk.new' (by simp)).alloc _
 have B4 : Blk W (w.heap.size + 1 + 1) [.int .i64 0, .int .i64 0, .slice none 0 0] 26 := by rw [← hW]; exact Blk.new' (by simp)
 have hbw : Below w.heap.size w W := by rw [← hW]; exact belt
 rw [hW]
 clear hW
 have yB2 := B2.lt
 have yB3 := B3.lt
 have yB4 := B4.lt
 have q0 := B2.cell (o := 0) rfl
 have q1 := B2.cell (o := 1) rfl
 cases hf : fitsS wd ht
 ·rw [hf] at X hE hZ1 hZ2 hRC
  simp only [Bool.false_eq_true, if_false] at hE hZ1 hZ2 hRC
  subst hE hZ1 hZ2 hRC
  replace X := Lib.hid X
  go_wp2_with (go_at_call 52; (with_reducible refine (X.out _ ‹_› ‹_›).mono ?_); rintro e w2 ⟨rfl, hb2⟩; replace B4 := B4.below hb2 yB4; replace hbw := hbw.trans (hb2.mono hbw.size); have k0 := B4.cell (o := 0) rfl; have k1 := B4.cell (o := 1) rfl; have k2 := B4.cell (o := 2) rfl; have kf := B4.free)
  clear k0 k1 k2 kf
  have HZ := Blk.put3 B4 rfl (.int .i64 0) (.int .i64 0) (.slice none 0 0)
  have hbZ : Below w.heap.size w (((w2.setCell ⟨(w.heap.size + 1 + 1), 0, none⟩ (.int .i64 0)).setCell ⟨(w.heap.size + 1 + 1), 1, none⟩ (.int .i64 0)).setCell ⟨(w.heap.size + 1 + 1), 2, none⟩ (.slice none 0 0)) := ((hbw.setCell (p := ⟨(w.heap.size + 1 + 1), 0, none⟩) (by show w.heap.size ≤ (w.heap.size + 1 + 1); omega) _).setCell (p := ⟨(w.heap.size + 1 + 1), 1, none⟩) (by show w.heap.size ≤ (w.heap.size + 1 + 1); omega) _).setCell (p := ⟨(w.heap.size + 1 + 1), 2, none⟩) (by show w.heap.size ≤ (w.heap.size + 1 + 1); omega) _
  generalize ((w2.setCell ⟨(w.heap.size + 1 + 1), 0, none⟩ (.int .i64 0)).setCell ⟨(w.heap.size + 1 + 1), 1, none⟩ (.int .i64 0)).setCell ⟨(w.heap.size + 1 + 1), 2, none⟩ (.slice none 0 0) = wZ at HZ hbZ ⊢
  have jz0 := HZ.cell (o := 0) rfl
  have jz1 := HZ.cell (o := 1) rfl
  have jz2 := HZ.cell (o := 2) rfl
  refine bodyPost_ret (v := .tuple #[.agg #[.int .i64 0, .int .i64 0, .slice none 0 0], .int .i64 150]) (by simp [results, Tryz.results26, go_sem, jz0, jz1, jz2]) rfl ⟨hbZ, _, rfl, OwnsC.nil _ _⟩
 ·rw [hf] at X hE hZ1 hZ2 hRC
  simp only [if_true] at hE hZ1 hZ2 hRC
  subst hE hZ1 hZ2
  obtain ⟨a1, a2, a3, a4, a5⟩ := fitsS_true.1 hf
  obtain ⟨N, hN⟩ : ∃ N : Nat, wd * ht = N := ⟨(wd * ht).toNat, by have := Int.mul_nonneg a1 a2; omega⟩
  rw [hN, Int.toNat_natCast] at hRC
  rw [hN] at a5
  subst hRC
  replace X := Lib.hid X
  go_upto_region 3 with (go_at_call 52; (with_reducible refine (X.out _ ‹_› ‹_›).mono ?_); rintro e w1 ⟨rfl, hb1⟩)
  replace B2 := B2.below hb1 yB2
  replace B3 := B3.below hb1 yB3
  replace B4 := B4.below hb1 yB4
  replace hbw := hbw.trans (hb1.mono hbw.size)
  clear q0 q1 hb1 yB2 yB3 yB4 X
  have yB2 := B2.lt
  have yB3 := B3.lt
  have yB4 := B4.lt
  have q0 := B2.cell (o := 0) rfl
  have q1 := B2.cell (o := 1) rfl
  go_upto_region 4 with fail
  obtain ⟨W0, hW0⟩ : ∃ W0, w1.alloc (.cells #[.int .i64 wd, .int .i64 ht, .slice none 0 0] 26) = W0 := ⟨_, rfl⟩
  obtain ⟨bo, hbo⟩ : ∃ b, w1.heap.size = b := ⟨_, rfl⟩
  have B6 : Blk W0 bo [.int .i64 wd, .int .i64 ht, .slice none 0 0] 26 := by rw [← hW0, ← hbo]; exact Blk.new' rfl
  have D2 : Blk W0 w.heap.size [.int .i64 wd, .int .i64 ht] 23 := by rw [← hW0]; exact B2.alloc _
  have D3 : Blk W0 (w.heap.size + 1) [.int .u8 b0, .int .u8 b1, .int .u8 b2, .int .u8 b3] 44 := by rw [← hW0]; exact B3.alloc _
  have D4 : Blk W0 (w.heap.size + 1 + 1) [.int .i64 0, .int .i64 0, .slice none 0 0] 26 := by rw [← hW0]; exact B4.alloc _
  have hbw0 : Below w.heap.size w W0 := by rw [← hW0]; exact hbw.alloc hbw.size _
  rw [hW0, hbo]
  rw [hbo] at yB2 yB3 yB4
  clear q0 q1 B2 B3 B4 hbw hW0
  have yB6 := B6.lt
  go_wp2
  go_loopw [7] (fun iv wr => ∃ (k : Nat) (v : Value), k ≤ N ∧ iv = .int .i64 k ∧ Hid (Blk wr bo [.int .i64 wd, .int .i64 ht, v] 26) ∧ Hid (OwnsC (bo + 1) wr v (List.replicate k (blkCe ⟨b0, b1, b2, b3⟩))) ∧ Below bo W0 wr) (fun iv _ => N - (intOf iv).toNat)
  case atStart => exact ⟨0, _, Nat.zero_le _, rfl, Lib.hid B6, Lib.hid (OwnsC.nil _ _), Below.refl _ _⟩
  case round =>
   obtain ⟨k, v, hk, rfl, B5, hown, hbr⟩ := hrel
   have E2 := D2.below hbr yB2
   have E3 := D3.below hbr yB3
   have q0 := E2.cell (o := 0) rfl
   have q1 := E2.cell (o := 1) rfl
   have yr := hbr.size
   have B5 := B5.out
   have yB5 := B5.lt
   by_cases hkn : k < N
   ·have hki : (k : Int) < N := by omega
    have p0 := E3.cell (o := 0) rfl
    have p1 := E3.cell (o := 1) rfl
    have p2 := E3.cell (o := 2) rfl
    have p3 := E3.cell (o := 3) rfl
    obtain ⟨sv, cv, hsv⟩ := own_slice hown.out
    rw [List.length_replicate] at hsv
    subst hsv
    have k2 := B5.cell (o := 2) rfl
    have kf := B5.free
    have hrow := hown.out
    unfold OwnsC at hrow
    rw [List.length_replicate] at hrow
    have hno : (Value.slice sv k cv).ownBlock ≠ some bo := fun e => by have := (hrow.lt bo e).1; omega
    have hlow : ∀ g, (Value.slice sv k cv).ownBlock = some g → bo + 1 ≤ g := fun g hg => (hrow.lt g hg).1
    replace hrow := Lib.hid hrow
    go_wp2_with (at_builtin; refine wpList_append_own _ rfl _ _ _ rfl (bo + 1) 52 iM _ 11 16 Tryz.underlying24 hi0 hm0 hm1 hm2 rfl (by omega) _ k _ (by rfl) (hrow.out.alloc _) ⟨wr.heap.size, 0, none⟩ 1 1 (blkCe ⟨b0, b1, b2, b3⟩).enc (by rfl) rfl (cells_new wr (blkCe ⟨b0, b1, b2, b3⟩).enc 52) (Ce.enc_one _) (by unfold maxLen; omega) (by omega) (by simp; omega) ?_; intro v3 w3 hown3 hgr3 _; obtain ⟨s3, c3, hv3⟩ := own_slice hown3; subst hv3; have E5 := (B5.alloc _).keep hgr3 hno; have e5 := E5.cell (o := 2) rfl; have f5 := E5.free; have y5 := E5.lt; replace hown3 := Lib.hid hown3; replace hgr3 := Lib.hid hgr3; replace E5 := Lib.hid E5)
    have z3 := hgr3.out.size
    rw [World.size_alloc] at z3
    go_roundw
    case rel =>
     refine ⟨k + 1, .slice s3 (k + 1) c3, by omega, by go_num, Lib.hid (E5.out.set 2 _), Lib.hid ?_, ((hbr.alloc (by omega) _).grown hgr3.out (by simp; omega) (fun g hg => by have := hlow g hg; omega)).setCell (p := ⟨bo, 2, none⟩) (Nat.le_refl _) _⟩
     have h3 := hown3.out
     have : OwnsC (bo + 1) w3 (.slice s3 (k + 1) c3) (List.replicate (k + 1) (blkCe ⟨b0, b1, b2, b3⟩)) := by
      unfold OwnsC
      rw [List.length_replicate, ← List.replicate_append_replicate, List.flatMap_append]
      simpa using h3
     exact this.set_ne (by omega) _
    case measure => simp [intOf]; omega
   ·obtain rfl : k = N := by omega
    have hki : ¬ (k : Int) < k := by omega
    obtain ⟨sv, cv, hsv⟩ := own_slice hown.out
    rw [List.length_replicate] at hsv
    subst hsv
    have k0 := B5.cell (o := 0) rfl
    have k1 := B5.cell (o := 1) rfl
    have k2 := B5.cell (o := 2) rfl
    have E4 := D4.below hbr yB4
    have r0 := E4.cell (o := 0) rfl
    have r1 := E4.cell (o := 1) rfl
    have r2 := E4.cell (o := 2) rfl
    have rf_ := E4.free
    have y4 := E4.lt
    have hbz := hbw0.trans (hbr.mono (by omega))
    replace hown := Lib.hid hown.out
    go_wp2
    clear k0 k1 k2 r0 r1 r2 rf_ q0 q1
    have hoZ := OwnsC.set_ne (OwnsC.set_ne (OwnsC.set_ne hown.out (b := w.heap.size + 1 + 1) (o := 0) (by omega) (.int .i64 wd)) (b := w.heap.size + 1 + 1) (o := 1) (by omega) (.int .i64 ht)) (b := w.heap.size + 1 + 1) (o := 2) (by omega) (.slice sv k cv)
    have HZ := Blk.put3 E4 rfl (.int .i64 wd) (.int .i64 ht) (.slice sv k cv)
    have hbZ := ((hbz.setCell (p := ⟨w.heap.size + 1 + 1, 0, none⟩) (by show w.heap.size ≤ w.heap.size + 1 + 1; omega) (.int .i64 wd)).setCell (p := ⟨w.heap.size + 1 + 1, 1, none⟩) (by show w.heap.size ≤ w.heap.size + 1 + 1; omega) (.int .i64 ht)).setCell (p := ⟨w.heap.size + 1 + 1, 2, none⟩) (by show w.heap.size ≤ w.heap.size + 1 + 1; omega) (.slice sv k cv)
    generalize ((wr.setCell ⟨w.heap.size + 1 + 1, 0, none⟩ (.int .i64 wd)).setCell ⟨w.heap.size + 1 + 1, 1, none⟩ (.int .i64 ht)).setCell ⟨w.heap.size + 1 + 1, 2, none⟩ (.slice sv k cv) = wZ at HZ hbZ hoZ ⊢
    have jz0 := HZ.cell (o := 0) rfl
    have jz1 := HZ.cell (o := 1) rfl
    have jz2 := HZ.cell (o := 2) rfl
    refine bodyPost_ret (v := .tuple #[.agg #[.int .i64 wd, .int .i64 ht, .slice sv k cv], .int .i64 0]) (by simp [results, Tryz.results26, go_sem, jz0, jz1, jz2]) rfl ⟨hbZ, _, rfl, own_less hoZ (by omega)⟩
end Go.Proofs.YtffmomgmkpmpkaaGreatDoor

namespace Go.Proofs.YtffmomgmkpmpkaaGreatDoor
open Go.RowKit
set_option linter.unusedVariables false
attribute [local go_sem] vwp vUpon_value vUpon_skip vUpon_enter vUpon_row
set_option linter.unusedSimpArgs false
set_option linter.unusedVariables false
def nextP (row : List Ce) (x : Nat) : Bool := match row[x]?, row[x + 1]? with
  | some c, some d => pairC c d
  | _, _ => false
def rtAt (row : List Ce) (x : Nat) : List UInt8 := match row[x]? with
  | none => []
  | some c => if nextP row x then Lib.encodeRune c.rune else if decide (0 < x) && nextP row (x - 1) then [] else halfB c
def rtGo (row : List Ce) : Nat → Nat → List UInt8
  | 0, _ => []
  | n + 1, x => rtAt row x ++ rtGo row n (x + 1)
theorem may_not_both {c : Ce} (h : mayC c = true) : ¬ (c.wide = true ∧ c.tail = true) := by
  rintro ⟨h1, h2⟩
  unfold mayC at h
  rw [h1, h2] at h
  split at h
  · simp at h
  · split at h <;> simp at h
theorem rtGo_txt (row : List Ce) (hm : ∀ c ∈ row, mayC c = true) : ∀ (n x : Nat), n = row.length - x → ¬ (0 < x ∧ nextP row (x - 1) = true) → rtGo row n x = txtRow (row.drop x) := by
 intro n
 induction n using Nat.strongRecOn with
 | _ n ih =>
  intro x hn hx
  cases n with
  | zero =>
   rw [List.drop_of_length_le (by omega)]
   rfl
  | succ n =>
   obtain ⟨c, hc⟩ : ∃ c, row[x]? = some c := ⟨row[x]'(by omega), List.getElem?_eq_getElem _⟩
   have hx' : (decide (0 < x) && nextP row (x - 1)) = false := by
    cases h : (decide (0 < x) && nextP row (x - 1))
    ·rfl
    ·simp only [Bool.and_eq_true, decide_eq_true_eq] at h
     exact absurd h hx
   cases hp : nextP row x
   ·have e : rtAt row x = halfB c := by unfold rtAt; rw [hc]; dsimp only; rw [hp, hx']; rfl
    rw [rtGo, e, txtRow_half hc (fun d hd => by unfold nextP at hp; rw [hc, hd] at hp; exact hp)]
    rw [ih n (by omega) (x + 1) (by omega) (fun h => by rw [Nat.add_sub_cancel, hp] at h; exact absurd h.2 (by decide))]
   ·have e : rtAt row x = Lib.encodeRune c.rune := by unfold rtAt; rw [hc]; dsimp only; rw [hp]; rfl
    obtain ⟨d, hd, hcd⟩ : ∃ d, row[x + 1]? = some d ∧ pairC c d = true := by
     unfold nextP at hp
     rw [hc] at hp
     cases hd : row[x + 1]? with
     | none => rw [hd] at hp; cases hp
     | some d => rw [hd] at hp; exact ⟨d, rfl, hp⟩
    have hx1 := (List.getElem?_eq_some_iff.1 hd).1
    obtain ⟨n', rfl⟩ : ∃ n', n = n' + 1 := ⟨n - 1, by omega⟩
    have hdt : d.tail = true := by
     unfold pairC at hcd
     simp only [Bool.and_eq_true] at hcd
     exact hcd.1.2
    have hdw : d.wide = false := by
     cases hw : d.wide
     ·rfl
     ·exact absurd ⟨hw, hdt⟩ (may_not_both (hm d (List.mem_of_getElem? hd)))
    have hp1 : nextP row (x + 1) = false := by
     unfold nextP
     rw [hd]
     cases row[x + 1 + 1]? with
     | none => rfl
     | some f => simp [pairC, hdw]
    have e1 : rtAt row (x + 1) = [] := by
     unfold rtAt
     rw [hd]
     dsimp only
     rw [hp1, Nat.add_sub_cancel, hp]
     simp
    rw [rtGo, rtGo, e, e1, List.nil_append, txtRow_pair hc hd hcd]
    rw [ih n' (by omega) (x + 1 + 1) (by omega) (fun h => by rw [Nat.add_sub_cancel, hp1] at h; exact absurd h.2 (by decide))]
theorem encode_eq (r : Int) : Utf8.encode r = strL (Lib.encodeRune r) := by
  by_cases hv : Utf8.valid r = true
  · have hv' := hv
    simp only [Utf8.valid, Bool.or_eq_true, Bool.and_eq_true, decide_eq_true_eq] at hv'
    obtain ⟨k, rfl⟩ : ∃ k : Nat, r = k := ⟨r.toNat, by omega⟩
    simp only [Utf8.encode, hv, if_true, Int.toNat_natCast]
    unfold strL Lib.encodeRune
    by_cases h1 : k < 0x80
    · rw [if_pos h1, Lib.encodeRuneZ_one (by omega) (by omega)]
      rfl
    · rw [if_neg h1]
      by_cases h2 : k < 0x800
      · rw [if_pos h2, Lib.encodeRuneZ_two (by omega) (by omega)]
        rfl
      · rw [if_neg h2]
        by_cases h3 : k < 0x10000
        · rw [if_pos h3, Lib.encodeRuneZ_three (by omega)]
          rfl
        · rw [if_neg h3, Lib.encodeRuneZ_four (by omega) (by omega)]
          rfl
  · have hv' : Utf8.valid r = false := by simpa using hv
    have hb : r < 0 ∨ (55296 ≤ r ∧ r ≤ 57343) ∨ 1114111 < r := by
      simp only [Utf8.valid, Bool.or_eq_false_iff, Bool.and_eq_false_iff, decide_eq_false_iff_not] at hv'
      omega
    unfold Lib.encodeRune
    rw [Lib.encodeRuneZ_bad hb]
    simp only [Utf8.encode, hv', Bool.false_eq_true, if_false]
    rfl
theorem strL_add (a b : List UInt8) : strL a ++ strL b = strL (a ++ b) := by
  unfold strL
  apply ByteArray.ext
  simp
theorem strL_sz {o : List UInt8} {S : ByteArray} (h : strL o = S) : S.size = o.length := by subst h; rfl
theorem encode_small (r : Int) : (Utf8.encode r).size ≤ 4 := by rw [strL_sz (encode_eq r).symm]; exact enc_len4 r
theorem strL_step {o l : List UInt8} {S X : ByteArray} (h : strL o = S) (e : strL l = X) : strL (o ++ l) = S ++ X := by rw [← strL_add, h, e]
set_option maxHeartbeats 8000000 in
set_option maxRecDepth 100000 in
theorem crtext_any (wd ht : Int) (cs : List Ce) (v : Value) (w : World) (h1 : I64 wd) (h2 : I64 ht) (hl : Row w.heap.size 11 Ce.enc w v cs) (hsm : cs.length ≤ 600) :
  Calls Tryz.prog 24 #[.agg #[.int .i64 (wd), .int .i64 (ht), v]] w fun e w' => e = .returned (.tuple #[.string (txtS wd ht cs), .int .i64 (chkS wd ht cs)]) ∧ Below w.heap.size w w' := by
 have C1 := fun w1 (hb : Below w.heap.size w w1) => crcheck_any wd ht cs v w1 h1 h2 ((hl.below hb).mono hb.size)
 obtain ⟨s0, cap, rfl, hmax⟩ := hl.shape
 obtain ⟨n, en⟩ : ∃ n, cs.length = n := ⟨_, rfl⟩
 obtain ⟨TS, hTS⟩ : ∃ t, txtS wd ht cs = t := ⟨_, rfl⟩
 obtain ⟨KS, hKS⟩ : ∃ k, chkS wd ht cs = k := ⟨_, rfl⟩
 rw [hTS, hKS]
 rw [hKS] at C1
 unfold txtS at hTS
 have hopen := fun h0 => row_ce hl h0
 have hcapH : cs.length ≤ cap := by
  obtain ⟨_, _, e, hc, _⟩ := hl
  injection e with _ _ e
  omega
 rw [en] at C1 hmax hsm hopen hcapH ⊢
 unfold maxLen at hmax
 clear hl
 replace hopen := Lib.hid hopen
 replace hcapH := Lib.hid hcapH
 go_enter Tryz.func24, Tryz.ntmps24
 go_upto_region 1 with fail
 obtain ⟨W, hW⟩ : ∃ W, w.alloc (.cells #[.int .i64 wd, .int .i64 ht, .slice s0 n cap] 26) = W := ⟨_, rfl⟩
 obtain ⟨b1, hb1e⟩ : ∃ b, w.heap.size = b := ⟨_, rfl⟩
 have B1 : Blk W b1 [.int .i64 wd, .int .i64 ht, .slice s0 n cap] 26 := by rw [← hW]; exact Blk.new' hb1e.symm
 have hbw : Below w.heap.size w W := by rw [← hW]; exact belt
 rw [hW, hb1e]
 clear hW
 replace hb1e := Lib.hid hb1e
 have q0 := B1.cell (o := 0) rfl
 have q1 := B1.cell (o := 1) rfl
 have q2 := B1.cell (o := 2) rfl
 have yb := B1.lt
 have CK := C1 W hbw
 clear C1
 rcases chkS_cases wd ht cs with e0 | e0
 ·have eK : KS = 0 := hKS.symm.trans e0
  clear hKS
  subst eK
  rw [if_pos e0] at hTS
  obtain ⟨hfit, hlen, hall⟩ := chkS_zero e0
  obtain ⟨z0, z1, z2, z3, z4⟩ := fitsS_true.1 hfit
  obtain ⟨N, rfl⟩ : ∃ N : Nat, wd = N := ⟨wd.toNat, by omega⟩
  obtain ⟨M, rfl⟩ : ∃ M : Nat, ht = M := ⟨ht.toNat, by omega⟩
  rw [txtL, Int.toNat_natCast, Int.toNat_natCast] at hTS
  have hnm : n = N * M := by
   have h : ((cs.length : Nat) : Int) = ((N * M : Nat) : Int) := by rw [hlen, Int.natCast_mul]
   rw [← en]
   exact Int.ofNat.inj h
  clear hlen hfit
  replace hnm := Lib.hid hnm
  replace en := Lib.hid en
  replace CK := Lib.hid CK
  go_upto_region 5 with (go_at_call 16; (with_reducible refine CK.out.mono ?_); rintro e w1 ⟨rfl, hb1⟩)
  replace B1 := B1.below hb1 yb
  replace hbw := hbw.trans (hb1.mono hbw.size)
  clear q0 q1 q2 yb CK hb1
  replace B1 := Lib.hid B1
  replace hbw := Lib.hid hbw
  have hgo := Lib.hid (show strL ([] ++ txtGo N cs (M - 0) 0) = TS from hTS)
  replace hall := Lib.hid hall
  clear hTS e0 h1 h2
  go_upto_region 6 with fail
  go_loopw [5, 6] (fun ov yv wr => ∃ (y : Nat) (o : List UInt8) (S : ByteArray), y ≤ M ∧ yv = .int .i64 y ∧ ov = .string S ∧ Hid (strL o = S) ∧ Hid (strL (o ++ txtGo N cs (M - y) y) = TS) ∧ o.length ≤ y * (4 * N + 1) ∧ Hid (Below w.heap.size w wr) ∧ Hid (Blk wr b1 [.int .i64 N, .int .i64 M, .slice s0 n cap] 26)) (fun _ yv _ => M - (intOf yv).toNat)
  case atStart => exact ⟨0, [], _, Nat.zero_le _, rfl, rfl, Lib.hid rfl, hgo, by simp, hbw, B1⟩
  case round =>
   clear hgo hbw B1
   obtain ⟨y, o, S, hy, rfl, rfl, hS, hgo, hol, hb, hB⟩ := hrel
   obtain ⟨W1, rfl⟩ : ∃ W1, W1 = wr := ⟨_, rfl⟩
   have q0 := hB.out.cell (o := 0) rfl
   have q1 := hB.out.cell (o := 1) rfl
   have q2 := hB.out.cell (o := 2) rfl
   have yb := hB.out.lt
   by_cases hyM : y < M
   ·have hyi : (y : Int) < M := by omega
    obtain ⟨P, hP⟩ : ∃ P, y * N = P := ⟨_, rfl⟩
    have hPn : P + N ≤ n := by
     have h := hnm.out
     have : (y + 1) * N ≤ M * N := Nat.mul_le_mul_right N (by omega)
     rw [Nat.add_mul, hP, Nat.one_mul, Nat.mul_comm M] at this
     omega
    have e1 : (y : Int) * (N : Int) = (P : Int) := by rw [← hP, Int.natCast_mul]
    have e2 : ((y : Int) + 1) * (N : Int) = ((P + N : Nat) : Int) := by rw [Int.add_mul, e1, Int.one_mul]; omega
    have e3 : ((P + N : Nat) : Int) ≤ (n : Int) := by omega
    have e4 : (P : Int) ≤ ((P + N : Nat) : Int) := by omega
    have hcap := hcapH.out
    have e6 : ((P + N : Nat) : Int) ≤ (cap : Int) := by omega
    have e7 : P + N - P = N := by omega
    replace hP := Lib.hid hP
    go_upto_region 8 with fail
    go_cut [7] (fun v7 wx => ∃ sx cx, v7 = .slice sx N cx ∧ Hid (0 < N → ∃ g o, sx = some ⟨g, o, none⟩ ∧ g < w.heap.size ∧ ∀ x c, x < N → cs[P + x]? = some c → CMem w g (o + x * 11) c) ∧ W1 = wx)
    case first =>
     by_cases hN : N = 0
     ·by_cases e5 : cap = P
      ·cases s0 with
       | none =>
        go_wp2
        go_meet
        case rel => exact ⟨_, _, by rw [hN], Lib.hid (fun h => absurd hN (by omega)), rfl⟩
       | some a =>
        go_wp2
        go_meet
        case rel => exact ⟨_, _, by rw [hN], Lib.hid (fun h => absurd hN (by omega)), rfl⟩
      ·cases s0 with
       | none =>
        go_wp2
        go_meet
        case rel => exact ⟨_, _, by rw [hN], Lib.hid (fun h => absurd hN (by omega)), rfl⟩
       | some a =>
        go_wp2
        go_meet
        case rel => exact ⟨_, _, by rw [hN], Lib.hid (fun h => absurd hN (by omega)), rfl⟩
     ·obtain ⟨g, o, cap', e, hg, _, _, hel⟩ := hopen.out (by omega)
      simp only [Value.slice.injEq] at e
      obtain ⟨rfl, _, rfl⟩ := e
      have e5 : ¬ cap = P := by omega
      replace hel := Lib.hid hel
      go_wp2
      go_meet
      case rel => exact ⟨_, _, by rw [e7], Lib.hid (fun _ => ⟨g, o + P * 11, rfl, hg, fun x c hx hc => by have := hel.out (P + x) c hc; rwa [Nat.add_mul, ← Nat.add_assoc] at this⟩), rfl⟩
    case rest =>
     obtain ⟨sx, cx, rfl, hrow, rfl⟩ := hcut
     clear q0 q1 q2 e1 e2 e3 e4 e6 e7 hcap
     obtain ⟨RW, hRW⟩ : ∃ l, rowC N cs y = l := ⟨_, rfl⟩
     have hRl : RW.length = N := by
      have h := en.out
      rw [← hRW]
      unfold rowC
      rw [List.length_take, List.length_drop, h, hP.out]
      omega
     have hRg : ∀ x, x < N → RW[x]? = cs[P + x]? := fun x hx => by rw [← hRW, rowC_get hx, hP.out]
     have hRm : ∀ c ∈ RW, mayC c = true := fun c hc => by
      rw [← hRW] at hc
      unfold rowC at hc
      exact List.all_eq_true.1 hall.out c (List.mem_of_mem_drop (List.mem_of_mem_take hc))
     obtain ⟨Z, hZ⟩ : ∃ Z, ([10] : List UInt8) ++ txtGo N cs (M - (y + 1)) (y + 1) = Z := ⟨_, rfl⟩
     have hgo3 : strL (o ++ (rtGo RW (N - 0) 0 ++ Z)) = TS := by
      have h := hgo.out
      rw [show M - y = (M - (y + 1)) + 1 by omega, txtGo, hRW, hZ] at h
      rw [rtGo_txt RW hRm (N - 0) 0 (by rw [hRl]) (fun h => absurd h.1 (by omega)), List.drop_zero]
      exact h
     replace hgo3 := Lib.hid hgo3
     replace hRW := Lib.hid hRW
     replace hRl := Lib.hid hRl
     replace hRg := Lib.hid hRg
     replace hRm := Lib.hid hRm
     replace hZ := Lib.hid hZ
     clear hgo
     go_wp2
     go_loopw [5, 8] (fun ov xv wr => ∃ (x : Nat) (o' : List UInt8) (S : ByteArray), x ≤ N ∧ xv = .int .i64 x ∧ ov = .string S ∧ Hid (strL o' = S) ∧ Hid (strL (o' ++ (rtGo RW (N - x) x ++ Z)) = TS) ∧ o'.length ≤ o.length + 4 * x ∧ Hid (Below W1.heap.size W1 wr)) (fun _ xv _ => N - (intOf xv).toNat)
     case atStart => exact ⟨0, o, _, Nat.zero_le _, rfl, rfl, hS, hgo3, by omega, Lib.hid (Below.refl _ _)⟩
     case round =>
      clear hgo3 hS
      obtain ⟨x, o', S', hx, rfl, rfl, hS, hgo, hol', hbr⟩ := hrel
      obtain ⟨wv, hwv⟩ : ∃ wv : World, wv = wr := ⟨_, rfl⟩
      subst hwv
      have hyb : y * (4 * N + 1) ≤ 16384 * 65537 := Nat.mul_le_mul (by omega) (by omega)
      have hSs := strL_sz hS.out
      have hsz1 : ¬ 9223372036854775807 < S'.size + 1 := by omega
      by_cases hxN : x < N
      ·have hxi : (x : Int) < N := by omega
       obtain ⟨g, og, hsx, hg, hmem⟩ := hrow.out (by omega)
       subst hsx
       obtain ⟨c, hc⟩ : ∃ c, RW[x]? = some c := ⟨RW[x]'(by have := hRl.out; omega), List.getElem?_eq_getElem _⟩
       have hsz2 : ¬ 9223372036854775807 < S'.size + (Utf8.encode c.rune).size := by have := encode_small c.rune; omega
       clear hSs hyb
       have hbx : Below w.heap.size w wv := hb.out.trans (hbr.out.mono hb.out.size)
       have M0 := (hmem x c hxN (by rw [← hRg.out x hxN]; exact hc)).below hbx hg
       obtain ⟨j0, j1, j2, j3, j4, j5, j6, j7, j8, j9, j10⟩ := M0
       have yg : g < wv.heap.size := by have := hbx.size; omega
       by_cases hx1 : x + 1 < N
       ·have hx1i : (x : Int) + 1 < N := by omega
        obtain ⟨d, hd⟩ : ∃ d, RW[x + 1]? = some d := ⟨RW[x + 1]'(by have := hRl.out; omega), List.getElem?_eq_getElem _⟩
        obtain ⟨l0, l1, l2, l3, l4, l5, l6, l7, l8, l9, l10⟩ := (hmem (x + 1) d hx1 (by rw [← hRg.out (x + 1) hx1]; exact hd)).below hbx hg
        have PR := crpair_any c d
        cases hp : pairC c d
        ·rw [hp] at PR
         replace PR := Lib.hid PR
         go_upto_region 13 with fail
         refine wp_region_steady (Held wv 0 []) (by kernel_rfl) (by kernel_rfl) ⟨belt, (by (try simp) <;> omega), (by first | exact trivial | (simp only [Cells]; go_simp))⟩ ?_
         repeat (first | (refine' wpSteady_do _ _ _; rotate_left; (focus rfl); (focus (intro w1 hS R hR; have hc := hS.cells; simp only [Cells] at hc; obtain ⟨hco, hfo⟩ := bcell hS.old; go_simp; (try go_bits); first | exact hR _ hS | (go_at_call 64; (with_reducible refine (PR.out _).mono ?_); rintro e w2 ⟨rfl, hb2⟩; exact ⟨_, rfl, hR _ (hS.below hb2)⟩))); simp only [pu]) | (refine wpSteady_pass ?_ ?_; (focus rfl); simp only [pu]))
         refine wpSteady_nil (fun uA hSA => ?_)
         have hcA := hSA.cells; have hbA := hSA.old; have hzA := hSA.size; clear hSA; simp only [Cells] at hcA; obtain ⟨hcoA, hfoA⟩ := bcell hbA
         have hnp : nextP RW x = false := by unfold nextP; rw [hc, hd]; exact hp
         clear l0 l1 l2 l3 l4 l5 l6 l7 l8 l9 l10
         have yg2 : g < uA.heap.size := by have := hbA.size; omega
         by_cases hx0 : 0 < x
         ·have hx0i : (0 : Int) < x := by omega
          obtain ⟨k, hk⟩ : ∃ k, x - 1 = k := ⟨_, rfl⟩
          have hkx : (x : Int) - 1 = (k : Int) := by omega
          have hkN : k < N := by omega
          have hk0 : (0 : Int) ≤ (k : Int) := by omega
          obtain ⟨e, he⟩ : ∃ e, RW[k]? = some e := ⟨RW[k]'(by have := hRl.out; omega), List.getElem?_eq_getElem _⟩
          obtain ⟨i0, i1, i2, i3, i4, i5, i6, i7, i8, i9, i10⟩ := (hmem k e hkN (by rw [← hRg.out k hkN]; exact he)).below hbx hg
          have PQ := crpair_any e c
          have hpn : nextP RW (x - 1) = pairC e c := by
           unfold nextP
           rw [hk, he, show k + 1 = x by omega, hc]
          replace hk := Lib.hid hk
          cases hq : pairC e c
          ·rw [hq] at PQ
           replace PQ := Lib.hid PQ
           have hpv : (decide (0 < x) && nextP RW (x - 1)) = false := by rw [hpn, hq, Bool.and_false]
           go_upto_region 15 with fail
           refine wp_region_steady (Held uA 0 []) (by kernel_rfl) (by kernel_rfl) ⟨belt, (by (try simp) <;> omega), (by first | exact trivial | (simp only [Cells]; go_simp))⟩ ?_
           repeat (first | (refine' wpSteady_do _ _ _; rotate_left; (focus rfl); (focus (intro w1 hS R hR; have hc := hS.cells; simp only [Cells] at hc; obtain ⟨hco, hfo⟩ := bcell hS.old; go_simp; (try go_bits); first | exact hR _ hS | (go_at_call 64; (with_reducible refine (PQ.out _).mono ?_); rintro e w2 ⟨rfl, hb2⟩; exact ⟨_, rfl, hR _ (hS.below hb2)⟩))); simp only [pu]) | (refine wpSteady_pass ?_ ?_; (focus rfl); simp only [pu]))
           refine wpSteady_nil (fun uB hSB => ?_)
           have hcB := hSB.cells; have hbB := hSB.old; have hzB := hSB.size; clear hSB; simp only [Cells] at hcB; obtain ⟨hcoB, hfoB⟩ := bcell hbB
           clear i0 i1 i2 i3 i4 i5 i6 i7 i8 i9 i10
           have hbAB := hbA.trans (hbB.mono hbA.size)
           have hrt : rtAt RW x = halfB c := by unfold rtAt; rw [hc]; dsimp only; rw [hnp, hpv]; rfl
           cases hwi : c.wide
           ·cases hta : c.tail
            ·have hhb : halfB c = Lib.encodeRune c.rune := by unfold halfB; rw [hwi, hta]; rfl
             rw [hwi] at j9
             rw [hta] at j10
             go_wp2
             have hnx : o'.length + (halfB c).length ≤ o.length + 4 * (x + 1) := by have h : (halfB c).length ≤ 4 := halfB_len c; omega
             exact ⟨⟨x + 1, o' ++ halfB c, _, by omega, by first | rfl | go_num, rfl, Lib.hid (by first | exact strL_step hS.out (by rw [hhb]; rfl) | exact strL_step hS.out (by rw [hhb]; exact (encode_eq _).symm) | exact strL_step hS.out (encode_eq _).symm | (rw [List.append_nil]; exact hS.out)), Lib.hid (by
              have h := hgo.out
              rw [show N - x = (N - (x + 1)) + 1 by omega, rtGo, hrt] at h
              simpa only [List.append_assoc, List.nil_append, List.append_nil] using h), by rw [List.length_append]; omega, Lib.hid (hbr.out.trans (hbAB.mono hbr.out.size))⟩, by simp [intOf]; omega⟩
            ·have hhb : halfB c = [32] := by unfold halfB; rw [hwi, hta]; rfl
             rw [hwi] at j9
             rw [hta] at j10
             go_wp2
             have hnx : o'.length + (halfB c).length ≤ o.length + 4 * (x + 1) := by have h : (halfB c).length ≤ 4 := halfB_len c; omega
             exact ⟨⟨x + 1, o' ++ halfB c, _, by omega, by first | rfl | go_num, rfl, Lib.hid (by first | exact strL_step hS.out (by rw [hhb]; rfl) | exact strL_step hS.out (by rw [hhb]; exact (encode_eq _).symm) | exact strL_step hS.out (encode_eq _).symm | (rw [List.append_nil]; exact hS.out)), Lib.hid (by
              have h := hgo.out
              rw [show N - x = (N - (x + 1)) + 1 by omega, rtGo, hrt] at h
              simpa only [List.append_assoc, List.nil_append, List.append_nil] using h), by rw [List.length_append]; omega, Lib.hid (hbr.out.trans (hbAB.mono hbr.out.size))⟩, by simp [intOf]; omega⟩
           ·have hhb : halfB c = [32] := by unfold halfB; rw [hwi]; rfl
            rw [hwi] at j9
            go_wp2
            have hnx : o'.length + (halfB c).length ≤ o.length + 4 * (x + 1) := by have h : (halfB c).length ≤ 4 := halfB_len c; omega
            exact ⟨⟨x + 1, o' ++ halfB c, _, by omega, by first | rfl | go_num, rfl, Lib.hid (by first | exact strL_step hS.out (by rw [hhb]; rfl) | exact strL_step hS.out (by rw [hhb]; exact (encode_eq _).symm) | exact strL_step hS.out (encode_eq _).symm | (rw [List.append_nil]; exact hS.out)), Lib.hid (by
             have h := hgo.out
             rw [show N - x = (N - (x + 1)) + 1 by omega, rtGo, hrt] at h
             simpa only [List.append_assoc, List.nil_append, List.append_nil] using h), by rw [List.length_append]; omega, Lib.hid (hbr.out.trans (hbAB.mono hbr.out.size))⟩, by simp [intOf]; omega⟩
          ·rw [hq] at PQ
           replace PQ := Lib.hid PQ
           have hrt : rtAt RW x = [] := by unfold rtAt; rw [hc]; dsimp only; rw [hnp, hpn, hq]; simp [hx0]
           go_upto_region 15 with fail
           refine wp_region_steady (Held uA 0 []) (by kernel_rfl) (by kernel_rfl) ⟨belt, (by (try simp) <;> omega), (by first | exact trivial | (simp only [Cells]; go_simp))⟩ ?_
           repeat (first | (refine' wpSteady_do _ _ _; rotate_left; (focus rfl); (focus (intro w1 hS R hR; have hc := hS.cells; simp only [Cells] at hc; obtain ⟨hco, hfo⟩ := bcell hS.old; go_simp; (try go_bits); first | exact hR _ hS | (go_at_call 64; (with_reducible refine (PQ.out _).mono ?_); rintro e w2 ⟨rfl, hb2⟩; exact ⟨_, rfl, hR _ (hS.below hb2)⟩))); simp only [pu]) | (refine wpSteady_pass ?_ ?_; (focus rfl); simp only [pu]))
           refine wpSteady_nil (fun uB hSB => ?_)
           have hcB := hSB.cells; have hbB := hSB.old; have hzB := hSB.size; clear hSB; simp only [Cells] at hcB; obtain ⟨hcoB, hfoB⟩ := bcell hbB
           have hbAB := hbA.trans (hbB.mono hbA.size)
           go_wp2
           have hnx : o'.length + (([] : List UInt8)).length ≤ o.length + 4 * (x + 1) := by have h : (([] : List UInt8)).length ≤ 4 := (by simp); omega
           exact ⟨⟨x + 1, o' ++ ([] : List UInt8), _, by omega, by first | rfl | go_num, rfl, Lib.hid (by first | exact strL_step hS.out (by rw [hhb]; rfl) | exact strL_step hS.out (by rw [hhb]; exact (encode_eq _).symm) | exact strL_step hS.out (encode_eq _).symm | (rw [List.append_nil]; exact hS.out)), Lib.hid (by
            have h := hgo.out
            rw [show N - x = (N - (x + 1)) + 1 by omega, rtGo, hrt] at h
            simpa only [List.append_assoc, List.nil_append, List.append_nil] using h), by rw [List.length_append]; omega, Lib.hid (hbr.out.trans (hbAB.mono hbr.out.size))⟩, by simp [intOf]; omega⟩
         ·have hx0i : ¬ (0 : Int) < x := by omega
          have hpv : (decide (0 < x) && nextP RW (x - 1)) = false := by rw [decide_eq_false hx0]; rfl
          go_upto_region 15 with fail
          refine wp_region_steady (Held uA 0 []) (by kernel_rfl) (by kernel_rfl) ⟨belt, (by (try simp) <;> omega), (by first | exact trivial | (simp only [Cells]; go_simp))⟩ ?_
          repeat (first | (refine' wpSteady_do _ _ _; rotate_left; (focus rfl); (focus (intro w1 hS R hR; have hc := hS.cells; simp only [Cells] at hc; obtain ⟨hco, hfo⟩ := bcell hS.old; go_simp; (try go_bits); first | exact hR _ hS | fail)); simp only [pu]) | (refine wpSteady_pass ?_ ?_; (focus rfl); simp only [pu]))
          refine wpSteady_nil (fun uB hSB => ?_)
          have hcB := hSB.cells; have hbB := hSB.old; have hzB := hSB.size; clear hSB; simp only [Cells] at hcB; obtain ⟨hcoB, hfoB⟩ := bcell hbB
          have hbAB := hbA.trans (hbB.mono hbA.size)
          have hrt : rtAt RW x = halfB c := by unfold rtAt; rw [hc]; dsimp only; rw [hnp, hpv]; rfl
          cases hwi : c.wide
          ·cases hta : c.tail
           ·have hhb : halfB c = Lib.encodeRune c.rune := by unfold halfB; rw [hwi, hta]; rfl
            rw [hwi] at j9
            rw [hta] at j10
            go_wp2
            have hnx : o'.length + (halfB c).length ≤ o.length + 4 * (x + 1) := by have h : (halfB c).length ≤ 4 := halfB_len c; omega
            exact ⟨⟨x + 1, o' ++ halfB c, _, by omega, by first | rfl | go_num, rfl, Lib.hid (by first | exact strL_step hS.out (by rw [hhb]; rfl) | exact strL_step hS.out (by rw [hhb]; exact (encode_eq _).symm) | exact strL_step hS.out (encode_eq _).symm | (rw [List.append_nil]; exact hS.out)), Lib.hid (by
             have h := hgo.out
             rw [show N - x = (N - (x + 1)) + 1 by omega, rtGo, hrt] at h
             simpa only [List.append_assoc, List.nil_append, List.append_nil] using h), by rw [List.length_append]; omega, Lib.hid (hbr.out.trans (hbAB.mono hbr.out.size))⟩, by simp [intOf]; omega⟩
           ·have hhb : halfB c = [32] := by unfold halfB; rw [hwi, hta]; rfl
            rw [hwi] at j9
            rw [hta] at j10
            go_wp2
            have hnx : o'.length + (halfB c).length ≤ o.length + 4 * (x + 1) := by have h : (halfB c).length ≤ 4 := halfB_len c; omega
            exact ⟨⟨x + 1, o' ++ halfB c, _, by omega, by first | rfl | go_num, rfl, Lib.hid (by first | exact strL_step hS.out (by rw [hhb]; rfl) | exact strL_step hS.out (by rw [hhb]; exact (encode_eq _).symm) | exact strL_step hS.out (encode_eq _).symm | (rw [List.append_nil]; exact hS.out)), Lib.hid (by
             have h := hgo.out
             rw [show N - x = (N - (x + 1)) + 1 by omega, rtGo, hrt] at h
             simpa only [List.append_assoc, List.nil_append, List.append_nil] using h), by rw [List.length_append]; omega, Lib.hid (hbr.out.trans (hbAB.mono hbr.out.size))⟩, by simp [intOf]; omega⟩
          ·have hhb : halfB c = [32] := by unfold halfB; rw [hwi]; rfl
           rw [hwi] at j9
           go_wp2
           have hnx : o'.length + (halfB c).length ≤ o.length + 4 * (x + 1) := by have h : (halfB c).length ≤ 4 := halfB_len c; omega
           exact ⟨⟨x + 1, o' ++ halfB c, _, by omega, by first | rfl | go_num, rfl, Lib.hid (by first | exact strL_step hS.out (by rw [hhb]; rfl) | exact strL_step hS.out (by rw [hhb]; exact (encode_eq _).symm) | exact strL_step hS.out (encode_eq _).symm | (rw [List.append_nil]; exact hS.out)), Lib.hid (by
            have h := hgo.out
            rw [show N - x = (N - (x + 1)) + 1 by omega, rtGo, hrt] at h
            simpa only [List.append_assoc, List.nil_append, List.append_nil] using h), by rw [List.length_append]; omega, Lib.hid (hbr.out.trans (hbAB.mono hbr.out.size))⟩, by simp [intOf]; omega⟩
        ·rw [hp] at PR
         replace PR := Lib.hid PR
         have hrt : rtAt RW x = Lib.encodeRune c.rune := by
          have hnp : nextP RW x = true := by unfold nextP; rw [hc, hd]; exact hp
          unfold rtAt; rw [hc]; dsimp only; rw [hnp]; rfl
         go_upto_region 13 with fail
         refine wp_region_steady (Held wv 0 []) (by kernel_rfl) (by kernel_rfl) ⟨belt, (by (try simp) <;> omega), (by first | exact trivial | (simp only [Cells]; go_simp))⟩ ?_
         repeat (first | (refine' wpSteady_do _ _ _; rotate_left; (focus rfl); (focus (intro w1 hS R hR; have hc := hS.cells; simp only [Cells] at hc; obtain ⟨hco, hfo⟩ := bcell hS.old; go_simp; (try go_bits); first | exact hR _ hS | (go_at_call 64; (with_reducible refine (PR.out _).mono ?_); rintro e w2 ⟨rfl, hb2⟩; exact ⟨_, rfl, hR _ (hS.below hb2)⟩))); simp only [pu]) | (refine wpSteady_pass ?_ ?_; (focus rfl); simp only [pu]))
         refine wpSteady_nil (fun uA hSA => ?_)
         have hcA := hSA.cells; have hbA := hSA.old; have hzA := hSA.size; clear hSA; simp only [Cells] at hcA; obtain ⟨hcoA, hfoA⟩ := bcell hbA
         have hbAB := hbA
         go_wp2
         have hnx : o'.length + (Lib.encodeRune c.rune).length ≤ o.length + 4 * (x + 1) := by have h : (Lib.encodeRune c.rune).length ≤ 4 := enc_len4 _; omega
         exact ⟨⟨x + 1, o' ++ Lib.encodeRune c.rune, _, by omega, by first | rfl | go_num, rfl, Lib.hid (by first | exact strL_step hS.out (by rw [hhb]; rfl) | exact strL_step hS.out (by rw [hhb]; exact (encode_eq _).symm) | exact strL_step hS.out (encode_eq _).symm | (rw [List.append_nil]; exact hS.out)), Lib.hid (by
          have h := hgo.out
          rw [show N - x = (N - (x + 1)) + 1 by omega, rtGo, hrt] at h
          simpa only [List.append_assoc, List.nil_append, List.append_nil] using h), by rw [List.length_append]; omega, Lib.hid (hbr.out.trans (hbAB.mono hbr.out.size))⟩, by simp [intOf]; omega⟩
       ·have hx1i : ¬ (x : Int) + 1 < N := by omega
        have hd : RW[x + 1]? = none := List.getElem?_eq_none (by have := hRl.out; omega)
        have hnp : nextP RW x = false := by unfold nextP; rw [hc, hd]
        go_upto_region 13 with fail
        refine wp_region_steady (Held wv 0 []) (by kernel_rfl) (by kernel_rfl) ⟨belt, (by (try simp) <;> omega), (by first | exact trivial | (simp only [Cells]; go_simp))⟩ ?_
        repeat (first | (refine' wpSteady_do _ _ _; rotate_left; (focus rfl); (focus (intro w1 hS R hR; have hc := hS.cells; simp only [Cells] at hc; obtain ⟨hco, hfo⟩ := bcell hS.old; go_simp; (try go_bits); first | exact hR _ hS | fail)); simp only [pu]) | (refine wpSteady_pass ?_ ?_; (focus rfl); simp only [pu]))
        refine wpSteady_nil (fun uA hSA => ?_)
        have hcA := hSA.cells; have hbA := hSA.old; have hzA := hSA.size; clear hSA; simp only [Cells] at hcA; obtain ⟨hcoA, hfoA⟩ := bcell hbA
        have yg2 : g < uA.heap.size := by have := hbA.size; omega
        by_cases hx0 : 0 < x
        ·have hx0i : (0 : Int) < x := by omega
         obtain ⟨k, hk⟩ : ∃ k, x - 1 = k := ⟨_, rfl⟩
         have hkx : (x : Int) - 1 = (k : Int) := by omega
         have hkN : k < N := by omega
         have hk0 : (0 : Int) ≤ (k : Int) := by omega
         obtain ⟨e, he⟩ : ∃ e, RW[k]? = some e := ⟨RW[k]'(by have := hRl.out; omega), List.getElem?_eq_getElem _⟩
         obtain ⟨i0, i1, i2, i3, i4, i5, i6, i7, i8, i9, i10⟩ := (hmem k e hkN (by rw [← hRg.out k hkN]; exact he)).below hbx hg
         have PQ := crpair_any e c
         have hpn : nextP RW (x - 1) = pairC e c := by
          unfold nextP
          rw [hk, he, show k + 1 = x by omega, hc]
         replace hk := Lib.hid hk
         cases hq : pairC e c
         ·rw [hq] at PQ
          replace PQ := Lib.hid PQ
          have hpv : (decide (0 < x) && nextP RW (x - 1)) = false := by rw [hpn, hq, Bool.and_false]
          go_upto_region 15 with fail
          refine wp_region_steady (Held uA 0 []) (by kernel_rfl) (by kernel_rfl) ⟨belt, (by (try simp) <;> omega), (by first | exact trivial | (simp only [Cells]; go_simp))⟩ ?_
          repeat (first | (refine' wpSteady_do _ _ _; rotate_left; (focus rfl); (focus (intro w1 hS R hR; have hc := hS.cells; simp only [Cells] at hc; obtain ⟨hco, hfo⟩ := bcell hS.old; go_simp; (try go_bits); first | exact hR _ hS | (go_at_call 64; (with_reducible refine (PQ.out _).mono ?_); rintro e w2 ⟨rfl, hb2⟩; exact ⟨_, rfl, hR _ (hS.below hb2)⟩))); simp only [pu]) | (refine wpSteady_pass ?_ ?_; (focus rfl); simp only [pu]))
          refine wpSteady_nil (fun uB hSB => ?_)
          have hcB := hSB.cells; have hbB := hSB.old; have hzB := hSB.size; clear hSB; simp only [Cells] at hcB; obtain ⟨hcoB, hfoB⟩ := bcell hbB
          clear i0 i1 i2 i3 i4 i5 i6 i7 i8 i9 i10
          have hbAB := hbA.trans (hbB.mono hbA.size)
          have hrt : rtAt RW x = halfB c := by unfold rtAt; rw [hc]; dsimp only; rw [hnp, hpv]; rfl
          cases hwi : c.wide
          ·cases hta : c.tail
           ·have hhb : halfB c = Lib.encodeRune c.rune := by unfold halfB; rw [hwi, hta]; rfl
            rw [hwi] at j9
            rw [hta] at j10
            go_wp2
            have hnx : o'.length + (halfB c).length ≤ o.length + 4 * (x + 1) := by have h : (halfB c).length ≤ 4 := halfB_len c; omega
            exact ⟨⟨x + 1, o' ++ halfB c, _, by omega, by first | rfl | go_num, rfl, Lib.hid (by first | exact strL_step hS.out (by rw [hhb]; rfl) | exact strL_step hS.out (by rw [hhb]; exact (encode_eq _).symm) | exact strL_step hS.out (encode_eq _).symm | (rw [List.append_nil]; exact hS.out)), Lib.hid (by
             have h := hgo.out
             rw [show N - x = (N - (x + 1)) + 1 by omega, rtGo, hrt] at h
             simpa only [List.append_assoc, List.nil_append, List.append_nil] using h), by rw [List.length_append]; omega, Lib.hid (hbr.out.trans (hbAB.mono hbr.out.size))⟩, by simp [intOf]; omega⟩
           ·have hhb : halfB c = [32] := by unfold halfB; rw [hwi, hta]; rfl
            rw [hwi] at j9
            rw [hta] at j10
            go_wp2
            have hnx : o'.length + (halfB c).length ≤ o.length + 4 * (x + 1) := by have h : (halfB c).length ≤ 4 := halfB_len c; omega
            exact ⟨⟨x + 1, o' ++ halfB c, _, by omega, by first | rfl | go_num, rfl, Lib.hid (by first | exact strL_step hS.out (by rw [hhb]; rfl) | exact strL_step hS.out (by rw [hhb]; exact (encode_eq _).symm) | exact strL_step hS.out (encode_eq _).symm | (rw [List.append_nil]; exact hS.out)), Lib.hid (by
             have h := hgo.out
             rw [show N - x = (N - (x + 1)) + 1 by omega, rtGo, hrt] at h
             simpa only [List.append_assoc, List.nil_append, List.append_nil] using h), by rw [List.length_append]; omega, Lib.hid (hbr.out.trans (hbAB.mono hbr.out.size))⟩, by simp [intOf]; omega⟩
          ·have hhb : halfB c = [32] := by unfold halfB; rw [hwi]; rfl
           rw [hwi] at j9
           go_wp2
           have hnx : o'.length + (halfB c).length ≤ o.length + 4 * (x + 1) := by have h : (halfB c).length ≤ 4 := halfB_len c; omega
           exact ⟨⟨x + 1, o' ++ halfB c, _, by omega, by first | rfl | go_num, rfl, Lib.hid (by first | exact strL_step hS.out (by rw [hhb]; rfl) | exact strL_step hS.out (by rw [hhb]; exact (encode_eq _).symm) | exact strL_step hS.out (encode_eq _).symm | (rw [List.append_nil]; exact hS.out)), Lib.hid (by
            have h := hgo.out
            rw [show N - x = (N - (x + 1)) + 1 by omega, rtGo, hrt] at h
            simpa only [List.append_assoc, List.nil_append, List.append_nil] using h), by rw [List.length_append]; omega, Lib.hid (hbr.out.trans (hbAB.mono hbr.out.size))⟩, by simp [intOf]; omega⟩
         ·rw [hq] at PQ
          replace PQ := Lib.hid PQ
          have hrt : rtAt RW x = [] := by unfold rtAt; rw [hc]; dsimp only; rw [hnp, hpn, hq]; simp [hx0]
          go_upto_region 15 with fail
          refine wp_region_steady (Held uA 0 []) (by kernel_rfl) (by kernel_rfl) ⟨belt, (by (try simp) <;> omega), (by first | exact trivial | (simp only [Cells]; go_simp))⟩ ?_
          repeat (first | (refine' wpSteady_do _ _ _; rotate_left; (focus rfl); (focus (intro w1 hS R hR; have hc := hS.cells; simp only [Cells] at hc; obtain ⟨hco, hfo⟩ := bcell hS.old; go_simp; (try go_bits); first | exact hR _ hS | (go_at_call 64; (with_reducible refine (PQ.out _).mono ?_); rintro e w2 ⟨rfl, hb2⟩; exact ⟨_, rfl, hR _ (hS.below hb2)⟩))); simp only [pu]) | (refine wpSteady_pass ?_ ?_; (focus rfl); simp only [pu]))
          refine wpSteady_nil (fun uB hSB => ?_)
          have hcB := hSB.cells; have hbB := hSB.old; have hzB := hSB.size; clear hSB; simp only [Cells] at hcB; obtain ⟨hcoB, hfoB⟩ := bcell hbB
          have hbAB := hbA.trans (hbB.mono hbA.size)
          go_wp2
          have hnx : o'.length + (([] : List UInt8)).length ≤ o.length + 4 * (x + 1) := by have h : (([] : List UInt8)).length ≤ 4 := (by simp); omega
          exact ⟨⟨x + 1, o' ++ ([] : List UInt8), _, by omega, by first | rfl | go_num, rfl, Lib.hid (by first | exact strL_step hS.out (by rw [hhb]; rfl) | exact strL_step hS.out (by rw [hhb]; exact (encode_eq _).symm) | exact strL_step hS.out (encode_eq _).symm | (rw [List.append_nil]; exact hS.out)), Lib.hid (by
           have h := hgo.out
           rw [show N - x = (N - (x + 1)) + 1 by omega, rtGo, hrt] at h
           simpa only [List.append_assoc, List.nil_append, List.append_nil] using h), by rw [List.length_append]; omega, Lib.hid (hbr.out.trans (hbAB.mono hbr.out.size))⟩, by simp [intOf]; omega⟩
        ·have hx0i : ¬ (0 : Int) < x := by omega
         have hpv : (decide (0 < x) && nextP RW (x - 1)) = false := by rw [decide_eq_false hx0]; rfl
         go_upto_region 15 with fail
         refine wp_region_steady (Held uA 0 []) (by kernel_rfl) (by kernel_rfl) ⟨belt, (by (try simp) <;> omega), (by first | exact trivial | (simp only [Cells]; go_simp))⟩ ?_
         repeat (first | (refine' wpSteady_do _ _ _; rotate_left; (focus rfl); (focus (intro w1 hS R hR; have hc := hS.cells; simp only [Cells] at hc; obtain ⟨hco, hfo⟩ := bcell hS.old; go_simp; (try go_bits); first | exact hR _ hS | fail)); simp only [pu]) | (refine wpSteady_pass ?_ ?_; (focus rfl); simp only [pu]))
         refine wpSteady_nil (fun uB hSB => ?_)
         have hcB := hSB.cells; have hbB := hSB.old; have hzB := hSB.size; clear hSB; simp only [Cells] at hcB; obtain ⟨hcoB, hfoB⟩ := bcell hbB
         have hbAB := hbA.trans (hbB.mono hbA.size)
         have hrt : rtAt RW x = halfB c := by unfold rtAt; rw [hc]; dsimp only; rw [hnp, hpv]; rfl
         cases hwi : c.wide
         ·cases hta : c.tail
          ·have hhb : halfB c = Lib.encodeRune c.rune := by unfold halfB; rw [hwi, hta]; rfl
           rw [hwi] at j9
           rw [hta] at j10
           go_wp2
           have hnx : o'.length + (halfB c).length ≤ o.length + 4 * (x + 1) := by have h : (halfB c).length ≤ 4 := halfB_len c; omega
           exact ⟨⟨x + 1, o' ++ halfB c, _, by omega, by first | rfl | go_num, rfl, Lib.hid (by first | exact strL_step hS.out (by rw [hhb]; rfl) | exact strL_step hS.out (by rw [hhb]; exact (encode_eq _).symm) | exact strL_step hS.out (encode_eq _).symm | (rw [List.append_nil]; exact hS.out)), Lib.hid (by
            have h := hgo.out
            rw [show N - x = (N - (x + 1)) + 1 by omega, rtGo, hrt] at h
            simpa only [List.append_assoc, List.nil_append, List.append_nil] using h), by rw [List.length_append]; omega, Lib.hid (hbr.out.trans (hbAB.mono hbr.out.size))⟩, by simp [intOf]; omega⟩
          ·have hhb : halfB c = [32] := by unfold halfB; rw [hwi, hta]; rfl
           rw [hwi] at j9
           rw [hta] at j10
           go_wp2
           have hnx : o'.length + (halfB c).length ≤ o.length + 4 * (x + 1) := by have h : (halfB c).length ≤ 4 := halfB_len c; omega
           exact ⟨⟨x + 1, o' ++ halfB c, _, by omega, by first | rfl | go_num, rfl, Lib.hid (by first | exact strL_step hS.out (by rw [hhb]; rfl) | exact strL_step hS.out (by rw [hhb]; exact (encode_eq _).symm) | exact strL_step hS.out (encode_eq _).symm | (rw [List.append_nil]; exact hS.out)), Lib.hid (by
            have h := hgo.out
            rw [show N - x = (N - (x + 1)) + 1 by omega, rtGo, hrt] at h
            simpa only [List.append_assoc, List.nil_append, List.append_nil] using h), by rw [List.length_append]; omega, Lib.hid (hbr.out.trans (hbAB.mono hbr.out.size))⟩, by simp [intOf]; omega⟩
         ·have hhb : halfB c = [32] := by unfold halfB; rw [hwi]; rfl
          rw [hwi] at j9
          go_wp2
          have hnx : o'.length + (halfB c).length ≤ o.length + 4 * (x + 1) := by have h : (halfB c).length ≤ 4 := halfB_len c; omega
          exact ⟨⟨x + 1, o' ++ halfB c, _, by omega, by first | rfl | go_num, rfl, Lib.hid (by first | exact strL_step hS.out (by rw [hhb]; rfl) | exact strL_step hS.out (by rw [hhb]; exact (encode_eq _).symm) | exact strL_step hS.out (encode_eq _).symm | (rw [List.append_nil]; exact hS.out)), Lib.hid (by
           have h := hgo.out
           rw [show N - x = (N - (x + 1)) + 1 by omega, rtGo, hrt] at h
           simpa only [List.append_assoc, List.nil_append, List.append_nil] using h), by rw [List.length_append]; omega, Lib.hid (hbr.out.trans (hbAB.mono hbr.out.size))⟩, by simp [intOf]; omega⟩
      ·obtain rfl : x = N := by omega
       have hxi : ¬ (x : Int) < x := by omega
       clear hSs hyb
       have hgx : strL (o' ++ Z) = TS := by
        have h := hgo.out
        rw [Nat.sub_self] at h
        simpa only [rtGo, List.nil_append] using h
       clear hgo
       go_wp2
       exact ⟨⟨y + 1, o' ++ [10], _, by omega, by first | rfl | go_num, rfl, Lib.hid (strL_step hS.out rfl), Lib.hid (by rw [← hZ.out] at hgx; rw [List.append_assoc]; exact hgx), by rw [List.length_append, Nat.add_mul]; simp only [List.length_cons, List.length_nil]; omega, Lib.hid (hb.out.trans (hbr.out.mono hb.out.size)), Lib.hid (hB.out.below hbr.out yb)⟩, by simp [intOf]; omega⟩
   ·obtain rfl : y = M := by omega
    have hyi : ¬ (y : Int) < y := by omega
    have hgx : S = TS := by
     have h := hgo.out
     rw [Nat.sub_self] at h
     rw [← hS.out, ← h]
     simp only [txtGo, List.append_nil]
    subst hgx
    go_wp2
    go_ret2
    exact ⟨rfl, hb.out⟩
 ·have eK : KS = 150 := hKS.symm.trans e0
  clear hKS
  subst eK
  rw [if_neg (by omega)] at hTS
  subst hTS
  replace CK := Lib.hid CK
  go_wp2_with (go_at_call 16; (with_reducible refine CK.out.mono ?_); rintro e w1 ⟨rfl, hb1⟩)
  go_ret2
  exact ⟨rfl, hbw.trans (hb1.mono hbw.size)⟩
end Go.Proofs.YtffmomgmkpmpkaaGreatDoor

namespace Go.Proofs.YtffmomgmkpmpkaaGreatDoor
open Go.RowKit
set_option linter.unusedVariables false
attribute [local go_sem] vwp vUpon_value vUpon_skip vUpon_enter vUpon_row
set_option linter.unusedSimpArgs false
set_option linter.unusedVariables false
def Ce.nought : Ce := ⟨0, Co.none, Co.none, false, false⟩
def atOk (wd ht : Int) (cs : List Ce) (x y : Int) : Bool := decide (chkS wd ht cs = 0) && plcS wd ht x y
def atC (wd ht : Int) (cs : List Ce) (x y : Int) : Ce := if atOk wd ht cs x y then (cs[(y * wd + x).toNat]?).getD Ce.nought else Ce.nought
def atE (wd ht : Int) (cs : List Ce) (x y : Int) : Int := if atOk wd ht cs x y then 0 else 150
theorem chk_cases (wd ht : Int) (cs : List Ce) : chkS wd ht cs = 0 ∨ chkS wd ht cs = 150 := by
  unfold chkS; split <;> simp
theorem chk_zero {wd ht : Int} {cs : List Ce} (h : chkS wd ht cs = 0) : fitsS wd ht = true ∧ (cs.length : Int) = wd * ht ∧ cs.all mayC = true := by
  unfold chkS at h
  split at h
  · rename_i hc
    simp only [Bool.and_eq_true, decide_eq_true_eq] at hc
    exact ⟨hc.1.1, hc.1.2, hc.2⟩
  · cases h
theorem cindex_v (wd ht x y z : Int) (v : Value) (w : World) (hfit : fitsS wd ht = true) (hz : idxS wd ht x y = z) : Calls Tryz.prog 58 #[.agg #[.int .i64 (wd), .int .i64 (ht), v], .agg #[.int .i64 (x), .int .i64 (y)]] w fun e w' => e = .returned (.int .i64 z) ∧ Below w.heap.size w w' := by
  rw [← hz]
  exact cindex_any wd ht x y v w hfit
set_option maxHeartbeats 8000000 in
set_option maxRecDepth 100000 in
theorem cat_any (wd ht : Int) (cs : List Ce) (v : Value) (x y : Int) (w : World) (h1 : I64 wd) (h2 : I64 ht) (hl : Row w.heap.size 11 Ce.enc w v cs) :
  Calls Tryz.prog 21 #[.agg #[.int .i64 (wd), .int .i64 (ht), v], .agg #[.int .i64 (x), .int .i64 (y)]] w fun e w' => e = .returned (.tuple #[.agg #[.int .i32 ((atC wd ht cs x y)).rune, .int .u8 ((atC wd ht cs x y)).col.r, .int .u8 ((atC wd ht cs x y)).col.g, .int .u8 ((atC wd ht cs x y)).col.b, .int .u8 ((atC wd ht cs x y)).col.a, .int .u8 ((atC wd ht cs x y)).back.r, .int .u8 ((atC wd ht cs x y)).back.g, .int .u8 ((atC wd ht cs x y)).back.b, .int .u8 ((atC wd ht cs x y)).back.a, .bool ((atC wd ht cs x y)).wide, .bool ((atC wd ht cs x y)).tail], .int .i64 (atE wd ht cs x y)]) ∧ Below w.heap.size w w' := by
 have C1 := fun w1 (hb : Below w.heap.size w w1) => ccheck_any wd ht cs v w1 h1 h2 ((hl.below hb).mono hb.size)
 have hopen := fun h0 => row_ce hl h0
 obtain ⟨s0, cap, rfl, hmax⟩ := hl.shape
 obtain ⟨RC, hRC⟩ : ∃ R, atC wd ht cs x y = R := ⟨_, rfl⟩
 obtain ⟨RE, hRE⟩ : ∃ R, atE wd ht cs x y = R := ⟨_, rfl⟩
 rw [hRC, hRE]
 unfold atC at hRC
 unfold atE at hRE
 obtain ⟨ok, hok⟩ : ∃ b, atOk wd ht cs x y = b := ⟨_, rfl⟩
 rw [hok] at hRC hRE
 unfold atOk at hok
 obtain ⟨n, en⟩ : ∃ n, cs.length = n := ⟨_, rfl⟩
 rw [en] at C1 hmax hopen ⊢
 replace hopen := Lib.hid hopen
 replace en := Lib.hid en
 clear hl
 go_enter Tryz.func21, Tryz.ntmps21
 go_upto_region 1 with fail
 obtain ⟨W, hW⟩ : ∃ W, ((w.alloc (.cells #[.int .i64 wd, .int .i64 ht, .slice s0 n cap] 26)).alloc (.cells #[.int .i64 x, .int .i64 y] 40)).alloc (.cells #[.int .i32 0, .int .u8 0, .int .u8 0, .int .u8 0, .int .u8 0, .int .u8 0, .int .u8 0, .int .u8 0, .int .u8 0, .bool false, .bool false] 52) = W := ⟨_, rfl⟩
 have B2 : Blk W w.heap.size [.int .i64 wd, .int .i64 ht, .slice s0 n cap] 26 := by rw [← hW]; exact ((Blk.new' rfl).alloc _).alloc _
 have B3 : Blk W (w.heap.size + 1) [.int .i64 x, .int .i64 y] 40 := by rw [← hW]; exact (Blk.new' (by simp)).alloc _
 have B4 : Blk W (w.heap.size + 1 + 1) [.int .i32 0, .int .u8 0, .int .u8 0, .int .u8 0, .int .u8 0, .int .u8 0, .int .u8 0, .int .u8 0, .int .u8 0, .bool false, .bool false] 52 := by rw [← hW]; exact Blk.new' (by simp)
 have hbw : Below w.heap.size w W := by rw [← hW]; exact belt
 rw [hW]
 clear hW
 have yB2 := B2.lt
 have yB3 := B3.lt
 have yB4 := B4.lt
 have q0 := B2.cell (o := 0) rfl
 have q1 := B2.cell (o := 1) rfl
 have q2 := B2.cell (o := 2) rfl
 replace C1 := Lib.hid (C1 W hbw)
 rcases chk_cases wd ht cs with e0 | e0
 ·rw [e0] at C1 hok
  obtain ⟨hfit, hlen, hall⟩ := chk_zero e0
  have hpl : plcS wd ht x y = ok := by simpa using hok
  clear hok
  replace hpl := Lib.hid hpl
  go_upto_region 4 with (go_at_call 15; (with_reducible refine C1.out.mono ?_); rintro e w1 ⟨rfl, hb1⟩)
  replace B2 := B2.below hb1 yB2
  replace B3 := B3.below hb1 yB3
  replace B4 := B4.below hb1 yB4
  replace hbw := hbw.trans (hb1.mono hbw.size)
  clear hb1 q0 q1 q2 C1 yB2 yB3 yB4
  have yB2 := B2.lt
  have yB3 := B3.lt
  have yB4 := B4.lt
  have q0 := B2.cell (o := 0) rfl
  have q1 := B2.cell (o := 1) rfl
  have q2 := B2.cell (o := 2) rfl
  have r0 := B3.cell (o := 0) rfl
  have r1 := B3.cell (o := 1) rfl
  cases ok
  ·simp only [Bool.false_eq_true, if_false] at hRC hRE
   subst hRC hRE
   have IX := fun v w => cindex_v wd ht x y (-1) v w hfit (by unfold idxS; rw [hpl.out]; rfl)
   replace IX := Lib.hid IX
   go_wp2_with (go_at_call 58; (with_reducible refine (IX.out _ _).mono ?_); rintro e w2 ⟨rfl, hb2⟩; replace B4 := B4.below hb2 yB4; replace hbw := hbw.trans (hb2.mono hbw.size); have k0 := (B4).cell (o := 0) rfl; have k1 := (B4).cell (o := 1) rfl; have k2 := (B4).cell (o := 2) rfl; have k3 := (B4).cell (o := 3) rfl; have k4 := (B4).cell (o := 4) rfl; have k5 := (B4).cell (o := 5) rfl; have k6 := (B4).cell (o := 6) rfl; have k7 := (B4).cell (o := 7) rfl; have k8 := (B4).cell (o := 8) rfl; have k9 := (B4).cell (o := 9) rfl; have k10 := (B4).cell (o := 10) rfl; have kf := (B4).free)
   clear k0 k1 k2 k3 k4 k5 k6 k7 k8 k9 k10 kf
   have HZ := Blk.put11 B4 rfl (.int .i32 0) (.int .u8 0) (.int .u8 0) (.int .u8 0) (.int .u8 0) (.int .u8 0) (.int .u8 0) (.int .u8 0) (.int .u8 0) (.bool false) (.bool false)
   have hbZ := put11_below hbw (b := (w.heap.size + 1 + 1)) (by omega) (.int .i32 0) (.int .u8 0) (.int .u8 0) (.int .u8 0) (.int .u8 0) (.int .u8 0) (.int .u8 0) (.int .u8 0) (.int .u8 0) (.bool false) (.bool false)
   generalize (((((((((((w2).setCell ⟨(w.heap.size + 1 + 1), 0, none⟩ (.int .i32 0)).setCell ⟨(w.heap.size + 1 + 1), 1, none⟩ (.int .u8 0)).setCell ⟨(w.heap.size + 1 + 1), 2, none⟩ (.int .u8 0)).setCell ⟨(w.heap.size + 1 + 1), 3, none⟩ (.int .u8 0)).setCell ⟨(w.heap.size + 1 + 1), 4, none⟩ (.int .u8 0)).setCell ⟨(w.heap.size + 1 + 1), 5, none⟩ (.int .u8 0)).setCell ⟨(w.heap.size + 1 + 1), 6, none⟩ (.int .u8 0)).setCell ⟨(w.heap.size + 1 + 1), 7, none⟩ (.int .u8 0)).setCell ⟨(w.heap.size + 1 + 1), 8, none⟩ (.int .u8 0)).setCell ⟨(w.heap.size + 1 + 1), 9, none⟩ (.bool false)).setCell ⟨(w.heap.size + 1 + 1), 10, none⟩ (.bool false) = wZ at HZ hbZ ⊢
   have jz0 := HZ.cell (o := 0) rfl
   have jz1 := HZ.cell (o := 1) rfl
   have jz2 := HZ.cell (o := 2) rfl
   have jz3 := HZ.cell (o := 3) rfl
   have jz4 := HZ.cell (o := 4) rfl
   have jz5 := HZ.cell (o := 5) rfl
   have jz6 := HZ.cell (o := 6) rfl
   have jz7 := HZ.cell (o := 7) rfl
   have jz8 := HZ.cell (o := 8) rfl
   have jz9 := HZ.cell (o := 9) rfl
   have jz10 := HZ.cell (o := 10) rfl
   refine bodyPost_ret (v := .tuple #[.agg #[(.int .i32 0), (.int .u8 0), (.int .u8 0), (.int .u8 0), (.int .u8 0), (.int .u8 0), (.int .u8 0), (.int .u8 0), (.int .u8 0), (.bool false), (.bool false)], .int .i64 150]) (by simp [results, Tryz.results21, go_sem, jz0, jz1, jz2, jz3, jz4, jz5, jz6, jz7, jz8, jz9, jz10]) rfl ⟨rfl, hbZ⟩
  ·simp only [if_true] at hRC hRE
   subst hRE
   obtain ⟨a1, a2, a3, a4⟩ := plcS_true.1 hpl.out
   obtain ⟨f1, f2, f3, f4, f5⟩ := fitsS_true.1 hfit
   obtain ⟨g1, g2⟩ := row_end (wd := wd) (ht := ht) (y := y) f1 a2 a4
   obtain ⟨I, hI⟩ : ∃ I : Nat, y * wd + x = (I : Int) := ⟨(y * wd + x).toNat, by omega⟩
   rw [hI, Int.toNat_natCast] at hRC
   have IX := fun v w => cindex_v wd ht x y I v w hfit (by unfold idxS; rw [hpl.out]; exact hI)
   have hIn : I < n := by
    have := en.out
    omega
   obtain ⟨c, hc⟩ := get_at en.out hIn
   rw [hc] at hRC
   have hRC : c = RC := hRC
   subst hRC
   obtain ⟨b, o, cap', e, hb, _, _, hel⟩ := hopen.out (by omega)
   simp only [Value.slice.injEq] at e
   obtain ⟨rfl, _, rfl⟩ := e
   obtain ⟨g0, g1, g2, g3, g4, g5, g6, g7, g8, g9, g10⟩ := CMem.below (hel I c hc) hbw hb
   have yb : b < w1.heap.size := by have := hbw.size; omega
   have hI0 : ¬ (I : Int) < 0 := by omega
   have hIi : (I : Int) < n := by omega
   replace IX := Lib.hid IX
   replace hc := Lib.hid hc
   clear hel hI hpl hfit hlen hall a1 a2 a3 a4 f1 f2 f3 f4 f5
   go_wp2_with (go_at_call 58; (with_reducible refine (IX.out _ _).mono ?_); rintro e w2 ⟨rfl, hb2⟩; obtain ⟨hc2, hf2⟩ := bcell hb2; replace hbw := hbw.trans (hb2.mono hbw.size); have D4 := B4.below hb2 yB4; have k0 := (B4).cell (o := 0) rfl; have k1 := (B4).cell (o := 1) rfl; have k2 := (B4).cell (o := 2) rfl; have k3 := (B4).cell (o := 3) rfl; have k4 := (B4).cell (o := 4) rfl; have k5 := (B4).cell (o := 5) rfl; have k6 := (B4).cell (o := 6) rfl; have k7 := (B4).cell (o := 7) rfl; have k8 := (B4).cell (o := 8) rfl; have k9 := (B4).cell (o := 9) rfl; have k10 := (B4).cell (o := 10) rfl; have kf := (B4).free)
   clear k0 k1 k2 k3 k4 k5 k6 k7 k8 k9 k10 kf
   replace B4 := D4
   obtain ⟨ru, ⟨c0, c1, c2, c3⟩, ⟨d0, d1, d2, d3⟩, wi, ta⟩ := c
   have HZ := Blk.put11 B4 rfl (.int .i32 ru) (.int .u8 c0) (.int .u8 c1) (.int .u8 c2) (.int .u8 c3) (.int .u8 d0) (.int .u8 d1) (.int .u8 d2) (.int .u8 d3) (.bool wi) (.bool ta)
   have hbZ := put11_below hbw (b := (w.heap.size + 1 + 1)) (by omega) (.int .i32 ru) (.int .u8 c0) (.int .u8 c1) (.int .u8 c2) (.int .u8 c3) (.int .u8 d0) (.int .u8 d1) (.int .u8 d2) (.int .u8 d3) (.bool wi) (.bool ta)
   generalize (((((((((((w2).setCell ⟨(w.heap.size + 1 + 1), 0, none⟩ (.int .i32 ru)).setCell ⟨(w.heap.size + 1 + 1), 1, none⟩ (.int .u8 c0)).setCell ⟨(w.heap.size + 1 + 1), 2, none⟩ (.int .u8 c1)).setCell ⟨(w.heap.size + 1 + 1), 3, none⟩ (.int .u8 c2)).setCell ⟨(w.heap.size + 1 + 1), 4, none⟩ (.int .u8 c3)).setCell ⟨(w.heap.size + 1 + 1), 5, none⟩ (.int .u8 d0)).setCell ⟨(w.heap.size + 1 + 1), 6, none⟩ (.int .u8 d1)).setCell ⟨(w.heap.size + 1 + 1), 7, none⟩ (.int .u8 d2)).setCell ⟨(w.heap.size + 1 + 1), 8, none⟩ (.int .u8 d3)).setCell ⟨(w.heap.size + 1 + 1), 9, none⟩ (.bool wi)).setCell ⟨(w.heap.size + 1 + 1), 10, none⟩ (.bool ta) = wZ at HZ hbZ ⊢
   have jz0 := HZ.cell (o := 0) rfl
   have jz1 := HZ.cell (o := 1) rfl
   have jz2 := HZ.cell (o := 2) rfl
   have jz3 := HZ.cell (o := 3) rfl
   have jz4 := HZ.cell (o := 4) rfl
   have jz5 := HZ.cell (o := 5) rfl
   have jz6 := HZ.cell (o := 6) rfl
   have jz7 := HZ.cell (o := 7) rfl
   have jz8 := HZ.cell (o := 8) rfl
   have jz9 := HZ.cell (o := 9) rfl
   have jz10 := HZ.cell (o := 10) rfl
   refine bodyPost_ret (v := .tuple #[.agg #[(.int .i32 ru), (.int .u8 c0), (.int .u8 c1), (.int .u8 c2), (.int .u8 c3), (.int .u8 d0), (.int .u8 d1), (.int .u8 d2), (.int .u8 d3), (.bool wi), (.bool ta)], .int .i64 0]) (by simp [results, Tryz.results21, go_sem, jz0, jz1, jz2, jz3, jz4, jz5, jz6, jz7, jz8, jz9, jz10]) rfl ⟨rfl, hbZ⟩
 ·rw [e0] at C1 hok
  have hok : false = ok := by simpa using hok
  subst hok
  simp only [Bool.false_eq_true, if_false] at hRC hRE
  subst hRC hRE
  go_wp2_with (go_at_call 15; (with_reducible refine C1.out.mono ?_); rintro e w1 ⟨rfl, hb1⟩; replace B4 := B4.below hb1 yB4; replace hbw := hbw.trans (hb1.mono hbw.size); have k0 := (B4).cell (o := 0) rfl; have k1 := (B4).cell (o := 1) rfl; have k2 := (B4).cell (o := 2) rfl; have k3 := (B4).cell (o := 3) rfl; have k4 := (B4).cell (o := 4) rfl; have k5 := (B4).cell (o := 5) rfl; have k6 := (B4).cell (o := 6) rfl; have k7 := (B4).cell (o := 7) rfl; have k8 := (B4).cell (o := 8) rfl; have k9 := (B4).cell (o := 9) rfl; have k10 := (B4).cell (o := 10) rfl; have kf := (B4).free)
  clear k0 k1 k2 k3 k4 k5 k6 k7 k8 k9 k10 kf
  have HZ := Blk.put11 B4 rfl (.int .i32 0) (.int .u8 0) (.int .u8 0) (.int .u8 0) (.int .u8 0) (.int .u8 0) (.int .u8 0) (.int .u8 0) (.int .u8 0) (.bool false) (.bool false)
  have hbZ := put11_below hbw (b := (w.heap.size + 1 + 1)) (by omega) (.int .i32 0) (.int .u8 0) (.int .u8 0) (.int .u8 0) (.int .u8 0) (.int .u8 0) (.int .u8 0) (.int .u8 0) (.int .u8 0) (.bool false) (.bool false)
  generalize (((((((((((w1).setCell ⟨(w.heap.size + 1 + 1), 0, none⟩ (.int .i32 0)).setCell ⟨(w.heap.size + 1 + 1), 1, none⟩ (.int .u8 0)).setCell ⟨(w.heap.size + 1 + 1), 2, none⟩ (.int .u8 0)).setCell ⟨(w.heap.size + 1 + 1), 3, none⟩ (.int .u8 0)).setCell ⟨(w.heap.size + 1 + 1), 4, none⟩ (.int .u8 0)).setCell ⟨(w.heap.size + 1 + 1), 5, none⟩ (.int .u8 0)).setCell ⟨(w.heap.size + 1 + 1), 6, none⟩ (.int .u8 0)).setCell ⟨(w.heap.size + 1 + 1), 7, none⟩ (.int .u8 0)).setCell ⟨(w.heap.size + 1 + 1), 8, none⟩ (.int .u8 0)).setCell ⟨(w.heap.size + 1 + 1), 9, none⟩ (.bool false)).setCell ⟨(w.heap.size + 1 + 1), 10, none⟩ (.bool false) = wZ at HZ hbZ ⊢
  have jz0 := HZ.cell (o := 0) rfl
  have jz1 := HZ.cell (o := 1) rfl
  have jz2 := HZ.cell (o := 2) rfl
  have jz3 := HZ.cell (o := 3) rfl
  have jz4 := HZ.cell (o := 4) rfl
  have jz5 := HZ.cell (o := 5) rfl
  have jz6 := HZ.cell (o := 6) rfl
  have jz7 := HZ.cell (o := 7) rfl
  have jz8 := HZ.cell (o := 8) rfl
  have jz9 := HZ.cell (o := 9) rfl
  have jz10 := HZ.cell (o := 10) rfl
  refine bodyPost_ret (v := .tuple #[.agg #[(.int .i32 0), (.int .u8 0), (.int .u8 0), (.int .u8 0), (.int .u8 0), (.int .u8 0), (.int .u8 0), (.int .u8 0), (.int .u8 0), (.bool false), (.bool false)], .int .i64 150]) (by simp [results, Tryz.results21, go_sem, jz0, jz1, jz2, jz3, jz4, jz5, jz6, jz7, jz8, jz9, jz10]) rfl ⟨rfl, hbZ⟩
set_option maxHeartbeats 8000000 in
set_option maxRecDepth 100000 in
theorem crat_any (wd ht : Int) (cs : List Ce) (v : Value) (x y : Int) (w : World) (h1 : I64 wd) (h2 : I64 ht) (hl : Row w.heap.size 11 Ce.enc w v cs) :
  Calls Tryz.prog 22 #[.agg #[.int .i64 (wd), .int .i64 (ht), v], .agg #[.int .i64 (x), .int .i64 (y)]] w fun e w' => e = .returned (.tuple #[.agg #[.int .i32 ((atC wd ht cs x y)).rune, .int .u8 ((atC wd ht cs x y)).col.r, .int .u8 ((atC wd ht cs x y)).col.g, .int .u8 ((atC wd ht cs x y)).col.b, .int .u8 ((atC wd ht cs x y)).col.a, .int .u8 ((atC wd ht cs x y)).back.r, .int .u8 ((atC wd ht cs x y)).back.g, .int .u8 ((atC wd ht cs x y)).back.b, .int .u8 ((atC wd ht cs x y)).back.a, .bool ((atC wd ht cs x y)).wide, .bool ((atC wd ht cs x y)).tail], .int .i64 (atE wd ht cs x y)]) ∧ Below w.heap.size w w' := by
 have C1 := fun w1 (hb : Below w.heap.size w w1) => crcheck_any wd ht cs v w1 h1 h2 ((hl.below hb).mono hb.size)
 have hopen := fun h0 => row_ce hl h0
 obtain ⟨s0, cap, rfl, hmax⟩ := hl.shape
 obtain ⟨RC, hRC⟩ : ∃ R, atC wd ht cs x y = R := ⟨_, rfl⟩
 obtain ⟨RE, hRE⟩ : ∃ R, atE wd ht cs x y = R := ⟨_, rfl⟩
 rw [hRC, hRE]
 unfold atC at hRC
 unfold atE at hRE
 obtain ⟨ok, hok⟩ : ∃ b, atOk wd ht cs x y = b := ⟨_, rfl⟩
 rw [hok] at hRC hRE
 unfold atOk at hok
 obtain ⟨n, en⟩ : ∃ n, cs.length = n := ⟨_, rfl⟩
 rw [en] at C1 hmax hopen ⊢
 replace hopen := Lib.hid hopen
 replace en := Lib.hid en
 clear hl
 go_enter Tryz.func22, Tryz.ntmps22
 go_upto_region 1 with fail
 obtain ⟨W, hW⟩ : ∃ W, ((w.alloc (.cells #[.int .i64 wd, .int .i64 ht, .slice s0 n cap] 26)).alloc (.cells #[.int .i64 x, .int .i64 y] 40)).alloc (.cells #[.int .i32 0, .int .u8 0, .int .u8 0, .int .u8 0, .int .u8 0, .int .u8 0, .int .u8 0, .int .u8 0, .int .u8 0, .bool false, .bool false] 52) = W := ⟨_, rfl⟩
 have B2 : Blk W w.heap.size [.int .i64 wd, .int .i64 ht, .slice s0 n cap] 26 := by rw [← hW]; exact ((Blk.new' rfl).alloc _).alloc _
 have B3 : Blk W (w.heap.size + 1) [.int .i64 x, .int .i64 y] 40 := by rw [← hW]; exact (Blk.new' (by simp)).alloc _
 have B4 : Blk W (w.heap.size + 1 + 1) [.int .i32 0, .int .u8 0, .int .u8 0, .int .u8 0, .int .u8 0, .int .u8 0, .int .u8 0, .int .u8 0, .int .u8 0, .bool false, .bool false] 52 := by rw [← hW]; exact Blk.new' (by simp)
 have hbw : Below w.heap.size w W := by rw [← hW]; exact belt
 rw [hW]
 clear hW
 have yB2 := B2.lt
 have yB3 := B3.lt
 have yB4 := B4.lt
 have q0 := B2.cell (o := 0) rfl
 have q1 := B2.cell (o := 1) rfl
 have q2 := B2.cell (o := 2) rfl
 replace C1 := Lib.hid (C1 W hbw)
 rcases chk_cases wd ht cs with e0 | e0
 ·rw [e0] at C1 hok
  obtain ⟨hfit, hlen, hall⟩ := chk_zero e0
  have hpl : plcS wd ht x y = ok := by simpa using hok
  clear hok
  replace hpl := Lib.hid hpl
  have PL := fun v w => rplace_any wd ht x y v w
  rw [hpl.out] at PL
  replace PL := Lib.hid PL
  have r0 := B3.cell (o := 0) rfl
  have r1 := B3.cell (o := 1) rfl
  cases ok
  ·simp only [Bool.false_eq_true, if_false] at hRC hRE
   subst hRC hRE
   go_wp2_with (first
    | (go_at_call 16; (with_reducible refine C1.out.mono ?_); rintro e w1 ⟨rfl, hb1⟩; obtain ⟨hc1, hf1⟩ := bcell hb1)
    | (go_at_call 59; (with_reducible refine (PL.out _ _).mono ?_); rintro e w2 ⟨rfl, hb2⟩; have hb12 := hb1.trans (hb2.mono hb1.size); clear hc1 hf1; obtain ⟨hc1, hf1⟩ := bcell hb12; have D4 := B4.below hb12 yB4; have hbx := hbw.trans (hb12.mono hbw.size); have k0 := (B4).cell (o := 0) rfl; have k1 := (B4).cell (o := 1) rfl; have k2 := (B4).cell (o := 2) rfl; have k3 := (B4).cell (o := 3) rfl; have k4 := (B4).cell (o := 4) rfl; have k5 := (B4).cell (o := 5) rfl; have k6 := (B4).cell (o := 6) rfl; have k7 := (B4).cell (o := 7) rfl; have k8 := (B4).cell (o := 8) rfl; have k9 := (B4).cell (o := 9) rfl; have k10 := (B4).cell (o := 10) rfl; have kf := (B4).free))
   clear k0 k1 k2 k3 k4 k5 k6 k7 k8 k9 k10 kf
   have HZ := Blk.put11 D4 rfl (.int .i32 0) (.int .u8 0) (.int .u8 0) (.int .u8 0) (.int .u8 0) (.int .u8 0) (.int .u8 0) (.int .u8 0) (.int .u8 0) (.bool false) (.bool false)
   have hbZ := put11_below hbx (b := (w.heap.size + 1 + 1)) (by omega) (.int .i32 0) (.int .u8 0) (.int .u8 0) (.int .u8 0) (.int .u8 0) (.int .u8 0) (.int .u8 0) (.int .u8 0) (.int .u8 0) (.bool false) (.bool false)
   generalize (((((((((((w2).setCell ⟨(w.heap.size + 1 + 1), 0, none⟩ (.int .i32 0)).setCell ⟨(w.heap.size + 1 + 1), 1, none⟩ (.int .u8 0)).setCell ⟨(w.heap.size + 1 + 1), 2, none⟩ (.int .u8 0)).setCell ⟨(w.heap.size + 1 + 1), 3, none⟩ (.int .u8 0)).setCell ⟨(w.heap.size + 1 + 1), 4, none⟩ (.int .u8 0)).setCell ⟨(w.heap.size + 1 + 1), 5, none⟩ (.int .u8 0)).setCell ⟨(w.heap.size + 1 + 1), 6, none⟩ (.int .u8 0)).setCell ⟨(w.heap.size + 1 + 1), 7, none⟩ (.int .u8 0)).setCell ⟨(w.heap.size + 1 + 1), 8, none⟩ (.int .u8 0)).setCell ⟨(w.heap.size + 1 + 1), 9, none⟩ (.bool false)).setCell ⟨(w.heap.size + 1 + 1), 10, none⟩ (.bool false) = wZ at HZ hbZ ⊢
   have jz0 := HZ.cell (o := 0) rfl
   have jz1 := HZ.cell (o := 1) rfl
   have jz2 := HZ.cell (o := 2) rfl
   have jz3 := HZ.cell (o := 3) rfl
   have jz4 := HZ.cell (o := 4) rfl
   have jz5 := HZ.cell (o := 5) rfl
   have jz6 := HZ.cell (o := 6) rfl
   have jz7 := HZ.cell (o := 7) rfl
   have jz8 := HZ.cell (o := 8) rfl
   have jz9 := HZ.cell (o := 9) rfl
   have jz10 := HZ.cell (o := 10) rfl
   refine bodyPost_ret (v := .tuple #[.agg #[(.int .i32 0), (.int .u8 0), (.int .u8 0), (.int .u8 0), (.int .u8 0), (.int .u8 0), (.int .u8 0), (.int .u8 0), (.int .u8 0), (.bool false), (.bool false)], .int .i64 150]) (by simp [results, Tryz.results22, go_sem, jz0, jz1, jz2, jz3, jz4, jz5, jz6, jz7, jz8, jz9, jz10]) rfl ⟨rfl, hbZ⟩
  ·simp only [if_true] at hRC hRE
   subst hRE
   obtain ⟨a1, a2, a3, a4⟩ := plcS_true.1 hpl.out
   obtain ⟨f1, f2, f3, f4, f5⟩ := fitsS_true.1 hfit
   obtain ⟨g1, g2⟩ := row_end (wd := wd) (ht := ht) (y := y) f1 a2 a4
   obtain ⟨P, hP⟩ : ∃ P : Int, y * wd = P := ⟨_, rfl⟩
   obtain ⟨I, hI⟩ : ∃ I : Nat, P + x = (I : Int) := ⟨(P + x).toNat, by omega⟩
   rw [hP, hI, Int.toNat_natCast] at hRC
   rw [hP] at g1 g2
   have hIn : I < n := by
    have := en.out
    omega
   obtain ⟨c, hc⟩ := get_at en.out hIn
   rw [hc] at hRC
   have hRC : c = RC := hRC
   subst hRC
   obtain ⟨b, o, cap', e, hb, _, _, hel⟩ := hopen.out (by omega)
   simp only [Value.slice.injEq] at e
   obtain ⟨rfl, _, rfl⟩ := e
   obtain ⟨g3, g4, g5, g6, g7, g8, g9, g10, g11, g12, g13⟩ := CMem.below (hel I c hc) hbw hb
   have yb : b < W.heap.size := by have := hbw.size; omega
   have hIi : (I : Int) < n := by omega
   have hbP : -1000000000 ≤ P ∧ P ≤ 1000000000 := by omega
   have hI2 : I ≤ 2000000000 := by omega
   replace hc := Lib.hid hc
   clear hel hpl hfit hlen hall a1 a2 f1 f2 f3 f4 f5 g1 g2
   go_wp2_with (first
    | (go_at_call 16; (with_reducible refine C1.out.mono ?_); rintro e w1 ⟨rfl, hb1⟩; obtain ⟨hc1, hf1⟩ := bcell hb1)
    | (go_at_call 59; (with_reducible refine (PL.out _ _).mono ?_); rintro e w2 ⟨rfl, hb2⟩; have hb12 := hb1.trans (hb2.mono hb1.size); clear hc1 hf1; obtain ⟨hc1, hf1⟩ := bcell hb12; have D4 := B4.below hb12 yB4; have hbx := hbw.trans (hb12.mono hbw.size); have k0 := (B4).cell (o := 0) rfl; have k1 := (B4).cell (o := 1) rfl; have k2 := (B4).cell (o := 2) rfl; have k3 := (B4).cell (o := 3) rfl; have k4 := (B4).cell (o := 4) rfl; have k5 := (B4).cell (o := 5) rfl; have k6 := (B4).cell (o := 6) rfl; have k7 := (B4).cell (o := 7) rfl; have k8 := (B4).cell (o := 8) rfl; have k9 := (B4).cell (o := 9) rfl; have k10 := (B4).cell (o := 10) rfl; have kf := (B4).free))
   clear k0 k1 k2 k3 k4 k5 k6 k7 k8 k9 k10 kf
   obtain ⟨ru, ⟨c0, c1, c2, c3⟩, ⟨d0, d1, d2, d3⟩, wi, ta⟩ := c
   have HZ := Blk.put11 D4 rfl (.int .i32 ru) (.int .u8 c0) (.int .u8 c1) (.int .u8 c2) (.int .u8 c3) (.int .u8 d0) (.int .u8 d1) (.int .u8 d2) (.int .u8 d3) (.bool wi) (.bool ta)
   have hbZ := put11_below hbx (b := (w.heap.size + 1 + 1)) (by omega) (.int .i32 ru) (.int .u8 c0) (.int .u8 c1) (.int .u8 c2) (.int .u8 c3) (.int .u8 d0) (.int .u8 d1) (.int .u8 d2) (.int .u8 d3) (.bool wi) (.bool ta)
   generalize (((((((((((w2).setCell ⟨(w.heap.size + 1 + 1), 0, none⟩ (.int .i32 ru)).setCell ⟨(w.heap.size + 1 + 1), 1, none⟩ (.int .u8 c0)).setCell ⟨(w.heap.size + 1 + 1), 2, none⟩ (.int .u8 c1)).setCell ⟨(w.heap.size + 1 + 1), 3, none⟩ (.int .u8 c2)).setCell ⟨(w.heap.size + 1 + 1), 4, none⟩ (.int .u8 c3)).setCell ⟨(w.heap.size + 1 + 1), 5, none⟩ (.int .u8 d0)).setCell ⟨(w.heap.size + 1 + 1), 6, none⟩ (.int .u8 d1)).setCell ⟨(w.heap.size + 1 + 1), 7, none⟩ (.int .u8 d2)).setCell ⟨(w.heap.size + 1 + 1), 8, none⟩ (.int .u8 d3)).setCell ⟨(w.heap.size + 1 + 1), 9, none⟩ (.bool wi)).setCell ⟨(w.heap.size + 1 + 1), 10, none⟩ (.bool ta) = wZ at HZ hbZ ⊢
   have jz0 := HZ.cell (o := 0) rfl
   have jz1 := HZ.cell (o := 1) rfl
   have jz2 := HZ.cell (o := 2) rfl
   have jz3 := HZ.cell (o := 3) rfl
   have jz4 := HZ.cell (o := 4) rfl
   have jz5 := HZ.cell (o := 5) rfl
   have jz6 := HZ.cell (o := 6) rfl
   have jz7 := HZ.cell (o := 7) rfl
   have jz8 := HZ.cell (o := 8) rfl
   have jz9 := HZ.cell (o := 9) rfl
   have jz10 := HZ.cell (o := 10) rfl
   refine bodyPost_ret (v := .tuple #[.agg #[(.int .i32 ru), (.int .u8 c0), (.int .u8 c1), (.int .u8 c2), (.int .u8 c3), (.int .u8 d0), (.int .u8 d1), (.int .u8 d2), (.int .u8 d3), (.bool wi), (.bool ta)], .int .i64 0]) (by simp [results, Tryz.results22, go_sem, jz0, jz1, jz2, jz3, jz4, jz5, jz6, jz7, jz8, jz9, jz10]) rfl ⟨rfl, hbZ⟩
 ·rw [e0] at C1 hok
  have hok : false = ok := by simpa using hok
  subst hok
  simp only [Bool.false_eq_true, if_false] at hRC hRE
  subst hRC hRE
  go_wp2_with (go_at_call 16; (with_reducible refine C1.out.mono ?_); rintro e w1 ⟨rfl, hb1⟩; replace B4 := B4.below hb1 yB4; replace hbw := hbw.trans (hb1.mono hbw.size); have k0 := (B4).cell (o := 0) rfl; have k1 := (B4).cell (o := 1) rfl; have k2 := (B4).cell (o := 2) rfl; have k3 := (B4).cell (o := 3) rfl; have k4 := (B4).cell (o := 4) rfl; have k5 := (B4).cell (o := 5) rfl; have k6 := (B4).cell (o := 6) rfl; have k7 := (B4).cell (o := 7) rfl; have k8 := (B4).cell (o := 8) rfl; have k9 := (B4).cell (o := 9) rfl; have k10 := (B4).cell (o := 10) rfl; have kf := (B4).free)
  clear k0 k1 k2 k3 k4 k5 k6 k7 k8 k9 k10 kf
  have HZ := Blk.put11 B4 rfl (.int .i32 0) (.int .u8 0) (.int .u8 0) (.int .u8 0) (.int .u8 0) (.int .u8 0) (.int .u8 0) (.int .u8 0) (.int .u8 0) (.bool false) (.bool false)
  have hbZ := put11_below hbw (b := (w.heap.size + 1 + 1)) (by omega) (.int .i32 0) (.int .u8 0) (.int .u8 0) (.int .u8 0) (.int .u8 0) (.int .u8 0) (.int .u8 0) (.int .u8 0) (.int .u8 0) (.bool false) (.bool false)
  generalize (((((((((((w1).setCell ⟨(w.heap.size + 1 + 1), 0, none⟩ (.int .i32 0)).setCell ⟨(w.heap.size + 1 + 1), 1, none⟩ (.int .u8 0)).setCell ⟨(w.heap.size + 1 + 1), 2, none⟩ (.int .u8 0)).setCell ⟨(w.heap.size + 1 + 1), 3, none⟩ (.int .u8 0)).setCell ⟨(w.heap.size + 1 + 1), 4, none⟩ (.int .u8 0)).setCell ⟨(w.heap.size + 1 + 1), 5, none⟩ (.int .u8 0)).setCell ⟨(w.heap.size + 1 + 1), 6, none⟩ (.int .u8 0)).setCell ⟨(w.heap.size + 1 + 1), 7, none⟩ (.int .u8 0)).setCell ⟨(w.heap.size + 1 + 1), 8, none⟩ (.int .u8 0)).setCell ⟨(w.heap.size + 1 + 1), 9, none⟩ (.bool false)).setCell ⟨(w.heap.size + 1 + 1), 10, none⟩ (.bool false) = wZ at HZ hbZ ⊢
  have jz0 := HZ.cell (o := 0) rfl
  have jz1 := HZ.cell (o := 1) rfl
  have jz2 := HZ.cell (o := 2) rfl
  have jz3 := HZ.cell (o := 3) rfl
  have jz4 := HZ.cell (o := 4) rfl
  have jz5 := HZ.cell (o := 5) rfl
  have jz6 := HZ.cell (o := 6) rfl
  have jz7 := HZ.cell (o := 7) rfl
  have jz8 := HZ.cell (o := 8) rfl
  have jz9 := HZ.cell (o := 9) rfl
  have jz10 := HZ.cell (o := 10) rfl
  refine bodyPost_ret (v := .tuple #[.agg #[(.int .i32 0), (.int .u8 0), (.int .u8 0), (.int .u8 0), (.int .u8 0), (.int .u8 0), (.int .u8 0), (.int .u8 0), (.int .u8 0), (.bool false), (.bool false)], .int .i64 150]) (by simp [results, Tryz.results22, go_sem, jz0, jz1, jz2, jz3, jz4, jz5, jz6, jz7, jz8, jz9, jz10]) rfl ⟨rfl, hbZ⟩
end Go.Proofs.YtffmomgmkpmpkaaGreatDoor

namespace Go.Proofs.YtffmomgmkpmpkaaGreatDoor
open Go Go.RowKit Go.ChangeShapes Go.WideShapes Go.Deep Go.Joins
set_option linter.unusedVariables false
set_option linter.unusedSimpArgs false
section
variable {P : Program} {H : Type} {enc : TypeId × Value → H} {w : World} {base : Nat} {spare : Nat → Bool} {held : Bool}
/-- A slice that came in, whatever its elements are: 'dec' says how the cells of one read. -/
theorem open_rowT {α : Type} [Inhabited α] {Ok : α → Prop} {sz : Nat} {encA : α → List Value} {fuel : Nat} {t e : TypeId} {v : Value} {y : DataW H × List MemPlace} (ht : P.underlying t = some (.slice e)) (hC : P.cellsOf e = sz) (hsz : 0 < sz)
  (dec : ∀ (n : Nat) (cs : List Value) (y : DataW H × List MemPlace), cs.length = sz → DataW.trod enc P w base spare held n e cs = some y → ∃ x, Ok x ∧ cs = encA x)
  (hf : DataW.trod enc P w base spare held fuel t [v] = some y) :
  ∃ xs : List α, Row w.heap.size sz encA w v xs ∧ ∀ x ∈ xs, Ok x := by
 rcases open_slice ht hf with ⟨h0, _⟩ | ⟨a', len, cap, m, n, D, Pl, hcs, hb, hl, hm, hmm, hx, hi⟩
 ·simp at h0
  subst h0
  exact ⟨[], ⟨none, 0, rfl, by simp, by unfold maxLen; omega, fun h => by simp at h⟩, by simp⟩
 ·simp at hcs
  subst hcs
  have hlm : len ≤ m := by rw [hmm]; split <;> omega
  have each : ∀ i, i < len → ∃ x : α, Ok x ∧ ∀ k u, (encA x)[k]? = some u → w.cell? ((a'.add (i * sz)).add k) = some u := by
   intro i hil
   obtain ⟨cs', hc, ht'⟩ := hi i (by omega)
   rw [hC] at hc
   obtain ⟨_, hcl, hat⟩ := World.cells?_some hc
   obtain ⟨x, hok, rfl⟩ := dec _ _ _ hcl ht'
   refine ⟨x, hok, fun k u hk => ?_⟩
   have hkl : k < sz := by rw [← hcl]; exact (List.getElem?_eq_some_iff.1 hk).1
   rw [hat k hkl, hk]
  obtain ⟨V, hV⟩ := choose_lt (α := α) (p := fun i x => Ok x ∧ ∀ k u, (encA x)[k]? = some u → w.cell? ((a'.add (i * sz)).add k) = some u) each
  refine ⟨(List.range len).map V, ⟨some a', cap, by simp, by simpa using hl, hm, fun h0 => ?_⟩, fun x hx => ?_⟩
  ·simp only [List.length_map, List.length_range] at h0
   obtain ⟨cs', hc, ht'⟩ := hi 0 (by omega)
   rw [hC] at hc
   obtain ⟨_, hcl, hat⟩ := World.cells?_some hc
   have h1 := hat 0 hsz
   rw [Nat.zero_mul] at h1
   obtain ⟨b, o, x⟩ := a'
   cases x with
   | some x =>
    exfalso
    have e0 : ((⟨b, o, some x⟩ : Addr).add 0).add 0 = ⟨b, o, some x⟩ := rfl
    rw [e0] at h1
    have : cs'[0]? = some (cs'[0]'(by omega)) := List.getElem?_eq_getElem (by omega)
    rw [this] at h1
    simp only [World.cell?] at h1
    split at h1 <;> simp at h1
   | none =>
    refine ⟨b, o, rfl, ?_, fun j x hj i u hi' => ?_⟩
    ·have : cs'[0]? = some (cs'[0]'(by omega)) := List.getElem?_eq_getElem (by omega)
     rw [this] at h1
     exact World.block_lt_of_cell? _ _ h1
    ·obtain ⟨hj', e⟩ := List.getElem?_eq_some_iff.1 hj
     simp at hj' e
     subst e
     have := (hV j hj').2 i u hi'
     rw [add_lit, add_lit] at this
     exact this
  ·obtain ⟨j, hj, rfl⟩ := List.mem_map.1 hx
   exact (hV j (List.mem_range.1 hj)).1
end
section
variable {H : Type} {enc : TypeId × Value → H} {w : World} {base : Nat} {spare : Nat → Bool} {held : Bool}
theorem list11 {cs : List Value} (h : cs.length = 11) : ∃ a b c d e f g i j k l, cs = [a, b, c, d, e, f, g, i, j, k, l] := by
  match cs, h with
  | [a, b, c, d, e, f, g, i, j, k, l], _ => exact ⟨a, b, c, d, e, f, g, i, j, k, l, rfl⟩
theorem cell_of {fuel : Nat} {cs : List Value} {x : DataW H × List MemPlace} (hl : cs.length = 11) (h : DataW.trod enc Tryz.prog w base spare held fuel 52 cs = some x) : ∃ s : Ce, s.Wf ∧ cs = s.enc := by
  obtain ⟨a, b, c, d, e, f, g, i, j, k, l, rfl⟩ := list11 hl
  obtain ⟨m0, y0, h0⟩ := field_of Tryz.underlying52 h 0 0 1 21 _ rfl rfl rfl (by kernel_rfl)
  obtain ⟨m1, y1, h1⟩ := field_of Tryz.underlying52 h 1 1 4 44 _ rfl rfl rfl (by kernel_rfl)
  obtain ⟨m2, y2, h2⟩ := field_of Tryz.underlying52 h 2 5 4 44 _ rfl rfl rfl (by kernel_rfl)
  obtain ⟨m3, y3, h3⟩ := field_of Tryz.underlying52 h 3 9 1 4 _ rfl rfl rfl (by kernel_rfl)
  obtain ⟨m4, y4, h4⟩ := field_of Tryz.underlying52 h 4 10 1 4 _ rfl rfl rfl (by kernel_rfl)
  simp only [List.drop_zero, List.drop_succ_cons, List.take_succ_cons, List.take_zero] at h0 h1 h2 h3 h4
  obtain ⟨n0, e0, z0, wf0⟩ := DataW.trod_int Tryz.underlying21 h0; simp at e0; subst e0
  obtain ⟨c1, w1, e1⟩ := colour_of h1
  obtain ⟨c2, w2, e2⟩ := colour_of h2
  obtain ⟨n3, e3, z3⟩ := DataW.trod_bool Tryz.underlying4 h3; simp at e3; subst e3
  obtain ⟨n4, e4, z4⟩ := DataW.trod_bool Tryz.underlying4 h4; simp at e4; subst e4
  refine ⟨⟨n0, c1, c2, n3, n4⟩, ⟨trivial, w1, w2⟩, ?_⟩
  unfold Ce.enc
  rw [← e1, ← e2]
  rfl
set_option maxRecDepth 100000 in
theorem open_screen {r : Reach} {b0 : Nat} {v : Value} {d : DataW H} {p : List MemPlace} (hv : Value.okWide Tryz.prog w r b0 26 v) (h : DataW.Trod enc Tryz.prog w base spare held 26 v d p) :
    ∃ (wd ht : Int) (u : Value) (cs : List Ce), v = .agg #[.int .i64 (wd), .int .i64 (ht), u] ∧ I64 wd ∧ I64 ht ∧ Row w.heap.size 11 Ce.enc w u cs ∧ CeL cs := by
  obtain ⟨cs, rfl, hsz⟩ := okWide_struct Tryz.underlying26 hv
  obtain ⟨l⟩ := cs
  obtain ⟨fuel, hf⟩ := h
  have hl : l.length = 3 := by
    have hc : Tryz.prog.cellsOf 26 = 3 := by kernel_rfl
    rw [← hc, ← hsz]; simp
  obtain ⟨a, b, c, rfl⟩ : ∃ a b c, l = [a, b, c] := by
    match l, hl with
    | [a, b, c], _ => exact ⟨a, b, c, rfl⟩
  simp only [Value.cells] at hf
  obtain ⟨m0, y0, h0⟩ := field_of Tryz.underlying26 hf 0 0 2 23 _ rfl rfl rfl (by kernel_rfl)
  obtain ⟨m1, y1, h1⟩ := field_of Tryz.underlying26 hf 1 2 1 24 _ rfl rfl rfl (by kernel_rfl)
  simp only [List.drop_zero, List.drop_succ_cons, List.take_succ_cons, List.take_zero] at h0 h1
  obtain ⟨wd, ht, ww, wh, rfl, rfl⟩ := size_of h0
  obtain ⟨cs, hr, hwf⟩ := open_rowT (sz := 11) (encA := Ce.enc) (Ok := Ce.Wf) Tryz.underlying24 (by kernel_rfl) (by omega) (fun n cs y hl ht => cell_of hl ht) h1
  exact ⟨wd, ht, c, cs, rfl, ww, wh, hr, hwf⟩
/-- The library's tables are there, as the card tells. -/
theorem dec_of_laid {L : List (String × DataW Unit)} {W : World} {D1 D2 : DataW Unit} (h : laidMet Tryz.prog L W) (h3 : ("unicode/utf8.first", D1) ∈ L) (e3 : D1 = Lib.firstData) (h4 : ("unicode/utf8.acceptRanges", D2) ∈ L) (e4 : D2 = Lib.acceptData) : DecT W := by
  subst e3 e4
  exact utf8Tabs_of_readsT (ρ := Tryz.lays197_ren) ⟨Tryz.underlying5, by kernel_rfl, by kernel_rfl, by kernel_rfl⟩ ⟨by kernel_rfl, by kernel_rfl, by kernel_rfl, by kernel_rfl, by kernel_rfl, by kernel_rfl, by kernel_rfl⟩ (Lib.laidMet.reads h h3) (Lib.laidMet.reads h h4)
theorem dig_of_laid {L : List (String × DataW Unit)} {W : World} {D : DataW Unit} (h : laidMet Tryz.prog L W) (hm : ("internal/strconv.uint64pow10", D) ∈ L) (hd' : D = Lib.tabData .u64 Lib.pow10Tab) : DigT W := by
  obtain ⟨g, t, cs, fuel, p, hg, ht, hv, hd⟩ := Lib.laidMet.reads h hm
  have hT : (Tryz.prog.globalNamed "internal/strconv.uint64pow10").bind (fun g => (Tryz.prog.globals[g]?).map (·.type)) = some 240 := by kernel_rfl
  rw [hg] at hT
  simp only [Option.bind_some] at hT
  rw [ht] at hT
  obtain rfl := Option.some.inj hT
  rw [hd'] at hd
  unfold DigT Lib.TabIs
  rw [hv, ← Lib.cells_of_tab (n := 20) Tryz.underlying240 Tryz.underlying206 (by kernel_rfl) (by kernel_rfl) hd]
end
end Go.Proofs.YtffmomgmkpmpkaaGreatDoor
