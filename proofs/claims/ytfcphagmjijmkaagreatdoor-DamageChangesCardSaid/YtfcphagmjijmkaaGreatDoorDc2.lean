/-
  The walk of the law DamageChanges.
-/
import Derived.Below
import Derived.ChangeSame
import Derived.Deep.DeepCutAuto
import Derived.Deep.Fields
import Derived.Deep.MidRow
import Derived.Deep.RegionHeld3
import Derived.Deep.Slices
import Derived.Deep.WholeRow
import Derived.DeepKeys4
import Derived.IntWalk
import Derived.KernelRfl
import Derived.Laws.AppendOwnNone
import Derived.Laws.BitsLemmas
import Derived.Laws.CopyOwn
import Derived.Laws.CopyRow
import Derived.Laws.EntriesVeiled
import Derived.Laws.Externs
import Derived.Laws.IdiomCopy
import Derived.Laws.MakeOwn
import Derived.Laws.OwnMore
import Derived.Laws.StructEq
import Derived.Lib.Bytealg
import Derived.Lib.DecodeNEq
import Derived.Lib.Hide
import Derived.Lib.IndexBytes
import Derived.Lib.OthersKept
import Derived.Lib.SmallJoins
import Derived.LoopIn
import Derived.LoopNIn
import Derived.Maps.AppendAt
import Derived.Maps.Own
import Derived.Maps.OwnOps
import Derived.Maps.OwnSet
import Derived.Maps.RangeWalk
import Derived.OneCell
import Derived.OrdersHeld
import Derived.OwnWalk
import Derived.OwnWalkIn
import Derived.RangeFuncBound
import Derived.RangeFuncCalls
import Derived.RangeFuncLeaves
import Derived.RangeFuncNested
import Derived.ScopeJumps
import Derived.Shelf.Bits.Mul64
import Derived.Shelf.LaysM
import Derived.Shelf.RegionOpen
import Derived.Shelf.SlSortCmp.NoneTotal
import Derived.Shelf.SlSortCmp.WholeK
import Derived.Shelf.Slices.CompactI
import Derived.Shelf.Slices.In.SortNone
import Derived.Shelf.Small.Bits
import Derived.Shelf.Small.Wraps
import Derived.Shelf.Sort.Plain
import Derived.Shelf.Spec.SlicesGrow
import Derived.Shelf.Spec.SlicesInsert
import Derived.Shelf.Strconv.Itoa0
import Derived.Shelf.Strconv.Itoa1
import Derived.Shelf.Strconv.Itoa2
import Derived.Shelf.Strconv.Itoa3
import Derived.Shelf.Strings.Builder1
import Derived.Shelf.Strings.BuilderCap
import Derived.Shelf.Strings.BuilderF
import Derived.Shelf.Strings.BuilderK
import Derived.Shelf.Strings.BuilderRune
import Derived.Shelf.Strings.Prefix
import Derived.Shelf.Unicode.Decode
import Derived.Shelf.Unicode.DecodeAny
import Derived.Shelf.Unicode.DecodeSlow
import Derived.Shelf.Utf8.AppendRune
import Derived.Shelf.Utf8.AppendRunePlain
import Derived.Sort.OwnSortedInts
import Derived.StillTail
import Derived.Tactics2
import Derived.TacticsInMore
import Derived.WalkKit
import Derived.WalkLawsBesides
import Derived.WalkSpells
import Derived.WideKeyEntry
import Derived.Test.YtfcphagmjijmkaaGreatDoorDq33
import Derived.Test.YtfcphagmjijmkaaGreatDoorProg
import Derived.Test.YtfcphagmjijmkaaGreatDoorDc1
namespace Go.Proofs.YtfcphagmjijmkaaGreatDoor
open Go.RowKit
set_option linter.unusedVariables false
attribute [local go_sem] vwp vUpon_value vUpon_skip vUpon_enter vUpon_row
set_option linter.unusedSimpArgs false
set_option linter.unusedVariables false
theorem dlarge_any (wd ht : Int) (s : Option Addr) (n cap : Nat) (w : World) : Calls Tryz.prog 32 #[.agg #[.int .i64 (wd), .int .i64 (ht), .slice s n cap]] w fun e w' => e = .returned (.bool (decide (3000 < n))) ∧ Below w.heap.size w w' := by
  by_cases c : 3000 < n
  · have ci : (3000 : Int) < n := by omega
    rw [decide_eq_true c]
    go_enter Tryz.func32, Tryz.ntmps32
    go_wp2
    go_ret
    exact ⟨by simp, belt⟩
  · have ci : ¬ (3000 : Int) < n := by omega
    rw [decide_eq_false c]
    go_enter Tryz.func32, Tryz.ntmps32
    go_wp2
    go_ret
    exact ⟨by simp, belt⟩
theorem chgL_short {wa ha wb hb : Int} {xs ys : List Ce} : (chgL wa ha xs wb hb ys).length ≤ 1024 := by
  unfold chgL
  split
  · exact (by decide : 1 ≤ 1024)
  · rename_i h
    omega
set_option maxHeartbeats 16000000 in
set_option maxRecDepth 100000 in
theorem walk_DamageChanges (wa ha : Int) (xs : List Ce) (va : Value) (wb hb : Int) (ys : List Ce) (vb : Value) (w : World) (h1 : I64 wa) (h2 : I64 ha) (h3 : I64 wb) (h4 : I64 hb) (hl : Row w.heap.size 11 Ce.enc w va xs) (hl2 : Row w.heap.size 11 Ce.enc w vb ys) :
  Calls Tryz.prog 7 #[.agg #[.int .i64 (wa), .int .i64 (ha), va], .agg #[.int .i64 (wb), .int .i64 (hb), vb]] w fun e w' => e = .returned (.bool true) ∧ Below w.heap.size w w' := by
 obtain ⟨s0, cap, rfl, hmax⟩ := hl.shape
 obtain ⟨s1, cap1, rfl, hmax1⟩ := hl2.shape
 obtain ⟨n, en⟩ : ∃ n, xs.length = n := ⟨_, rfl⟩
 obtain ⟨m, em⟩ : ∃ m, ys.length = m := ⟨_, rfl⟩
 have RX := fun W (h : Below w.heap.size w W) => (hl.below h).mono h.size
 have RY := fun W (h : Below w.heap.size w W) => (hl2.below h).mono h.size
 rw [en] at RX ⊢
 rw [em] at RY ⊢
 replace RX := Lib.hid RX
 replace RY := Lib.hid RY
 replace en := Lib.hid en
 replace em := Lib.hid em
 clear hl hl2 hmax hmax1
 have AW := Lib.hid (fun w => dalive_any w)
 go_enter Tryz.func7, Tryz.ntmps7
 go_upto_region 1 with fail
 obtain ⟨W, hW⟩ : ∃ W, (w.alloc (.cells #[.int .i64 wa, .int .i64 ha, .slice s0 n cap] 40)).alloc (.cells #[.int .i64 wb, .int .i64 hb, .slice s1 m cap1] 40) = W := ⟨_, rfl⟩
 obtain ⟨b2, hb2⟩ : ∃ b, w.heap.size = b := ⟨_, rfl⟩
 have B2 : Blk W b2 [.int .i64 wa, .int .i64 ha, .slice s0 n cap] 40 := by rw [← hW]; exact (Blk.new' hb2.symm).alloc _
 have B3 : Blk W (b2 + 1) [.int .i64 wb, .int .i64 hb, .slice s1 m cap1] 40 := by rw [← hW]; exact Blk.new' (by simp [hb2])
 have hbw : Below w.heap.size w W := by rw [← hW]; exact belt
 rw [hW, hb2]
 clear hW
 replace hb2 := Lib.hid hb2
 go_upto_region 4 with (go_at_call 19; (with_reducible refine (AW.out _).mono ?_); rintro e w1 ⟨rfl, hb1⟩)
 clear AW
 have hbw1 := hbw.trans (hb1.mono hbw.size)
 replace B2 := B2.below hb1 B2.lt
 replace B3 := B3.below hb1 B3.lt
 clear hb1 hbw
 by_cases g1 : 3000 < n
 ·have LA := Lib.hid (fun w => dlarge_any wa ha s0 n cap w)
  rw [decide_eq_true g1] at LA
  have k0a := B2.cell (o := 0) rfl
  have k1a := B2.cell (o := 1) rfl
  have k2a := B2.cell (o := 2) rfl
  have kya := B2.lt
  go_wp2_with (go_at_call 32; (with_reducible refine (LA.out _).mono ?_); rintro e w2 ⟨rfl, hb2'⟩)
  go_ret
  exact ⟨rfl, hbw1.trans (hb2'.mono hbw1.size)⟩
 ·have LA := Lib.hid (fun w => dlarge_any wa ha s0 n cap w)
  rw [decide_eq_false g1] at LA
  by_cases g2 : 3000 < m
  ·have LB := Lib.hid (fun w => dlarge_any wb hb s1 m cap1 w)
   rw [decide_eq_true g2] at LB
   have k0a := B2.cell (o := 0) rfl
   have k1a := B2.cell (o := 1) rfl
   have k2a := B2.cell (o := 2) rfl
   have kya := B2.lt
   go_wp2_with (first
    | (go_at_call 32; (with_reducible refine (LA.out _).mono ?_); rintro e w2 ⟨rfl, hb2'⟩; have hbw2 := hbw1.trans (hb2'.mono hbw1.size); have B3n := B3.below hb2' B3.lt; have k0c := B3n.cell (o := 0) rfl; have k1c := B3n.cell (o := 1) rfl; have k2c := B3n.cell (o := 2) rfl; have kyc := B3n.lt; clear LA)
    | (go_at_call 32; (with_reducible refine (LB.out _).mono ?_); rintro e w3 ⟨rfl, hb3'⟩; have hbw3 := hbw2.trans (hb3'.mono hbw2.size)))
   go_ret
   exact ⟨rfl, hbw3⟩
  ·have LB := Lib.hid (fun w => dlarge_any wb hb s1 m cap1 w)
   rw [decide_eq_false g2] at LB
   have k0a := B2.cell (o := 0) rfl
   have k1a := B2.cell (o := 1) rfl
   have k2a := B2.cell (o := 2) rfl
   have kya := B2.lt
   go_upto_region 6 with (first
    | (go_at_call 32; (with_reducible refine (LA.out _).mono ?_); rintro e w2 ⟨rfl, hb2'⟩; have hbw2 := hbw1.trans (hb2'.mono hbw1.size); have B3n := B3.below hb2' B3.lt; have k0c := B3n.cell (o := 0) rfl; have k1c := B3n.cell (o := 1) rfl; have k2c := B3n.cell (o := 2) rfl; have kyc := B3n.lt; clear LA)
    | (go_at_call 32; (with_reducible refine (LB.out _).mono ?_); rintro e w3 ⟨rfl, hb3'⟩; have hbw3 := hbw2.trans (hb3'.mono hbw2.size)))
   clear LB k0c k1c k2c kyc
   clear k0a k1a k2a kya
   replace B2 := (B2.below hb2' B2.lt).below hb3' (B2.below hb2' B2.lt).lt
   replace B3 := B3n.below hb3' B3n.lt
   clear B3n hb2' hb3' hbw1 hbw2
   have TA := Lib.hid (twin_any wa ha xs (.slice s0 n cap) w3 (RX.out w3 hbw3) (by rw [en.out]; omega))
   have hw3 := Lib.hid hbw3
   clear hbw3
   have k0a := B2.cell (o := 0) rfl
   have k1a := B2.cell (o := 1) rfl
   have k2a := B2.cell (o := 2) rfl
   have kya := B2.lt
   go_upto_region 7 with (go_at_call 33; (with_reducible refine TA.out.mono ?_); rintro e u6 ⟨v6, rfl, O6, hk⟩; obtain ⟨s6, c6, hv⟩ := own_slice O6; rw [en.out] at hv; subst hv)
   clear k0a k1a k2a kya
   obtain ⟨W6, hW6⟩ : ∃ W, u6.alloc (.cells #[.int .i64 wa, .int .i64 ha, .slice s6 n c6] 40) = W := ⟨_, rfl⟩
   obtain ⟨b6, hb6⟩ : ∃ b, u6.heap.size = b := ⟨_, rfl⟩
   have B6 : Blk W6 b6 [.int .i64 wa, .int .i64 ha, .slice s6 n c6] 40 := by rw [← hW6]; exact Blk.new' hb6.symm
   replace O6 : OwnsC w3.heap.size W6 (.slice s6 n c6) xs := by rw [← hW6]; exact O6.alloc _
   have h6 : Below w3.heap.size w3 W6 := by rw [← hW6]; exact hk.alloc hk.size _
   rw [hW6, hb6]
   clear hW6 hb6 hk TA
   replace B2 := B2.below h6 B2.lt
   replace B3 := B3.below h6 B3.lt
   have hw6 := Lib.hid (hw3.out.trans (h6.mono hw3.out.size))
   clear hw3
   have TB := Lib.hid (twin_any wb hb ys (.slice s1 m cap1) W6 (RY.out W6 hw6.out) (by rw [em.out]; omega))
   have k0a := B3.cell (o := 0) rfl
   have k1a := B3.cell (o := 1) rfl
   have k2a := B3.cell (o := 2) rfl
   have kya := B3.lt
   go_upto_region 8 with (go_at_call 33; (with_reducible refine TB.out.mono ?_); rintro e u7 ⟨v7, rfl, O7, hk⟩; obtain ⟨s7, c7, hv⟩ := own_slice O7; rw [em.out] at hv; subst hv)
   clear k0a k1a k2a kya
   obtain ⟨W7, hW7⟩ : ∃ W, u7.alloc (.cells #[.int .i64 wb, .int .i64 hb, .slice s7 m c7] 40) = W := ⟨_, rfl⟩
   obtain ⟨b7, hb7⟩ : ∃ b, u7.heap.size = b := ⟨_, rfl⟩
   have B7 : Blk W7 b7 [.int .i64 wb, .int .i64 hb, .slice s7 m c7] 40 := by rw [← hW7]; exact Blk.new' hb7.symm
   replace O7 : OwnsC W6.heap.size W7 (.slice s7 m c7) ys := by rw [← hW7]; exact O7.alloc _
   have h7 : Below W6.heap.size W6 W7 := by rw [← hW7]; exact hk.alloc hk.size _
   rw [hW7, hb7]
   clear hW7 hb7 hk TB
   replace B2 := B2.below h7 B2.lt
   replace B3 := B3.below h7 B3.lt
   replace B6 := B6.below h7 B6.lt
   replace O6 := O6.below h7 (Nat.le_refl _)
   have hw7 := Lib.hid (hw6.out.trans (h7.mono hw6.out.size))
   clear hw6
   obtain ⟨E, hE⟩ : ∃ E, chgE wa ha xs wb hb ys = E := ⟨_, rfl⟩
   obtain ⟨L, hL⟩ : ∃ E, chgL wa ha xs wb hb ys = E := ⟨_, rfl⟩
   have CA := changed_any wa ha xs (.slice s6 n c6) wb hb ys (.slice s7 m c7) W7 h1 h2 h3 h4 (O6.row (Nat.le_refl _)) (O7.row (Nat.le_refl _))
   have CB := fun W h => rchanged_any wa ha xs (.slice s0 n cap) wb hb ys (.slice s1 m cap1) W h1 h2 h3 h4 (RX.out W h) (RY.out W h) (by rw [en.out]; omega)
   rw [hE, hL] at CA CB
   have hLs : L.length ≤ 1024 := by rw [← hL]; exact chgL_short
   replace CA := Lib.hid CA
   replace CB := Lib.hid CB
   clear hE hL h1 h2 h3 h4
   have k0a := B6.cell (o := 0) rfl
   have k1a := B6.cell (o := 1) rfl
   have k2a := B6.cell (o := 2) rfl
   have kya := B6.lt
   have k0b := B7.cell (o := 0) rfl
   have k1b := B7.cell (o := 1) rfl
   have k2b := B7.cell (o := 2) rfl
   have kyb := B7.lt
   go_upto_region 9 with (go_at_call 23; (with_reducible refine CA.out.mono ?_); rintro e W8 ⟨h8, v8, rfl, R8⟩)
   clear k0a k1a k2a kya
   clear k0b k1b k2b kyb
   clear CA
   replace B2 := B2.below h8 B2.lt
   replace B3 := B3.below h8 B3.lt
   replace B6 := B6.below h8 B6.lt
   replace B7 := B7.below h8 B7.lt
   replace O6 := O6.below h8 (Nat.le_refl _)
   replace O7 := O7.below h8 (Nat.le_refl _)
   have hw8 := Lib.hid (hw7.out.trans (h8.mono hw7.out.size))
   replace CB := Lib.hid (CB.out W8 hw8.out)
   clear hw7
   have k0a := B2.cell (o := 0) rfl
   have k1a := B2.cell (o := 1) rfl
   have k2a := B2.cell (o := 2) rfl
   have kya := B2.lt
   have k0b := B3.cell (o := 0) rfl
   have k1b := B3.cell (o := 1) rfl
   have k2b := B3.cell (o := 2) rfl
   have kyb := B3.lt
   go_upto_region 10 with (go_at_call 35; (with_reducible refine CB.out.mono ?_); rintro e W9 ⟨h9, v9, rfl, R9⟩)
   clear k0a k1a k2a kya
   clear k0b k1b k2b kyb
   clear CB
   replace B2 := B2.below h9 B2.lt
   replace B3 := B3.below h9 B3.lt
   replace B6 := B6.below h9 B6.lt
   replace B7 := B7.below h9 B7.lt
   replace O6 := O6.below h9 (Nat.le_refl _)
   replace O7 := O7.below h9 (Nat.le_refl _)
   replace R8 := R8.below h9 (Nat.le_refl _)
   have hw9 := Lib.hid (hw8.out.trans (h9.mono hw8.out.size))
   clear hw8
   have SC := sameR_any L L v8 v9 W9 (R8.row (Nat.le_refl _)) (R9.row (Nat.le_refl _)) (by omega) (by omega)
   clear hLs
   rw [eqRs_iff.2 rfl] at SC
   have SX := fun W (h : Below W9.heap.size W9 W) => csame_any wa ha wa ha xs xs (.slice s6 n c6) (.slice s0 n cap) W (((O6.row (Nat.le_refl _)).below h).mono h.size) (RX.out W (hw9.out.trans (h.mono hw9.out.size)))
   have SY := fun W (h : Below W9.heap.size W9 W) => csame_any wb hb wb hb ys ys (.slice s7 m c7) (.slice s1 m cap1) W (((O7.row (Nat.le_refl _)).below h).mono h.size) (RY.out W (hw9.out.trans (h.mono hw9.out.size)))
   rw [samS_iff.2 ⟨rfl, rfl, rfl⟩] at SX SY
   replace SC := Lib.hid SC
   replace SX := Lib.hid SX
   replace SY := Lib.hid SY
   clear R8 R9 O6 O7
   go_wp2_with (first
    | (go_at_call 29; (with_reducible refine SC.out.mono ?_); rintro e w10 ⟨rfl, h10⟩; have B6a := B6.below h10 B6.lt; have B2a := B2.below h10 B2.lt; have k0a := B6a.cell (o := 0) rfl; have k1a := B6a.cell (o := 1) rfl; have k2a := B6a.cell (o := 2) rfl; have kya := B6a.lt; have k0b := B2a.cell (o := 0) rfl; have k1b := B2a.cell (o := 1) rfl; have k2b := B2a.cell (o := 2) rfl; have kyb := B2a.lt; clear SC)
    | (go_at_call 16; (with_reducible refine (SX.out _ h10).mono ?_); rintro e w11 ⟨rfl, h11⟩; have h911 := h10.trans (h11.mono h10.size); have B7a := B7.below h911 B7.lt; have B3a := B3.below h911 B3.lt; have k0c := B7a.cell (o := 0) rfl; have k1c := B7a.cell (o := 1) rfl; have k2c := B7a.cell (o := 2) rfl; have kyc := B7a.lt; have k0d := B3a.cell (o := 0) rfl; have k1d := B3a.cell (o := 1) rfl; have k2d := B3a.cell (o := 2) rfl; have kyd := B3a.lt; clear SX)
    | (go_at_call 16; (with_reducible refine (SY.out _ h911).mono ?_); rintro e w12 ⟨rfl, h12⟩))
   go_ret
   have h912 := h911.trans (h12.mono h911.size)
   exact ⟨rfl, hw9.out.trans (h912.mono hw9.out.size)⟩
end Go.Proofs.YtfcphagmjijmkaaGreatDoor
