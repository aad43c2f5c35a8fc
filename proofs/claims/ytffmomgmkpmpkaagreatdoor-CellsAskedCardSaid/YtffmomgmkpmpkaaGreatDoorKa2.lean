/-
  The walk of the law CellsAsked.
-/
import Derived.Below
import Derived.ChangeSame
import Derived.Deep.DeepCutAuto
import Derived.Deep.Fields
import Derived.Deep.RegionHeld3
import Derived.Deep.Slices
import Derived.IntWalk
import Derived.KernelRfl
import Derived.Laws.AppendOwnNone
import Derived.Laws.BitsLemmas
import Derived.Laws.CopyOwn
import Derived.Laws.CopyRow
import Derived.Laws.EntriesVeiled
import Derived.Laws.Externs
import Derived.Laws.IdiomCopy
import Derived.Laws.MakeOwn
import Derived.Laws.OwnMore
import Derived.Laws.StructEq
import Derived.Lib.AppendIntMem
import Derived.Lib.Bytealg
import Derived.Lib.DecodeNEq
import Derived.Lib.Hide
import Derived.Lib.IndexBytes
import Derived.Lib.LaidTab
import Derived.Lib.OthersKept
import Derived.Lib.SmallJoins
import Derived.LoopIn
import Derived.LoopNIn
import Derived.Maps.AppendAt
import Derived.OneCell
import Derived.OrdersHeld
import Derived.OwnWalk
import Derived.OwnWalkIn
import Derived.RangeFuncBound
import Derived.RangeFuncCalls
import Derived.RangeFuncLeaves
import Derived.RangeFuncNested
import Derived.ScopeJumps
import Derived.Shelf.Bits.Mul64
import Derived.Shelf.LaysM
import Derived.Shelf.RegionOpen
import Derived.Shelf.SlSortCmp.NoneTotal
import Derived.Shelf.SlSortCmp.WholeK
import Derived.Shelf.Slices.CompactI
import Derived.Shelf.Slices.In.SortNone
import Derived.Shelf.Small.Bits
import Derived.Shelf.Small.Wraps
import Derived.Shelf.Sort.Plain
import Derived.Shelf.Spec.SlicesInsert
import Derived.Shelf.Strconv.Itoa0
import Derived.Shelf.Strconv.Itoa1
import Derived.Shelf.Strconv.Itoa2
import Derived.Shelf.Strconv.Itoa3
import Derived.Shelf.Strings.Builder1
import Derived.Shelf.Strings.BuilderCap
import Derived.Shelf.Strings.BuilderF
import Derived.Shelf.Strings.BuilderK
import Derived.Shelf.Strings.BuilderRune
import Derived.Shelf.Strings.Prefix
import Derived.Shelf.Unicode.Decode
import Derived.Shelf.Unicode.DecodeAny
import Derived.Shelf.Unicode.DecodeSlow
import Derived.Shelf.Utf8.AppendRune
import Derived.Shelf.Utf8.AppendRunePlain
import Derived.Sort.OwnSortedInts
import Derived.StillTail
import Derived.Tactics2
import Derived.TacticsInMore
import Derived.WalkKit
import Derived.WalkLawsBesides
import Derived.WalkSpells
import Derived.Test.YtffmomgmkpmpkaaGreatDoorKd42
import Derived.Test.YtffmomgmkpmpkaaGreatDoorProg
import Derived.Test.YtffmomgmkpmpkaaGreatDoorKa1
namespace Go.Proofs.YtffmomgmkpmpkaaGreatDoor
open Go.RowKit
set_option linter.unusedVariables false
attribute [local go_sem] vwp vUpon_value vUpon_skip vUpon_enter vUpon_row
set_option linter.unusedSimpArgs false
set_option linter.unusedVariables false
theorem eql_cell_self (w : World) (c : Ce) : (binOp .eql 52 (.agg #[.int .i32 (c).rune, .int .u8 (c).col.r, .int .u8 (c).col.g, .int .u8 (c).col.b, .int .u8 (c).col.a, .int .u8 (c).back.r, .int .u8 (c).back.g, .int .u8 (c).back.b, .int .u8 (c).back.a, .bool (c).wide, .bool (c).tail]) (.agg #[.int .i32 (c).rune, .int .u8 (c).col.r, .int .u8 (c).col.g, .int .u8 (c).col.b, .int .u8 (c).col.a, .int .u8 (c).back.r, .int .u8 (c).back.g, .int .u8 (c).back.b, .int .u8 (c).back.a, .bool (c).wide, .bool (c).tail])).run Tryz.prog w = .ok (.bool true) w := by
  rw [run_eql_struct]
  have h := eq_cell 9997 w c c
  rw [Ce.eqb_iff.2 rfl] at h
  rw [h]
  rfl
attribute [local go_sem high] eql_cell_self
set_option maxHeartbeats 16000000 in
set_option maxRecDepth 100000 in
theorem walk_CellsAsked (wd ht : Int) (cs : List Ce) (v : Value) (x y zw zh : Int) (c : Co) (w : World) (h1 : I64 wd) (h2 : I64 ht) (hl : Row w.heap.size 11 Ce.enc w v cs) (hz1 : I64 zw) (hz2 : I64 zh) (hD : DigT w) (hE : DecT w) :
  Calls Tryz.prog 5 #[.agg #[.int .i64 (wd), .int .i64 (ht), v], .agg #[.int .i64 (x), .int .i64 (y)], .agg #[.int .i64 (zw), .int .i64 (zh)], .agg #[.int .u8 (c.r), .int .u8 (c.g), .int .u8 (c.b), .int .u8 (c.a)]] w fun e w' => e = .returned (.bool true) ∧ Below w.heap.size w w' := by
 obtain ⟨s0, cap0, rfl, hmax0⟩ := hl.shape
 obtain ⟨n0, en0⟩ : ∃ n, cs.length = n := ⟨_, rfl⟩
 have hl0 := hl
 rw [en0] at hl0 hmax0 ⊢
 clear hl
 unfold maxLen at hmax0
 replace hl0 := Lib.hid hl0
 replace hD := Lib.hid hD
 replace hE := Lib.hid hE
 replace en0 := Lib.hid en0
 go_enter Tryz.func5, Tryz.ntmps5
 go_upto_region 1 with fail
 obtain ⟨W0, hW0⟩ : ∃ W0, (((w.alloc (.cells #[.int .i64 wd, .int .i64 ht, .slice s0 n0 cap0] 26)).alloc (.cells #[.int .i64 x, .int .i64 y] 40)).alloc (.cells #[.int .i64 zw, .int .i64 zh] 23)).alloc (.cells #[.int .u8 c.r, .int .u8 c.g, .int .u8 c.b, .int .u8 c.a] 44) = W0 := ⟨_, rfl⟩
 have B4 : Blk W0 w.heap.size [.int .i64 wd, .int .i64 ht, .slice s0 n0 cap0] 26 := by rw [← hW0]; exact (((Blk.new' rfl).alloc _).alloc _).alloc _
 have B5 : Blk W0 (w.heap.size + 1) [.int .i64 x, .int .i64 y] 40 := by rw [← hW0]; exact ((Blk.new' (by simp)).alloc _).alloc _
 have B6 : Blk W0 (w.heap.size + 1 + 1) [.int .i64 zw, .int .i64 zh] 23 := by rw [← hW0]; exact (Blk.new' (by simp)).alloc _
 have B7 : Blk W0 (w.heap.size + 1 + 1 + 1) [.int .u8 c.r, .int .u8 c.g, .int .u8 c.b, .int .u8 c.a] 44 := by rw [← hW0]; exact Blk.new' (by simp)
 have hb0 : Below w.heap.size w W0 := by rw [← hW0]; exact belt
 rw [hW0]
 clear hW0
 obtain ⟨b4, hb4⟩ : ∃ b, w.heap.size = b := ⟨_, rfl⟩
 have hwb : Hid (w.heap.size = b4) := Lib.hid hb4
 rw [hb4] at B4 B5 B6 B7 ⊢
 clear hb4
 have AW := Lib.hid (awake_any W0 (hD.out.below hb0 (by rw [hwb.out]; exact Nat.le_refl _)) (hE.out.below hb0 (by rw [hwb.out]; exact Nat.le_refl _)))
 replace hb0 := Lib.hid hb0
 have y4 := B4.lt
 have y5 := B5.lt
 have y6 := B6.lt
 have y7 := B7.lt
 go_upto_region 4 with (go_at_call 8; (with_reducible refine AW.out.mono ?_); rintro e w1 ⟨rfl, hb1⟩)
 replace B4 := B4.below hb1 y4
 replace B5 := B5.below hb1 y5
 replace B6 := B6.below hb1 y6
 replace B7 := B7.below hb1 y7
 have hb01 := hb0.out.trans (hb1.mono (by have := hb0.out.size; have := hwb.out; omega))
 clear AW hb0 hb1 y4 y5 y6 y7
 have RV : Row w1.heap.size 11 Ce.enc w1 (.slice s0 n0 cap0) cs := by have h := (hl0.out.below (hb01.mono (by rw [hwb.out]; exact Nat.le_refl _))).mono (by have := hb01.size; have := hwb.out; omega); exact h
 have LG := large_any wd ht cs (.slice s0 n0 cap0) w1 RV
 rw [en0.out] at LG
 replace LG := Lib.hid LG
 replace hb01 := Lib.hid hb01
 have k0a := B4.cell (o := 0) rfl
 have k1a := B4.cell (o := 1) rfl
 have k2a := B4.cell (o := 2) rfl
 have ya := B4.lt
 by_cases g0 : 600 < n0
 ·have g0i : decide (600 < n0) = true := decide_eq_true g0
  go_wp2_with (go_at_call 9; (with_reducible refine LG.out.mono ?_); rintro e w2 ⟨rfl, hb2'⟩)
  go_ret
  exact ⟨rfl, hb01.out.trans (hb2'.mono hb01.out.size)⟩
 ·have g0i : decide (600 < n0) = false := decide_eq_false g0
  go_upto_region 6 with (go_at_call 9; (with_reducible refine LG.out.mono ?_); rintro e w2 ⟨rfl, hb2'⟩)
  obtain ⟨cA, hcA⟩ : ∃ c, atC wd ht cs x y = c := ⟨_, rfl⟩
  obtain ⟨eA, heA⟩ : ∃ c, atE wd ht cs x y = c := ⟨_, rfl⟩
  obtain ⟨tA, htA⟩ : ∃ c, txtS wd ht cs = c := ⟨_, rfl⟩
  obtain ⟨kA, hkA⟩ : ∃ c, chkS wd ht cs = c := ⟨_, rfl⟩
  have AT := fun W (h : Below w1.heap.size w1 W) => cat_any wd ht cs (.slice s0 n0 cap0) x y W h1 h2 ((RV.below h).mono h.size)
  have RAT := fun W (h : Below w1.heap.size w1 W) => crat_any wd ht cs (.slice s0 n0 cap0) x y W h1 h2 ((RV.below h).mono h.size)
  have TX := fun W (h : Below w1.heap.size w1 W) => ctext_any wd ht cs (.slice s0 n0 cap0) W h1 h2 ((RV.below h).mono h.size)
  have RTX := fun W (h : Below w1.heap.size w1 W) => crtext_any wd ht cs (.slice s0 n0 cap0) W h1 h2 ((RV.below h).mono h.size) (by rw [en0.out]; omega)
  rw [hcA, heA] at AT RAT
  rw [htA, hkA] at TX RTX
  clear hcA heA htA hkA LG RV
  replace AT := Lib.hid AT
  replace RAT := Lib.hid RAT
  replace TX := Lib.hid TX
  replace RTX := Lib.hid RTX
  clear k0a k1a k2a ya
  have B4a := B4.below hb2' B4.lt
  have B5a := B5.below hb2' B5.lt
  have k0a := B4a.cell (o := 0) rfl
  have k1a := B4a.cell (o := 1) rfl
  have k2a := B4a.cell (o := 2) rfl
  have ya := B4a.lt
  have q0a := B5a.cell (o := 0) rfl
  have q1a := B5a.cell (o := 1) rfl
  have z5a := B5a.lt
  go_upto_region 7 with (go_at_call 21; (with_reducible refine (AT.out _ hb2').mono ?_); rintro e w3 ⟨rfl, hb3⟩)
  obtain ⟨w4, hw4⟩ : ∃ w4, w3.alloc (.cells #[.int .i32 cA.rune, .int .u8 cA.col.r, .int .u8 cA.col.g, .int .u8 cA.col.b, .int .u8 cA.col.a, .int .u8 cA.back.r, .int .u8 cA.back.g, .int .u8 cA.back.b, .int .u8 cA.back.a, .bool cA.wide, .bool cA.tail] 52) = w4 := ⟨_, rfl⟩
  obtain ⟨bA, hbA⟩ : ∃ b, w3.heap.size = b := ⟨_, rfl⟩
  have BA : Blk w4 bA [.int .i32 cA.rune, .int .u8 cA.col.r, .int .u8 cA.col.g, .int .u8 cA.col.b, .int .u8 cA.col.a, .int .u8 cA.back.r, .int .u8 cA.back.g, .int .u8 cA.back.b, .int .u8 cA.back.a, .bool cA.wide, .bool cA.tail] 52 := by rw [← hw4]; exact Blk.new' hbA.symm
  have hb14 : Below w1.heap.size w1 w4 := by rw [← hw4]; exact (hb2'.trans (hb3.mono hb2'.size)).alloc (by have := hb2'.size; have := hb3.size; omega) _
  rw [hw4, hbA]
  clear hw4 hbA hb3 hb2' B4a B5a q0a q1a z5a AT
  clear k0a k1a k2a ya
  have B4a := B4.below hb14 B4.lt
  have B5a := B5.below hb14 B5.lt
  have k0a := B4a.cell (o := 0) rfl
  have k1a := B4a.cell (o := 1) rfl
  have k2a := B4a.cell (o := 2) rfl
  have ya := B4a.lt
  have q0a := B5a.cell (o := 0) rfl
  have q1a := B5a.cell (o := 1) rfl
  have z5a := B5a.lt
  go_upto_region 8 with (go_at_call 22; (with_reducible refine (RAT.out _ hb14).mono ?_); rintro e w5 ⟨rfl, hb5⟩)
  obtain ⟨w6, hw6⟩ : ∃ w6, w5.alloc (.cells #[.int .i32 cA.rune, .int .u8 cA.col.r, .int .u8 cA.col.g, .int .u8 cA.col.b, .int .u8 cA.col.a, .int .u8 cA.back.r, .int .u8 cA.back.g, .int .u8 cA.back.b, .int .u8 cA.back.a, .bool cA.wide, .bool cA.tail] 52) = w6 := ⟨_, rfl⟩
  obtain ⟨bB, hbB⟩ : ∃ b, w5.heap.size = b := ⟨_, rfl⟩
  have BB : Blk w6 bB [.int .i32 cA.rune, .int .u8 cA.col.r, .int .u8 cA.col.g, .int .u8 cA.col.b, .int .u8 cA.col.a, .int .u8 cA.back.r, .int .u8 cA.back.g, .int .u8 cA.back.b, .int .u8 cA.back.a, .bool cA.wide, .bool cA.tail] 52 := by rw [← hw6]; exact Blk.new' hbB.symm
  have hb46 : Below w4.heap.size w4 w6 := by rw [← hw6]; exact hb5.alloc hb5.size _
  rw [hw6, hbB]
  clear hw6 hbB hb5 B4a B5a q0a q1a z5a RAT
  clear k0a k1a k2a ya
  replace BA := BA.below hb46 BA.lt
  have hb16 := hb14.trans (hb46.mono hb14.size)
  clear hb14 hb46
  have B4a := B4.below hb16 B4.lt
  have k0a := B4a.cell (o := 0) rfl
  have k1a := B4a.cell (o := 1) rfl
  have k2a := B4a.cell (o := 2) rfl
  have ya := B4a.lt
  go_upto_region 9 with (go_at_call 23; (with_reducible refine (TX.out _ hb16).mono ?_); rintro e w7 ⟨rfl, hb7⟩)
  replace BA := BA.below hb7 BA.lt
  replace BB := BB.below hb7 BB.lt
  have hb17 := hb16.trans (hb7.mono hb16.size)
  clear hb16 hb7 B4a TX
  clear k0a k1a k2a ya
  have B4a := B4.below hb17 B4.lt
  have k0a := B4a.cell (o := 0) rfl
  have k1a := B4a.cell (o := 1) rfl
  have k2a := B4a.cell (o := 2) rfl
  have ya := B4a.lt
  go_upto_region 10 with (go_at_call 24; (with_reducible refine (RTX.out _ hb17).mono ?_); rintro e w8 ⟨rfl, hb8⟩)
  replace BA := BA.below hb8 BA.lt
  replace BB := BB.below hb8 BB.lt
  have hb18 := hb17.trans (hb8.mono hb17.size)
  clear hb17 hb8 B4a RTX
  clear k0a k1a k2a ya
  have c0 := BA.cell (o := 0) rfl
  have c1 := BA.cell (o := 1) rfl
  have c2 := BA.cell (o := 2) rfl
  have c3 := BA.cell (o := 3) rfl
  have c4 := BA.cell (o := 4) rfl
  have c5 := BA.cell (o := 5) rfl
  have c6 := BA.cell (o := 6) rfl
  have c7 := BA.cell (o := 7) rfl
  have c8 := BA.cell (o := 8) rfl
  have c9 := BA.cell (o := 9) rfl
  have c10 := BA.cell (o := 10) rfl
  have ca := BA.lt
  have d0 := BB.cell (o := 0) rfl
  have d1 := BB.cell (o := 1) rfl
  have d2 := BB.cell (o := 2) rfl
  have d3 := BB.cell (o := 3) rfl
  have d4 := BB.cell (o := 4) rfl
  have d5 := BB.cell (o := 5) rfl
  have d6 := BB.cell (o := 6) rfl
  have d7 := BB.cell (o := 7) rfl
  have d8 := BB.cell (o := 8) rfl
  have d9 := BB.cell (o := 9) rfl
  have d10 := BB.cell (o := 10) rfl
  have cb := BB.lt
  go_upto_region 11 with fail
  clear c0 c1 c2 c3 c4 c5 c6 c7 c8 c9 c10 ca d0 d1 d2 d3 d4 d5 d6 d7 d8 d9 d10 cb BA BB B4
  have B6a := B6.below hb18 B6.lt
  have B7a := B7.below hb18 B7.lt
  have m0 := B6a.cell (o := 0) rfl
  have m1 := B6a.cell (o := 1) rfl
  have my := B6a.lt
  go_cut [101] (fun u wx => (∃ q : Bool, u = .bool q) ∧ w8 = wx)
  case first =>
   by_cases a1 : 0 ≤ zw
   ·by_cases a2 : 0 ≤ zh
    ·by_cases a3 : zw ≤ 16384
     ·by_cases a4 : zh ≤ 16384
      ·have bd := mul_bd a1 a2 a3 a4
       obtain ⟨P, hP⟩ : ∃ P, zw * zh = P := ⟨_, rfl⟩
       rw [hP] at bd
       by_cases a5 : P ≤ 262144
       ·by_cases a6 : P > 600
        ·go_wp2
         go_meet
         case rel => exact ⟨⟨_, rfl⟩, rfl⟩
        ·go_wp2
         go_meet
         case rel => exact ⟨⟨_, rfl⟩, rfl⟩
       ·go_wp2
        go_meet
        case rel => exact ⟨⟨_, rfl⟩, rfl⟩
      ·go_wp2
       go_meet
       case rel => exact ⟨⟨_, rfl⟩, rfl⟩
     ·go_wp2
      go_meet
      case rel => exact ⟨⟨_, rfl⟩, rfl⟩
    ·go_wp2
     go_meet
     case rel => exact ⟨⟨_, rfl⟩, rfl⟩
   ·go_wp2
    go_meet
    case rel => exact ⟨⟨_, rfl⟩, rfl⟩
  case rest =>
   obtain ⟨⟨q, rfl⟩, rfl⟩ := hcut
   clear m0 m1 my B6a B7a
   cases q
   ·obtain ⟨EB, hEB⟩ : ∃ k, blankE zw zh = k := ⟨_, rfl⟩
    obtain ⟨Z1, hZ1⟩ : ∃ k, blankZ zw zw zh = k := ⟨_, rfl⟩
    obtain ⟨Z2, hZ2⟩ : ∃ k, blankZ zh zw zh = k := ⟨_, rfl⟩
    obtain ⟨CB, hCB⟩ : ∃ k, blankC zw zh c = k := ⟨_, rfl⟩
    obtain ⟨NB, hNB⟩ : ∃ k, CB.length = k := ⟨_, rfl⟩
    have BL := fun W => cblank_any zw zh c W hz1 hz2
    have RBL := fun W => crblank_any zw zh c W hz1 hz2
    rw [hEB, hZ1, hZ2, hCB] at BL RBL
    clear hEB hZ1 hZ2 hCB
    replace BL := Lib.hid BL
    replace RBL := Lib.hid RBL
    replace hNB := Lib.hid hNB
    have B6a := B6.below hb18 B6.lt
    have B7a := B7.below hb18 B7.lt
    have m0 := B6a.cell (o := 0) rfl
    have m1 := B6a.cell (o := 1) rfl
    have my := B6a.lt
    have r0 := B7a.cell (o := 0) rfl
    have r1 := B7a.cell (o := 1) rfl
    have r2 := B7a.cell (o := 2) rfl
    have r3 := B7a.cell (o := 3) rfl
    have ry := B7a.lt
    go_upto_region 14 with (go_at_call 25; (with_reducible refine (BL.out _).mono ?_); rintro e w9 ⟨hb9, va, rfl, OA⟩; obtain ⟨sa, ca, hva⟩ := own_slice OA; rw [hNB.out] at hva; subst hva)
    obtain ⟨W10, hW10⟩ : ∃ W, w9.alloc (.cells #[.int .i64 Z1, .int .i64 Z2, .slice sa NB ca] 26) = W := ⟨_, rfl⟩
    obtain ⟨b10, hb10⟩ : ∃ b, w9.heap.size = b := ⟨_, rfl⟩
    have B10 : Blk W10 b10 [.int .i64 Z1, .int .i64 Z2, .slice sa NB ca] 26 := by rw [← hW10]; exact Blk.new' hb10.symm
    have hb8A : Below w8.heap.size w8 W10 := by rw [← hW10]; exact hb9.alloc hb9.size _
    have OA10 : OwnsC w8.heap.size W10 (.slice sa NB ca) CB := by rw [← hW10]; exact OA.alloc _
    rw [hW10, hb10]
    clear hW10 hb10 OA hb9 m0 m1 my r0 r1 r2 r3 ry BL
    replace B6a := B6a.below hb8A B6a.lt
    replace B7a := B7a.below hb8A B7a.lt
    have m0 := B6a.cell (o := 0) rfl
    have m1 := B6a.cell (o := 1) rfl
    have my := B6a.lt
    have r0 := B7a.cell (o := 0) rfl
    have r1 := B7a.cell (o := 1) rfl
    have r2 := B7a.cell (o := 2) rfl
    have r3 := B7a.cell (o := 3) rfl
    have ry := B7a.lt
    go_upto_region 15 with (go_at_call 26; (with_reducible refine (RBL.out _).mono ?_); rintro e w11 ⟨hb11, vb, rfl, OB⟩; obtain ⟨sb, cb, hvb⟩ := own_slice OB; rw [hNB.out] at hvb; subst hvb)
    obtain ⟨W12, hW12⟩ : ∃ W, w11.alloc (.cells #[.int .i64 Z1, .int .i64 Z2, .slice sb NB cb] 26) = W := ⟨_, rfl⟩
    obtain ⟨b12, hb12⟩ : ∃ b, w11.heap.size = b := ⟨_, rfl⟩
    have B12 : Blk W12 b12 [.int .i64 Z1, .int .i64 Z2, .slice sb NB cb] 26 := by rw [← hW12]; exact Blk.new' hb12.symm
    have hbAC : Below W10.heap.size W10 W12 := by rw [← hW12]; exact hb11.alloc hb11.size _
    have OB12 : OwnsC W10.heap.size W12 (.slice sb NB cb) CB := by rw [← hW12]; exact OB.alloc _
    rw [hW12, hb12]
    clear hW12 hb12 OB hb11 m0 m1 my r0 r1 r2 r3 ry RBL B6a B7a
    have OA12 := OA10.below hbAC (Nat.le_refl _)
    replace B10 := B10.below hbAC B10.lt
    have SM := csame_any Z1 Z2 Z1 Z2 CB CB (.slice sa NB ca) (.slice sb NB cb) W12 (OA12.row (Nat.le_refl _)) (OB12.row (Nat.le_refl _))
    rw [samS_iff.2 ⟨rfl, rfl, rfl⟩] at SM
    replace SM := Lib.hid SM
    have hb8C := hb8A.trans (hbAC.mono hb8A.size)
    have hb1C := hb18.trans (hb8C.mono hb18.size)
    clear OA12 OB12 OA10 hb8A hbAC hb8C
    have k0a := B10.cell (o := 0) rfl
    have k1a := B10.cell (o := 1) rfl
    have k2a := B10.cell (o := 2) rfl
    have ya := B10.lt
    have k0b := B12.cell (o := 0) rfl
    have k1b := B12.cell (o := 1) rfl
    have k2b := B12.cell (o := 2) rfl
    have yb := B12.lt
    go_wp2_with (go_at_call 14; (with_reducible refine SM.out.mono ?_); rintro e w13 ⟨rfl, hb13⟩)
    go_ret
    have z1 := hb01.out.trans (hb1C.mono hb01.out.size)
    exact ⟨rfl, z1.trans (hb13.mono z1.size)⟩
   ·go_wp2
    go_ret
    exact ⟨rfl, hb01.out.trans (hb18.mono hb01.out.size)⟩
end Go.Proofs.YtffmomgmkpmpkaaGreatDoor
