/-
  The walk of the law CellsTwice.
-/
import Derived.Below
import Derived.ChangeSame
import Derived.Deep.DeepCutAuto
import Derived.Deep.Fields
import Derived.Deep.RegionHeld3
import Derived.Deep.Slices
import Derived.IntWalk
import Derived.KernelRfl
import Derived.Laws.AppendOwnNone
import Derived.Laws.BitsLemmas
import Derived.Laws.CopyOwn
import Derived.Laws.CopyRow
import Derived.Laws.EntriesVeiled
import Derived.Laws.Externs
import Derived.Laws.IdiomCopy
import Derived.Laws.MakeOwn
import Derived.Laws.OwnMore
import Derived.Laws.StructEq
import Derived.Lib.AppendIntMem
import Derived.Lib.Bytealg
import Derived.Lib.DecodeNEq
import Derived.Lib.Hide
import Derived.Lib.IndexBytes
import Derived.Lib.LaidTab
import Derived.Lib.MinMax
import Derived.Lib.OthersKept
import Derived.Lib.SlicesCompact
import Derived.Lib.SmallJoins
import Derived.LoopIn
import Derived.LoopNIn
import Derived.Maps.AppendAt
import Derived.OneCell
import Derived.OrdersHeld
import Derived.OwnWalk
import Derived.OwnWalkIn
import Derived.RangeFuncBound
import Derived.RangeFuncCalls
import Derived.RangeFuncLeaves
import Derived.RangeFuncNested
import Derived.ScopeJumps
import Derived.Shelf.Bits.Mul64
import Derived.Shelf.LaysM
import Derived.Shelf.RegionOpen
import Derived.Shelf.Small.Wraps
import Derived.Shelf.Spec.SlicesGrow
import Derived.Shelf.Spec.SlicesInsert
import Derived.Shelf.Strconv.Itoa0
import Derived.Shelf.Strconv.Itoa1
import Derived.Shelf.Strconv.Itoa2
import Derived.Shelf.Strconv.Itoa3
import Derived.Shelf.Strings.Builder1
import Derived.Shelf.Strings.BuilderCap
import Derived.Shelf.Strings.BuilderF
import Derived.Shelf.Strings.BuilderK
import Derived.Shelf.Strings.BuilderRune
import Derived.Shelf.Strings.Prefix
import Derived.Shelf.Unicode.Decode
import Derived.Shelf.Unicode.DecodeAny
import Derived.Shelf.Unicode.DecodeSlow
import Derived.Shelf.Utf8.AppendRune
import Derived.Shelf.Utf8.AppendRunePlain
import Derived.StillTail
import Derived.Tactics2
import Derived.TacticsInMore
import Derived.WalkKit
import Derived.WalkLawsBesides
import Derived.WalkSpells
import Derived.Test.YtffmomgmkpmpkaaDoorKb25
import Derived.Test.YtffmomgmkpmpkaaDoorProg
import Derived.Test.YtffmomgmkpmpkaaDoorKt1
namespace Go.Proofs.YtffmomgmkpmpkaaDoor
open Go.RowKit
set_option linter.unusedVariables false
attribute [local go_sem] vwp vUpon_value vUpon_skip vUpon_enter vUpon_row
set_option linter.unusedSimpArgs false
set_option linter.unusedVariables false
set_option maxHeartbeats 16000000 in
set_option maxRecDepth 100000 in
theorem walk_CellsTwice (wd ht : Int) (cs : List Ce) (v : Value) (xs : List St) (vx : Value) (ys : List St) (vy : Value) (w : World) (h1 : I64 wd) (h2 : I64 ht) (hl : Row w.heap.size 11 Ce.enc w v cs) (hc : CeL cs) (hx : Row w.heap.size 15 St.enc w vx xs) (hy : Row w.heap.size 15 St.enc w vy ys) (k1 : ∀ s ∈ xs, s.Wf) (k2 : ∀ s ∈ ys, s.Wf) (hD : DigT w) (hE : DecT w) :
  Calls Tryd.prog 4 #[.agg #[.int .i64 (wd), .int .i64 (ht), v], vx, vy] w fun e w' => e = .returned (.bool true) ∧ Below w.heap.size w w' := by
 obtain ⟨s0, cap0, rfl, hmax0⟩ := hl.shape
 obtain ⟨s1, cap1, rfl, hmax1⟩ := hx.shape
 obtain ⟨s2, cap2, rfl, hmax2⟩ := hy.shape
 obtain ⟨n0, en0⟩ : ∃ n, cs.length = n := ⟨_, rfl⟩
 obtain ⟨n1, en1⟩ : ∃ n, xs.length = n := ⟨_, rfl⟩
 obtain ⟨n2, en2⟩ : ∃ n, ys.length = n := ⟨_, rfl⟩
 have hl0 := hl
 have hx0 := hx
 have hy0 := hy
 rw [en0] at hl0 hmax0 ⊢
 rw [en1] at hx0 hmax1 ⊢
 rw [en2] at hy0 hmax2 ⊢
 clear hl hx hy
 unfold maxLen at hmax0 hmax1 hmax2
 replace hl0 := Lib.hid hl0
 replace hx0 := Lib.hid hx0
 replace hy0 := Lib.hid hy0
 replace hD := Lib.hid hD
 replace hE := Lib.hid hE
 replace hc := Lib.hid hc
 replace k1 := Lib.hid k1
 replace k2 := Lib.hid k2
 replace en0 := Lib.hid en0
 replace en1 := Lib.hid en1
 replace en2 := Lib.hid en2
 go_enter Tryd.func4, Tryd.ntmps4
 go_upto_region 1 with fail
 obtain ⟨W0, hW0⟩ : ∃ W0, w.alloc (.cells #[.int .i64 wd, .int .i64 ht, .slice s0 n0 cap0] 26) = W0 := ⟨_, rfl⟩
 obtain ⟨b3, hb3⟩ : ∃ b, w.heap.size = b := ⟨_, rfl⟩
 have B3 : Blk W0 b3 [.int .i64 wd, .int .i64 ht, .slice s0 n0 cap0] 26 := by rw [← hW0]; exact Blk.new' hb3.symm
 have hb0 : Below w.heap.size w W0 := by rw [← hW0]; exact belt
 rw [hW0, hb3]
 clear hW0
 replace hb3 := Lib.hid hb3
 have AW := Lib.hid (awake_any W0 (hD.out.below hb0 (Nat.le_refl _)) (hE.out.below hb0 (Nat.le_refl _)))
 replace hb0 := Lib.hid hb0
 go_upto_region 4 with (go_at_call 5; (with_reducible refine AW.out.mono ?_); rintro e w1 ⟨rfl, hb1⟩)
 replace B3 := B3.below hb1 B3.lt
 have hb01 := hb0.out.trans (hb1.mono hb0.out.size)
 clear AW hb0 hb1
 have LG := large_any wd ht cs (.slice s0 n0 cap0) w1 ((hl0.out.below hb01).mono hb01.size)
 rw [en0.out] at LG
 replace LG := Lib.hid LG
 replace hb01 := Lib.hid hb01
 have k0a := B3.cell (o := 0) rfl
 have k1a := B3.cell (o := 1) rfl
 have k2a := B3.cell (o := 2) rfl
 have ya := B3.lt
 by_cases g0 : 600 < n0
 ·have g0i : decide (600 < n0) = true := decide_eq_true g0
  go_wp2_with (go_at_call 6; (with_reducible refine LG.out.mono ?_); rintro e w2 ⟨rfl, hb2'⟩)
  go_ret
  exact ⟨rfl, hb01.out.trans (hb2'.mono hb01.out.size)⟩
 ·have g0i : decide (600 < n0) = false := decide_eq_false g0
  by_cases g1 : 40 < n1
  ·have g1i : (40 : Int) < n1 := by omega
   go_wp2_with (go_at_call 6; (with_reducible refine LG.out.mono ?_); rintro e w2 ⟨rfl, hb2'⟩)
   go_ret
   exact ⟨rfl, hb01.out.trans (hb2'.mono hb01.out.size)⟩
  ·have g1i : ¬ (40 : Int) < n1 := by omega
   by_cases g2 : 40 < n2
   ·have g2i : (40 : Int) < n2 := by omega
    go_wp2_with (go_at_call 6; (with_reducible refine LG.out.mono ?_); rintro e w2 ⟨rfl, hb2'⟩)
    go_ret
    exact ⟨rfl, hb01.out.trans (hb2'.mono hb01.out.size)⟩
   ·have g2i : ¬ (40 : Int) < n2 := by omega
    go_upto_region 6 with (go_at_call 6; (with_reducible refine LG.out.mono ?_); rintro e w2 ⟨rfl, hb2'⟩)
    replace B3 := B3.below hb2' B3.lt
    have hb02 := hb01.out.trans (hb2'.mono hb01.out.size)
    clear LG hb01 hb2'
    clear k0a k1a k2a ya
    have RV := (hl0.out.below hb02).mono hb02.size
    have RX := (hx0.out.below hb02).mono hb02.size
    have RY := (hy0.out.below hb02).mono hb02.size
    obtain ⟨E, hEe⟩ : ∃ E, drawE wd ht cs xs = E := ⟨_, rfl⟩
    obtain ⟨Z1, hZ1⟩ : ∃ Z, drawZ wd wd ht cs xs = Z := ⟨_, rfl⟩
    obtain ⟨Z2, hZ2⟩ : ∃ Z, drawZ ht wd ht cs xs = Z := ⟨_, rfl⟩
    obtain ⟨CA, hCA⟩ : ∃ C, drawC glyS wd ht cs xs = C := ⟨_, rfl⟩
    have DRW := cdraw_any glyS glyphs_any wd ht cs (.slice s0 n0 cap0) xs (.slice s1 n1 cap1) w2 h1 h2 RV hc.out RX k1.out
    rw [hEe, hZ1, hZ2, hCA] at DRW
    obtain ⟨NA, hNA⟩ : ∃ n, CA.length = n := ⟨_, rfl⟩
    replace DRW := Lib.hid DRW
    replace hb02 := Lib.hid hb02
    replace hNA := Lib.hid hNA
    replace hEe := Lib.hid hEe
    replace hZ1 := Lib.hid hZ1
    replace hZ2 := Lib.hid hZ2
    replace hCA := Lib.hid hCA
    replace RV := Lib.hid RV
    replace RX := Lib.hid RX
    replace RY := Lib.hid RY
    clear hl0 hx0 hy0 g0 g0i g1 g1i g2i
    have k0a := B3.cell (o := 0) rfl
    have k1a := B3.cell (o := 1) rfl
    have k2a := B3.cell (o := 2) rfl
    have ya := B3.lt
    go_upto_region 7 with (go_at_call 14; (with_reducible refine DRW.out.mono ?_); rintro e w3 ⟨hb3', va, rfl, OA⟩; obtain ⟨sa, ca, hva⟩ := own_slice OA; rw [hNA.out] at hva; subst hva)
    obtain ⟨W4, hW4⟩ : ∃ W, w3.alloc (.cells #[.int .i64 Z1, .int .i64 Z2, .slice sa NA ca] 26) = W := ⟨_, rfl⟩
    obtain ⟨b8, hb8⟩ : ∃ b, w3.heap.size = b := ⟨_, rfl⟩
    have B8 : Blk W4 b8 [.int .i64 Z1, .int .i64 Z2, .slice sa NA ca] 26 := by rw [← hW4]; exact Blk.new' hb8.symm
    have hb4 : Below w2.heap.size w2 W4 := by rw [← hW4]; exact hb3'.alloc hb3'.size _
    have OA4 : OwnsC w2.heap.size W4 (.slice sa NA ca) CA := by rw [← hW4]; exact OA.alloc _
    rw [hW4, hb8]
    clear hW4 hb8 OA hb3'
    clear DRW
    clear k0a k1a k2a ya
    by_cases e0 : E = 0
    ·subst e0
     have z1 : Z1 = wd := by have h := hZ1.out; unfold drawZ at h; rw [if_pos hEe.out] at h; exact h.symm
     have z2 : Z2 = ht := by have h := hZ2.out; unfold drawZ at h; rw [if_pos hEe.out] at h; exact h.symm
     subst z1 z2
     obtain ⟨t1, t2⟩ := draw_twice (m := ys) hEe.out (by rw [en1.out, en2.out]; omega)
     rw [hCA.out] at t1 t2
     have wA : CeL CA := by rw [← hCA.out]; exact drawC_wf hc.out k1.out
     obtain ⟨J, hJ⟩ : ∃ J, joinE xs ys = J := ⟨_, rfl⟩
     obtain ⟨JL, hJL⟩ : ∃ J, joinL xs ys = J := ⟨_, rfl⟩
     rw [hJ] at t1
     rw [hJ, hJL] at t2
     obtain ⟨Z3, hZ3⟩ : ∃ Z, drawZ Z1 Z1 Z2 CA ys = Z := ⟨_, rfl⟩
     obtain ⟨Z4, hZ4⟩ : ∃ Z, drawZ Z2 Z1 Z2 CA ys = Z := ⟨_, rfl⟩
     obtain ⟨CB, hCB⟩ : ∃ C, drawC glyS Z1 Z2 CA ys = C := ⟨_, rfl⟩
     have zb4 := hb4.size
     have DRW := cdraw_any glyS glyphs_any Z1 Z2 CA (.slice sa NA ca) ys (.slice s2 n2 cap2) W4 h1 h2 (OA4.row (Nat.le_refl _)) wA ((RY.out.below hb4).mono zb4) k2.out
     rw [t1, hZ3, hZ4, hCB] at DRW
     obtain ⟨NB, hNB⟩ : ∃ n, CB.length = n := ⟨_, rfl⟩
     have kJ : ∀ s ∈ JL, s.Wf := by
      intro s hs
      rw [← hJL] at hs
      unfold joinL at hs
      split at hs
      ·rcases List.mem_append.1 hs with h | h
       ·exact k1.out s h
       ·exact k2.out s h
      ·cases hs
     replace DRW := Lib.hid DRW
     replace hNB := Lib.hid hNB
     replace hZ3 := Lib.hid hZ3
     replace hZ4 := Lib.hid hZ4
     replace hCB := Lib.hid hCB
     replace hJ := Lib.hid hJ
     replace hJL := Lib.hid hJL
     replace t1 := Lib.hid t1
     replace t2 := Lib.hid t2
     replace hb4 := Lib.hid hb4
     have k0a := B8.cell (o := 0) rfl
     have k1a := B8.cell (o := 1) rfl
     have k2a := B8.cell (o := 2) rfl
     have ya := B8.lt
     go_upto_region 10 with (go_at_call 14; (with_reducible refine DRW.out.mono ?_); rintro e w5 ⟨hb5', vb, rfl, OB⟩; obtain ⟨sb, cb, hvb⟩ := own_slice OB; rw [hNB.out] at hvb; subst hvb)
     obtain ⟨W6, hW6⟩ : ∃ W, w5.alloc (.cells #[.int .i64 Z3, .int .i64 Z4, .slice sb NB cb] 26) = W := ⟨_, rfl⟩
     obtain ⟨b10, hb10⟩ : ∃ b, w5.heap.size = b := ⟨_, rfl⟩
     have B10 : Blk W6 b10 [.int .i64 Z3, .int .i64 Z4, .slice sb NB cb] 26 := by rw [← hW6]; exact Blk.new' hb10.symm
     have hb6 : Below W4.heap.size W4 W6 := by rw [← hW6]; exact hb5'.alloc hb5'.size _
     have OB6 : OwnsC W4.heap.size W6 (.slice sb NB cb) CB := by rw [← hW6]; exact OB.alloc _
     rw [hW6, hb10]
     clear hW6 hb10 OB hb5'
     clear DRW B8 OA4
     clear k0a k1a k2a ya
     have hb26 := hb4.out.trans (hb6.mono zb4)
     have zb26 := hb26.size
     have JN := Lib.hid (ljoin_any xs ys (.slice s1 n1 cap1) (.slice s2 n2 cap2) W6 ((RX.out.below hb26).mono zb26) ((RY.out.below hb26).mono zb26) k1.out k2.out)
     rw [hJ.out, hJL.out] at JN
     obtain ⟨NJ, hNJ⟩ : ∃ n, JL.length = n := ⟨_, rfl⟩
     replace hNJ := Lib.hid hNJ
     replace B3 := B3.below hb26 B3.lt
     replace hb26 := Lib.hid hb26
     clear hb4 hb6
     go_upto_region 11 with (go_at_call 15; (with_reducible refine JN.out.mono ?_); rintro e w7 ⟨hb7, vj, rfl, OJ⟩; obtain ⟨sj, cj, hvj⟩ := own_slice OJ; rw [hNJ.out] at hvj; subst hvj)
     have hb27 := hb26.out.trans (hb7.mono zb26)
     have OB7 := OB6.below hb7 (Nat.le_refl _)
     have B10a := B10.below hb7 B10.lt
     replace B3 := B3.below hb7 B3.lt
     clear JN OB6 B10 hb26
     by_cases j0 : J = 0
     ·subst j0
      obtain ⟨u1, u2⟩ := t2.out rfl
      rw [hCB.out] at u2
      have z3 : Z3 = Z1 := by have h := hZ3.out; unfold drawZ at h; rw [if_pos t1.out] at h; exact h.symm
      have z4 : Z4 = Z2 := by have h := hZ4.out; unfold drawZ at h; rw [if_pos t1.out] at h; exact h.symm
      subst z3 z4
      have e5 : drawZ Z3 Z3 Z4 cs JL = Z3 := if_pos u1
      have e6 : drawZ Z4 Z3 Z4 cs JL = Z4 := if_pos u1
      have zb27 := hb27.size
      have DRW := cdraw_any glyS glyphs_any Z3 Z4 cs (.slice s0 n0 cap0) JL (.slice sj NJ cj) w7 h1 h2 ((RV.out.below hb27).mono zb27) hc.out (by have h := OJ.row (Nat.le_refl _); exact h) kJ
      rw [u1, u2, e5, e6] at DRW
      replace DRW := Lib.hid DRW
      replace hb27 := Lib.hid hb27
      replace OB7 := Lib.hid OB7
      replace B10a := Lib.hid B10a
      clear OJ hb7 e5 e6
      have k0a := B3.cell (o := 0) rfl
      have k1a := B3.cell (o := 1) rfl
      have k2a := B3.cell (o := 2) rfl
      have ya := B3.lt
      go_upto_region 16 with (go_at_call 14; (with_reducible refine DRW.out.mono ?_); rintro e w8 ⟨hb8', vc, rfl, OC⟩; obtain ⟨sc, cc, hvc⟩ := own_slice OC; rw [hNB.out] at hvc; subst hvc)
      obtain ⟨W9, hW9⟩ : ∃ W, w8.alloc (.cells #[.int .i64 Z3, .int .i64 Z4, .slice sc NB cc] 26) = W := ⟨_, rfl⟩
      obtain ⟨b13, hb13⟩ : ∃ b, w8.heap.size = b := ⟨_, rfl⟩
      have B13 : Blk W9 b13 [.int .i64 Z3, .int .i64 Z4, .slice sc NB cc] 26 := by rw [← hW9]; exact Blk.new' hb13.symm
      have hb9 : Below w7.heap.size w7 W9 := by rw [← hW9]; exact hb8'.alloc hb8'.size _
      have OC9 : OwnsC w7.heap.size W9 (.slice sc NB cc) CB := by rw [← hW9]; exact OC.alloc _
      rw [hW9, hb13]
      clear hW9 hb13 OC hb8'
      clear k0a k1a k2a ya
      have OB9 := OB7.out.below hb9 (Nat.le_refl _)
      have B10e := B10a.out.below hb9 B10a.out.lt
      have SM := csame_any Z3 Z4 Z3 Z4 CB CB (.slice sc NB cc) (.slice sb NB cb) W9 (OC9.row (Nat.le_refl _)) (OB9.row (Nat.le_refl _))
      rw [samS_iff.2 ⟨rfl, rfl, rfl⟩] at SM
      replace SM := Lib.hid SM
      replace hb9 := Lib.hid hb9
      clear OB9 OC9 OB7 B10a DRW
      have k0a := B13.cell (o := 0) rfl
      have k1a := B13.cell (o := 1) rfl
      have k2a := B13.cell (o := 2) rfl
      have ya := B13.lt
      have k0b := B10e.cell (o := 0) rfl
      have k1b := B10e.cell (o := 1) rfl
      have k2b := B10e.cell (o := 2) rfl
      have yb := B10e.lt
      go_wp2_with (go_at_call 13; (with_reducible refine SM.out.mono ?_); rintro e w10 ⟨rfl, hb10⟩)
      go_ret
      have z1 := hb02.out.trans (hb27.out.mono hb02.out.size)
      have z2 := z1.trans (hb9.out.mono z1.size)
      exact ⟨rfl, z2.trans (hb10.mono z2.size)⟩
     ·have hCB0 : CB = [] := by have h := hCB.out; unfold drawC at h; rw [if_neg (by rw [t1.out]; exact j0)] at h; exact h.symm
      have hNB0 : NB = 0 := by rw [← hNB.out, hCB0]; rfl
      subst hNB0
      have j1 : (J != 0) = true := by simpa using j0
      clear OJ OB7
      replace hb27 := Lib.hid hb27
      have k0a := B10a.cell (o := 0) rfl
      have k1a := B10a.cell (o := 1) rfl
      have k2a := B10a.cell (o := 2) rfl
      have ya := B10a.lt
      go_wp2
      go_ret
      exact ⟨rfl, hb02.out.trans (hb27.out.mono hb02.out.size)⟩
    ·have e1 : (E != 0) = true := by simpa using e0
     clear OA4
     go_wp2
     go_ret
     exact ⟨rfl, hb02.out.trans (hb4.mono hb02.out.size)⟩
end Go.Proofs.YtffmomgmkpmpkaaDoor
