/-
  The walk of the law CellsRuns.
-/
import Derived.Lib.SlicesCompact
import Derived.Test.YtffmomgmkpmpkaaGreatDoorProg
import Derived.Test.YtffmomgmkpmpkaaGreatDoorKu27
import Derived.Test.YtffmomgmkpmpkaaGreatDoorKu31
import Derived.Test.YtffmomgmkpmpkaaGreatDoorKu35
import Derived.Test.YtffmomgmkpmpkaaGreatDoorKu36
namespace Go.Proofs.YtffmomgmkpmpkaaGreatDoor
open Go.RowKit
set_option linter.unusedVariables false
attribute [local go_sem] vwp vUpon_value vUpon_skip vUpon_enter vUpon_row
set_option linter.unusedSimpArgs false
set_option linter.unusedVariables false
set_option maxHeartbeats 16000000 in
set_option maxRecDepth 100000 in
theorem walk_CellsRuns (wa ha : Int) (xs : List Ce) (va : Value) (wb hb : Int) (ys : List Ce) (vb : Value) (l : List Rn) (vl : Value) (w : World) (h1 : I64 wa) (h2 : I64 ha) (h3 : I64 wb) (h4 : I64 hb) (hla : Row w.heap.size 11 Ce.enc w va xs) (hlb : Row w.heap.size 11 Ce.enc w vb ys) (hca : CeL xs) (hcb : CeL ys)
  (hlr : RunsAt w.heap.size w vl l) (hwf : ∀ r ∈ l, RnWf r) (hbt : l.length * 40 ≤ 140737488355328) (hct : ∀ r ∈ l, r.cells.length * 16 ≤ 140737488355328) (hD : DigT w) (hE : DecT w) :
  Calls Tryz.prog 6 #[.agg #[.int .i64 (wa), .int .i64 (ha), va], .agg #[.int .i64 (wb), .int .i64 (hb), vb], vl] w fun e w' => e = .returned (.bool true) ∧ Below w.heap.size w w' := by
 obtain ⟨s0, cap0, rfl, hmax0⟩ := hla.shape
 obtain ⟨s1, cap1, rfl, hmax1⟩ := hlb.shape
 obtain ⟨s2, cap2, rfl, hmax2⟩ := hlr.shape
 obtain ⟨n0, en0⟩ : ∃ n, xs.length = n := ⟨_, rfl⟩
 obtain ⟨n1, en1⟩ : ∃ n, ys.length = n := ⟨_, rfl⟩
 obtain ⟨n2, en2⟩ : ∃ n, l.length = n := ⟨_, rfl⟩
 have hl0 := hla
 have hl1 := hlb
 have hl2 := hlr
 rw [en0] at hl0 hmax0 ⊢
 rw [en1] at hl1 hmax1 ⊢
 rw [en2] at hl2 hmax2 hbt ⊢
 clear hla hlb hlr
 unfold maxLen at hmax0 hmax1 hmax2
 replace hl0 := Lib.hid hl0
 replace hl1 := Lib.hid hl1
 replace hl2 := Lib.hid hl2
 replace hD := Lib.hid hD
 replace hE := Lib.hid hE
 replace hca := Lib.hid hca
 replace hcb := Lib.hid hcb
 replace hwf := Lib.hid hwf
 replace hct := Lib.hid hct
 replace en0 := Lib.hid en0
 replace en1 := Lib.hid en1
 replace en2 := Lib.hid en2
 go_enter Tryz.func6, Tryz.ntmps6
 go_upto_region 1 with fail
 obtain ⟨W0, hW0⟩ : ∃ W0, (w.alloc (.cells #[.int .i64 wa, .int .i64 ha, .slice s0 n0 cap0] 26)).alloc (.cells #[.int .i64 wb, .int .i64 hb, .slice s1 n1 cap1] 26) = W0 := ⟨_, rfl⟩
 obtain ⟨b3, hb3⟩ : ∃ b, w.heap.size = b := ⟨_, rfl⟩
 have B3 : Blk W0 b3 [.int .i64 wa, .int .i64 ha, .slice s0 n0 cap0] 26 := by rw [← hW0]; exact (Blk.new' hb3.symm).alloc _
 have B4 : Blk W0 (b3 + 1) [.int .i64 wb, .int .i64 hb, .slice s1 n1 cap1] 26 := by rw [← hW0]; exact Blk.new' (by simp; omega)
 have hb0 : Below w.heap.size w W0 := by rw [← hW0]; exact belt
 rw [hW0, hb3]
 clear hW0
 replace hb3 := Lib.hid hb3
 have AW := Lib.hid (awake_any W0 (hD.out.below hb0 (Nat.le_refl _)) (hE.out.below hb0 (Nat.le_refl _)))
 replace hb0 := Lib.hid hb0
 go_upto_region 4 with (go_at_call 8; (with_reducible refine AW.out.mono ?_); rintro e w1 ⟨rfl, hb1⟩)
 replace B3 := B3.below hb1 B3.lt
 replace B4 := B4.below hb1 B4.lt
 have hb01 := hb0.out.trans (hb1.mono hb0.out.size)
 clear AW hb0 hb1
 have LG := large_any wa ha xs (.slice s0 n0 cap0) w1 ((hl0.out.below hb01).mono hb01.size)
 have LH := fun u (hu : Below w1.heap.size w1 u) => large_any wb hb ys (.slice s1 n1 cap1) u ((hl1.out.below (hb01.trans (hu.mono hb01.size))).mono (Nat.le_trans hb01.size hu.size))
 rw [en0.out] at LG
 rw [en1.out] at LH
 replace LG := Lib.hid LG
 replace LH := Lib.hid LH
 replace hb01 := Lib.hid hb01
 have k0a := B3.cell (o := 0) rfl
 have k1a := B3.cell (o := 1) rfl
 have k2a := B3.cell (o := 2) rfl
 have ya := B3.lt
 have k0b := B4.cell (o := 0) rfl
 have k1b := B4.cell (o := 1) rfl
 have k2b := B4.cell (o := 2) rfl
 have yb := B4.lt
 by_cases g0 : 600 < n0
 ·have g0i : decide (600 < n0) = true := decide_eq_true g0
  go_wp2_with (first
   | (go_at_call 9; (with_reducible refine LG.out.mono ?_); rintro e w2 ⟨rfl, hb2'⟩; obtain ⟨hc2, hf2⟩ := bcell hb2')
   | (go_at_call 9; (with_reducible refine (LH.out _ hb2').mono ?_); rintro e w3 ⟨rfl, hb3'⟩))
  go_ret
  first
   | exact ⟨rfl, hb01.out.trans (hb2'.mono hb01.out.size)⟩
   | exact ⟨rfl, hb01.out.trans ((hb2'.trans (hb3'.mono hb2'.size)).mono hb01.out.size)⟩
 ·have g0i : decide (600 < n0) = false := decide_eq_false g0
  by_cases g1 : 600 < n1
  ·have g1i : decide (600 < n1) = true := decide_eq_true g1
   go_wp2_with (first
    | (go_at_call 9; (with_reducible refine LG.out.mono ?_); rintro e w2 ⟨rfl, hb2'⟩; obtain ⟨hc2, hf2⟩ := bcell hb2')
    | (go_at_call 9; (with_reducible refine (LH.out _ hb2').mono ?_); rintro e w3 ⟨rfl, hb3'⟩))
   go_ret
   first
    | exact ⟨rfl, hb01.out.trans (hb2'.mono hb01.out.size)⟩
    | exact ⟨rfl, hb01.out.trans ((hb2'.trans (hb3'.mono hb2'.size)).mono hb01.out.size)⟩
  ·have g1i : decide (600 < n1) = false := decide_eq_false g1
   go_upto_region 4 with fail
   go_cut [45] (fun bv wx => ∃ W2, W2 = wx ∧ (bv = .bool true ∨ bv = .bool false) ∧ Below w1.heap.size w1 wx)
   case first =>
    by_cases g2 : 100 < n2
    ·have g2i : (100 : Int) < n2 := by omega
     by_cases g3 : n2 ≤ 262144
     ·have g3i : (n2 : Int) ≤ 262144 := by omega
      go_wp2_with (first
       | (go_at_call 9; (with_reducible refine LG.out.mono ?_); rintro e w2 ⟨rfl, hb2'⟩; obtain ⟨hc2, hf2⟩ := bcell hb2')
       | (go_at_call 9; (with_reducible refine (LH.out _ hb2').mono ?_); rintro e w3 ⟨rfl, hb3'⟩))
      go_meet
      case rel => exact ⟨_, rfl, .inl rfl, hb2'.trans (hb3'.mono hb2'.size)⟩
     ·have g3i : decide ((n2 : Int) ≤ 262144) = false := decide_eq_false (by omega)
      go_wp2_with (first
       | (go_at_call 9; (with_reducible refine LG.out.mono ?_); rintro e w2 ⟨rfl, hb2'⟩; obtain ⟨hc2, hf2⟩ := bcell hb2')
       | (go_at_call 9; (with_reducible refine (LH.out _ hb2').mono ?_); rintro e w3 ⟨rfl, hb3'⟩))
      go_meet
      case rel => exact ⟨_, rfl, .inr rfl, hb2'.trans (hb3'.mono hb2'.size)⟩
    ·have g2i : ¬ (100 : Int) < n2 := by omega
     go_wp2_with (first
      | (go_at_call 9; (with_reducible refine LG.out.mono ?_); rintro e w2 ⟨rfl, hb2'⟩; obtain ⟨hc2, hf2⟩ := bcell hb2')
      | (go_at_call 9; (with_reducible refine (LH.out _ hb2').mono ?_); rintro e w3 ⟨rfl, hb3'⟩))
     go_meet
     case rel => exact ⟨_, rfl, .inr rfl, hb2'.trans (hb3'.mono hb2'.size)⟩
   case rest =>
    obtain ⟨W2, rfl, hbv, hb2'⟩ := hcut
    have hb02 := hb01.out.trans (hb2'.mono hb01.out.size)
    replace B3 := B3.below hb2' B3.lt
    replace B4 := B4.below hb2' B4.lt
    clear LG LH hb01 hb2'
    clear k0a k1a k2a ya
    clear k0b k1b k2b yb
    rcases hbv with rfl | rfl
    ·go_wp2
     go_ret
     exact ⟨rfl, hb02⟩
    ·have z02 := hb02.size
     have RA := (hl0.out.below hb02).mono z02
     have RB := (hl1.out.below hb02).mono z02
     have RL := (hl2.out.below hb02).mono z02
     have hDW := hD.out.below hb02 (Nat.le_refl _)
     have TA := Lib.hid (twin_any wa ha xs (.slice s0 n0 cap0) W2 RA (by have := en0.out; omega))
     replace RA := Lib.hid RA
     replace RB := Lib.hid RB
     replace RL := Lib.hid RL
     replace hDW := Lib.hid hDW
     replace hb02 := Lib.hid hb02
     have hs0 := Lib.hid (show xs.length ≤ 600 by rw [en0.out]; omega)
     have hs1 := Lib.hid (show ys.length ≤ 600 by rw [en1.out]; omega)
     clear hl0 hl1 hl2 g0 g0i g1i hE hD
     have k0a := B3.cell (o := 0) rfl
     have k1a := B3.cell (o := 1) rfl
     have k2a := B3.cell (o := 2) rfl
     have ya := B3.lt
     go_upto_region 7 with (go_at_call 10; (with_reducible refine TA.out.mono ?_); rintro e w3 ⟨vx, rfl, OX, hb3'⟩; obtain ⟨sx, cx, hvx⟩ := own_slice OX; rw [en0.out] at hvx; subst hvx)
     obtain ⟨W4, hW4⟩ : ∃ W, w3.alloc (.cells #[.int .i64 wa, .int .i64 ha, .slice sx n0 cx] 26) = W := ⟨_, rfl⟩
     obtain ⟨b8, hb8⟩ : ∃ b, w3.heap.size = b := ⟨_, rfl⟩
     have B8 : Blk W4 b8 [.int .i64 wa, .int .i64 ha, .slice sx n0 cx] 26 := by rw [← hW4]; exact Blk.new' hb8.symm
     have hb4 : Below W2.heap.size W2 W4 := by rw [← hW4]; exact hb3'.alloc hb3'.size _
     have OX4 : OwnsC W2.heap.size W4 (.slice sx n0 cx) xs := by rw [← hW4]; exact OX.alloc _
     rw [hW4, hb8]
     have lb8 : W2.heap.size ≤ b8 := by rw [← hb8]; exact hb3'.size
     clear hW4 hb8 OX hb3'
     clear k0a k1a k2a ya
     clear TA
     have z4 := hb4.size
     replace B3 := B3.below hb4 B3.lt
     replace B4 := B4.below hb4 B4.lt
     have TB := Lib.hid (twin_any wb hb ys (.slice s1 n1 cap1) W4 ((RB.out.below hb4).mono z4) (by have := en1.out; omega))
     replace OX4 := Lib.hid OX4
     replace hb4 := Lib.hid hb4
     have k0a := B4.cell (o := 0) rfl
     have k1a := B4.cell (o := 1) rfl
     have k2a := B4.cell (o := 2) rfl
     have ya := B4.lt
     go_upto_region 8 with (go_at_call 10; (with_reducible refine TB.out.mono ?_); rintro e w5 ⟨vy, rfl, OY, hb5'⟩; obtain ⟨sy, cy, hvy⟩ := own_slice OY; rw [en1.out] at hvy; subst hvy)
     obtain ⟨W6, hW6⟩ : ∃ W, w5.alloc (.cells #[.int .i64 wb, .int .i64 hb, .slice sy n1 cy] 26) = W := ⟨_, rfl⟩
     obtain ⟨b9, hb9⟩ : ∃ b, w5.heap.size = b := ⟨_, rfl⟩
     have B9 : Blk W6 b9 [.int .i64 wb, .int .i64 hb, .slice sy n1 cy] 26 := by rw [← hW6]; exact Blk.new' hb9.symm
     have hb6 : Below W4.heap.size W4 W6 := by rw [← hW6]; exact hb5'.alloc hb5'.size _
     have OY6 : OwnsC W4.heap.size W6 (.slice sy n1 cy) ys := by rw [← hW6]; exact OY.alloc _
     rw [hW6, hb9]
     have lb9 : W4.heap.size ≤ b9 := by rw [← hb9]; exact hb5'.size
     clear hW6 hb9 OY hb5'
     clear k0a k1a k2a ya
     clear TB
     have z6 := hb6.size
     have OX6 := OX4.out.below hb6 (Nat.le_refl _)
     replace B3 := B3.below hb6 B3.lt
     replace B4 := B4.below hb6 B4.lt
     replace B8 := B8.below hb6 B8.lt
     have hb26 := hb4.out.trans (hb6.mono z4)
     have z26 := hb26.size
     have LR := Lib.hid (lruns_any l (.slice s2 n2 cap2) W6 ((RL.out.below hb26).mono z26) (by rw [en2.out]; exact hbt) hct.out)
     clear OX4 hb4 hb6
     replace hb26 := Lib.hid hb26
     go_upto_region 9 with (go_at_call 27; (with_reducible refine LR.out.mono ?_); rintro e w7 ⟨vm, rfl, OM, hb7⟩)
     have z7 := hb7.size
     have OX7 := OX6.below hb7 (Nat.le_refl _)
     have OY7 := OY6.below hb7 (Nat.le_refl _)
     have hb27 := hb26.out.trans (hb7.mono z26)
     have z27 := hb27.size
     replace B3 := B3.below hb7 B3.lt
     replace B4 := B4.below hb7 B4.lt
     replace B8 := B8.below hb7 B8.lt
     replace B9 := B9.below hb7 B9.lt
     clear LR OX6 OY6 hb26
     have gx := Lib.hid (fun g hg => (own_block_lt OX7 g hg).2)
     have gy := Lib.hid (fun g hg => (own_block_lt OY7 g hg).2)
     have OM0 := Lib.hid OM
     have lb := Lib.hid (show b3 < w7.heap.size ∧ b3 + 1 < w7.heap.size ∧ b8 < w7.heap.size ∧ b9 < w7.heap.size from ⟨B3.lt, B4.lt, B8.lt, B9.lt⟩)
     obtain ⟨E, hEe⟩ : ∃ E, runsE wa ha xs wb hb ys = E := ⟨_, rfl⟩
     obtain ⟨L, hLe⟩ : ∃ L, runsL wa ha xs wb hb ys = L := ⟨_, rfl⟩
     have CR := cruns_any wa ha xs (.slice sx n0 cx) wb hb ys (.slice sy n1 cy) w7 h1 h2 h3 h4 (OX7.row (Nat.le_refl _)) (OY7.row (Nat.le_refl _))
     rw [hEe, hLe] at CR
     replace CR := Lib.hid CR
     replace hEe := Lib.hid hEe
     replace hLe := Lib.hid hLe
     replace OX7 := Lib.hid OX7
     replace OY7 := Lib.hid OY7
     replace OM := Lib.hid OM
     replace hb27 := Lib.hid hb27
     have k0a := B8.cell (o := 0) rfl
     have k1a := B8.cell (o := 1) rfl
     have k2a := B8.cell (o := 2) rfl
     have ya := B8.lt
     have k0b := B9.cell (o := 0) rfl
     have k1b := B9.cell (o := 1) rfl
     have k2b := B9.cell (o := 2) rfl
     have yb := B9.lt
     go_upto_region 10 with (go_at_call 28; (with_reducible refine CR.out.mono ?_); rintro e w8 ⟨hb8, vp, rfl, OP⟩)
     clear k0a k1a k2a ya
     clear k0b k1b k2b yb
     have OP0 := Lib.hid OP
     have f78 := hb8
     have hb27s := Lib.hid hb27.out.size
     replace B3 := B3.below hb8 B3.lt
     replace B4 := B4.below hb8 B4.lt
     replace B8 := B8.below hb8 B8.lt
     replace B9 := B9.below hb8 B9.lt
     have hb28 := hb27.out.trans (hb8.mono z27)
     have z28 := hb28.size
     have OX8 := Lib.hid (OX7.out.below hb8 (Nat.le_refl _))
     have OY8 := Lib.hid (OY7.out.below hb8 (Nat.le_refl _))
     have OM8 := Lib.hid (OM.out.below hb8 (Nat.le_refl _))
     clear CR OX7 OY7 OM hb27
     as_aux_lemma =>
      have CQ := crruns_any wa ha xs (.slice s0 n0 cap0) wb hb ys (.slice s1 n1 cap1) w8 h1 h2 h3 h4 ((RA.out.below hb28).mono z28) ((RB.out.below hb28).mono z28)
      rw [hEe.out, hLe.out] at CQ
      replace CQ := Lib.hid CQ
      replace OP := Lib.hid OP
      replace hb28 := Lib.hid hb28
      have k0a := B3.cell (o := 0) rfl
      have k1a := B3.cell (o := 1) rfl
      have k2a := B3.cell (o := 2) rfl
      have ya := B3.lt
      have k0b := B4.cell (o := 0) rfl
      have k1b := B4.cell (o := 1) rfl
      have k2b := B4.cell (o := 2) rfl
      have yb := B4.lt
      go_upto_region 11 with (go_at_call 29; (with_reducible refine CQ.out.mono ?_); rintro e w9 ⟨hb9, vb, rfl, OB⟩)
      clear k0a k1a k2a ya
      clear k0b k1b k2b yb
      have OB0 := Lib.hid OB
      have f89 := hb9
      replace B3 := B3.below hb9 B3.lt
      replace B4 := B4.below hb9 B4.lt
      replace B8 := B8.below hb9 B8.lt
      replace B9 := B9.below hb9 B9.lt
      have hb29 := hb28.out.trans (hb9.mono z28)
      have z29 := hb29.size
      have OX9 := OX8.out.below hb9 (Nat.le_refl _)
      have OY9 := Lib.hid (OY8.out.below hb9 (Nat.le_refl _))
      have OM9 := OM8.out.below hb9 (Nat.le_refl _)
      have OP9 := Lib.hid (OP.out.below hb9 (Nat.le_refl _))
      clear CQ OX8 OY8 OM8 hb28
      obtain ⟨PE, hPE⟩ : ∃ E, putE wa ha xs l = E := ⟨_, rfl⟩
      obtain ⟨Z1, hZ1⟩ : ∃ Z, putZ wa wa ha xs l = Z := ⟨_, rfl⟩
      obtain ⟨Z2, hZ2⟩ : ∃ Z, putZ ha wa ha xs l = Z := ⟨_, rfl⟩
      obtain ⟨PC, hPC⟩ : ∃ C, putC wa ha xs l = C := ⟨_, rfl⟩
      have PQ := cput_any wa ha xs (.slice sx n0 cx) l vm w9 h1 h2 (OX9.row (Nat.le_refl _)) (OM9.at (Nat.le_refl _)) hwf.out
      rw [hPE, hZ1, hZ2, hPC] at PQ
      obtain ⟨NQ, hNQ⟩ : ∃ n, PC.length = n := ⟨_, rfl⟩
      replace PQ := Lib.hid PQ
      replace hPE := Lib.hid hPE
      replace hZ1 := Lib.hid hZ1
      replace hZ2 := Lib.hid hZ2
      replace hPC := Lib.hid hPC
      replace hNQ := Lib.hid hNQ
      replace OX9 := Lib.hid OX9
      replace OM9 := Lib.hid OM9
      replace OB := Lib.hid OB
      replace hb29 := Lib.hid hb29
      have k0a := B8.cell (o := 0) rfl
      have k1a := B8.cell (o := 1) rfl
      have k2a := B8.cell (o := 2) rfl
      have ya := B8.lt
      go_upto_region 12 with (go_at_call 30; (with_reducible refine PQ.out.mono ?_); rintro e w10 ⟨hb10', vq, rfl, OQ⟩; obtain ⟨sq, cq, hvq⟩ := own_slice OQ; rw [hNQ.out] at hvq; subst hvq)
      obtain ⟨W11, hW11⟩ : ∃ W, w10.alloc (.cells #[.int .i64 Z1, .int .i64 Z2, .slice sq NQ cq] 26) = W := ⟨_, rfl⟩
      obtain ⟨b15, hb15⟩ : ∃ b, w10.heap.size = b := ⟨_, rfl⟩
      have B15 : Blk W11 b15 [.int .i64 Z1, .int .i64 Z2, .slice sq NQ cq] 26 := by rw [← hW11]; exact Blk.new' hb15.symm
      have hb11 : Below w9.heap.size w9 W11 := by rw [← hW11]; exact hb10'.alloc hb10'.size _
      have OQ11 : OwnsC w9.heap.size W11 (.slice sq NQ cq) PC := by rw [← hW11]; exact OQ.alloc _
      rw [hW11, hb15]
      have lb15 : w9.heap.size ≤ b15 := by rw [← hb15]; exact hb10'.size
      clear hW11 hb15 OQ hb10'
      clear k0a k1a k2a ya
      have f911 := hb11
      have gq := Lib.hid (own_block_lt OQ11)
      replace B3 := B3.below hb11 B3.lt
      replace B4 := B4.below hb11 B4.lt
      replace B8 := B8.below hb11 B8.lt
      replace B9 := B9.below hb11 B9.lt
      have z11 := hb11.size
      have hb211 := hb29.out.trans (hb11.mono z29)
      have z211 := hb211.size
      have OX11 := Lib.hid (OX9.out.below hb11 (Nat.le_refl _))
      have OY11 := Lib.hid (OY9.out.below hb11 (Nat.le_refl _))
      have OM11 := Lib.hid (OM9.out.below hb11 (Nat.le_refl _))
      have OP11 := Lib.hid (OP9.out.below hb11 (Nat.le_refl _))
      have OB11 := Lib.hid (OB.out.below hb11 (Nat.le_refl _))
      clear PQ OX9 OY9 OM9 OP9 OB hb29
      as_aux_lemma =>
       have PT := crput_any wa ha xs (.slice s0 n0 cap0) l (.slice s2 n2 cap2) W11 h1 h2 ((RA.out.below hb211).mono z211) ((RL.out.below hb211).mono z211) hwf.out (Nat.le_trans hs0.out (by decide))
       rw [hPE.out, hZ1.out, hZ2.out, hPC.out] at PT
       replace PT := Lib.hid PT
       replace OQ11 := Lib.hid OQ11
       replace hb211 := Lib.hid hb211
       have k0a := B3.cell (o := 0) rfl
       have k1a := B3.cell (o := 1) rfl
       have k2a := B3.cell (o := 2) rfl
       have ya := B3.lt
       go_upto_region 13 with (go_at_call 31; (with_reducible refine PT.out.mono ?_); rintro e w12 ⟨hb12', vt, rfl, OT⟩; obtain ⟨st, ct, hvt⟩ := own_slice OT; rw [hNQ.out] at hvt; subst hvt)
       obtain ⟨W13, hW13⟩ : ∃ W, w12.alloc (.cells #[.int .i64 Z1, .int .i64 Z2, .slice st NQ ct] 26) = W := ⟨_, rfl⟩
       obtain ⟨b17, hb17⟩ : ∃ b, w12.heap.size = b := ⟨_, rfl⟩
       have B17 : Blk W13 b17 [.int .i64 Z1, .int .i64 Z2, .slice st NQ ct] 26 := by rw [← hW13]; exact Blk.new' hb17.symm
       have hb13 : Below W11.heap.size W11 W13 := by rw [← hW13]; exact hb12'.alloc hb12'.size _
       have OT13 : OwnsC W11.heap.size W13 (.slice st NQ ct) PC := by rw [← hW13]; exact OT.alloc _
       rw [hW13, hb17]
       have lb17 : W11.heap.size ≤ b17 := by rw [← hb17]; exact hb12'.size
       clear hW13 hb17 OT hb12'
       clear k0a k1a k2a ya
       have f1113 := hb13
       replace B3 := B3.below hb13 B3.lt
       replace B4 := B4.below hb13 B4.lt
       replace B8 := B8.below hb13 B8.lt
       replace B9 := B9.below hb13 B9.lt
       replace B15 := B15.below hb13 B15.lt
       have z13 := hb13.size
       have hb213 := hb211.out.trans (hb13.mono z211)
       have z213 := hb213.size
       have OX13 := Lib.hid (OX11.out.below hb13 (Nat.le_refl _))
       have OY13 := Lib.hid (OY11.out.below hb13 (Nat.le_refl _))
       have OM13 := OM11.out.below hb13 (Nat.le_refl _)
       have OP13 := Lib.hid (OP11.out.below hb13 (Nat.le_refl _))
       have OB13 := Lib.hid (OB11.out.below hb13 (Nat.le_refl _))
       have OQ13 := Lib.hid (OQ11.out.below hb13 (Nat.le_refl _))
       clear PT OX11 OY11 OM11 OP11 OB11 OQ11 hb211
       obtain ⟨TX, hTX⟩ : ∃ T, escT l = T := ⟨_, rfl⟩
       obtain ⟨TE, hTE⟩ : ∃ T, escE l = T := ⟨_, rfl⟩
       have ES := cescapes_any l vm W13 (OM13.at (Nat.le_refl _)) hwf.out (hDW.out.below hb213 (Nat.le_refl _))
       rw [hTX, hTE] at ES
       replace ES := Lib.hid ES
       replace hTX := Lib.hid hTX
       replace hTE := Lib.hid hTE
       replace OT13 := Lib.hid OT13
       replace OM13 := Lib.hid OM13
       replace hb213 := Lib.hid hb213
       go_upto_region 14 with (go_at_call 32; (with_reducible refine ES.out.mono ?_); rintro e w14 ⟨rfl, hb14⟩)
       have hb214 := hb213.out.trans (hb14.mono z213)
       have z214 := hb214.size
       have z14 := hb14.size
       have ER := crescapes_any l (.slice s2 n2 cap2) w14 ((RL.out.below hb214).mono z214) hwf.out (hDW.out.below hb214 (Nat.le_refl _))
       rw [hTX.out, hTE.out] at ER
       replace ER := Lib.hid ER
       replace hb214 := Lib.hid hb214
       go_upto_region 15 with (go_at_call 33; (with_reducible refine ER.out.mono ?_); rintro e w15 ⟨rfl, hb15⟩)
       have hb135 := hb14.trans (hb15.mono z14)
       have hb215 := hb214.out.trans (hb15.mono z214)
       have z215 := hb215.size
       have z135 := hb135.size
       clear ES ER hb14 hb15 hb214 hb213
       replace B3 := B3.below hb135 B3.lt
       replace B4 := B4.below hb135 B4.lt
       replace B8 := B8.below hb135 B8.lt
       replace B9 := B9.below hb135 B9.lt
       replace B15 := B15.below hb135 B15.lt
       replace B17 := B17.below hb135 B17.lt
       have OX15 := Lib.hid (OX13.out.below hb135 (Nat.le_refl _))
       have OY15 := Lib.hid (OY13.out.below hb135 (Nat.le_refl _))
       have OM15 := Lib.hid (OM13.out.below hb135 (Nat.le_refl _))
       have OP15 := OP13.out.below hb135 (Nat.le_refl _)
       have OB15 := OB13.out.below hb135 (Nat.le_refl _)
       have OQ15 := OQ13.out.below hb135 (Nat.le_refl _)
       have OT15 := OT13.out.below hb135 (Nat.le_refl _)
       clear OX13 OY13 OM13 OP13 OB13 OQ13 OT13
       as_aux_lemma =>
        have SR1 := Lib.hid (samr_any L vp vb w15 (OP15.at (Nat.le_refl _)) (OB15.at (Nat.le_refl _)))
        have SMQ := fun u (hu : Below w15.heap.size w15 u) => (show Calls Tryz.prog 14 #[.agg #[.int .i64 (Z1), .int .i64 (Z2), .slice sq NQ cq], .agg #[.int .i64 (Z1), .int .i64 (Z2), .slice st NQ ct]] u _ from csame_any Z1 Z2 Z1 Z2 PC PC (.slice sq NQ cq) (.slice st NQ ct) u ((OQ15.below hu (Nat.le_refl _)).row (Nat.le_refl _)) ((OT15.below hu (Nat.le_refl _)).row (Nat.le_refl _)))
        rw [samS_iff.2 ⟨rfl, rfl, rfl⟩] at SMQ
        replace SMQ := Lib.hid SMQ
        replace OP15 := Lib.hid OP15
        replace OB15 := Lib.hid OB15
        replace OQ15 := Lib.hid OQ15
        clear OT15
        have k0a := B15.cell (o := 0) rfl
        have k1a := B15.cell (o := 1) rfl
        have k2a := B15.cell (o := 2) rfl
        have ya := B15.lt
        have k0b := B17.cell (o := 0) rfl
        have k1b := B17.cell (o := 1) rfl
        have k2b := B17.cell (o := 2) rfl
        have yb := B17.lt
        go_upto_region 16 with (first
         | (go_at_call 34; (with_reducible refine SR1.out.mono ?_); rintro e w16 ⟨rfl, hb16⟩; obtain ⟨hc16, hf16⟩ := bcell hb16)
         | (go_at_call 14; (with_reducible refine (SMQ.out _ hb16).mono ?_); rintro e w17 ⟨rfl, hb17⟩))
        clear k0a k1a k2a ya
        clear k0b k1b k2b yb
        clear SR1 SMQ hc16 hf16
        have hb157 := hb16.trans (hb17.mono hb16.size)
        obtain ⟨W17, rfl⟩ : ∃ W, W = w17 := ⟨_, rfl⟩
        have f1117 := f1113.trans ((hb135.trans (hb157.mono hb135.size)).mono f1113.size)
        have f917 := f911.trans (f1117.mono f911.size)
        have f817 := f89.trans (f917.mono f89.size)
        have f717 := f78.trans (f817.mono f78.size)
        have t78 := f78.size
        have t89 := f89.size
        have t911 := f911.size
        have t1117 := f1117.size
        have hb217 := hb215.trans (hb157.mono z215)
        have z217 := hb217.size
        have z157 := hb157.size
        replace B3 := B3.below hb157 B3.lt
        replace B4 := B4.below hb157 B4.lt
        replace B8 := B8.below hb157 B8.lt
        replace B9 := B9.below hb157 B9.lt
        replace B15 := B15.below hb157 B15.lt
        have OX17 := Lib.hid (OX15.out.below hb157 (Nat.le_refl _))
        have OY17 := Lib.hid (OY15.out.below hb157 (Nat.le_refl _))
        have OQ17 := Lib.hid (OQ15.out.below hb157 (Nat.le_refl _))
        obtain ⟨vs, hvl, hrw, hj, hdd⟩ := OP0.out
        obtain ⟨sp, cp, rfl⟩ := own_slice hrw
        have hvb := Lib.hid (fun (j : Nat) u r (h1 : vs[j]? = some u) (h2 : L[j]? = some r) => own_block_lt (hj j u r h1 h2))
        have hrp := own_block_lt hrw
        have hrw17 := Lib.hid (ownsRow_below hrw f817 (Nat.le_refl _))
        have hj17 := Lib.hid (fun (j : Nat) u r (_ : 0 ≤ j) (h1 : vs[j]? = some u) (h2 : L[j]? = some r) => (hj j u r h1 h2).below f817 (Nat.le_refl _))
        have hLl := Lib.hid (fun r (hr : r ∈ L) => (show r.cells.length ≤ 1000000 from Nat.le_trans (by rw [← hLe.out] at hr; exact runsL_len r hr) (Nat.le_trans hs1.out (by decide))))
        replace hvl := Lib.hid hvl
        replace hdd := Lib.hid hdd
        replace hrp := Lib.hid hrp
        clear hrw hj OP15 OB15 OQ15 OX15 OY15 OM15 hb16 hb17 hb135 hb215 f1113 f911 f89 f78 f1117 OP0
        as_aux_lemma =>
         obtain ⟨X, hX⟩ : ∃ X : Nat → Prop, X = fun q => w7.heap.size ≤ q ∧ q < w8.heap.size := ⟨_, rfl⟩
         obtain ⟨K, hK⟩ : ∃ K, L.length = K := ⟨_, rfl⟩
         rw [hK] at hrw17 ⊢
         replace hX := Lib.hid hX
         replace hK := Lib.hid hK
         go_upto_region 17 with fail
         go_loopw [24] (fun kv wr => ∃ k : Nat, k ≤ K ∧ kv = .int .i64 k ∧ Hid (KeptBut X W17 wr) ∧ Hid (wr.ownsRow w7.heap.size 67 3 (.slice sp K cp) K ((L.zip vs).flatMap encRn)) ∧ Hid (∀ (j : Nat) u r, k ≤ j → vs[j]? = some u → L[j]? = some r → OwnsC w7.heap.size wr u r.cells)) (fun kv _ => K - (intOf kv).toNat)
         case atStart => exact ⟨0, Nat.zero_le _, rfl, Lib.hid (KeptBut.refl _ _), hrw17, hj17⟩
         case round =>
          clear hrw17 hj17
          obtain ⟨k, hk, rfl, hkb, hrw, hj⟩ := hrel
          obtain ⟨W18, rfl⟩ : ∃ W, W = wr := ⟨_, rfl⟩
          by_cases hkK : k < K
          ·have hki : (k : Int) < K := by omega
           obtain ⟨r, hr⟩ := get_at hK.out hkK
           obtain ⟨u, hu⟩ := get_at (l := vs) rfl (show k < vs.length by rw [hvl.out, hK.out]; exact hkK)
           obtain ⟨gp, hsp, hgp, hkc, hcm⟩ := own_some hrw.out (by omega)
           subst hsp
           unfold maxLen at hcm
           have hrw2 := hrw.out
           have OU := hj.out k u r (Nat.le_refl _) hu hr
           have q2 := hrw2.cellAt (k * 3 + 2) (by omega)
           have hz : (L.zip vs)[k]? = some (r, u) := by rw [List.getElem?_zip_eq_some]; exact ⟨hr, hu⟩
           rw [flat_get encRn_len (by decide) (L.zip vs) (k * 3 + 2), show (k * 3 + 2) / 3 = k by omega, show (k * 3 + 2) % 3 = 2 by omega, hz] at q2
           obtain ⟨su, cu, rfl⟩ := own_slice OU
           have q2' : W18.cell? ⟨gp, k * 3 + 2, none⟩ = some (.slice su r.cells.length cu) := q2
           have SP := spoilC_any w7.heap.size r.cells _ W18 OU (hLl.out r (List.mem_of_getElem? hr))
           have SPh := Lib.hid SP
           have yg : gp < W18.heap.size := (own_block_lt hrw2 gp rfl).2
           have K1 := Lib.hid (fun w19 (hg : W18.grownBy w19 (Value.slice su r.cells.length cu).ownBlock) => hkb.out.grow hg (fun g hg2 => by rw [hX.out]; exact hvb.out k _ r hu hr g hg2))
           have K2 := Lib.hid (fun w19 (hg : W18.grownBy w19 (Value.slice su r.cells.length cu).ownBlock) => own_keep hrw2 hg (fun g hg2 => own_apart hrw2 OU (by decide) g hg2))
           have K3 := Lib.hid (fun w19 (hg : W18.grownBy w19 (Value.slice su r.cells.length cu).ownBlock) => (show ∀ (j : Nat) u r, k + 1 ≤ j → vs[j]? = some u → L[j]? = some r → OwnsC w7.heap.size w19 u r.cells from fun j u' r' h0 h1 h2 => own_keep (hj.out j u' r' (by omega) h1 h2) hg (fun g hg2 e => hdd.out k j _ u' (by omega) hu h1 g e hg2)))
           clear SP q2 hz OU hrw hj hkb hr hu hrw2
           go_wp2_with (go_at_call 17; (with_reducible refine SPh.out.mono ?_); rintro e w19 ⟨rfl, hg19⟩)
           exact ⟨⟨k + 1, by omega, by go_num, Lib.hid (K1.out w19 hg19), Lib.hid (K2.out w19 hg19), Lib.hid (K3.out w19 hg19)⟩, by simp [intOf]; omega⟩
          ·obtain rfl : K = k := by omega
           have hki : ¬ (K : Int) < K := by omega
           obtain ⟨m3, m4, m8, m9⟩ := lb.out
           have hk1 := hkb.out
           have nX : ∀ q, q < w7.heap.size → ¬ X q := fun q h1 h2 => absurd (show w7.heap.size ≤ q ∧ q < w8.heap.size by (rw [hX.out] at h2; exact h2)) (by omega)
           have nY : ∀ q, w8.heap.size ≤ q → ¬ X q := fun q h1 h2 => absurd (show w7.heap.size ≤ q ∧ q < w8.heap.size by (rw [hX.out] at h2; exact h2)) (by omega)
           have B15x := B15.but hk1 (nY b15 (by omega))
           have OQ18 := own_kept3 OQ17.out hk1 (fun g hg => nY g (by have := (gq.out g hg).1; omega))
           have SP := Lib.hid (spoilC_any w9.heap.size PC (.slice sq NQ cq) W18 OQ18 (Nat.le_trans (by rw [← hPC.out]; exact putC_len) (Nat.le_trans hs0.out (by decide))))
           clear hrw hj OQ18
           have k0a := B15x.cell (o := 0) rfl
           have k1a := B15x.cell (o := 1) rfl
           have k2a := B15x.cell (o := 2) rfl
           have ya := B15x.lt
           go_upto_region 21 with (go_at_call 17; (with_reducible refine SP.out.mono ?_); rintro e w20 ⟨rfl, hg20⟩)
           clear k0a k1a k2a ya
           obtain ⟨X2, hX2⟩ : ∃ X2 : Nat → Prop, X2 = fun q => X q ∨ (Value.slice sq NQ cq).ownBlock = some q := ⟨_, rfl⟩
           have hk2 : KeptBut X2 W17 w20 := (hk1.wider (fun q h => by rw [hX2]; exact .inl h)).grow hg20 (fun g hg => by rw [hX2]; exact .inr hg)
           have n2 : ∀ q, q < w7.heap.size → ¬ X2 q := fun q h1 h2 => by
            rw [hX2] at h2
            rcases h2 with h2 | h2
            ·exact nX q h1 h2
            ·have := (gq.out q h2).1; omega
           have n3 : ∀ q, w8.heap.size ≤ q → q < w9.heap.size → ¬ X2 q := fun q h1 h3 h2 => by
            rw [hX2] at h2
            rcases h2 with h2 | h2
            ·exact nY q h1 h2
            ·have := (gq.out q h2).1; omega
           clear SP hg20 hk1 hkb B15x
           have B3x := B3.but hk2 (n2 _ m3)
           have B4x := B4.but hk2 (n2 _ m4)
           have B8x := B8.but hk2 (n2 _ m8)
           have B9x := B9.but hk2 (n2 _ m9)
           have OX20 : OwnsC W2.heap.size w20 (.slice sx n0 cx) xs := own_kept3 OX17.out hk2 (fun g hg => n2 g (gx.out g hg))
           have OY20 : OwnsC W4.heap.size w20 (.slice sy n1 cy) ys := own_kept3 OY17.out hk2 (fun g hg => n2 g (gy.out g hg))
           have OM20 := RunRows.but OM0.out f717 hk2 (fun q _ h => n2 q h)
           have OB20 := RunRows.but OB0.out f917 hk2 n3
           have hb220 : Below W2.heap.size W2 w20 := KeptBut.toBelow hb217 hk2 z217 (fun q h => n2 q (by have := hb27s.out; omega))
           have z220 := hb220.size
           clear B3 B4 B8 B9 B15 OX17 OY17 OQ17 OM0 OB0 hk2 n2 n3 nX nY hb217
           as_aux_lemma =>
            have CR2 := cruns_any wa ha xs (.slice sx n0 cx) wb hb ys (.slice sy n1 cy) w20 h1 h2 h3 h4 (OX20.row (Nat.le_refl _)) (OY20.row (Nat.le_refl _))
            rw [hEe.out, hLe.out] at CR2
            replace CR2 := Lib.hid CR2
            replace OX20 := Lib.hid OX20
            replace OY20 := Lib.hid OY20
            replace OM20 := Lib.hid OM20
            replace OB20 := Lib.hid OB20
            replace hb220 := Lib.hid hb220
            have k0a := B8x.cell (o := 0) rfl
            have k1a := B8x.cell (o := 1) rfl
            have k2a := B8x.cell (o := 2) rfl
            have ya := B8x.lt
            have k0b := B9x.cell (o := 0) rfl
            have k1b := B9x.cell (o := 1) rfl
            have k2b := B9x.cell (o := 2) rfl
            have yb := B9x.lt
            go_upto_region 22 with (go_at_call 28; (with_reducible refine CR2.out.mono ?_); rintro e w21 ⟨hb21, vg, rfl, OA⟩)
            clear k0a k1a k2a ya
            clear k0b k1b k2b yb
            have SAx := fun u (hu : Below w21.heap.size w21 u) => (show Calls Tryz.prog 14 #[.agg #[.int .i64 (wa), .int .i64 (ha), .slice sx n0 cx], .agg #[.int .i64 (wa), .int .i64 (ha), .slice s0 n0 cap0]] u _ from csame_any wa ha wa ha xs xs (.slice sx n0 cx) (.slice s0 n0 cap0) u (((OX20.out.below hb21 (Nat.le_refl _)).below hu (Nat.le_refl _)).row (Nat.le_refl _)) (((RA.out.below (hb220.out.trans (hb21.mono z220))).below (hu.mono (Nat.le_trans z220 hb21.size))).mono (Nat.le_trans (Nat.le_trans z220 hb21.size) hu.size)))
            have SAy := fun u (hu : Below w21.heap.size w21 u) => (show Calls Tryz.prog 14 #[.agg #[.int .i64 (wb), .int .i64 (hb), .slice sy n1 cy], .agg #[.int .i64 (wb), .int .i64 (hb), .slice s1 n1 cap1]] u _ from csame_any wb hb wb hb ys ys (.slice sy n1 cy) (.slice s1 n1 cap1) u (((OY20.out.below hb21 (Nat.le_refl _)).below hu (Nat.le_refl _)).row (Nat.le_refl _)) (((RB.out.below (hb220.out.trans (hb21.mono z220))).below (hu.mono (Nat.le_trans z220 hb21.size))).mono (Nat.le_trans (Nat.le_trans z220 hb21.size) hu.size)))
            rw [samS_iff.2 ⟨rfl, rfl, rfl⟩] at SAx SAy
            have SRm := fun u (hu : Below w21.heap.size w21 u) => samr_any l vm (.slice s2 n2 cap2) u (((OM20.out.below hb21 (Nat.le_refl _)).below hu (Nat.le_refl _)).at (Nat.le_refl _)) (((RL.out.below (hb220.out.trans (hb21.mono z220))).below (hu.mono (Nat.le_trans z220 hb21.size))).mono (Nat.le_trans (Nat.le_trans z220 hb21.size) hu.size))
            have SRg := fun u (hu : Below w21.heap.size w21 u) => samr_any L vg vb u ((OA.below hu (Nat.le_refl _)).at (Nat.le_refl _)) (((OB20.out.below hb21 (Nat.le_refl _)).below hu (Nat.le_refl _)).at (Nat.le_refl _))
            replace SAx := Lib.hid SAx
            replace SAy := Lib.hid SAy
            replace SRm := Lib.hid SRm
            replace SRg := Lib.hid SRg
            replace B3x := B3x.below hb21 B3x.lt
            replace B4x := B4x.below hb21 B4x.lt
            replace B8x := B8x.below hb21 B8x.lt
            replace B9x := B9x.below hb21 B9x.lt
            have hb221 := Lib.hid (hb02.out.trans ((hb220.out.trans (hb21.mono z220)).mono hb02.out.size))
            clear OA OX20 OY20 OM20 OB20 hb220 hb21 CR2 gx gy gq lb
            have k0a := B3x.cell (o := 0) rfl
            have k1a := B3x.cell (o := 1) rfl
            have k2a := B3x.cell (o := 2) rfl
            have ya := B3x.lt
            have k0b := B4x.cell (o := 0) rfl
            have k1b := B4x.cell (o := 1) rfl
            have k2b := B4x.cell (o := 2) rfl
            have yb := B4x.lt
            have k0c := B8x.cell (o := 0) rfl
            have k1c := B8x.cell (o := 1) rfl
            have k2c := B8x.cell (o := 2) rfl
            have yc := B8x.lt
            have k0d := B9x.cell (o := 0) rfl
            have k1d := B9x.cell (o := 1) rfl
            have k2d := B9x.cell (o := 2) rfl
            have yd := B9x.lt
            go_wp2_with (first
             | (go_at_call 14; (with_reducible refine (SAx.out _ (Below.refl _ _)).mono ?_); rintro e w22 ⟨rfl, hb22⟩; obtain ⟨hc22, hf22⟩ := bcell hb22)
             | (go_at_call 14; (with_reducible refine (SAy.out _ hb22).mono ?_); rintro e w23 ⟨rfl, hb23⟩; replace hb23 := hb22.trans (hb23.mono hb22.size))
             | (go_at_call 34; (with_reducible refine (SRm.out _ hb23).mono ?_); rintro e w24 ⟨rfl, hb24⟩; replace hb24 := hb23.trans (hb24.mono hb23.size))
             | (go_at_call 34; (with_reducible refine (SRg.out _ hb24).mono ?_); rintro e w25 ⟨rfl, hb25⟩; replace hb25 := hb24.trans (hb25.mono hb24.size)))
            go_ret
            exact ⟨rfl, hb221.out.trans (hb25.mono hb221.out.size)⟩
end Go.Proofs.YtffmomgmkpmpkaaGreatDoor
