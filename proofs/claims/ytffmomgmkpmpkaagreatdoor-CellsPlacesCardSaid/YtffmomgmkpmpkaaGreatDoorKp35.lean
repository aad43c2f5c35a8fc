/-
  The walk of the law CellsPlaces.
-/
import Derived.Test.YtffmomgmkpmpkaaGreatDoorProg
import Derived.Test.YtffmomgmkpmpkaaGreatDoorKp30
import Derived.Test.YtffmomgmkpmpkaaGreatDoorKp33
import Derived.Test.YtffmomgmkpmpkaaGreatDoorKp34
namespace Go.Proofs.YtffmomgmkpmpkaaGreatDoor
open Go.RowKit
set_option linter.unusedVariables false
attribute [local go_sem] vwp vUpon_value vUpon_skip vUpon_enter vUpon_row
set_option linter.unusedSimpArgs false
set_option linter.unusedVariables false
theorem neq_cell_self (w : World) (c : Ce) : (binOp .neq 52 (.agg #[.int .i32 (c).rune, .int .u8 (c).col.r, .int .u8 (c).col.g, .int .u8 (c).col.b, .int .u8 (c).col.a, .int .u8 (c).back.r, .int .u8 (c).back.g, .int .u8 (c).back.b, .int .u8 (c).back.a, .bool (c).wide, .bool (c).tail]) (.agg #[.int .i32 (c).rune, .int .u8 (c).col.r, .int .u8 (c).col.g, .int .u8 (c).col.b, .int .u8 (c).col.a, .int .u8 (c).back.r, .int .u8 (c).back.g, .int .u8 (c).back.b, .int .u8 (c).back.a, .bool (c).wide, .bool (c).tail])).run Tryz.prog w = .ok (.bool false) w := by
  rw [run_neq_struct]
  have h := eq_cell 9997 w c c
  rw [Ce.eqb_iff.2 rfl] at h
  rw [h]
  rfl
attribute [local go_sem high] neq_cell_self
set_option maxHeartbeats 16000000 in
set_option maxRecDepth 100000 in
theorem walk_CellsPlaces (wd ht : Int) (cs : List Ce) (v : Value) (xs : List St) (vx : Value) (qs : List Re) (vq : Value) (w : World) (h1 : I64 wd) (h2 : I64 ht) (hl : Row w.heap.size 11 Ce.enc w v cs) (hc : CeL cs) (hx : Row w.heap.size 15 St.enc w vx xs) (k1 : ∀ s ∈ xs, s.Wf) (hq : Row w.heap.size 4 Re.enc w vq qs) (kq : WfL qs) (hD : DigT w) (hE : DecT w) :
  Calls Tryz.prog 7 #[.agg #[.int .i64 (wd), .int .i64 (ht), v], vx, vq] w fun e w' => e = .returned (.bool true) ∧ Below w.heap.size w w' := by
 obtain ⟨s0, cap0, rfl, hmax0⟩ := hl.shape
 obtain ⟨s1, cap1, rfl, hmax1⟩ := hx.shape
 obtain ⟨s2, cap2, rfl, hmax2⟩ := hq.shape
 obtain ⟨n0, en0⟩ : ∃ n, cs.length = n := ⟨_, rfl⟩
 obtain ⟨n1, en1⟩ : ∃ n, xs.length = n := ⟨_, rfl⟩
 obtain ⟨n2, en2⟩ : ∃ n, qs.length = n := ⟨_, rfl⟩
 have hl0 := hl
 have hx0 := hx
 have hq0 := hq
 rw [en0] at hl0 hmax0 ⊢
 rw [en1] at hx0 hmax1 ⊢
 rw [en2] at hq0 hmax2 ⊢
 clear hl hx hq
 unfold maxLen at hmax0 hmax1 hmax2
 replace hl0 := Lib.hid hl0
 replace hx0 := Lib.hid hx0
 replace hq0 := Lib.hid hq0
 replace hD := Lib.hid hD
 replace hE := Lib.hid hE
 replace hc := Lib.hid hc
 replace k1 := Lib.hid k1
 replace kq := Lib.hid kq
 replace en0 := Lib.hid en0
 replace en1 := Lib.hid en1
 replace en2 := Lib.hid en2
 go_enter Tryz.func7, Tryz.ntmps7
 go_upto_region 1 with fail
 obtain ⟨W0, hW0⟩ : ∃ W0, w.alloc (.cells #[.int .i64 wd, .int .i64 ht, .slice s0 n0 cap0] 26) = W0 := ⟨_, rfl⟩
 obtain ⟨b3, hb3⟩ : ∃ b, w.heap.size = b := ⟨_, rfl⟩
 have B3 : Blk W0 b3 [.int .i64 wd, .int .i64 ht, .slice s0 n0 cap0] 26 := by rw [← hW0]; exact Blk.new' hb3.symm
 have hb0 : Below w.heap.size w W0 := by rw [← hW0]; exact belt
 rw [hW0, hb3]
 clear hW0
 replace hb3 := Lib.hid hb3
 have AW := Lib.hid (awake_any W0 (hD.out.below hb0 (Nat.le_refl _)) (hE.out.below hb0 (Nat.le_refl _)))
 replace hb0 := Lib.hid hb0
 go_upto_region 4 with (go_at_call 8; (with_reducible refine AW.out.mono ?_); rintro e w1 ⟨rfl, hb1⟩)
 replace B3 := B3.below hb1 B3.lt
 have hb01 := hb0.out.trans (hb1.mono hb0.out.size)
 clear AW hb0 hb1
 have LG := large_any wd ht cs (.slice s0 n0 cap0) w1 ((hl0.out.below hb01).mono hb01.size)
 rw [en0.out] at LG
 replace LG := Lib.hid LG
 replace hb01 := Lib.hid hb01
 have k0a := B3.cell (o := 0) rfl
 have k1a := B3.cell (o := 1) rfl
 have k2a := B3.cell (o := 2) rfl
 have ya := B3.lt
 by_cases g0 : 600 < n0
 ·have g0i : decide (600 < n0) = true := decide_eq_true g0
  go_wp2_with (go_at_call 9; (with_reducible refine LG.out.mono ?_); rintro e w2 ⟨rfl, hb2'⟩)
  go_ret
  exact ⟨rfl, hb01.out.trans (hb2'.mono hb01.out.size)⟩
 ·have g0i : decide (600 < n0) = false := decide_eq_false g0
  by_cases g1 : 60 < n1
  ·have g1i : (60 : Int) < n1 := by omega
   go_wp2_with (go_at_call 9; (with_reducible refine LG.out.mono ?_); rintro e w2 ⟨rfl, hb2'⟩)
   go_ret
   exact ⟨rfl, hb01.out.trans (hb2'.mono hb01.out.size)⟩
  ·have g1i : ¬ (60 : Int) < n1 := by omega
   by_cases g2 : 20 < n2
   ·have g2i : (20 : Int) < n2 := by omega
    go_wp2_with (go_at_call 9; (with_reducible refine LG.out.mono ?_); rintro e w2 ⟨rfl, hb2'⟩)
    go_ret
    exact ⟨rfl, hb01.out.trans (hb2'.mono hb01.out.size)⟩
   ·have g2i : ¬ (20 : Int) < n2 := by omega
    go_upto_region 6 with (go_at_call 9; (with_reducible refine LG.out.mono ?_); rintro e w2 ⟨rfl, hb2'⟩)
    replace B3 := B3.below hb2' B3.lt
    have hb02 := hb01.out.trans (hb2'.mono hb01.out.size)
    clear LG hb01 hb2'
    clear k0a k1a k2a ya
    have RV := (hl0.out.below hb02).mono hb02.size
    have RX := (hx0.out.below hb02).mono hb02.size
    have RQ := (hq0.out.below hb02).mono hb02.size
    obtain ⟨E, hEe⟩ : ∃ E, drawE wd ht cs xs = E := ⟨_, rfl⟩
    obtain ⟨Z1, hZ1⟩ : ∃ Z, drawZ wd wd ht cs xs = Z := ⟨_, rfl⟩
    obtain ⟨Z2, hZ2⟩ : ∃ Z, drawZ ht wd ht cs xs = Z := ⟨_, rfl⟩
    obtain ⟨CA, hCA⟩ : ∃ C, drawC glyS wd ht cs xs = C := ⟨_, rfl⟩
    have DRW := cdraw_any glyS glyphs_any wd ht cs (.slice s0 n0 cap0) xs (.slice s1 n1 cap1) w2 h1 h2 RV hc.out RX k1.out
    rw [hEe, hZ1, hZ2, hCA] at DRW
    obtain ⟨NA, hNA⟩ : ∃ n, CA.length = n := ⟨_, rfl⟩
    replace DRW := Lib.hid DRW
    replace hb02 := Lib.hid hb02
    replace hNA := Lib.hid hNA
    replace hEe := Lib.hid hEe
    replace hZ1 := Lib.hid hZ1
    replace hZ2 := Lib.hid hZ2
    replace hCA := Lib.hid hCA
    replace RV := Lib.hid RV
    replace RX := Lib.hid RX
    replace RQ := Lib.hid RQ
    clear hl0 hx0 hq0 g0 g0i g1 g1i g2i g2
    have k0a := B3.cell (o := 0) rfl
    have k1a := B3.cell (o := 1) rfl
    have k2a := B3.cell (o := 2) rfl
    have ya := B3.lt
    go_upto_region 7 with (go_at_call 12; (with_reducible refine DRW.out.mono ?_); rintro e w3 ⟨hb3', va, rfl, OA⟩; obtain ⟨sa, ca, hva⟩ := own_slice OA; rw [hNA.out] at hva; subst hva)
    obtain ⟨W4, hW4⟩ : ∃ W, w3.alloc (.cells #[.int .i64 Z1, .int .i64 Z2, .slice sa NA ca] 26) = W := ⟨_, rfl⟩
    obtain ⟨b8, hb8⟩ : ∃ b, w3.heap.size = b := ⟨_, rfl⟩
    have B8 : Blk W4 b8 [.int .i64 Z1, .int .i64 Z2, .slice sa NA ca] 26 := by rw [← hW4]; exact Blk.new' hb8.symm
    have hb4 : Below w2.heap.size w2 W4 := by rw [← hW4]; exact hb3'.alloc hb3'.size _
    have OA4 : OwnsC w2.heap.size W4 (.slice sa NA ca) CA := by rw [← hW4]; exact OA.alloc _
    rw [hW4, hb8]
    clear hW4 hb8 OA hb3'
    clear DRW
    clear k0a k1a k2a ya
    by_cases e0 : E = 0
    ·subst e0
     have z1 : Z1 = wd := by have h := hZ1.out; unfold drawZ at h; rw [if_pos hEe.out] at h; exact h.symm
     have z2 : Z2 = ht := by have h := hZ2.out; unfold drawZ at h; rw [if_pos hEe.out] at h; exact h.symm
     subst z1 z2
     have dn := draw_norm hEe.out k1.out
     have ck : chkS Z1 Z2 cs = 0 ∧ chkL xs = 0 := by
      have h := hEe.out
      unfold drawE at h
      split at h
      ·exact ⟨by assumption, h⟩
      ·cases h
     have hNA0 : NA = n0 := by rw [← hNA.out, ← hCA.out, draw_len hEe.out]; exact en0.out
     subst hNA0
     have zb4 := hb4.size
     obtain ⟨L, hL⟩ : ∃ L, normS xs = L := ⟨_, rfl⟩
     have kL : ∀ s ∈ L, s.Wf := by rw [← hL]; exact norm_wf ck.2 k1.out
     have NM := lnorm_any xs (.slice s1 n1 cap1) W4 ((RX.out.below hb4).mono zb4) k1.out
     rw [hL, ck.2] at NM
     rw [hL] at dn
     obtain ⟨NL, hNL⟩ : ∃ n, L.length = n := ⟨_, rfl⟩
     replace NM := Lib.hid NM
     replace hNL := Lib.hid hNL
     replace kL := Lib.hid kL
     clear hL
     have hb24 := Lib.hid hb4
     clear hb4
     have k0a := B8.cell (o := 0) rfl
     have k1a := B8.cell (o := 1) rfl
     have k2a := B8.cell (o := 2) rfl
     have ya := B8.lt
     go_upto_region 10 with (go_at_call 35; (with_reducible refine NM.out.mono ?_); rintro e w5 ⟨hb5, vn, rfl, ON⟩; obtain ⟨sn, cn, hvn⟩ := own_slice ON; rw [hNL.out] at hvn; subst hvn)
     clear NM
     clear k0a k1a k2a ya
     replace B8 := B8.below hb5 B8.lt
     have OA5 := OA4.below hb5 (Nat.le_refl _)
     have hb25 := hb24.out.trans (hb5.mono zb4)
     have zb25 := hb25.size
     replace B3 := B3.below hb25 B3.lt
     have DRW := cdraw_any glyS glyphs_any Z1 Z2 cs (.slice s0 NA cap0) L (.slice sn NL cn) w5 h1 h2 ((RV.out.below hb25).mono zb25) hc.out (by have h := ON.row (Nat.le_refl _); exact h) kL.out
     have e5 : drawZ Z1 Z1 Z2 cs L = Z1 := if_pos dn.1
     have e6 : drawZ Z2 Z1 Z2 cs L = Z2 := if_pos dn.1
     rw [dn.1, dn.2, hCA.out, e5, e6] at DRW
     replace DRW := Lib.hid DRW
     replace hb25 := Lib.hid hb25
     clear ON hb5 e5 e6 dn hb24 OA4 zb25 zb4
     have k0a := B3.cell (o := 0) rfl
     have k1a := B3.cell (o := 1) rfl
     have k2a := B3.cell (o := 2) rfl
     have ya := B3.lt
     go_upto_region 11 with (go_at_call 12; (with_reducible refine DRW.out.mono ?_); rintro e w6 ⟨hb6', vc, rfl, OC⟩; obtain ⟨sc, cc, hvc⟩ := own_slice OC; rw [hNA.out] at hvc; subst hvc)
     obtain ⟨W7, hW7⟩ : ∃ W, w6.alloc (.cells #[.int .i64 Z1, .int .i64 Z2, .slice sc NA cc] 26) = W := ⟨_, rfl⟩
     obtain ⟨b12, hb12⟩ : ∃ b, w6.heap.size = b := ⟨_, rfl⟩
     have B12 : Blk W7 b12 [.int .i64 Z1, .int .i64 Z2, .slice sc NA cc] 26 := by rw [← hW7]; exact Blk.new' hb12.symm
     have hb7 : Below w5.heap.size w5 W7 := by rw [← hW7]; exact hb6'.alloc hb6'.size _
     have OC7 : OwnsC w5.heap.size W7 (.slice sc NA cc) CA := by rw [← hW7]; exact OC.alloc _
     rw [hW7, hb12]
     clear hW7 hb12 OC hb6'
     clear k0a k1a k2a ya
     replace B8 := B8.below hb7 B8.lt
     replace B3 := B3.below hb7 B3.lt
     have OA7 := OA5.below hb7 (Nat.le_refl _)
     have hb27 := hb25.out.trans (hb7.mono hb25.out.size)
     have SM := csame_any Z1 Z2 Z1 Z2 CA CA (.slice sc NA cc) (.slice sa NA ca) W7 (OC7.row (Nat.le_refl _)) (OA7.row (Nat.le_refl _))
     rw [samS_iff.2 ⟨rfl, rfl, rfl⟩] at SM
     replace SM := Lib.hid SM
     clear DRW OA5 hb7 hb25 OC7
     have k0a := B12.cell (o := 0) rfl
     have k1a := B12.cell (o := 1) rfl
     have k2a := B12.cell (o := 2) rfl
     have ya := B12.lt
     have k0b := B8.cell (o := 0) rfl
     have k1b := B8.cell (o := 1) rfl
     have k2b := B8.cell (o := 2) rfl
     have yb := B8.lt
     go_upto_region 13 with (go_at_call 14; (with_reducible refine SM.out.mono ?_); rintro e w8 ⟨rfl, hb8⟩)
     clear k0a k1a k2a ya
     clear k0b k1b k2b yb
     clear SM B12
     replace B8 := B8.below hb8 B8.lt
     replace B3 := B3.below hb8 B3.lt
     have OA8 := OA7.below hb8 (Nat.le_refl _)
     have hb28 := hb27.trans (hb8.mono hb27.size)
     have zb28 := hb28.size
     obtain ⟨G, hG⟩ : ∃ G, bothE qs [] 1 = G := ⟨_, rfl⟩
     obtain ⟨FL, hFL⟩ : ∃ G, bothL qs [] 1 = G := ⟨_, rfl⟩
     obtain ⟨I, hI⟩ : ∃ G, wiE xs qs = G := ⟨_, rfl⟩
     obtain ⟨WL, hWL⟩ : ∃ G, wiS xs qs = G := ⟨_, rfl⟩
     obtain ⟨NF, hNF⟩ : ∃ n, FL.length = n := ⟨_, rfl⟩
     obtain ⟨NW, hNW⟩ : ∃ n, WL.length = n := ⟨_, rfl⟩
     have OF := of_any qs (.slice s2 n2 cap2) w8 ((RQ.out.below hb28).mono zb28) kq.out
     have WI := fun W (h : Below w8.heap.size w8 W) => lwithin_any xs qs (.slice s1 n1 cap1) (.slice s2 n2 cap2) W ((RX.out.below (hb28.trans (h.mono zb28))).mono (Nat.le_trans zb28 h.size)) k1.out ((RQ.out.below (hb28.trans (h.mono zb28))).mono (Nat.le_trans zb28 h.size)) kq.out
     rw [hG, hFL] at OF
     rw [hI, hWL] at WI
     have we := wi_err (qs := qs) ck.2
     rw [hG, hI] at we
     replace OF := Lib.hid OF
     replace WI := Lib.hid WI
     replace we := Lib.hid we
     replace hG := Lib.hid hG
     replace hFL := Lib.hid hFL
     replace hI := Lib.hid hI
     replace hWL := Lib.hid hWL
     replace hNF := Lib.hid hNF
     replace hNW := Lib.hid hNW
     replace hb28 := Lib.hid hb28
     clear hb27 hb8 OA7 zb28
     go_upto_region 14 with (go_at_call 36; (with_reducible refine OF.out.mono ?_); rintro e w9 ⟨hb9, vf, rfl, OFr⟩; obtain ⟨sf, cf, hvf⟩ := OFr.shape; rw [hNF.out] at hvf; subst hvf)
     clear OF
     go_upto_region 15 with (go_at_call 37; (with_reducible refine (WI.out _ hb9).mono ?_); rintro e w10 ⟨hb10, vw, rfl, OW⟩; obtain ⟨sw, cw, hvw⟩ := own_slice OW; rw [hNW.out] at hvw; subst hvw)
     clear WI
     have hb810 := hb9.trans (hb10.mono hb9.size)
     have OFr10 := OFr.below hb10 (Nat.le_refl _)
     replace B8 := B8.below hb810 B8.lt
     replace B3 := B3.below hb810 B3.lt
     have OA10 := OA8.below hb810 (Nat.le_refl _)
     have hb210 := hb28.out.trans (hb810.mono hb28.out.size)
     clear OFr hb810 OA8 hb9 hb10 hb28
     rcases we.out with ⟨g0, i0 | i4⟩ | ⟨g0, i1⟩
     ·subst g0 i0
      obtain ⟨d1, d2, d3⟩ := draw_within (qs := qs) hEe.out k1.out hG.out hI.out
      have PL := fun x y p => place_law (qs := qs) hEe.out k1.out hG.out hI.out x y p
      rw [hWL.out] at d1 d2
      rw [hWL.out, hFL.out, hCA.out] at PL
      obtain ⟨CP, hCP⟩ : ∃ C, drawC glyS Z1 Z2 cs WL = C := ⟨_, rfl⟩
      have lP : CP.length = NA := by rw [← hCP, draw_len d1]; exact en0.out
      have zb := hb210.size
      have DRW := cdraw_any glyS glyphs_any Z1 Z2 cs (.slice s0 NA cap0) WL (.slice sw NW cw) w10 h1 h2 ((RV.out.below hb210).mono zb) hc.out (by have h := OW.row (Nat.le_refl _); exact h) d2
      have e5 : drawZ Z1 Z1 Z2 cs WL = Z1 := if_pos d1
      have e6 : drawZ Z2 Z1 Z2 cs WL = Z2 := if_pos d1
      rw [hCP] at PL
      rw [d1, hCP, e5, e6] at DRW
      have wF : WfL FL := by rw [← hFL.out]; exact wf_bothL qs
      replace DRW := Lib.hid DRW
      replace PL := Lib.hid PL
      replace lP := Lib.hid lP
      replace hb210 := Lib.hid hb210
      clear OW d1 d2 d3 e5 e6 zb we hCP
      have k0a := B3.cell (o := 0) rfl
      have k1a := B3.cell (o := 1) rfl
      have k2a := B3.cell (o := 2) rfl
      have ya := B3.lt
      go_upto_region 18 with (go_at_call 12; (with_reducible refine DRW.out.mono ?_); rintro e w11 ⟨hb11', vp, rfl, OP⟩; obtain ⟨sp, cp, hvp⟩ := own_slice OP; rw [lP.out] at hvp; subst hvp)
      obtain ⟨W12, hW12⟩ : ∃ W, w11.alloc (.cells #[.int .i64 Z1, .int .i64 Z2, .slice sp NA cp] 26) = W := ⟨_, rfl⟩
      obtain ⟨b16, hb16⟩ : ∃ b, w11.heap.size = b := ⟨_, rfl⟩
      have B16 : Blk W12 b16 [.int .i64 Z1, .int .i64 Z2, .slice sp NA cp] 26 := by rw [← hW12]; exact Blk.new' hb16.symm
      have hb12 : Below w10.heap.size w10 W12 := by rw [← hW12]; exact hb11'.alloc hb11'.size _
      have OP12 : OwnsC w10.heap.size W12 (.slice sp NA cp) CP := by rw [← hW12]; exact OP.alloc _
      rw [hW12, hb16]
      clear hW12 hb16 OP hb11'
      clear k0a k1a k2a ya
      clear DRW
      replace B8 := B8.below hb12 B8.lt
      replace B3 := B3.below hb12 B3.lt
      have OA12 := OA10.below hb12 (Nat.le_refl _)
      have OF12 := OFr10.below hb12 (Nat.le_refl _)
      have hb212 := hb210.out.trans (hb12.mono hb210.out.size)
      have z212 := hb212.size
      have AP := fun x y W (h : Below W12.heap.size W12 W) => cat_any Z1 Z2 CP (.slice sp NA cp) x y W h1 h2 (((OP12.row (Nat.le_refl _)).below h).mono h.size)
      have AA := fun x y W (h : Below W12.heap.size W12 W) => cat_any Z1 Z2 CA (.slice sa NA ca) x y W h1 h2 (((OA12.row (Nat.le_refl _)).below h).mono h.size)
      have AS := fun x y W (h : Below W12.heap.size W12 W) => cat_any Z1 Z2 cs (.slice s0 NA cap0) x y W h1 h2 ((RV.out.below (hb212.trans (h.mono z212))).mono (Nat.le_trans z212 h.size))
      have HF := fun x y hx hy W (h : Below W12.heap.size W12 W) => rhas_any FL (.slice sf NF cf) x y W (((OF12.row (Nat.le_refl _)).below h).mono h.size) wF hx hy
      have hfit := (chkS_zero ck.1).1
      have zz : 0 ≤ Z1 ∧ 0 ≤ Z2 ∧ Z1 ≤ 16384 ∧ Z2 ≤ 16384 := by
       unfold fitsS at hfit
       simp only [Bool.and_eq_true, decide_eq_true_eq] at hfit
       omega
      obtain ⟨zz1, zz2, zz3, zz4⟩ := zz
      replace AP := Lib.hid AP
      replace AA := Lib.hid AA
      replace AS := Lib.hid AS
      replace HF := Lib.hid HF
      replace hb212 := Lib.hid hb212
      clear OP12 OA12 OF12 OA10 OFr10 hb12 hb210 z212 hfit wF ck RV RX RQ hI hWL hFL hG hNA hEe hZ1 hZ2 hCA lP hNF hNW hNL kL hc k1 kq
      have k0a := B16.cell (o := 0) rfl
      have k1a := B16.cell (o := 1) rfl
      have k2a := B16.cell (o := 2) rfl
      have ya := B16.lt
      have k0b := B8.cell (o := 0) rfl
      have k1b := B8.cell (o := 1) rfl
      have k2b := B8.cell (o := 2) rfl
      have yb := B8.lt
      go_upto_region 20 with fail
      clear k0a k1a k2a ya
      clear k0b k1b k2b yb
      go_wp2
      go_loopw [18] (fun yv wr => ∃ y : Int, 0 ≤ y ∧ y ≤ Z2 ∧ yv = .int .i64 y ∧ Below W12.heap.size W12 wr) (fun yv _ => (Z2 - intOf yv).toNat)
      case atStart => exact ⟨0, by omega, by omega, rfl, Below.refl _ _⟩
      case round =>
       obtain ⟨y, y0, y1, rfl, hy⟩ := hrel
       obtain ⟨wy, hwy⟩ : ∃ x, x = wr := ⟨wr, rfl⟩
       subst hwy
       have B3y := B3.below hy B3.lt
       have k0y := B3y.cell (o := 0) rfl
       have k1y := B3y.cell (o := 1) rfl
       have k2y := B3y.cell (o := 2) rfl
       have yy := B3y.lt
       by_cases hyl : y < Z2
       ·have dy : decide (y < Z2) = true := by simpa using hyl
        go_wp2
        clear k0y k1y k2y yy
        clear B3y
        go_loopw [19] (fun xv wr => ∃ x : Int, 0 ≤ x ∧ x ≤ Z1 ∧ xv = .int .i64 x ∧ Below W12.heap.size W12 wr) (fun xv _ => (Z1 - intOf xv).toNat)
        case atStart => exact ⟨0, by omega, by omega, rfl, hy⟩
        case round =>
         obtain ⟨x, x0, x1, rfl, hx⟩ := hrel
         obtain ⟨wx, hwx⟩ : ∃ x, x = wr := ⟨wr, rfl⟩
         subst hwx
         clear hy
         have B3x := B3.below hx B3.lt
         have k0y := B3x.cell (o := 0) rfl
         have k1y := B3x.cell (o := 1) rfl
         have k2y := B3x.cell (o := 2) rfl
         have yy := B3x.lt
         by_cases hxl : x < Z1
         ·have dx : decide (x < Z1) = true := by simpa using hxl
          go_upto_region 26 with fail
          clear k0y k1y k2y yy
          clear B3x
          go_upto_region 27 with fail
          obtain ⟨wp, hwp⟩ : ∃ u, wx.alloc (.cells #[.int .i64 x, .int .i64 y] 40) = u := ⟨_, rfl⟩
          obtain ⟨b20, hb20⟩ : ∃ b, wx.heap.size = b := ⟨_, rfl⟩
          have BP : Blk wp b20 [.int .i64 x, .int .i64 y] 40 := by rw [← hwp]; exact Blk.new' hb20.symm
          have hp : Below W12.heap.size W12 wp := by rw [← hwp]; exact hx.alloc hx.size _
          rw [hwp, hb20]
          clear hwp hb20
          have ix : I64 x := ⟨by omega, by omega⟩
          have iy : I64 y := ⟨by omega, by omega⟩
          obtain ⟨ck0, r1, p1, p2, p3, p4⟩ := PL.out x y (by unfold plcS; simp only [Bool.and_eq_true, decide_eq_true_eq]; omega)
          have HH := HF.out x y ix iy wp hp
          have AP' := AP.out x y
          have AS' := AS.out x y
          have AA' := AA.out x y
          rw [r1, ck0] at HH
          rw [p1] at AP'
          rw [p2] at AS'
          rw [p3] at AA'
          obtain ⟨R, hR⟩ : ∃ R, hasL qs x y = R := ⟨_, rfl⟩
          obtain ⟨cP, hcP⟩ : ∃ c, atC Z1 Z2 CP x y = c := ⟨_, rfl⟩
          obtain ⟨cS, hcS⟩ : ∃ c, atC Z1 Z2 cs x y = c := ⟨_, rfl⟩
          obtain ⟨cA, hcA⟩ : ∃ c, atC Z1 Z2 CA x y = c := ⟨_, rfl⟩
          rw [hR] at HH p4
          rw [hcP] at AP' p4
          rw [hcS] at AS' p4
          rw [hcA] at AA' p4
          replace HH := Lib.hid HH
          replace AP' := Lib.hid AP'
          replace AS' := Lib.hid AS'
          replace AA' := Lib.hid AA'
          replace p4 := Lib.hid p4
          clear hcP hcS hcA hR ck0 r1 p1 p2 p3
          have q0 := BP.cell (o := 0) rfl
          have q1 := BP.cell (o := 1) rfl
          have qy := BP.lt
          go_upto_region 28 with (go_at_call 38; (with_reducible refine HH.out.mono ?_); rintro e w13 ⟨rfl, hb13⟩)
          clear q0 q1 qy HH
          replace BP := BP.below hb13 BP.lt
          have h13 := hp.trans (hb13.mono hp.size)
          clear hb13 hp hx
          have B16x := B16.below h13 B16.lt
          have k0y := B16x.cell (o := 0) rfl
          have k1y := B16x.cell (o := 1) rfl
          have k2y := B16x.cell (o := 2) rfl
          have yy := B16x.lt
          have q0 := BP.cell (o := 0) rfl
          have q1 := BP.cell (o := 1) rfl
          have qy := BP.lt
          go_upto_region 29 with (go_at_call 21; (with_reducible refine (AP'.out _ h13).mono ?_); rintro e w14 ⟨rfl, hb14⟩)
          obtain ⟨W15, hW15⟩ : ∃ W, w14.alloc (.cells #[.int .i32 cP.rune, .int .u8 cP.col.r, .int .u8 cP.col.g, .int .u8 cP.col.b, .int .u8 cP.col.a, .int .u8 cP.back.r, .int .u8 cP.back.g, .int .u8 cP.back.b, .int .u8 cP.back.a, .bool cP.wide, .bool cP.tail] 52) = W := ⟨_, rfl⟩
          obtain ⟨b23, hb23⟩ : ∃ b, w14.heap.size = b := ⟨_, rfl⟩
          have BG : Blk W15 b23 [.int .i32 cP.rune, .int .u8 cP.col.r, .int .u8 cP.col.g, .int .u8 cP.col.b, .int .u8 cP.col.a, .int .u8 cP.back.r, .int .u8 cP.back.g, .int .u8 cP.back.b, .int .u8 cP.back.a, .bool cP.wide, .bool cP.tail] 52 := by rw [← hW15]; exact Blk.new' hb23.symm
          have hb15 : Below w13.heap.size w13 W15 := by rw [← hW15]; exact hb14.alloc hb14.size _
          rw [hW15, hb23]
          clear hW15 hb23 hb14 q0 q1 qy B16x AP'
          clear k0y k1y k2y yy
          replace BP := BP.below hb15 BP.lt
          have h15 := h13.trans (hb15.mono h13.size)
          clear h13 hb15
          have B3x := B3.below h15 B3.lt
          have k0y := B3x.cell (o := 0) rfl
          have k1y := B3x.cell (o := 1) rfl
          have k2y := B3x.cell (o := 2) rfl
          have yy := B3x.lt
          have q0 := BP.cell (o := 0) rfl
          have q1 := BP.cell (o := 1) rfl
          have qy := BP.lt
          go_upto_region 30 with (go_at_call 21; (with_reducible refine (AS'.out _ h15).mono ?_); rintro e w16 ⟨rfl, hb16⟩)
          obtain ⟨W17, hW17⟩ : ∃ W, w16.alloc (.cells #[.int .i32 cS.rune, .int .u8 cS.col.r, .int .u8 cS.col.g, .int .u8 cS.col.b, .int .u8 cS.col.a, .int .u8 cS.back.r, .int .u8 cS.back.g, .int .u8 cS.back.b, .int .u8 cS.back.a, .bool cS.wide, .bool cS.tail] 52) = W := ⟨_, rfl⟩
          obtain ⟨b25, hb25⟩ : ∃ b, w16.heap.size = b := ⟨_, rfl⟩
          have BW : Blk W17 b25 [.int .i32 cS.rune, .int .u8 cS.col.r, .int .u8 cS.col.g, .int .u8 cS.col.b, .int .u8 cS.col.a, .int .u8 cS.back.r, .int .u8 cS.back.g, .int .u8 cS.back.b, .int .u8 cS.back.a, .bool cS.wide, .bool cS.tail] 52 := by rw [← hW17]; exact Blk.new' hb25.symm
          have hb17 : Below W15.heap.size W15 W17 := by rw [← hW17]; exact hb16.alloc hb16.size _
          have nb : b23 < b25 := by have := BG.lt; have := hb16.size; omega
          have nc : W12.heap.size ≤ b25 := by have := h15.size; have := hb16.size; omega
          rw [hW17, hb25]
          clear hW17 hb25 hb16 q0 q1 qy B3x AS'
          clear k0y k1y k2y yy
          replace BP := BP.below hb17 BP.lt
          replace BG := BG.below hb17 BG.lt
          have h17 := h15.trans (hb17.mono h15.size)
          clear h15 hb17
          have p4' := p4.out
          clear p4
          cases R
          ·simp only [Bool.false_eq_true, if_false] at p4'
           subst p4'
           clear AA' BP
           go_upto_region 32 with fail
           obtain ⟨x0c, x1c, x2c, x3c, x4c, x5c, x6c, x7c, x8c, x9c, x10c⟩ := BG.c11
           have xlc := BG.lt
           obtain ⟨x0d, x1d, x2d, x3d, x4d, x5d, x6d, x7d, x8d, x9d, x10d⟩ := BW.c11
           have xld := BW.lt
           go_wp2
           go_roundw
           case rel => exact ⟨x + 1, by omega, by omega, rfl, h17⟩
           case measure => simp [intOf]; omega
          ·simp only [if_true] at p4'
           subst p4'
           have B8x := B8.below h17 B8.lt
           have k0y := B8x.cell (o := 0) rfl
           have k1y := B8x.cell (o := 1) rfl
           have k2y := B8x.cell (o := 2) rfl
           have yy := B8x.lt
           have q0 := BP.cell (o := 0) rfl
           have q1 := BP.cell (o := 1) rfl
           have qy := BP.lt
           go_upto_region 32 with (go_at_call 21; (with_reducible refine (AA'.out _ h17).mono ?_); rintro e w18 ⟨rfl, hb18⟩; have BWx := BW.below hb18 BW.lt; have fz18 := BWx.free; have x0d := BWx.cell (o := 0) rfl; have x1d := BWx.cell (o := 1) rfl; have x2d := BWx.cell (o := 2) rfl; have x3d := BWx.cell (o := 3) rfl; have x4d := BWx.cell (o := 4) rfl; have x5d := BWx.cell (o := 5) rfl; have x6d := BWx.cell (o := 6) rfl; have x7d := BWx.cell (o := 7) rfl; have x8d := BWx.cell (o := 8) rfl; have x9d := BWx.cell (o := 9) rfl; have x10d := BWx.cell (o := 10) rfl)
           clear fz18 BWx x0d x1d x2d x3d x4d x5d x6d x7d x8d x9d x10d q0 q1 qy B8x AA'
           clear k0y k1y k2y yy
           have BW' := BW.below hb18 BW.lt
           have BG' := BG.below hb18 BG.lt
           have hc1 : Below b25 w18 w18 := Below.refl _ _
           have h18 := h17.trans (hb18.mono h17.size)
           have HZ := Blk.put11 BW' rfl (.int .i32 cP.rune) (.int .u8 cP.col.r) (.int .u8 cP.col.g) (.int .u8 cP.col.b) (.int .u8 cP.col.a) (.int .u8 cP.back.r) (.int .u8 cP.back.g) (.int .u8 cP.back.b) (.int .u8 cP.back.a) (.bool cP.wide) (.bool cP.tail)
           have hcZ := put11_below hc1 (b := b25) (Nat.le_refl _) (.int .i32 cP.rune) (.int .u8 cP.col.r) (.int .u8 cP.col.g) (.int .u8 cP.col.b) (.int .u8 cP.col.a) (.int .u8 cP.back.r) (.int .u8 cP.back.g) (.int .u8 cP.back.b) (.int .u8 cP.back.a) (.bool cP.wide) (.bool cP.tail)
           have hdZ := put11_below h18 (b := b25) nc (.int .i32 cP.rune) (.int .u8 cP.col.r) (.int .u8 cP.col.g) (.int .u8 cP.col.b) (.int .u8 cP.col.a) (.int .u8 cP.back.r) (.int .u8 cP.back.g) (.int .u8 cP.back.b) (.int .u8 cP.back.a) (.bool cP.wide) (.bool cP.tail)
           generalize hWZ : (((((((((((w18).setCell ⟨b25, 0, none⟩ (.int .i32 cP.rune)).setCell ⟨b25, 1, none⟩ (.int .u8 cP.col.r)).setCell ⟨b25, 2, none⟩ (.int .u8 cP.col.g)).setCell ⟨b25, 3, none⟩ (.int .u8 cP.col.b)).setCell ⟨b25, 4, none⟩ (.int .u8 cP.col.a)).setCell ⟨b25, 5, none⟩ (.int .u8 cP.back.r)).setCell ⟨b25, 6, none⟩ (.int .u8 cP.back.g)).setCell ⟨b25, 7, none⟩ (.int .u8 cP.back.b)).setCell ⟨b25, 8, none⟩ (.int .u8 cP.back.a)).setCell ⟨b25, 9, none⟩ (.bool cP.wide)).setCell ⟨b25, 10, none⟩ (.bool cP.tail) = wZ at HZ hcZ hdZ ⊢
           have BGz := BG'.below hcZ nb
           clear BG BG' BW BW' hWZ hc1 h18 hb18 h17 hcZ
           have BG := BGz
           have BW := HZ
           have h17 := hdZ
           clear BGz HZ hdZ
           obtain ⟨x0c, x1c, x2c, x3c, x4c, x5c, x6c, x7c, x8c, x9c, x10c⟩ := BG.c11
           have xlc := BG.lt
           obtain ⟨x0d, x1d, x2d, x3d, x4d, x5d, x6d, x7d, x8d, x9d, x10d⟩ := BW.c11
           have xld := BW.lt
           go_wp2
           go_roundw
           case rel => exact ⟨x + 1, by omega, by omega, rfl, h17⟩
           case measure => simp [intOf]; omega
         ·have dx : decide (x < Z1) = false := by simp; omega
          go_wp2
          go_roundw
          case rel => exact ⟨y + 1, by omega, by omega, rfl, hx⟩
          case measure => simp [intOf]; omega
       ·have dy : decide (y < Z2) = false := by simp; omega
        go_wp2
        go_ret
        exact ⟨rfl, hb02.out.trans ((hb212.out.trans (hy.mono hb212.out.size)).mono hb02.out.size)⟩
     ·subst g0 i4
      clear OW OFr10 OA10 we
      go_wp2
      go_ret
      exact ⟨rfl, hb02.out.trans (hb210.mono hb02.out.size)⟩
     ·subst i1
      have e1 : (I != 0) = true := by simpa using g0
      clear OW OFr10 OA10 we
      go_wp2
      go_ret
      exact ⟨rfl, hb02.out.trans (hb210.mono hb02.out.size)⟩
    ·have e1 : (E != 0) = true := by simpa using e0
     have hCA0 : CA = [] := by have h := hCA.out; unfold drawC at h; rw [if_neg (by rw [hEe.out]; exact e0)] at h; exact h.symm
     have hNA0 : NA = 0 := by rw [← hNA.out, hCA0]; rfl
     subst hNA0
     clear OA4
     have k0a := B8.cell (o := 0) rfl
     have k1a := B8.cell (o := 1) rfl
     have k2a := B8.cell (o := 2) rfl
     have ya := B8.lt
     go_wp2
     go_ret
     exact ⟨rfl, hb02.out.trans (hb4.mono hb02.out.size)⟩
end Go.Proofs.YtffmomgmkpmpkaaGreatDoor
