/-
  The walk of the law CellsDraw.
-/
import Derived.Lib.LaidU8T
import Derived.Shelf.SlSortCmp.WholeK
import Derived.Shelf.Slices.CompactI
import Derived.Shelf.Slices.In.SortNone
import Derived.Shelf.Sort.Plain
import Derived.Sort.OwnSortedInts
import Derived.Test.YtffmomgmkpmpkaaGreatDoorProg
import Derived.Test.YtffmomgmkpmpkaaGreatDoorKd42
import Derived.Test.YtffmomgmkpmpkaaGreatDoorKd44
namespace Go.Proofs.YtffmomgmkpmpkaaGreatDoor
open Go.RowKit
set_option linter.unusedVariables false
attribute [local go_sem] vwp vUpon_value vUpon_skip vUpon_enter vUpon_row
set_option linter.unusedSimpArgs false
set_option linter.unusedVariables false
theorem drawC_le (gf : ByteArray → List (List Gl)) (wd ht : Int) (cs : List Ce) (xs : List St) : (drawC gf wd ht cs xs).length ≤ cs.length := by
  unfold drawC
  split
  · rw [drwGo_len]; exact Nat.le_refl _
  · exact Nat.zero_le _
set_option maxHeartbeats 16000000 in
set_option maxRecDepth 100000 in
theorem walk_CellsDraw (wd ht : Int) (cs : List Ce) (v : Value) (xs : List St) (vx : Value) (w : World) (h1 : I64 wd) (h2 : I64 ht) (hl : Row w.heap.size 11 Ce.enc w v cs) (hc : CeL cs) (hx : Row w.heap.size 15 St.enc w vx xs) (k1 : ∀ s ∈ xs, s.Wf) (hsz : xs.length * 72 ≤ 140737488351232) (hD : DigT w) (hE : DecT w) :
  Calls Tryz.prog 3 #[.agg #[.int .i64 (wd), .int .i64 (ht), v], vx] w fun e w' => e = .returned (.bool true) ∧ Below w.heap.size w w' := by
 obtain ⟨s0, cap0, rfl, hmax0⟩ := hl.shape
 obtain ⟨s1, cap1, rfl, hmax1⟩ := hx.shape
 obtain ⟨n0, en0⟩ : ∃ n, cs.length = n := ⟨_, rfl⟩
 obtain ⟨n1, en1⟩ : ∃ n, xs.length = n := ⟨_, rfl⟩
 have hl0 := hl
 have hx0 := hx
 rw [en0] at hl0 hmax0 ⊢
 rw [en1] at hx0 hmax1 hsz ⊢
 clear hl hx
 unfold maxLen at hmax0 hmax1
 replace hl0 := Lib.hid hl0
 replace hx0 := Lib.hid hx0
 replace hD := Lib.hid hD
 replace hE := Lib.hid hE
 replace hc := Lib.hid hc
 replace k1 := Lib.hid k1
 replace en0 := Lib.hid en0
 replace en1 := Lib.hid en1
 go_enter Tryz.func3, Tryz.ntmps3
 go_upto_region 1 with fail
 obtain ⟨W0, hW0⟩ : ∃ W0, w.alloc (.cells #[.int .i64 wd, .int .i64 ht, .slice s0 n0 cap0] 26) = W0 := ⟨_, rfl⟩
 obtain ⟨b2, hb2⟩ : ∃ b, w.heap.size = b := ⟨_, rfl⟩
 have B2 : Blk W0 b2 [.int .i64 wd, .int .i64 ht, .slice s0 n0 cap0] 26 := by rw [← hW0]; exact Blk.new' hb2.symm
 have hb0 : Below w.heap.size w W0 := by rw [← hW0]; exact belt
 rw [hW0, hb2]
 clear hW0
 replace hb2 := Lib.hid hb2
 have AW := Lib.hid (awake_any W0 (hD.out.below hb0 (Nat.le_refl _)) (hE.out.below hb0 (Nat.le_refl _)))
 replace hb0 := Lib.hid hb0
 go_upto_region 4 with (go_at_call 8; (with_reducible refine AW.out.mono ?_); rintro e w1 ⟨rfl, hb1⟩)
 replace B2 := B2.below hb1 B2.lt
 have hb01 := hb0.out.trans (hb1.mono hb0.out.size)
 clear AW hb0 hb1
 have LG := large_any wd ht cs (.slice s0 n0 cap0) w1 ((hl0.out.below hb01).mono hb01.size)
 rw [en0.out] at LG
 replace LG := Lib.hid LG
 replace hb01 := Lib.hid hb01
 have k0a := B2.cell (o := 0) rfl
 have k1a := B2.cell (o := 1) rfl
 have k2a := B2.cell (o := 2) rfl
 have ya := B2.lt
 by_cases g0 : 600 < n0
 ·have g0i : decide (600 < n0) = true := decide_eq_true g0
  go_wp2_with (go_at_call 9; (with_reducible refine LG.out.mono ?_); rintro e w2 ⟨rfl, hb2'⟩)
  go_ret
  exact ⟨rfl, hb01.out.trans (hb2'.mono hb01.out.size)⟩
 ·have g0i : decide (600 < n0) = false := decide_eq_false g0
  by_cases g1 : 60 < n1 ∧ n1 ≤ 16384
  ·have g1i : (60 : Int) < n1 := by omega
   have g2i : (n1 : Int) ≤ 16384 := by omega
   go_wp2_with (go_at_call 9; (with_reducible refine LG.out.mono ?_); rintro e w2 ⟨rfl, hb2'⟩)
   go_ret
   exact ⟨rfl, hb01.out.trans (hb2'.mono hb01.out.size)⟩
  ·go_cut [29] (fun u wx => u = .bool false ∧ Below w1.heap.size w1 wx)
   case first =>
    by_cases g2 : 60 < n1
    ·have g2i : (60 : Int) < n1 := by omega
     have g3i : ¬ (n1 : Int) ≤ 16384 := by omega
     go_wp2_with (go_at_call 9; (with_reducible refine LG.out.mono ?_); rintro e w2 ⟨rfl, hb2'⟩)
     go_meet
     case rel => exact ⟨congrArg Value.bool (decide_eq_false (by omega)), hb2'⟩
    ·have g2i : ¬ (60 : Int) < n1 := by omega
     go_wp2_with (go_at_call 9; (with_reducible refine LG.out.mono ?_); rintro e w2 ⟨rfl, hb2'⟩)
     go_meet
     case rel => exact ⟨rfl, hb2'⟩
   case rest =>
    obtain ⟨rfl, hb2'⟩ := hcut
    obtain ⟨w2, rfl⟩ : ∃ w2, w2 = wc := ⟨_, rfl⟩
    replace B2 := B2.below hb2' B2.lt
    have hb02 := hb01.out.trans (hb2'.mono hb01.out.size)
    clear LG hb01 hb2' k0a k1a k2a ya g1
    have TW := Lib.hid (twin_any wd ht cs (.slice s0 n0 cap0) w2 (by have h := (hl0.out.below hb02).mono hb02.size; rw [← en0.out] at h ⊢; exact h) (by rw [en0.out]; omega))
    replace hb02 := Lib.hid hb02
    have k0a := B2.cell (o := 0) rfl
    have k1a := B2.cell (o := 1) rfl
    have k2a := B2.cell (o := 2) rfl
    have ya := B2.lt
    go_upto_region 7 with (go_at_call 10; (with_reducible refine TW.out.mono ?_); rintro e w3 ⟨vt, rfl, OT, hb3⟩; obtain ⟨st, ct, hvt⟩ := own_slice OT; rw [en0.out] at hvt; subst hvt)
    obtain ⟨W4, hW4⟩ : ∃ W4, w3.alloc (.cells #[.int .i64 wd, .int .i64 ht, .slice st n0 ct] 26) = W4 := ⟨_, rfl⟩
    obtain ⟨b6, hb6⟩ : ∃ b, w3.heap.size = b := ⟨_, rfl⟩
    have B6 : Blk W4 b6 [.int .i64 wd, .int .i64 ht, .slice st n0 ct] 26 := by rw [← hW4]; exact Blk.new' hb6.symm
    have hb4 : Below w2.heap.size w2 W4 := by rw [← hW4]; exact hb3.alloc hb3.size _
    have OT4 : OwnsC w2.heap.size W4 (.slice st n0 ct) cs := by rw [← hW4]; exact OT.alloc _
    rw [hW4, hb6]
    clear hW4 hb6 OT hb3 TW
    replace B2 := B2.below hb4 B2.lt
    have hb04 := hb02.out.trans (hb4.mono hb02.out.size)
    clear hb02 hb4
    clear k0a k1a k2a ya
    have STR := Lib.hid (strokes_any xs (.slice s1 n1 cap1) W4 (by have h := (hx0.out.below hb04).mono hb04.size; rw [← en1.out] at h ⊢; exact h) (by rw [en1.out]; exact hsz))
    replace hb04 := Lib.hid hb04
    go_upto_region 8 with (go_at_call 11; (with_reducible refine STR.out.mono ?_); rintro e w5 ⟨sm, cm, rfl, OM, hb5⟩; rw [en1.out] at OM ⊢)
    have RM := OM.row (Nat.le_refl _)
    have hm77 : (xs ++ [mark15])[n1]? = some mark15 := by rw [List.getElem?_append_right (by rw [en1.out]; exact Nat.le_refl _), en1.out, Nat.sub_self]; rfl
    obtain ⟨gm, om, capm, em, hgm, hcm1, hcm2, hcel⟩ := row_st RM (by simp)
    rw [List.length_append, List.length_singleton, en1.out] at em hcm1
    simp only [Value.slice.injEq] at em
    obtain ⟨rfl, _, rfl⟩ := em
    obtain ⟨p77, _⟩ := hcel n1 mark15 hm77
    have Rm := RM.init en1.out
    have RT : Row w5.heap.size 11 Ce.enc w5 (.slice st n0 ct) cs := (OT4.below hb5 (Nat.le_refl _)).row (Nat.le_refl _)
    have hb05 := hb04.out.trans (hb5.mono hb04.out.size)
    have RV := (hl0.out.below hb05).mono hb05.size
    have RX := (hx0.out.below hb05).mono hb05.size
    replace B2 := B2.below hb5 B2.lt
    replace B6 := B6.below hb5 B6.lt
    clear OM STR hb04 hb5 OT4 hl0 hx0 hcel hm77
    obtain ⟨E, hEe⟩ : ∃ E, drawE wd ht cs xs = E := ⟨_, rfl⟩
    obtain ⟨Z1, hZ1⟩ : ∃ Z, drawZ wd wd ht cs xs = Z := ⟨_, rfl⟩
    obtain ⟨Z2, hZ2⟩ : ∃ Z, drawZ ht wd ht cs xs = Z := ⟨_, rfl⟩
    obtain ⟨CA, hCA⟩ : ∃ C, drawC glyS wd ht cs xs = C := ⟨_, rfl⟩
    have DRW := fun W (h : Below w5.heap.size w5 W) => cdraw_any glyS glyphs_any wd ht cs (.slice st n0 ct) xs (.slice (some ⟨gm, om, none⟩) n1 cm) W h1 h2 ((RT.below h).mono h.size) hc.out ((Rm.below h).mono h.size) k1.out
    have RDW := fun W (h : Below w5.heap.size w5 W) => crdraw_any glyS written_any wd ht cs (.slice s0 n0 cap0) xs (.slice s1 n1 cap1) W h1 h2 ((RV.below h).mono h.size) hc.out ((RX.below h).mono h.size) k1.out
    have hCAl : CA.length ≤ 1000000 := by rw [← hCA]; exact Nat.le_trans (drawC_le _ _ _ _ _) (by rw [en0.out]; omega)
    rw [hEe, hZ1, hZ2, hCA] at DRW RDW
    clear hEe hZ1 hZ2 hCA
    obtain ⟨NA, hNA⟩ : ∃ n, CA.length = n := ⟨_, rfl⟩
    have k0b := B6.cell (o := 0) rfl
    have k1b := B6.cell (o := 1) rfl
    have k2b := B6.cell (o := 2) rfl
    have yb := B6.lt
    replace DRW := Lib.hid DRW
    replace RDW := Lib.hid RDW
    replace hb05 := Lib.hid hb05
    replace hNA := Lib.hid hNA
    replace RM := Lib.hid RM
    replace Rm := Lib.hid Rm
    replace RT := Lib.hid RT
    replace RV := Lib.hid RV
    replace RX := Lib.hid RX
    go_upto_region 9 with (go_at_call 12; (with_reducible refine (DRW.out _ (Below.refl _ _)).mono ?_); rintro e w6 ⟨hb6', va, rfl, OA⟩; obtain ⟨sa, ca, hva⟩ := own_slice OA; rw [hNA.out] at hva; subst hva)
    obtain ⟨W7, hW7⟩ : ∃ W7, w6.alloc (.cells #[.int .i64 Z1, .int .i64 Z2, .slice sa NA ca] 26) = W7 := ⟨_, rfl⟩
    obtain ⟨b8, hb8⟩ : ∃ b, w6.heap.size = b := ⟨_, rfl⟩
    have B8 : Blk W7 b8 [.int .i64 Z1, .int .i64 Z2, .slice sa NA ca] 26 := by rw [← hW7]; exact Blk.new' hb8.symm
    have hb7 : Below w5.heap.size w5 W7 := by rw [← hW7]; exact hb6'.alloc hb6'.size _
    have OA7 : OwnsC w5.heap.size W7 (.slice sa NA ca) CA := by rw [← hW7]; exact OA.alloc _
    rw [hW7, hb8]
    clear hW7 hb8 OA hb6'
    clear k0b k1b k2b yb
    have LA := fun q hq => (own_block_lt OA7 q hq).2
    have B2a := B2.below hb7 B2.lt
    replace OA7 := Lib.hid OA7
    replace LA := Lib.hid LA
    replace hb7 := Lib.hid hb7
    replace B8 := Lib.hid B8
    have k0c := B2a.cell (o := 0) rfl
    have k1c := B2a.cell (o := 1) rfl
    have k2c := B2a.cell (o := 2) rfl
    have yc := B2a.lt
    go_upto_region 10 with (go_at_call 13; (with_reducible refine (RDW.out _ hb7.out).mono ?_); rintro e w8 ⟨hb8', vb, rfl, OB⟩; obtain ⟨sb, cb, hvb⟩ := own_slice OB; rw [hNA.out] at hvb; subst hvb)
    obtain ⟨W9, hW9⟩ : ∃ W9, w8.alloc (.cells #[.int .i64 Z1, .int .i64 Z2, .slice sb NA cb] 26) = W9 := ⟨_, rfl⟩
    obtain ⟨b10, hb10⟩ : ∃ b, w8.heap.size = b := ⟨_, rfl⟩
    have B10 : Blk W9 b10 [.int .i64 Z1, .int .i64 Z2, .slice sb NA cb] 26 := by rw [← hW9]; exact Blk.new' hb10.symm
    have hb9 : Below W7.heap.size W7 W9 := by rw [← hW9]; exact hb8'.alloc hb8'.size _
    have OB9 : OwnsC W7.heap.size W9 (.slice sb NA cb) CA := by rw [← hW9]; exact OB.alloc _
    rw [hW9, hb10]
    clear hW9 hb10 OB hb8' B2a
    clear k0c k1c k2c yc
    have OA9 := OA7.out.below hb9 (Nat.le_refl _)
    have B8a := B8.out.below hb9 B8.out.lt
    have hb59 := hb7.out.trans (hb9.mono hb7.out.size)
    have hz79 := hb9.size
    clear OA7 B8 hb7 hb9
    have B2a := B2.below hb59 B2.lt
    have B6a := B6.below hb59 B6.lt
    have SM1 := fun W (h : Below W9.heap.size W9 W) => csame_any Z1 Z2 Z1 Z2 CA CA (.slice sa NA ca) (.slice sb NA cb) W ((OA9.below h (Nat.le_refl _)).row (Nat.le_refl _)) ((OB9.below h (Nat.le_refl _)).row (Nat.le_refl _))
    simp only [samS_iff.2 ⟨rfl, rfl, rfl⟩] at SM1
    have CK1 := fun W (h : Below W9.heap.size W9 W) => ccheck_any wd ht cs (.slice st n0 ct) W h1 h2 (by have h' := hb59.trans (h.mono hb59.size); exact (RT.out.below h').mono h'.size)
    have CK2 := fun W (h : Below W9.heap.size W9 W) => crcheck_any wd ht cs (.slice s0 n0 cap0) W h1 h2 (by have h' := hb59.trans (h.mono hb59.size); exact (RV.out.below h').mono h'.size)
    obtain ⟨KS, hKS⟩ : ∃ k, chkS wd ht cs = k := ⟨_, rfl⟩
    rw [hKS] at CK1 CK2
    replace SM1 := Lib.hid SM1
    replace CK1 := Lib.hid CK1
    replace CK2 := Lib.hid CK2
    replace hb59 := Lib.hid hb59
    replace OA9 := Lib.hid OA9
    replace OB9 := Lib.hid OB9
    have k0d := B8a.cell (o := 0) rfl
    have k1d := B8a.cell (o := 1) rfl
    have k2d := B8a.cell (o := 2) rfl
    have yd := B8a.lt
    have k0e := B10.cell (o := 0) rfl
    have k1e := B10.cell (o := 1) rfl
    have k2e := B10.cell (o := 2) rfl
    have ye := B10.lt
    have k0f := B6a.cell (o := 0) rfl
    have k1f := B6a.cell (o := 1) rfl
    have k2f := B6a.cell (o := 2) rfl
    have yf := B6a.lt
    have k0g := B2a.cell (o := 0) rfl
    have k1g := B2a.cell (o := 1) rfl
    have k2g := B2a.cell (o := 2) rfl
    have yg := B2a.lt
    refine wp_region_steady (Held W9 0 []) (by kernel_rfl) (by kernel_rfl) ⟨belt, (by (try simp) <;> omega), (by first | exact trivial | (simp only [Cells]; go_simp))⟩ ?_
    repeat (first | (refine' wpSteady_do _ _ _; rotate_left; (focus rfl); (focus (intro w1 hS R hR; have hc := hS.cells; simp only [Cells] at hc; obtain ⟨hco, hfo⟩ := bcell hS.old; go_simp; (try go_bits); first | exact hR _ hS | ((go_at_call 14; (with_reducible refine (SM1.out _ hS.old).mono ?_); rintro e w2 ⟨rfl, hb2⟩; exact ⟨_, rfl, hR _ (hS.below hb2)⟩)) | ((go_at_call 15; (with_reducible refine (CK1.out _ hS.old).mono ?_); rintro e w2 ⟨rfl, hb2⟩; exact ⟨_, rfl, hR _ (hS.below hb2)⟩)) | ((go_at_call 16; (with_reducible refine (CK2.out _ hS.old).mono ?_); rintro e w2 ⟨rfl, hb2⟩; exact ⟨_, rfl, hR _ (hS.below hb2)⟩)))); simp only [pu]) | (refine wpSteady_pass ?_ ?_; (focus rfl); simp only [pu]))
    refine wpSteady_nil (fun uA hSA => ?_)
    have hcA := hSA.cells; have hbA := hSA.old; have hzA := hSA.size; clear hSA; simp only [Cells] at hcA; obtain ⟨hcoA, hfoA⟩ := bcell hbA
    go_upto_region 11 with fail
    replace OA9 := OA9.out.below hbA (Nat.le_refl _)
    replace OB9 := OB9.out.below hbA (Nat.le_refl _)
    have B8u := B8a.below hbA B8a.lt
    have B10u := B10.below hbA B10.lt
    have hb5A := hb59.out.trans (hbA.mono hb59.out.size)
    have hzA := hbA.size
    have SPO := Lib.hid (spoilC_any w5.heap.size CA (.slice sa NA ca) uA OA9 hCAl)
    replace OA9 := Lib.hid OA9
    replace OB9 := Lib.hid OB9
    replace B10u := Lib.hid B10u
    replace hb5A := Lib.hid hb5A
    have k0h := B8u.cell (o := 0) rfl
    have k1h := B8u.cell (o := 1) rfl
    have k2h := B8u.cell (o := 2) rfl
    have yh := B8u.lt
    go_upto_region 12 with (go_at_call 17; (with_reducible refine SPO.out.mono ?_); rintro e w10 ⟨rfl, hg10⟩)
    have hbS : Below w5.heap.size uA w10 := (Below.refl _ _).grown hg10 (by have := hb5A.out.size; omega) (fun k hk => (own_block_lt OA9.out k hk).1)
    have hb510 := hb5A.out.trans hbS
    have B10w := B10u.out.keep hg10 (ownsC_ne OA9.out B10u.out (by decide))
    have OB10 : OwnsC W7.heap.size w10 (.slice sb NA cb) CA := by
     refine OB9.out.kept hg10 ?_
     cases hvb : (Value.slice sb NA cb).ownBlock with
     | none => exact .inl rfl
     | some q =>
      refine .inr (fun e => ?_)
      have h1 := LA.out q (by rw [← e])
      have h2 := (own_block_lt OB9.out q hvb).1
      omega
    clear hg10 hbS OA9 OB9 B10u hb5A SPO LA hz79 hzA hbA hcA hcoA hfoA B8u B8a hb59 B10 B2a B6a SM1 CK1 CK2
    clear k0d k1d k2d yd
    clear k0e k1e k2e ye
    clear k0f k1f k2f yf
    clear k0g k1g k2g yg
    clear k0h k1h k2h yh
    have B6b := B6.below hb510 B6.lt
    replace hb510 := Lib.hid hb510
    replace OB10 := Lib.hid OB10
    replace B10w := Lib.hid B10w
    have k0a := B6b.cell (o := 0) rfl
    have k1a := B6b.cell (o := 1) rfl
    have k2a := B6b.cell (o := 2) rfl
    have ya := B6b.lt
    go_upto_region 13 with (go_at_call 12; (with_reducible refine (DRW.out _ hb510.out).mono ?_); rintro e w11 ⟨hb11, vc, rfl, OC⟩; obtain ⟨sc, cc, hvc⟩ := own_slice OC; rw [hNA.out] at hvc; subst hvc)
    obtain ⟨W12, hW12⟩ : ∃ W12, w11.alloc (.cells #[.int .i64 Z1, .int .i64 Z2, .slice sc NA cc] 26) = W12 := ⟨_, rfl⟩
    obtain ⟨b13, hb13⟩ : ∃ b, w11.heap.size = b := ⟨_, rfl⟩
    have B13 : Blk W12 b13 [.int .i64 Z1, .int .i64 Z2, .slice sc NA cc] 26 := by rw [← hW12]; exact Blk.new' hb13.symm
    have hb12 : Below w10.heap.size w10 W12 := by rw [← hW12]; exact hb11.alloc hb11.size _
    have OC12 : OwnsC w10.heap.size W12 (.slice sc NA cc) CA := by rw [← hW12]; exact OC.alloc _
    rw [hW12, hb13]
    clear hW12 hb13 OC hb11 B6b DRW RDW
    clear k0a k1a k2a ya
    have hb5E := hb510.out.trans (hb12.mono hb510.out.size)
    have OBE := OB10.out.below hb12 (Nat.le_refl _)
    have B10e := B10w.out.below hb12 B10w.out.lt
    have B6e := B6.below hb5E B6.lt
    have B2e := B2.below hb5E B2.lt
    have hz5 := hb5E.size
    have S1 := Lib.hid (fun W (h : Below W12.heap.size W12 W) => (show Calls Tryz.prog 14 #[.agg #[.int .i64 (wd), .int .i64 (ht), .slice st n0 ct], .agg #[.int .i64 (wd), .int .i64 (ht), .slice s0 n0 cap0]] W (fun e w' => e = .returned (.bool true) ∧ Below W.heap.size W w') from by
     have h5 := hb5E.trans (h.mono hz5)
     have hh := csame_any wd ht wd ht cs cs (.slice st n0 ct) (.slice s0 n0 cap0) W ((RT.out.below h5).mono h5.size) ((RV.out.below h5).mono h5.size)
     rw [samS_iff.2 ⟨rfl, rfl, rfl⟩] at hh
     exact hh))
    have S2 := Lib.hid (fun W (h : Below W12.heap.size W12 W) => (show Calls Tryz.prog 18 #[.slice (some ⟨gm, om, none⟩) n1 cm, .slice s1 n1 cap1] W (fun e w' => e = .returned (.bool true) ∧ Below W.heap.size W w') from by
     have h5 := hb5E.trans (h.mono hz5)
     have hh := rsame_big xs xs (.slice (some ⟨gm, om, none⟩) n1 cm) (.slice s1 n1 cap1) W ((Rm.out.below h5).mono h5.size) ((RX.out.below h5).mono h5.size) (by rw [en1.out]; omega) (by rw [en1.out]; omega)
     rw [sameL_refl] at hh
     exact hh))
    have S3 := Lib.hid (fun W (h : Below W12.heap.size W12 W) => (show Calls Tryz.prog 14 #[.agg #[.int .i64 (Z1), .int .i64 (Z2), .slice sc NA cc], .agg #[.int .i64 (Z1), .int .i64 (Z2), .slice sb NA cb]] W (fun e w' => e = .returned (.bool true) ∧ Below W.heap.size W w') from by
     have hh := csame_any Z1 Z2 Z1 Z2 CA CA (.slice sc NA cc) (.slice sb NA cb) W ((OC12.below h (Nat.le_refl _)).row (Nat.le_refl _)) ((OBE.below h (Nat.le_refl _)).row (Nat.le_refl _))
     rw [samS_iff.2 ⟨rfl, rfl, rfl⟩] at hh
     exact hh))
    have e77 := (hb5E.cell (p := ⟨gm, om + n1 * 15, none⟩) hgm).trans p77
    have ygm : gm < W12.heap.size := by omega
    have hi1 : (n1 : Int) + 1 ≤ cm := by omega
    have hi2 : (n1 : Int) < n1 + 1 := by omega
    have hi3 : ¬ cm = 0 := by omega
    have hi4 : ¬ (cm : Int) = 0 := by omega
    have hw1 : IntKind.i64.wrap ((n1 : Int) + 1) = (n1 : Int) + 1 := by rw [IntKind.wrap_i64]; omega
    unfold mark15 at e77
    dsimp only at e77
    replace hb5E := Lib.hid hb5E
    clear OC12 OBE RT RV Rm RX RM
    have k0a := B6e.cell (o := 0) rfl
    have k1a := B6e.cell (o := 1) rfl
    have k2a := B6e.cell (o := 2) rfl
    have ya := B6e.lt
    have k0b := B2e.cell (o := 0) rfl
    have k1b := B2e.cell (o := 1) rfl
    have k2b := B2e.cell (o := 2) rfl
    have yb := B2e.lt
    have k0c := B13.cell (o := 0) rfl
    have k1c := B13.cell (o := 1) rfl
    have k2c := B13.cell (o := 2) rfl
    have yc := B13.lt
    have k0d := B10e.cell (o := 0) rfl
    have k1d := B10e.cell (o := 1) rfl
    have k2d := B10e.cell (o := 2) rfl
    have yd := B10e.lt
    go_wp2_with (first
     | (go_at_call 14; (with_reducible refine (S1.out _ (Below.refl _ _)).mono ?_); rintro e w14 ⟨rfl, hb14⟩; obtain ⟨hc14, hf14⟩ := bcell hb14)
     | (go_at_call 18; (with_reducible refine (S2.out _ hb14).mono ?_); rintro e w15 ⟨rfl, hb15⟩; obtain ⟨hc15, hf15⟩ := bcell (hb14.trans (hb15.mono hb14.size)); have hz14 := hb14.size)
     | (go_at_call 14; (with_reducible refine (S3.out _ (hb14.trans (hb15.mono hb14.size))).mono ?_); rintro e w16 ⟨rfl, hb16⟩))
    go_ret
    have z1 := hb05.out.trans (hb5E.out.mono hb05.out.size)
    have z2 := z1.trans (hb14.mono z1.size)
    have z3 := z2.trans (hb15.mono z2.size)
    exact ⟨rfl, z3.trans (hb16.mono z3.size)⟩
end Go.Proofs.YtffmomgmkpmpkaaGreatDoor

namespace Go.Proofs.YtffmomgmkpmpkaaGreatDoor
open Go Go.RowKit Go.ChangeShapes Go.WideShapes Go.Deep Go.Joins
set_option linter.unusedVariables false
set_option linter.unusedSimpArgs false
section
variable {P : Program} {H : Type} {enc : TypeId × Value → H} {w : World} {base : Nat} {spare : Nat → Bool} {held : Bool}
/-- A slice that came in, whatever its elements are: 'dec' says how the cells of one read. -/
theorem open_rowT {α : Type} [Inhabited α] {Ok : α → Prop} {sz : Nat} {encA : α → List Value} {fuel : Nat} {t e : TypeId} {v : Value} {y : DataW H × List MemPlace} (ht : P.underlying t = some (.slice e)) (hC : P.cellsOf e = sz) (hsz : 0 < sz)
  (dec : ∀ (n : Nat) (cs : List Value) (y : DataW H × List MemPlace), cs.length = sz → DataW.trod enc P w base spare held n e cs = some y → ∃ x, Ok x ∧ cs = encA x)
  (hf : DataW.trod enc P w base spare held fuel t [v] = some y) :
  ∃ xs : List α, Row w.heap.size sz encA w v xs ∧ ∀ x ∈ xs, Ok x := by
 rcases open_slice ht hf with ⟨h0, _⟩ | ⟨a', len, cap, m, n, D, Pl, hcs, hb, hl, hm, hmm, hx, hi⟩
 ·simp at h0
  subst h0
  exact ⟨[], ⟨none, 0, rfl, by simp, by unfold maxLen; omega, fun h => by simp at h⟩, by simp⟩
 ·simp at hcs
  subst hcs
  have hlm : len ≤ m := by rw [hmm]; split <;> omega
  have each : ∀ i, i < len → ∃ x : α, Ok x ∧ ∀ k u, (encA x)[k]? = some u → w.cell? ((a'.add (i * sz)).add k) = some u := by
   intro i hil
   obtain ⟨cs', hc, ht'⟩ := hi i (by omega)
   rw [hC] at hc
   obtain ⟨_, hcl, hat⟩ := World.cells?_some hc
   obtain ⟨x, hok, rfl⟩ := dec _ _ _ hcl ht'
   refine ⟨x, hok, fun k u hk => ?_⟩
   have hkl : k < sz := by rw [← hcl]; exact (List.getElem?_eq_some_iff.1 hk).1
   rw [hat k hkl, hk]
  obtain ⟨V, hV⟩ := choose_lt (α := α) (p := fun i x => Ok x ∧ ∀ k u, (encA x)[k]? = some u → w.cell? ((a'.add (i * sz)).add k) = some u) each
  refine ⟨(List.range len).map V, ⟨some a', cap, by simp, by simpa using hl, hm, fun h0 => ?_⟩, fun x hx => ?_⟩
  ·simp only [List.length_map, List.length_range] at h0
   obtain ⟨cs', hc, ht'⟩ := hi 0 (by omega)
   rw [hC] at hc
   obtain ⟨_, hcl, hat⟩ := World.cells?_some hc
   have h1 := hat 0 hsz
   rw [Nat.zero_mul] at h1
   obtain ⟨b, o, x⟩ := a'
   cases x with
   | some x =>
    exfalso
    have e0 : ((⟨b, o, some x⟩ : Addr).add 0).add 0 = ⟨b, o, some x⟩ := rfl
    rw [e0] at h1
    have : cs'[0]? = some (cs'[0]'(by omega)) := List.getElem?_eq_getElem (by omega)
    rw [this] at h1
    simp only [World.cell?] at h1
    split at h1 <;> simp at h1
   | none =>
    refine ⟨b, o, rfl, ?_, fun j x hj i u hi' => ?_⟩
    ·have : cs'[0]? = some (cs'[0]'(by omega)) := List.getElem?_eq_getElem (by omega)
     rw [this] at h1
     exact World.block_lt_of_cell? _ _ h1
    ·obtain ⟨hj', e⟩ := List.getElem?_eq_some_iff.1 hj
     simp at hj' e
     subst e
     have := (hV j hj').2 i u hi'
     rw [add_lit, add_lit] at this
     exact this
  ·obtain ⟨j, hj, rfl⟩ := List.mem_map.1 hx
   exact (hV j (List.mem_range.1 hj)).1
end
section
variable {H : Type} {enc : TypeId × Value → H} {w : World} {base : Nat} {spare : Nat → Bool} {held : Bool}
theorem list11 {cs : List Value} (h : cs.length = 11) : ∃ a b c d e f g i j k l, cs = [a, b, c, d, e, f, g, i, j, k, l] := by
  match cs, h with
  | [a, b, c, d, e, f, g, i, j, k, l], _ => exact ⟨a, b, c, d, e, f, g, i, j, k, l, rfl⟩
theorem cell_of {fuel : Nat} {cs : List Value} {x : DataW H × List MemPlace} (hl : cs.length = 11) (h : DataW.trod enc Tryz.prog w base spare held fuel 52 cs = some x) : ∃ s : Ce, s.Wf ∧ cs = s.enc := by
  obtain ⟨a, b, c, d, e, f, g, i, j, k, l, rfl⟩ := list11 hl
  obtain ⟨m0, y0, h0⟩ := field_of Tryz.underlying52 h 0 0 1 21 _ rfl rfl rfl (by kernel_rfl)
  obtain ⟨m1, y1, h1⟩ := field_of Tryz.underlying52 h 1 1 4 44 _ rfl rfl rfl (by kernel_rfl)
  obtain ⟨m2, y2, h2⟩ := field_of Tryz.underlying52 h 2 5 4 44 _ rfl rfl rfl (by kernel_rfl)
  obtain ⟨m3, y3, h3⟩ := field_of Tryz.underlying52 h 3 9 1 4 _ rfl rfl rfl (by kernel_rfl)
  obtain ⟨m4, y4, h4⟩ := field_of Tryz.underlying52 h 4 10 1 4 _ rfl rfl rfl (by kernel_rfl)
  simp only [List.drop_zero, List.drop_succ_cons, List.take_succ_cons, List.take_zero] at h0 h1 h2 h3 h4
  obtain ⟨n0, e0, z0, wf0⟩ := DataW.trod_int Tryz.underlying21 h0; simp at e0; subst e0
  obtain ⟨c1, w1, e1⟩ := colour_of h1
  obtain ⟨c2, w2, e2⟩ := colour_of h2
  obtain ⟨n3, e3, z3⟩ := DataW.trod_bool Tryz.underlying4 h3; simp at e3; subst e3
  obtain ⟨n4, e4, z4⟩ := DataW.trod_bool Tryz.underlying4 h4; simp at e4; subst e4
  refine ⟨⟨n0, c1, c2, n3, n4⟩, ⟨trivial, w1, w2⟩, ?_⟩
  unfold Ce.enc
  rw [← e1, ← e2]
  rfl
set_option maxRecDepth 100000 in
theorem open_screen {r : Reach} {b0 : Nat} {v : Value} {d : DataW H} {p : List MemPlace} (hv : Value.okWide Tryz.prog w r b0 26 v) (h : DataW.Trod enc Tryz.prog w base spare held 26 v d p) :
    ∃ (wd ht : Int) (u : Value) (cs : List Ce), v = .agg #[.int .i64 (wd), .int .i64 (ht), u] ∧ I64 wd ∧ I64 ht ∧ Row w.heap.size 11 Ce.enc w u cs ∧ CeL cs := by
  obtain ⟨cs, rfl, hsz⟩ := okWide_struct Tryz.underlying26 hv
  obtain ⟨l⟩ := cs
  obtain ⟨fuel, hf⟩ := h
  have hl : l.length = 3 := by
    have hc : Tryz.prog.cellsOf 26 = 3 := by kernel_rfl
    rw [← hc, ← hsz]; simp
  obtain ⟨a, b, c, rfl⟩ : ∃ a b c, l = [a, b, c] := by
    match l, hl with
    | [a, b, c], _ => exact ⟨a, b, c, rfl⟩
  simp only [Value.cells] at hf
  obtain ⟨m0, y0, h0⟩ := field_of Tryz.underlying26 hf 0 0 2 23 _ rfl rfl rfl (by kernel_rfl)
  obtain ⟨m1, y1, h1⟩ := field_of Tryz.underlying26 hf 1 2 1 24 _ rfl rfl rfl (by kernel_rfl)
  simp only [List.drop_zero, List.drop_succ_cons, List.take_succ_cons, List.take_zero] at h0 h1
  obtain ⟨wd, ht, ww, wh, rfl, rfl⟩ := size_of h0
  obtain ⟨cs, hr, hwf⟩ := open_rowT (sz := 11) (encA := Ce.enc) (Ok := Ce.Wf) Tryz.underlying24 (by kernel_rfl) (by omega) (fun n cs y hl ht => cell_of hl ht) h1
  exact ⟨wd, ht, c, cs, rfl, ww, wh, hr, hwf⟩
/-- The library's tables are there, as the card tells. -/
theorem dec_of_laid {L : List (String × DataW Unit)} {W : World} {D1 D2 : DataW Unit} (h : laidMet Tryz.prog L W) (h3 : ("unicode/utf8.first", D1) ∈ L) (e3 : D1 = Lib.firstData) (h4 : ("unicode/utf8.acceptRanges", D2) ∈ L) (e4 : D2 = Lib.acceptData) : DecT W := by
  subst e3 e4
  exact utf8Tabs_of_readsT (ρ := Tryz.lays197_ren) ⟨Tryz.underlying5, by kernel_rfl, by kernel_rfl, by kernel_rfl⟩ ⟨by kernel_rfl, by kernel_rfl, by kernel_rfl, by kernel_rfl, by kernel_rfl, by kernel_rfl, by kernel_rfl⟩ (Lib.laidMet.reads h h3) (Lib.laidMet.reads h h4)
theorem dig_of_laid {L : List (String × DataW Unit)} {W : World} {D : DataW Unit} (h : laidMet Tryz.prog L W) (hm : ("internal/strconv.uint64pow10", D) ∈ L) (hd' : D = Lib.tabData .u64 Lib.pow10Tab) : DigT W := by
  obtain ⟨g, t, cs, fuel, p, hg, ht, hv, hd⟩ := Lib.laidMet.reads h hm
  have hT : (Tryz.prog.globalNamed "internal/strconv.uint64pow10").bind (fun g => (Tryz.prog.globals[g]?).map (·.type)) = some 240 := by kernel_rfl
  rw [hg] at hT
  simp only [Option.bind_some] at hT
  rw [ht] at hT
  obtain rfl := Option.some.inj hT
  rw [hd'] at hd
  unfold DigT Lib.TabIs
  rw [hv, ← Lib.cells_of_tab (n := 20) Tryz.underlying240 Tryz.underlying206 (by kernel_rfl) (by kernel_rfl) hd]
end
end Go.Proofs.YtffmomgmkpmpkaaGreatDoor
