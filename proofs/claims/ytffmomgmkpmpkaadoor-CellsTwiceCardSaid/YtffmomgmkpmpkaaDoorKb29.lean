/-
  The walk of the law CellsBack.
-/
import Derived.Lib.LaidU8T
import Derived.Lib.SlicesCompact
import Derived.SizedLaws
import Derived.Test.YtffmomgmkpmpkaaDoorProg
import Derived.Test.YtffmomgmkpmpkaaDoorKb25
import Derived.Test.YtffmomgmkpmpkaaDoorKb27
import Derived.Test.YtffmomgmkpmpkaaDoorKb28
namespace Go.Proofs.YtffmomgmkpmpkaaDoor
open Go.RowKit
set_option linter.unusedVariables false
attribute [local go_sem] vwp vUpon_value vUpon_skip vUpon_enter vUpon_row
set_option linter.unusedSimpArgs false
set_option linter.unusedVariables false
attribute [local go_sem high] neq_size
theorem tens_step {l : List UInt8} {k : Nat} {c : UInt8} (h : l[k]? = some c) : tens (l.take (k + 1)) = tens (l.take k) + (if c = 10 then 1 else 0) := by
  rw [List.take_add_one, h, tens_app]
  congr 1
  show tens [c] = _
  unfold tens
  by_cases hc : c = 10
  · subst hc; rfl
  · rw [if_neg hc, List.filter_cons, if_neg (by simpa using hc)]; rfl
theorem tens_le (l : List UInt8) : tens l ≤ l.length := List.length_filter_le _ _
set_option maxHeartbeats 16000000 in
set_option maxRecDepth 100000 in
theorem walk_CellsBack (wd ht : Int) (cs : List Ce) (v : Value) (we he : Int) (ds : List Ce) (u : Value) (w : World) (h1 : I64 wd) (h2 : I64 ht) (hl : Row w.heap.size 11 Ce.enc w v cs) (h3 : I64 we) (h4 : I64 he) (hm : Row w.heap.size 11 Ce.enc w u ds) (hw : CeL ds) (hD : DigT w) (hE : DecT w) :
  Calls Tryd.prog 3 #[.agg #[.int .i64 (wd), .int .i64 (ht), v], .agg #[.int .i64 (we), .int .i64 (he), u]] w fun e w' => e = .returned (.bool true) ∧ Below w.heap.size w w' := by
 obtain ⟨s0, cap0, rfl, hmax0⟩ := hl.shape
 obtain ⟨s1, cap1, rfl, hmax1⟩ := hm.shape
 obtain ⟨n0, en0⟩ : ∃ n, cs.length = n := ⟨_, rfl⟩
 obtain ⟨n1, en1⟩ : ∃ n, ds.length = n := ⟨_, rfl⟩
 have hl0 := hl
 have hm0 := hm
 rw [en0] at hl0 hmax0 ⊢
 rw [en1] at hm0 hmax1 ⊢
 clear hl hm
 unfold maxLen at hmax0 hmax1
 replace hl0 := Lib.hid hl0
 replace hm0 := Lib.hid hm0
 replace hD := Lib.hid hD
 replace hE := Lib.hid hE
 replace hw := Lib.hid hw
 replace en0 := Lib.hid en0
 replace en1 := Lib.hid en1
 go_enter Tryd.func3, Tryd.ntmps3
 go_upto_region 1 with fail
 obtain ⟨W0, hW0⟩ : ∃ W0, (w.alloc (.cells #[.int .i64 wd, .int .i64 ht, .slice s0 n0 cap0] 26)).alloc (.cells #[.int .i64 we, .int .i64 he, .slice s1 n1 cap1] 26) = W0 := ⟨_, rfl⟩
 obtain ⟨b2, hb2⟩ : ∃ b, w.heap.size = b := ⟨_, rfl⟩
 have B2 : Blk W0 b2 [.int .i64 wd, .int .i64 ht, .slice s0 n0 cap0] 26 := by rw [← hW0]; exact (Blk.new' hb2.symm).alloc _
 have B3 : Blk W0 (b2 + 1) [.int .i64 we, .int .i64 he, .slice s1 n1 cap1] 26 := by rw [← hW0]; exact Blk.new' (by simp; omega)
 have hb0 : Below w.heap.size w W0 := by rw [← hW0]; exact belt
 rw [hW0, hb2]
 clear hW0
 replace hb2 := Lib.hid hb2
 have AW := Lib.hid (awake_any W0 (hD.out.below hb0 (Nat.le_refl _)) (hE.out.below hb0 (Nat.le_refl _)))
 replace hb0 := Lib.hid hb0
 go_upto_region 4 with (go_at_call 5; (with_reducible refine AW.out.mono ?_); rintro e w1 ⟨rfl, hb1⟩)
 replace B2 := B2.below hb1 B2.lt
 replace B3 := B3.below hb1 B3.lt
 have hb01 := hb0.out.trans (hb1.mono hb0.out.size)
 clear AW hb0 hb1
 have LG := fun q (hq : Below w1.heap.size w1 q) => large_any wd ht cs (.slice s0 n0 cap0) q ((hl0.out.below (hb01.trans (hq.mono hb01.size))).mono (by have := hb01.size; have := hq.size; omega))
 have LH := fun q (hq : Below w1.heap.size w1 q) => large_any we he ds (.slice s1 n1 cap1) q ((hm0.out.below (hb01.trans (hq.mono hb01.size))).mono (by have := hb01.size; have := hq.size; omega))
 simp only [en0.out] at LG
 simp only [en1.out] at LH
 replace LG := Lib.hid LG
 replace LH := Lib.hid LH
 replace hb01 := Lib.hid hb01
 have k0a := B2.cell (o := 0) rfl
 have k1a := B2.cell (o := 1) rfl
 have k2a := B2.cell (o := 2) rfl
 have ya := B2.lt
 have k0b := B3.cell (o := 0) rfl
 have k1b := B3.cell (o := 1) rfl
 have k2b := B3.cell (o := 2) rfl
 have yb := B3.lt
 by_cases g0 : 600 < n0
 ·have g0i : decide (600 < n0) = true := decide_eq_true g0
  go_wp2_with (first
   | (go_at_call 6; (with_reducible refine (LG.out w1 (Below.refl _ _)).mono ?_); rintro e w2 ⟨rfl, hb2'⟩; obtain ⟨hc2, hf2⟩ := bcell hb2'; have z2 := hb2'.size)
   | (go_at_call 6; (with_reducible refine (LH.out _ hb2').mono ?_); rintro e w3 ⟨rfl, hb3'⟩; replace hb2' := hb2'.trans (hb3'.mono z2); clear hc2 hf2; obtain ⟨hc2, hf2⟩ := bcell hb2'))
  go_ret
  exact ⟨rfl, hb01.out.trans (hb2'.mono hb01.out.size)⟩
 ·have g0i : decide (600 < n0) = false := decide_eq_false g0
  by_cases g1 : 600 < n1
  ·have g1i : decide (600 < n1) = true := decide_eq_true g1
   go_wp2_with (first
    | (go_at_call 6; (with_reducible refine (LG.out w1 (Below.refl _ _)).mono ?_); rintro e w2 ⟨rfl, hb2'⟩; obtain ⟨hc2, hf2⟩ := bcell hb2'; have z2 := hb2'.size)
    | (go_at_call 6; (with_reducible refine (LH.out _ hb2').mono ?_); rintro e w3 ⟨rfl, hb3'⟩; replace hb2' := hb2'.trans (hb3'.mono z2); clear hc2 hf2; obtain ⟨hc2, hf2⟩ := bcell hb2'))
   go_ret
   exact ⟨rfl, hb01.out.trans (hb2'.mono hb01.out.size)⟩
  ·have g1i : decide (600 < n1) = false := decide_eq_false g1
   go_upto_region 6 with (first
    | (go_at_call 6; (with_reducible refine (LG.out w1 (Below.refl _ _)).mono ?_); rintro e w2 ⟨rfl, hb2'⟩; obtain ⟨hc2, hf2⟩ := bcell hb2'; have z2 := hb2'.size)
    | (go_at_call 6; (with_reducible refine (LH.out _ hb2').mono ?_); rintro e w3 ⟨rfl, hb3'⟩; replace hb2' := hb2'.trans (hb3'.mono z2); clear hc2 hf2; obtain ⟨hc2, hf2⟩ := bcell hb2'))
   obtain ⟨w2, rfl⟩ : ∃ w2, w2 = w3 := ⟨_, rfl⟩
   clear hc2 hf2 hb3' z2
   clear k0a k1a k2a ya
   clear k0b k1b k2b yb
   replace B2 := B2.below hb2' B2.lt
   replace B3 := B3.below hb2' B3.lt
   have hb02 := hb01.out.trans (hb2'.mono hb01.out.size)
   clear LG LH hb01 hb2'
   have RV := (hl0.out.below hb02).mono hb02.size
   have RU := (hm0.out.below hb02).mono hb02.size
   have hD2 := hD.out.below hb02 (Nat.le_refl _)
   have hE2 := hE.out.below hb02 (Nat.le_refl _)
   clear hl0 hm0 hD hE
   have RUN := cruns_any wd ht cs (.slice s0 n0 cap0) we he ds (.slice s1 n1 cap1) w2 h1 h2 h3 h4 RV RU
   obtain ⟨K1, hK1⟩ : ∃ k, chkS wd ht cs = k := ⟨_, rfl⟩
   obtain ⟨K2, hK2⟩ : ∃ k, chkS we he ds = k := ⟨_, rfl⟩
   by_cases k1 : K1 = 0
   ·subst k1
    by_cases k2 : K2 = 0
    ·subst k2
     by_cases e1 : wd = we
     ·by_cases e2 : ht = he
      ·subst e1 e2
       obtain ⟨q1, q2, q3, q4, q5, q6, o, q7, q8, q9⟩ := back_law hK1 hK2 hw.out (by rw [en0.out]; omega)
       obtain ⟨hfit, hlen, hall⟩ := chkS_zero hK2
       obtain ⟨z0, z1, z2, z3, z4⟩ := fitsS_true.1 hfit
       obtain ⟨RL, hRL⟩ : ∃ l, runsL wd ht cs wd ht ds = l := ⟨_, rfl⟩
       rw [hRL] at q4 q5 q6 q7
       rw [q3, hRL] at RUN
       have pE : putE wd ht cs RL = 0 := by
        unfold putE
        rw [if_pos hK1, if_neg (by omega), if_pos (List.all_eq_true.2 (fun r hr => (q4 r hr).1))]
       have pZ1 : putZ wd wd ht cs RL = wd := if_pos pE
       have pZ2 : putZ ht wd ht cs RL = ht := if_pos pE
       have pC : putC wd ht cs RL = ds := by unfold putC; rw [if_pos pE]; exact q6
       have eT : escT RL = strL o := by unfold escT; rw [q7]; rfl
       have eE : escE RL = 0 := by unfold escE; rw [q7]
       have rw_ : ∀ r ∈ RL, RnWf r := by
        intro r hr
        obtain ⟨f1, f2⟩ := q4 r hr
        obtain ⟨g1, _, _, _⟩ := fitR_true.1 f1
        obtain ⟨p1, p2, p3, p4⟩ := plcS_true.1 g1
        unfold RnWf I64
        exact ⟨by omega, by omega, f2⟩
       have tE : txtS wd ht ds = strL (txtL wd ht ds) := by unfold txtS; rw [if_pos hK2]; rfl
       have tN : tens (txtL wd ht ds) = ht.toNat := txtGo_tens hall _ _
       obtain ⟨TX, hTX⟩ : ∃ t, txtL wd ht ds = t := ⟨_, rfl⟩
       rw [hTX] at tE tN
       obtain ⟨NR, hNR⟩ : ∃ n, RL.length = n := ⟨_, rfl⟩
       rw [hNR] at q5
       replace RUN := Lib.hid RUN
       replace hNR := Lib.hid hNR
       clear hall q6 q7 hRL
       replace q1 := Lib.hid q1
       replace q2 := Lib.hid q2
       replace q9 := Lib.hid q9
       replace pE := Lib.hid pE
       replace pZ1 := Lib.hid pZ1
       replace pZ2 := Lib.hid pZ2
       replace pC := Lib.hid pC
       replace eT := Lib.hid eT
       replace eE := Lib.hid eE
       replace tE := Lib.hid tE
       replace tN := Lib.hid tN
       replace q4 := Lib.hid q4
       replace rw_ := Lib.hid rw_
       replace hTX := Lib.hid hTX
       replace hlen := Lib.hid hlen
       replace hD2 := Lib.hid hD2
       replace hE2 := Lib.hid hE2
       replace RV := Lib.hid RV
       replace RU := Lib.hid RU
       replace hb02 := Lib.hid hb02
       clear g0 g0i g1 g1i
       have k0a := B2.cell (o := 0) rfl
       have k1a := B2.cell (o := 1) rfl
       have k2a := B2.cell (o := 2) rfl
       have ya := B2.lt
       have k0b := B3.cell (o := 0) rfl
       have k1b := B3.cell (o := 1) rfl
       have k2b := B3.cell (o := 2) rfl
       have yb := B3.lt
       go_upto_region 7 with (go_at_call 7; (with_reducible refine RUN.out.mono ?_); rintro e w3 ⟨hb3', vr, rfl, OR⟩; obtain ⟨sr, cr, hvr⟩ := RunRows.slice OR; rw [hNR.out] at hvr; subst hvr)
       clear k0a k1a k2a ya
       clear k0b k1b k2b yb
       have z3' := hb3'.size
       have B2a := B2.below hb3' B2.lt
       have B3a := B3.below hb3' B3.lt
       have C1 := ccheck_any wd ht cs (.slice s0 n0 cap0) w3 h1 h2 ((RV.out.below hb3').mono z3')
       have C2 := fun q (hu : Below w3.heap.size w3 q) => ccheck_any wd ht ds (.slice s1 n1 cap1) q h1 h2 ((RU.out.below (hb3'.trans (hu.mono z3'))).mono (by have := hu.size; omega))
       rw [hK1] at C1
       simp only [hK2] at C2
       replace C1 := Lib.hid C1
       replace C2 := Lib.hid C2
       have k0a := B2a.cell (o := 0) rfl
       have k1a := B2a.cell (o := 1) rfl
       have k2a := B2a.cell (o := 2) rfl
       have ya := B2a.lt
       have k0b := B3a.cell (o := 0) rfl
       have k1b := B3a.cell (o := 1) rfl
       have k2b := B3a.cell (o := 2) rfl
       have yb := B3a.lt
       go_upto_region 9 with (first
        | (go_at_call 8; (with_reducible refine C1.out.mono ?_); rintro e w4 ⟨rfl, hb4'⟩; obtain ⟨hc4, hf4⟩ := bcell hb4'; have z4' := hb4'.size)
        | (go_at_call 8; (with_reducible refine (C2.out _ hb4').mono ?_); rintro e w5 ⟨rfl, hb5'⟩; have hb35 := hb4'.trans (hb5'.mono z4'); clear hc4 hf4; obtain ⟨hc4, hf4⟩ := bcell hb35; have z5' := hb5'.size))
       clear k0a k1a k2a ya
       clear k0b k1b k2b yb
       clear hc4 hf4 C1 C2 RUN
       have hb25 := hb3'.trans (hb35.mono z3')
       have z25 := hb25.size
       have OR5 := OR.below hb35 (Nat.le_refl _)
       clear hb4' hb5' hb35 OR z4' z5'
       replace B2 := B2.below hb25 B2.lt
       replace B3 := B3.below hb25 B3.lt
       have R2 := cruns_any wd ht cs (.slice s0 n0 cap0) wd ht cs (.slice s0 n0 cap0) w5 h1 h2 h1 h2 ((RV.out.below hb25).mono z25) ((RV.out.below hb25).mono z25)
       rw [q1.out, q2.out] at R2
       replace R2 := Lib.hid R2
       replace OR5 := Lib.hid OR5
       have k0a := B2.cell (o := 0) rfl
       have k1a := B2.cell (o := 1) rfl
       have k2a := B2.cell (o := 2) rfl
       have ya := B2.lt
       go_upto_region 10 with (go_at_call 7; (with_reducible refine R2.out.mono ?_); rintro e w6 ⟨hb6', vn, rfl, ON⟩; obtain ⟨sn, cn, hvn⟩ := RunRows.slice ON; subst hvn)
       clear k0a k1a k2a ya
       have hb26 := hb25.trans (hb6'.mono z25)
       have z26 := hb26.size
       have OR6 := OR5.out.below hb6' (Nat.le_refl _)
       clear R2 OR5 ON hb3'
       replace B2 := B2.below hb6' B2.lt
       replace B3 := B3.below hb6' B3.lt
       clear hb6' hb25
       have PT := cput_any wd ht cs (.slice s0 n0 cap0) RL (.slice sr NR cr) w6 h1 h2 ((RV.out.below hb26).mono z26) (OR6.at_ (Nat.le_refl _)) rw_.out
       rw [pE.out, pZ1.out, pZ2.out, pC.out] at PT
       replace PT := Lib.hid PT
       replace OR6 := Lib.hid OR6
       have k0a := B2.cell (o := 0) rfl
       have k1a := B2.cell (o := 1) rfl
       have k2a := B2.cell (o := 2) rfl
       have ya := B2.lt
       go_upto_region 11 with (go_at_call 9; (with_reducible refine PT.out.mono ?_); rintro e w7 ⟨hb7', vc, rfl, OC⟩; obtain ⟨sc, cc, hvc⟩ := own_slice OC; rw [en1.out] at hvc; subst hvc)
       obtain ⟨W8, hW8⟩ : ∃ W, w7.alloc (.cells #[.int .i64 wd, .int .i64 ht, .slice sc n1 cc] 26) = W := ⟨_, rfl⟩
       obtain ⟨b10, hb10⟩ : ∃ b, w7.heap.size = b := ⟨_, rfl⟩
       have B10 : Blk W8 b10 [.int .i64 wd, .int .i64 ht, .slice sc n1 cc] 26 := by rw [← hW8]; exact Blk.new' hb10.symm
       have hb8 : Below w6.heap.size w6 W8 := by rw [← hW8]; exact hb7'.alloc hb7'.size _
       have OC8 : OwnsC w6.heap.size W8 (.slice sc n1 cc) ds := by rw [← hW8]; exact OC.alloc _
       rw [hW8, hb10]
       clear hW8 hb10 OC hb7'
       clear k0a k1a k2a ya
       have z8 := hb8.size
       have hb28 := hb26.trans (hb8.mono z26)
       have OR8 := OR6.out.below hb8 (Nat.le_refl _)
       replace B2 := B2.below hb8 B2.lt
       replace B3 := B3.below hb8 B3.lt
       have z28 := hb28.size
       have ES := cescapes_any RL (.slice sr NR cr) W8 (OR8.at_ (Nat.le_refl _)) rw_.out (hD2.out.below hb28 (Nat.le_refl _))
       rw [eT.out, eE.out] at ES
       replace ES := Lib.hid ES
       replace OC8 := Lib.hid OC8
       replace B10 := Lib.hid B10
       clear PT OR6 OR8 hb26
       go_upto_region 12 with (go_at_call 10; (with_reducible refine ES.out.mono ?_); rintro e w9 ⟨rfl, hb9'⟩)
       have OC9 := OC8.out.below hb9' (Nat.le_refl _)
       have B10a := B10.out.below hb9' B10.out.lt
       replace B2 := B2.below hb9' B2.lt
       replace B3 := B3.below hb9' B3.lt
       have hb29 := hb28.trans (hb9'.mono z28)
       have z29 := hb29.size
       have hb69 := hb8.trans (hb9'.mono z8)
       clear hb9' hb8 hb28 ES OC8 B10
       have RD : Calls Tryd.prog 11 #[.agg #[.int .i64 (wd), .int .i64 (ht), .slice s0 n0 cap0], .string (strL o)] w9 (fun e w' => Below w9.heap.size w9 w' ∧ ∃ v, e = .returned (.tuple #[.agg #[.int .i64 (wd), .int .i64 (ht), v], .int .i64 0, .int .i64 0]) ∧ OwnsC w9.heap.size w' v ds) := by
        have h := cread_any wd ht cs (.slice s0 n0 cap0) o w9 h1 h2 ((RV.out.below hb29).mono z29) (by omega) (hE2.out.below hb29 (Nat.le_refl _))
        rw [q9.out] at h
        exact h
       obtain ⟨SO, hSO⟩ : ∃ s, strL o = s := ⟨_, rfl⟩
       rw [hSO] at RD ⊢
       clear hSO
       replace RD := Lib.hid RD
       replace OC9 := Lib.hid OC9
       replace B10a := Lib.hid B10a
       have k0a := B2.cell (o := 0) rfl
       have k1a := B2.cell (o := 1) rfl
       have k2a := B2.cell (o := 2) rfl
       have ya := B2.lt
       go_upto_region 13 with (go_at_call 11; (with_reducible refine RD.out.mono ?_); rintro e w10 ⟨hb10', vd, rfl, OE⟩; obtain ⟨sd, cd, hvd⟩ := own_slice OE; rw [en1.out] at hvd; subst hvd)
       obtain ⟨W11, hW11⟩ : ∃ W, w10.alloc (.cells #[.int .i64 wd, .int .i64 ht, .slice sd n1 cd] 26) = W := ⟨_, rfl⟩
       obtain ⟨b14, hb14⟩ : ∃ b, w10.heap.size = b := ⟨_, rfl⟩
       have B14 : Blk W11 b14 [.int .i64 wd, .int .i64 ht, .slice sd n1 cd] 26 := by rw [← hW11]; exact Blk.new' hb14.symm
       have hb11 : Below w9.heap.size w9 W11 := by rw [← hW11]; exact hb10'.alloc hb10'.size _
       have OE11 : OwnsC w9.heap.size W11 (.slice sd n1 cd) ds := by rw [← hW11]; exact OE.alloc _
       rw [hW11, hb14]
       clear hW11 hb14 OE hb10'
       clear k0a k1a k2a ya
       have OC11 := OC9.out.below hb11 (Nat.le_refl _)
       have B10b := B10a.out.below hb11 B10a.out.lt
       replace B3 := B3.below hb11 B3.lt
       have hb211 := hb29.trans (hb11.mono z29)
       have z211 := hb211.size
       clear hb11 RD OC9 B10a hb29 B2
       have TXT := ctext_any wd ht ds (.slice s1 n1 cap1) W11 h1 h2 ((RU.out.below hb211).mono z211)
       rw [tE.out, hK2] at TXT
       obtain ⟨ST, hST⟩ : ∃ s, strL TX = s := ⟨_, rfl⟩
       rw [hST] at TXT
       have hSz : ST.size = TX.length := by rw [← hST]; exact strL_size _
       replace TXT := Lib.hid TXT
       replace OE11 := Lib.hid OE11
       replace OC11 := Lib.hid OC11
       replace B14 := Lib.hid B14
       replace B10b := Lib.hid B10b
       have k0a := B3.cell (o := 0) rfl
       have k1a := B3.cell (o := 1) rfl
       have k2a := B3.cell (o := 2) rfl
       have ya := B3.lt
       go_upto_region 14 with (go_at_call 12; (with_reducible refine TXT.out.mono ?_); rintro e w12 ⟨rfl, hb12'⟩)
       clear k0a k1a k2a ya
       have OC12 := OC11.out.below hb12' (Nat.le_refl _)
       have OE12 := OE11.out.below hb12' (Nat.le_refl _)
       have B10c := B10b.out.below hb12' B10b.out.lt
       have B14c := B14.out.below hb12' B14.out.lt
       replace B3 := B3.below hb12' B3.lt
       have hb212 := hb211.trans (hb12'.mono z211)
       have z212 := hb212.size
       clear hb12' hb211 TXT OC11 OE11 B10b B14
       obtain ⟨LT, hLT⟩ : ∃ n, TX.length = n := ⟨_, rfl⟩
       rw [hLT] at hSz
       have hTl : LT ≤ 1100000000 := by
        rw [← hLT, ← hTX.out]
        have h := txtGo_len wd.toNat ds ht.toNat 0
        have h2 : ht.toNat * (4 * wd.toNat + 1) ≤ 16384 * 65537 := Nat.mul_le_mul (by omega) (by omega)
        exact Nat.le_trans h (Nat.le_trans h2 (by decide))
       replace hST := Lib.hid hST
       replace hLT := Lib.hid hLT
       have S1 := Lib.hid (fun q (hq : Below w12.heap.size w12 q) => (show Calls Tryd.prog 13 #[.agg #[.int .i64 (wd), .int .i64 (ht), .slice sc n1 cc], .agg #[.int .i64 (wd), .int .i64 (ht), .slice s1 n1 cap1]] q (fun e w' => e = .returned (.bool true) ∧ Below q.heap.size q w') from by
        have h5 := hb212.trans (hq.mono z212)
        have hh := csame_any wd ht wd ht ds ds (.slice sc n1 cc) (.slice s1 n1 cap1) q ((OC12.below hq (Nat.le_refl _)).row (Nat.le_refl _)) ((RU.out.below h5).mono h5.size)
        rw [samS_iff.2 ⟨rfl, rfl, rfl⟩] at hh
        exact hh))
       have S2 := Lib.hid (fun q (hq : Below w12.heap.size w12 q) => (show Calls Tryd.prog 13 #[.agg #[.int .i64 (wd), .int .i64 (ht), .slice sd n1 cd], .agg #[.int .i64 (wd), .int .i64 (ht), .slice s1 n1 cap1]] q (fun e w' => e = .returned (.bool true) ∧ Below q.heap.size q w') from by
        have h5 := hb212.trans (hq.mono z212)
        have hh := csame_any wd ht wd ht ds ds (.slice sd n1 cd) (.slice s1 n1 cap1) q ((OE12.below hq (Nat.le_refl _)).row (Nat.le_refl _)) ((RU.out.below h5).mono h5.size)
        rw [samS_iff.2 ⟨rfl, rfl, rfl⟩] at hh
        exact hh))
       replace hb212 := Lib.hid hb212
       clear OC12 OE12 q8 hlen hw en0 en1 RV RU
       go_upto_region 18 with fail
       go_loopw [19, 20] (fun ev kv wr => ∃ k : Nat, k ≤ LT ∧ kv = .int .i64 k ∧ ev = .int .i64 (tens (TX.take k)) ∧ w12 = wr) (fun _ kv _ => LT - (intOf kv).toNat)
       case atStart => exact ⟨0, Nat.zero_le _, rfl, rfl, rfl⟩
       case round =>
        obtain ⟨k, hk, rfl, rfl, rfl⟩ := hrel
        by_cases hkl : k < LT
        ·have hki : (k : Int) < LT := by omega
         obtain ⟨c, hc⟩ := get_at hLT.out hkl
         have X1 := bAt_eq (s := ST) (i := k) (by omega)
         have hcb : bAt ST k = c.toNat := by rw [← hST.out]; exact bAt_get hc
         have hts := tens_step hc
         have htl := tens_le (TX.take k)
         rw [List.length_take] at htl
         obtain ⟨t, htt⟩ : ∃ t, tens (TX.take k) = t := ⟨_, rfl⟩
         rw [htt] at hts htl ⊢
         have htk : t ≤ k := by omega
         by_cases hc10 : c = 10
         ·have hcq : ((c.toNat : Int) == 10) = true := by rw [hc10]; rfl
          rw [if_pos hc10] at hts
          replace hts := Lib.hid hts
          go_wp2
          exact ⟨⟨k + 1, by omega, by go_num, by rw [hts.out]; rfl, trivial⟩, by simp [intOf]; omega⟩
         ·have hcq : ((c.toNat : Int) == 10) = false := by simp; intro h; exact hc10 (UInt8.toNat_inj.1 (by show c.toNat = 10; omega))
          rw [if_neg hc10, Nat.add_zero] at hts
          replace hts := Lib.hid hts
          go_wp2
          exact ⟨⟨k + 1, by omega, by go_num, by first | (rw [hts.out]; done) | (rw [hts.out]; rfl) | exact congrArg Nat.cast hts.out.symm | exact hts.out.symm, trivial⟩, by simp [intOf]; omega⟩
        ·obtain rfl : k = LT := by omega
         have hki : ¬ (k : Int) < k := by omega
         have hte : ((tens (TX.take k) : Nat) : Int) = ht := by
          rw [List.take_of_length_le (by rw [hLT.out]; exact Nat.le_refl _), tN.out, Int.toNat_of_nonneg z1]
         rw [hte]
         clear hte
         have k0a := B3.cell (o := 0) rfl
         have k1a := B3.cell (o := 1) rfl
         have k2a := B3.cell (o := 2) rfl
         have ya := B3.lt
         have k0b := B10c.cell (o := 0) rfl
         have k1b := B10c.cell (o := 1) rfl
         have k2b := B10c.cell (o := 2) rfl
         have yb := B10c.lt
         have k0c := B14c.cell (o := 0) rfl
         have k1c := B14c.cell (o := 1) rfl
         have k2c := B14c.cell (o := 2) rfl
         have yc := B14c.lt
         go_wp2_with (first
          | (go_at_call 13; (with_reducible refine (S1.out _ (Below.refl _ _)).mono ?_); rintro e w13 ⟨rfl, hb13'⟩; obtain ⟨hc13, hf13⟩ := bcell hb13'; have z13 := hb13'.size)
          | (go_at_call 13; (with_reducible refine (S2.out _ hb13').mono ?_); rintro e w14 ⟨rfl, hb14'⟩; have hb1214 := hb13'.trans (hb14'.mono z13); clear hc13 hf13; obtain ⟨hc13, hf13⟩ := bcell hb1214))
         go_ret
         have z5 := hb02.out.trans (hb212.out.mono hb02.out.size)
         exact ⟨rfl, z5.trans (hb1214.mono z5.size)⟩
      ·have e2b : (ht == he) = false := by simpa using e2
       replace e1 := Lib.hid e1
       have hR0 : runsOk wd ht cs we he ds = false := by unfold runsOk; simp [*]
       have hE1 : runsE wd ht cs we he ds = 150 := by unfold runsE; rw [if_neg (by simp [hR0])]
       have hL1 : runsL wd ht cs we he ds = [] := by unfold runsL; rw [if_neg (by simp [hR0])]
       rw [hE1, hL1] at RUN
       replace RUN := Lib.hid RUN
       have k0a := B2.cell (o := 0) rfl
       have k1a := B2.cell (o := 1) rfl
       have k2a := B2.cell (o := 2) rfl
       have ya := B2.lt
       have k0b := B3.cell (o := 0) rfl
       have k1b := B3.cell (o := 1) rfl
       have k2b := B3.cell (o := 2) rfl
       have yb := B3.lt
       go_upto_region 7 with (go_at_call 7; (with_reducible refine RUN.out.mono ?_); rintro e w3 ⟨hb3', vr, rfl, OR⟩; obtain ⟨sr, cr, hvr⟩ := RunRows.slice OR; subst hvr)
       clear k0a k1a k2a ya
       clear k0b k1b k2b yb
       have B2a := B2.below hb3' B2.lt
       have B3a := B3.below hb3' B3.lt
       have C1 := ccheck_any wd ht cs (.slice s0 n0 cap0) w3 h1 h2 ((RV.below hb3').mono hb3'.size)
       have C2 := fun u (hu : Below w3.heap.size w3 u) => ccheck_any we he ds (.slice s1 n1 cap1) u h3 h4 ((RU.below (hb3'.trans (hu.mono hb3'.size))).mono (by have := hb3'.size; have := hu.size; omega))
       rw [hK1] at C1
       simp only [hK2] at C2
       replace C1 := Lib.hid C1
       replace C2 := Lib.hid C2
       have k0a := B2a.cell (o := 0) rfl
       have k1a := B2a.cell (o := 1) rfl
       have k2a := B2a.cell (o := 2) rfl
       have ya := B2a.lt
       have k0b := B3a.cell (o := 0) rfl
       have k1b := B3a.cell (o := 1) rfl
       have k2b := B3a.cell (o := 2) rfl
       have yb := B3a.lt
       go_wp2_with (first
        | (go_at_call 8; (with_reducible refine C1.out.mono ?_); rintro e w4 ⟨rfl, hb4'⟩; obtain ⟨hc4, hf4⟩ := bcell hb4'; have hbF := hb02.trans ((hb3'.trans (hb4'.mono hb3'.size)).mono hb02.size); have z4 := hb4'.size)
        | (go_at_call 8; (with_reducible refine (C2.out _ hb4').mono ?_); rintro e w5 ⟨rfl, hb5'⟩; have hb35 := hb4'.trans (hb5'.mono z4); clear hc4 hf4; obtain ⟨hc4, hf4⟩ := bcell hb35; replace hbF := hbF.trans (hb5'.mono hbF.size)))
       go_ret
       exact ⟨rfl, hbF⟩
     ·have e1b : (wd == we) = false := by simpa using e1
      have hR0 : runsOk wd ht cs we he ds = false := by unfold runsOk; simp [*]
      have hE1 : runsE wd ht cs we he ds = 150 := by unfold runsE; rw [if_neg (by simp [hR0])]
      have hL1 : runsL wd ht cs we he ds = [] := by unfold runsL; rw [if_neg (by simp [hR0])]
      rw [hE1, hL1] at RUN
      replace RUN := Lib.hid RUN
      have k0a := B2.cell (o := 0) rfl
      have k1a := B2.cell (o := 1) rfl
      have k2a := B2.cell (o := 2) rfl
      have ya := B2.lt
      have k0b := B3.cell (o := 0) rfl
      have k1b := B3.cell (o := 1) rfl
      have k2b := B3.cell (o := 2) rfl
      have yb := B3.lt
      go_upto_region 7 with (go_at_call 7; (with_reducible refine RUN.out.mono ?_); rintro e w3 ⟨hb3', vr, rfl, OR⟩; obtain ⟨sr, cr, hvr⟩ := RunRows.slice OR; subst hvr)
      clear k0a k1a k2a ya
      clear k0b k1b k2b yb
      have B2a := B2.below hb3' B2.lt
      have B3a := B3.below hb3' B3.lt
      have C1 := ccheck_any wd ht cs (.slice s0 n0 cap0) w3 h1 h2 ((RV.below hb3').mono hb3'.size)
      have C2 := fun u (hu : Below w3.heap.size w3 u) => ccheck_any we he ds (.slice s1 n1 cap1) u h3 h4 ((RU.below (hb3'.trans (hu.mono hb3'.size))).mono (by have := hb3'.size; have := hu.size; omega))
      rw [hK1] at C1
      simp only [hK2] at C2
      replace C1 := Lib.hid C1
      replace C2 := Lib.hid C2
      have k0a := B2a.cell (o := 0) rfl
      have k1a := B2a.cell (o := 1) rfl
      have k2a := B2a.cell (o := 2) rfl
      have ya := B2a.lt
      have k0b := B3a.cell (o := 0) rfl
      have k1b := B3a.cell (o := 1) rfl
      have k2b := B3a.cell (o := 2) rfl
      have yb := B3a.lt
      go_wp2_with (first
       | (go_at_call 8; (with_reducible refine C1.out.mono ?_); rintro e w4 ⟨rfl, hb4'⟩; obtain ⟨hc4, hf4⟩ := bcell hb4'; have hbF := hb02.trans ((hb3'.trans (hb4'.mono hb3'.size)).mono hb02.size); have z4 := hb4'.size)
       | (go_at_call 8; (with_reducible refine (C2.out _ hb4').mono ?_); rintro e w5 ⟨rfl, hb5'⟩; have hb35 := hb4'.trans (hb5'.mono z4); clear hc4 hf4; obtain ⟨hc4, hf4⟩ := bcell hb35; replace hbF := hbF.trans (hb5'.mono hbF.size)))
      go_ret
      exact ⟨rfl, hbF⟩
    ·have k2b : (K2 == 0) = false := by simpa using k2
     have hR0 : runsOk wd ht cs we he ds = false := by unfold runsOk; simp [*]
     have hE1 : runsE wd ht cs we he ds = 150 := by unfold runsE; rw [if_neg (by simp [hR0])]
     have hL1 : runsL wd ht cs we he ds = [] := by unfold runsL; rw [if_neg (by simp [hR0])]
     rw [hE1, hL1] at RUN
     replace RUN := Lib.hid RUN
     have k0a := B2.cell (o := 0) rfl
     have k1a := B2.cell (o := 1) rfl
     have k2a := B2.cell (o := 2) rfl
     have ya := B2.lt
     have k0b := B3.cell (o := 0) rfl
     have k1b := B3.cell (o := 1) rfl
     have k2b := B3.cell (o := 2) rfl
     have yb := B3.lt
     go_upto_region 7 with (go_at_call 7; (with_reducible refine RUN.out.mono ?_); rintro e w3 ⟨hb3', vr, rfl, OR⟩; obtain ⟨sr, cr, hvr⟩ := RunRows.slice OR; subst hvr)
     clear k0a k1a k2a ya
     clear k0b k1b k2b yb
     have B2a := B2.below hb3' B2.lt
     have B3a := B3.below hb3' B3.lt
     have C1 := ccheck_any wd ht cs (.slice s0 n0 cap0) w3 h1 h2 ((RV.below hb3').mono hb3'.size)
     have C2 := fun u (hu : Below w3.heap.size w3 u) => ccheck_any we he ds (.slice s1 n1 cap1) u h3 h4 ((RU.below (hb3'.trans (hu.mono hb3'.size))).mono (by have := hb3'.size; have := hu.size; omega))
     rw [hK1] at C1
     simp only [hK2] at C2
     replace C1 := Lib.hid C1
     replace C2 := Lib.hid C2
     have k0a := B2a.cell (o := 0) rfl
     have k1a := B2a.cell (o := 1) rfl
     have k2a := B2a.cell (o := 2) rfl
     have ya := B2a.lt
     have k0b := B3a.cell (o := 0) rfl
     have k1b := B3a.cell (o := 1) rfl
     have k2b := B3a.cell (o := 2) rfl
     have yb := B3a.lt
     go_wp2_with (first
      | (go_at_call 8; (with_reducible refine C1.out.mono ?_); rintro e w4 ⟨rfl, hb4'⟩; obtain ⟨hc4, hf4⟩ := bcell hb4'; have hbF := hb02.trans ((hb3'.trans (hb4'.mono hb3'.size)).mono hb02.size); have z4 := hb4'.size)
      | (go_at_call 8; (with_reducible refine (C2.out _ hb4').mono ?_); rintro e w5 ⟨rfl, hb5'⟩; have hb35 := hb4'.trans (hb5'.mono z4); clear hc4 hf4; obtain ⟨hc4, hf4⟩ := bcell hb35; replace hbF := hbF.trans (hb5'.mono hbF.size)))
     go_ret
     exact ⟨rfl, hbF⟩
   ·have k1b : (K1 == 0) = false := by simpa using k1
    have hR0 : runsOk wd ht cs we he ds = false := by unfold runsOk; simp [*]
    have hE1 : runsE wd ht cs we he ds = 150 := by unfold runsE; rw [if_neg (by simp [hR0])]
    have hL1 : runsL wd ht cs we he ds = [] := by unfold runsL; rw [if_neg (by simp [hR0])]
    rw [hE1, hL1] at RUN
    replace RUN := Lib.hid RUN
    have k0a := B2.cell (o := 0) rfl
    have k1a := B2.cell (o := 1) rfl
    have k2a := B2.cell (o := 2) rfl
    have ya := B2.lt
    have k0b := B3.cell (o := 0) rfl
    have k1b := B3.cell (o := 1) rfl
    have k2b := B3.cell (o := 2) rfl
    have yb := B3.lt
    go_upto_region 7 with (go_at_call 7; (with_reducible refine RUN.out.mono ?_); rintro e w3 ⟨hb3', vr, rfl, OR⟩; obtain ⟨sr, cr, hvr⟩ := RunRows.slice OR; subst hvr)
    clear k0a k1a k2a ya
    clear k0b k1b k2b yb
    have B2a := B2.below hb3' B2.lt
    have B3a := B3.below hb3' B3.lt
    have C1 := ccheck_any wd ht cs (.slice s0 n0 cap0) w3 h1 h2 ((RV.below hb3').mono hb3'.size)
    have C2 := fun u (hu : Below w3.heap.size w3 u) => ccheck_any we he ds (.slice s1 n1 cap1) u h3 h4 ((RU.below (hb3'.trans (hu.mono hb3'.size))).mono (by have := hb3'.size; have := hu.size; omega))
    rw [hK1] at C1
    simp only [hK2] at C2
    replace C1 := Lib.hid C1
    replace C2 := Lib.hid C2
    have k0a := B2a.cell (o := 0) rfl
    have k1a := B2a.cell (o := 1) rfl
    have k2a := B2a.cell (o := 2) rfl
    have ya := B2a.lt
    have k0b := B3a.cell (o := 0) rfl
    have k1b := B3a.cell (o := 1) rfl
    have k2b := B3a.cell (o := 2) rfl
    have yb := B3a.lt
    go_wp2_with (first
     | (go_at_call 8; (with_reducible refine C1.out.mono ?_); rintro e w4 ⟨rfl, hb4'⟩; obtain ⟨hc4, hf4⟩ := bcell hb4'; have hbF := hb02.trans ((hb3'.trans (hb4'.mono hb3'.size)).mono hb02.size); have z4 := hb4'.size)
     | (go_at_call 8; (with_reducible refine (C2.out _ hb4').mono ?_); rintro e w5 ⟨rfl, hb5'⟩; have hb35 := hb4'.trans (hb5'.mono z4); clear hc4 hf4; obtain ⟨hc4, hf4⟩ := bcell hb35; replace hbF := hbF.trans (hb5'.mono hbF.size)))
    go_ret
    exact ⟨rfl, hbF⟩
end Go.Proofs.YtffmomgmkpmpkaaDoor

namespace Go.Proofs.YtffmomgmkpmpkaaDoor
open Go Go.RowKit Go.ChangeShapes Go.WideShapes Go.Deep Go.Joins
set_option linter.unusedVariables false
set_option linter.unusedSimpArgs false
section
variable {P : Program} {H : Type} {enc : TypeId × Value → H} {w : World} {base : Nat} {spare : Nat → Bool} {held : Bool}
/-- A slice that came in, whatever its elements are: 'dec' says how the cells of one read. -/
theorem open_rowT {α : Type} [Inhabited α] {Ok : α → Prop} {sz : Nat} {encA : α → List Value} {fuel : Nat} {t e : TypeId} {v : Value} {y : DataW H × List MemPlace} (ht : P.underlying t = some (.slice e)) (hC : P.cellsOf e = sz) (hsz : 0 < sz)
  (dec : ∀ (n : Nat) (cs : List Value) (y : DataW H × List MemPlace), cs.length = sz → DataW.trod enc P w base spare held n e cs = some y → ∃ x, Ok x ∧ cs = encA x)
  (hf : DataW.trod enc P w base spare held fuel t [v] = some y) :
  ∃ xs : List α, Row w.heap.size sz encA w v xs ∧ ∀ x ∈ xs, Ok x := by
 rcases open_slice ht hf with ⟨h0, _⟩ | ⟨a', len, cap, m, n, D, Pl, hcs, hb, hl, hm, hmm, hx, hi⟩
 ·simp at h0
  subst h0
  exact ⟨[], ⟨none, 0, rfl, by simp, by unfold maxLen; omega, fun h => by simp at h⟩, by simp⟩
 ·simp at hcs
  subst hcs
  have hlm : len ≤ m := by rw [hmm]; split <;> omega
  have each : ∀ i, i < len → ∃ x : α, Ok x ∧ ∀ k u, (encA x)[k]? = some u → w.cell? ((a'.add (i * sz)).add k) = some u := by
   intro i hil
   obtain ⟨cs', hc, ht'⟩ := hi i (by omega)
   rw [hC] at hc
   obtain ⟨_, hcl, hat⟩ := World.cells?_some hc
   obtain ⟨x, hok, rfl⟩ := dec _ _ _ hcl ht'
   refine ⟨x, hok, fun k u hk => ?_⟩
   have hkl : k < sz := by rw [← hcl]; exact (List.getElem?_eq_some_iff.1 hk).1
   rw [hat k hkl, hk]
  obtain ⟨V, hV⟩ := choose_lt (α := α) (p := fun i x => Ok x ∧ ∀ k u, (encA x)[k]? = some u → w.cell? ((a'.add (i * sz)).add k) = some u) each
  refine ⟨(List.range len).map V, ⟨some a', cap, by simp, by simpa using hl, hm, fun h0 => ?_⟩, fun x hx => ?_⟩
  ·simp only [List.length_map, List.length_range] at h0
   obtain ⟨cs', hc, ht'⟩ := hi 0 (by omega)
   rw [hC] at hc
   obtain ⟨_, hcl, hat⟩ := World.cells?_some hc
   have h1 := hat 0 hsz
   rw [Nat.zero_mul] at h1
   obtain ⟨b, o, x⟩ := a'
   cases x with
   | some x =>
    exfalso
    have e0 : ((⟨b, o, some x⟩ : Addr).add 0).add 0 = ⟨b, o, some x⟩ := rfl
    rw [e0] at h1
    have : cs'[0]? = some (cs'[0]'(by omega)) := List.getElem?_eq_getElem (by omega)
    rw [this] at h1
    simp only [World.cell?] at h1
    split at h1 <;> simp at h1
   | none =>
    refine ⟨b, o, rfl, ?_, fun j x hj i u hi' => ?_⟩
    ·have : cs'[0]? = some (cs'[0]'(by omega)) := List.getElem?_eq_getElem (by omega)
     rw [this] at h1
     exact World.block_lt_of_cell? _ _ h1
    ·obtain ⟨hj', e⟩ := List.getElem?_eq_some_iff.1 hj
     simp at hj' e
     subst e
     have := (hV j hj').2 i u hi'
     rw [add_lit, add_lit] at this
     exact this
  ·obtain ⟨j, hj, rfl⟩ := List.mem_map.1 hx
   exact (hV j (List.mem_range.1 hj)).1
end
section
variable {H : Type} {enc : TypeId × Value → H} {w : World} {base : Nat} {spare : Nat → Bool} {held : Bool}
theorem list11 {cs : List Value} (h : cs.length = 11) : ∃ a b c d e f g i j k l, cs = [a, b, c, d, e, f, g, i, j, k, l] := by
  match cs, h with
  | [a, b, c, d, e, f, g, i, j, k, l], _ => exact ⟨a, b, c, d, e, f, g, i, j, k, l, rfl⟩
theorem cell_of {fuel : Nat} {cs : List Value} {x : DataW H × List MemPlace} (hl : cs.length = 11) (h : DataW.trod enc Tryd.prog w base spare held fuel 60 cs = some x) : ∃ s : Ce, s.Wf ∧ cs = s.enc := by
  obtain ⟨a, b, c, d, e, f, g, i, j, k, l, rfl⟩ := list11 hl
  obtain ⟨m0, y0, h0⟩ := field_of Tryd.underlying60 h 0 0 1 21 _ rfl rfl rfl (by kernel_rfl)
  obtain ⟨m1, y1, h1⟩ := field_of Tryd.underlying60 h 1 1 4 48 _ rfl rfl rfl (by kernel_rfl)
  obtain ⟨m2, y2, h2⟩ := field_of Tryd.underlying60 h 2 5 4 48 _ rfl rfl rfl (by kernel_rfl)
  obtain ⟨m3, y3, h3⟩ := field_of Tryd.underlying60 h 3 9 1 4 _ rfl rfl rfl (by kernel_rfl)
  obtain ⟨m4, y4, h4⟩ := field_of Tryd.underlying60 h 4 10 1 4 _ rfl rfl rfl (by kernel_rfl)
  simp only [List.drop_zero, List.drop_succ_cons, List.take_succ_cons, List.take_zero] at h0 h1 h2 h3 h4
  obtain ⟨n0, e0, z0, wf0⟩ := DataW.trod_int Tryd.underlying21 h0; simp at e0; subst e0
  obtain ⟨c1, w1, e1⟩ := colour_of h1
  obtain ⟨c2, w2, e2⟩ := colour_of h2
  obtain ⟨n3, e3, z3⟩ := DataW.trod_bool Tryd.underlying4 h3; simp at e3; subst e3
  obtain ⟨n4, e4, z4⟩ := DataW.trod_bool Tryd.underlying4 h4; simp at e4; subst e4
  refine ⟨⟨n0, c1, c2, n3, n4⟩, ⟨trivial, w1, w2⟩, ?_⟩
  unfold Ce.enc
  rw [← e1, ← e2]
  rfl
set_option maxRecDepth 100000 in
theorem open_screen {r : Reach} {b0 : Nat} {v : Value} {d : DataW H} {p : List MemPlace} (hv : Value.okWide Tryd.prog w r b0 26 v) (h : DataW.Trod enc Tryd.prog w base spare held 26 v d p) :
    ∃ (wd ht : Int) (u : Value) (cs : List Ce), v = .agg #[.int .i64 (wd), .int .i64 (ht), u] ∧ I64 wd ∧ I64 ht ∧ Row w.heap.size 11 Ce.enc w u cs ∧ CeL cs := by
  obtain ⟨cs, rfl, hsz⟩ := okWide_struct Tryd.underlying26 hv
  obtain ⟨l⟩ := cs
  obtain ⟨fuel, hf⟩ := h
  have hl : l.length = 3 := by
    have hc : Tryd.prog.cellsOf 26 = 3 := by kernel_rfl
    rw [← hc, ← hsz]; simp
  obtain ⟨a, b, c, rfl⟩ : ∃ a b c, l = [a, b, c] := by
    match l, hl with
    | [a, b, c], _ => exact ⟨a, b, c, rfl⟩
  simp only [Value.cells] at hf
  obtain ⟨m0, y0, h0⟩ := field_of Tryd.underlying26 hf 0 0 2 23 _ rfl rfl rfl (by kernel_rfl)
  obtain ⟨m1, y1, h1⟩ := field_of Tryd.underlying26 hf 1 2 1 24 _ rfl rfl rfl (by kernel_rfl)
  simp only [List.drop_zero, List.drop_succ_cons, List.take_succ_cons, List.take_zero] at h0 h1
  obtain ⟨wd, ht, ww, wh, rfl, rfl⟩ := size_of h0
  obtain ⟨cs, hr, hwf⟩ := open_rowT (sz := 11) (encA := Ce.enc) (Ok := Ce.Wf) Tryd.underlying24 (by kernel_rfl) (by omega) (fun n cs y hl ht => cell_of hl ht) h1
  exact ⟨wd, ht, c, cs, rfl, ww, wh, hr, hwf⟩
/-- The library's tables are there, as the card tells. -/
theorem dec_of_laid {L : List (String × DataW Unit)} {W : World} {D1 D2 : DataW Unit} (h : laidMet Tryd.prog L W) (h3 : ("unicode/utf8.first", D1) ∈ L) (e3 : D1 = Lib.firstData) (h4 : ("unicode/utf8.acceptRanges", D2) ∈ L) (e4 : D2 = Lib.acceptData) : DecT W := by
  subst e3 e4
  exact utf8Tabs_of_readsT (ρ := Tryd.lays197_ren) ⟨Tryd.underlying5, by kernel_rfl, by kernel_rfl, by kernel_rfl⟩ ⟨by kernel_rfl, by kernel_rfl, by kernel_rfl, by kernel_rfl, by kernel_rfl, by kernel_rfl, by kernel_rfl⟩ (Lib.laidMet.reads h h3) (Lib.laidMet.reads h h4)
theorem dig_of_laid {L : List (String × DataW Unit)} {W : World} {D : DataW Unit} (h : laidMet Tryd.prog L W) (hm : ("internal/strconv.uint64pow10", D) ∈ L) (hd' : D = Lib.tabData .u64 Lib.pow10Tab) : DigT W := by
  obtain ⟨g, t, cs, fuel, p, hg, ht, hv, hd⟩ := Lib.laidMet.reads h hm
  have hT : (Tryd.prog.globalNamed "internal/strconv.uint64pow10").bind (fun g => (Tryd.prog.globals[g]?).map (·.type)) = some 173 := by kernel_rfl
  rw [hg] at hT
  simp only [Option.bind_some] at hT
  rw [ht] at hT
  obtain rfl := Option.some.inj hT
  rw [hd'] at hd
  unfold DigT Lib.TabIs
  rw [hv, ← Lib.cells_of_tab (n := 20) Tryd.underlying173 Tryd.underlying152 (by kernel_rfl) (by kernel_rfl) hd]
end
end Go.Proofs.YtffmomgmkpmpkaaDoor
