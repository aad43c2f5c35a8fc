/-
  Cells: a list drawn on a screen, by the document's answer: plain part and opening. (Under way.)
-/
import Derived.Test.YtfcphagmjijmkaaGreatDoorDm21
namespace Go.Proofs.YtfcphagmjijmkaaGreatDoor
open Go.RowKit
set_option linter.unusedVariables false
set_option linter.unusedSimpArgs false
attribute [local go_sem] vwp vUpon_value vUpon_skip vUpon_enter vUpon_row
set_option maxHeartbeats 16000000
def WriOk (gf : ByteArray → List (List Gl)) : Prop := ∀ (t : ByteArray) (w : World), t.size ≤ 65536 → Calls Tryz.prog 127 #[.string t] w fun e w' => Below w.heap.size w w' ∧ ∃ v, e = .returned v ∧ GridO w' w.heap.size v (gf t)
def upK (N : Nat) (r : Re) (k : Nat) (j : Nat) : Bool := decide (j < k) && hasR r ((j % N : Nat) : Int) ((j / N : Nat) : Int)
theorem upK_start {N : Nat} {r : Re} (j : Nat) : upK N r 0 j = false := by simp [upK]
theorem upK_yes {N : Nat} {r : Re} {k : Nat} (h : hasR r ((k % N : Nat) : Int) ((k / N : Nat) : Int) = true) (j : Nat) : upK N r (k + 1) j = (upK N r k j || j == k) := by
 unfold upK
 by_cases hj : j = k
 ·subst hj
  rw [h]
  simp
 ·have h1 : (j == k) = false := by simp [hj]
  have h2 : decide (j < k + 1) = decide (j < k) := by
   by_cases h : j < k
   ·rw [decide_eq_true h, decide_eq_true (by omega)]
   ·rw [decide_eq_false h, decide_eq_false (by omega)]
  rw [h1, h2, Bool.or_false]
theorem upK_no {N : Nat} {r : Re} {k : Nat} (h : hasR r ((k % N : Nat) : Int) ((k / N : Nat) : Int) = false) (j : Nat) : upK N r (k + 1) j = upK N r k j := by
 unfold upK
 by_cases hj : j = k
 ·subst hj; rw [h]; simp
 ·have h2 : decide (j < k + 1) = decide (j < k) := by
   by_cases h : j < k
   ·rw [decide_eq_true h, decide_eq_true (by omega)]
   ·rw [decide_eq_false h, decide_eq_false (by omega)]
  rw [h2]
theorem strokeD_upK {N n : Nat} {s : St} {g : List (List Gl)} {r : Re} {cs : List Ce} (hl : cs.length = n) :
  updP (upK N r n) (fun k c => madeC c s g ((k % N : Nat) : Int) ((k / N : Nat) : Int)) cs = strokeD N s g r cs := by
 unfold strokeD; refine updP_congr (fun k hk => ?_); unfold upK; rw [decide_eq_true (by omega), Bool.true_and]
set_option maxRecDepth 100000 in
theorem khas1_any (q : Re) (x y : Int) (w : World) (hm : mayR q = true) : Calls Tryz.prog 56 #[.agg #[.int .i64 (q).x, .int .i64 (q).y, .int .i64 (q).wd, .int .i64 (q).ht], .agg #[.int .i64 (x), .int .i64 (y)]] w fun e w' => e = .returned (.bool (hasR q x y)) ∧ Below w.heap.size w w' := by
 obtain ⟨R, hR⟩ := exx (hasR q x y); rw [hR]; have hbd := may_bd hm
 have EM := fun w => kempty1_any q w (may_wf hm)
 have RT := fun w => kright_any q w hm
 have BL := fun w => kbelow_any q w hm
 have hex : emptyR q = true → R = false := fun h => by rw [← hR]; exact has_of_empty hm h
 unfold hasR at hR; obtain ⟨qx, qy, qw, qh⟩ := q; dsimp only at hR EM RT BL hbd ⊢; obtain ⟨eb, heb⟩ := exx (emptyR ⟨qx, qy, qw, qh⟩); rw [heb] at EM hex; obtain ⟨RX, hRX⟩ := exx (qx + qw); obtain ⟨RY, hRY⟩ := exx (qy + qh); rw [hRX] at hR RT; rw [hRY] at hR BL; clear hRX hRY heb hm; replace EM := hdh EM; replace RT := hdh RT; replace BL := hdh BL
 go_enter Tryz.func56, Tryz.ntmps56
 go_upto_region 1 with fail
 obtain ⟨W1, hW1⟩ := exx ((w.alloc (.cells #[.int .i64 qx, .int .i64 qy, .int .i64 qw, .int .i64 qh] 32)).alloc (.cells #[.int .i64 x, .int .i64 y] 30))
 have B0 : Blk W1 w.heap.size [.int .i64 qx, .int .i64 qy, .int .i64 qw, .int .i64 qh] 32 := by rw [← hW1]; exact (Blk.new' rfl).alloc _
 have B1 : Blk W1 (w.heap.size + 1) [.int .i64 x, .int .i64 y] 30 := by rw [← hW1]; exact Blk.new' (by simp)
 have hbw : Below w.heap.size w W1 := by rw [← hW1]; exact belt
 rw [hW1]; clear hW1; have y0 := B0.lt; have y1 := B1.lt; have c0 := B0.cell (o := 0) rfl; have c1 := B0.cell (o := 1) rfl; have c2 := B0.cell (o := 2) rfl; have c3 := B0.cell (o := 3) rfl; have c4 := B1.cell (o := 0) rfl; have c5 := B1.cell (o := 1) rfl
 cases eb
 ·by_cases a1 : qx ≤ x
  ·by_cases a2 : x < RX
   ·by_cases a3 : qy ≤ y
    ·by_cases a4 : y < RY
     ·have : R = true := by rw [← hR]; simp [a1, a2, a3, a4]
      subst this; clear hR hex; refine rst (Held W1 0 []) ?_
      repeat (first | (refine' wpSteady_do _ _ _; rotate_left; (focus rfl); (focus (intro w1 hS R hR; have hc := hS.cells; simp only [Cells] at hc; obtain ⟨hco, hfo⟩ := bcell hS.old; go_simp; (try go_bits); first | exact hR _ hS | ((go_at_call 106; (with_reducible refine cmm (RT.out _) fun w2 hb2 => ?_); exact ⟨_, rfl, hR _ (hS.below hb2)⟩)) | ((go_at_call 107; (with_reducible refine cmm (BL.out _) fun w2 hb2 => ?_); exact ⟨_, rfl, hR _ (hS.below hb2)⟩)) | ((go_at_call 105; (with_reducible refine cmm (EM.out _) fun w2 hb2 => ?_); exact ⟨_, rfl, hR _ (hS.below hb2)⟩)))); simp only [pu]) | (refine spa ?_; simp only [pu]))
      refine wpSteady_nil (fun uA hSA => ?_); obtain ⟨hcA, hbA, hzA, hcoA, hfoA⟩ := hall hSA; clear hSA; simp only [Cells] at hcA; go_wp2; go_ret; exact ⟨rfl, hbw.trans (hbA.mono hbw.size)⟩
     ·have : R = false := by rw [← hR]; simp [a4]
      subst this; clear hR hex; refine rst (Held W1 0 []) ?_
      repeat (first | (refine' wpSteady_do _ _ _; rotate_left; (focus rfl); (focus (intro w1 hS R hR; have hc := hS.cells; simp only [Cells] at hc; obtain ⟨hco, hfo⟩ := bcell hS.old; go_simp; (try go_bits); first | exact hR _ hS | ((go_at_call 106; (with_reducible refine cmm (RT.out _) fun w2 hb2 => ?_); exact ⟨_, rfl, hR _ (hS.below hb2)⟩)) | ((go_at_call 107; (with_reducible refine cmm (BL.out _) fun w2 hb2 => ?_); exact ⟨_, rfl, hR _ (hS.below hb2)⟩)) | ((go_at_call 105; (with_reducible refine cmm (EM.out _) fun w2 hb2 => ?_); exact ⟨_, rfl, hR _ (hS.below hb2)⟩)))); simp only [pu]) | (refine spa ?_; simp only [pu]))
      refine wpSteady_nil (fun uA hSA => ?_); obtain ⟨hcA, hbA, hzA, hcoA, hfoA⟩ := hall hSA; clear hSA; simp only [Cells] at hcA; go_wp2; go_ret; exact ⟨rfl, hbw.trans (hbA.mono hbw.size)⟩
    ·have : R = false := by rw [← hR]; simp [a3]
     subst this; clear hR hex; refine rst (Held W1 0 []) ?_
     repeat (first | (refine' wpSteady_do _ _ _; rotate_left; (focus rfl); (focus (intro w1 hS R hR; have hc := hS.cells; simp only [Cells] at hc; obtain ⟨hco, hfo⟩ := bcell hS.old; go_simp; (try go_bits); first | exact hR _ hS | ((go_at_call 106; (with_reducible refine cmm (RT.out _) fun w2 hb2 => ?_); exact ⟨_, rfl, hR _ (hS.below hb2)⟩)) | ((go_at_call 107; (with_reducible refine cmm (BL.out _) fun w2 hb2 => ?_); exact ⟨_, rfl, hR _ (hS.below hb2)⟩)) | ((go_at_call 105; (with_reducible refine cmm (EM.out _) fun w2 hb2 => ?_); exact ⟨_, rfl, hR _ (hS.below hb2)⟩)))); simp only [pu]) | (refine spa ?_; simp only [pu]))
     refine wpSteady_nil (fun uA hSA => ?_); obtain ⟨hcA, hbA, hzA, hcoA, hfoA⟩ := hall hSA; clear hSA; simp only [Cells] at hcA; go_wp2; go_ret; exact ⟨rfl, hbw.trans (hbA.mono hbw.size)⟩
   ·have : R = false := by rw [← hR]; simp [a2]
    subst this; clear hR hex; refine rst (Held W1 0 []) ?_
    repeat (first | (refine' wpSteady_do _ _ _; rotate_left; (focus rfl); (focus (intro w1 hS R hR; have hc := hS.cells; simp only [Cells] at hc; obtain ⟨hco, hfo⟩ := bcell hS.old; go_simp; (try go_bits); first | exact hR _ hS | ((go_at_call 106; (with_reducible refine cmm (RT.out _) fun w2 hb2 => ?_); exact ⟨_, rfl, hR _ (hS.below hb2)⟩)) | ((go_at_call 107; (with_reducible refine cmm (BL.out _) fun w2 hb2 => ?_); exact ⟨_, rfl, hR _ (hS.below hb2)⟩)) | ((go_at_call 105; (with_reducible refine cmm (EM.out _) fun w2 hb2 => ?_); exact ⟨_, rfl, hR _ (hS.below hb2)⟩)))); simp only [pu]) | (refine spa ?_; simp only [pu]))
    refine wpSteady_nil (fun uA hSA => ?_); obtain ⟨hcA, hbA, hzA, hcoA, hfoA⟩ := hall hSA; clear hSA; simp only [Cells] at hcA; go_wp2; go_ret; exact ⟨rfl, hbw.trans (hbA.mono hbw.size)⟩
  ·have : R = false := by rw [← hR]; simp [a1]
   subst this; clear hR hex; refine rst (Held W1 0 []) ?_
   repeat (first | (refine' wpSteady_do _ _ _; rotate_left; (focus rfl); (focus (intro w1 hS R hR; have hc := hS.cells; simp only [Cells] at hc; obtain ⟨hco, hfo⟩ := bcell hS.old; go_simp; (try go_bits); first | exact hR _ hS | ((go_at_call 106; (with_reducible refine cmm (RT.out _) fun w2 hb2 => ?_); exact ⟨_, rfl, hR _ (hS.below hb2)⟩)) | ((go_at_call 107; (with_reducible refine cmm (BL.out _) fun w2 hb2 => ?_); exact ⟨_, rfl, hR _ (hS.below hb2)⟩)) | ((go_at_call 105; (with_reducible refine cmm (EM.out _) fun w2 hb2 => ?_); exact ⟨_, rfl, hR _ (hS.below hb2)⟩)))); simp only [pu]) | (refine spa ?_; simp only [pu]))
   refine wpSteady_nil (fun uA hSA => ?_); obtain ⟨hcA, hbA, hzA, hcoA, hfoA⟩ := hall hSA; clear hSA; simp only [Cells] at hcA; go_wp2; go_ret; exact ⟨rfl, hbw.trans (hbA.mono hbw.size)⟩
 ·have : R = false := hex rfl
  subst this; clear hR hex; refine rst (Held W1 0 []) ?_
  repeat (first | (refine' wpSteady_do _ _ _; rotate_left; (focus rfl); (focus (intro w1 hS R hR; have hc := hS.cells; simp only [Cells] at hc; obtain ⟨hco, hfo⟩ := bcell hS.old; go_simp; (try go_bits); first | exact hR _ hS | ((go_at_call 106; (with_reducible refine cmm (RT.out _) fun w2 hb2 => ?_); exact ⟨_, rfl, hR _ (hS.below hb2)⟩)) | ((go_at_call 107; (with_reducible refine cmm (BL.out _) fun w2 hb2 => ?_); exact ⟨_, rfl, hR _ (hS.below hb2)⟩)) | ((go_at_call 105; (with_reducible refine cmm (EM.out _) fun w2 hb2 => ?_); exact ⟨_, rfl, hR _ (hS.below hb2)⟩)))); simp only [pu]) | (refine spa ?_; simp only [pu]))
  refine wpSteady_nil (fun uA hSA => ?_); obtain ⟨hcA, hbA, hzA, hcoA, hfoA⟩ := hall hSA; clear hSA; simp only [Cells] at hcA; go_wp2; go_ret; exact ⟨rfl, hbw.trans (hbA.mono hbw.size)⟩
set_option maxRecDepth 100000 in
theorem crdraw_any (gf : ByteArray → List (List Gl)) (GL : WriOk gf) (wd ht : Int) (cs : List Ce) (v : Value) (xs : List St) (vx : Value) (w : World) (h1 : I64 wd) (h2 : I64 ht) (hl : Row w.heap.size 11 Ce.enc w v cs) (hc : CeL cs) (hx : Row w.heap.size 15 St.enc w vx xs) (k1 : ∀ s ∈ xs, s.Wf) :
  Calls Tryz.prog 79 #[.agg #[.int .i64 (wd), .int .i64 (ht), v], vx] w (OutS w.heap.size (drawE wd ht cs xs) (drawZ wd wd ht cs xs) (drawZ ht wd ht cs xs) (drawC gf wd ht cs xs) w) := by
 have C1 := fun w1 (hb : Below w.heap.size w w1) => crcheck_any wd ht cs v w1 h1 h2 ((hl.below hb).mono hb.size)
 have C2 := fun w1 (hb : Below w.heap.size w w1) => kflat_any xs vx w1 ((hx.below hb).mono hb.size) k1
 obtain ⟨s0, cap, rfl, hmax⟩ := hl.shape; obtain ⟨E, hE⟩ := exx (drawE wd ht cs xs); obtain ⟨Z1, hZ1⟩ := exx (drawZ wd wd ht cs xs); obtain ⟨Z2, hZ2⟩ := exx (drawZ ht wd ht cs xs); obtain ⟨RC, hRC⟩ := exx (drawC gf wd ht cs xs); rw [hE, hZ1, hZ2, hRC]; unfold drawC at hRC; unfold drawZ at hZ1 hZ2; rw [hE] at hZ1 hZ2 hRC; unfold drawE at hE; have hl0 := hdh hl; obtain ⟨n, en⟩ := exx (cs.length); rw [en] at hl0 C1 hmax ⊢; clear hl hx
 go_enter Tryz.func79, Tryz.ntmps79
 go_upto_region 1 with fail
 obtain ⟨W, hW⟩ := exx ((w.alloc (.cells #[.int .i64 wd, .int .i64 ht, .slice s0 n cap] 40)).alloc (.cells #[.int .i64 0, .int .i64 0, .slice none 0 0] 40))
 have B2 : Blk W w.heap.size [.int .i64 wd, .int .i64 ht, .slice s0 n cap] 40 := by rw [← hW]; exact (Blk.new' rfl).alloc _
 have B4 : Blk W (w.heap.size + 1) [.int .i64 0, .int .i64 0, .slice none 0 0] 40 := by rw [← hW]; exact Blk.new' (by simp)
 have hbw : Below w.heap.size w W := by rw [← hW]; exact belt
 rw [hW]; clear hW; have yB2 := B2.lt; have yB4 := B4.lt; have q0 := B2.cell (o := 0) rfl; have q1 := B2.cell (o := 1) rfl; have q2 := B2.cell (o := 2) rfl; replace C1 := hdh (C1 W hbw)
 rcases chkS_cases wd ht cs with e0 | e0
 ·rw [e0] at C1
  rw [if_pos e0] at hE
  go_upto_region 4 with (go_at_call 76; (with_reducible refine cmm C1.out fun w1 hb1 => ?_))
  replace B2 := B2.below hb1 yB2; replace B4 := B4.below hb1 yB4; replace hbw := hbw.trans (hb1.mono hbw.size); replace C2 := C2 w1 hbw; clear q0 q1 q2 C1 hb1 yB2 yB4; have yB2 := B2.lt; have yB4 := B4.lt; rw [hE] at C2
  by_cases e1 : E = 0
  ·subst e1
   rw [if_pos rfl] at hZ1 hZ2 hRC; subst hZ1 hZ2; obtain ⟨hfit, hlen, hall⟩ := chkS_zero e0; obtain ⟨z0, z1, z2, z3, z4⟩ := fitsS_true.1 hfit; obtain ⟨N, rfl⟩ : ∃ N : Nat, wd = N := ⟨wd.toNat, by omega⟩; obtain ⟨M, rfl⟩ : ∃ M : Nat, ht = M := ⟨ht.toNat, by omega⟩; rw [Int.toNat_natCast] at hRC
   have hnm : n = N * M := by
    have h : ((cs.length : Nat) : Int) = ((N * M : Nat) : Int) := by rw [hlen, Int.natCast_mul]
    rw [← en]; exact Int.ofNat.inj h
   replace hnm := hdh hnm
   have hN : N ≤ 16384 := by omega
   have hM : M ≤ 16384 := by omega
   have hn2 : n ≤ 262144 := by
    have h : (n : Int) ≤ 262144 := by rw [← en, hlen]; exact z4
    omega
   have CL := fun w1 (hb : Below w.heap.size w w1) => twin_any N M cs _ w1 ((hl0.out.below hb).mono hb.size) (by omega)
   clear hl0 hmax z0 z1 z2 z3 z4 hfit hlen hall e0 h1 h2; replace C2 := hdh C2; have w01 : w.heap.size + 1 < w1.heap.size := yB4
   go_upto_region 5 with (go_at_call 120; (with_reducible refine C2.out.mono ?_); rintro e w2 ⟨hb2, vf, vr, rfl, hof, hor, hap⟩)
   replace B2 := B2.below hb2 yB2; replace B4 := B4.below hb2 yB4; replace hbw := hbw.trans (hb2.mono hbw.size); have zz2 := hb2.size
   have lf := fun g hg => (own_block_lt hof g hg).2
   have lr := fun g hg => (own_block_lt hor g hg).2
   replace CL := hdh (CL w2 hbw); clear hb2 C2 yB2 yB4; have yB2 := B2.lt; have yB4 := B4.lt; have q0 := B2.cell (o := 0) rfl; have q1 := B2.cell (o := 1) rfl; have q2 := B2.cell (o := 2) rfl
   go_upto_region 8 with (go_at_call 33; (with_reducible refine CL.out.mono ?_); rintro e w3 ⟨v3, rfl, hoc, hb3⟩; obtain ⟨sv, cv, hv3⟩ := own_slice hoc; rw [en] at hv3; subst hv3; replace B2 := B2.below hb3 yB2; replace B4 := B4.below hb3 yB4; have k0 := B2.cell (o := 0) rfl; have k1 := B2.cell (o := 1) rfl; have k2 := B2.cell (o := 2) rfl; have kf := B2.free)
   have zz3 := hb3.size; replace hof := hof.below hb3 lrr; replace hor := hor.below hb3 lrr; have G2 : Blk (((w3.setCell ⟨w.heap.size, 0, none⟩ (.int .i64 N)).setCell ⟨w.heap.size, 1, none⟩ (.int .i64 M)).setCell ⟨w.heap.size, 2, none⟩ (.slice sv n cv)) w.heap.size [.int .i64 N, .int .i64 M, .slice sv n cv] 40 := Blk.put3 B2 rfl _ _ _
   have ne4 : w.heap.size + 1 ≠ w.heap.size := by omega
   have G4 := ((B4.set_ne (a := ⟨w.heap.size, 0, none⟩) ne4 (.int .i64 N)).set_ne (a := ⟨w.heap.size, 1, none⟩) ne4 (.int .i64 M)).set_ne (a := ⟨w.heap.size, 2, none⟩) ne4 (.slice sv n cv); have goc := ((hoc.set_ne (b := w.heap.size) (o := 0) (by omega) (.int .i64 N)).set_ne (b := w.heap.size) (o := 1) (by omega) (.int .i64 M)).set_ne (b := w.heap.size) (o := 2) (by omega) (.slice sv n cv)
   have nf : ∀ g, vf.ownBlock = some g → g ≠ w.heap.size := fun g hg => by have := (own_block_lt hof g hg).1; omega
   have nr : ∀ g, vr.ownBlock = some g → g ≠ w.heap.size := fun g hg => by have := (own_block_lt hor g hg).1; omega
   have gof : Owns w1.heap.size _ vf (flS xs) := own_other (own_other (own_other hof (a := ⟨w.heap.size, 0, none⟩) nf (.int .i64 N)) (a := ⟨w.heap.size, 1, none⟩) nf (.int .i64 M)) (a := ⟨w.heap.size, 2, none⟩) nf (.slice sv n cv); have gor : OwnsR w1.heap.size _ vr (flR xs) := own_other (own_other (own_other hor (a := ⟨w.heap.size, 0, none⟩) nr (.int .i64 N)) (a := ⟨w.heap.size, 1, none⟩) nr (.int .i64 M)) (a := ⟨w.heap.size, 2, none⟩) nr (.slice sv n cv); have rf := Row.own_lt (B := w2.heap.size) St.enc_len gof lf (by omega); have rr := Row.own_lt (B := w2.heap.size) Re.enc_len gor lr (by omega)
   have hbX := (((hbw.trans (hb3.mono hbw.size)).setCell (p := ⟨w.heap.size, 0, none⟩) lrr (.int .i64 N)).setCell (p := ⟨w.heap.size, 1, none⟩) lrr (.int .i64 M)).setCell (p := ⟨w.heap.size, 2, none⟩) lrr (.slice sv n cv)
   have zX : (((w3.setCell ⟨w.heap.size, 0, none⟩ (.int .i64 N)).setCell ⟨w.heap.size, 1, none⟩ (.int .i64 M)).setCell ⟨w.heap.size, 2, none⟩ (.slice sv n cv)).heap.size = w3.heap.size := by simp
   have hgb := fun g hg => own_block_lt hoc g hg
   clear gof gor hof hor hoc hb3 B2 B4 k0 k1 k2 kf q0 q1 q2 lf lr CL hap hbw nf nr ne4; generalize ((w3.setCell ⟨w.heap.size, 0, none⟩ (.int .i64 N)).setCell ⟨w.heap.size, 1, none⟩ (.int .i64 M)).setCell ⟨w.heap.size, 2, none⟩ (.slice sv n cv) = W0 at G2 G4 goc rf rr hbX zX ⊢; have q0 := G2.cell (o := 0) rfl; have q1 := G2.cell (o := 1) rfl; have q2 := G2.cell (o := 2) rfl; obtain ⟨ss, hss⟩ := exx (flS xs); obtain ⟨rs, hrs⟩ := exx (flR xs)
   have FA := fun i s r (h1 : (flS xs)[i]? = some s) (h2 : (flR xs)[i]? = some r) => And.intro (err_text (flat_err hE (List.mem_of_getElem? h1)).2) (flat_at hE k1 h1 h2)
   have LR : rs.length = ss.length := by rw [← hss, ← hrs]; exact flsr_len
   rw [hss, hrs] at FA hRC; rw [hss] at rf; rw [hrs] at rr; clear hss hrs; obtain ⟨sf, cf, rfl, hmf⟩ := rf.shape; obtain ⟨sr, cr, rfl, _⟩ := rr.shape; obtain ⟨m, em⟩ := exx (ss.length); rw [em] at LR
   have of_ := fun h0 => row_st rf h0
   have or_ := fun h0 => row_re rr h0
   rw [em] at of_ hmf ⊢; rw [LR] at or_ ⊢; unfold maxLen at hmf; replace of_ := hdh of_; replace or_ := hdh or_; replace FA := hdh FA; replace em := hdh em; replace LR := hdh LR; replace hgb := hdh hgb; have hgo := hdh (show drwGo N gf cs (ss.drop 0) (rs.drop 0) = RC from hRC); have hoc' := hdh goc; have hcl := hdh hc; have hcn := hdh en; have yW0 : W0.heap.size = w3.heap.size := zX; have B2 := G2; have B4 := G4; have hbw := hbX; clear hRC hc en goc rf rr k1 G2 G4 hbX zX
   have yb2 : w.heap.size < w2.heap.size := by omega
   have yb4 : w.heap.size + 1 < w2.heap.size := by omega
   go_wp2
   go_loopw [9] (fun iv wr => ∃ (i : Nat) (cur : List Ce), i ≤ m ∧ iv = .int .i64 i ∧ Hid (drwGo N gf cur (ss.drop i) (rs.drop i) = RC) ∧ Hid (OwnsC w2.heap.size wr (.slice sv n cv) cur) ∧ Hid (CeL cur) ∧ Hid (cur.length = n) ∧ Below w2.heap.size W0 wr) (fun iv _ => m - (intOf iv).toNat)
   case atStart => exact ⟨0, cs, Nat.zero_le _, rfl, hgo, hoc', hcl, hcn, Below.refl _ _⟩
   case round =>
    obtain ⟨i, cur, hi, rfl, hgo, hown, hcl, hcn, hbr⟩ := hrel; have zr := hbr.size; obtain ⟨hcr, hfr⟩ := bcellB hbr
    by_cases hik : i < m
    ·obtain ⟨bf, of1, cap1, e, hbf, _, _, hel⟩ := of_.out (by omega)
     simp only [Value.slice.injEq] at e; obtain ⟨rfl, _, rfl⟩ := e; obtain ⟨br, or1, cap2, e, hbrr, _, _, her⟩ := or_.out (by omega); simp only [Value.slice.injEq] at e; obtain ⟨rfl, _, rfl⟩ := e; obtain ⟨s, hs⟩ := get_at em.out hik; obtain ⟨r, hr⟩ := get_at LR.out hik; obtain ⟨hsz, sw, sm, sk, rm, rsub⟩ := FA.out i s r hs hr; obtain ⟨g0, g1, g2, g3, g4, g5, g6, g7, g8, g9, g10, g11, g12, g13, g14⟩ := hel i s hs; obtain ⟨u0, u1, u2, u3⟩ := her i r hr; have hg := hgo.out; rw [drwGo_step hs hr] at hg; replace hg := hdh hg
     have hii : (i : Int) < m := by omega
     have GT := hdh (GL s.text wr hsz); clear hel her hs hr hgo
     go_upto_region 12 with (go_at_call 127; (with_reducible refine GT.out.mono ?_); rintro e w5 ⟨hb5, tv, rfl, hgt⟩)
     have hown5 := hdh (hown.out.below hb5 lrr); have hb05 := hbr.trans (hb5.mono (by omega)); have z5 := hb5.size; obtain ⟨lo, hlo⟩ := exx (wr.heap.size); rw [hlo] at hgt z5 zr; have hG := hdh hgt; obtain ⟨st, ct, hst, _⟩ := hgt.grid.shape; subst hst; clear hlo hgt GT hcr hfr hown hbr hb5 q0 q1 q2
     obtain ⟨FF, hFF⟩ : ∃ F : Nat → Ce → Ce, F = fun k c => madeC c s (gf s.text) ((k % N : Nat) : Int) ((k / N : Nat) : Int) := ⟨_, rfl⟩
     replace hFF := hdh hFF; have hownS := hdh (show OwnsC w2.heap.size w5 (.slice sv n cv) (updP (upK N r 0) FF cur) by rw [updP_none (fun k _ => upK_start k)]; exact hown5.out); clear hown5; go_wp2
     go_loopw [11] (fun kv w9 => ∃ k : Nat, k ≤ n ∧ kv = .int .i64 k ∧ Hid (OwnsC w2.heap.size w9 (.slice sv n cv) (updP (upK N r k) FF cur)) ∧ Hid (GridO w9 lo (.slice st (gf s.text).length ct) (gf s.text)) ∧ Below w2.heap.size W0 w9) (fun kv _ => n - (intOf kv).toNat)
     case atStart => exact ⟨0, Nat.zero_le _, rfl, hownS, hG, hb05⟩
     case round =>
      clear hownS hG hb05; obtain ⟨k, hk, rfl, hownS, hG, hbc⟩ := hrel; obtain ⟨wv, hwv⟩ : ∃ wv : World, wv = wr := ⟨_, rfl⟩; subst hwv; have zv := hbc.size; have D2 := B2.below hbc yb2; have q0 := D2.cell (o := 0) rfl; have q1 := D2.cell (o := 1) rfl; have q2 := D2.cell (o := 2) rfl; have y2 := D2.lt
      by_cases hkn : k < n
      ·have hnm' := hnm.out
       have hN0 : 0 < N := by
        rcases Nat.eq_zero_or_pos N with h | h
        ·rw [h, Nat.zero_mul] at hnm'; omega
        ·exact h
       have hki : (k : Int) < n := by omega
       have hoo : wv.ownsRow w2.heap.size 47 11 (.slice sv n cv) n ((updP (upK N r k) FF cur).flatMap Ce.enc) := by have := hownS.out; unfold OwnsC at this; rwa [updP_len, hcn.out] at this
       obtain ⟨gb, hsv, gb1, gb2, gb3⟩ := own_some hoo (by omega); subst hsv; have gb4 := (hgb.out gb (by simp [Value.ownBlock])).2; unfold maxLen at gb3; have yg : gb < wv.heap.size := (own_block_lt hownS.out gb (by simp [Value.ownBlock])).2; clear hoo; obtain ⟨x, hx⟩ := exx (k % N); obtain ⟨y, hy⟩ := exx (k / N)
       have ex : Int.tmod (k : Int) (N : Int) = (x : Int) := by rw [← hx]; exact Int.ofNat_tmod k N
       have ey : Int.tdiv (k : Int) (N : Int) = (y : Int) := by rw [← hy]; exact Int.ofNat_tdiv k N
       have hN1 : ¬ N = 0 := by omega
       have hx1 : x < N := by rw [← hx]; exact Nat.mod_lt _ hN0
       have hy1 : y ≤ 262144 := by rw [← hy]; exact Nat.le_trans (Nat.div_le_self _ _) (by omega)
       replace hx := hdh hx; replace hy := hdh hy; clear hnm'
       go_upto_region 15 with fail
       go_cut [12] (fun v12 wx => ∃ b12, v12 = .pointer (some ⟨b12, 0, none⟩) ∧ wv.heap.size ≤ b12 ∧ Blk wx b12 [.int .i64 x, .int .i64 y] 30 ∧ Below wv.heap.size wv wx)
       case first =>
        refine held_begin (Held wv 0 []) (by kernel_rfl) ⟨Below.drew (Below.refl _ _), Nat.le_refl _, trivial⟩ (fun hS => ?_); generalize wv.drew = u0 at hS ⊢
        (refine' hdo 0 hS ?_; simp only [pu])
        (refine' hdo 1 hS ?_; simp only [pu])
        (refine' hdo 2 hS ?_; simp only [pu])
        (refine' hdo 3 hS ?_; simp only [pu])
        (refine' hdo 4 hS ?_; simp only [pu])
        (refine' hdo 5 hS ?_; simp only [pu])
        (refine' hdo 6 hS ?_; simp only [pu])
        (refine' hdo 7 hS ?_; simp only [pu])
        (refine' hdo 8 hS ?_; simp only [pu])
        (refine' hdo 9 hS ?_; simp only [pu])
        (refine' hdo 10 hS ?_; simp only [pu])
        (refine honn 11 fun K hK => ?_; go_simp)
        obtain ⟨v2, hv⟩ := exx (u0.alloc (.cells #[.int .i64 0, .int .i64 0] 30)); have hT := held_alloc hS hv; have Bb := Blk.new_eq hv; have gb12 := held_size hS; rw [hv]; clear hv; generalize u0.heap.size = b12 at Bb gb12 ⊢; refine hK _ _ hT ?_; clear hK hS
        (try simp only [pu])
        have hS := hT; clear hT
        (refine' held_one (i := 12) _ (by kernel_rfl) _ _; rotate_left; (focus exact geti); (focus rfl); intro K hK)
        have f0 := Bb.cell (o := 0) rfl; have f1 := Bb.cell (o := 1) rfl; have ff := Bb.free; have yb := Bb.lt
        go_simp
        have hT : Held wv 0 [] ((v2.setCell ⟨b12, 0, none⟩ (.int .i64 x)).setCell ⟨b12, 1, none⟩ (.int .i64 y)) := ⟨((hS.1).setCell (p := ⟨b12, 0, none⟩) gb12 (.int .i64 x)).setCell (p := ⟨b12, 1, none⟩) gb12 (.int .i64 y), by have := hS.2.1; simpa using this, trivial⟩; have Bb2 := (Bb.set 0 (.int .i64 x)).set 1 (.int .i64 y); clear ff yb f0 f1; generalize (v2.setCell ⟨b12, 0, none⟩ (.int .i64 x)).setCell ⟨b12, 1, none⟩ (.int .i64 y) = v3 at hT Bb2 ⊢; refine hK _ _ hT ?_; clear hK hS
        (try simp only [pu])
        have hS := hT; clear hT; refine wpAnyH_done (by kernel_rfl) ?_ _; go_wp2; go_meet
        case rel => exact ⟨b12, rfl, gb12, Bb2, hS.1⟩
       case rest =>
        obtain ⟨b12, rfl, gq12, C12, hbk⟩ := hcut; have hownC := hownS.out.below hbk lrr; have hGC := hG.out.below hbk; have DC := D2.below hbk y2; have hbC := hbc.trans (hbk.mono (by omega)); have zC := hbk.size; clear hownS hG D2 hbc hbk q0 q1 q2 y2 zv ex ey hN1; replace hownC := hdh hownC; replace hGC := hdh hGC; obtain ⟨hcc, hfc⟩ := bcellB hbC; have e0 := (hcc _ _ hbrr).trans u0; have e1 := (hcc _ _ hbrr).trans u1; have e2 := (hcc _ _ hbrr).trans u2; have e3 := (hcc _ _ hbrr).trans u3; have p0 := C12.cell (o := 0) rfl; have p1 := C12.cell (o := 1) rfl; have y12 := C12.lt; have yr := hbC.size
        have ybr : br < wc.heap.size := by omega
        have HAS := fun w1 => khas1_any r x y w1 rm
        clear hcc hfc
        go_upto_region 16 with fail
        cases hh : hasR r x y
        ·rw [hh] at HAS
         replace HAS := hdh HAS; refine rst (Held wc 0 []) ?_
         repeat (first | (refine' wpSteady_do _ _ _; rotate_left; (focus rfl); (focus (intro w1 hS R hR; have hc := hS.cells; simp only [Cells] at hc; obtain ⟨hco, hfo⟩ := bcell hS.old; go_simp; (try go_bits); first | exact hR _ hS | (go_at_call 56; (with_reducible refine cmm (HAS.out _) fun w2 hb2 => ?_); exact ⟨_, rfl, hR _ (hS.below hb2)⟩))); simp only [pu]) | (refine spa ?_; simp only [pu]))
         refine wpSteady_nil (fun uA hSA => ?_); obtain ⟨hcA, hbA, hzA, hcoA, hfoA⟩ := hall hSA; clear hSA; simp only [Cells] at hcA; go_wp2; go_roundw
         case rel =>
          have hno : ∀ j, upK N r (k + 1) j = upK N r k j := upK_no (by rw [hx.out, hy.out]; exact hh); exact ⟨k + 1, by omega, by go_num, hdh (by have h := hownC.out.below hbA lrr; rwa [← updP_congr (fun j _ => hno j)] at h), hdh (hGC.out.below hbA), hbC.trans (hbA.mono (by omega))⟩
         case measure => simp [intOf]; omega
        ·rw [hh] at HAS
         replace HAS := hdh HAS; refine rst (Held wc 0 []) ?_
         repeat (first | (refine' wpSteady_do _ _ _; rotate_left; (focus rfl); (focus (intro w1 hS R hR; have hc := hS.cells; simp only [Cells] at hc; obtain ⟨hco, hfo⟩ := bcell hS.old; go_simp; (try go_bits); first | exact hR _ hS | (go_at_call 56; (with_reducible refine cmm (HAS.out _) fun w2 hb2 => ?_); exact ⟨_, rfl, hR _ (hS.below hb2)⟩))); simp only [pu]) | (refine spa ?_; simp only [pu]))
         refine wpSteady_nil (fun uA hSA => ?_); obtain ⟨hcA, hbA, hzA, hcoA, hfoA⟩ := hall hSA; clear hSA; simp only [Cells] at hcA; have hownA := hownC.out.below hbA lrr; have GA := hGC.out.below hbA; have DA := DC.below hbA (by omega); have C12A := C12.below hbA y12; have hbAA := hbC.trans (hbA.mono (by omega)); clear hcA hcoA hfoA hbA hownC hGC DC C12 hbC e0 e1 e2 e3 p0 p1 y12 ybr HAS
         go_upto_region 17 with fail
         obtain ⟨c0, hc0⟩ : ∃ c0, cur[k]? = some c0 := ⟨cur[k]'(by have := hcn.out; omega), List.getElem?_eq_getElem _⟩
         have hk0 : (updP (upK N r k) FF cur)[k]? = some c0 := by
          rw [updP_get, hc0]
          have hu : upK N r k k = false := by simp [upK]
          rw [hu]; rfl
         have hlen : (updP (upK N r k) FF cur).length = n := by rw [updP_len]; exact hcn.out
         have cw : c0.Wf := hcl.out c0 (List.mem_of_getElem? hc0); obtain ⟨j0, j1, j2, j3, j4, j5, j6, j7, j8, j9, j10⟩ := own_cmem hownA hk0; have yg := (own_block_lt hownA gb (by simp [Value.ownBlock])).2; have hsr := has_iff.1 (rsub _ _ hh)
         have MD := fun u (hb : Below uA.heap.size uA u) => cmade_any s (gf s.text) (.slice st (gf s.text).length ct) c0 x y u (fun _ => (GA.below hb).grid) sw cw sm sk hsr.1 hsr.2.1 hsr.2.2.1 hsr.2.2.2
         obtain ⟨R0, hR0⟩ := exx (madeC c0 s (gf s.text) x y); rw [hR0] at MD
         have hF : FF k c0 = R0 := by rw [hFF.out]; simp only; rw [hx.out, hy.out]; exact hR0
         obtain ⟨hcd, hfd⟩ := bcellB hbAA; have v0 := (hcd _ _ hbf).trans g0; have v1 := (hcd _ _ hbf).trans g1; have v2 := (hcd _ _ hbf).trans g2; have v3 := (hcd _ _ hbf).trans g3; have v4 := (hcd _ _ hbf).trans g4; have v5 := (hcd _ _ hbf).trans g5; have v6 := (hcd _ _ hbf).trans g6; have v7 := (hcd _ _ hbf).trans g7; have v8 := (hcd _ _ hbf).trans g8; have v9 := (hcd _ _ hbf).trans g9; have v10 := (hcd _ _ hbf).trans g10; have v11 := (hcd _ _ hbf).trans g11; have v12 := (hcd _ _ hbf).trans g12; have v13 := (hcd _ _ hbf).trans g13; have v14 := (hcd _ _ hbf).trans g14; have q2 := DA.cell (o := 2) rfl
         have y2 := DA.lt; have p0 := C12A.cell (o := 0) rfl; have p1 := C12A.cell (o := 1) rfl; have y12 := C12A.lt; have yf := hbAA.size
         have ybf : bf < uA.heap.size := by omega
         replace MD := hdh MD; replace hF := hdh hF; replace hk0 := hdh hk0; replace hlen := hdh hlen; replace hc0 := hdh hc0; replace hownA := hdh hownA; replace GA := hdh GA; clear hcd hfd hsr hR0 cw; refine wp_region_steady_then (Held uA 0 []) 16 (by kernel_rfl) (by kernel_rfl) (by decide) (by kernel_rfl) (by kernel_rfl) ⟨belt, (by (try simp) <;> omega), (by first | exact trivial | (simp only [Cells]; go_simp))⟩ ?_; simp only [List.take_succ_cons, List.take_zero]
         repeat (first | (refine' wpSteady_do _ _ _; rotate_left; (focus rfl); (focus (intro w1 hS R hR; have hc := hS.cells; simp only [Cells] at hc; obtain ⟨hco, hfo⟩ := bcell hS.old; go_simp; (try go_bits); first | exact hR _ hS | (go_at_call 128; (with_reducible refine cmm (MD.out _ hS.old) fun w2 hb2 => ?_); exact ⟨_, rfl, hR _ (hS.below hb2)⟩))); simp only [pu]) | (refine spa ?_; simp only [pu]))
         refine wpSteady_nil (fun uB hSB => ?_); obtain ⟨hcB, hbB, hzB, hcoB, hfoB⟩ := hall hSB; clear hSB; simp only [Cells] at hcB; simp only [List.drop_succ_cons, List.drop_zero, List.drop_nil]; have hownB := hownA.out.below hbB lrr; have GB := GA.out.below hbB; have hbAB := hbAA.trans (hbB.mono (by omega)); clear j0 j1 j2 j3 j4 j5 j6 j7 j8 j9 j10 v0 v1 v2 v3 v4 v5 v6 v7 v8 v9 v10 v11 v12 v13 v14 p0 p1 q2 hcB hcoB hfoB hbB hownA GA hbAA MD; obtain ⟨j0, j1, j2, j3, j4, j5, j6, j7, j8, j9, j10⟩ := own_cmem hownB hk0.out; have jf := cown_free (n := n) (cs := (updP (upK N r k) FF cur).flatMap Ce.enc) (by have h := hownB; unfold OwnsC at h; rwa [hlen.out] at h)
         replace hownB := hdh hownB; go_wp2; have hoZ := hownB.out.put hlen.out hk0.out R0; have ZG := GB.keep (cgrown_put (g := gb) (grown_refl uB _) (k * 11) (.int .i32 R0.rune) (.int .u8 R0.col.r) (.int .u8 R0.col.g) (.int .u8 R0.col.b) (.int .u8 R0.col.a) (.int .u8 R0.back.r) (.int .u8 R0.back.g) (.int .u8 R0.back.b) (.int .u8 R0.back.a) (.bool R0.wide) (.bool R0.tail)) (fun b hb => by injection hb with hb; omega); have Zb := putk_below hbAB (g := gb) (o := k * 11) (by omega) (.int .i32 R0.rune) (.int .u8 R0.col.r) (.int .u8 R0.col.g) (.int .u8 R0.col.b) (.int .u8 R0.col.a) (.int .u8 R0.back.r) (.int .u8 R0.back.g) (.int .u8 R0.back.b) (.int .u8 R0.back.a) (.bool R0.wide) (.bool R0.tail)
         clear j0 j1 j2 j3 j4 j5 j6 j7 j8 j9 j10 jf GB hbAB; generalize (((((((((((uB).setCell ⟨gb, k * 11, none⟩ (.int .i32 R0.rune)).setCell ⟨gb, k * 11 + 1, none⟩ (.int .u8 R0.col.r)).setCell ⟨gb, k * 11 + 2, none⟩ (.int .u8 R0.col.g)).setCell ⟨gb, k * 11 + 3, none⟩ (.int .u8 R0.col.b)).setCell ⟨gb, k * 11 + 4, none⟩ (.int .u8 R0.col.a)).setCell ⟨gb, k * 11 + 5, none⟩ (.int .u8 R0.back.r)).setCell ⟨gb, k * 11 + 6, none⟩ (.int .u8 R0.back.g)).setCell ⟨gb, k * 11 + 7, none⟩ (.int .u8 R0.back.b)).setCell ⟨gb, k * 11 + 8, none⟩ (.int .u8 R0.back.a)).setCell ⟨gb, k * 11 + 9, none⟩ (.bool R0.wide)).setCell ⟨gb, k * 11 + 10, none⟩ (.bool R0.tail) = wZ at hoZ ZG Zb ⊢
         go_roundw
         case rel =>
          have hyes : ∀ j, upK N r (k + 1) j = (upK N r k j || j == k) := upK_yes (by rw [hx.out, hy.out]; exact hh); exact ⟨k + 1, by omega, by go_num, hdh (by rw [← hF.out, updP_set (Q := upK N r (k + 1)) hc0.out (fun j _ => hyes j)] at hoZ; exact hoZ), hdh ZG, Zb⟩
         case measure => simp [intOf]; omega
      ·obtain rfl : k = n := by omega
       have hki : ¬ (k : Int) < k := by omega
       go_wp2; go_roundw
       case rel =>
        have hcur := strokeD_upK (N := N) (n := k) (s := s) (g := gf s.text) (r := r) (cs := cur) hcn.out; rw [← hFF.out] at hcur; exact ⟨i + 1, strokeD N s (gf s.text) r cur, by omega, by go_num, hg, hdh (by have h := hownS.out; rwa [hcur] at h), hdh (strokeD_wf sw hcl.out), hdh (by rw [strokeD_len]; exact hcn.out), hbc⟩
       case measure => simp [intOf]; omega
    ·obtain rfl : i = m := by omega
     have hg : cur = RC := by
      have h := hgo.out; rw [List.drop_eq_nil_of_le (by have := em.out; omega)] at h
      simpa [drwGo] using h
     subst hg; have ho := hown.out; have D2 := B2.below hbr yb2; have D4 := B4.below hbr yb4; have hbz := hbw.trans (hbr.mono (by omega)); clear hcr hfr q0 q1 q2 hgo hown; have q0 := D2.cell (o := 0) rfl; have q1 := D2.cell (o := 1) rfl; have q2 := D2.cell (o := 2) rfl; have k0 := D4.cell (o := 0) rfl; have k1 := D4.cell (o := 1) rfl; have k2 := D4.cell (o := 2) rfl; have kf := D4.free; have y2 := D2.lt; have y4 := D4.lt; go_wp2; clear q0 q1 q2 k0 k1 k2 kf; have hoZ := ((ho.set_ne (b := w.heap.size + 1) (o := 0) yb4 (.int .i64 N)).set_ne (b := w.heap.size + 1) (o := 1) yb4 (.int .i64 M)).set_ne (b := w.heap.size + 1) (o := 2) yb4 (.slice sv n cv)
     have HZ := Blk.put3 D4 rfl (.int .i64 N) (.int .i64 M) (.slice sv n cv); have hbZ := ((hbz.setCell (p := ⟨w.heap.size + 1, 0, none⟩) (by show w.heap.size ≤ w.heap.size + 1; omega) (.int .i64 N)).setCell (p := ⟨w.heap.size + 1, 1, none⟩) (by show w.heap.size ≤ w.heap.size + 1; omega) (.int .i64 M)).setCell (p := ⟨w.heap.size + 1, 2, none⟩) (by show w.heap.size ≤ w.heap.size + 1; omega) (.slice sv n cv); generalize ((wr.setCell ⟨w.heap.size + 1, 0, none⟩ (.int .i64 N)).setCell ⟨w.heap.size + 1, 1, none⟩ (.int .i64 M)).setCell ⟨w.heap.size + 1, 2, none⟩ (.slice sv n cv) = wZ at HZ hbZ hoZ ⊢; have jz0 := HZ.cell (o := 0) rfl
     have jz1 := HZ.cell (o := 1) rfl; have jz2 := HZ.cell (o := 2) rfl; refine bodyPost_ret (v := .tuple #[.agg #[.int .i64 N, .int .i64 M, .slice sv n cv], .int .i64 0]) (by simp [results, Tryz.results79, go_sem, jz0, jz1, jz2]) rfl ⟨hbZ, _, rfl, own_less hoZ (by omega)⟩
  ·have eb : (E == 0) = false := by simp [e1]
   have ec : (E != 0) = true := by simp [e1]
   rw [if_neg e1] at hZ1 hZ2 hRC; subst hZ1 hZ2 hRC; clear e1; replace C2 := hdh C2
   go_wp2_with (go_at_call 120; (with_reducible refine C2.out.mono ?_); rintro e w2 ⟨hb2, vf, vr, rfl, _, _, _⟩; replace B4 := B4.below hb2 yB4; replace hbw := hbw.trans (hb2.mono hbw.size); have k0 := B4.cell (o := 0) rfl; have k1 := B4.cell (o := 1) rfl; have k2 := B4.cell (o := 2) rfl; have kf := B4.free)
   clear k0 k1 k2 kf; have HZ := Blk.put3 B4 rfl (.int .i64 0) (.int .i64 0) (.slice none 0 0); have hbZ : Below w.heap.size w (((w2.setCell ⟨(w.heap.size + 1), 0, none⟩ (.int .i64 0)).setCell ⟨(w.heap.size + 1), 1, none⟩ (.int .i64 0)).setCell ⟨(w.heap.size + 1), 2, none⟩ (.slice none 0 0)) := ((hbw.setCell (p := ⟨(w.heap.size + 1), 0, none⟩) (by show w.heap.size ≤ (w.heap.size + 1); omega) _).setCell (p := ⟨(w.heap.size + 1), 1, none⟩) (by show w.heap.size ≤ (w.heap.size + 1); omega) _).setCell (p := ⟨(w.heap.size + 1), 2, none⟩) (by show w.heap.size ≤ (w.heap.size + 1); omega) _; generalize ((w2.setCell ⟨(w.heap.size + 1), 0, none⟩ (.int .i64 0)).setCell ⟨(w.heap.size + 1), 1, none⟩ (.int .i64 0)).setCell ⟨(w.heap.size + 1), 2, none⟩ (.slice none 0 0) = wZ at HZ hbZ ⊢
   have jz0 := HZ.cell (o := 0) rfl; have jz1 := HZ.cell (o := 1) rfl; have jz2 := HZ.cell (o := 2) rfl; refine bodyPost_ret (v := .tuple #[.agg #[.int .i64 0, .int .i64 0, .slice none 0 0], .int .i64 E]) (by simp [results, Tryz.results79, go_sem, jz0, jz1, jz2]) rfl ⟨hbZ, _, rfl, OwnsC.nil _ _⟩
 ·rw [e0] at C1
  rw [if_neg (by omega)] at hE; subst hE; rw [if_neg (by omega)] at hZ1 hZ2 hRC; subst hZ1 hZ2 hRC
  go_wp2_with (go_at_call 76; (with_reducible refine cmm C1.out fun w1 hb1 => ?_); replace B4 := B4.below hb1 yB4; replace hbw := hbw.trans (hb1.mono hbw.size); have k0 := B4.cell (o := 0) rfl; have k1 := B4.cell (o := 1) rfl; have k2 := B4.cell (o := 2) rfl; have kf := B4.free)
  clear k0 k1 k2 kf; have HZ := Blk.put3 B4 rfl (.int .i64 0) (.int .i64 0) (.slice none 0 0); have hbZ : Below w.heap.size w (((w1.setCell ⟨(w.heap.size + 1), 0, none⟩ (.int .i64 0)).setCell ⟨(w.heap.size + 1), 1, none⟩ (.int .i64 0)).setCell ⟨(w.heap.size + 1), 2, none⟩ (.slice none 0 0)) := ((hbw.setCell (p := ⟨(w.heap.size + 1), 0, none⟩) (by show w.heap.size ≤ (w.heap.size + 1); omega) _).setCell (p := ⟨(w.heap.size + 1), 1, none⟩) (by show w.heap.size ≤ (w.heap.size + 1); omega) _).setCell (p := ⟨(w.heap.size + 1), 2, none⟩) (by show w.heap.size ≤ (w.heap.size + 1); omega) _; generalize ((w1.setCell ⟨(w.heap.size + 1), 0, none⟩ (.int .i64 0)).setCell ⟨(w.heap.size + 1), 1, none⟩ (.int .i64 0)).setCell ⟨(w.heap.size + 1), 2, none⟩ (.slice none 0 0) = wZ at HZ hbZ ⊢
  have jz0 := HZ.cell (o := 0) rfl; have jz1 := HZ.cell (o := 1) rfl; have jz2 := HZ.cell (o := 2) rfl; refine bodyPost_ret (v := .tuple #[.agg #[.int .i64 0, .int .i64 0, .slice none 0 0], .int .i64 150]) (by simp [results, Tryz.results79, go_sem, jz0, jz1, jz2]) rfl ⟨hbZ, _, rfl, OwnsC.nil _ _⟩
end Go.Proofs.YtfcphagmjijmkaaGreatDoor
