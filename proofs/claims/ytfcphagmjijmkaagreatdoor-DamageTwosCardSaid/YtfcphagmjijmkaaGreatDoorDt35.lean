/-
  Damage, the document's answer: the pieces of a flat stroke (casementref17.pieces).
-/
import Derived.Test.YtfcphagmjijmkaaGreatDoorDt32
import Derived.Test.YtfcphagmjijmkaaGreatDoorDt34
namespace Go.Proofs.YtfcphagmjijmkaaGreatDoor
open Go.RowKit
set_option linter.unusedVariables false
set_option linter.unusedSimpArgs false
attribute [local go_sem] vwp vUpon_value vUpon_skip vUpon_enter vUpon_row
set_option maxHeartbeats 16000000
set_option maxRecDepth 100000 in
theorem kpieces_any (f : Fl) (w : World) (h : f.Ok) : Calls Tryz.prog 70 #[f.val] w fun e w' => ∃ v, e = .returned v ∧ OwnsR w.heap.size w' v (pieL f) ∧ Below w.heap.size w w' := by
 have hin := meet_inside h; rw [← pieD_is h]; obtain ⟨hs, hm, hk, hq, _, _⟩ := h; obtain ⟨⟨kd, ⟨x, y, wd, ht⟩, ⟨cr, cg, cb, ca⟩, ⟨br, bg, bb, ba⟩, tx, nd⟩, q⟩ := f; rw [show Fl.val ⟨⟨kd, ⟨x, y, wd, ht⟩, ⟨cr, cg, cb, ca⟩, ⟨br, bg, bb, ba⟩, tx, nd⟩, q⟩ = .agg #[.int .u8 kd, .int .i64 x, .int .i64 y, .int .i64 wd, .int .i64 ht, .int .u8 cr, .int .u8 cg, .int .u8 cb, .int .u8 ca, .int .u8 br, .int .u8 bg, .int .u8 bb, .int .u8 ba, .string tx, .int .i64 nd, .int .i64 q.x, .int .i64 q.y, .int .i64 q.wd, .int .i64 q.ht] from rfl]; simp only at hs hm hk hq hin
 have EM := fun w => kempty1_any q w (may_wf hq)
 obtain ⟨P, hP⟩ := exx (pieD ⟨⟨kd, ⟨x, y, wd, ht⟩, ⟨cr, cg, cb, ca⟩, ⟨br, bg, bb, ba⟩, tx, nd⟩, q⟩); rw [hP]; unfold pieD at hP; simp only at hP
 cases hE : emptyR q
 ·rw [hE] at EM hP
  obtain ⟨he2, _⟩ := hin hE; replace EM := hdh EM; simp only [Bool.false_eq_true, false_or] at hP
  by_cases h3 : kd = 3
  ·subst h3
   by_cases htx : tx.toList = []
   ·rw [if_pos (.inl ⟨rfl, htx⟩)] at hP
    subst hP
    have q5 : tx.toList.isEmpty = true := by rw [htx]; rfl
    clear hE hin
    go_enter Tryz.func70, Tryz.ntmps70
    go_wp2_with (first | (go_at_call 105; (with_reducible refine cmm (EM.out _) fun w4 hb4 => ?_); obtain ⟨hc4, hf4, z4⟩ := bzz hb4; (try simp at z4); have l0 : w.heap.size < w4.heap.size := (by omega)) | go_in)
    go_ret; exact ⟨_, rfl, World.ownsRow_nil _ _ _ _, belt⟩
   ·rw [if_neg (by rintro (⟨_, h⟩ | ⟨h, _⟩); exact htx h; exact h rfl), if_pos (by decide)] at hP
    subst hP
    have ht2 : (tx.toList == []) = false := by simpa using htx
    clear hE hin
    go_enter Tryz.func70, Tryz.ntmps70
    go_wp2_with (first | (go_at_call 105; (with_reducible refine cmm (EM.out _) fun w4 hb4 => ?_); obtain ⟨hc4, hf4, z4⟩ := bzz hb4; (try simp at z4); have l0 : w.heap.size < w4.heap.size := (by omega)) | go_in)
    go_ret; exact ⟨_, rfl, ownR_one q (by have := hb4.size; omega), belt⟩
  ·have h3b : (kd == 3) = false := by simp [h3]
   have h3n : (kd != 3) = true := by simp [h3]
   by_cases ha : ca = 0
   ·rw [if_pos (.inr ⟨h3, ha⟩)] at hP
    subst ha; subst hP; clear hE hin
    go_enter Tryz.func70, Tryz.ntmps70
    go_wp2_with (first | (go_at_call 105; (with_reducible refine cmm (EM.out _) fun w4 hb4 => ?_); obtain ⟨hc4, hf4, z4⟩ := bzz hb4; (try simp at z4); have l0 : w.heap.size < w4.heap.size := (by omega)) | go_in)
    go_ret; exact ⟨_, rfl, World.ownsRow_nil _ _ _ _, belt⟩
   ·rw [if_neg (by rintro (⟨h, _⟩ | ⟨_, h⟩); exact h3 h; exact ha h)] at hP
    have hab : (ca == 0) = false := by simp [ha]
    by_cases h2k : kd = 2
    ·rw [if_neg (by simp [h2k])] at hP
     subst h2k; replace hP := hdh hP; obtain ⟨_, n1, n2⟩ := full_bd he2; obtain ⟨bx0, bx1, by0, by1, bw0, bw1, bh0, bh1⟩ := may_bd hm; obtain ⟨sx, sy⟩ := may_sum hm; simp only at n1 n2 bx0 bx1 by0 by1 bw0 bw1 bh0 bh1 sx sy
     have f3 : x + wd - 1 = x + (wd - 1) := by omega
     have f4 : y + ht - 1 = y + (ht - 1) := by omega
     have F1 := fun w => rrect_any x y wd 1 w
     have F2 := fun w => rrect_any x y 1 ht w
     have F3 := fun w => rrect_any (x + wd - 1) y 1 ht w
     have F4 := fun w => rrect_any x (y + ht - 1) wd 1 w
     have hsw : ∀ p ∈ sidesR ⟨x, y, wd, ht⟩, p.Wf := fun p hp => side_wf hm hp
     have hsd : sidesR ⟨x, y, wd, ht⟩ = [⟨x, y, wd, 1⟩, ⟨x, y, 1, ht⟩, ⟨x + wd - 1, y, 1, ht⟩, ⟨x, y + ht - 1, wd, 1⟩] := by rw [f3, f4]; rfl
     obtain ⟨iR, hr0, hr1, hr2, hr3⟩ := info_parts infoRe; have hqh := hdh hq; replace F1 := hdh F1; replace F2 := hdh F2; replace F3 := hdh F3; replace F4 := hdh F4; replace hsw := hdh hsw; replace hsd := hdh hsd; clear hm hq he2 hs h3 ha hE hin hk f3 f4
     go_enter Tryz.func70, Tryz.ntmps70
     go_upto_region 5 with (first | (go_at_call 105; (with_reducible refine cmm (EM.out _) fun w4 hb4 => ?_); obtain ⟨hc4, hf4, z4⟩ := bzz hb4; (try simp at z4); have l0 : w.heap.size < w4.heap.size := (by omega)) | go_in)
     have y0 : w.heap.size < w4.heap.size := by omega
     have cX : w4.cell? ⟨w.heap.size, 1, none⟩ = some (.int .i64 x) := by go_simp
     have cY : w4.cell? ⟨w.heap.size, 2, none⟩ = some (.int .i64 y) := by go_simp
     have cW : w4.cell? ⟨w.heap.size, 3, none⟩ = some (.int .i64 wd) := by go_simp
     have cH : w4.cell? ⟨w.heap.size, 4, none⟩ = some (.int .i64 ht) := by go_simp
     have r0 : w4.cell? ⟨w.heap.size, 15, none⟩ = some (.int .i64 q.x) := by go_simp
     have r1 : w4.cell? ⟨w.heap.size, 16, none⟩ = some (.int .i64 q.y) := by go_simp
     have r2 : w4.cell? ⟨w.heap.size, 17, none⟩ = some (.int .i64 q.wd) := by go_simp
     have r3 : w4.cell? ⟨w.heap.size, 18, none⟩ = some (.int .i64 q.ht) := by go_simp
     have hw4 : Below w.heap.size w w4 := belt; clear hc4 hf4 hb4 z4 l0 hab h3b h3n EM; have z4 := hw4.size
     go_upto_region 10 with (first
      | (go_at_call 81; (with_reducible refine cmm (F1.out _) fun w8 hb8 => ?_))
      | (go_at_call 81; (with_reducible refine cmm (F2.out _) fun w9 hb9 => ?_))
      | (go_at_call 81; (with_reducible refine cmm (F3.out _) fun w10 hb10 => ?_))
      | (go_at_call 81; (with_reducible refine cmm (F4.out _) fun w11 hb11 => ?_))
      | go_in)
     have z8 := hb8.size; have z9 := hb9.size; have z10 := hb10.size; have z11 := hb11.size; have hA11 : Below w4.heap.size w4 w11 := ((hb8.trans (hb9.mono (by omega))).trans (hb10.mono (by omega))).trans (hb11.mono (by omega)); have hAS := hA11.alloc hA11.size (.cells #[.int .i64 x, .int .i64 y, .int .i64 wd, .int .i64 1, .int .i64 x, .int .i64 y, .int .i64 1, .int .i64 ht, .int .i64 (x + wd - 1), .int .i64 y, .int .i64 1, .int .i64 ht, .int .i64 x, .int .i64 (y + ht - 1), .int .i64 wd, .int .i64 1] 32)
     have kS : Blk (w11.alloc (.cells #[.int .i64 x, .int .i64 y, .int .i64 wd, .int .i64 1, .int .i64 x, .int .i64 y, .int .i64 1, .int .i64 ht, .int .i64 (x + wd - 1), .int .i64 y, .int .i64 1, .int .i64 ht, .int .i64 x, .int .i64 (y + ht - 1), .int .i64 wd, .int .i64 1] 32)) w11.heap.size ((sidesR ⟨x, y, wd, ht⟩).flatMap Re.enc) 32 := by
      rw [hsd.out]; exact Blk.new' rfl
     generalize w11.alloc (.cells #[.int .i64 x, .int .i64 y, .int .i64 wd, .int .i64 1, .int .i64 x, .int .i64 y, .int .i64 1, .int .i64 ht, .int .i64 (x + wd - 1), .int .i64 y, .int .i64 1, .int .i64 ht, .int .i64 x, .int .i64 (y + ht - 1), .int .i64 wd, .int .i64 1] 32) = wS at hAS kS ⊢; obtain ⟨bs, hbs⟩ := exx (w11.heap.size); rw [hbs] at kS ⊢; have r0 := (hAS.cell (p := ⟨w.heap.size, 15, none⟩) y0).trans r0; have r1 := (hAS.cell (p := ⟨w.heap.size, 16, none⟩) y0).trans r1; have r2 := (hAS.cell (p := ⟨w.heap.size, 17, none⟩) y0).trans r2; have r3 := (hAS.cell (p := ⟨w.heap.size, 18, none⟩) y0).trans r3
     have yS1 : w.heap.size < wS.heap.size := by have := hAS.size; omega
     have hwS : Below w.heap.size w wS := hw4.trans (hAS.mono z4); have kl := kS.lt; obtain ⟨S, hSe⟩ := exx (sidesR ⟨x, y, wd, ht⟩)
     have hSl : S.length = 4 := by rw [← hSe]; rfl
     rw [hSe] at kS hsw; replace hSe := hdh hSe; replace kS := hdh kS; replace hSl := hdh hSl; clear cX cY cW cH hsd hbs hb8 hb9 hb10 hb11 hA11 hAS hw4 F1 F2 F3 F4 n1 n2 bx0 bx1 by0 by1 bw0 bw1 bh0 bh1 sx sy z8 z9 z10 z11 z4 y0; go_wp2
     go_loopw [8, 9] (fun ov iv wr => ∃ k : Nat, k ≤ 4 ∧ iv = .int .i64 k ∧ OwnsR wS.heap.size wr ov (meets (S.take k) q) ∧ Below wS.heap.size wS wr) (fun _ iv _ => 4 - (intOf iv).toNat)
     case atStart => exact ⟨0, by omega, rfl, World.ownsRow_nil _ _ _ _, Below.refl _ _⟩
     case round =>
      obtain ⟨k, hk, rfl, hown, hbr⟩ := hrel; have zr := hbr.size
      by_cases hk4 : k < 4
      ·obtain ⟨p, hp⟩ := get_at hSl.out hk4
       have hpw := hsw.out p (List.mem_of_getElem? hp); obtain ⟨v0, v1, v2, v3⟩ := blk_rmem (kS.out.below hbr kl) hp
       have M := fun w => kmeet1_any p q w hpw (may_wf hqh.out)
       have hsn := meets_snoc (q := q) hp
       have E := fun w => kempty1_any (meetR p q) w (may_wf (meet_may p q))
       simp only [meet_em] at E; obtain ⟨mm, hmm⟩ := exx (meetR p q); simp only [hmm] at M E; rw [hmm] at hsn; obtain ⟨hcr, hfr⟩ := bcell hbr
       have hki : (k : Int) < 4 := by omega
       have ybs : bs < wr.heap.size := by omega
       have yr1 : w.heap.size < wr.heap.size := by omega
       have hml : (meets (S.take k) q).length ≤ 4 := by have := meets_le (S.take k) q; rw [List.length_take] at this; omega
       obtain ⟨sv, cv, rfl⟩ := own_slice hown; replace M := hdh M; replace hown := hdh hown; clear hp hpw hmm; obtain ⟨m1, m2, m3, m4⟩ := mm; simp only at M E hsn; go_wp2; refine wp_region_tame (Held wr 0 []) (fun _ => .cells #[.int .i64 0, .int .i64 0, .int .i64 0, .int .i64 0] 32 (0, 0)) (wr.heap.size + 0) 7 8 (by kernel_rfl) (by kernel_rfl) (by omega) (by decide) (by kernel_rfl) (by kernel_rfl) (Held.stab _ _ _) (by (try simp) <;> omega) ⟨belt, (by (try simp) <;> omega), (by first | exact trivial | (simp only [Cells]; go_simp))⟩ ?_; simp only [List.take_succ_cons, List.take_zero, List.drop_succ_cons, List.drop_zero]
       repeat (first | (refine' wpStB_do _ _ _; rotate_left; (focus rfl); (focus (intro w1 hS R hR; have hc := hS.cells; simp only [Cells] at hc; obtain ⟨hco, hfo⟩ := bcell hS.old; go_simp; (try go_bits); first | exact hR _ (Below.refl _ _) | ((go_at_call 121; (with_reducible refine cmm (M.out _) fun w2 hb2 => ?_); exact ⟨_, rfl, hR _ hb2⟩)))); simp only [pu]) | (refine wpStB_pass ?_ ?_; (focus rfl); simp only [pu]))
       refine wpStB_nil ?_
       (refine wpNews_do rfl (by intro w1 hS R hR; go_simp; exact hR) ?_; intro b3 hnb3; simp only [pu]; simp only [ptrTo])
       refine wpNews_nil ?_
       intro w9 hS hU hN
       have hb9 : wr.heap.size ≤ b3 := by simpa using Nat.le_of_not_lt hnb3
       have hl9 : b3 < w9.heap.size := hN b3 (.inr rfl); have hbr9 := hS.old; clear hS hN; have q0 : w9.cell? ⟨b3, 0, none⟩ = some (.int .i64 0) := new_cell hU.2 rfl; have q1 : w9.cell? ⟨b3, 1, none⟩ = some (.int .i64 0) := new_cell hU.2 rfl; have q2 : w9.cell? ⟨b3, 2, none⟩ = some (.int .i64 0) := new_cell hU.2 rfl; have q3 : w9.cell? ⟨b3, 3, none⟩ = some (.int .i64 0) := new_cell hU.2 rfl; have g0 := new_free hU.2 0; have g1 := new_free hU.2 1; have g2 := new_free hU.2 2; have g3 := new_free hU.2 3; clear hU hnb3
       go_upto_region 15 with fail
       have bT : Below wr.heap.size wr ((((w9.setCell ⟨b3, 0, none⟩ (.int .i64 m1)).setCell ⟨b3, 1, none⟩ (.int .i64 m2)).setCell ⟨b3, 2, none⟩ (.int .i64 m3)).setCell ⟨b3, 3, none⟩ (.int .i64 m4)) := (((hbr9.setCell hb9 _).setCell hb9 _).setCell hb9 _).setCell hb9 _
       have t0 : ((((w9.setCell ⟨b3, 0, none⟩ (.int .i64 m1)).setCell ⟨b3, 1, none⟩ (.int .i64 m2)).setCell ⟨b3, 2, none⟩ (.int .i64 m3)).setCell ⟨b3, 3, none⟩ (.int .i64 m4)).cell? ⟨b3, 0, none⟩ = some (.int .i64 m1) := by go_simp
       have t1 : ((((w9.setCell ⟨b3, 0, none⟩ (.int .i64 m1)).setCell ⟨b3, 1, none⟩ (.int .i64 m2)).setCell ⟨b3, 2, none⟩ (.int .i64 m3)).setCell ⟨b3, 3, none⟩ (.int .i64 m4)).cell? ⟨b3, 1, none⟩ = some (.int .i64 m2) := by go_simp
       have t2 : ((((w9.setCell ⟨b3, 0, none⟩ (.int .i64 m1)).setCell ⟨b3, 1, none⟩ (.int .i64 m2)).setCell ⟨b3, 2, none⟩ (.int .i64 m3)).setCell ⟨b3, 3, none⟩ (.int .i64 m4)).cell? ⟨b3, 2, none⟩ = some (.int .i64 m3) := by go_simp
       have t3 : ((((w9.setCell ⟨b3, 0, none⟩ (.int .i64 m1)).setCell ⟨b3, 1, none⟩ (.int .i64 m2)).setCell ⟨b3, 2, none⟩ (.int .i64 m3)).setCell ⟨b3, 3, none⟩ (.int .i64 m4)).cell? ⟨b3, 3, none⟩ = some (.int .i64 m4) := by go_simp
       have tl : b3 < ((((w9.setCell ⟨b3, 0, none⟩ (.int .i64 m1)).setCell ⟨b3, 1, none⟩ (.int .i64 m2)).setCell ⟨b3, 2, none⟩ (.int .i64 m3)).setCell ⟨b3, 3, none⟩ (.int .i64 m4)).heap.size := by simpa using hl9
       generalize (((w9.setCell ⟨b3, 0, none⟩ (.int .i64 m1)).setCell ⟨b3, 1, none⟩ (.int .i64 m2)).setCell ⟨b3, 2, none⟩ (.int .i64 m3)).setCell ⟨b3, 3, none⟩ (.int .i64 m4) = wT at bT t0 t1 t2 t3 tl ⊢; have hownT := OwnsR.below hown.out bT lrr; have zT := bT.size; have brT : Below wS.heap.size wS wT := hbr.trans (bT.mono zr); obtain ⟨mk, hmk⟩ := exx ((meets (S.take k) q).length); rw [hmk] at hownT hml ⊢; replace hownT := hdh hownT; replace hmk := hdh hmk; clear q0 q1 q2 q3 g0 g1 g2 g3 v0 v1 v2 v3 hcr hfr hbr9 hl9 hown; obtain ⟨t, ht⟩ := exx ((⟨m1, m2, m3, m4⟩ : Re).eqb Re.none); simp only [ht] at E
       rw [ht] at hsn; clear ht; replace E := hdh E
       cases t
       ·rw [if_neg (by decide)] at hsn
        replace hsn := hdh hsn
        go_upto_region 16 with (first
         | (go_at_call 105; (with_reducible refine cmm (E.out _) fun w10 hb10 => ?_); obtain ⟨hc10, hf10⟩ := bcell hb10)
         | go_in)
        have hown10 := OwnsR.below hownT.out hb10 lrr; have z10 := hb10.size; have br10 := brT.trans (hb10.mono brT.size); have zS10 := br10.size; unfold OwnsR at hown10; rw [hmk.out] at hown10
        go_wp2_with (first
         | (at_builtin; refine wpList_append_new rfl _ _ _ rfl wS.heap.size 32 iR _ 4 32 Tryz.underlying25 hr0 hr1 hr2 hr3 rfl (by omega) w10 1 _ _ _ _ (by rfl) hown10 (by rfl) rfl (by simp [Value.oneCell']) (by omega) (by unfold maxLen; omega) (by omega) ?_; intro v12 w12 hown12 hb12)
         | go_in)
        rw [flatR_snoc (t := ⟨m1, m2, m3, m4⟩) (cs := [.int .i64 m1, .int .i64 m2, .int .i64 m3, .int .i64 m4]) rfl, ← hsn.out] at hown12
        have hown12 : OwnsR wS.heap.size w12 v12 (meets (S.take (k + 1)) q) := by
         unfold OwnsR; rw [show (meets (S.take (k + 1)) q).length = mk + 1 by rw [hsn.out, List.length_append, hmk.out]; rfl]; exact hown12
        have br12 : Below wS.heap.size wS w12 := br10.trans hb12; replace hown12 := hdh hown12; go_roundw
        case rel => exact ⟨k + 1, by omega, by go_num, hown12.out, br12⟩
        case measure => simp [intOf]; omega
       ·rw [if_pos rfl, List.append_nil] at hsn
        replace hsn := hdh hsn
        go_wp2_with (first
         | (go_at_call 105; (with_reducible refine cmm (E.out _) fun w10 hb10 => ?_))
         | go_in)
        go_roundw
        case rel =>
         refine ⟨k + 1, by omega, by go_num, ?_, brT.trans (hb10.mono brT.size)⟩; rw [hsn.out]; exact OwnsR.below hownT.out hb10 lrr
        case measure => simp [intOf]; omega
      ·obtain rfl : k = 4 := by omega
       rw [List.take_of_length_le (by have := hSl.out; omega)] at hown; replace hown := hdh hown; go_wp2; go_ret; refine ⟨_, rfl, ?_, hwS.trans (hbr.mono hwS.size)⟩; rw [← hP.out, hSe.out]; exact own_less hown.out hwS.size
    ·rw [if_pos h2k] at hP
     subst hP
     have h2b : (kd == 2) = false := by simp [h2k]
     have h2n : (kd != 2) = true := by simp [h2k]
     clear hE hin
     go_enter Tryz.func70, Tryz.ntmps70
     go_wp2_with (first | (go_at_call 105; (with_reducible refine cmm (EM.out _) fun w4 hb4 => ?_); obtain ⟨hc4, hf4, z4⟩ := bzz hb4; (try simp at z4); have l0 : w.heap.size < w4.heap.size := (by omega)) | go_in)
     go_ret; exact ⟨_, rfl, ownR_one q (by have := hb4.size; omega), belt⟩
 ·rw [hE] at EM hP
  rw [if_pos (.inl rfl)] at hP; subst hP; replace EM := hdh EM; clear hE hin
  go_enter Tryz.func70, Tryz.ntmps70
  go_wp2_with (first | (go_at_call 105; (with_reducible refine cmm (EM.out _) fun w4 hb4 => ?_); obtain ⟨hc4, hf4, z4⟩ := bzz hb4; (try simp at z4); have l0 : w.heap.size < w4.heap.size := (by omega)) | go_in)
  go_ret; exact ⟨_, rfl, World.ownsRow_nil _ _ _ _, belt⟩
set_option maxRecDepth 100000 in
theorem kamong17_any (ns : List Int) (n : Int) (v : Value) (B : Nat) (w : World) (h : OwnsI B w v ns) (hB : B ≤ w.heap.size) (hmany : ns.length ≤ 1000000) : Calls Tryz.prog 74 #[v, .int .i64 n] w (EdgePost (edgeI ns n) B v w) := by
 obtain ⟨iI, hi0, hz0, hz1, hz2⟩ := info_parts infoIn
 have hcells := fun h0 => row_in (h.row lrr) h0
 have hown := h; unfold OwnsI at hown; obtain ⟨L, hL⟩ := exx (ns.length); rw [hL] at hown hmany hcells; obtain ⟨s3, cap3, rfl⟩ := own_slice hown; clear h; replace hcells := hdh hcells; replace hown := hdh hown; replace hL := hdh hL
 go_enter Tryz.func74, Tryz.ntmps74
 go_wp2
 go_loop [5] (fun av => ∃ a : Nat, a ≤ L ∧ av = .int .i64 a ∧ (∀ (j : Nat) x, j < a → ns[j]? = some x → x < n)) (fun av => L - (intOf av).toNat)
 case atStart => exact ⟨0, Nat.zero_le _, rfl, fun _ _ h => absurd h (Nat.not_lt_zero _)⟩
 case round =>
  obtain ⟨a, ha, rfl, hlow⟩ := hrel; replace hlow := hdh hlow
  by_cases haL : a < L
  ·obtain ⟨g, o, cap4, e, hg1, hg2, hg3, hcl⟩ := hcells.out (by omega)
   simp at e
   obtain ⟨rfl, rfl⟩ := e; obtain ⟨x, ex⟩ := get_at hL.out haL; have c1 := hcl a x ex
   have haa : (a : Int) < L := by omega
   clear hcl
   by_cases hlt : x < n
   ·replace ex := hdh ex
    go_wp2; go_round
    case rel =>
     refine ⟨a + 1, by omega, by go_num, fun j y hj hy => ?_⟩
     rcases Nat.lt_succ_iff_lt_or_eq.1 hj with hj | rfl
     ·exact hlow.out j y hj hy
     ·rw [ex.out] at hy; obtain rfl := Option.some.inj hy; exact hlt
    case measure => simp [intOf]; omega
   ·by_cases heq : x = n
    ·have hins := edgeI_has n ns a x hlow.out ex heq
     have g4 : (x == n) = true := by simpa using heq
     replace hins := hdh hins; replace ex := hdh ex; subst heq; go_wp2; go_ret; refine ⟨grown_refl _ _, _, rfl, ?_, fun g hg => .inl hg⟩; unfold OwnsI; rw [hins.out, hL.out]; exact hown.out
    ·have hgt : n < x := by omega
     have hins := edgeI_ins n ns a hlow.out (fun y hy => by rw [ex] at hy; obtain rfl := Option.some.inj hy; exact hgt) (by have := hL.out; omega)
     have g4 : (x == n) = false := by simpa using heq
     replace hins := hdh hins; replace ex := hdh ex; clear heq; have hownD := hown.out; have zD : B ≤ w.heap.size := hB
     go_wp2_with (at_builtin; refine wpList_append_two rfl _ _ _ rfl B 3 iI _ 1 8 Tryz.underlying52 hi0 hz0 hz1 hz2 rfl (by omega) w 1 _ _ _ _ (by rfl) hownD (by rfl) rfl (by simp [Value.oneCell']) (by omega) (by unfold maxLen; omega) zD ?_; intro v6 w6 hown6 hgr6 htw6 hb6)
     rcases hown6.2 with ⟨_, h⟩ | ⟨g6, cap6, cur6, rfl, hg6, hh6, hn6, hm6, hs6, ht6⟩
     ·exact absurd h (by omega)
     have htw := htw6 g6 rfl; replace htw := hdh htw; replace hgr6 := hdh hgr6; clear htw6; have gl6 := Go.lt_of_block hh6
     have hn6i : (L : Int) + 1 ≤ cap6 := by omega
     rw [flatVI] at ht6; clear hown6 hownD hb6 zD; unfold maxLen at hm6
     have q1 : (a : Int) ≤ (L : Int) + 1 := by omega
     have q2 : (a : Int) + 1 ≤ (L : Int) + 1 := by omega
     have q3 : ¬ cap6 = a := by omega
     by_cases hac : a + 1 < cap6
     ·have haci : (a : Int) + 1 < cap6 := by omega
      have q4 : ¬ cap6 = a + 1 := by omega
      refine wp_region_steady_then (Held w6 0 []) 7 (by kernel_rfl) (by kernel_rfl) (by decide) (by kernel_rfl) (by kernel_rfl) ⟨belt, (by (try simp) <;> omega), (by first | exact trivial | (simp only [Cells]; go_simp))⟩ ?_; simp only [List.take_succ_cons, List.take_zero]
      repeat (first | (refine' sdo ?_; simp only [pu]) | (refine spa ?_; simp only [pu]))
      refine wpSteady_nil (fun uE hSE => ?_); obtain ⟨hcE, hbE, hzE, hcoE, hfoE⟩ := hall hSE; clear hSE; simp only [Cells] at hcE; simp only [List.drop_succ_cons, List.drop_zero, List.drop_nil]; have hhE := (hbE.block g6 gl6).trans hh6
      refine wpList_copy_grown rfl _ _ _ _ rfl 3 Tryz.underlying52 (by kernel_rfl) _ _ _ _ _ _ (by rfl) (by rfl) g6 (a + 1) cur6.toList 3 (by simpa using hhE) ((ns.map vI).drop a) (by have := hL.out; simp [Nat.min_def]; (try split) <;> omega) (fun h0 => ⟨rfl, ⟨g6, a, none⟩, rfl, fun j v hj => by
             rw [show (⟨g6, a, none⟩ : Addr).add j = ⟨g6, a + j, none⟩ by (unfold Addr.add; split <;> simp_all)]; rw [List.getElem?_drop] at hj; have hjl := (List.getElem?_eq_some_iff.1 hj).1
             have e1 : (cur6.toList.take ((L + 1) * 1))[a + j]? = some v := by rw [ht6, List.getElem?_append_left hjl]; exact hj
             rw [List.getElem?_take_of_lt (by have := hL.out; simp at hjl; omega)] at e1; simp only [World.cell?, hhE]
             simpa using e1⟩) (by have := hL.out; simp; omega) (fun v hv => by obtain ⟨i, _, rfl⟩ := List.mem_map.1 (List.mem_of_mem_drop hv); rfl) ?_
      intro w7 hh7 hgr7
      replace hgr7 := hdh hgr7; replace hbE := hdh hbE; have hh7' := hh7.out
      have hl7 : a < (splice cur6.toList (a + 1) ((ns.map vI).drop a)).length := by rw [length_splice _ _ _ (by have := hL.out; simp; omega)]; simp; omega
      have c7 : w7.cell? ⟨g6, a, none⟩ = some ((splice cur6.toList (a + 1) ((ns.map vI).drop a))[a]'hl7) := by
       simp only [World.cell?, hh7']
       simp [List.getElem?_eq_getElem hl7]
      have f7 : w7.frozen? ⟨g6, a, none⟩ = false := by simp [World.frozen?, hh7']
      have haL1 : (a : Int) < (L : Int) + 1 := by have := hL.out; omega
      obtain ⟨z7, hz7⟩ := exx ((splice cur6.toList (a + 1) ((ns.map vI).drop a))[a]'hl7); rw [hz7] at c7; clear hz7 hl7 hcE hcoE hfoE hhE hzE hh7'; replace hh6 := hdh hh6; replace ht6 := hdh ht6; replace hs6 := hdh hs6; go_wp2; go_ret; refine ⟨edge_close hgr6.out htw.out hbE.out hgr7.out a none _, _, rfl, ?_, fun g hg => by cases hg; exact htw.out.imp id Nat.le_of_lt⟩; have h := own_insI (n := n) (base := B) hh7.out hg6 hn6 hm6 hs6.out ht6.out hL.out (by have := hL.out; omega); unfold OwnsI
      have e : (ns.take a ++ n :: ns.drop a).length = L + 1 := by have := hL.out; simp; omega
      rw [hins.out, e, flatVI]; exact h
     ·(exfalso; omega)
  ·have haE : a = L := by omega
   have hins := edgeI_ins n ns a hlow.out (fun y hy => by rw [List.getElem?_eq_none (by have := hL.out; omega)] at hy; cases hy) (by have := hL.out; omega); replace haE := hdh haE; replace hins := hdh hins; have hownD := hown.out; have zD : B ≤ w.heap.size := hB
   go_wp2_with (at_builtin; refine wpList_append_two rfl _ _ _ rfl B 3 iI _ 1 8 Tryz.underlying52 hi0 hz0 hz1 hz2 rfl (by omega) w 1 _ _ _ _ (by rfl) hownD (by rfl) rfl (by simp [Value.oneCell']) (by omega) (by unfold maxLen; omega) zD ?_; intro v6 w6 hown6 hgr6 htw6 hb6)
   rcases hown6.2 with ⟨_, h⟩ | ⟨g6, cap6, cur6, rfl, hg6, hh6, hn6, hm6, hs6, ht6⟩
   ·exact absurd h (by omega)
   have htw := htw6 g6 rfl; replace htw := hdh htw; replace hgr6 := hdh hgr6; clear htw6; have gl6 := Go.lt_of_block hh6
   have hn6i : (L : Int) + 1 ≤ cap6 := by omega
   rw [flatVI] at ht6; clear hown6 hownD hb6 zD; unfold maxLen at hm6
   have q1 : (a : Int) ≤ (L : Int) + 1 := by omega
   have q2 : (a : Int) + 1 ≤ (L : Int) + 1 := by omega
   have q3 : ¬ cap6 = a := by omega
   by_cases hac : a + 1 < cap6
   ·have haci : (a : Int) + 1 < cap6 := by omega
    have q4 : ¬ cap6 = a + 1 := by omega
    refine wp_region_steady_then (Held w6 0 []) 7 (by kernel_rfl) (by kernel_rfl) (by decide) (by kernel_rfl) (by kernel_rfl) ⟨belt, (by (try simp) <;> omega), (by first | exact trivial | (simp only [Cells]; go_simp))⟩ ?_; simp only [List.take_succ_cons, List.take_zero]
    repeat (first | (refine' sdo ?_; simp only [pu]) | (refine spa ?_; simp only [pu]))
    refine wpSteady_nil (fun uE hSE => ?_); obtain ⟨hcE, hbE, hzE, hcoE, hfoE⟩ := hall hSE; clear hSE; simp only [Cells] at hcE; simp only [List.drop_succ_cons, List.drop_zero, List.drop_nil]; have hhE := (hbE.block g6 gl6).trans hh6
    refine wpList_copy_grown rfl _ _ _ _ rfl 3 Tryz.underlying52 (by kernel_rfl) _ _ _ _ _ _ (by rfl) (by rfl) g6 (a + 1) cur6.toList 3 (by simpa using hhE) ((ns.map vI).drop a) (by have := hL.out; simp [Nat.min_def]; (try split) <;> omega) (fun h0 => ⟨rfl, ⟨g6, a, none⟩, rfl, fun j v hj => by
         rw [show (⟨g6, a, none⟩ : Addr).add j = ⟨g6, a + j, none⟩ by (unfold Addr.add; split <;> simp_all)]; rw [List.getElem?_drop] at hj; have hjl := (List.getElem?_eq_some_iff.1 hj).1
         have e1 : (cur6.toList.take ((L + 1) * 1))[a + j]? = some v := by rw [ht6, List.getElem?_append_left hjl]; exact hj
         rw [List.getElem?_take_of_lt (by have := hL.out; simp at hjl; omega)] at e1; simp only [World.cell?, hhE]
         simpa using e1⟩) (by have := hL.out; simp; omega) (fun v hv => by obtain ⟨i, _, rfl⟩ := List.mem_map.1 (List.mem_of_mem_drop hv); rfl) ?_
    intro w7 hh7 hgr7
    replace hgr7 := hdh hgr7; replace hbE := hdh hbE; have hh7' := hh7.out
    have hl7 : a < (splice cur6.toList (a + 1) ((ns.map vI).drop a)).length := by rw [length_splice _ _ _ (by have := hL.out; simp; omega)]; simp; omega
    have c7 : w7.cell? ⟨g6, a, none⟩ = some ((splice cur6.toList (a + 1) ((ns.map vI).drop a))[a]'hl7) := by
     simp only [World.cell?, hh7']
     simp [List.getElem?_eq_getElem hl7]
    have f7 : w7.frozen? ⟨g6, a, none⟩ = false := by simp [World.frozen?, hh7']
    have haL1 : (a : Int) < (L : Int) + 1 := by have := hL.out; omega
    obtain ⟨z7, hz7⟩ := exx ((splice cur6.toList (a + 1) ((ns.map vI).drop a))[a]'hl7); rw [hz7] at c7; clear hz7 hl7 hcE hcoE hfoE hhE hzE hh7'; replace hh6 := hdh hh6; replace ht6 := hdh ht6; replace hs6 := hdh hs6; go_wp2; go_ret; refine ⟨edge_close hgr6.out htw.out hbE.out hgr7.out a none _, _, rfl, ?_, fun g hg => by cases hg; exact htw.out.imp id Nat.le_of_lt⟩; have h := own_insI (n := n) (base := B) hh7.out hg6 hn6 hm6 hs6.out ht6.out hL.out (by have := hL.out; omega); unfold OwnsI
    have e : (ns.take a ++ n :: ns.drop a).length = L + 1 := by have := hL.out; simp; omega
    rw [hins.out, e, flatVI]; exact h
   ·obtain rfl : cap6 = a + 1 := by omega
    refine wp_region_steady_then (Held w6 0 []) 7 (by kernel_rfl) (by kernel_rfl) (by decide) (by kernel_rfl) (by kernel_rfl) ⟨belt, (by (try simp) <;> omega), (by first | exact trivial | (simp only [Cells]; go_simp))⟩ ?_; simp only [List.take_succ_cons, List.take_zero]
    repeat (first | (refine' sdo ?_; simp only [pu]) | (refine spa ?_; simp only [pu]))
    refine wpSteady_nil (fun uE hSE => ?_); obtain ⟨hcE, hbE, hzE, hcoE, hfoE⟩ := hall hSE; clear hSE; simp only [Cells] at hcE; simp only [List.drop_succ_cons, List.drop_zero, List.drop_nil]; have hhE := (hbE.block g6 gl6).trans hh6; refine wpList_copy_grown rfl _ _ _ _ rfl 3 Tryz.underlying52 (by kernel_rfl) _ _ _ _ _ _ (by rfl) (by rfl) g6 (a + 1) cur6.toList 3 (by simpa using hhE) ((ns.map vI).drop a) (by have := hL.out; simp [Nat.min_def]; (try split) <;> omega) (fun h0 => by exfalso; have := hL.out; simp at h0; omega) (by have := hL.out; simp; omega) (fun v hv => by obtain ⟨i, _, rfl⟩ := List.mem_map.1 (List.mem_of_mem_drop hv); rfl) ?_
    intro w7 hh7 hgr7
    replace hgr7 := hdh hgr7; replace hbE := hdh hbE; have hh7' := hh7.out
    have hl7 : a < (splice cur6.toList (a + 1) ((ns.map vI).drop a)).length := by rw [length_splice _ _ _ (by have := hL.out; simp; omega)]; simp; omega
    have c7 : w7.cell? ⟨g6, a, none⟩ = some ((splice cur6.toList (a + 1) ((ns.map vI).drop a))[a]'hl7) := by
     simp only [World.cell?, hh7']
     simp [List.getElem?_eq_getElem hl7]
    have f7 : w7.frozen? ⟨g6, a, none⟩ = false := by simp [World.frozen?, hh7']
    have haL1 : (a : Int) < (L : Int) + 1 := by have := hL.out; omega
    obtain ⟨z7, hz7⟩ := exx ((splice cur6.toList (a + 1) ((ns.map vI).drop a))[a]'hl7); rw [hz7] at c7; clear hz7 hl7 hcE hcoE hfoE hhE hzE hh7'; replace hh6 := hdh hh6; replace ht6 := hdh ht6; replace hs6 := hdh hs6; go_wp2; go_ret; refine ⟨edge_close hgr6.out htw.out hbE.out hgr7.out a none _, _, rfl, ?_, fun g hg => by cases hg; exact htw.out.imp id Nat.le_of_lt⟩; have h := own_insI (n := n) (base := B) hh7.out hg6 hn6 hm6 hs6.out ht6.out hL.out (by have := hL.out; omega); unfold OwnsI
    have e : (ns.take a ++ n :: ns.drop a).length = L + 1 := by have := hL.out; simp; omega
    rw [hins.out, e, flatVI]; exact h
section
attribute [local go_sem ↓ high] ldG_is slG_is
theorem cntF_step {l : List Fl} {k : Nat} {g : Fl} (h : l[k]? = some g) (f : Fl) : cntF (l.drop k) f = cntF (l.drop (k + 1)) f + if g.eqb f then 1 else 0 := by
 rw [drop_get h, cntF_cons]
set_option maxRecDepth 100000 in
theorem kcount_any (l : List Fl) (f : Fl) (v : Value) (w : World) (hl : Row w.heap.size 19 Fl.enc w v l) (hm : l.length ≤ 1000000) : Calls Tryz.prog 73 #[v, f.val] w fun e w' => e = .returned (.int .i64 (cntF l f)) ∧ Below w.heap.size w w' := by
 rw [show f.val = .agg #[.int .u8 (f).s.kind, .int .i64 (f).s.rect.x, .int .i64 (f).s.rect.y, .int .i64 (f).s.rect.wd, .int .i64 (f).s.rect.ht, .int .u8 (f).s.col.r, .int .u8 (f).s.col.g, .int .u8 (f).s.col.b, .int .u8 (f).s.col.a, .int .u8 (f).s.back.r, .int .u8 (f).s.back.g, .int .u8 (f).s.back.b, .int .u8 (f).s.back.a, .string (f).s.text, .int .i64 (f).s.node, .int .i64 (f).r.x, .int .i64 (f).r.y, .int .i64 (f).r.wd, .int .i64 (f).r.ht] from rfl]; obtain ⟨s0, cap0, rfl, hmax0⟩ := hl.shape; obtain ⟨n, hn⟩ := exx (l.length); rw [hn] at hl hm hmax0 ⊢; obtain ⟨T, hT⟩ := exx (cntF l f); rw [hT]
 have h0 : 0 + cntF (l.drop 0) f = T := by rw [Nat.zero_add, List.drop_zero]; exact hT
 clear hT; replace hl := hdh hl; replace hn := hdh hn; replace h0 := hdh h0
 go_enter Tryz.func73, Tryz.ntmps73
 go_upto_region 1 with fail
 obtain ⟨W0, hW0⟩ := exx (w.alloc (.cells (Fl.enc f).toArray 120)); obtain ⟨b1, hb1⟩ := exx (w.heap.size)
 have B1 : Blk W0 b1 (Fl.enc f) 120 := by rw [← hW0]; exact Blk.new' hb1.symm
 have hb0 : Below w.heap.size w W0 := by rw [← hW0]; exact belt
 rw [show w.alloc (.cells #[.int .u8 (f).s.kind, .int .i64 (f).s.rect.x, .int .i64 (f).s.rect.y, .int .i64 (f).s.rect.wd, .int .i64 (f).s.rect.ht, .int .u8 (f).s.col.r, .int .u8 (f).s.col.g, .int .u8 (f).s.col.b, .int .u8 (f).s.col.a, .int .u8 (f).s.back.r, .int .u8 (f).s.back.g, .int .u8 (f).s.back.b, .int .u8 (f).s.back.a, .string (f).s.text, .int .i64 (f).s.node, .int .i64 (f).r.x, .int .i64 (f).r.y, .int .i64 (f).r.wd, .int .i64 (f).r.ht] 120) = W0 from hW0, hb1]; clear hW0 hb1
 have LF : ∀ W, Below W0.heap.size W0 W → (ldG (.pointer (some ⟨b1, 0, none⟩))).run Tryz.prog W = .ok f.val W := fun W h => ldG_at (o := 0) fun i u hi => (B1.below h B1.lt).cell (by rw [Nat.zero_add]; exact hi)
 replace LF := hdh LF; clear B1; have zW := hb0.size; go_wp2
 go_loopw [5, 6] (fun nv iv wr => ∃ k c : Nat, k ≤ n ∧ c ≤ k ∧ iv = .int .i64 k ∧ nv = .int .i64 c ∧ Hid (c + cntF (l.drop k) f = T) ∧ Below W0.heap.size W0 wr) (fun _ iv _ => n - (intOf iv).toNat)
 case atStart => exact ⟨0, 0, Nat.zero_le _, Nat.le_refl _, rfl, rfl, h0, Below.refl _ _⟩
 case round =>
  clear h0; obtain ⟨k, c, hk, hck, rfl, rfl, hgo, hbr⟩ := hrel; have zr := hbr.size; have hbwr := hb0.trans (hbr.mono zW)
  by_cases hkn : k < n
  ·obtain ⟨g, hg⟩ := get_at hn.out hkn
   obtain ⟨bS, oS, cS, e, hbS, _, _, hel⟩ := row_ldG (hl.out.below hbwr) hbwr.size (by rw [hn.out]; omega); rw [hn.out] at e
   simp at e
   obtain ⟨rfl, rfl⟩ := e; have LX := hel k g hg
   have LF2 := fun W (h : Below wr.heap.size wr W) => LF.out W (hbr.trans (h.mono zr))
   have EQ := fun w => eql_valG g f w
   have EG := fun p q w => eqg_valG g f p q w
   have hst := hgo.out; rw [cntF_step hg] at hst
   have hkk : (k : Int) < n := by omega
   generalize g.val = VX at LX EQ EG; generalize f.val = VF at LF2 EQ EG; obtain ⟨C, hC⟩ := exx (g.eqb f); rw [hC] at EQ hst; replace LX := hdh LX; replace LF2 := hdh LF2; clear hel hg hC hgo
   go_upto_region 5 with fail
   refine rst (Held wr 0 []) ?_
   repeat (first | (refine' wpSteady_do _ _ _; rotate_left; (focus rfl); (focus (intro w1 hS R hR; have hc := hS.cells; simp only [Cells] at hc; obtain ⟨hco, hfo⟩ := bcell hS.old; have hLx := LX.out _ hS.old; have hLy := LF2.out _ hS.old; go_simp; (try go_bits); first | exact hR _ hS | fail)); simp only [pu]) | (refine spa ?_; simp only [pu]))
   refine wpSteady_nil (fun uZ hSZ => ?_); obtain ⟨hcZ, hbZ, hzZ, hcoZ, hfoZ⟩ := hall hSZ; clear hSZ; simp only [Cells] at hcZ; have hbz := hbr.trans (hbZ.mono zr)
   cases C
   ·simp only [Bool.false_eq_true, if_false, Nat.add_zero] at hst
    replace hst := hdh hst; go_wp2; go_roundw
    case rel => exact ⟨k + 1, c, by omega, by omega, by go_num, rfl, hst, hbz⟩
    case measure => simp [intOf]; omega
   ·simp only [if_true] at hst
    have hst2 : c + 1 + cntF (l.drop (k + 1)) f = T := by omega
    replace hst2 := hdh hst2; clear hst; go_wp2; go_roundw
    case rel => exact ⟨k + 1, c + 1, by omega, by omega, by go_num, by go_num, hst2, hbz⟩
    case measure => simp [intOf]; omega
  ·obtain rfl : k = n := by omega
   have e1 : c = T := by have h := hgo.out; rw [List.drop_of_length_le (by rw [hn.out]; exact Nat.le_refl _)] at h; simpa [cntF] using h
   subst e1; go_wp2; go_ret; exact ⟨rfl, hbwr⟩
theorem kasked17_any (xs ys : List St) (v u : Value) (w : World) (hx : Row w.heap.size 15 St.enc w v xs) (hy : Row w.heap.size 15 St.enc w u ys) (k1 : ∀ s ∈ xs, s.Wf) (k2 : ∀ s ∈ ys, s.Wf) : Calls Tryz.prog 67 #[v, u] w fun e w' => e = .returned (.int .i64 (dmgE xs ys)) ∧ Below w.heap.size w w' := by
 have C1 := hdh (rcheck_any xs v w hx k1); have C2 := hdh (fun W (h : Below w.heap.size w W) => rcheck_any ys u W ((hy.below h).mono h.size) k2); obtain ⟨s1, c1, rfl, m1⟩ := hx.shape; obtain ⟨s2, c2, rfl, m2⟩ := hy.shape; clear hx hy
 by_cases e1 : chkL xs = 0
 ·have hd : dmgE xs ys = chkL ys := by unfold dmgE; rw [if_pos e1]
  rw [hd]; rw [e1] at C1; obtain ⟨E, hE⟩ := exx (chkL ys); rw [hE] at C2 ⊢; clear hd e1 hE
  go_enter Tryz.func67, Tryz.ntmps67
  go_wp2_with (first
   | (go_at_call 12; (with_reducible refine cmm C1.out fun w3 hb3 => ?_))
   | (go_at_call 12; (with_reducible refine cmm (C2.out _ hb3) fun w4 hb4 => ?_))
   | go_in)
  go_ret; exact ⟨rfl, hb3.trans (hb4.mono hb3.size)⟩
 ·have hd : dmgE xs ys = chkL xs := by unfold dmgE; rw [if_neg e1]
  rw [hd]; obtain ⟨E, hE⟩ := exx (chkL xs); rw [hE] at C1 e1 ⊢
  have e2' : (E != 0) = true := by simpa using e1
  clear hd hE C2
  go_enter Tryz.func67, Tryz.ntmps67
  go_wp2_with (first
   | (go_at_call 12; (with_reducible refine cmm C1.out fun w3 hb3 => ?_))
   | go_in)
  go_ret; exact ⟨rfl, hb3⟩
/-! ### Nodes -/
theorem nod_len (a b : List Fl) : ∀ (l : List Fl) (o : List Int), (l.foldl (nodStep a b) o).length ≤ o.length + l.length
 | [], o => Nat.le_refl _
 | f :: l, o => by
  have h := nod_len a b l (nodStep a b o f)
  have h2 : (nodStep a b o f).length ≤ o.length + 1 := by
   unfold nodStep
   split
   ·omega
   ·exact edgeI_len _ _
  rw [List.foldl_cons, List.length_cons]; omega
theorem nod_snoc {a b l : List Fl} {k : Nat} {f : Fl} (h : l[k]? = some f) (o : List Int) : (l.take (k + 1)).foldl (nodStep a b) o = nodStep a b ((l.take k).foldl (nodStep a b) o) f := by
 rw [List.take_add_one, h, List.foldl_append]
 rfl
set_option maxRecDepth 100000 in
theorem knodes_any (xs ys : List St) (v u : Value) (w : World) (hx : Row w.heap.size 15 St.enc w v xs) (hy : Row w.heap.size 15 St.enc w u ys) (k1 : ∀ s ∈ xs, s.Wf) (k2 : ∀ s ∈ ys, s.Wf) : Calls Tryz.prog 28 #[v, u] w (OutNd w.heap.size (dmgE xs ys) (nodN xs ys) w) := by
 have A1 := hdh (kasked17_any xs ys v u w hx hy k1 k2); have F1 := hdh (fun W (h : Below w.heap.size w W) => kflats_any xs v W ((hx.below h).mono h.size) k1); have F2 := hdh (fun W (h : Below w.heap.size w W) => kflats_any ys u W ((hy.below h).mono h.size) k2); obtain ⟨s1, c1, rfl, m1⟩ := hx.shape; obtain ⟨s2, c2, rfl, m2⟩ := hy.shape; clear hx hy; unfold OutNd nodN
 by_cases hd : dmgE xs ys = 0
 ·obtain ⟨e1, e2⟩ := dmgE_zero hd
  have lX := flts_le e1; have lY := flts_le e2; rw [if_pos hd]; rw [hd] at A1 ⊢; obtain ⟨X, hXe⟩ := exx (flts xs); obtain ⟨Y, hYe⟩ := exx (flts ys); rw [hXe] at F1 lX ⊢; rw [hYe] at F2 lY ⊢
  have hN : nodL X Y = (Y.take Y.length).foldl (nodStep X Y) ((X.take X.length).foldl (nodStep X Y) []) := by
   unfold nodL; rw [List.foldl_append, List.take_length, List.take_length]
  rw [hN]; obtain ⟨nX, eX⟩ := exx (X.length); obtain ⟨nY, eY⟩ := exx (Y.length); have lX0 := lX; have lY0 := lY; rw [eX] at lX0 ⊢; rw [eY] at lY0 ⊢
  replace lX : X.length ≤ 1000000 := by omega
  replace lY : Y.length ≤ 1000000 := by omega
  replace eX := hdh eX; replace eY := hdh eY; clear hd e1 e2 hXe hYe k1 k2 hN
  go_enter Tryz.func28, Tryz.ntmps28
  go_upto_region 6 with (first
   | (go_at_call 67; (with_reducible refine cmm A1.out fun w3 hb3 => ?_))
   | (go_at_call 69; (with_reducible refine (F1.out _ hb3).mono ?_); rintro e w4 ⟨hb4, v4, rfl, O4⟩; have hb04 := hb3.trans (hb4.mono hb3.size); obtain ⟨sX, cX, hv4⟩ := own_slice O4; rw [eX.out] at hv4; subst hv4)
   | (go_at_call 69; (with_reducible refine (F2.out _ hb04).mono ?_); rintro e w5 ⟨hb5, v5, rfl, O5⟩; obtain ⟨sY, cY, hv5⟩ := own_slice O5; rw [eY.out] at hv5; subst hv5)
   | go_in)
  have hb05 := hb04.trans (hb5.mono hb04.size); have z5 := hb05.size; have RX := hdh ((O4.below hb5 lrr).row (Nat.le_refl w5.heap.size)); have RY := hdh (O5.row (Nat.le_refl w5.heap.size)); clear A1 F1 F2 O4 O5 hb3 hb4 hb5 hb04; go_wp2
  go_loopw [9, 10] (fun ov iv wr => ∃ k : Nat, k ≤ nX ∧ iv = .int .i64 k ∧ OwnsI w5.heap.size wr ov ((X.take k).foldl (nodStep X Y) []) ∧ Below w5.heap.size w5 wr) (fun _ iv _ => nX - (intOf iv).toNat)
  case atStart => exact ⟨0, Nat.zero_le _, rfl, OwnsI.nil _ _, Below.refl _ _⟩
  case round =>
   obtain ⟨k, hk, rfl, hown, hbr⟩ := hrel; have zr := hbr.size
   by_cases hkn : k < nX
   ·obtain ⟨f, hf⟩ := get_at eX.out hkn
    have CX := fun W (h : Below wr.heap.size wr W) => kcount_any X f (.slice sX nX cX) W ((RX.out.below (hbr.trans (h.mono zr))).mono (Nat.le_trans zr h.size)) lX
    have CY := fun W (h : Below wr.heap.size wr W) => kcount_any Y f (.slice sY nY cY) W ((RY.out.below (hbr.trans (h.mono zr))).mono (Nat.le_trans zr h.size)) lY
    obtain ⟨bS, oS, cS, e, hbS, _, _, hel⟩ := row_ldG (RX.out.below hbr) zr (by rw [eX.out]; omega); rw [eX.out] at e
    simp at e
    obtain ⟨rfl, rfl⟩ := e; obtain ⟨bT, oT, cT, e, _, _, _, helT⟩ := row_fl (RX.out.below hbr) (by rw [eX.out]; omega); rw [eX.out] at e
    simp at e
    obtain ⟨⟨rfl, rfl⟩, rfl⟩ := e; have LX := hel k f hf; obtain ⟨_, _, _, _, _, _, _, _, _, _, _, _, _, _, c14, _⟩ := helT k f hf; have hsn := nod_snoc (a := X) (b := Y) hf []; have hln := nod_len X Y (X.take k) []; rw [List.length_take] at hln; obtain ⟨ns, hns⟩ := exx ((X.take k).foldl (nodStep X Y) []); rw [hns] at hsn hown hln; rw [show nodStep X Y ns f = if cntF X f = cntF Y f then ns else edgeI ns f.s.node from rfl] at hsn; obtain ⟨x1, hx1⟩ := exx (cntF X f); obtain ⟨y1, hy1⟩ := exx (cntF Y f); rw [hx1, hy1] at hsn; rw [hx1] at CX; rw [hy1] at CY; generalize f.val = VX at LX CX CY; obtain ⟨sO, cO, rfl⟩ := own_slice hown
    have hkk : (k : Int) < nX := by omega
    have yS : bS < wr.heap.size := by omega
    have hnl : ns.length ≤ 1000000 := by have := (show ([] : List Int).length ≤ 0 from Nat.le_refl _); omega
    obtain ⟨nd, hnd⟩ := exx (f.s.node); rw [hnd] at c14 hsn; replace LX := hdh LX; replace CX := hdh CX; replace CY := hdh CY; replace hown := hdh hown; clear hel helT hf hns hx1 hy1 hnd
    go_upto_region 10 with fail
    by_cases hxy : x1 = y1
    ·have hne : ((x1 : Int) != y1) = false := by simp [hxy]
     rw [if_pos hxy] at hsn; replace hsn := hdh hsn; clear hxy; refine rst (Held wr 0 []) ?_
     repeat (first | (refine' wpSteady_do _ _ _; rotate_left; (focus rfl); (focus (intro w1 hS R hR; have hc := hS.cells; simp only [Cells] at hc; obtain ⟨hco, hfo⟩ := bcell hS.old; have hLx := LX.out _ hS.old; skip; go_simp; (try go_bits); first | exact hR _ hS | (first | ((go_at_call 73; (with_reducible refine cmm (CX.out _ hS.old) fun w2 hb2 => ?_); exact ⟨_, rfl, hR _ (hS.below hb2)⟩)) | ((go_at_call 73; (with_reducible refine cmm (CY.out _ hS.old) fun w2 hb2 => ?_); exact ⟨_, rfl, hR _ (hS.below hb2)⟩))))); simp only [pu]) | (refine spa ?_; simp only [pu]))
     refine wpSteady_nil (fun uZ hSZ => ?_); obtain ⟨hcZ, hbZ, hzZ, hcoZ, hfoZ⟩ := hall hSZ; clear hSZ; simp only [Cells] at hcZ; have hown' := OwnsI.below hown.out hbZ lrr; have hbz := hbr.trans (hbZ.mono zr); clear hcoZ hfoZ c14; go_wp2; go_roundw
     case rel => exact ⟨k + 1, by omega, by go_num, by rw [hsn.out]; exact hown', hbz⟩
     case measure => simp [intOf]; omega
    ·have hne : ((x1 : Int) != y1) = true := by simp; omega
     rw [if_neg hxy] at hsn; replace hsn := hdh hsn; clear hxy; refine rst (Held wr 0 []) ?_
     repeat (first | (refine' wpSteady_do _ _ _; rotate_left; (focus rfl); (focus (intro w1 hS R hR; have hc := hS.cells; simp only [Cells] at hc; obtain ⟨hco, hfo⟩ := bcell hS.old; have hLx := LX.out _ hS.old; skip; go_simp; (try go_bits); first | exact hR _ hS | (first | ((go_at_call 73; (with_reducible refine cmm (CX.out _ hS.old) fun w2 hb2 => ?_); exact ⟨_, rfl, hR _ (hS.below hb2)⟩)) | ((go_at_call 73; (with_reducible refine cmm (CY.out _ hS.old) fun w2 hb2 => ?_); exact ⟨_, rfl, hR _ (hS.below hb2)⟩))))); simp only [pu]) | (refine spa ?_; simp only [pu]))
     refine wpSteady_nil (fun uZ hSZ => ?_); obtain ⟨hcZ, hbZ, hzZ, hcoZ, hfoZ⟩ := hall hSZ; clear hSZ; simp only [Cells] at hcZ; have hown' := OwnsI.below hown.out hbZ lrr; have hbz := hbr.trans (hbZ.mono zr); have c14 := (hbZ.cell (p := ⟨bS, oS + k * 19 + 14, none⟩) yS).trans c14
     have ySZ : bS < uZ.heap.size := by have := hbZ.size; omega
     have AM := hdh (kamong17_any ns nd _ w5.heap.size uZ hown' hbz.size hnl); clear hcoZ hfoZ
     go_wp2_with (first
      | (go_at_call 74; (with_reducible refine AM.out.mono ?_); rintro e w2 ⟨hg2, v2, rfl, hT2, tw2⟩; have b2 := grown_below hg2 (B := w5.heap.size) hbz.size (fun g h => (own_block_lt hown' g h).1))
      | go_in)
     have hbn := hbz.trans b2; clear tw2 hg2; replace hT2 := hdh hT2; go_wp2; go_roundw
     case rel => exact ⟨k + 1, by omega, by go_num, by rw [hsn.out]; exact hT2.out, hbn⟩
     case measure => simp [intOf]; omega
   ·obtain rfl : nX = k := by omega
    have hl0 := nod_len X Y (X.take nX) []; rw [List.length_take] at hl0; obtain ⟨NI, hNI⟩ := exx ((X.take nX).foldl (nodStep X Y) []); rw [hNI] at hown hl0; have hNI2 := hdh hNI
    have hNl : NI.length ≤ 100000 := by simp at hl0; omega
    clear hl0 hNI hkn; replace hown := hdh hown; go_wp2; clear hk; obtain ⟨w6, rfl⟩ : ∃ x, x = wr := ⟨_, rfl⟩; have hown6 := hown; have hbr6 := hbr; clear hown hbr zr
    go_loopw [9, 11] (fun ov iv wr => ∃ k : Nat, k ≤ nY ∧ iv = .int .i64 k ∧ OwnsI w5.heap.size wr ov ((Y.take k).foldl (nodStep X Y) NI) ∧ Below w5.heap.size w5 wr) (fun _ iv _ => nY - (intOf iv).toNat)
    case atStart => exact ⟨0, Nat.zero_le _, rfl, hown6.out, hbr6⟩
    case round =>
     clear hown6 hbr6; obtain ⟨k, hk, rfl, hown, hbr⟩ := hrel; have zr := hbr.size
     by_cases hkn : k < nY
     ·obtain ⟨f, hf⟩ := get_at eY.out hkn
      have CX := fun W (h : Below wr.heap.size wr W) => kcount_any X f (.slice sX nX cX) W ((RX.out.below (hbr.trans (h.mono zr))).mono (Nat.le_trans zr h.size)) lX
      have CY := fun W (h : Below wr.heap.size wr W) => kcount_any Y f (.slice sY nY cY) W ((RY.out.below (hbr.trans (h.mono zr))).mono (Nat.le_trans zr h.size)) lY
      obtain ⟨bS, oS, cS, e, hbS, _, _, hel⟩ := row_ldG (RY.out.below hbr) zr (by rw [eY.out]; omega); rw [eY.out] at e
      simp at e
      obtain ⟨rfl, rfl⟩ := e; obtain ⟨bT, oT, cT, e, _, _, _, helT⟩ := row_fl (RY.out.below hbr) (by rw [eY.out]; omega); rw [eY.out] at e
      simp at e
      obtain ⟨⟨rfl, rfl⟩, rfl⟩ := e; have LX := hel k f hf; obtain ⟨_, _, _, _, _, _, _, _, _, _, _, _, _, _, c14, _⟩ := helT k f hf; have hsn := nod_snoc (a := X) (b := Y) hf NI; have hln := nod_len X Y (Y.take k) NI; rw [List.length_take] at hln; obtain ⟨ns, hns⟩ := exx ((Y.take k).foldl (nodStep X Y) NI); rw [hns] at hsn hown hln; rw [show nodStep X Y ns f = if cntF X f = cntF Y f then ns else edgeI ns f.s.node from rfl] at hsn; obtain ⟨x1, hx1⟩ := exx (cntF X f); obtain ⟨y1, hy1⟩ := exx (cntF Y f); rw [hx1, hy1] at hsn; rw [hx1] at CX; rw [hy1] at CY; generalize f.val = VX at LX CX CY; obtain ⟨sO, cO, rfl⟩ := own_slice hown
      have hkk : (k : Int) < nY := by omega
      have yS : bS < wr.heap.size := by omega
      have hnl : ns.length ≤ 1000000 := by have := hNl; omega
      obtain ⟨nd, hnd⟩ := exx (f.s.node); rw [hnd] at c14 hsn; replace LX := hdh LX; replace CX := hdh CX; replace CY := hdh CY; replace hown := hdh hown; clear hel helT hf hns hx1 hy1 hnd
      go_upto_region 15 with fail
      by_cases hxy : x1 = y1
      ·have hne : ((x1 : Int) != y1) = false := by simp [hxy]
       rw [if_pos hxy] at hsn; replace hsn := hdh hsn; clear hxy; refine rst (Held wr 0 []) ?_
       repeat (first | (refine' wpSteady_do _ _ _; rotate_left; (focus rfl); (focus (intro w1 hS R hR; have hc := hS.cells; simp only [Cells] at hc; obtain ⟨hco, hfo⟩ := bcell hS.old; have hLx := LX.out _ hS.old; skip; go_simp; (try go_bits); first | exact hR _ hS | (first | ((go_at_call 73; (with_reducible refine cmm (CX.out _ hS.old) fun w2 hb2 => ?_); exact ⟨_, rfl, hR _ (hS.below hb2)⟩)) | ((go_at_call 73; (with_reducible refine cmm (CY.out _ hS.old) fun w2 hb2 => ?_); exact ⟨_, rfl, hR _ (hS.below hb2)⟩))))); simp only [pu]) | (refine spa ?_; simp only [pu]))
       refine wpSteady_nil (fun uZ hSZ => ?_); obtain ⟨hcZ, hbZ, hzZ, hcoZ, hfoZ⟩ := hall hSZ; clear hSZ; simp only [Cells] at hcZ; have hown' := OwnsI.below hown.out hbZ lrr; have hbz := hbr.trans (hbZ.mono zr); clear hcoZ hfoZ c14; go_wp2; go_roundw
       case rel => exact ⟨k + 1, by omega, by go_num, by rw [hsn.out]; exact hown', hbz⟩
       case measure => simp [intOf]; omega
      ·have hne : ((x1 : Int) != y1) = true := by simp; omega
       rw [if_neg hxy] at hsn; replace hsn := hdh hsn; clear hxy; refine rst (Held wr 0 []) ?_
       repeat (first | (refine' wpSteady_do _ _ _; rotate_left; (focus rfl); (focus (intro w1 hS R hR; have hc := hS.cells; simp only [Cells] at hc; obtain ⟨hco, hfo⟩ := bcell hS.old; have hLx := LX.out _ hS.old; skip; go_simp; (try go_bits); first | exact hR _ hS | (first | ((go_at_call 73; (with_reducible refine cmm (CX.out _ hS.old) fun w2 hb2 => ?_); exact ⟨_, rfl, hR _ (hS.below hb2)⟩)) | ((go_at_call 73; (with_reducible refine cmm (CY.out _ hS.old) fun w2 hb2 => ?_); exact ⟨_, rfl, hR _ (hS.below hb2)⟩))))); simp only [pu]) | (refine spa ?_; simp only [pu]))
       refine wpSteady_nil (fun uZ hSZ => ?_); obtain ⟨hcZ, hbZ, hzZ, hcoZ, hfoZ⟩ := hall hSZ; clear hSZ; simp only [Cells] at hcZ; have hown' := OwnsI.below hown.out hbZ lrr; have hbz := hbr.trans (hbZ.mono zr); have c14 := (hbZ.cell (p := ⟨bS, oS + k * 19 + 14, none⟩) yS).trans c14
       have ySZ : bS < uZ.heap.size := by have := hbZ.size; omega
       have AM := hdh (kamong17_any ns nd _ w5.heap.size uZ hown' hbz.size hnl); clear hcoZ hfoZ
       go_wp2_with (first
        | (go_at_call 74; (with_reducible refine AM.out.mono ?_); rintro e w2 ⟨hg2, v2, rfl, hT2, tw2⟩; have b2 := grown_below hg2 (B := w5.heap.size) hbz.size (fun g h => (own_block_lt hown' g h).1))
        | go_in)
       have hbn := hbz.trans b2; clear tw2 hg2; replace hT2 := hdh hT2; go_wp2; go_roundw
       case rel => exact ⟨k + 1, by omega, by go_num, by rw [hsn.out]; exact hT2.out, hbn⟩
       case measure => simp [intOf]; omega
     ·obtain rfl : k = nY := by omega
      replace hown := hdh hown; go_wp2; go_ret2; refine ⟨hb05.trans (hbr.mono z5), _, rfl, ?_⟩; rw [hNI2.out]; exact own_less hown.out z5
 ·rw [if_neg hd]
  obtain ⟨E, hE⟩ := exx (dmgE xs ys); rw [hE] at A1 hd ⊢
  have e1 : (E != 0) = true := by simpa using hd
  clear hE F1 F2
  go_enter Tryz.func28, Tryz.ntmps28
  go_wp2_with (first
   | (go_at_call 67; (with_reducible refine cmm A1.out fun w3 hb3 => ?_))
   | go_in)
  go_ret2; exact ⟨hb3, _, rfl, OwnsI.nil _ _⟩
end
end Go.Proofs.YtfcphagmjijmkaaGreatDoor
