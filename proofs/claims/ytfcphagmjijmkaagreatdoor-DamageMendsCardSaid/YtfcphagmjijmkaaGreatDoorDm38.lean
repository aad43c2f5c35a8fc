/-
  Damage: a screen mended, by the document's answer.
-/
import Derived.ArgAppend
import Derived.Test.YtfcphagmjijmkaaGreatDoorDm29
import Derived.Test.YtfcphagmjijmkaaGreatDoorDm34
import Derived.Test.YtfcphagmjijmkaaGreatDoorDm37
namespace Go.Proofs.YtfcphagmjijmkaaGreatDoor
open Go.RowKit
set_option linter.unusedVariables false
set_option linter.unusedSimpArgs false
attribute [local go_sem] vwp vUpon_value vUpon_skip vUpon_enter vUpon_row
set_option maxHeartbeats 16000000
/-! ### the cells of the places ahead of one, mended -/
def mrkP (N : Nat) (qs : List Re) (i k : Nat) : Bool := decide (k < i) && hasL qs ((k % N : Nat) : Int) ((k / N : Nat) : Int)
theorem put_mrk0 (N : Nat) (qs : List Re) (now cs : List Ce) : PutP (mrkP N qs 0) now cs cs := PutP.zero (fun k _ => by simp [mrkP])
theorem put_mrkT {N : Nat} {qs : List Re} {now cs C : List Ce} {i : Nat} {c : Ce} (h : PutP (mrkP N qs i) now cs C) (hi : i < cs.length) (hc : now[i]? = some c) (hh : hasL qs ((i % N : Nat) : Int) ((i / N : Nat) : Int) = true) : PutP (mrkP N qs (i + 1)) now cs (C.set i c) := by
 refine ⟨by rw [List.length_set]; exact h.1, fun k hk => ?_⟩
 by_cases e : i = k
 ·subst e
  have e2 : mrkP N qs (i + 1) i = true := by unfold mrkP; rw [hh]; simp
  rw [List.getElem?_set_self (by rw [h.1]; exact hi), e2, hc]
  rfl
 ·have e2 : mrkP N qs (i + 1) k = mrkP N qs i k := by
   unfold mrkP; rw [show decide (k < i + 1) = decide (k < i) by rw [decide_eq_decide]; omega]
  rw [List.getElem?_set_ne e, h.2 k hk, e2]
theorem put_mrkF {N : Nat} {qs : List Re} {now cs C : List Ce} {i : Nat} (h : PutP (mrkP N qs i) now cs C) (hh : hasL qs ((i % N : Nat) : Int) ((i / N : Nat) : Int) = false) : PutP (mrkP N qs (i + 1)) now cs C :=
 h.congr (fun k _ => by
  unfold mrkP
  by_cases e : k = i
  ·subst e; rw [hh]; simp
  ·rw [show decide (k < i + 1) = decide (k < i) by rw [decide_eq_decide]; omega])
theorem put_mrkE {wd : Int} {qs : List Re} {now cs C : List Ce} {i : Nat} (h : PutP (mrkP wd.toNat qs i) now cs C) (hi : cs.length = i) : PutP (fun k => hasL qs ((k % wd.toNat : Nat) : Int) ((k / wd.toNat : Nat) : Int)) now cs C :=
 h.congr (fun k hk => by unfold mrkP; rw [decide_eq_true (show k < i by omega), Bool.true_and])
theorem hasE_ok {qs : List Re} {x y : Int} (h : chkR qs = 0) : hasE qs x y = hasL qs x y := if_pos h
theorem ownC_cells {base n : Nat} {w : World} {v : Value} {cs : List Ce} (h : OwnsC base w v cs) (hn : cs.length = n) (h0 : 0 < n) : ∃ g cap, v = .slice (some ⟨g, 0, none⟩) n cap ∧ base ≤ g ∧ g < w.heap.size ∧ n ≤ cap ∧ cap ≤ maxLen ∧ (∀ o, o < n * 11 → ∃ u, w.cell? ⟨g, o, none⟩ = some u) ∧ ∀ o, w.frozen? ⟨g, o, none⟩ = false := by
 subst hn; obtain ⟨g, cap, cur, rfl, hb, hg, hc, hm, hs, ht⟩ := h.openD h0; refine ⟨g, cap, rfl, hb, (Array.getElem?_eq_some_iff.1 hg).1, hc, hm, fun o ho => ?_, fun o => by simp [World.frozen?, hg]⟩; have : cs.length * 11 ≤ cap * 11 := Nat.mul_le_mul_right _ hc; refine ⟨cur[o]'(by omega), ?_⟩; simp only [World.cell?, hg]
 simp [Array.getElem?_eq_getElem (show o < cur.size by omega)]
theorem KeptBut.putk' {X : Nat → Prop} {A B : World} (h : KeptBut X A B) {g : Nat} (hg : X g) (o : Nat) (v0 v1 v2 v3 v4 v5 v6 v7 v8 v9 v10 : Value) : KeptBut X A ((((((((((((B).setCell ⟨g, o, none⟩ v0).setCell ⟨g, o + 1, none⟩ v1).setCell ⟨g, o + 2, none⟩ v2).setCell ⟨g, o + 3, none⟩ v3).setCell ⟨g, o + 4, none⟩ v4).setCell ⟨g, o + 5, none⟩ v5).setCell ⟨g, o + 6, none⟩ v6).setCell ⟨g, o + 7, none⟩ v7).setCell ⟨g, o + 8, none⟩ v8).setCell ⟨g, o + 9, none⟩ v9).setCell ⟨g, o + 10, none⟩ v10) :=
 ((((((((((h.setCell _ _ hg).setCell _ _ hg).setCell _ _ hg).setCell _ _ hg).setCell _ _ hg).setCell _ _ hg).setCell _ _ hg).setCell _ _ hg).setCell _ _ hg).setCell _ _ hg).setCell _ _ hg
set_option maxRecDepth 100000 in
theorem rmend_any (wd ht : Int) (cs : List Ce) (v : Value) (xs : List St) (vx : Value) (qs : List Re) (vq : Value) (w : World) (h1 : I64 wd) (h2 : I64 ht) (hl : Row w.heap.size 11 Ce.enc w v cs) (hx : Row w.heap.size 15 St.enc w vx xs) (k1 : ∀ s ∈ xs, s.Wf) (hq : Row w.heap.size 4 Re.enc w vq qs) (kq : WfL qs) :
  Calls Tryz.prog 34 #[.agg #[.int .i64 (wd), .int .i64 (ht), v], vx, vq] w (OutS w.heap.size (mndE wd ht cs xs qs) (mndZ wd wd ht cs xs qs) (mndZ ht wd ht cs xs qs) (mndC wd ht cs xs qs) w) := by
 have C1 := fun w1 (hb : Below w.heap.size w w1) => crcheck_any wd ht cs v w1 h1 h2 ((hl.below hb).mono hb.size)
 have C2 := fun w1 (hb : Below w.heap.size w w1) => rcheck_any xs vx w1 ((hx.below hb).mono hb.size) k1
 have C3 := fun w1 (hb : Below w.heap.size w w1) => kasked_any qs vq w1 ((hq.below hb).mono hb.size) kq
 have HS := fun px py w1 (hb : Below w.heap.size w w1) => kHas_any qs vq px py w1 ((hq.below hb).mono hb.size) kq
 obtain ⟨s0, cap, rfl, hmax⟩ := hl.shape; obtain ⟨s1, cap1, rfl, hmax1⟩ := hx.shape; obtain ⟨s2, cap2, rfl, hmax2⟩ := hq.shape; obtain ⟨E, hE⟩ := exx (mndE wd ht cs xs qs); obtain ⟨Z1, hZ1⟩ := exx (mndZ wd wd ht cs xs qs); obtain ⟨Z2, hZ2⟩ := exx (mndZ ht wd ht cs xs qs); obtain ⟨RC, hRC⟩ := exx (mndC wd ht cs xs qs); rw [hE, hZ1, hZ2, hRC]; unfold mndC at hRC; unfold mndZ at hZ1 hZ2; rw [hE] at hZ1 hZ2 hRC; unfold mndE at hE; have hl0 := hdh hl; have hx0 := hdh hx; obtain ⟨n, en⟩ := exx (cs.length); obtain ⟨m, em⟩ := exx (qs.length); obtain ⟨lx, ex⟩ := exx (xs.length); rw [en] at hl0 C1 hmax ⊢
 rw [em] at C3 HS hmax2 ⊢; rw [ex] at hx0 C2 hmax1 ⊢; unfold maxLen at hmax hmax1 hmax2; clear hl hx hq; replace em := hdh em; replace ex := hdh ex; replace k1 := hdh k1; replace C2 := hdh C2; replace C3 := hdh C3; replace HS := hdh HS
 go_enter Tryz.func34, Tryz.ntmps34
 go_upto_region 1 with fail
 obtain ⟨W, hW⟩ := exx ((w.alloc (.cells #[.int .i64 wd, .int .i64 ht, .slice s0 n cap] 40)).alloc (.cells #[.int .i64 0, .int .i64 0, .slice none 0 0] 40)); obtain ⟨b3, hb3⟩ := exx (w.heap.size)
 have B3 : Blk W b3 [.int .i64 wd, .int .i64 ht, .slice s0 n cap] 40 := by rw [← hW]; exact (Blk.new' hb3.symm).alloc _
 have B6 : Blk W (b3 + 1) [.int .i64 0, .int .i64 0, .slice none 0 0] 40 := by rw [← hW]; exact Blk.new' (by simp; omega)
 have hbw : Below w.heap.size w W := by rw [← hW]; exact belt
 rw [hW, hb3]; clear hW
 have hb3B : w.heap.size ≤ b3 := by omega
 replace hb3 := hdh hb3; have y3 := B3.lt; have y6 := B6.lt; have q0a := B3.cell (o := 0) rfl; have q1a := B3.cell (o := 1) rfl; have q2a := B3.cell (o := 2) rfl; have yqa := B3.lt; replace C1 := hdh (C1 W hbw)
 rcases chkS_cases wd ht cs with e0 | e0
 ·rw [e0] at C1
  rw [if_pos e0] at hE; obtain ⟨hfit, hlen, hall⟩ := chkS_zero e0; obtain ⟨z0, z1, z2, z3, z4⟩ := fitsS_true.1 hfit
  have hn2 : n ≤ 262144 := by
   have h : (n : Int) ≤ 262144 := by rw [← en, hlen]; exact z4
   omega
  go_upto_region 4 with (go_at_call 76; (with_reducible refine cmm C1.out fun w1 hb1 => ?_))
  replace B3 := B3.below hb1 y3; replace B6 := B6.below hb1 y6; replace hbw := hbw.trans (hb1.mono hbw.size); clear q0a q1a q2a yqa; clear C1 hb1 y3 y6; have y3 := B3.lt; have y6 := B6.lt; have C2 := hdh (C2.out w1 hbw); obtain ⟨c, hc⟩ := exx (chkL xs); rw [hc] at C2 hE
  by_cases hc0 : c = 0
  ·subst hc0
   rw [if_pos rfl] at hE
   go_upto_region 7 with (go_at_call 12; (with_reducible refine cmm C2.out fun w2 hb2 => ?_))
   replace B3 := B3.below hb2 y3; replace B6 := B6.below hb2 y6; replace hbw := hbw.trans (hb2.mono hbw.size); clear C2 hb2 y3 y6; have y3 := B3.lt; have y6 := B6.lt; have C3 := hdh (C3.out w2 hbw); obtain ⟨d, hd⟩ := exx (chkR qs); rw [hd] at C3 hE
   by_cases hc0 : d = 0
   ·subst hc0
    subst hE; rw [if_pos rfl] at hZ1 hZ2 hRC; subst hZ1 hZ2
    go_upto_region 10 with (go_at_call 77; (with_reducible refine C3.out.mono ?_); rintro e w3 ⟨rfl, hb3'⟩)
    replace B3 := B3.below hb3' y3; replace B6 := B6.below hb3' y6; have hbo := hbw.trans (hb3'.mono hbw.size); clear C3 hb3' y3 y6 hbw; have y3 := B3.lt; have y6 := B6.lt; have zb := hbo.size; obtain ⟨hmay, _⟩ := chkR_may hd
    have HS2 := fun px py W (h : Below w.heap.size w W) => (by have h2 := HS.out px py W h; rw [hd, hasE_ok hd] at h2; exact h2 : Calls Tryz.prog 80 #[.slice s2 m cap2, .agg #[.int .i64 px, .int .i64 py]] W fun e w' => e = .returned (.tuple #[.bool (hasL qs px py), .int .i64 0]) ∧ Below W.heap.size W w')
    replace HS2 := hdh HS2; replace hRC := hdh hRC
    have f1 : blankE wd ht = 0 := by unfold blankE; rw [hfit]; rfl
    have f2 : blankZ wd wd ht = wd := by unfold blankZ; rw [hfit]; rfl
    have f3 : blankZ ht wd ht = ht := by unfold blankZ; rw [hfit]; rfl
    have g1 := now_ok hfit hc
    have BL := hdh (fun W => (show Calls Tryz.prog 78 #[.agg #[.int .i64 (wd), .int .i64 (ht)], .agg #[.int .u8 0, .int .u8 0, .int .u8 0, .int .u8 0]] W (OutS W.heap.size 0 wd ht (blankC wd ht Co.none) W) from by
     have h := crblank_any wd ht Co.none W h1 h2; rw [f1, f2, f3] at h
     exact h))
    have hcl1 := now_len hfit hc
    have hcn : (nowC wd ht xs).length = n := by rw [hlen.symm] at hcl1; rw [en] at hcl1; omega
    have hbcw := blank_wf wd ht
    have DR := fun (v : Value) (W : World) (h : Row W.heap.size 11 Ce.enc W v (blankC wd ht Co.none)) (hxw : Below w.heap.size w W) => crdraw_any glyS written_any wd ht (blankC wd ht Co.none) v xs (.slice s1 lx cap1) W h1 h2 h hbcw ((hx0.out.below hxw).mono hxw.size) k1.out
    have g2 : drawZ wd wd ht (blankC wd ht Co.none) xs = wd := by unfold drawZ; rw [g1]; rfl
    have g3 : drawZ ht wd ht (blankC wd ht Co.none) xs = ht := by unfold drawZ; rw [g1]; rfl
    rw [g1, g2, g3, show drawC glyS wd ht (blankC wd ht Co.none) xs = nowC wd ht xs from rfl] at DR; obtain ⟨NW, hNW⟩ := exx (nowC wd ht xs); rw [hNW] at DR hRC hcn; obtain ⟨BC, hBC⟩ := exx (blankC wd ht Co.none); rw [hBC] at DR BL; obtain ⟨nb, hnb⟩ := exx (BC.length); replace DR := hdh DR; replace hcn := hdh hcn; replace hnb := hdh hnb; replace en := hdh en; replace hlen := hdh hlen; clear f1 f2 f3 g1 g2 g3 hBC hcl1 hbcw hNW HS; have q0a := B3.cell (o := 0) rfl; have q1a := B3.cell (o := 1) rfl; have q2a := B3.cell (o := 2) rfl; have yqa := B3.lt
    go_upto_region 11 with (go_at_call 78; (with_reducible refine (BL.out _).mono ?_); rintro e w5 ⟨hb5, v5, rfl, O5⟩; obtain ⟨s5, c5, hv5⟩ := own_slice O5; rw [hnb.out] at hv5; subst hv5)
    obtain ⟨W6, hW6⟩ := exx (w5.alloc (.cells #[.int .i64 wd, .int .i64 ht, .slice s5 nb c5] 40)); obtain ⟨b13, hb13⟩ := exx (w5.heap.size)
    have B13 : Blk W6 b13 [.int .i64 wd, .int .i64 ht, .slice s5 nb c5] 40 := by rw [← hW6]; exact Blk.new' hb13.symm
    have hb16 : Below w3.heap.size w3 W6 := by rw [← hW6]; exact hb5.alloc hb5.size _
    have O6 : OwnsC w3.heap.size W6 (.slice s5 nb c5) BC := by rw [← hW6]; exact O5.alloc _
    rw [hW6, hb13]; clear hW6 hb13 hb5 O5 BL; clear q0a q1a q2a yqa; replace B3 := B3.below hb16 y3; replace B6 := B6.below hb16 y6; replace hbo := hbo.trans (hb16.mono zb); clear y3 y6 hb16 zb; have y3 := B3.lt; have y6 := B6.lt; have zb := hbo.size; have q0a := B13.cell (o := 0) rfl; have q1a := B13.cell (o := 1) rfl; have q2a := B13.cell (o := 2) rfl; have yqa := B13.lt; have DR1 := hdh (DR.out _ W6 (O6.row lrr) hbo); obtain ⟨NL, hNL⟩ := exx (NW.length); rw [hNL] at hcn; have hcn2 := hcn.out; subst hcn2; replace hNL := hdh hNL; clear DR hcn O6 hnb
    go_upto_region 12 with (go_at_call 79; (with_reducible refine DR1.out.mono ?_); rintro e w7 ⟨hb7, v7, rfl, O7⟩; obtain ⟨s7, c7, hv7⟩ := own_slice O7; rw [hNL.out] at hv7; subst hv7)
    obtain ⟨W8, hW8⟩ := exx (w7.alloc (.cells #[.int .i64 wd, .int .i64 ht, .slice s7 NL c7] 40)); obtain ⟨b15, hb15⟩ := exx (w7.heap.size)
    have B15 : Blk W8 b15 [.int .i64 wd, .int .i64 ht, .slice s7 NL c7] 40 := by rw [← hW8]; exact Blk.new' hb15.symm
    have hb18 : Below W6.heap.size W6 W8 := by rw [← hW8]; exact hb7.alloc hb7.size _
    have O8 : OwnsC W6.heap.size W8 (.slice s7 NL c7) NW := by rw [← hW8]; exact O7.alloc _
    rw [hW8, hb15]; clear hW8 hb15 hb7 O7 DR1; clear q0a q1a q2a yqa; replace B3 := B3.below hb18 y3; replace B6 := B6.below hb18 y6; replace hbo := hbo.trans (hb18.mono zb); clear y3 y6 hb18 zb B13; have y3 := B3.lt; have y6 := B6.lt; have y15 := B15.lt; have zb := hbo.size; have CL := hdh (twin_any wd ht cs (.slice s0 NL cap) W8 ((hl0.out.below hbo).mono hbo.size) (by rw [en.out]; omega)); have q0a := B3.cell (o := 0) rfl; have q1a := B3.cell (o := 1) rfl; have q2a := B3.cell (o := 2) rfl; have yqa := B3.lt; have RN8 : Row W8.heap.size 11 Ce.enc W8 (.slice s7 NL c7) NW := O8.row lrr; clear O8; replace RN8 := hdh RN8
    go_upto_region 14 with (go_at_call 33; (with_reducible refine CL.out.mono ?_); rintro e w9 ⟨v9, rfl, O9, hb9⟩; obtain ⟨s9, c9, hv9⟩ := own_slice O9; rw [en.out] at hv9; subst hv9)
    obtain ⟨W9, hW9⟩ := exx (w9.alloc (.cells #[.int .i64 wd, .int .i64 ht, .slice s9 NL c9] 40)); obtain ⟨b16, hb16⟩ := exx (w9.heap.size)
    have B16 : Blk W9 b16 [.int .i64 wd, .int .i64 ht, .slice s9 NL c9] 40 := by rw [← hW9]; exact Blk.new' hb16.symm
    have g16 : W8.heap.size ≤ b16 := by have := hb9.size; omega
    have hb89 : Below W8.heap.size W8 W9 := by rw [← hW9]; exact hb9.alloc hb9.size _
    replace O9 : OwnsC W8.heap.size W9 (.slice s9 NL c9) cs := by rw [← hW9]; exact O9.alloc _
    rw [hW9, hb16]; clear hW9 hb16 hb9 CL; clear q0a q1a q2a yqa; replace B3 := B3.below hb89 y3; replace B6 := B6.below hb89 y6; replace B15 := B15.below hb89 y15; have hb9o := hbo.trans (hb89.mono zb); have RN9 := hdh ((RN8.out.below hb89)); have z9 := hb9o.size; have z89 := hb89.size; have y16 := B16.lt
    have n3 : ¬ (Value.slice s9 NL c9).ownBlock = some b3 := fun h => by have := (own_block_lt O9 _ h).1; omega
    have n6 : ¬ (Value.slice s9 NL c9).ownBlock = some (b3 + 1) := fun h => by have := (own_block_lt O9 _ h).1; omega
    have n15 : ¬ (Value.slice s9 NL c9).ownBlock = some b15 := fun h => by have := (own_block_lt O9 _ h).1; omega
    have n16 := ownsC_far O9 B16 (by decide); have nX := hdh (fun k (h : (Value.slice s9 NL c9).ownBlock = some k) => (own_block_lt O9 k h).1); obtain ⟨N, rfl⟩ : ∃ N : Nat, wd = N := ⟨wd.toNat, by omega⟩; have hP0 := hdh (put_mrk0 N qs NW cs); replace O9 := hdh O9; replace hb89 := hdh hb89; clear hall C2 hl0 hx0 hbo z1 z3
    go_loopw [14] (fun iv wr => ∃ (i : Nat) (C : List Ce), i ≤ NL ∧ iv = .int .i64 i ∧ Hid (PutP (mrkP N qs i) NW cs C) ∧ Hid (OwnsC W8.heap.size wr (.slice s9 NL c9) C) ∧ Hid (KeptBut (fun k => (Value.slice s9 NL c9).ownBlock = some k) W9 wr)) (fun iv _ => NL - (intOf iv).toNat)
    case atStart => exact ⟨0, cs, Nat.zero_le _, rfl, hP0, O9, hdh (KeptBut.refl _ _)⟩
    case round =>
     clear hP0 O9; obtain ⟨i, C, hi, rfl, hP, hO, hK⟩ := hrel; obtain ⟨W1, rfl⟩ : ∃ W1, W1 = wr := ⟨_, rfl⟩; have zr := hK.out.size; have B3r := B3.but hK.out n3; have B15r := B15.but hK.out n15; have B16r := B16.but hK.out n16; have hbr : Below w.heap.size w W1 := KeptBut.toBelow hb9o hK.out z9 (fun k h1 h2 => by have := nX.out k h2; omega); have q0a := B16r.cell (o := 0) rfl; have q1a := B16r.cell (o := 1) rfl; have q2a := B16r.cell (o := 2) rfl; have yqa := B16r.lt
     by_cases hin : i < NL
     ·have hii : (i : Int) < NL := by omega
      go_upto_region 16 with fail
      clear q0a q1a q2a yqa
      have hN0 : 0 < N := by
       have h := hlen.out; rw [en.out] at h
       cases N with
       | zero => simp at h; omega
       | succ N => omega
      have hNi : (0 : Int) < N := by omega
      have hNn : ¬ N = 0 := by omega
      have hq0 : 0 ≤ (i : Int) / (N : Int) := Int.ediv_nonneg (by omega) (by omega); have hq1 : (i : Int) / (N : Int) ≤ i := Int.ediv_le_self _ (by omega); have q0a := B3r.cell (o := 0) rfl; have q1a := B3r.cell (o := 1) rfl; have q2a := B3r.cell (o := 2) rfl; have yqa := B3r.lt; refine wp_region_tame (Held W1 0 []) (fun _ => .cells #[.int .i64 0, .int .i64 0] 30 (0, 0)) (W1.heap.size + 0) 11 12 (by kernel_rfl) (by kernel_rfl) (by omega) (by decide) (by kernel_rfl) (by kernel_rfl) (Held.stab _ _ _) (by (try simp) <;> omega) ⟨belt, (by (try simp) <;> omega), (by first | exact trivial | (simp only [Cells]; go_simp))⟩ ?_
      simp only [List.take_succ_cons, List.take_zero, List.drop_succ_cons, List.drop_zero]
      repeat (first | (refine' wpStB_do _ _ _; rotate_left; (focus rfl); (focus (intro w1 hS R hR; have hc := hS.cells; simp only [Cells] at hc; obtain ⟨hco, hfo⟩ := bcell hS.old; go_simp; (try go_bits); first | exact hR _ (Below.refl _ _) | fail)); simp only [pu]) | (refine wpStB_pass ?_ ?_; (focus rfl); simp only [pu]))
      refine wpStB_nil ?_
      (refine wpNews_do rfl (by intro w1 hS R hR; go_simp; exact hR) ?_; intro bp hnbp; simp only [pu]; simp only [ptrTo])
      refine wpNews_nil ?_
      intro w9 hS hU hN
      have hlp : bp < w9.heap.size := hN bp (.inr rfl); have hkp : W1.heap.size ≤ bp := Nat.le_of_not_lt hnbp; have Bp : Blk w9 bp [.int .i64 0, .int .i64 0] 30 := hU.2; have hb9 : Below W1.heap.size W1 w9 := hS.old; clear hS hU hN hnbp; clear q0a q1a q2a yqa; have k0 := Bp.cell (o := 0) rfl; have k1 := Bp.cell (o := 1) rfl; have kf := Bp.free
      go_upto_region 17 with fail
      have Gp : Blk ((w9.setCell ⟨bp, 0, none⟩ (.int .i64 ((i : Int) % (N : Int)))).setCell ⟨bp, 1, none⟩ (.int .i64 ((i : Int) / (N : Int)))) bp [.int .i64 ((i : Int) % (N : Int)), .int .i64 ((i : Int) / (N : Int))] 30 := (Bp.set 0 _).set 1 _; have hb10 : Below W1.heap.size W1 ((w9.setCell ⟨bp, 0, none⟩ (.int .i64 ((i : Int) % (N : Int)))).setCell ⟨bp, 1, none⟩ (.int .i64 ((i : Int) / (N : Int)))) := (hb9.setCell (p := ⟨bp, 0, none⟩) hkp _).setCell (p := ⟨bp, 1, none⟩) hkp _; clear k0 k1 kf Bp hb9 hlp hkp; generalize (w9.setCell ⟨bp, 0, none⟩ (.int .i64 ((i : Int) % (N : Int)))).setCell ⟨bp, 1, none⟩ (.int .i64 ((i : Int) / (N : Int))) = W2 at Gp hb10 ⊢
      have k0 := Gp.cell (o := 0) rfl; have k1 := Gp.cell (o := 1) rfl; have ky := Gp.lt; have hbr2 := hbr.trans (hb10.mono hbr.size); have HS3 := HS2.out ((i : Int) % (N : Int)) ((i : Int) / (N : Int)) W2 hbr2
      have TT := fun c (hc : NW[i]? = some c) hh => put_mrkT (N := N) (qs := qs) hP.out (by rw [en.out]; exact hin) hc hh
      have FF := fun hh => put_mrkF (N := N) (qs := qs) hP.out (i := i) hh
      rw [Int.natCast_emod, Int.natCast_ediv] at TT FF; have K2 := hdh (hK.out.below (hb10.mono lrr)); have O2 := hdh (hO.out.below hb10 lrr); have z10 := hb10.size
      cases hh : hasL qs ((i : Int) % (N : Int)) ((i : Int) / (N : Int))
      ·rw [hh] at HS3
       have FP := hdh (FF hh); replace HS3 := hdh HS3; clear TT FF hh
       go_wp2_with (first
        | (go_at_call 80; (with_reducible refine cmm HS3.out fun W3 hb3x => ?_))
        | go_in)
       go_roundw
       case rel => exact ⟨i + 1, C, by omega, by go_num, FP, hdh (O2.out.below hb3x lrr), hdh (K2.out.below hb3x)⟩
       case measure => simp [intOf]; omega
      ·rw [hh] at HS3
       replace HS3 := hdh HS3; obtain ⟨c, hci⟩ : ∃ c, NW[i]? = some c := get_at hNL.out hin; have TP := hdh (TT c hci hh); clear TT FF hh
       go_upto_region 19 with (go_at_call 80; (with_reducible refine cmm HS3.out fun W3 hb3x => ?_))
       have O3 := O2.out.below hb3x lrr; have K3 := hdh (K2.out.below hb3x)
       have hcl : C.length = NL := by rw [hP.out.1, en.out]
       have B15x := B15.but K3.out n15; have B16x := B16.but K3.out n16; have hb93 : Below W8.heap.size W8 W3 := KeptBut.toBelow hb89.out K3.out z89 (fun k h1 h2 => by have := nX.out k h2; omega); obtain ⟨gn, on, d7, e7, hgn, hcn7, hcm7, heln⟩ := row_ce RN8.out (by rw [hNL.out]; omega); rw [hNL.out] at e7 hcn7; simp only [Value.slice.injEq, true_and] at e7; obtain ⟨rfl, rfl⟩ := e7; have Mn := (heln i c hci).below hb93 hgn; obtain ⟨g9, cap9, ev9, hg9b, hg9l, hg9c, hg9m, _, _⟩ := ownC_cells O3 hcl (by omega); simp only [Value.slice.injEq, true_and] at ev9; obtain ⟨rfl, rfl⟩ := ev9
       have ygn : gn < W3.heap.size := by have := hb93.size; omega
       obtain ⟨ru, ⟨a0, a1, a2, a3⟩, ⟨d0, d1, d2, d3⟩, wi, ta⟩ := c; obtain ⟨j0, j1, j2, j3, j4, j5, j6, j7, j8, j9, j10⟩ := Mn; dsimp only at j0 j1 j2 j3 j4 j5 j6 j7 j8 j9 j10; clear heln hK hO hP hbr hbr2 K2 O2 HS3 z10 k0 k1 ky Gp hb10; obtain ⟨ci, hci0⟩ : ∃ ci, C[i]? = some ci := get_at hcl hin; replace O3 := hdh O3; have q0a := B15x.cell (o := 0) rfl; have q1a := B15x.cell (o := 1) rfl; have q2a := B15x.cell (o := 2) rfl; have yqa := B15x.lt; have q0b := B16x.cell (o := 0) rfl; have q1b := B16x.cell (o := 1) rfl; have q2b := B16x.cell (o := 2) rfl; have yqb := B16x.lt; refine wp_region_steady_then (Held W3 0 []) 9 (by kernel_rfl) (by kernel_rfl) (by decide) (by kernel_rfl) (by kernel_rfl) ⟨belt, (by (try simp) <;> omega), (by first | exact trivial | (simp only [Cells]; go_simp))⟩ ?_
       simp only [List.take_succ_cons, List.take_zero]
       repeat (first | (refine' sdo ?_; simp only [pu]) | (refine spa ?_; simp only [pu]))
       refine wpSteady_nil (fun uA hSA => ?_); obtain ⟨hcA, hbA, hzA, hcoA, hfoA⟩ := hall hSA; clear hSA; simp only [Cells] at hcA; simp only [List.drop_succ_cons, List.drop_zero, List.drop_nil]; have O4 := O3.out.below hbA lrr; obtain ⟨g9', cap9', ev9, _, hg9l', _, _, hce, hfz⟩ := ownC_cells O4 hcl (by omega); simp only [Value.slice.injEq, Option.some.injEq, Addr.mk.injEq, true_and, and_true] at ev9; obtain ⟨rfl, rfl⟩ := ev9; obtain ⟨u0, t0⟩ := hce (i * 11) (by omega); obtain ⟨u1, t1⟩ := hce (i * 11 + 1) (by omega); obtain ⟨u2, t2⟩ := hce (i * 11 + 2) (by omega); obtain ⟨u3, t3⟩ := hce (i * 11 + 3) (by omega)
       obtain ⟨u4, t4⟩ := hce (i * 11 + 4) (by omega); obtain ⟨u5, t5⟩ := hce (i * 11 + 5) (by omega); obtain ⟨u6, t6⟩ := hce (i * 11 + 6) (by omega); obtain ⟨u7, t7⟩ := hce (i * 11 + 7) (by omega); obtain ⟨u8, t8⟩ := hce (i * 11 + 8) (by omega); obtain ⟨u9, t9⟩ := hce (i * 11 + 9) (by omega); obtain ⟨u10, t10⟩ := hce (i * 11 + 10) (by omega); clear q0a q1a q2a yqa; clear q0b q1b q2b yqb; clear hce j0 j1 j2 j3 j4 j5 j6 j7 j8 j9 j10 hcA hcoA hfoA; go_wp2; exact ⟨⟨i + 1, _, by omega, by go_num, TP, hdh (O4.put hcl hci0 ⟨ru, ⟨a0, a1, a2, a3⟩, ⟨d0, d1, d2, d3⟩, wi, ta⟩), hdh ((K3.out.below hbA).putk' rfl (i * 11) _ _ _ _ _ _ _ _ _ _ _)⟩, by simp [intOf]; omega⟩
     ·obtain rfl : i = NL := by omega
      have hii : ¬ (i : Int) < i := by omega
      have hRl : C = RC := by
       rw [PutP.eq (put_mrkE (wd := (N : Int)) hP.out en.out) (by rw [hNL.out, en.out])]; exact hRC.out
      subst hRl; have B6r := B6.but hK.out n6; have y6r := B6r.lt; have k0 := B6r.cell (o := 0) rfl; have k1 := B6r.cell (o := 1) rfl; have k2 := B6r.cell (o := 2) rfl; have kf := B6r.free; clear hRC hP hK; go_wp2; clear q0a q1a q2a yqa; clear k0 k1 k2 kf; have ho := own_less hO.out zb; have ne6 := ownsC_far ho B6r (by decide); have goX := (own_other (own_other (own_other ho (a := ⟨b3 + 1, 0, none⟩) (fun g hg he => ne6 (by rw [hg]; exact congrArg some he)) (.int .i64 (N : Int))) (a := ⟨b3 + 1, 1, none⟩) (fun g hg he => ne6 (by rw [hg]; exact congrArg some he)) (.int .i64 ht)) (a := ⟨b3 + 1, 2, none⟩) (fun g hg he => ne6 (by rw [hg]; exact congrArg some he)) (.slice s9 i c9))
      have HZ := Blk.put3 B6r rfl (.int .i64 (N : Int)) (.int .i64 ht) (.slice s9 i c9); have hbZ : Below w.heap.size w (((W1.setCell ⟨b3 + 1, 0, none⟩ (.int .i64 (N : Int))).setCell ⟨b3 + 1, 1, none⟩ (.int .i64 ht)).setCell ⟨b3 + 1, 2, none⟩ (.slice s9 i c9)) := ((hbr.setCell (p := ⟨b3 + 1, 0, none⟩) (by show w.heap.size ≤ b3 + 1; omega) _).setCell (p := ⟨b3 + 1, 1, none⟩) (by show w.heap.size ≤ b3 + 1; omega) _).setCell (p := ⟨b3 + 1, 2, none⟩) (by show w.heap.size ≤ b3 + 1; omega) _; generalize ((W1.setCell ⟨b3 + 1, 0, none⟩ (.int .i64 (N : Int))).setCell ⟨b3 + 1, 1, none⟩ (.int .i64 ht)).setCell ⟨b3 + 1, 2, none⟩ (.slice s9 i c9) = wZ at HZ hbZ goX ⊢
      have jz0 := HZ.cell (o := 0) rfl; have jz1 := HZ.cell (o := 1) rfl; have jz2 := HZ.cell (o := 2) rfl; refine bodyPost_ret (v := .tuple #[.agg #[.int .i64 (N : Int), .int .i64 ht, .slice s9 i c9], .int .i64 0]) (by simp [results, Tryz.results34, go_sem, jz0, jz1, jz2]) rfl ⟨hbZ, _, rfl, goX⟩
   ·subst hE
    rw [if_neg (by first | decide | omega)] at hZ1 hZ2 hRC; subst hZ1 hZ2 hRC; have k0 := B6.cell (o := 0) rfl; have k1 := B6.cell (o := 1) rfl; have k2 := B6.cell (o := 2) rfl; have kf := B6.free
    have hcb : (d != 0) = true := by first | rfl | exact bne_iff_ne.2 hc0
    go_wp2_with (go_at_call 77; (with_reducible refine cmm C3.out fun w9 hb9 => ?_); obtain ⟨hc9, hf9, zz9⟩ := bzz hb9; have B6a := B6.below hb9 y6; have hbF := hbw.trans (hb9.mono hbw.size))
    clear k0 k1 k2 kf; have HZ := Blk.put3 B6a rfl (.int .i64 0) (.int .i64 0) (.slice none 0 0); have hbZ : Below w.heap.size w (((w9.setCell ⟨(b3 + 1), 0, none⟩ (.int .i64 0)).setCell ⟨(b3 + 1), 1, none⟩ (.int .i64 0)).setCell ⟨(b3 + 1), 2, none⟩ (.slice none 0 0)) := ((hbF.setCell (p := ⟨(b3 + 1), 0, none⟩) (by show w.heap.size ≤ (b3 + 1); omega) _).setCell (p := ⟨(b3 + 1), 1, none⟩) (by show w.heap.size ≤ (b3 + 1); omega) _).setCell (p := ⟨(b3 + 1), 2, none⟩) (by show w.heap.size ≤ (b3 + 1); omega) _; generalize ((w9.setCell ⟨(b3 + 1), 0, none⟩ (.int .i64 0)).setCell ⟨(b3 + 1), 1, none⟩ (.int .i64 0)).setCell ⟨(b3 + 1), 2, none⟩ (.slice none 0 0) = wZ at HZ hbZ ⊢
    have jz0 := HZ.cell (o := 0) rfl; have jz1 := HZ.cell (o := 1) rfl; have jz2 := HZ.cell (o := 2) rfl; refine bodyPost_ret (v := .tuple #[.agg #[.int .i64 0, .int .i64 0, .slice none 0 0], .int .i64 d]) (by simp [results, Tryz.results34, go_sem, jz0, jz1, jz2]) rfl ⟨hbZ, _, rfl, OwnsC.nil _ _⟩
  ·rw [if_neg hc0] at hE
   subst hE; rw [if_neg (by first | decide | omega)] at hZ1 hZ2 hRC; subst hZ1 hZ2 hRC; have k0 := B6.cell (o := 0) rfl; have k1 := B6.cell (o := 1) rfl; have k2 := B6.cell (o := 2) rfl; have kf := B6.free
   have hcb : (c != 0) = true := by first | rfl | exact bne_iff_ne.2 hc0
   go_wp2_with (go_at_call 12; (with_reducible refine cmm C2.out fun w9 hb9 => ?_); obtain ⟨hc9, hf9, zz9⟩ := bzz hb9; have B6a := B6.below hb9 y6; have hbF := hbw.trans (hb9.mono hbw.size))
   clear k0 k1 k2 kf; have HZ := Blk.put3 B6a rfl (.int .i64 0) (.int .i64 0) (.slice none 0 0); have hbZ : Below w.heap.size w (((w9.setCell ⟨(b3 + 1), 0, none⟩ (.int .i64 0)).setCell ⟨(b3 + 1), 1, none⟩ (.int .i64 0)).setCell ⟨(b3 + 1), 2, none⟩ (.slice none 0 0)) := ((hbF.setCell (p := ⟨(b3 + 1), 0, none⟩) (by show w.heap.size ≤ (b3 + 1); omega) _).setCell (p := ⟨(b3 + 1), 1, none⟩) (by show w.heap.size ≤ (b3 + 1); omega) _).setCell (p := ⟨(b3 + 1), 2, none⟩) (by show w.heap.size ≤ (b3 + 1); omega) _; generalize ((w9.setCell ⟨(b3 + 1), 0, none⟩ (.int .i64 0)).setCell ⟨(b3 + 1), 1, none⟩ (.int .i64 0)).setCell ⟨(b3 + 1), 2, none⟩ (.slice none 0 0) = wZ at HZ hbZ ⊢
   have jz0 := HZ.cell (o := 0) rfl; have jz1 := HZ.cell (o := 1) rfl; have jz2 := HZ.cell (o := 2) rfl; refine bodyPost_ret (v := .tuple #[.agg #[.int .i64 0, .int .i64 0, .slice none 0 0], .int .i64 c]) (by simp [results, Tryz.results34, go_sem, jz0, jz1, jz2]) rfl ⟨hbZ, _, rfl, OwnsC.nil _ _⟩
 ·rw [e0] at C1
  rw [if_neg (by omega)] at hE; rw [e0] at hE; subst hE; rw [if_neg (by first | decide | omega)] at hZ1 hZ2 hRC; subst hZ1 hZ2 hRC; have k0 := B6.cell (o := 0) rfl; have k1 := B6.cell (o := 1) rfl; have k2 := B6.cell (o := 2) rfl; have kf := B6.free
  have hc0 : ¬ (150 : Int) = (0 : Int) := by decide
  have hcb : (150 != 0) = true := by first | rfl | exact bne_iff_ne.2 hc0
  go_wp2_with (go_at_call 76; (with_reducible refine cmm C1.out fun w9 hb9 => ?_); obtain ⟨hc9, hf9, zz9⟩ := bzz hb9; have B6a := B6.below hb9 y6; have hbF := hbw.trans (hb9.mono hbw.size))
  clear k0 k1 k2 kf; have HZ := Blk.put3 B6a rfl (.int .i64 0) (.int .i64 0) (.slice none 0 0); have hbZ : Below w.heap.size w (((w9.setCell ⟨(b3 + 1), 0, none⟩ (.int .i64 0)).setCell ⟨(b3 + 1), 1, none⟩ (.int .i64 0)).setCell ⟨(b3 + 1), 2, none⟩ (.slice none 0 0)) := ((hbF.setCell (p := ⟨(b3 + 1), 0, none⟩) (by show w.heap.size ≤ (b3 + 1); omega) _).setCell (p := ⟨(b3 + 1), 1, none⟩) (by show w.heap.size ≤ (b3 + 1); omega) _).setCell (p := ⟨(b3 + 1), 2, none⟩) (by show w.heap.size ≤ (b3 + 1); omega) _; generalize ((w9.setCell ⟨(b3 + 1), 0, none⟩ (.int .i64 0)).setCell ⟨(b3 + 1), 1, none⟩ (.int .i64 0)).setCell ⟨(b3 + 1), 2, none⟩ (.slice none 0 0) = wZ at HZ hbZ ⊢
  have jz0 := HZ.cell (o := 0) rfl; have jz1 := HZ.cell (o := 1) rfl; have jz2 := HZ.cell (o := 2) rfl; refine bodyPost_ret (v := .tuple #[.agg #[.int .i64 0, .int .i64 0, .slice none 0 0], .int .i64 150]) (by simp [results, Tryz.results34, go_sem, jz0, jz1, jz2]) rfl ⟨hbZ, _, rfl, OwnsC.nil _ _⟩
section
def mkS : St := ⟨0, ⟨0, 0, 0, 0⟩, ⟨0, 0, 0, 0⟩, ⟨0, 0, 0, 0⟩, ⟨#[]⟩, 777⟩
def LentS (xs : List St) (n : Nat) (w : World) (e : Ending) (w' : World) : Prop := ∃ g cap, e = .returned (.slice (some ⟨g, 0, none⟩) n cap) ∧ Owns w.heap.size w' (.slice (some ⟨g, 0, none⟩) (n + 1) cap) (xs ++ [mkS]) ∧ Below w.heap.size w w'
set_option maxRecDepth 100000 in
theorem dlent_any (xs : List St) (v : Value) (n : Nat) (w : World) (hl : Row w.heap.size 15 St.enc w v xs) (hm : xs.length ≤ 20000) (en : xs.length = n) : Calls Tryz.prog 26 #[v] w (LentS xs n w) := by
 obtain ⟨iM, hi0, hm0, hm1, hm2⟩ := info_parts infoSt; obtain ⟨s, cap, rfl, hmax⟩ := hl.shape; have hnil : World.ownsRow w w.heap.size 36 15 (.slice none 0 0) 0 [] := World.ownsRow_nil _ _ _ _; have hcs : [.int .u8 0, .int .i64 0, .int .i64 0, .int .i64 0, .int .i64 0, .int .u8 0, .int .u8 0, .int .u8 0, .int .u8 0, .int .u8 0, .int .u8 0, .int .u8 0, .int .u8 0, .string ⟨#[]⟩, .int .i64 777] = mkS.enc := rfl; replace hl := hdh hl; replace hcs := hdh hcs
 go_enter Tryz.func26, Tryz.ntmps26
 go_wp2_with (first
  | (at_builtin; refine wpList_append_row rfl _ _ _ rfl w.heap.size 36 iM _ 15 72 Tryz.underlying22 hi0 hm0 hm1 hm2 rfl (by omega) w _ _ _ (by rfl) hnil St.enc_len St.enc_one w.heap.size _ xs hl.out (by rfl) (by unfold maxLen; omega) (by omega) lrr ?_; intro v3 w3 hown3 hgr3)
  | (have hb3 : Below w.heap.size w w3 := (Below.refl _ _).grown hgr3 lrr (fun k hk => by simp [Value.ownBlock] at hk); (at_builtin; refine wpList_append_new rfl _ _ _ rfl w.heap.size 36 iM _ 15 72 Tryz.underlying22 hi0 hm0 hm1 hm2 rfl (by omega) w3 1 _ _ _ _ (by rfl) hown3 (by rfl) rfl (by simp [Value.oneCell']) (by omega) (by unfold maxLen; omega) hgr3.size ?_; intro v4 w4 hown4 hb4); rw [Nat.zero_add, List.nil_append, flat_snoc hcs.out, en] at hown4; obtain ⟨s4, c4, rfl⟩ := own_slice hown4; obtain ⟨g, rfl, hg1, hg2⟩ := own_addr hown4 (by omega); obtain ⟨hc1, hc2⟩ := own_len hown4; have hi1 : (n : Int) ≤ n + 1 := (by omega); have hi2 : (n : Int) ≤ c4 := (by omega); unfold maxLen at hc2; replace hown4 := hdh hown4)
  | go_in)
 have hb3 : Below w.heap.size w w3 := (Below.refl _ _).grown hgr3 lrr (fun k hk => by simp [Value.ownBlock] at hk); go_ret; refine ⟨g, c4, rfl, ?_, hb3.trans hb4⟩; unfold Owns; rw [List.length_append, en]; exact hown4.out
attribute [local go_sem high] eql_stroke
set_option maxRecDepth 100000 in
theorem dkept_any (xs : List St) (g cap n : Nat) (v2 : Value) (w : World) (hn : Row w.heap.size 15 St.enc w (.slice (some ⟨g, 0, none⟩) (n + 1) cap) (xs ++ [mkS])) (hl : Row w.heap.size 15 St.enc w v2 xs) (hm : xs.length ≤ 20000) (en : xs.length = n) : Calls Tryz.prog 31 #[.slice (some ⟨g, 0, none⟩) n cap, v2] w fun e w' => e = .returned (.bool true) ∧ Below w.heap.size w w' := by
 obtain ⟨b, o, cap', ev, hb, hcap, hcm, hx⟩ := row_st hn (by simp)
 have hlen : (xs ++ [mkS]).length = n + 1 := by simp [en]
 simp only [Value.slice.injEq, Option.some.injEq, Addr.mk.injEq, true_and, and_true] at ev; obtain ⟨⟨rfl, rfl⟩, hx0, rfl⟩ := ev; clear hx0; obtain ⟨s, cap2, rfl, hmax⟩ := hl.shape; have hcut : Row w.heap.size 15 St.enc w (.slice (some ⟨g, 0, none⟩) n cap) xs := row_cut (ys := [mkS]) (by rw [hlen]; exact hn) en; obtain ⟨g0, g1, g2, g3, g4, g5, g6, g7, g8, g9, g10, g11, g12, g13, g14⟩ := hx n mkS (by rw [List.getElem?_append_right (by omega), en, Nat.sub_self]; rfl); simp only [mkS, Nat.zero_add] at g0 g1 g2 g3 g4 g5 g6 g7 g8 g9 g10 g11 g12 g13 g14; have S := rsame_any xs xs _ _ w hcut hl (by omega) (by omega)
 rw [sameL_refl] at S; rw [hlen] at hcap; rw [en] at S hm ⊢; clear hx hl hn hcut hlen; replace S := hdh S; replace en := hdh en
 have n1 : (n : Int) + 1 ≤ cap := by omega
 have n2 : (n : Int) < n + 1 := by omega
 unfold maxLen at hcm
 go_enter Tryz.func31, Tryz.ntmps31
 go_wp2_with (first
  | (go_at_call 75; (with_reducible refine cmm (S.out) fun w3 hb3 => ?_); have hc3 := fun o => hb3.cell (p := ⟨g, o, none⟩) hb)
  | go_in)
 go_ret; exact ⟨rfl, hb3⟩
def muchB (n : Nat) : Bool := (decide (60 < n) && decide (n ≤ 16384)) || decide (20000 < n)
theorem dmuch_any (xs : List St) (v : Value) (n : Nat) (w : World) (hl : Row w.heap.size 15 St.enc w v xs) (en : xs.length = n) : Calls Tryz.prog 25 #[v] w fun e w' => e = .returned (.bool (muchB n)) ∧ Below w.heap.size w w' := by
 obtain ⟨s0, cap, rfl, hmax⟩ := hl.shape; rw [en] at hmax ⊢; clear hl en
 by_cases c1 : n ≤ 60
 ·rw [show muchB n = false by unfold muchB; simp; omega]
  have d1 : decide ((60 : Int) < n) = false := by simp; omega
  have d2 : decide ((20000 : Int) < n) = false := by simp; omega
  have d3 : decide ((n : Int) ≤ 16384) = true := by simp; omega
  go_enter Tryz.func25, Tryz.ntmps25
  go_wp2; go_ret; exact ⟨rfl, belt⟩
 ·by_cases c2 : n ≤ 16384
  ·rw [show muchB n = true by unfold muchB; simp; omega]
   have d1 : decide ((60 : Int) < n) = true := by simp; omega
   have d2 : decide ((n : Int) ≤ 16384) = true := by simp; omega
   go_enter Tryz.func25, Tryz.ntmps25
   go_wp2; go_ret; exact ⟨rfl, belt⟩
  ·by_cases c3 : n ≤ 20000
   ·rw [show muchB n = false by unfold muchB; simp; omega]
    have d1 : decide ((60 : Int) < n) = true := by simp; omega
    have d3 : decide ((n : Int) ≤ 16384) = false := by simp; omega
    have d2 : decide ((20000 : Int) < n) = false := by simp; omega
    go_enter Tryz.func25, Tryz.ntmps25
    go_wp2; go_ret; exact ⟨rfl, belt⟩
   ·rw [show muchB n = true by unfold muchB; simp; omega]
    have d1 : decide ((60 : Int) < n) = true := by simp; omega
    have d3 : decide ((n : Int) ≤ 16384) = false := by simp; omega
    have d2 : decide ((20000 : Int) < n) = true := by simp; omega
    go_enter Tryz.func25, Tryz.ntmps25
    go_wp2; go_ret; exact ⟨rfl, belt⟩
end
end Go.Proofs.YtfcphagmjijmkaaGreatDoor
