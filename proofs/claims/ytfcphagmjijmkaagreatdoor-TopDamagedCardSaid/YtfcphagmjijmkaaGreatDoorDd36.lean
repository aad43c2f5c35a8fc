/-
  Damage: a screen mended, by the program.
-/
import Derived.Test.YtfcphagmjijmkaaGreatDoorDd35
namespace Go.Proofs.YtfcphagmjijmkaaGreatDoor
open Go.RowKit
set_option linter.unusedVariables false
set_option linter.unusedSimpArgs false
attribute [local go_sem] vwp vUpon_value vUpon_skip vUpon_enter vUpon_row
set_option maxHeartbeats 16000000
theorem cells_flat' {B : Nat} {w : World} {s : Option Addr} {n k : Nat} {cs : List Ce} (h : Row B 11 Ce.enc w (.slice s n k) cs) (h0 : 0 < cs.length) :
  ∃ b o, s = some ⟨b, o, none⟩ ∧ b < B ∧ cs.length ≤ k ∧ k ≤ maxLen ∧ ∀ j u, (cs.flatMap Ce.enc)[j]? = some u → w.cell? ⟨b, o + j, none⟩ = some u := by
 obtain ⟨b, o, cap, e, hb, hc1, hc2, hx⟩ := h.open_ h0
 injection e with e _ e3
 subst e3; refine ⟨b, o, e, hb, hc1, hc2, fun j u hj => ?_⟩; rw [flat_get Ce.enc_len (by decide)] at hj
 cases hc : cs[j / 11]? with
 | none => rw [hc] at hj; cases hj
 | some c =>
  rw [hc] at hj; have := hx (j / 11) c hc (j % 11) u hj; rw [show o + j / 11 * 11 + j % 11 = o + j by omega] at this; exact this
theorem ownsC_far {base k : Nat} {w : World} {v : Value} {cs : List Ce} {xs : List Value} {T : TypeId} (h : OwnsC base w v cs) (hb : Blk w k xs T) (hT : T ≠ 47) : v.ownBlock ≠ some k := by
 intro e
 rcases h.2 with ⟨rfl, _⟩ | ⟨g, cap, cur, rfl, _, hg, _⟩
 ·simp [Value.ownBlock] at e
 ·simp only [Value.ownBlock, Option.some.injEq] at e
  subst e; unfold Blk at hb; rw [hb] at hg
  injection hg with hg
  injection hg with _ h2 _
  exact hT h2
theorem Blk.put4' {w : World} {b : Nat} {cs : List Value} {e : TypeId} (h : Blk w b cs e) (hl : cs.length = 4) (v0 v1 v2 v3 : Value) : Blk ((((w.setCell ⟨b, 0, none⟩ v0).setCell ⟨b, 1, none⟩ v1).setCell ⟨b, 2, none⟩ v2).setCell ⟨b, 3, none⟩ v3) b [v0, v1, v2, v3] e := by
 have h2 := (((h.set 0 v0).set 1 v1).set 2 v2).set 3 v3
 match cs, hl with
 | [a0, a1, a2, a3], _ => exact h2
theorem addr_add' (g o j : Nat) : (⟨g, o, none⟩ : Addr).add j = ⟨g, o + j, none⟩ := by
 unfold Addr.add
 split
 ·rename_i h; rw [h, Nat.add_zero]
 ·rfl
theorem KeptBut.setRow' {X : Nat → Prop} {A B : World} (h : KeptBut X A B) (g : Nat) (cs : Array Value) (hg : X g) : KeptBut X A (B.setRow g cs) :=
 h.trans ⟨rfl, rfl, rfl, by simp, fun k _ hx => setRow_other B g k cs (fun e => hx (e ▸ hg))⟩
theorem blank_wf (wd ht : Int) : CeL (blankC wd ht Co.none) := by
 intro c hc
 unfold blankC at hc
 split at hc
 ·rw [(List.mem_replicate.1 hc).2]
  exact ⟨trivial, co_none_wf, co_none_wf⟩
 ·cases hc
def mndZ (z wd ht : Int) (cs : List Ce) (xs : List St) (qs : List Re) : Int := if mndE wd ht cs xs qs = 0 then z else 0
set_option maxRecDepth 100000 in
theorem dmend_any (wd ht : Int) (cs : List Ce) (v : Value) (xs : List St) (vx : Value) (qs : List Re) (vq : Value) (w : World) (h1 : I64 wd) (h2 : I64 ht) (hl : Row w.heap.size 11 Ce.enc w v cs) (hx : Row w.heap.size 15 St.enc w vx xs) (k1 : ∀ s ∈ xs, s.Wf) (hq : Row w.heap.size 4 Re.enc w vq qs) (kq : WfL qs) :
  Calls Tryz.prog 15 #[.agg #[.int .i64 (wd), .int .i64 (ht), v], vx, vq] w (OutS w.heap.size (mndE wd ht cs xs qs) (mndZ wd wd ht cs xs qs) (mndZ ht wd ht cs xs qs) (mndC wd ht cs xs qs) w) := by
 have C1 := fun w1 (hb : Below w.heap.size w w1) => ccheck_any wd ht cs v w1 h1 h2 ((hl.below hb).mono hb.size)
 have C2 := fun w1 (hb : Below w.heap.size w w1) => lcheck_any xs vx w1 ((hx.below hb).mono hb.size) k1
 obtain ⟨s0, cap, rfl, hmax⟩ := hl.shape; obtain ⟨s1, cap1, rfl, hmax1⟩ := hx.shape; obtain ⟨s2, cap2, rfl, hmax2⟩ := hq.shape; obtain ⟨E, hE⟩ := exx (mndE wd ht cs xs qs); obtain ⟨Z1, hZ1⟩ := exx (mndZ wd wd ht cs xs qs); obtain ⟨Z2, hZ2⟩ := exx (mndZ ht wd ht cs xs qs); obtain ⟨RC, hRC⟩ := exx (mndC wd ht cs xs qs); rw [hE, hZ1, hZ2, hRC]; unfold mndC at hRC; unfold mndZ at hZ1 hZ2; rw [hE] at hZ1 hZ2 hRC; unfold mndE at hE; have hl0 := hdh hl; have hx0 := hdh hx
 have hop := fun h0 => row_re hq h0
 obtain ⟨n, en⟩ := exx (cs.length); obtain ⟨m, em⟩ := exx (qs.length); obtain ⟨lx, ex⟩ := exx (xs.length); rw [en] at hl0 C1 hmax ⊢; rw [em] at hop hmax2 ⊢; rw [ex] at hx0 C2 hmax1 ⊢; unfold maxLen at hmax hmax1 hmax2; clear hl hx hq; replace em := hdh em; replace ex := hdh ex; replace hop := hdh hop; replace k1 := hdh k1; replace kq := hdh kq; replace C2 := hdh C2
 go_enter Tryz.func15, Tryz.ntmps15
 go_upto_region 1 with fail
 obtain ⟨W, hW⟩ := exx ((w.alloc (.cells #[.int .i64 wd, .int .i64 ht, .slice s0 n cap] 40)).alloc (.cells #[.int .i64 0, .int .i64 0, .slice none 0 0] 40)); obtain ⟨b3, hb3⟩ := exx (w.heap.size)
 have B3 : Blk W b3 [.int .i64 wd, .int .i64 ht, .slice s0 n cap] 40 := by rw [← hW]; exact (Blk.new' hb3.symm).alloc _
 have B6 : Blk W (b3 + 1) [.int .i64 0, .int .i64 0, .slice none 0 0] 40 := by rw [← hW]; exact Blk.new' (by simp; omega)
 have hbw : Below w.heap.size w W := by rw [← hW]; exact belt
 rw [hW, hb3]; clear hW
 have hb3B : w.heap.size ≤ b3 := by omega
 replace hb3 := hdh hb3; have y3 := B3.lt; have y6 := B6.lt; have q0a := B3.cell (o := 0) rfl; have q1a := B3.cell (o := 1) rfl; have q2a := B3.cell (o := 2) rfl; have yqa := B3.lt; replace C1 := hdh (C1 W hbw)
 rcases chkS_cases wd ht cs with e0 | e0
 ·rw [e0] at C1
  rw [if_pos e0] at hE; obtain ⟨hfit, hlen, hall⟩ := chkS_zero e0; obtain ⟨z0, z1, z2, z3, z4⟩ := fitsS_true.1 hfit
  have hn2 : n ≤ 262144 := by
   have h : (n : Int) ≤ 262144 := by rw [← en, hlen]; exact z4
   omega
  go_upto_region 4 with (go_at_call 49; (with_reducible refine cmm C1.out fun w1 hb1 => ?_))
  replace B3 := B3.below hb1 y3; replace B6 := B6.below hb1 y6; replace hbw := hbw.trans (hb1.mono hbw.size); clear q0a q1a q2a yqa; clear C1 hb1 y3 y6; have y3 := B3.lt; have y6 := B6.lt; have C2 := hdh (C2.out w1 hbw); obtain ⟨c, hc⟩ := exx (chkL xs); rw [hc] at C2 hE
  by_cases hc0 : c = 0
  ·subst hc0
   rw [if_pos rfl] at hE
   go_upto_region 7 with (go_at_call 38; (with_reducible refine cmm C2.out fun w2 hb2 => ?_))
   replace B3 := B3.below hb2 y3; replace B6 := B6.below hb2 y6; replace hbw := hbw.trans (hb2.mono hbw.size); clear C2 hb2 y3 y6; have y3 := B3.lt; have y6 := B6.lt; unfold chkR at hE; rw [em.out] at hE
   by_cases hbig : 1024 < m
   ·rw [if_pos hbig] at hE
    subst hE
    have hbi : (1024 : Int) < m := by omega
    rw [if_neg (by first | decide | omega)] at hZ1 hZ2 hRC; subst hZ1 hZ2 hRC; have k0 := B6.cell (o := 0) rfl; have k1 := B6.cell (o := 1) rfl; have k2 := B6.cell (o := 2) rfl; have kf := B6.free; go_wp2; clear k0 k1 k2 kf; have HZ := Blk.put3 B6 rfl (.int .i64 0) (.int .i64 0) (.slice none 0 0); have hbZ : Below w.heap.size w (((w2.setCell ⟨(b3 + 1), 0, none⟩ (.int .i64 0)).setCell ⟨(b3 + 1), 1, none⟩ (.int .i64 0)).setCell ⟨(b3 + 1), 2, none⟩ (.slice none 0 0)) := ((hbw.setCell (p := ⟨(b3 + 1), 0, none⟩) (by show w.heap.size ≤ (b3 + 1); omega) _).setCell (p := ⟨(b3 + 1), 1, none⟩) (by show w.heap.size ≤ (b3 + 1); omega) _).setCell (p := ⟨(b3 + 1), 2, none⟩) (by show w.heap.size ≤ (b3 + 1); omega) _
    generalize ((w2.setCell ⟨(b3 + 1), 0, none⟩ (.int .i64 0)).setCell ⟨(b3 + 1), 1, none⟩ (.int .i64 0)).setCell ⟨(b3 + 1), 2, none⟩ (.slice none 0 0) = wZ at HZ hbZ ⊢; have jz0 := HZ.cell (o := 0) rfl; have jz1 := HZ.cell (o := 1) rfl; have jz2 := HZ.cell (o := 2) rfl; refine bodyPost_ret (v := .tuple #[.agg #[.int .i64 0, .int .i64 0, .slice none 0 0], .int .i64 4]) (by simp [results, Tryz.results15, go_sem, jz0, jz1, jz2]) rfl ⟨hbZ, _, rfl, OwnsC.nil _ _⟩
   ·rw [if_neg hbig] at hE
    have hbi : ¬ (1024 : Int) < m := by omega
    obtain ⟨R, hR⟩ := exx (qs.all mayR); rw [hR] at hE; have hgo := hdh (show (qs.drop 0).all mayR = R from hR); have hRa := hdh hR; replace en := hdh en; replace hlen := hdh hlen; replace B3 := hdh B3; replace B6 := hdh B6; replace hbw := hdh hbw; replace hRC := hdh hRC; replace hZ1 := hdh hZ1; replace hZ2 := hdh hZ2; clear hR hall e0 y3 y6
    go_upto_region 10 with fail
    go_loopw [40] (fun iv wr => ∃ i : Nat, i ≤ m ∧ iv = .int .i64 i ∧ Hid ((qs.drop i).all mayR = R) ∧ Hid (Below w.heap.size w wr) ∧ Hid (Blk wr b3 [.int .i64 wd, .int .i64 ht, .slice s0 n cap] 40) ∧ Hid (Blk wr (b3 + 1) [.int .i64 0, .int .i64 0, .slice none 0 0] 40)) (fun iv _ => m - (intOf iv).toNat)
    case atStart => exact ⟨0, Nat.zero_le _, rfl, hgo, hbw, B3, B6⟩
    case round =>
     clear hgo hbw B3 B6; obtain ⟨i, hi, rfl, hgo, hb, B3, B6⟩ := hrel; obtain ⟨W1, rfl⟩ : ∃ W1, W1 = wr := ⟨_, rfl⟩; have zb := hb.out.size
     by_cases hin : i < m
     ·have hii : (i : Int) < m := by omega
      obtain ⟨g, o, cap', ea, hg, hcp, hcm, hel⟩ := hop.out (by omega); simp only [Value.slice.injEq] at ea; obtain ⟨rfl, _, rfl⟩ := ea; obtain ⟨q, hqi⟩ := get_at em.out hin; obtain ⟨p0, p1, p2, p3⟩ := hel i q hqi; have hgo2 := hgo.out; rw [List.drop_eq_getElem_cons (by rw [em.out]; exact hin), List.all_cons, (List.getElem?_eq_some_iff.1 hqi).2] at hgo2
      have GC := fun W => gcheck_any q W (kq.out q (List.mem_of_getElem? hqi))
      obtain ⟨qx, qy, qw, qh⟩ := q
      have yg : g < W1.heap.size := by omega
      replace p0 := (hb.out.cell (p := ⟨g, o + i * 4, none⟩) hg).trans p0; replace p1 := (hb.out.cell (p := ⟨g, o + i * 4 + 1, none⟩) hg).trans p1; replace p2 := (hb.out.cell (p := ⟨g, o + i * 4 + 2, none⟩) hg).trans p2; replace p3 := (hb.out.cell (p := ⟨g, o + i * 4 + 3, none⟩) hg).trans p3; dsimp only at p0 p1 p2 p3; clear hel hqi hgo
      cases hmq : mayR ⟨qx, qy, qw, qh⟩
      ·rw [hmq] at GC hgo2
       rw [Bool.false_and] at hgo2; subst hgo2; simp only [Bool.false_eq_true, if_false] at GC hE; subst hE; have hZ1 := hZ1.out; have hZ2 := hZ2.out; have hRC := hRC.out; rw [if_neg (by first | decide | omega)] at hZ1 hZ2 hRC; subst hZ1 hZ2 hRC; replace GC := hdh GC; have B6o := B6.out; have hbo := hb.out; have y6 := B6o.lt; have k0 := B6o.cell (o := 0) rfl; have k1 := B6o.cell (o := 1) rfl; have k2 := B6o.cell (o := 2) rfl; have kf := B6o.free; clear hb hmq
       go_wp2_with (first
        | (go_at_call 55; (with_reducible refine cmm (GC.out _) fun w5 hb5 => ?_); have hb15 : Below W1.heap.size W1 w5 := belt; have B6b := B6o.below hb15 y6; have j0 := B6b.cell (o := 0) rfl; have j1 := B6b.cell (o := 1) rfl; have j2 := B6b.cell (o := 2) rfl; have jf := B6b.free; have hbF := hbo.trans (hb15.mono zb))
        | go_in)
       clear k0 k1 k2 kf j0 j1 j2 jf; have HZ := Blk.put3 B6b rfl (.int .i64 0) (.int .i64 0) (.slice none 0 0); have hbZ : Below w.heap.size w (((w5.setCell ⟨(b3 + 1), 0, none⟩ (.int .i64 0)).setCell ⟨(b3 + 1), 1, none⟩ (.int .i64 0)).setCell ⟨(b3 + 1), 2, none⟩ (.slice none 0 0)) := ((hbF.setCell (p := ⟨(b3 + 1), 0, none⟩) (by show w.heap.size ≤ (b3 + 1); omega) _).setCell (p := ⟨(b3 + 1), 1, none⟩) (by show w.heap.size ≤ (b3 + 1); omega) _).setCell (p := ⟨(b3 + 1), 2, none⟩) (by show w.heap.size ≤ (b3 + 1); omega) _; generalize ((w5.setCell ⟨(b3 + 1), 0, none⟩ (.int .i64 0)).setCell ⟨(b3 + 1), 1, none⟩ (.int .i64 0)).setCell ⟨(b3 + 1), 2, none⟩ (.slice none 0 0) = wZ at HZ hbZ ⊢
       have jz0 := HZ.cell (o := 0) rfl; have jz1 := HZ.cell (o := 1) rfl; have jz2 := HZ.cell (o := 2) rfl; refine bodyPost_ret (v := .tuple #[.agg #[.int .i64 0, .int .i64 0, .slice none 0 0], .int .i64 5]) (by simp [results, Tryz.results15, go_sem, jz0, jz1, jz2]) rfl ⟨hbZ, _, rfl, OwnsC.nil _ _⟩
      ·rw [hmq] at GC hgo2
       rw [Bool.true_and] at hgo2; simp only [if_true] at GC; replace hgo2 := hdh hgo2; replace GC := hdh GC; clear hmq
       go_wp2_with (first
        | (go_at_call 55; (with_reducible refine cmm (GC.out _) fun w5 hb5 => ?_); have hb15 : Below W1.heap.size W1 w5 := belt; have B3b := B3.out.below hb15 B3.out.lt; have B6b := B6.out.below hb15 B6.out.lt; have hbF := hb.out.trans (hb15.mono zb))
        | go_in)
       exact ⟨⟨i + 1, by omega, by go_num, hgo2, hdh hbF, hdh B3b, hdh B6b⟩, by simp [intOf]; omega⟩
     ·obtain rfl : m = i := by omega
      have hii : ¬ (m : Int) < m := by omega
      have hRt : R = true := by
       have h := hgo.out; rw [List.drop_of_length_le (by rw [em.out]; omega)] at h; exact h.symm
      subst hRt; simp only [if_true] at hE; subst hE; have hZ1 := hZ1.out; have hZ2 := hZ2.out; have hRC := hRC.out; rw [if_pos rfl] at hZ1 hZ2 hRC; subst hZ1 hZ2; replace hRC := hdh hRC; have hmay := hdh (show MayL qs from List.all_eq_true.1 hRa.out)
      have f1 : blankE wd ht = 0 := by unfold blankE; rw [hfit]; rfl
      have f2 : blankZ wd wd ht = wd := by unfold blankZ; rw [hfit]; rfl
      have f3 : blankZ ht wd ht = ht := by unfold blankZ; rw [hfit]; rfl
      have g1 := now_ok hfit hc
      have BL := hdh (fun W => (show Calls Tryz.prog 13 #[.agg #[.int .i64 (wd), .int .i64 (ht)], .agg #[.int .u8 0, .int .u8 0, .int .u8 0, .int .u8 0]] W (OutS W.heap.size 0 wd ht (blankC wd ht Co.none) W) from by
       have h := cblank_any wd ht Co.none W h1 h2; rw [f1, f2, f3] at h
       exact h))
      have hcl1 := now_len hfit hc
      have hcn : (nowC wd ht xs).length = n := by rw [hlen.out.symm] at hcl1; rw [en.out] at hcl1; omega
      have hbcw := blank_wf wd ht
      have DR := fun (v : Value) (W : World) (h : Row W.heap.size 11 Ce.enc W v (blankC wd ht Co.none)) (hxw : Below w.heap.size w W) => cdraw_any glyS glyphs_any wd ht (blankC wd ht Co.none) v xs (.slice s1 lx cap1) W h1 h2 h hbcw ((hx0.out.below hxw).mono hxw.size) k1.out
      have g2 : drawZ wd wd ht (blankC wd ht Co.none) xs = wd := by unfold drawZ; rw [g1]; rfl
      have g3 : drawZ ht wd ht (blankC wd ht Co.none) xs = ht := by unfold drawZ; rw [g1]; rfl
      rw [g1, g2, g3, show drawC glyS wd ht (blankC wd ht Co.none) xs = nowC wd ht xs from rfl] at DR; obtain ⟨NW, hNW⟩ := exx (nowC wd ht xs); rw [hNW] at DR hRC hcn; obtain ⟨BC, hBC⟩ := exx (blankC wd ht Co.none); rw [hBC] at DR BL; obtain ⟨nb, hnb⟩ := exx (BC.length); replace DR := hdh DR; replace hcn := hdh hcn; replace hnb := hdh hnb; replace hNW := hdh hNW; clear f1 f2 f3 g1 g2 g3 hBC hcl1 hbcw hZ1 hZ2; have B3o := B3.out; have B6o := B6.out; have hbo := hb.out; have y3 := B3o.lt; have y6 := B6o.lt; have q0a := B3o.cell (o := 0) rfl; have q1a := B3o.cell (o := 1) rfl; have q2a := B3o.cell (o := 2) rfl
      have yqa := B3o.lt; clear B3 B6 hb hRa hgo
      go_upto_region 17 with (go_at_call 13; (with_reducible refine (BL.out _).mono ?_); rintro e w5 ⟨hb5, v5, rfl, O5⟩; obtain ⟨s5, c5, hv5⟩ := own_slice O5; rw [hnb.out] at hv5; subst hv5)
      obtain ⟨W6, hW6⟩ := exx (w5.alloc (.cells #[.int .i64 wd, .int .i64 ht, .slice s5 nb c5] 40)); obtain ⟨b13, hb13⟩ := exx (w5.heap.size)
      have B13 : Blk W6 b13 [.int .i64 wd, .int .i64 ht, .slice s5 nb c5] 40 := by rw [← hW6]; exact Blk.new' hb13.symm
      have hb16 : Below W1.heap.size W1 W6 := by rw [← hW6]; exact hb5.alloc hb5.size _
      have O6 : OwnsC W1.heap.size W6 (.slice s5 nb c5) BC := by rw [← hW6]; exact O5.alloc _
      rw [hW6, hb13]; clear hW6 hb13 hb5 O5 BL; clear q0a q1a q2a yqa; replace B3o := B3o.below hb16 y3; replace B6o := B6o.below hb16 y6; replace hbo := hbo.trans (hb16.mono zb); clear y3 y6 hb16 zb; have y3 := B3o.lt; have y6 := B6o.lt; have zb := hbo.size; have q0a := B13.cell (o := 0) rfl; have q1a := B13.cell (o := 1) rfl; have q2a := B13.cell (o := 2) rfl; have yqa := B13.lt; have DR1 := hdh (DR.out _ W6 (O6.row lrr) hbo); obtain ⟨NL, hNL⟩ := exx (NW.length); rw [hNL] at hcn; have hcn2 := hcn.out; subst hcn2; replace hNL := hdh hNL; clear DR hcn O6 hnb
      go_upto_region 20 with (go_at_call 14; (with_reducible refine DR1.out.mono ?_); rintro e w7 ⟨hb7, v7, rfl, O7⟩; obtain ⟨s7, c7, hv7⟩ := own_slice O7; rw [hNL.out] at hv7; subst hv7)
      obtain ⟨W8, hW8⟩ := exx (w7.alloc (.cells #[.int .i64 wd, .int .i64 ht, .slice s7 NL c7] 40)); obtain ⟨b15, hb15⟩ := exx (w7.heap.size)
      have B15 : Blk W8 b15 [.int .i64 wd, .int .i64 ht, .slice s7 NL c7] 40 := by rw [← hW8]; exact Blk.new' hb15.symm
      have hb18 : Below W6.heap.size W6 W8 := by rw [← hW8]; exact hb7.alloc hb7.size _
      have O8 : OwnsC W6.heap.size W8 (.slice s7 NL c7) NW := by rw [← hW8]; exact O7.alloc _
      rw [hW8, hb15]; clear hW8 hb15 hb7 O7 DR1; clear q0a q1a q2a yqa; replace B3o := B3o.below hb18 y3; replace B6o := B6o.below hb18 y6; replace hbo := hbo.trans (hb18.mono zb); clear y3 y6 hb18 zb B13; have y3 := B3o.lt; have y6 := B6o.lt; have zb := hbo.size; have CL := hdh (fun u (hu : Below W8.heap.size W8 u) => cclone_any cs (.slice s0 NL cap) u ((hl0.out.below (hbo.trans (hu.mono zb))).mono (hbo.trans (hu.mono zb)).size) (by rw [en.out]; omega)); have q0a := B3o.cell (o := 0) rfl; have q1a := B3o.cell (o := 1) rfl; have q2a := B3o.cell (o := 2) rfl; have yqa := B3o.lt; replace O8 := hdh O8
      go_upto_region 22 with fail
      go_cut [16] (fun v16 wx => ∃ (b16 : Nat) (s9 : Option Addr) (c9 : Nat), v16 = .pointer (some ⟨b16, 0, none⟩) ∧ Blk wx b16 [.int .i64 wd, .int .i64 ht, .slice s9 NL c9] 40 ∧ OwnsC W8.heap.size wx (.slice s9 NL c9) cs ∧ W8.heap.size ≤ b16 ∧ Below W8.heap.size W8 wx)
      case first =>
       refine held_begin (Held W8 0 []) (by kernel_rfl) ⟨Below.drew (Below.refl _ _), Nat.le_refl _, trivial⟩ (fun hS => ?_); generalize W8.drew = u0 at hS ⊢
       (refine' hdo 0 hS ?_; simp only [pu])
       (refine' hdo 1 hS ?_; simp only [pu])
       (refine' hdo 2 hS ?_; simp only [pu])
       (refine' hdo 3 hS ?_; simp only [pu])
       (refine' held_two (i := 4) (j := 6) rfl rfl (by kernel_rfl) _ _ _ _; (focus rfl); (focus rfl))
       ·intro K hK
        go_simp
        refine (CL.out u0 hS.1).mono ?_
        rintro e u1 ⟨v9, rfl, O9, hbq⟩
        have hT : Held W8 0 [] u1 := hS.below hbq; obtain ⟨s9, c9, hv9⟩ := own_slice O9; rw [en.out] at hv9; subst hv9; replace O9 : OwnsC W8.heap.size u1 (.slice s9 NL c9) cs := own_less O9 hS.1.size; refine hK _ _ hT ?_; clear hK hS hbq
        (try simp only [pu])
        have hS := hT; clear hT
        (refine' hdo 5 hS ?_; simp only [pu])
        (refine honn 6 fun K hK => ?_; go_simp)
        obtain ⟨u2, hv⟩ := exx (u1.alloc (.cells #[.int .i64 0, .int .i64 0, .slice none 0 0] 40))
        have hT : Held W8 0 [] u2 := by rw [← hv]; exact hS.below ((Below.refl _ _).alloc lrr _)
        have B16 : Blk u2 u1.heap.size [.int .i64 0, .int .i64 0, .slice none 0 0] 40 := by rw [← hv]; exact Blk.new' rfl
        have g16 := hS.1.size
        replace O9 : OwnsC W8.heap.size u2 (.slice s9 NL c9) cs := by rw [← hv]; exact O9.alloc _
        rw [hv]; clear hv; generalize u1.heap.size = b16 at B16 g16 ⊢; refine hK _ _ hT ?_; clear hK hS
        (try simp only [pu])
        have hS := hT; clear hT
        (refine' held_one (i := 7) _ (by kernel_rfl) _ _; rotate_left; (focus exact geti); (focus rfl); intro K hK)
        have f0 := B16.cell (o := 0) rfl; have f1 := B16.cell (o := 1) rfl; have f2 := B16.cell (o := 2) rfl; have ff := B16.free; have yb := B16.lt
        go_simp
        obtain ⟨u3, hv⟩ := exx ((((u2).setCell ⟨b16, 0, none⟩ (.int .i64 wd)).setCell ⟨b16, 1, none⟩ (.int .i64 ht)).setCell ⟨b16, 2, none⟩ (.slice s9 NL c9))
        have hb3' : Below W8.heap.size W8 u3 := by rw [← hv]; exact ((hS.1.setCell (p := ⟨b16, 0, none⟩) g16 _).setCell (p := ⟨b16, 1, none⟩) g16 _).setCell (p := ⟨b16, 2, none⟩) g16 _
        have hT : (fun _ : World => True) u3 := trivial; have ne9 := ownsC_far O9 B16 (by decide)
        replace O9 : OwnsC W8.heap.size u3 (.slice s9 NL c9) cs := by
         rw [← hv]; exact own_other (own_other (own_other O9 (a := ⟨b16, 0, none⟩) (fun g hg he => ne9 (by rw [hg]; exact congrArg some he)) _) (a := ⟨b16, 1, none⟩) (fun g hg he => ne9 (by rw [hg]; exact congrArg some he)) _) (a := ⟨b16, 2, none⟩) (fun g hg he => ne9 (by rw [hg]; exact congrArg some he)) _
        have B16' := Blk.put3 B16 rfl (.int .i64 wd) (.int .i64 ht) (.slice s9 NL c9); rw [hv] at B16' ⊢
        have z3' : u2.heap.size = u3.heap.size := by rw [← hv]; simp
        have hT : Held W8 0 [] u3 := ⟨hb3', by have := hS.2.1; omega, trivial⟩; clear hv ff yb f0 f1 f2 ne9 B16; refine hK _ _ hT ?_; clear hK hS
        (try simp only [pu])
        refine wpAnyH_done (by kernel_rfl) ?_ _; go_wp2; go_meet
        case rel => exact ⟨b16, s9, c9, rfl, B16', O9, g16, hb3'⟩
       ·intro K hK
        go_simp
        obtain ⟨u1, hv⟩ := exx (u0.alloc (.cells #[.int .i64 0, .int .i64 0, .slice none 0 0] 40))
        have hT : Held W8 0 [] u1 := by rw [← hv]; exact hS.below ((Below.refl _ _).alloc lrr _)
        have B16 : Blk u1 u0.heap.size [.int .i64 0, .int .i64 0, .slice none 0 0] 40 := by rw [← hv]; exact Blk.new' rfl
        have g16 := hS.1.size; rw [hv]; clear hv; generalize u0.heap.size = b16 at B16 g16 ⊢; refine hK _ _ hT ?_; clear hK hS
        (try simp only [pu])
        have hS := hT; clear hT
        (refine honn 4 fun K hK => ?_; go_simp)
        refine (CL.out u1 hS.1).mono ?_
        rintro e u2 ⟨v9, rfl, O9, hbq⟩
        have hT : Held W8 0 [] u2 := hS.below hbq; replace B16 := B16.below hbq B16.lt; obtain ⟨s9, c9, hv9⟩ := own_slice O9; rw [en.out] at hv9; subst hv9; replace O9 : OwnsC W8.heap.size u2 (.slice s9 NL c9) cs := own_less O9 hS.1.size; refine hK _ _ hT ?_; clear hK hS hbq
        (try simp only [pu])
        have hS := hT; clear hT
        (refine' hdo 5 hS ?_; simp only [pu])
        (refine' held_one (i := 7) _ (by kernel_rfl) _ _; rotate_left; (focus exact geti); (focus rfl); intro K hK)
        have f0 := B16.cell (o := 0) rfl; have f1 := B16.cell (o := 1) rfl; have f2 := B16.cell (o := 2) rfl; have ff := B16.free; have yb := B16.lt
        go_simp
        obtain ⟨u3, hv⟩ := exx ((((u2).setCell ⟨b16, 0, none⟩ (.int .i64 wd)).setCell ⟨b16, 1, none⟩ (.int .i64 ht)).setCell ⟨b16, 2, none⟩ (.slice s9 NL c9))
        have hb3' : Below W8.heap.size W8 u3 := by rw [← hv]; exact ((hS.1.setCell (p := ⟨b16, 0, none⟩) g16 _).setCell (p := ⟨b16, 1, none⟩) g16 _).setCell (p := ⟨b16, 2, none⟩) g16 _
        have hT : (fun _ : World => True) u3 := trivial; have ne9 := ownsC_far O9 B16 (by decide)
        replace O9 : OwnsC W8.heap.size u3 (.slice s9 NL c9) cs := by
         rw [← hv]; exact own_other (own_other (own_other O9 (a := ⟨b16, 0, none⟩) (fun g hg he => ne9 (by rw [hg]; exact congrArg some he)) _) (a := ⟨b16, 1, none⟩) (fun g hg he => ne9 (by rw [hg]; exact congrArg some he)) _) (a := ⟨b16, 2, none⟩) (fun g hg he => ne9 (by rw [hg]; exact congrArg some he)) _
        have B16' := Blk.put3 B16 rfl (.int .i64 wd) (.int .i64 ht) (.slice s9 NL c9); rw [hv] at B16' ⊢
        have z3' : u2.heap.size = u3.heap.size := by rw [← hv]; simp
        have hT : Held W8 0 [] u3 := ⟨hb3', by have := hS.2.1; omega, trivial⟩; clear hv ff yb f0 f1 f2 ne9 B16; refine hK _ _ hT ?_; clear hK hS
        (try simp only [pu])
        refine wpAnyH_done (by kernel_rfl) ?_ _; go_wp2; go_meet
        case rel => exact ⟨b16, s9, c9, rfl, B16', O9, g16, hb3'⟩
      case rest =>
       obtain ⟨b16, s9, c9, rfl, B16, O9, g16, hb8c⟩ := hcut; clear q0a q1a q2a yqa; have B3c := B3o.below hb8c y3; have n16 := ownsC_far O9 B16 (by decide); have z8 := hb8c.size; have RN8 : Row W8.heap.size 11 Ce.enc W8 (.slice s7 NL c7) NW := O8.out.row lrr; clear O8 CL; replace RN8 := hdh RN8; have y15 := B15.lt; have y16 := B16.lt; have q0a := B3c.cell (o := 0) rfl; have q1a := B3c.cell (o := 1) rfl; have q2a := B3c.cell (o := 2) rfl; have yqa := B3c.lt
       go_upto_region 25 with fail
       clear q0a q1a q2a yqa; obtain ⟨W10, hW10⟩ := exx (wc.alloc (.cells #[.int .i64 0, .int .i64 0, .int .i64 wd, .int .i64 ht] 32)); obtain ⟨b17, hb17⟩ := exx (wc.heap.size)
       have B17 : Blk W10 b17 [.int .i64 0, .int .i64 0, .int .i64 wd, .int .i64 ht] 32 := by rw [← hW10]; exact Blk.new' hb17.symm
       have hb810 : Below W8.heap.size W8 W10 := by rw [← hW10]; exact hb8c.alloc z8 _
       have O10 : OwnsC W8.heap.size W10 (.slice s9 NL c9) cs := by rw [← hW10]; exact O9.alloc _
       replace B16 : Blk W10 b16 [.int .i64 wd, .int .i64 ht, .slice s9 NL c9] 40 := by rw [← hW10]; exact B16.alloc _
       have n17 : ¬ (Value.slice s9 NL c9).ownBlock = some b17 := fun h => by have := (own_block_lt O9 _ h).2; omega
       have nX := fun k h => (own_block_lt O9 k h).1
       rw [hW10, hb17]; clear hW10 hb17 hb8c O9 B3c z8; have y16 := B16.lt; have y17 := B17.lt; have zz := hb810.size; have hP0 : PutP (fun k => hasL (qs.take (0)) ((k % wd.toNat : Nat) : Int) ((k / wd.toNat : Nat) : Int)) NW cs cs := PutP.zero (fun k _ => by simp [hasL]); replace hP0 := hdh hP0; replace O10 := hdh O10; replace nX := hdh nX; have K10 := hdh (KeptBut.refl (fun k => (Value.slice s9 NL c9).ownBlock = some k) W10)
       go_loopw [83] (fun iv wr => ∃ (i : Nat) (C : List Ce), i ≤ m ∧ iv = .int .i64 i ∧ Hid (PutP (fun k => hasL (qs.take (i)) ((k % wd.toNat : Nat) : Int) ((k / wd.toNat : Nat) : Int)) NW cs C) ∧ Hid (OwnsC W8.heap.size wr (.slice s9 NL c9) C) ∧ Hid (KeptBut (fun k => (Value.slice s9 NL c9).ownBlock = some k) W10 wr)) (fun iv _ => m - (intOf iv).toNat)
       case atStart => exact ⟨0, cs, Nat.zero_le _, rfl, hP0, O10, K10⟩
       case round =>
        clear hP0 O10 K10; obtain ⟨i, C, hi, rfl, hP, hO, hK⟩ := hrel; obtain ⟨W1, rfl⟩ : ∃ W1, W1 = wr := ⟨_, rfl⟩; have hb8r : Below W8.heap.size W8 W1 := KeptBut.toBelow hb810 hK.out zz (fun k h1 h2 => by have := nX.out k h2; omega); have hbr := hbo.trans (hb8r.mono zb); have zr := hbr.size; have z8r := hb8r.size; have z10 := hK.out.size
        by_cases hin : i < m
        ·have hii : (i : Int) < m := by omega
         obtain ⟨g, o, cap', ea, hg, hcp, hcm, hel⟩ := hop.out (by omega); simp only [Value.slice.injEq] at ea; obtain ⟨rfl, _, rfl⟩ := ea; obtain ⟨q, hqi⟩ := get_at em.out hin; obtain ⟨p0, p1, p2, p3⟩ := hel i q hqi; have hqm := hmay.out q (List.mem_of_getElem? hqi); have hwW : (⟨0, 0, wd, ht⟩ : Re).Wf := ⟨by unfold I64; simp, by unfold I64; simp, h1, h2⟩
         have GM := fun W => gmeet_any q ⟨0, 0, wd, ht⟩ W (kq.out q (List.mem_of_getElem? hqi)) hwW
         have SC := scr_meet hfit hqm
         have STEP := fun (y : Nat) (C : List Ce) h hP => PutP.step (now := NW) (C := C) (qs := qs.take i) (y := y) hfit hlen.out (by rw [hNL.out, en.out]) hqm h hP
         have DONE := fun (C : List Ce) h => PutP.done (now := NW) (C := C) (qs := qs) (q := q) (i := i) hfit hlen.out hqm hqi h
         generalize meetR q ⟨0, 0, wd, ht⟩ = p at GM SC STEP DONE; obtain ⟨qx, qy, qw, qh⟩ := q; obtain ⟨px, py, pw, ph⟩ := p; dsimp only at GM SC STEP DONE p0 p1 p2 p3; obtain ⟨m1, m2, m3, m4, m5, m6, m7⟩ := SC; replace GM := hdh GM; replace STEP := hdh STEP; replace DONE := hdh DONE
         have yg : g < W1.heap.size := by omega
         replace p0 := (hbr.cell (p := ⟨g, o + i * 4, none⟩) hg).trans p0; replace p1 := (hbr.cell (p := ⟨g, o + i * 4 + 1, none⟩) hg).trans p1; replace p2 := (hbr.cell (p := ⟨g, o + i * 4 + 2, none⟩) hg).trans p2; replace p3 := (hbr.cell (p := ⟨g, o + i * 4 + 3, none⟩) hg).trans p3; clear hel hqi hqm hwW
         go_upto_region 27 with fail
         clear p0 p1 p2 p3; obtain ⟨W11, hW11⟩ := exx (W1.alloc (.cells #[.int .i64 qx, .int .i64 qy, .int .i64 qw, .int .i64 qh] 32)); obtain ⟨b19, hb19⟩ := exx (W1.heap.size)
         have B19 : Blk W11 b19 [.int .i64 qx, .int .i64 qy, .int .i64 qw, .int .i64 qh] 32 := by rw [← hW11]; exact Blk.new' hb19.symm
         have hb11 : Below W1.heap.size W1 W11 := by rw [← hW11]; exact (Below.refl _ _).alloc lrr _
         rw [hW11, hb19]; clear hW11; have B17r := (B17.but hK.out n17).below hb11 (by omega); have q0a := B19.cell (o := 0) rfl; have q1a := B19.cell (o := 1) rfl; have q2a := B19.cell (o := 2) rfl; have q3a := B19.cell (o := 3) rfl; have yqa := B19.lt; have q0b := B17r.cell (o := 0) rfl; have q1b := B17r.cell (o := 1) rfl; have q2b := B17r.cell (o := 2) rfl; have q3b := B17r.cell (o := 3) rfl; have yqb := B17r.lt; have B19k := B19
         go_upto_region 28 with (go_at_call 51; (with_reducible refine cmm (GM.out _) fun w12 hb12 => ?_); replace B19k := B19k.below hb12 B19k.lt; have j0 := B19k.cell (o := 0) rfl; have j1 := B19k.cell (o := 1) rfl; have j2 := B19k.cell (o := 2) rfl; have j3 := B19k.cell (o := 3) rfl; have jf := B19k.free)
         have G19 := Blk.put4' B19k rfl (.int .i64 px) (.int .i64 py) (.int .i64 pw) (.int .i64 ph); have hb112 := hb11.trans (hb12.mono hb11.size); have hb13 : Below W1.heap.size W1 ((((w12.setCell ⟨b19, 0, none⟩ (.int .i64 px)).setCell ⟨b19, 1, none⟩ (.int .i64 py)).setCell ⟨b19, 2, none⟩ (.int .i64 pw)).setCell ⟨b19, 3, none⟩ (.int .i64 ph)) := (((hb112.setCell (p := ⟨b19, 0, none⟩) (by show W1.heap.size ≤ b19; omega) _).setCell (p := ⟨b19, 1, none⟩) (by show W1.heap.size ≤ b19; omega) _).setCell (p := ⟨b19, 2, none⟩) (by show W1.heap.size ≤ b19; omega) _).setCell (p := ⟨b19, 3, none⟩) (by show W1.heap.size ≤ b19; omega) _
         clear j0 j1 j2 j3 jf B19 B19k hb12 hb112 hb11; clear q0a q1a q2a q3a yqa; clear q0b q1b q2b q3b yqb; clear B17r; obtain ⟨W13, hW13⟩ := exx ((((w12.setCell ⟨b19, 0, none⟩ (.int .i64 px)).setCell ⟨b19, 1, none⟩ (.int .i64 py)).setCell ⟨b19, 2, none⟩ (.int .i64 pw)).setCell ⟨b19, 3, none⟩ (.int .i64 ph)); rw [hW13] at G19 hb13 ⊢; clear hW13; have z13 := hb13.size
         have n19 : ¬ (Value.slice s9 NL c9).ownBlock = some b19 := fun h => by have := (own_block_lt hO.out _ h).2; omega
         have hO13 := hdh (hO.out.below hb13 lrr); have K13 := hdh (hK.out.below hb13); have P13 := hdh (PutP.begin (a := px) (b := py) (c := pw) hP.out); clear hO hK hP hb8r hbr zr z8r; have q0c := G19.cell (o := 0) rfl; have q1c := G19.cell (o := 1) rfl; have q2c := G19.cell (o := 2) rfl; have q3c := G19.cell (o := 3) rfl; have yqc := G19.lt
         go_upto_region 29 with fail
         clear q0c q1c q2c q3c yqc; have y19 := G19.lt; obtain ⟨PH, hPH⟩ : ∃ N : Nat, ph = N := ⟨ph.toNat, by omega⟩; subst hPH; obtain ⟨PW, hPW⟩ : ∃ N : Nat, pw = N := ⟨pw.toNat, by omega⟩; subst hPW; obtain ⟨PX, hPX⟩ : ∃ N : Nat, px = N := ⟨px.toNat, by omega⟩; subst hPX; obtain ⟨PY, hPY⟩ : ∃ N : Nat, py = N := ⟨py.toNat, by omega⟩; subst hPY; obtain ⟨WD, hWD⟩ : ∃ N : Nat, wd.toNat = N := ⟨_, rfl⟩
         have hWDi : wd = (WD : Int) := by omega
         go_loopw [93] (fun yv wr => ∃ (y : Nat) (C : List Ce), y ≤ PH ∧ yv = .int .i64 y ∧ Hid (PutP (fun k => hasL (qs.take (i)) ((k % wd.toNat : Nat) : Int) ((k / wd.toNat : Nat) : Int) || hasR ⟨(PX : Int), (PY : Int), (PW : Int), (y : Int)⟩ ((k % wd.toNat : Nat) : Int) ((k / wd.toNat : Nat) : Int)) NW cs C) ∧ Hid (OwnsC W8.heap.size wr (.slice s9 NL c9) C) ∧ Hid (KeptBut (fun k => (Value.slice s9 NL c9).ownBlock = some k) W13 wr)) (fun yv _ => PH - (intOf yv).toNat)
         case atStart => exact ⟨0, C, Nat.zero_le _, rfl, P13, hO13, hdh (KeptBut.refl _ _)⟩
         case round =>
          clear P13 hO13; obtain ⟨y, C2, hy, rfl, hP, hO, hK⟩ := hrel; obtain ⟨W14, rfl⟩ : ∃ W14, W14 = wr := ⟨_, rfl⟩; have K14 := hdh (K13.out.trans hK.out); have z14 := hK.out.size; have B19r := G19.but hK.out n19
          by_cases hyh : y < PH
          ·have hyi : (y : Int) < PH := by omega
           have hb8r : Below W8.heap.size W8 W14 := KeptBut.toBelow hb810 K14.out zz (fun k h1 h2 => by have := nX.out k h2; omega); obtain ⟨hm, hP2⟩ := STEP.out y C2 hyi hP.out; simp only [Int.toNat_natCast] at hm hP2; obtain ⟨I, hI⟩ := exx ((PY + y) * wd.toNat + PX); rw [hI] at hm hP2; obtain ⟨Y, hY⟩ := exx (PY + y); obtain ⟨P, hPd⟩ := exx (Y * WD); rw [hWD, hY, hPd] at hI; rw [en.out] at hm
           have eq1 : (PY : Int) + (y : Int) = (Y : Int) := by omega
           have eq2 : (Y : Int) * wd = (P : Int) := by rw [hWDi, ← hPd, Int.natCast_mul]
           have eq3 : (P : Int) + (PX : Int) = (I : Int) := by omega
           obtain ⟨J, hJ⟩ := exx (I + PW)
           have eq4 : (I : Int) + (PW : Int) = (J : Int) := by omega
           have hpw : 0 < PW := by omega
           have c2l : C2.length = NL := by rw [hP.out.1, en.out]
           obtain ⟨g9, cap9, curA, hve, hgb, hgh, hcc, hcm9, hcs9, hct⟩ := hO.out.openD (by rw [c2l]; omega); rw [c2l] at hve hcc hct; simp only [Value.slice.injEq, true_and] at hve; obtain ⟨rfl, rfl⟩ := hve; obtain ⟨gs, os, rfl, hgs, hc7, hm7, hsrc⟩ := cells_flat' RN8.out (by rw [hNL.out]; omega); rw [hNL.out] at hc7; unfold maxLen at hcm9 hm7; have yg9 := (Array.getElem?_eq_some_iff.1 hgh).1; have B3r := B3o.below hb8r y3; have B15r := B15.below hb8r y15; have B16r := B16.but K14.out n16; replace hsrc := hdh hsrc; replace hP2 := hdh hP2; have q0a := B3r.cell (o := 0) rfl; have q1a := B3r.cell (o := 1) rfl
           have q2a := B3r.cell (o := 2) rfl; have yqa := B3r.lt; have q0c := B19r.cell (o := 0) rfl; have q1c := B19r.cell (o := 1) rfl; have q2c := B19r.cell (o := 2) rfl; have q3c := B19r.cell (o := 3) rfl; have yqc := B19r.lt
           have hIJ : (I : Int) ≤ J := by omega
           have hJc : (J : Int) ≤ c9 := by omega
           have hIn : (I : Int) ≤ NL := by omega
           have hIc : ¬ c7 = I := by omega
           have hIc9 : ¬ c9 = I := by omega
           have hJI : J - I = PW := by omega
           have hJn : J ≤ NL := by omega
           clear hP hI hY hPd hm hWDi; replace hJ := hdh hJ; replace hJI := hdh hJI; replace hWD := hdh hWD
           go_upto_region 32 with fail
           clear q0a q1a q2a yqa; clear eq1 eq2 eq3; have q0a := B15r.cell (o := 0) rfl; have q1a := B15r.cell (o := 1) rfl; have q2a := B15r.cell (o := 2) rfl; have yqa := B15r.lt; have q0b := B16r.cell (o := 0) rfl; have q1b := B16r.cell (o := 1) rfl; have q2b := B16r.cell (o := 2) rfl; have yqb := B16r.lt; refine wp_region_steady_then (Held W14 0 []) 13 (by kernel_rfl) (by kernel_rfl) (by decide) (by kernel_rfl) (by kernel_rfl) ⟨belt, (by (try simp) <;> omega), (by first | exact trivial | (simp only [Cells]; go_simp))⟩ ?_; simp only [List.take_succ_cons, List.take_zero]
           repeat (first | (refine' sdo ?_; simp only [pu]) | (refine spa ?_; simp only [pu]))
           refine wpSteady_nil (fun uA hSA => ?_); obtain ⟨hcA, hbA, hzA, hcoA, hfoA⟩ := hall hSA; clear hSA; simp only [Cells] at hcA; simp only [List.drop_succ_cons, List.drop_zero, List.drop_nil]; have z8r := hb8r.size; have hgA := (hbA.block g9 yg9).trans hgh
           have hpl : ((NW.drop I).take PW).length = PW := by rw [List.length_take, List.length_drop, hNL.out]; omega
           have hmin : Nat.min (NL - I) (J - I) = PW := by rw [hJI.out]; exact Nat.min_eq_right (by omega)
           have hr := run_copy_big (P := Tryz.prog) uA 38 38 3 47 11 g9 (I * 11) (J - I) (c9 - I) ⟨gs, os + I * 11, none⟩ (NL - I) (c7 - I) curA 47 (((NW.drop I).take PW).flatMap Ce.enc) Tryz.underlying38 sizeCe hgA
            (by rw [flat_len Ce.enc_len, hpl, hmin]) (fun j u h => by
             rw [← flatC_take', ← flatC_drop', List.getElem?_take] at h
             split at h
             ·rw [List.getElem?_drop] at h
              have e1 := hsrc.out _ _ h; have e2 := ((hb8r.trans (hbA.mono z8r)).cell (p := ⟨gs, os + (I * 11 + j), none⟩) hgs).trans e1; rw [addr_add', Nat.add_assoc]; exact e2
             ·cases h)
            (by rw [flat_len Ce.enc_len, hpl]; omega) (flat_one' Ce.enc_one)
           rw [hmin] at hr; have OC := OwnsC.lay (p := (NW.drop I).take PW) (i := I) (cs := C2) hgb hgA (by rw [c2l]; exact hcc) (by unfold maxLen; exact hcm9) hcs9 (by rw [c2l]; exact hct) (by rw [c2l, hpl]; omega); rw [c2l] at OC; obtain ⟨w6, hw6⟩ := exx (uA.setRow g9 (curA.toList.take (I * 11) ++ ((NW.drop I).take PW).flatMap Ce.enc ++ curA.toList.drop (I * 11 + (((NW.drop I).take PW).flatMap Ce.enc).length)).toArray); rw [hw6] at hr OC
           have K6 : KeptBut (fun k => (Value.slice (some ⟨g9, 0, none⟩) NL c9).ownBlock = some k) W13 w6 := by
            rw [← hw6]; exact KeptBut.setRow' (hK.out.below hbA) g9 _ rfl
           clear hw6 hgA hcA hcoA hfoA hbA hzA hO hK K14 B19r B3r B15r B16r hb8r hgh hct hcs9; clear q0a q1a q2a yqa; clear q0b q1b q2b yqb; clear q0c q1c q2c q3c yqc; replace OC := hdh OC; replace K6 := hdh K6
           go_upto_region 33 with (refine wpList_copy_runI uA rfl _ _ _ _ rfl _ _ (by rfl) (by rfl) hr ?_)
           clear hr; go_wp2; exact ⟨⟨y + 1, _, by omega, by go_num, hP2, OC, K6⟩, by simp [intOf]; omega⟩
          ·obtain rfl : y = PH := by omega
           have hyi : ¬ (y : Int) < y := by omega
           go_wp2; exact ⟨⟨i + 1, C2, by omega, by go_num, hdh (DONE.out C2 hP.out), hO, K14⟩, by simp [intOf]; omega⟩
        ·obtain rfl : m = i := by omega
         have hii : ¬ (m : Int) < m := by omega
         have hRl : C = RC := by
          have h := hP.out; rw [List.take_of_length_le (by rw [em.out]; exact Nat.le_refl _)] at h; rw [PutP.eq h (by rw [hNL.out, en.out])]; have h9 := hRC.out; simp only [if_true] at h9; rw [hNW.out] at h9; exact h9
         subst hRl; have B6r := B6o.below hb8r y6; have B16r := B16.but hK.out n16; have y6r := B6r.lt; have q0a := B16r.cell (o := 0) rfl; have q1a := B16r.cell (o := 1) rfl; have q2a := B16r.cell (o := 2) rfl; have yqa := B16r.lt; have k0 := B6r.cell (o := 0) rfl; have k1 := B6r.cell (o := 1) rfl; have k2 := B6r.cell (o := 2) rfl; have kf := B6r.free; clear hRC hP hK hNW; go_wp2; clear q0a q1a q2a yqa; clear k0 k1 k2 kf; have ho := own_less hO.out zb; have ne6 := ownsC_far ho B6r (by decide); have goX := (own_other (own_other (own_other ho (a := ⟨b3 + 1, 0, none⟩) (fun g hg he => ne6 (by rw [hg]; exact congrArg some he)) (.int .i64 wd)) (a := ⟨b3 + 1, 1, none⟩) (fun g hg he => ne6 (by rw [hg]; exact congrArg some he)) (.int .i64 ht)) (a := ⟨b3 + 1, 2, none⟩) (fun g hg he => ne6 (by rw [hg]; exact congrArg some he)) (.slice s9 NL c9))
         have HZ := Blk.put3 B6r rfl (.int .i64 wd) (.int .i64 ht) (.slice s9 NL c9); have hbZ : Below w.heap.size w (((W1.setCell ⟨b3 + 1, 0, none⟩ (.int .i64 wd)).setCell ⟨b3 + 1, 1, none⟩ (.int .i64 ht)).setCell ⟨b3 + 1, 2, none⟩ (.slice s9 NL c9)) := ((hbr.setCell (p := ⟨b3 + 1, 0, none⟩) (by show w.heap.size ≤ b3 + 1; omega) _).setCell (p := ⟨b3 + 1, 1, none⟩) (by show w.heap.size ≤ b3 + 1; omega) _).setCell (p := ⟨b3 + 1, 2, none⟩) (by show w.heap.size ≤ b3 + 1; omega) _; generalize ((W1.setCell ⟨b3 + 1, 0, none⟩ (.int .i64 wd)).setCell ⟨b3 + 1, 1, none⟩ (.int .i64 ht)).setCell ⟨b3 + 1, 2, none⟩ (.slice s9 NL c9) = wZ at HZ hbZ goX ⊢
         have jz0 := HZ.cell (o := 0) rfl; have jz1 := HZ.cell (o := 1) rfl; have jz2 := HZ.cell (o := 2) rfl; refine bodyPost_ret (v := .tuple #[.agg #[.int .i64 wd, .int .i64 ht, .slice s9 NL c9], .int .i64 0]) (by simp [results, Tryz.results15, go_sem, jz0, jz1, jz2]) rfl ⟨hbZ, _, rfl, goX⟩
  ·rw [if_neg hc0] at hE
   subst hE; rw [if_neg (by first | decide | omega)] at hZ1 hZ2 hRC; subst hZ1 hZ2 hRC; have k0 := B6.cell (o := 0) rfl; have k1 := B6.cell (o := 1) rfl; have k2 := B6.cell (o := 2) rfl; have kf := B6.free
   have hcb : (c != 0) = true := by simpa using hc0
   go_wp2_with (go_at_call 38; (with_reducible refine cmm C2.out fun w2 hb2 => ?_); obtain ⟨hc2, hf2, zz2⟩ := bzz hb2; have B6a := B6.below hb2 y6; have hbF := hbw.trans (hb2.mono hbw.size))
   clear k0 k1 k2 kf; have HZ := Blk.put3 B6a rfl (.int .i64 0) (.int .i64 0) (.slice none 0 0); have hbZ : Below w.heap.size w (((w2.setCell ⟨(b3 + 1), 0, none⟩ (.int .i64 0)).setCell ⟨(b3 + 1), 1, none⟩ (.int .i64 0)).setCell ⟨(b3 + 1), 2, none⟩ (.slice none 0 0)) := ((hbF.setCell (p := ⟨(b3 + 1), 0, none⟩) (by show w.heap.size ≤ (b3 + 1); omega) _).setCell (p := ⟨(b3 + 1), 1, none⟩) (by show w.heap.size ≤ (b3 + 1); omega) _).setCell (p := ⟨(b3 + 1), 2, none⟩) (by show w.heap.size ≤ (b3 + 1); omega) _; generalize ((w2.setCell ⟨(b3 + 1), 0, none⟩ (.int .i64 0)).setCell ⟨(b3 + 1), 1, none⟩ (.int .i64 0)).setCell ⟨(b3 + 1), 2, none⟩ (.slice none 0 0) = wZ at HZ hbZ ⊢
   have jz0 := HZ.cell (o := 0) rfl; have jz1 := HZ.cell (o := 1) rfl; have jz2 := HZ.cell (o := 2) rfl; refine bodyPost_ret (v := .tuple #[.agg #[.int .i64 0, .int .i64 0, .slice none 0 0], .int .i64 c]) (by simp [results, Tryz.results15, go_sem, jz0, jz1, jz2]) rfl ⟨hbZ, _, rfl, OwnsC.nil _ _⟩
 ·rw [e0] at C1
  rw [if_neg (by omega)] at hE; rw [e0] at hE; subst hE; rw [if_neg (by first | decide | omega)] at hZ1 hZ2 hRC; subst hZ1 hZ2 hRC; have k0 := B6.cell (o := 0) rfl; have k1 := B6.cell (o := 1) rfl; have k2 := B6.cell (o := 2) rfl; have kf := B6.free
  go_wp2_with (go_at_call 49; (with_reducible refine cmm C1.out fun w1 hb1 => ?_); obtain ⟨hc1, hf1, zz1⟩ := bzz hb1; have B6a := B6.below hb1 y6; have hbF := hbw.trans (hb1.mono hbw.size))
  clear k0 k1 k2 kf; have HZ := Blk.put3 B6a rfl (.int .i64 0) (.int .i64 0) (.slice none 0 0); have hbZ : Below w.heap.size w (((w1.setCell ⟨(b3 + 1), 0, none⟩ (.int .i64 0)).setCell ⟨(b3 + 1), 1, none⟩ (.int .i64 0)).setCell ⟨(b3 + 1), 2, none⟩ (.slice none 0 0)) := ((hbF.setCell (p := ⟨(b3 + 1), 0, none⟩) (by show w.heap.size ≤ (b3 + 1); omega) _).setCell (p := ⟨(b3 + 1), 1, none⟩) (by show w.heap.size ≤ (b3 + 1); omega) _).setCell (p := ⟨(b3 + 1), 2, none⟩) (by show w.heap.size ≤ (b3 + 1); omega) _; generalize ((w1.setCell ⟨(b3 + 1), 0, none⟩ (.int .i64 0)).setCell ⟨(b3 + 1), 1, none⟩ (.int .i64 0)).setCell ⟨(b3 + 1), 2, none⟩ (.slice none 0 0) = wZ at HZ hbZ ⊢
  have jz0 := HZ.cell (o := 0) rfl; have jz1 := HZ.cell (o := 1) rfl; have jz2 := HZ.cell (o := 2) rfl; refine bodyPost_ret (v := .tuple #[.agg #[.int .i64 0, .int .i64 0, .slice none 0 0], .int .i64 150]) (by simp [results, Tryz.results15, go_sem, jz0, jz1, jz2]) rfl ⟨hbZ, _, rfl, OwnsC.nil _ _⟩
end Go.Proofs.YtfcphagmjijmkaaGreatDoor
