/-
  Cells: a list drawn on a screen, by the program.
-/
import Derived.Test.YtfcphagmjijmkaaGreatDoorDd19
namespace Go.Proofs.YtfcphagmjijmkaaGreatDoor
open Go.RowKit
set_option linter.unusedVariables false
set_option linter.unusedSimpArgs false
attribute [local go_sem] vwp vUpon_value vUpon_skip vUpon_enter vUpon_row
set_option maxHeartbeats 16000000
theorem own_some {w : World} {base sz n c : Nat} {e : TypeId} {s : Option Addr} {xs : List Value} (h : w.ownsRow base e sz (.slice s n c) n xs) (hn : 0 < n) : ∃ g, s = some ⟨g, 0, none⟩ ∧ base ≤ g ∧ n ≤ c ∧ c ≤ maxLen := by
 rcases h.2 with ⟨e, h0⟩ | ⟨g, cap, cur, e, hg, hh, hnc, hcm, _⟩
 ·injection e with _ e _; omega
 ·injection e with e1 _ e2
  subst e2; exact ⟨g, e1, hg, hnc, hcm⟩
theorem grown_of_set {w : World} {b o : Nat} {u : Value} : w.grownBy (w.setCell ⟨b, o, none⟩ u) (some b) := cgrown_set (grown_refl w _) o u
theorem chkS_cases (wd ht : Int) (cs : List Ce) : chkS wd ht cs = 0 ∨ chkS wd ht cs = 150 := by
 unfold chkS; split <;> simp
theorem chkS_zero {wd ht : Int} {cs : List Ce} (h : chkS wd ht cs = 0) : fitsS wd ht = true ∧ (cs.length : Int) = wd * ht ∧ cs.all mayC = true := by
 unfold chkS at h
 split at h
 ·rename_i hc
  simp only [Bool.and_eq_true, decide_eq_true_eq] at hc; exact ⟨hc.1.1, hc.1.2, hc.2⟩
 ·cases h
def drawE (wd ht : Int) (cs : List Ce) (xs : List St) : Int := if chkS wd ht cs = 0 then chkL xs else 150
def drawC (gf : ByteArray → List (List Gl)) (wd ht : Int) (cs : List Ce) (xs : List St) : List Ce := if drawE wd ht cs xs = 0 then drwGo wd.toNat gf cs (flS xs) (flR xs) else []
def drawZ (z wd ht : Int) (cs : List Ce) (xs : List St) : Int := if drawE wd ht cs xs = 0 then z else 0
def GlyOk (gf : ByteArray → List (List Gl)) : Prop := ∀ (t : ByteArray) (w : World), t.size ≤ 65536 → Calls Tryz.prog 53 #[.string t] w fun e w' => Below w.heap.size w w' ∧ ∃ v, e = .returned v ∧ GridO w' w.heap.size v (gf t)
set_option maxRecDepth 100000 in
theorem cdraw_any (gf : ByteArray → List (List Gl)) (GL : GlyOk gf) (wd ht : Int) (cs : List Ce) (v : Value) (xs : List St) (vx : Value) (w : World) (h1 : I64 wd) (h2 : I64 ht) (hl : Row w.heap.size 11 Ce.enc w v cs) (hc : CeL cs) (hx : Row w.heap.size 15 St.enc w vx xs) (k1 : ∀ s ∈ xs, s.Wf) :
  Calls Tryz.prog 14 #[.agg #[.int .i64 (wd), .int .i64 (ht), v], vx] w (OutS w.heap.size (drawE wd ht cs xs) (drawZ wd wd ht cs xs) (drawZ ht wd ht cs xs) (drawC gf wd ht cs xs) w) := by
 have C1 := fun w1 (hb : Below w.heap.size w w1) => ccheck_any wd ht cs v w1 h1 h2 ((hl.below hb).mono hb.size)
 have C2 := fun w1 (hb : Below w.heap.size w w1) => lflat_any xs vx w1 ((hx.below hb).mono hb.size) k1
 obtain ⟨s0, cap, rfl, hmax⟩ := hl.shape; obtain ⟨E, hE⟩ := exx (drawE wd ht cs xs); obtain ⟨Z1, hZ1⟩ := exx (drawZ wd wd ht cs xs); obtain ⟨Z2, hZ2⟩ := exx (drawZ ht wd ht cs xs); obtain ⟨RC, hRC⟩ := exx (drawC gf wd ht cs xs); rw [hE, hZ1, hZ2, hRC]; unfold drawC at hRC; unfold drawZ at hZ1 hZ2; rw [hE] at hZ1 hZ2 hRC; unfold drawE at hE; have hl0 := hdh hl; obtain ⟨n, en⟩ := exx (cs.length); rw [en] at hl0 C1 hmax ⊢; clear hl hx
 go_enter Tryz.func14, Tryz.ntmps14
 go_upto_region 1 with fail
 obtain ⟨W, hW⟩ := exx ((w.alloc (.cells #[.int .i64 wd, .int .i64 ht, .slice s0 n cap] 40)).alloc (.cells #[.int .i64 0, .int .i64 0, .slice none 0 0] 40))
 have B2 : Blk W w.heap.size [.int .i64 wd, .int .i64 ht, .slice s0 n cap] 40 := by rw [← hW]; exact (Blk.new' rfl).alloc _
 have B4 : Blk W (w.heap.size + 1) [.int .i64 0, .int .i64 0, .slice none 0 0] 40 := by rw [← hW]; exact Blk.new' (by simp)
 have hbw : Below w.heap.size w W := by rw [← hW]; exact belt
 rw [hW]; clear hW; have yB2 := B2.lt; have yB4 := B4.lt; have q0 := B2.cell (o := 0) rfl; have q1 := B2.cell (o := 1) rfl; have q2 := B2.cell (o := 2) rfl; replace C1 := hdh (C1 W hbw)
 rcases chkS_cases wd ht cs with e0 | e0
 ·rw [e0] at C1
  rw [if_pos e0] at hE
  go_upto_region 4 with (go_at_call 49; (with_reducible refine cmm C1.out fun w1 hb1 => ?_))
  replace B2 := B2.below hb1 yB2; replace B4 := B4.below hb1 yB4; replace hbw := hbw.trans (hb1.mono hbw.size); replace C2 := C2 w1 hbw; clear q0 q1 q2 C1 hb1 yB2 yB4; have yB2 := B2.lt; have yB4 := B4.lt; rw [hE] at C2
  by_cases e1 : E = 0
  ·subst e1
   rw [if_pos rfl] at hZ1 hZ2 hRC; subst hZ1 hZ2; obtain ⟨hfit, hlen, hall⟩ := chkS_zero e0; obtain ⟨z0, z1, z2, z3, z4⟩ := fitsS_true.1 hfit; obtain ⟨N, rfl⟩ : ∃ N : Nat, wd = N := ⟨wd.toNat, by omega⟩; obtain ⟨M, rfl⟩ : ∃ M : Nat, ht = M := ⟨ht.toNat, by omega⟩; rw [Int.toNat_natCast] at hRC
   have hnm : n = N * M := by
    have h : ((cs.length : Nat) : Int) = ((N * M : Nat) : Int) := by rw [hlen, Int.natCast_mul]
    rw [← en]; exact Int.ofNat.inj h
   replace hnm := hdh hnm
   have hN : N ≤ 16384 := by omega
   have hM : M ≤ 16384 := by omega
   have hn2 : n ≤ 262144 := by
    have h : (n : Int) ≤ 262144 := by rw [← en, hlen]; exact z4
    omega
   have CL := fun w1 (hb : Below w.heap.size w w1) => cclone_any cs _ w1 ((hl0.out.below hb).mono hb.size) (by omega)
   clear hl0 hmax z0 z1 z2 z3 z4 hfit hlen hall e0 h1 h2; replace C2 := hdh C2; have w01 : w.heap.size + 1 < w1.heap.size := yB4
   go_upto_region 5 with (go_at_call 36; (with_reducible refine C2.out.mono ?_); rintro e w2 ⟨hb2, vf, vr, rfl, hof, hor, hap⟩)
   replace B2 := B2.below hb2 yB2; replace B4 := B4.below hb2 yB4; replace hbw := hbw.trans (hb2.mono hbw.size); have zz2 := hb2.size
   have lf := fun g hg => (own_block_lt hof g hg).2
   have lr := fun g hg => (own_block_lt hor g hg).2
   replace CL := hdh (CL w2 hbw); clear hb2 C2 yB2 yB4; have yB2 := B2.lt; have yB4 := B4.lt; have q0 := B2.cell (o := 0) rfl; have q1 := B2.cell (o := 1) rfl; have q2 := B2.cell (o := 2) rfl
   go_upto_region 8 with (go_at_call 50; (with_reducible refine CL.out.mono ?_); rintro e w3 ⟨v3, rfl, hoc, hb3⟩; obtain ⟨sv, cv, hv3⟩ := own_slice hoc; rw [en] at hv3; subst hv3; replace B2 := B2.below hb3 yB2; replace B4 := B4.below hb3 yB4; have k2 := B2.cell (o := 2) rfl; have kf := B2.free)
   have zz3 := hb3.size; replace hof := hof.below hb3 lrr; replace hor := hor.below hb3 lrr; have G2 := B2.set 2 (.slice sv n cv); have G4 := B4.set_ne (a := ⟨w.heap.size, 2, none⟩) (by show w.heap.size + 1 ≠ w.heap.size; omega) (.slice sv n cv); have goc := hoc.set_ne (b := w.heap.size) (o := 2) (by omega) (.slice sv n cv); have gof : Owns w1.heap.size _ vf (flS xs) := own_other hof (a := ⟨w.heap.size, 2, none⟩) (fun g hg => by have := (own_block_lt hof g hg).1; show g ≠ w.heap.size; omega) (.slice sv n cv); have gor : OwnsR w1.heap.size _ vr (flR xs) := own_other hor (a := ⟨w.heap.size, 2, none⟩) (fun g hg => by have := (own_block_lt hor g hg).1; show g ≠ w.heap.size; omega) (.slice sv n cv)
   have rf := Row.own_lt (B := w2.heap.size) St.enc_len gof lf (by omega); have rr := Row.own_lt (B := w2.heap.size) Re.enc_len gor lr (by omega); have hbX := (hbw.trans (hb3.mono hbw.size)).setCell (p := ⟨w.heap.size, 2, none⟩) lrr (.slice sv n cv)
   have zX : (w3.setCell ⟨w.heap.size, 2, none⟩ (.slice sv n cv)).heap.size = w3.heap.size := by simp
   have hgb := fun g hg => own_block_lt hoc g hg
   clear gof gor hof hor hoc hb3 B2 B4 k2 kf q0 q1 q2 lf lr CL hap hbw; generalize w3.setCell ⟨w.heap.size, 2, none⟩ (.slice sv n cv) = w4 at G2 G4 goc rf rr hbX zX ⊢; have q0 := G2.cell (o := 0) rfl; have q1 := G2.cell (o := 1) rfl; have q2 := G2.cell (o := 2) rfl
   go_upto_region 9 with fail
   obtain ⟨W0, hW0⟩ := exx (w4.alloc (.cells #[.int .i64 0, .int .i64 0, .int .i64 N, .int .i64 M] 32))
   have B10 : Blk W0 w4.heap.size [.int .i64 0, .int .i64 0, .int .i64 N, .int .i64 M] 32 := by rw [← hW0]; exact Blk.new' rfl
   have B2 : Blk W0 w.heap.size [.int .i64 N, .int .i64 M, .slice sv n cv] 40 := by rw [← hW0]; exact G2.alloc _
   have B4 : Blk W0 (w.heap.size + 1) [.int .i64 0, .int .i64 0, .slice none 0 0] 40 := by rw [← hW0]; exact G4.alloc _
   have hoc : OwnsC w2.heap.size W0 (.slice sv n cv) cs := by rw [← hW0]; exact goc.alloc _
   have hbw : Below w.heap.size w W0 := by rw [← hW0]; exact hbX.alloc (by have := hbX.size; omega) _
   have hal : Below w4.heap.size w4 W0 := by rw [← hW0]; exact (Below.refl _ _).alloc lrr _
   replace rf := rf.below (hal.mono (by omega)); replace rr := rr.below (hal.mono (by omega))
   have yW0 : w3.heap.size < W0.heap.size := by have := B10.lt; omega
   rw [hW0]; rw [zX] at B10; clear hW0 hal G2 G4 goc hbX zX q0 q1 q2; have q0 := B2.cell (o := 0) rfl; have q1 := B2.cell (o := 1) rfl; have q2 := B2.cell (o := 2) rfl; obtain ⟨ss, hss⟩ := exx (flS xs); obtain ⟨rs, hrs⟩ := exx (flR xs)
   have FA := fun i s r (h1 : (flS xs)[i]? = some s) (h2 : (flR xs)[i]? = some r) => And.intro (err_text (flat_err hE (List.mem_of_getElem? h1)).2) (flat_at hE k1 h1 h2)
   have LR : rs.length = ss.length := by rw [← hss, ← hrs]; exact flsr_len
   rw [hss, hrs] at FA hRC; rw [hss] at rf; rw [hrs] at rr; clear hss hrs; obtain ⟨sf, cf, rfl, hmf⟩ := rf.shape; obtain ⟨sr, cr, rfl, _⟩ := rr.shape; obtain ⟨m, em⟩ := exx (ss.length); rw [em] at LR
   have of_ := fun h0 => row_st rf h0
   have or_ := fun h0 => row_re rr h0
   rw [em] at of_ hmf ⊢; rw [LR] at or_ ⊢; unfold maxLen at hmf; replace of_ := hdh of_; replace or_ := hdh or_; replace FA := hdh FA; replace em := hdh em; replace LR := hdh LR; replace hgb := hdh hgb; have hgo := hdh (show drwGo N gf cs (ss.drop 0) (rs.drop 0) = RC from hRC); have hoc' := hdh hoc; have hcl := hdh hc; have hcn := hdh en; have hB10 := hdh B10; obtain ⟨b10, hb10⟩ := exx (w3.heap.size); rw [hb10] at hB10 yW0 zz3 hgb ⊢; clear hRC hc en hoc B10 rf rr hb10 k1
   have yb2 : w.heap.size < w2.heap.size := by omega
   have yb4 : w.heap.size + 1 < w2.heap.size := by omega
   go_wp2
   go_loopw [43] (fun iv wr => ∃ (i : Nat) (cur : List Ce), i ≤ m ∧ iv = .int .i64 i ∧ Hid (drwGo N gf cur (ss.drop i) (rs.drop i) = RC) ∧ Hid (OwnsC w2.heap.size wr (.slice sv n cv) cur) ∧ Hid (CeL cur) ∧ Hid (cur.length = n) ∧ Hid (Blk wr b10 [.int .i64 0, .int .i64 0, .int .i64 N, .int .i64 M] 32) ∧ Below w2.heap.size W0 wr) (fun iv _ => m - (intOf iv).toNat)
   case atStart => exact ⟨0, cs, Nat.zero_le _, rfl, hgo, hoc', hcl, hcn, hB10, Below.refl _ _⟩
   case round =>
    obtain ⟨i, cur, hi, rfl, hgo, hown, hcl, hcn, hB10, hbr⟩ := hrel; have zr := hbr.size; obtain ⟨hcr, hfr⟩ := bcellB hbr
    by_cases hik : i < m
    ·obtain ⟨bf, of1, cap1, e, hbf, _, _, hel⟩ := of_.out (by omega)
     simp only [Value.slice.injEq] at e; obtain ⟨rfl, _, rfl⟩ := e; obtain ⟨br, or1, cap2, e, hbrr, _, _, her⟩ := or_.out (by omega); simp only [Value.slice.injEq] at e; obtain ⟨rfl, _, rfl⟩ := e; obtain ⟨s, hs⟩ := get_at em.out hik; obtain ⟨r, hr⟩ := get_at LR.out hik; obtain ⟨hsz, sw, sm, sk, rm, rsub⟩ := FA.out i s r hs hr; obtain ⟨g0, g1, g2, g3, g4, g5, g6, g7, g8, g9, g10, g11, g12, g13, g14⟩ := hel i s hs; obtain ⟨u0, u1, u2, u3⟩ := her i r hr; have hg := hgo.out; rw [drwGo_step hs hr] at hg; replace hg := hdh hg
     have hii : (i : Int) < m := by omega
     clear hel her hs hr hgo
     go_upto_region 12 with fail
     obtain ⟨w5, hw5⟩ := exx (wr.alloc (.cells #[.int .u8 s.kind, .int .i64 s.rect.x, .int .i64 s.rect.y, .int .i64 s.rect.wd, .int .i64 s.rect.ht, .int .u8 s.col.r, .int .u8 s.col.g, .int .u8 s.col.b, .int .u8 s.col.a, .int .u8 s.back.r, .int .u8 s.back.g, .int .u8 s.back.b, .int .u8 s.back.a, .string s.text, .int .i64 s.node] 36))
     have B12 : Blk w5 wr.heap.size [.int .u8 s.kind, .int .i64 s.rect.x, .int .i64 s.rect.y, .int .i64 s.rect.wd, .int .i64 s.rect.ht, .int .u8 s.col.r, .int .u8 s.col.g, .int .u8 s.col.b, .int .u8 s.col.a, .int .u8 s.back.r, .int .u8 s.back.g, .int .u8 s.back.b, .int .u8 s.back.a, .string s.text, .int .i64 s.node] 36 := by rw [← hw5]; exact Blk.new' rfl
     have D10 : Blk w5 b10 [.int .i64 0, .int .i64 0, .int .i64 N, .int .i64 M] 32 := by rw [← hw5]; exact hB10.out.alloc _
     have hown5 : OwnsC w2.heap.size w5 (.slice sv n cv) cur := by rw [← hw5]; exact hown.out.alloc _
     have hb5 : Below w2.heap.size W0 w5 := by rw [← hw5]; exact hbr.alloc (by omega) _
     rw [hw5]; obtain ⟨b12, hb12⟩ := exx (wr.heap.size); rw [hb12] at B12 zr ⊢; replace hown := hdh hown5; clear hw5 hb12 hbr hcr hfr hB10 hown5 g0 g1 g2 g3 g4 g5 g6 g7 g8 g9 g10 g11 g12 g13 g14; have y12 := B12.lt; have y10 := D10.lt; obtain ⟨hc5, hf5⟩ := bcellB hb5; replace u0 := (hc5 _ _ hbrr).trans u0; replace u1 := (hc5 _ _ hbrr).trans u1; replace u2 := (hc5 _ _ hbrr).trans u2; replace u3 := (hc5 _ _ hbrr).trans u3; clear hc5 hf5; have r0 := D10.cell (o := 0) rfl; have r1 := D10.cell (o := 1) rfl; have r2 := D10.cell (o := 2) rfl; have r3 := D10.cell (o := 3) rfl
     have ybr : br < w5.heap.size := by omega
     have wm : mayR (⟨0, 0, N, M⟩ : Re) = true := whole_may hN hM
     have MT := fun w => gmeet_any r ⟨0, 0, N, M⟩ w (may_wf rm) (may_wf wm)
     obtain ⟨q, hq⟩ := exx (meetR r ⟨0, 0, N, M⟩); rw [hq] at MT; replace MT := hdh MT; replace hq := hdh hq
     go_cut [13] (fun v13 wx => ∃ b13, v13 = .pointer (some ⟨b13, 0, none⟩) ∧ w5.heap.size ≤ b13 ∧ Blk wx b13 [.int .i64 q.x, .int .i64 q.y, .int .i64 q.wd, .int .i64 q.ht] 32 ∧ Below w5.heap.size w5 wx)
     case first =>
      refine held_begin (Held w5 0 []) (by kernel_rfl) ⟨Below.drew (Below.refl _ _), Nat.le_refl _, trivial⟩ (fun hS => ?_); generalize w5.drew = u0 at hS ⊢
      (refine' hdo 0 hS ?_; simp only [pu])
      (refine' hdo 1 hS ?_; simp only [pu])
      (refine' hdo 2 hS ?_; simp only [pu])
      (refine' hdo 3 hS ?_; simp only [pu])
      (refine' hdo 4 hS ?_; simp only [pu])
      (refine' held_two (i := 5) (j := 6) rfl rfl (by kernel_rfl) _ _ _ _; (focus rfl); (focus rfl))
      ·intro K hK
       go_simp
       refine (MT.out _).mono ?_
       rintro e v1 ⟨rfl, hbq⟩
       have hT : Held w5 0 [] v1 := hS.below hbq; refine hK _ _ hT ?_; clear hK hS hbq
       (try simp only [pu])
       have hS := hT; clear hT
       (refine honn 6 fun K hK => ?_; go_simp)
       obtain ⟨v2, hv⟩ := exx (v1.alloc (.cells #[.int .i64 0, .int .i64 0, .int .i64 0, .int .i64 0] 32)); have hT := held_alloc hS hv; have Bb13 := Blk.new_eq hv; have gb13 := held_size hS; rw [hv]; clear hv; generalize v1.heap.size = b13 at Bb13 gb13 ⊢; refine hK _ _ hT ?_; clear hK hS
       (try simp only [pu])
       have hS := hT; clear hT
       (refine' held_one (i := 7) _ (by kernel_rfl) _ _; rotate_left; (focus exact geti); (focus rfl); intro K hK)
       have f0 := Bb13.cell (o := 0) rfl; have f1 := Bb13.cell (o := 1) rfl; have f2 := Bb13.cell (o := 2) rfl; have f3 := Bb13.cell (o := 3) rfl; have ff := Bb13.free; have yb := Bb13.lt
       go_simp
       obtain ⟨v3, hv⟩ := exx (((((v2).setCell ⟨b13, 0, none⟩ (.int .i64 q.x)).setCell ⟨b13, 1, none⟩ (.int .i64 q.y)).setCell ⟨b13, 2, none⟩ (.int .i64 q.wd)).setCell ⟨b13, 3, none⟩ (.int .i64 q.ht))
       have hk : KeptBut (· = b13) v2 v3 := by rw [← hv]; repeat (first | refine KeptBut.setCell ?_ _ _ rfl | exact KeptBut.refl _ _)
       have hT := held_kept hS hk gb13; replace Bb13 := ((((Bb13).set 0 (.int .i64 q.x)).set 1 (.int .i64 q.y)).set 2 (.int .i64 q.wd)).set 3 (.int .i64 q.ht); rw [hv] at Bb13 ⊢; clear hv hk ff yb f0 f1 f2 f3; refine hK _ _ hT ?_; clear hK hS
       (try simp only [pu])
       have hS := hT; clear hT; refine wpAnyH_done (by kernel_rfl) ?_ _; go_wp2; go_meet
       case rel => exact ⟨b13, rfl, gb13, Bb13, hS.1⟩
      ·intro K hK
       go_simp
       obtain ⟨v4, hv⟩ := exx (u0.alloc (.cells #[.int .i64 0, .int .i64 0, .int .i64 0, .int .i64 0] 32)); have hT := held_alloc hS hv; have Bb13 := Blk.new_eq hv; have gb13 := held_size hS; rw [hv]; clear hv; generalize u0.heap.size = b13 at Bb13 gb13 ⊢; refine hK _ _ hT ?_; clear hK hS
       (try simp only [pu])
       have hS := hT; clear hT
       (refine honn 5 fun K hK => ?_; go_simp)
       refine (MT.out _).mono ?_
       rintro e v5 ⟨rfl, hbq⟩
       have hT : Held w5 0 [] v5 := hS.below hbq; have Bb13 := Bb13.below hbq Bb13.lt; refine hK _ _ hT ?_; clear hK hS hbq
       (try simp only [pu])
       have hS := hT; clear hT
       (refine' held_one (i := 7) _ (by kernel_rfl) _ _; rotate_left; (focus exact geti); (focus rfl); intro K hK)
       have f0 := Bb13.cell (o := 0) rfl; have f1 := Bb13.cell (o := 1) rfl; have f2 := Bb13.cell (o := 2) rfl; have f3 := Bb13.cell (o := 3) rfl; have ff := Bb13.free; have yb := Bb13.lt
       go_simp
       obtain ⟨v6, hv⟩ := exx (((((v5).setCell ⟨b13, 0, none⟩ (.int .i64 q.x)).setCell ⟨b13, 1, none⟩ (.int .i64 q.y)).setCell ⟨b13, 2, none⟩ (.int .i64 q.wd)).setCell ⟨b13, 3, none⟩ (.int .i64 q.ht))
       have hk : KeptBut (· = b13) v5 v6 := by rw [← hv]; repeat (first | refine KeptBut.setCell ?_ _ _ rfl | exact KeptBut.refl _ _)
       have hT := held_kept hS hk gb13; replace Bb13 := ((((Bb13).set 0 (.int .i64 q.x)).set 1 (.int .i64 q.y)).set 2 (.int .i64 q.wd)).set 3 (.int .i64 q.ht); rw [hv] at Bb13 ⊢; clear hv hk ff yb f0 f1 f2 f3; refine hK _ _ hT ?_; clear hK hS
       (try simp only [pu])
       have hS := hT; clear hT; refine wpAnyH_done (by kernel_rfl) ?_ _; go_wp2; go_meet
       case rel => exact ⟨b13, rfl, gb13, Bb13, hS.1⟩
     case rest =>
      obtain ⟨b13, rfl, g13, B13, hbc⟩ := hcut
      have l1013 : b10 < b13 := by omega
      replace B12 := B12.below hbc y12; replace D10 := D10.below hbc y10; have hown5 := hdh (hown.out.below hbc lrr); replace hb5 := hb5.trans (hbc.mono (by omega)); have zc := hbc.size; clear hbc r0 r1 r2 r3 u0 u1 u2 u3 MT hown y12 y10 ybr; have y12 := B12.lt; have y10 := D10.lt; have y13 := B13.lt; have t0 := B13.cell (o := 0) rfl; have t1 := B13.cell (o := 1) rfl; have t2 := B13.cell (o := 2) rfl; have t3 := B13.cell (o := 3) rfl
      have qm : mayR q = true := by rw [← hq.out]; exact meet_may _ _
      have EM := fun w => empty_any q w (may_wf qm)
      cases he : emptyR q
      ·rw [he] at EM
       replace EM := hdh EM
       go_upto_region 14 with (go_at_call 52; (with_reducible refine cmm (EM.out _) fun w6 hb6 => ?_))
       replace B12 := B12.below hb6 y12; replace B13 := B13.below hb6 y13; replace D10 := D10.below hb6 y10; have hown6 := hown5.out.below hb6 lrr; have zc6 := hb6.size; replace hb5 := hb5.trans (hb6.mono (by omega)); have hin := meet_in rm hN hM (by rw [hq.out]; exact he); rw [hq.out] at hin; obtain ⟨qx, qy, qw, qh⟩ := q; dsimp only at hin B13 hq qm; obtain ⟨m1, m2, m3, m4, m5, m6⟩ := hin; obtain ⟨rx, rfl⟩ : ∃ n : Nat, qx = n := ⟨qx.toNat, by omega⟩; obtain ⟨ry, rfl⟩ : ∃ n : Nat, qy = n := ⟨qy.toNat, by omega⟩; obtain ⟨rw_, rfl⟩ : ∃ n : Nat, qw = n := ⟨qw.toNat, by omega⟩; obtain ⟨rh, rfl⟩ : ∃ n : Nat, qh = n := ⟨qh.toNat, by omega⟩
       clear t0 t1 t2 t3 hb6 EM hown5 y12 y13 y10; have y12 := B12.lt; have y13 := B13.lt; have y10 := D10.lt; have v0 := B12.cell (o := 0) rfl; have v1 := B12.cell (o := 1) rfl; have v2 := B12.cell (o := 2) rfl; have v3 := B12.cell (o := 3) rfl; have v4 := B12.cell (o := 4) rfl; have v5 := B12.cell (o := 5) rfl; have v6 := B12.cell (o := 6) rfl; have v7 := B12.cell (o := 7) rfl; have v8 := B12.cell (o := 8) rfl; have v9 := B12.cell (o := 9) rfl; have v10 := B12.cell (o := 10) rfl; have v11 := B12.cell (o := 11) rfl; have v12 := B12.cell (o := 12) rfl; have v13 := B12.cell (o := 13) rfl; have v14 := B12.cell (o := 14) rfl
       go_upto_region 15 with fail
       obtain ⟨w7, hw7⟩ := exx (w6.alloc (.cells #[.int .u8 s.kind, .int .i64 s.rect.x, .int .i64 s.rect.y, .int .i64 s.rect.wd, .int .i64 s.rect.ht, .int .u8 s.col.r, .int .u8 s.col.g, .int .u8 s.col.b, .int .u8 s.col.a, .int .u8 s.back.r, .int .u8 s.back.g, .int .u8 s.back.b, .int .u8 s.back.a, .string s.text, .int .i64 s.node, .slice none 0 0] 94))
       have B14 : Blk w7 w6.heap.size [.int .u8 s.kind, .int .i64 s.rect.x, .int .i64 s.rect.y, .int .i64 s.rect.wd, .int .i64 s.rect.ht, .int .u8 s.col.r, .int .u8 s.col.g, .int .u8 s.col.b, .int .u8 s.col.a, .int .u8 s.back.r, .int .u8 s.back.g, .int .u8 s.back.b, .int .u8 s.back.a, .string s.text, .int .i64 s.node, .slice none 0 0] 94 := by rw [← hw7]; exact Blk.new' rfl
       replace B12 : Blk w7 b12 [.int .u8 s.kind, .int .i64 s.rect.x, .int .i64 s.rect.y, .int .i64 s.rect.wd, .int .i64 s.rect.ht, .int .u8 s.col.r, .int .u8 s.col.g, .int .u8 s.col.b, .int .u8 s.col.a, .int .u8 s.back.r, .int .u8 s.back.g, .int .u8 s.back.b, .int .u8 s.back.a, .string s.text, .int .i64 s.node] 36 := by rw [← hw7]; exact B12.alloc _
       replace B13 : Blk w7 b13 [.int .i64 rx, .int .i64 ry, .int .i64 rw_, .int .i64 rh] 32 := by rw [← hw7]; exact B13.alloc _
       replace D10 : Blk w7 b10 [.int .i64 0, .int .i64 0, .int .i64 N, .int .i64 M] 32 := by rw [← hw7]; exact D10.alloc _
       have hown7 : OwnsC w2.heap.size w7 (.slice sv n cv) cur := by rw [← hw7]; exact hown6.alloc _
       have hb7 : Below w2.heap.size W0 w7 := by rw [← hw7]; exact hb5.alloc (by omega) _
       rw [hw7]; obtain ⟨b14, hb14⟩ := exx (w6.heap.size); rw [hb14] at B14 ⊢
       have n13 : b13 < b14 := by omega
       have n10 : b10 < b14 := by omega
       have n12 : b12 < b14 := by omega
       clear hw7 hb14 hb5 hown6 y12 y13 y10 v0 v1 v2 v3 v4 v5 v6 v7 v8 v9 v10 v11 v12 v13 v14; replace hown7 := hdh hown7; have y12 := B12.lt; have y13 := B13.lt; have y10 := D10.lt; have y14 := B14.lt; have x0 := B12.cell (o := 0) rfl; have x13 := B12.cell (o := 13) rfl
       go_upto_if 60 with fail
       go_cut [14] (fun v14 wx => v14 = .pointer (some ⟨b14, 0, none⟩) ∧ ∃ tv g, Blk wx b14 [.int .u8 s.kind, .int .i64 s.rect.x, .int .i64 s.rect.y, .int .i64 s.rect.wd, .int .i64 s.rect.ht, .int .u8 s.col.r, .int .u8 s.col.g, .int .u8 s.col.b, .int .u8 s.col.a, .int .u8 s.back.r, .int .u8 s.back.g, .int .u8 s.back.b, .int .u8 s.back.a, .string s.text, .int .i64 s.node, tv] 94 ∧ Hid (GridO wx b14 tv g) ∧ Hid (∀ c x y, madeC c s g x y = madeC c s (gf s.text) x y) ∧ Blk wx b13 [.int .i64 rx, .int .i64 ry, .int .i64 rw_, .int .i64 rh] 32 ∧ Blk wx b10 [.int .i64 0, .int .i64 0, .int .i64 N, .int .i64 M] 32 ∧ Hid (OwnsC w2.heap.size wx (.slice sv n cv) cur) ∧ Below w2.heap.size W0 wx)
       case first =>
        by_cases k3 : s.kind = 3
        ·have k3b : (s.kind == 3) = true := by simp [k3]
         have GT := hdh (GL s.text w7 hsz); have k15 := B14.cell (o := 15) rfl; clear k3
         go_wp2_with (go_at_call 53; (with_reducible refine GT.out.mono ?_); rintro e w8 ⟨hb8, tv, rfl, hgt⟩; obtain ⟨st, ct, hst, _⟩ := hgt.grid.shape; subst hst; have D14 := B14.below hb8 y14; have k15 := D14.cell (o := 15) rfl; have kf := D14.free)
         go_meet
         case rel =>
          have hgw : w8.grownBy (w8.setCell ⟨b14, 15, none⟩ (.slice st (gf s.text).length ct)) (some b14) := grown_of_set; refine ⟨rfl, _, gf s.text, D14.set 15 _, hdh ((hgt.keep hgw (fun b hb => by injection hb with hb; omega)).lo (by omega)), hdh (fun _ _ _ => rfl), (B13.below hb8 y13).set_ne (a := ⟨b14, 15, none⟩) (by show b13 ≠ b14; omega) _, (D10.below hb8 y10).set_ne (a := ⟨b14, 15, none⟩) (by show b10 ≠ b14; omega) _, hdh ?_, ?_⟩
          ·exact own_other (hown7.out.below hb8 lrr) (a := ⟨b14, 15, none⟩) (fun g hg => by have := (hgb.out g hg).2; show g ≠ b14; omega) _
          ·exact (hb7.trans (hb8.mono (by omega))).setCell (p := ⟨b14, 15, none⟩) (by show w2.heap.size ≤ b14; omega) _
        ·have k3b : (s.kind == 3) = false := by simp [k3]
         replace k3 := hdh k3; go_wp2; go_meet
         case rel => exact ⟨rfl, _, [], B14, hdh (GridO.nil _ _), hdh (fun _ _ _ => madeC_kind k3.out _ _ _ _), B13, D10, hown7, hb7⟩
       case rest =>
        obtain ⟨rfl, tv, gl, C14, hG, hmk, C13, C10, hownc, hbc⟩ := hcut; clear B12 B13 B14 D10 hown7 hb7 x0 x13 y12 y13 y10 y14 hsz; have hnm' := hnm.out
        have hN0 : 0 < N := by omega
        have hM0 : 0 < M := by omega
        have hn0 : 0 < n := by rw [hnm']; exact Nat.mul_pos hN0 hM0
        have hoo : wc.ownsRow w2.heap.size 47 11 (.slice sv n cv) n (cur.flatMap Ce.enc) := by have := hownc.out; unfold OwnsC at this; rwa [hcn.out] at this
        obtain ⟨gb, rfl, gb1, gb2, gb3⟩ := own_some hoo hn0; have gb4 := (hgb.out gb (by simp [Value.ownBlock])).2; unfold maxLen at gb3; clear hoo hnm'
        obtain ⟨FF, hFF⟩ : ∃ F : Nat → Ce → Ce, F = fun k c => madeC c s gl ((k % N : Nat) : Int) ((k / N : Nat) : Int) := ⟨_, rfl⟩
        have hst := hdh (show updP (upTo N rx rw_ ry rh ry rx) FF cur = cur from updP_none (fun k _ => upTo_start)); replace hFF := hdh hFF; have p0 := C13.cell (o := 0) rfl; have p1 := C13.cell (o := 1) rfl; have p2 := C13.cell (o := 2) rfl; have p3 := C13.cell (o := 3) rfl; have y13 := C13.lt; have hb14' := hdh C14; have hb13' := hdh C13; have hb10' := hdh C10; have hownS := hdh (show OwnsC w2.heap.size wc (.slice (some ⟨gb, 0, none⟩) n cv) (updP (upTo N rx rw_ ry rh ry rx) FF cur) by rw [hst.out]; exact hownc.out)
        have n14 : gb ≠ b14 := by omega
        have n13g : gb ≠ b13 := by omega
        have n10g : gb ≠ b10 := by omega
        clear C14 C13 C10 hownc hst; go_wp2
        go_loopw [15] (fun yv w8 => ∃ y : Nat, ry ≤ y ∧ y ≤ ry + rh ∧ yv = .int .i64 y ∧ Hid (OwnsC w2.heap.size w8 (.slice (some ⟨gb, 0, none⟩) n cv) (updP (upTo N rx rw_ ry rh y rx) FF cur)) ∧ Hid (Blk w8 b14 [.int .u8 s.kind, .int .i64 s.rect.x, .int .i64 s.rect.y, .int .i64 s.rect.wd, .int .i64 s.rect.ht, .int .u8 s.col.r, .int .u8 s.col.g, .int .u8 s.col.b, .int .u8 s.col.a, .int .u8 s.back.r, .int .u8 s.back.g, .int .u8 s.back.b, .int .u8 s.back.a, .string s.text, .int .i64 s.node, tv] 94) ∧ Hid (Blk w8 b13 [.int .i64 rx, .int .i64 ry, .int .i64 rw_, .int .i64 rh] 32) ∧ Hid (Blk w8 b10 [.int .i64 0, .int .i64 0, .int .i64 N, .int .i64 M] 32) ∧ Hid (GridO w8 b14 tv gl) ∧ Below w2.heap.size W0 w8) (fun yv _ => ry + rh - (intOf yv).toNat)
        case atStart => exact ⟨ry, Nat.le_refl _, by omega, rfl, hownS, hb14', hb13', hb10', hG, hbc⟩
        case round =>
         clear hownS hb14' hb13' hb10' hG hbc p0 p1 p2 p3 y13; obtain ⟨y, hy0, hy1, rfl, hownS, C14, C13, C10, hG, hbc⟩ := hrel; have zc := hbc.size; obtain ⟨hcc, hfc⟩ := bcellB hbc; have p0 := C13.out.cell (o := 0) rfl; have p1 := C13.out.cell (o := 1) rfl; have p2 := C13.out.cell (o := 2) rfl; have p3 := C13.out.cell (o := 3) rfl; have y13 := C13.out.lt
         by_cases hyl : y < ry + rh
         ·have hyy : (y : Int) < (ry : Int) + (rh : Int) := by omega
          obtain ⟨P, hP⟩ := exx (y * N)
          have hPn : P + N ≤ n := by
           have h := hnm.out; have : (y + 1) * N ≤ M * N := Nat.mul_le_mul_right N (by omega); rw [Nat.add_mul, hP, Nat.one_mul, Nat.mul_comm M] at this; omega
          have e1 : (y : Int) * (N : Int) = (P : Int) := by rw [← hP, Int.natCast_mul]
          have e2 : ((y : Int) + 1) * (N : Int) = ((P + N : Nat) : Int) := by rw [Int.add_mul, e1, Int.one_mul]; omega
          have e3 : ((P + N : Nat) : Int) ≤ (n : Int) := by omega
          have e4 : (P : Int) ≤ ((P + N : Nat) : Int) := by omega
          have e5 : ¬ cv = P := by omega
          have e6 : ((P + N : Nat) : Int) ≤ (cv : Int) := by omega
          replace hP := hdh hP
          have e7 : P + N - P = N := by omega
          go_upto_region 21 with fail
          clear e1 e2 e3 e4 e5 e6; go_wp2
          go_loopw [17] (fun xv w9 => ∃ x : Nat, rx ≤ x ∧ x ≤ rx + rw_ ∧ xv = .int .i64 x ∧ Hid (OwnsC w2.heap.size w9 (.slice (some ⟨gb, 0, none⟩) n cv) (updP (upTo N rx rw_ ry rh y x) FF cur)) ∧ Hid (Blk w9 b14 [.int .u8 s.kind, .int .i64 s.rect.x, .int .i64 s.rect.y, .int .i64 s.rect.wd, .int .i64 s.rect.ht, .int .u8 s.col.r, .int .u8 s.col.g, .int .u8 s.col.b, .int .u8 s.col.a, .int .u8 s.back.r, .int .u8 s.back.g, .int .u8 s.back.b, .int .u8 s.back.a, .string s.text, .int .i64 s.node, tv] 94) ∧ Hid (Blk w9 b13 [.int .i64 rx, .int .i64 ry, .int .i64 rw_, .int .i64 rh] 32) ∧ Hid (Blk w9 b10 [.int .i64 0, .int .i64 0, .int .i64 N, .int .i64 M] 32) ∧ Hid (GridO w9 b14 tv gl) ∧ Below w2.heap.size W0 w9) (fun xv _ => rx + rw_ - (intOf xv).toNat)
          case atStart => exact ⟨rx, Nat.le_refl _, by omega, rfl, hownS, C14, C13, C10, hG, hbc⟩
          case round =>
           clear hownS C14 C13 C10 hG hbc hcc hfc p0 p1 p2 p3 y13; obtain ⟨x, hx0, hx1, rfl, hownS, C14, C13, C10, hG, hbc⟩ := hrel; obtain ⟨wv, hwv⟩ : ∃ wv : World, wv = wr := ⟨_, rfl⟩; subst hwv; have zv := hbc.size; have p0 := C13.out.cell (o := 0) rfl; have p1 := C13.out.cell (o := 1) rfl; have p2 := C13.out.cell (o := 2) rfl; have p3 := C13.out.cell (o := 3) rfl; have y13 := C13.out.lt
           by_cases hxl : x < rx + rw_
           ·have hxx : (x : Int) < (rx : Int) + (rw_ : Int) := by omega
            have hxN : x < N := by omega
            have hxNi : (x : Int) < (N : Int) := by omega
            obtain ⟨c0, hc0⟩ : ∃ c0, cur[P + x]? = some c0 := ⟨cur[P + x]'(by have := hcn.out; omega), List.getElem?_eq_getElem _⟩
            have kd : (P + x) / N = y := by rw [← hP.out, Nat.mul_comm, Nat.mul_add_div (by omega), Nat.div_eq_of_lt hxN]; omega
            have km : (P + x) % N = x := by rw [← hP.out, Nat.mul_comm, Nat.mul_add_mod, Nat.mod_eq_of_lt hxN]
            have hk0 : (updP (upTo N rx rw_ ry rh y x) FF cur)[P + x]? = some c0 := by
             rw [updP_get, hc0]
             have hu : upTo N rx rw_ ry rh y x (P + x) = false := by
              cases hu : upTo N rx rw_ ry rh y x (P + x)
              ·rfl
              ·rw [upTo_iff, km, kd] at hu; omega
             rw [hu]; rfl
            have hlen : (updP (upTo N rx rw_ ry rh y x) FF cur).length = n := by rw [updP_len]; exact hcn.out
            have cw : c0.Wf := hcl.out c0 (List.mem_of_getElem? hc0); obtain ⟨j0, j1, j2, j3, j4, j5, j6, j7, j8, j9, j10⟩ := own_cmem hownS.out hk0; rw [Nat.add_mul] at j0 j1 j2 j3 j4 j5 j6 j7 j8 j9 j10; have yg : gb < wv.heap.size := (own_block_lt hownS.out gb (by simp [Value.ownBlock])).2; have y14 := C14.out.lt; have y10 := C10.out.lt
            have hqq : hasR (⟨rx, ry, rw_, rh⟩ : Re) x y = true := by rw [has_iff]; simp only; omega
            have hrr : hasR r x y = true := by
             have h := has_meet (x := x) (y := y) rm (whole_may hN hM); rw [hq.out, hqq, eq_comm, Bool.and_eq_true] at h; exact h.1
            have hsr := has_iff.1 (rsub _ _ hrr)
            have ON := fun u (hb : Below wv.heap.size wv u) => con_any s gl tv c0 x y u (hG.out.below hb).grid sw cw sm sk hsr.1 hsr.2.1 hsr.2.2.1 hsr.2.2.2
            obtain ⟨R0, hR0⟩ := exx (madeC c0 s gl x y); rw [hR0] at ON
            have hF : FF (P + x) c0 = R0 := by rw [hFF.out]; simp only; rw [km, kd]; exact hR0
            replace ON := hdh ON; replace hF := hdh hF; replace hk0 := hdh hk0; replace hlen := hdh hlen; replace hc0 := hdh hc0; clear kd km hqq hrr hsr hR0 cw
            go_upto_region 24 with fail
            have v0 := C14.out.cell (o := 0) rfl; have v1 := C14.out.cell (o := 1) rfl; have v2 := C14.out.cell (o := 2) rfl; have v3 := C14.out.cell (o := 3) rfl; have v4 := C14.out.cell (o := 4) rfl; have v5 := C14.out.cell (o := 5) rfl; have v6 := C14.out.cell (o := 6) rfl; have v7 := C14.out.cell (o := 7) rfl; have v8 := C14.out.cell (o := 8) rfl; have v9 := C14.out.cell (o := 9) rfl; have v10 := C14.out.cell (o := 10) rfl; have v11 := C14.out.cell (o := 11) rfl; have v12 := C14.out.cell (o := 12) rfl; have v13 := C14.out.cell (o := 13) rfl; have v14 := C14.out.cell (o := 14) rfl; have v15 := C14.out.cell (o := 15) rfl
            refine wp_region_steady_then (Held wv 0 []) 12 (by kernel_rfl) (by kernel_rfl) (by decide) (by kernel_rfl) (by kernel_rfl) ⟨belt, (by (try simp) <;> omega), (by first | exact trivial | (simp only [Cells]; go_simp))⟩ ?_; simp only [List.take_succ_cons, List.take_zero]
            repeat (first | (refine' wpSteady_do _ _ _; rotate_left; (focus rfl); (focus (intro w1 hS R hR; have hc := hS.cells; simp only [Cells] at hc; obtain ⟨hco, hfo⟩ := bcell hS.old; go_simp; (try go_bits); first | exact hR _ hS | (go_at_call 54; (with_reducible refine cmm (ON.out _ hS.old) fun w2 hb2 => ?_); exact ⟨_, rfl, hR _ (hS.below hb2)⟩))); simp only [pu]) | (refine spa ?_; simp only [pu]))
            refine wpSteady_nil (fun uA hSA => ?_); obtain ⟨hcA, hbA, hzA, hcoA, hfoA⟩ := hall hSA; clear hSA; simp only [Cells] at hcA; simp only [List.drop_succ_cons, List.drop_zero, List.drop_nil]; have hownA := hownS.out.below hbA lrr; have G14 := C14.out.below hbA y14; have G13 := C13.out.below hbA y13; have G10 := C10.out.below hbA y10; have GG := hG.out.below hbA; have hbcA := hbc.trans (hbA.mono (by omega)); clear j0 j1 j2 j3 j4 j5 j6 j7 j8 j9 j10 p0 p1 p2 p3 v0 v1 v2 v3 v4 v5 v6 v7 v8 v9 v10 v11 v12 v13 v14 v15 hcA hcoA hfoA hbA; obtain ⟨j0, j1, j2, j3, j4, j5, j6, j7, j8, j9, j10⟩ := own_cmem hownA hk0.out
            rw [Nat.add_mul] at j0 j1 j2 j3 j4 j5 j6 j7 j8 j9 j10; have jf := cown_free (n := n) (cs := (updP (upTo N rx rw_ ry rh y x) FF cur).flatMap Ce.enc) (by have h := hownA; unfold OwnsC at h; rwa [hlen.out] at h); replace hownA := hdh hownA; go_wp2; have hoZ := hownA.out.put hlen.out hk0.out R0; rw [Nat.add_mul] at hoZ; have Z14 := G14.putk (g := gb) (o := P * 11 + x * 11) (by omega) (.int .i32 R0.rune) (.int .u8 R0.col.r) (.int .u8 R0.col.g) (.int .u8 R0.col.b) (.int .u8 R0.col.a) (.int .u8 R0.back.r) (.int .u8 R0.back.g) (.int .u8 R0.back.b) (.int .u8 R0.back.a) (.bool R0.wide) (.bool R0.tail); have Z13 := G13.putk (g := gb) (o := P * 11 + x * 11) (by omega) (.int .i32 R0.rune) (.int .u8 R0.col.r) (.int .u8 R0.col.g) (.int .u8 R0.col.b) (.int .u8 R0.col.a) (.int .u8 R0.back.r) (.int .u8 R0.back.g) (.int .u8 R0.back.b) (.int .u8 R0.back.a) (.bool R0.wide) (.bool R0.tail)
            have Z10 := G10.putk (g := gb) (o := P * 11 + x * 11) (by omega) (.int .i32 R0.rune) (.int .u8 R0.col.r) (.int .u8 R0.col.g) (.int .u8 R0.col.b) (.int .u8 R0.col.a) (.int .u8 R0.back.r) (.int .u8 R0.back.g) (.int .u8 R0.back.b) (.int .u8 R0.back.a) (.bool R0.wide) (.bool R0.tail); have ZG := GG.keep (cgrown_put (g := gb) (grown_refl uA _) (P * 11 + x * 11) (.int .i32 R0.rune) (.int .u8 R0.col.r) (.int .u8 R0.col.g) (.int .u8 R0.col.b) (.int .u8 R0.col.a) (.int .u8 R0.back.r) (.int .u8 R0.back.g) (.int .u8 R0.back.b) (.int .u8 R0.back.a) (.bool R0.wide) (.bool R0.tail)) (fun b hb => by injection hb with hb; omega)
            have Zb := putk_below hbcA (g := gb) (o := P * 11 + x * 11) (by omega) (.int .i32 R0.rune) (.int .u8 R0.col.r) (.int .u8 R0.col.g) (.int .u8 R0.col.b) (.int .u8 R0.col.a) (.int .u8 R0.back.r) (.int .u8 R0.back.g) (.int .u8 R0.back.b) (.int .u8 R0.back.a) (.bool R0.wide) (.bool R0.tail); clear j0 j1 j2 j3 j4 j5 j6 j7 j8 j9 j10 jf G14 G13 G10 GG hbcA; generalize (((((((((((uA).setCell ⟨gb, P * 11 + x * 11, none⟩ (.int .i32 R0.rune)).setCell ⟨gb, P * 11 + x * 11 + 1, none⟩ (.int .u8 R0.col.r)).setCell ⟨gb, P * 11 + x * 11 + 2, none⟩ (.int .u8 R0.col.g)).setCell ⟨gb, P * 11 + x * 11 + 3, none⟩ (.int .u8 R0.col.b)).setCell ⟨gb, P * 11 + x * 11 + 4, none⟩ (.int .u8 R0.col.a)).setCell ⟨gb, P * 11 + x * 11 + 5, none⟩ (.int .u8 R0.back.r)).setCell ⟨gb, P * 11 + x * 11 + 6, none⟩ (.int .u8 R0.back.g)).setCell ⟨gb, P * 11 + x * 11 + 7, none⟩ (.int .u8 R0.back.b)).setCell ⟨gb, P * 11 + x * 11 + 8, none⟩ (.int .u8 R0.back.a)).setCell ⟨gb, P * 11 + x * 11 + 9, none⟩ (.bool R0.wide)).setCell ⟨gb, P * 11 + x * 11 + 10, none⟩ (.bool R0.tail) = wZ at hoZ Z14 Z13 Z10 ZG Zb ⊢
            go_roundw
            case rel => exact ⟨x + 1, by omega, by omega, by go_num, hdh (by rw [← hF.out, updP_set (Q := upTo N rx rw_ ry rh y (x + 1)) hc0.out (fun k _ => by rw [upTo_step hx0 hxl hy0 hyl hxN, hP.out])] at hoZ; exact hoZ), hdh Z14, hdh Z13, hdh Z10, hdh ZG, Zb⟩
            case measure => simp [intOf]; omega
           ·obtain rfl : x = rx + rw_ := by omega
            have hxx : ¬ ((rx + rw_ : Nat) : Int) < (rx : Int) + (rw_ : Int) := by omega
            go_wp2; go_roundw
            case rel => exact ⟨y + 1, by omega, by omega, by go_num, hdh (by have h := hownS.out; rwa [updP_congr (fun k _ => (upTo_row k).symm)] at h), C14, C13, C10, hG, hbc⟩
            case measure => simp [intOf]; omega
         ·obtain rfl : y = ry + rh := by omega
          have hyy : ¬ ((ry + rh : Nat) : Int) < (ry : Int) + (rh : Int) := by omega
          go_wp2; go_roundw
          case rel =>
           have hcur := strokeD_upTo (N := N) (M := M) (s := s) (g := gl) (g' := gf s.text) (r := r) (cs := cur) (by rw [hcn.out]; exact hnm.out) rm hN hM hq.out hmk.out; rw [← hFF.out] at hcur; exact ⟨i + 1, strokeD N s (gf s.text) r cur, by omega, by go_num, hg, hdh (by have h := hownS.out; rwa [hcur] at h), hdh (strokeD_wf sw hcl.out), hdh (by rw [strokeD_len]; exact hcn.out), C10, hbc⟩
          case measure => simp [intOf]; omega
      ·rw [he] at EM
       replace EM := hdh EM
       go_wp2_with (go_at_call 52; (with_reducible refine cmm (EM.out _) fun w6 hb6 => ?_))
       go_roundw
       case rel =>
        have hcur : strokeD N s (gf s.text) r cur = cur := strokeD_out (by rw [hcn.out]; exact hnm.out) rm hN hM (by rw [hq.out]; exact he); exact ⟨i + 1, cur, by omega, by go_num, hdh (by have h := hg.out; rwa [hcur] at h), hdh (hown5.out.below hb6 lrr), hcl, hcn, hdh (D10.below hb6 y10), hb5.trans (hb6.mono (by omega))⟩
       case measure => simp [intOf]; omega
    ·obtain rfl : i = m := by omega
     have hg : cur = RC := by
      have h := hgo.out; rw [List.drop_eq_nil_of_le (by have := em.out; omega)] at h
      simpa [drwGo] using h
     subst hg; have ho := hown.out; have D2 := B2.below hbr yb2; have D4 := B4.below hbr yb4; have hbz := hbw.trans (hbr.mono (by omega)); clear hcr hfr q0 q1 q2 hgo hown; have q0 := D2.cell (o := 0) rfl; have q1 := D2.cell (o := 1) rfl; have q2 := D2.cell (o := 2) rfl; have k0 := D4.cell (o := 0) rfl; have k1 := D4.cell (o := 1) rfl; have k2 := D4.cell (o := 2) rfl; have kf := D4.free; have y2 := D2.lt; have y4 := D4.lt; go_wp2; clear q0 q1 q2 k0 k1 k2 kf; have hoZ := ((ho.set_ne (b := w.heap.size + 1) (o := 0) yb4 (.int .i64 N)).set_ne (b := w.heap.size + 1) (o := 1) yb4 (.int .i64 M)).set_ne (b := w.heap.size + 1) (o := 2) yb4 (.slice sv n cv)
     have HZ := Blk.put3 D4 rfl (.int .i64 N) (.int .i64 M) (.slice sv n cv); have hbZ := ((hbz.setCell (p := ⟨w.heap.size + 1, 0, none⟩) (by show w.heap.size ≤ w.heap.size + 1; omega) (.int .i64 N)).setCell (p := ⟨w.heap.size + 1, 1, none⟩) (by show w.heap.size ≤ w.heap.size + 1; omega) (.int .i64 M)).setCell (p := ⟨w.heap.size + 1, 2, none⟩) (by show w.heap.size ≤ w.heap.size + 1; omega) (.slice sv n cv); generalize ((wr.setCell ⟨w.heap.size + 1, 0, none⟩ (.int .i64 N)).setCell ⟨w.heap.size + 1, 1, none⟩ (.int .i64 M)).setCell ⟨w.heap.size + 1, 2, none⟩ (.slice sv n cv) = wZ at HZ hbZ hoZ ⊢; have jz0 := HZ.cell (o := 0) rfl
     have jz1 := HZ.cell (o := 1) rfl; have jz2 := HZ.cell (o := 2) rfl; refine bodyPost_ret (v := .tuple #[.agg #[.int .i64 N, .int .i64 M, .slice sv n cv], .int .i64 0]) (by simp [results, Tryz.results14, go_sem, jz0, jz1, jz2]) rfl ⟨hbZ, _, rfl, own_less hoZ (by omega)⟩
  ·have eb : (E == 0) = false := by simp [e1]
   have ec : (E != 0) = true := by simp [e1]
   rw [if_neg e1] at hZ1 hZ2 hRC; subst hZ1 hZ2 hRC; clear e1; replace C2 := hdh C2
   go_wp2_with (go_at_call 36; (with_reducible refine C2.out.mono ?_); rintro e w2 ⟨hb2, vf, vr, rfl, _, _, _⟩; replace B4 := B4.below hb2 yB4; replace hbw := hbw.trans (hb2.mono hbw.size); have k0 := B4.cell (o := 0) rfl; have k1 := B4.cell (o := 1) rfl; have k2 := B4.cell (o := 2) rfl; have kf := B4.free)
   clear k0 k1 k2 kf; have HZ := Blk.put3 B4 rfl (.int .i64 0) (.int .i64 0) (.slice none 0 0); have hbZ : Below w.heap.size w (((w2.setCell ⟨(w.heap.size + 1), 0, none⟩ (.int .i64 0)).setCell ⟨(w.heap.size + 1), 1, none⟩ (.int .i64 0)).setCell ⟨(w.heap.size + 1), 2, none⟩ (.slice none 0 0)) := ((hbw.setCell (p := ⟨(w.heap.size + 1), 0, none⟩) (by show w.heap.size ≤ (w.heap.size + 1); omega) _).setCell (p := ⟨(w.heap.size + 1), 1, none⟩) (by show w.heap.size ≤ (w.heap.size + 1); omega) _).setCell (p := ⟨(w.heap.size + 1), 2, none⟩) (by show w.heap.size ≤ (w.heap.size + 1); omega) _; generalize ((w2.setCell ⟨(w.heap.size + 1), 0, none⟩ (.int .i64 0)).setCell ⟨(w.heap.size + 1), 1, none⟩ (.int .i64 0)).setCell ⟨(w.heap.size + 1), 2, none⟩ (.slice none 0 0) = wZ at HZ hbZ ⊢
   have jz0 := HZ.cell (o := 0) rfl; have jz1 := HZ.cell (o := 1) rfl; have jz2 := HZ.cell (o := 2) rfl; refine bodyPost_ret (v := .tuple #[.agg #[.int .i64 0, .int .i64 0, .slice none 0 0], .int .i64 E]) (by simp [results, Tryz.results14, go_sem, jz0, jz1, jz2]) rfl ⟨hbZ, _, rfl, OwnsC.nil _ _⟩
 ·rw [e0] at C1
  rw [if_neg (by omega)] at hE; subst hE; rw [if_neg (by omega)] at hZ1 hZ2 hRC; subst hZ1 hZ2 hRC
  go_wp2_with (go_at_call 49; (with_reducible refine cmm C1.out fun w1 hb1 => ?_); replace B4 := B4.below hb1 yB4; replace hbw := hbw.trans (hb1.mono hbw.size); have k0 := B4.cell (o := 0) rfl; have k1 := B4.cell (o := 1) rfl; have k2 := B4.cell (o := 2) rfl; have kf := B4.free)
  clear k0 k1 k2 kf; have HZ := Blk.put3 B4 rfl (.int .i64 0) (.int .i64 0) (.slice none 0 0); have hbZ : Below w.heap.size w (((w1.setCell ⟨(w.heap.size + 1), 0, none⟩ (.int .i64 0)).setCell ⟨(w.heap.size + 1), 1, none⟩ (.int .i64 0)).setCell ⟨(w.heap.size + 1), 2, none⟩ (.slice none 0 0)) := ((hbw.setCell (p := ⟨(w.heap.size + 1), 0, none⟩) (by show w.heap.size ≤ (w.heap.size + 1); omega) _).setCell (p := ⟨(w.heap.size + 1), 1, none⟩) (by show w.heap.size ≤ (w.heap.size + 1); omega) _).setCell (p := ⟨(w.heap.size + 1), 2, none⟩) (by show w.heap.size ≤ (w.heap.size + 1); omega) _; generalize ((w1.setCell ⟨(w.heap.size + 1), 0, none⟩ (.int .i64 0)).setCell ⟨(w.heap.size + 1), 1, none⟩ (.int .i64 0)).setCell ⟨(w.heap.size + 1), 2, none⟩ (.slice none 0 0) = wZ at HZ hbZ ⊢
  have jz0 := HZ.cell (o := 0) rfl; have jz1 := HZ.cell (o := 1) rfl; have jz2 := HZ.cell (o := 2) rfl; refine bodyPost_ret (v := .tuple #[.agg #[.int .i64 0, .int .i64 0, .slice none 0 0], .int .i64 150]) (by simp [results, Tryz.results14, go_sem, jz0, jz1, jz2]) rfl ⟨hbZ, _, rfl, OwnsC.nil _ _⟩
end Go.Proofs.YtfcphagmjijmkaaGreatDoor
