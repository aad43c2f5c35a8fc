/-
  Cells: a screen with runs, by the document.
-/
import Derived.Lib.SlicesCompact
import Derived.Test.YtffmomgmkpmpkaaGreatDoorProg
import Derived.Test.YtffmomgmkpmpkaaGreatDoorKu29
namespace Go.Proofs.YtffmomgmkpmpkaaGreatDoor
open Go.RowKit
set_option linter.unusedVariables false
attribute [local go_sem] vwp vUpon_value vUpon_skip vUpon_enter vUpon_row
set_option linter.unusedSimpArgs false
set_option linter.unusedVariables false
def runB (cs : List Ce) : Bool := cs.all mayC && decide (0 < (cs.length : Int))
set_option maxHeartbeats 4000000 in
set_option maxRecDepth 100000 in
theorem rrun_any (x y : Int) (cs : List Ce) (v : Value) (w : World) (hl : Row w.heap.size 11 Ce.enc w v cs) :
  Calls Tryz.prog 66 #[.agg #[.int .i64 x, .int .i64 y, v]] w fun e w' => e = .returned (.bool (runB cs)) ∧ Below w.heap.size w w' := by
 obtain ⟨s0, cap, rfl, hmax⟩ := hl.shape
 have hopen := fun h0 => row_ce hl h0
 obtain ⟨R, hR⟩ : ∃ R, runB cs = R := ⟨_, rfl⟩
 rw [hR]
 unfold runB at hR
 obtain ⟨n, en⟩ : ∃ n, cs.length = n := ⟨_, rfl⟩
 rw [en] at hopen hmax hR ⊢
 unfold maxLen at hmax
 clear hl
 have hgo0 : ((cs.drop 0).all mayC && decide (0 < (n : Int))) = R := hR
 replace hopen := Lib.hid hopen
 replace en := Lib.hid en
 replace hgo0 := Lib.hid hgo0
 clear hR
 go_enter Tryz.func66, Tryz.ntmps66
 go_upto_region 1 with fail
 obtain ⟨W, hW⟩ : ∃ W, w.alloc (.cells #[.int .i64 x, .int .i64 y, .slice s0 n cap] 67) = W := ⟨_, rfl⟩
 obtain ⟨b1, hb1e⟩ : ∃ b, w.heap.size = b := ⟨_, rfl⟩
 have B1 : Blk W b1 [.int .i64 x, .int .i64 y, .slice s0 n cap] 67 := by rw [← hW]; exact Blk.new' hb1e.symm
 have hbw : Below w.heap.size w W := by rw [← hW]; exact belt
 rw [hW, hb1e]
 clear hW
 replace hb1e := Lib.hid hb1e
 replace B1 := Lib.hid B1
 replace hbw := Lib.hid hbw
 go_upto_region 2 with fail
 go_loopw [3] (fun iv wr => ∃ k : Nat, k ≤ n ∧ iv = .int .i64 k ∧ Hid (((cs.drop k).all mayC && decide (0 < (n : Int))) = R) ∧ Hid (Below w.heap.size w wr) ∧ Hid (Blk wr b1 [.int .i64 x, .int .i64 y, .slice s0 n cap] 67)) (fun iv _ => n - (intOf iv).toNat)
 case atStart => exact ⟨0, Nat.zero_le _, rfl, hgo0, hbw, B1⟩
 case round =>
  clear hgo0 hbw B1
  obtain ⟨k, hk, rfl, hgo, hb, B1⟩ := hrel
  obtain ⟨W1, rfl⟩ : ∃ W1, W1 = wr := ⟨_, rfl⟩
  have zb := hb.out.size
  have q2 := B1.out.cell (o := 2) rfl
  have yq := B1.out.lt
  by_cases hkn : k < n
  ·obtain ⟨g, o, cap', e, hg, _, _, hel⟩ := hopen.out (by omega)
   simp only [Value.slice.injEq] at e
   obtain ⟨rfl, _, rfl⟩ := e
   obtain ⟨s, hs⟩ := get_at en.out hkn
   obtain ⟨g0, g1, g2, g3, g4, g5, g6, g7, g8, g9, g10⟩ := CMem.below (hel k s hs) hb.out hg
   have A := crcell_any s W1
   have hgg := hgo.out
   rw [drop_get hs, List.all_cons] at hgg
   have hkk : (k : Int) < n := by omega
   have yg : g < W1.heap.size := by omega
   clear hel hs hgo
   generalize mayC s = r at A hgg
   replace A := Lib.hid A
   cases r
   ·have hRf : R = false := by rw [← hgg]; rfl
    subst hRf
    go_wp2_with (go_at_call 53; (with_reducible refine A.out.mono ?_); rintro e w2 ⟨rfl, hb2⟩)
    go_ret
    exact ⟨rfl, hb.out.trans (hb2.mono zb)⟩
   ·rw [Bool.true_and] at hgg
    replace hgg := Lib.hid hgg
    go_wp2_with (go_at_call 53; (with_reducible refine A.out.mono ?_); rintro e w2 ⟨rfl, hb2⟩)
    exact ⟨⟨k + 1, by omega, by go_num, hgg, Lib.hid (hb.out.trans (hb2.mono zb)), Lib.hid (B1.out.below hb2 yq)⟩, by simp [intOf]; omega⟩
  ·obtain rfl : n = k := by omega
   have hkk : ¬ (n : Int) < n := by omega
   have hgg := hgo.out
   rw [List.drop_of_length_le (by rw [en.out]; omega)] at hgg
   have hgg : decide (0 < (n : Int)) = R := hgg
   subst hgg
   go_wp2
   go_ret
   exact ⟨by first | rfl | (congr 2), hb.out⟩
theorem cown_unf {w : World} {base g n cap : Nat} {cs : List Ce} (h : OwnsC base w (.slice (some ⟨g, 0, none⟩) n cap) cs) (o : Nat) : w.frozen? ⟨g, o, none⟩ = false := by
  rcases h.2 with ⟨e, _⟩ | ⟨g', cap', cur, e, _, hh, _⟩
  · cases e
  · injection e with e _ _
    injection e with e
    injection e with e _ _
    subst e
    simp [World.frozen?, hh]
theorem splC_take {cs rc : List Ce} {I k : Nat} {c : Ce} (h : rc[k]? = some c) (hI : I + rc.length ≤ cs.length) : (splC cs I (rc.take k)).set (I + k) c = splC cs I (rc.take (k + 1)) := by
  have hk := (List.getElem?_eq_some_iff.1 h).1
  have lk : (rc.take k).length = k := by rw [List.length_take]; omega
  have lI : (cs.take I).length = I := by rw [List.length_take]; omega
  unfold splC
  rw [List.take_add_one, h]
  have e1 : (cs.take I ++ rc.take k).length = I + k := by rw [List.length_append, lI, lk]
  have l2 : (rc.take k ++ (some c).toList).length = k + 1 := by rw [List.length_append, lk]; rfl
  rw [l2, lk, List.set_append_right _ _ (by rw [e1]; exact Nat.le_refl _), e1, Nat.sub_self]
  obtain ⟨d, hd⟩ := get_at (l := cs) rfl (show I + k < cs.length by omega)
  rw [drop_get hd]
  simp [Nat.add_assoc]
set_option maxHeartbeats 16000000 in
set_option maxRecDepth 100000 in
theorem crput_any (wd ht : Int) (cs : List Ce) (v : Value) (l : List Rn) (vl : Value) (w : World) (h1 : I64 wd) (h2 : I64 ht) (hl : Row w.heap.size 11 Ce.enc w v cs) (hr : RunsAt w.heap.size w vl l) (hwf : ∀ r ∈ l, RnWf r) (hsm : cs.length ≤ 1000000) :
  Calls Tryz.prog 31 #[.agg #[.int .i64 (wd), .int .i64 (ht), v], vl] w (OutS w.heap.size (putE wd ht cs l) (putZ wd wd ht cs l) (putZ ht wd ht cs l) (putC wd ht cs l) w) := by
 have C1 := fun w1 (hb : Below w.heap.size w w1) => crcheck_any wd ht cs v w1 h1 h2 ((hl.below hb).mono hb.size)
 obtain ⟨s0, cap, rfl, hmax⟩ := hl.shape
 obtain ⟨s1, cap1, rfl, hmax1⟩ := hr.shape
 obtain ⟨E, hE⟩ : ∃ E, putE wd ht cs l = E := ⟨_, rfl⟩
 obtain ⟨Z1, hZ1⟩ : ∃ Z, putZ wd wd ht cs l = Z := ⟨_, rfl⟩
 obtain ⟨Z2, hZ2⟩ : ∃ Z, putZ ht wd ht cs l = Z := ⟨_, rfl⟩
 obtain ⟨RC, hRC⟩ : ∃ R, putC wd ht cs l = R := ⟨_, rfl⟩
 rw [hE, hZ1, hZ2, hRC]
 unfold putC at hRC
 unfold putZ at hZ1 hZ2
 rw [hE] at hZ1 hZ2 hRC
 unfold putE at hE
 have hl0 := Lib.hid hl
 have hop := fun h0 => hr.open_ h0
 obtain ⟨n, en⟩ : ∃ n, cs.length = n := ⟨_, rfl⟩
 obtain ⟨m, em⟩ : ∃ n, l.length = n := ⟨_, rfl⟩
 rw [en] at hl0 C1 hmax hsm ⊢
 rw [em] at hop hmax1 hE ⊢
 unfold maxLen at hmax hmax1
 clear hl hr
 replace em := Lib.hid em
 replace hop := Lib.hid hop
 replace hwf := Lib.hid hwf
 go_enter Tryz.func31, Tryz.ntmps31
 go_upto_region 1 with fail
 obtain ⟨W, hW⟩ : ∃ W, (w.alloc (.cells #[.int .i64 wd, .int .i64 ht, .slice s0 n cap] 26)).alloc (.cells #[.int .i64 0, .int .i64 0, .slice none 0 0] 26) = W := ⟨_, rfl⟩
 obtain ⟨b2, hb2⟩ : ∃ b, w.heap.size = b := ⟨_, rfl⟩
 have B2 : Blk W b2 [.int .i64 wd, .int .i64 ht, .slice s0 n cap] 26 := by rw [← hW]; exact (Blk.new' hb2.symm).alloc _
 have B4 : Blk W (b2 + 1) [.int .i64 0, .int .i64 0, .slice none 0 0] 26 := by rw [← hW]; exact Blk.new' (by simp; omega)
 have hbw : Below w.heap.size w W := by rw [← hW]; exact belt
 rw [hW, hb2]
 clear hW
 have hb2B : w.heap.size ≤ b2 := by omega
 replace hb2 := Lib.hid hb2
 have yB2 := B2.lt
 have yB4 := B4.lt
 have q0a := B2.cell (o := 0) rfl
 have q1a := B2.cell (o := 1) rfl
 have q2a := B2.cell (o := 2) rfl
 have yqa := B2.lt
 replace C1 := Lib.hid (C1 W hbw)
 rcases chkS_cases wd ht cs with e0 | e0
 ·rw [e0] at C1
  rw [if_pos e0] at hE
  obtain ⟨hfit, hlen, hall⟩ := chkS_zero e0
  obtain ⟨z0, z1, z2, z3, z4⟩ := fitsS_true.1 hfit
  go_upto_region 4 with (go_at_call 16; (with_reducible refine C1.out.mono ?_); rintro e w1 ⟨rfl, hb1⟩)
  replace B2 := B2.below hb1 yB2
  replace B4 := B4.below hb1 yB4
  replace hbw := hbw.trans (hb1.mono hbw.size)
  clear q0a q1a q2a yqa
  clear C1 hb1 yB2 yB4
  have yB2 := B2.lt
  have yB4 := B4.lt
  by_cases hbig : 262144 < m
  ·rw [if_pos hbig] at hE
   subst hE
   have hbi : (262144 : Int) < m := by omega
   rw [if_neg (by decide)] at hZ1 hZ2 hRC
   subst hZ1 hZ2 hRC
   have k0 := B4.cell (o := 0) rfl
   have k1 := B4.cell (o := 1) rfl
   have k2 := B4.cell (o := 2) rfl
   have kf := B4.free
   go_wp2
   clear k0 k1 k2 kf
   have HZ := Blk.put3 B4 rfl (.int .i64 0) (.int .i64 0) (.slice none 0 0)
   have hbZ : Below w.heap.size w (((w1.setCell ⟨(b2 + 1), 0, none⟩ (.int .i64 0)).setCell ⟨(b2 + 1), 1, none⟩ (.int .i64 0)).setCell ⟨(b2 + 1), 2, none⟩ (.slice none 0 0)) := ((hbw.setCell (p := ⟨(b2 + 1), 0, none⟩) (by show w.heap.size ≤ (b2 + 1); omega) _).setCell (p := ⟨(b2 + 1), 1, none⟩) (by show w.heap.size ≤ (b2 + 1); omega) _).setCell (p := ⟨(b2 + 1), 2, none⟩) (by show w.heap.size ≤ (b2 + 1); omega) _
   generalize ((w1.setCell ⟨(b2 + 1), 0, none⟩ (.int .i64 0)).setCell ⟨(b2 + 1), 1, none⟩ (.int .i64 0)).setCell ⟨(b2 + 1), 2, none⟩ (.slice none 0 0) = wZ at HZ hbZ ⊢
   have jz0 := HZ.cell (o := 0) rfl
   have jz1 := HZ.cell (o := 1) rfl
   have jz2 := HZ.cell (o := 2) rfl
   refine bodyPost_ret (v := .tuple #[.agg #[.int .i64 0, .int .i64 0, .slice none 0 0], .int .i64 4]) (by simp [results, Tryz.results31, go_sem, jz0, jz1, jz2]) rfl ⟨hbZ, _, rfl, OwnsC.nil _ _⟩
  ·rw [if_neg hbig] at hE
   have hbi : ¬ (262144 : Int) < m := by omega
   obtain ⟨R, hR⟩ : ∃ R, l.all (fitR wd ht) = R := ⟨_, rfl⟩
   rw [hR] at hE
   have hgo := Lib.hid (show (l.drop 0).all (fitR wd ht) = R from hR)
   have hRa := Lib.hid hR
   replace en := Lib.hid en
   replace hlen := Lib.hid hlen
   replace B2 := Lib.hid B2
   replace B4 := Lib.hid B4
   replace hbw := Lib.hid hbw
   replace hRC := Lib.hid hRC
   replace hZ1 := Lib.hid hZ1
   replace hZ2 := Lib.hid hZ2
   clear hR hall e0 yB2 yB4
   go_upto_region 7 with fail
   go_loopw [7] (fun iv wr => ∃ i : Nat, i ≤ m ∧ iv = .int .i64 i ∧ Hid ((l.drop i).all (fitR wd ht) = R) ∧ Hid (Below w.heap.size w wr) ∧ Hid (Blk wr b2 [.int .i64 wd, .int .i64 ht, .slice s0 n cap] 26) ∧ Hid (Blk wr (b2 + 1) [.int .i64 0, .int .i64 0, .slice none 0 0] 26)) (fun iv _ => m - (intOf iv).toNat)
   case atStart => exact ⟨0, Nat.zero_le _, rfl, hgo, hbw, B2, B4⟩
   case round =>
    clear hgo hbw B2 B4
    obtain ⟨i, hi, rfl, hgo, hb, B2, B4⟩ := hrel
    obtain ⟨W1, rfl⟩ : ∃ W1, W1 = wr := ⟨_, rfl⟩
    have zb := hb.out.size
    by_cases hin : i < m
    ·have hii : (i : Int) < m := by omega
     obtain ⟨g, o, cap', ea, hg, hcp, hcm, hel⟩ := hop.out (by omega)
     simp only [Value.slice.injEq] at ea
     obtain ⟨rfl, _, rfl⟩ := ea
     obtain ⟨r, hr⟩ := get_at em.out hin
     obtain ⟨s, k, p0, p1, p2, hrow⟩ := hel i r hr
     have hgo2 := hgo.out
     rw [allF_step hr] at hgo2
     have hw0 := hwf.out _ (List.mem_of_getElem? hr)
     obtain ⟨x, y, rc, rfl⟩ : ∃ x y c, r = ⟨x, y, c⟩ := ⟨_, _, _, rfl⟩
     dsimp only at p0 p1 p2 hrow
     obtain ⟨q, hq⟩ : ∃ q, rc.length = q := ⟨_, rfl⟩
     obtain ⟨hx64, hy64, _⟩ := hw0
     dsimp only at hx64 hy64
     unfold I64 at hx64 hy64
     have yg : g < W1.heap.size := by omega
     replace p0 := (hb.out.cell (p := ⟨g, o + i * 3, none⟩) hg).trans p0
     replace p1 := (hb.out.cell (p := ⟨g, o + i * 3 + 1, none⟩) hg).trans p1
     replace p2 := (hb.out.cell (p := ⟨g, o + i * 3 + 2, none⟩) hg).trans p2
     rw [hq] at p2 hrow
     clear hr hgo hel
     have RN := fun u (hu : Below W1.heap.size W1 u) => (show Calls Tryz.prog 66 #[.agg #[.int .i64 x, .int .i64 y, .slice s q k]] u _ from rrun_any x y rc _ u (by have h := (hrow.below (hb.out.trans (hu.mono zb))).mono (B' := u.heap.size) (by have := hu.size; omega); rw [← hq] at h ⊢; exact h))
     unfold runB at RN
     have PLX := fun u => rplace_any wd ht x y (.slice s0 n cap) u
     obtain ⟨al, hal⟩ : ∃ q, rc.all mayC = q := ⟨_, rfl⟩
     simp only [hal, hq] at RN
     have hok : (plcS wd ht x y && (!(q == 0) && (decide ((q : Int) ≤ wd - x) && al)) && (l.drop (i + 1)).all (fitR wd ht)) = R := by rw [← hgo2]; unfold fitR; dsimp only; rw [hq, hal]
     clear hgo2
     replace hq := Lib.hid hq
     have q0a := B2.out.cell (o := 0) rfl
     have q1a := B2.out.cell (o := 1) rfl
     have q2a := B2.out.cell (o := 2) rfl
     have yqa := B2.out.lt
     have yB4 := B4.out.lt
     cases al
     ·simp only [Bool.false_and] at RN
      replace RN := Lib.hid RN
      replace PLX := Lib.hid PLX
      have hRf : R = false := by rw [← hok]; simp [*]
      subst hRf
      rw [if_neg (by decide)] at hE
      subst hE
      have hZ1 := hZ1.out
      have hZ2 := hZ2.out
      have hRC := hRC.out
      rw [if_neg (by decide)] at hZ1 hZ2 hRC
      subst hZ1 hZ2 hRC
      clear hok
      go_upto_region 9 with fail
      refine wp_region_steady (Held W1 0 []) (by kernel_rfl) (by kernel_rfl) ⟨belt, (by (try simp) <;> omega), (by first | exact trivial | (simp only [Cells]; go_simp))⟩ ?_
      repeat (first | (refine' wpSteady_do _ _ _; rotate_left; (focus rfl); (focus (intro w1 hS R hR; have hc := hS.cells; simp only [Cells] at hc; obtain ⟨hco, hfo⟩ := bcell hS.old; go_simp; (try go_bits); first | exact hR _ hS | ((go_at_call 66; (with_reducible refine (RN.out _ hS.old).mono ?_); rintro e w2 ⟨rfl, hb2⟩; exact ⟨_, rfl, hR _ (hS.below hb2)⟩)) | ((go_at_call 59; (with_reducible refine (PLX.out _).mono ?_); rintro e w2 ⟨rfl, hb2⟩; exact ⟨_, rfl, hR _ (hS.below hb2)⟩)))); simp only [pu]) | (refine wpSteady_pass ?_ ?_; (focus rfl); simp only [pu]))
      refine wpSteady_nil (fun uA hSA => ?_)
      have hcA := hSA.cells; have hbA := hSA.old; have hzA := hSA.size; clear hSA; simp only [Cells] at hcA; obtain ⟨hcoA, hfoA⟩ := bcell hbA
      have hbF := hb.out.trans (hbA.mono zb)
      have B4a := B4.out.below hbA yB4
      clear q0a q1a q2a p0 p1 p2 hcA hcoA hfoA
      have k0 := B4a.cell (o := 0) rfl
      have k1 := B4a.cell (o := 1) rfl
      have k2 := B4a.cell (o := 2) rfl
      have kf := B4a.free
      have yB4a := B4a.lt
      go_wp2
      clear k0 k1 k2 kf
      have HZ := Blk.put3 B4a rfl (.int .i64 0) (.int .i64 0) (.slice none 0 0)
      have hbZ : Below w.heap.size w (((uA.setCell ⟨(b2 + 1), 0, none⟩ (.int .i64 0)).setCell ⟨(b2 + 1), 1, none⟩ (.int .i64 0)).setCell ⟨(b2 + 1), 2, none⟩ (.slice none 0 0)) := ((hbF.setCell (p := ⟨(b2 + 1), 0, none⟩) (by show w.heap.size ≤ (b2 + 1); omega) _).setCell (p := ⟨(b2 + 1), 1, none⟩) (by show w.heap.size ≤ (b2 + 1); omega) _).setCell (p := ⟨(b2 + 1), 2, none⟩) (by show w.heap.size ≤ (b2 + 1); omega) _
      generalize ((uA.setCell ⟨(b2 + 1), 0, none⟩ (.int .i64 0)).setCell ⟨(b2 + 1), 1, none⟩ (.int .i64 0)).setCell ⟨(b2 + 1), 2, none⟩ (.slice none 0 0) = wZ at HZ hbZ ⊢
      have jz0 := HZ.cell (o := 0) rfl
      have jz1 := HZ.cell (o := 1) rfl
      have jz2 := HZ.cell (o := 2) rfl
      refine bodyPost_ret (v := .tuple #[.agg #[.int .i64 0, .int .i64 0, .slice none 0 0], .int .i64 150]) (by simp [results, Tryz.results31, go_sem, jz0, jz1, jz2]) rfl ⟨hbZ, _, rfl, OwnsC.nil _ _⟩
     ·simp only [Bool.true_and] at RN
      by_cases q0 : q = 0
      ·subst q0
       replace RN := Lib.hid RN
       replace PLX := Lib.hid PLX
       have hRf : R = false := by rw [← hok]; simp [*]
       subst hRf
       rw [if_neg (by decide)] at hE
       subst hE
       have hZ1 := hZ1.out
       have hZ2 := hZ2.out
       have hRC := hRC.out
       rw [if_neg (by decide)] at hZ1 hZ2 hRC
       subst hZ1 hZ2 hRC
       clear hok
       go_upto_region 9 with fail
       refine wp_region_steady (Held W1 0 []) (by kernel_rfl) (by kernel_rfl) ⟨belt, (by (try simp) <;> omega), (by first | exact trivial | (simp only [Cells]; go_simp))⟩ ?_
       repeat (first | (refine' wpSteady_do _ _ _; rotate_left; (focus rfl); (focus (intro w1 hS R hR; have hc := hS.cells; simp only [Cells] at hc; obtain ⟨hco, hfo⟩ := bcell hS.old; go_simp; (try go_bits); first | exact hR _ hS | ((go_at_call 66; (with_reducible refine (RN.out _ hS.old).mono ?_); rintro e w2 ⟨rfl, hb2⟩; exact ⟨_, rfl, hR _ (hS.below hb2)⟩)) | ((go_at_call 59; (with_reducible refine (PLX.out _).mono ?_); rintro e w2 ⟨rfl, hb2⟩; exact ⟨_, rfl, hR _ (hS.below hb2)⟩)))); simp only [pu]) | (refine wpSteady_pass ?_ ?_; (focus rfl); simp only [pu]))
       refine wpSteady_nil (fun uA hSA => ?_)
       have hcA := hSA.cells; have hbA := hSA.old; have hzA := hSA.size; clear hSA; simp only [Cells] at hcA; obtain ⟨hcoA, hfoA⟩ := bcell hbA
       have hbF := hb.out.trans (hbA.mono zb)
       have B4a := B4.out.below hbA yB4
       clear q0a q1a q2a p0 p1 p2 hcA hcoA hfoA
       have k0 := B4a.cell (o := 0) rfl
       have k1 := B4a.cell (o := 1) rfl
       have k2 := B4a.cell (o := 2) rfl
       have kf := B4a.free
       have yB4a := B4a.lt
       go_wp2
       clear k0 k1 k2 kf
       have HZ := Blk.put3 B4a rfl (.int .i64 0) (.int .i64 0) (.slice none 0 0)
       have hbZ : Below w.heap.size w (((uA.setCell ⟨(b2 + 1), 0, none⟩ (.int .i64 0)).setCell ⟨(b2 + 1), 1, none⟩ (.int .i64 0)).setCell ⟨(b2 + 1), 2, none⟩ (.slice none 0 0)) := ((hbF.setCell (p := ⟨(b2 + 1), 0, none⟩) (by show w.heap.size ≤ (b2 + 1); omega) _).setCell (p := ⟨(b2 + 1), 1, none⟩) (by show w.heap.size ≤ (b2 + 1); omega) _).setCell (p := ⟨(b2 + 1), 2, none⟩) (by show w.heap.size ≤ (b2 + 1); omega) _
       generalize ((uA.setCell ⟨(b2 + 1), 0, none⟩ (.int .i64 0)).setCell ⟨(b2 + 1), 1, none⟩ (.int .i64 0)).setCell ⟨(b2 + 1), 2, none⟩ (.slice none 0 0) = wZ at HZ hbZ ⊢
       have jz0 := HZ.cell (o := 0) rfl
       have jz1 := HZ.cell (o := 1) rfl
       have jz2 := HZ.cell (o := 2) rfl
       refine bodyPost_ret (v := .tuple #[.agg #[.int .i64 0, .int .i64 0, .slice none 0 0], .int .i64 150]) (by simp [results, Tryz.results31, go_sem, jz0, jz1, jz2]) rfl ⟨hbZ, _, rfl, OwnsC.nil _ _⟩
      ·have q0i : decide (0 < (q : Int)) = true := decide_eq_true (by omega)
       have q0n : (q == 0) = false := by simpa using q0
       rw [q0n] at hok
       simp only [q0i] at RN
       replace RN := Lib.hid RN
       cases hp : plcS wd ht x y
       ·rw [hp] at hok
        simp only [hp] at PLX
        replace PLX := Lib.hid PLX
        have hRf : R = false := by rw [← hok]; simp [*]
        subst hRf
        rw [if_neg (by decide)] at hE
        subst hE
        have hZ1 := hZ1.out
        have hZ2 := hZ2.out
        have hRC := hRC.out
        rw [if_neg (by decide)] at hZ1 hZ2 hRC
        subst hZ1 hZ2 hRC
        clear hok
        go_upto_region 9 with fail
        refine wp_region_steady (Held W1 0 []) (by kernel_rfl) (by kernel_rfl) ⟨belt, (by (try simp) <;> omega), (by first | exact trivial | (simp only [Cells]; go_simp))⟩ ?_
        repeat (first | (refine' wpSteady_do _ _ _; rotate_left; (focus rfl); (focus (intro w1 hS R hR; have hc := hS.cells; simp only [Cells] at hc; obtain ⟨hco, hfo⟩ := bcell hS.old; go_simp; (try go_bits); first | exact hR _ hS | ((go_at_call 66; (with_reducible refine (RN.out _ hS.old).mono ?_); rintro e w2 ⟨rfl, hb2⟩; exact ⟨_, rfl, hR _ (hS.below hb2)⟩)) | ((go_at_call 59; (with_reducible refine (PLX.out _).mono ?_); rintro e w2 ⟨rfl, hb2⟩; exact ⟨_, rfl, hR _ (hS.below hb2)⟩)))); simp only [pu]) | (refine wpSteady_pass ?_ ?_; (focus rfl); simp only [pu]))
        refine wpSteady_nil (fun uA hSA => ?_)
        have hcA := hSA.cells; have hbA := hSA.old; have hzA := hSA.size; clear hSA; simp only [Cells] at hcA; obtain ⟨hcoA, hfoA⟩ := bcell hbA
        have hbF := hb.out.trans (hbA.mono zb)
        have B4a := B4.out.below hbA yB4
        clear q0a q1a q2a p0 p1 p2 hcA hcoA hfoA
        have k0 := B4a.cell (o := 0) rfl
        have k1 := B4a.cell (o := 1) rfl
        have k2 := B4a.cell (o := 2) rfl
        have kf := B4a.free
        have yB4a := B4a.lt
        go_wp2
        clear k0 k1 k2 kf
        have HZ := Blk.put3 B4a rfl (.int .i64 0) (.int .i64 0) (.slice none 0 0)
        have hbZ : Below w.heap.size w (((uA.setCell ⟨(b2 + 1), 0, none⟩ (.int .i64 0)).setCell ⟨(b2 + 1), 1, none⟩ (.int .i64 0)).setCell ⟨(b2 + 1), 2, none⟩ (.slice none 0 0)) := ((hbF.setCell (p := ⟨(b2 + 1), 0, none⟩) (by show w.heap.size ≤ (b2 + 1); omega) _).setCell (p := ⟨(b2 + 1), 1, none⟩) (by show w.heap.size ≤ (b2 + 1); omega) _).setCell (p := ⟨(b2 + 1), 2, none⟩) (by show w.heap.size ≤ (b2 + 1); omega) _
        generalize ((uA.setCell ⟨(b2 + 1), 0, none⟩ (.int .i64 0)).setCell ⟨(b2 + 1), 1, none⟩ (.int .i64 0)).setCell ⟨(b2 + 1), 2, none⟩ (.slice none 0 0) = wZ at HZ hbZ ⊢
        have jz0 := HZ.cell (o := 0) rfl
        have jz1 := HZ.cell (o := 1) rfl
        have jz2 := HZ.cell (o := 2) rfl
        refine bodyPost_ret (v := .tuple #[.agg #[.int .i64 0, .int .i64 0, .slice none 0 0], .int .i64 150]) (by simp [results, Tryz.results31, go_sem, jz0, jz1, jz2]) rfl ⟨hbZ, _, rfl, OwnsC.nil _ _⟩
       ·obtain ⟨c1, c2, c3, c4⟩ := plcS_true.1 hp
        rw [hp] at hok
        simp only [hp] at PLX
        replace PLX := Lib.hid PLX
        by_cases hrm : (q : Int) ≤ wd - x
        ·have hrm2 : ¬ wd - x < q := by omega
         have hgo2 := Lib.hid (show (l.drop (i + 1)).all (fitR wd ht) = R by rw [← hok]; simp [hrm])
         clear hok
         go_upto_region 9 with fail
         refine wp_region_steady (Held W1 0 []) (by kernel_rfl) (by kernel_rfl) ⟨belt, (by (try simp) <;> omega), (by first | exact trivial | (simp only [Cells]; go_simp))⟩ ?_
         repeat (first | (refine' wpSteady_do _ _ _; rotate_left; (focus rfl); (focus (intro w1 hS R hR; have hc := hS.cells; simp only [Cells] at hc; obtain ⟨hco, hfo⟩ := bcell hS.old; go_simp; (try go_bits); first | exact hR _ hS | ((go_at_call 66; (with_reducible refine (RN.out _ hS.old).mono ?_); rintro e w2 ⟨rfl, hb2⟩; exact ⟨_, rfl, hR _ (hS.below hb2)⟩)) | ((go_at_call 59; (with_reducible refine (PLX.out _).mono ?_); rintro e w2 ⟨rfl, hb2⟩; exact ⟨_, rfl, hR _ (hS.below hb2)⟩)))); simp only [pu]) | (refine wpSteady_pass ?_ ?_; (focus rfl); simp only [pu]))
         refine wpSteady_nil (fun uA hSA => ?_)
         have hcA := hSA.cells; have hbA := hSA.old; have hzA := hSA.size; clear hSA; simp only [Cells] at hcA; obtain ⟨hcoA, hfoA⟩ := bcell hbA
         have hbF := hb.out.trans (hbA.mono zb)
         have B4a := B4.out.below hbA yB4
         have B2a := B2.out.below hbA yqa
         go_wp2
         exact ⟨⟨i + 1, by omega, by go_num, hgo2, Lib.hid hbF, Lib.hid B2a, Lib.hid B4a⟩, by simp [intOf]; omega⟩
        ·have hrm2 : wd - x < q := by omega
         have hrm3 : decide ((q : Int) ≤ wd - x) = false := decide_eq_false hrm
         rw [hrm3] at hok
         have hRf : R = false := by rw [← hok]; simp [*]
         subst hRf
         rw [if_neg (by decide)] at hE
         subst hE
         have hZ1 := hZ1.out
         have hZ2 := hZ2.out
         have hRC := hRC.out
         rw [if_neg (by decide)] at hZ1 hZ2 hRC
         subst hZ1 hZ2 hRC
         clear hok
         go_upto_region 9 with fail
         refine wp_region_steady (Held W1 0 []) (by kernel_rfl) (by kernel_rfl) ⟨belt, (by (try simp) <;> omega), (by first | exact trivial | (simp only [Cells]; go_simp))⟩ ?_
         repeat (first | (refine' wpSteady_do _ _ _; rotate_left; (focus rfl); (focus (intro w1 hS R hR; have hc := hS.cells; simp only [Cells] at hc; obtain ⟨hco, hfo⟩ := bcell hS.old; go_simp; (try go_bits); first | exact hR _ hS | ((go_at_call 66; (with_reducible refine (RN.out _ hS.old).mono ?_); rintro e w2 ⟨rfl, hb2⟩; exact ⟨_, rfl, hR _ (hS.below hb2)⟩)) | ((go_at_call 59; (with_reducible refine (PLX.out _).mono ?_); rintro e w2 ⟨rfl, hb2⟩; exact ⟨_, rfl, hR _ (hS.below hb2)⟩)))); simp only [pu]) | (refine wpSteady_pass ?_ ?_; (focus rfl); simp only [pu]))
         refine wpSteady_nil (fun uA hSA => ?_)
         have hcA := hSA.cells; have hbA := hSA.old; have hzA := hSA.size; clear hSA; simp only [Cells] at hcA; obtain ⟨hcoA, hfoA⟩ := bcell hbA
         have hbF := hb.out.trans (hbA.mono zb)
         have B4a := B4.out.below hbA yB4
         clear q0a q1a q2a p0 p1 p2 hcA hcoA hfoA
         have k0 := B4a.cell (o := 0) rfl
         have k1 := B4a.cell (o := 1) rfl
         have k2 := B4a.cell (o := 2) rfl
         have kf := B4a.free
         have yB4a := B4a.lt
         go_wp2
         clear k0 k1 k2 kf
         have HZ := Blk.put3 B4a rfl (.int .i64 0) (.int .i64 0) (.slice none 0 0)
         have hbZ : Below w.heap.size w (((uA.setCell ⟨(b2 + 1), 0, none⟩ (.int .i64 0)).setCell ⟨(b2 + 1), 1, none⟩ (.int .i64 0)).setCell ⟨(b2 + 1), 2, none⟩ (.slice none 0 0)) := ((hbF.setCell (p := ⟨(b2 + 1), 0, none⟩) (by show w.heap.size ≤ (b2 + 1); omega) _).setCell (p := ⟨(b2 + 1), 1, none⟩) (by show w.heap.size ≤ (b2 + 1); omega) _).setCell (p := ⟨(b2 + 1), 2, none⟩) (by show w.heap.size ≤ (b2 + 1); omega) _
         generalize ((uA.setCell ⟨(b2 + 1), 0, none⟩ (.int .i64 0)).setCell ⟨(b2 + 1), 1, none⟩ (.int .i64 0)).setCell ⟨(b2 + 1), 2, none⟩ (.slice none 0 0) = wZ at HZ hbZ ⊢
         have jz0 := HZ.cell (o := 0) rfl
         have jz1 := HZ.cell (o := 1) rfl
         have jz2 := HZ.cell (o := 2) rfl
         refine bodyPost_ret (v := .tuple #[.agg #[.int .i64 0, .int .i64 0, .slice none 0 0], .int .i64 150]) (by simp [results, Tryz.results31, go_sem, jz0, jz1, jz2]) rfl ⟨hbZ, _, rfl, OwnsC.nil _ _⟩
    ·obtain rfl : m = i := by omega
     have hii : ¬ (m : Int) < m := by omega
     have hRt : R = true := by
      have h := hgo.out
      rw [List.drop_of_length_le (by rw [em.out]; omega)] at h
      exact h.symm
     subst hRt
     rw [if_pos rfl] at hE
     subst hE
     have hZ1 := hZ1.out
     have hZ2 := hZ2.out
     have hRC := hRC.out
     rw [if_pos rfl] at hZ1 hZ2 hRC
     subst hZ1 hZ2
     replace hRC := Lib.hid hRC
     have TW := Lib.hid (twin_any wd ht cs (.slice s0 n cap) W1 (by have h := (hl0.out.below hb.out).mono zb; rw [← en.out] at h ⊢; exact h) (by rw [en.out]; exact hsm))
     have q0a := B2.out.cell (o := 0) rfl
     have q1a := B2.out.cell (o := 1) rfl
     have q2a := B2.out.cell (o := 2) rfl
     have yqa := B2.out.lt
     have yB2 := B2.out.lt
     have yB4 := B4.out.lt
     have B2o := B2.out
     have B4o := B4.out
     go_upto_region 12 with (go_at_call 10; (with_reducible refine TW.out.mono ?_); rintro e w3 ⟨v3, rfl, hoc, hb3⟩; obtain ⟨sv, cv, hv3⟩ := own_slice hoc; rw [en.out] at hv3; subst hv3; replace B2o := B2o.below hb3 yB2; replace B4o := B4o.below hb3 yB4; have k0 := B2o.cell (o := 0) rfl; have k1 := B2o.cell (o := 1) rfl; have k2 := B2o.cell (o := 2) rfl; have kf := B2o.free; have yk := B2o.lt)
     have G2 := Blk.put3 B2o rfl (.int .i64 wd) (.int .i64 ht) (.slice sv n cv)
     have G4 := ((B4o.set_ne (a := ⟨b2, 0, none⟩) (by show b2 + 1 ≠ b2; omega) (.int .i64 wd)).set_ne (a := ⟨b2, 1, none⟩) (by show b2 + 1 ≠ b2; omega) (.int .i64 ht)).set_ne (a := ⟨b2, 2, none⟩) (by show b2 + 1 ≠ b2; omega) (.slice sv n cv)
     have zz3 := hb3.size
     have hoc2 : OwnsC w.heap.size w3 (.slice sv n cv) cs := own_less hoc (by omega)
     have nb := fun g (hg : (Value.slice sv n cv).ownBlock = some g) => (show g ≠ b2 by have := (own_block_lt hoc g hg).1; omega)
     have goc : OwnsC w.heap.size _ (.slice sv n cv) cs := own_other (own_other (own_other hoc2 (a := ⟨b2, 0, none⟩) nb (.int .i64 wd)) (a := ⟨b2, 1, none⟩) nb (.int .i64 ht)) (a := ⟨b2, 2, none⟩) nb (.slice sv n cv)
     have hbX := (((hb.out.trans (hb3.mono zb)).setCell (p := ⟨b2, 0, none⟩) hb2B (.int .i64 wd)).setCell (p := ⟨b2, 1, none⟩) hb2B (.int .i64 ht)).setCell (p := ⟨b2, 2, none⟩) hb2B (.slice sv n cv)
     clear hoc hoc2 hb3 B2o B4o k0 k1 k2 kf yk TW hb B2 B4 yB2 yB4 nb
     clear q0a q1a q2a yqa
     generalize ((w3.setCell ⟨b2, 0, none⟩ (.int .i64 wd)).setCell ⟨b2, 1, none⟩ (.int .i64 ht)).setCell ⟨b2, 2, none⟩ (.slice sv n cv) = w4 at G2 G4 goc hbX ⊢
     replace G2 := Lib.hid G2
     replace G4 := Lib.hid G4
     replace goc := Lib.hid goc
     replace hbX := Lib.hid hbX
     have hgo3 := Lib.hid (show putGo wd cs (l.drop 0) = RC from hRC.out)
     clear hgo hRC zz3
     go_upto_region 13 with fail
     go_loopw [8] (fun iv wr => ∃ (i : Nat) (cur : List Ce), i ≤ m ∧ iv = .int .i64 i ∧ Hid (putGo wd cur (l.drop i) = RC) ∧ Hid (Below w.heap.size w wr) ∧ Hid (OwnsC w.heap.size wr (.slice sv n cv) cur) ∧ Hid (cur.length = n) ∧ Hid (Blk wr b2 [.int .i64 wd, .int .i64 ht, .slice sv n cv] 26) ∧ Hid (Blk wr (b2 + 1) [.int .i64 0, .int .i64 0, .slice none 0 0] 26)) (fun iv _ => m - (intOf iv).toNat)
     case atStart => exact ⟨0, cs, Nat.zero_le _, rfl, hgo3, hbX, goc, en, G2, G4⟩
     case round =>
      clear hgo3 hbX goc G2 G4
      obtain ⟨i, cur, hi, rfl, hgo, hb, hoc, hcl, B2, B4⟩ := hrel
      obtain ⟨W1, rfl⟩ : ∃ W1, W1 = wr := ⟨_, rfl⟩
      have zb := hb.out.size
      by_cases hin : i < m
      ·have hii : (i : Int) < m := by omega
       obtain ⟨g, o, cap', ea, hg, hcp, hcm, hel⟩ := hop.out (by omega)
       simp only [Value.slice.injEq] at ea
       obtain ⟨rfl, _, rfl⟩ := ea
       obtain ⟨r, hr⟩ := get_at em.out hin
       obtain ⟨s, k, p0, p1, p2, hrow⟩ := hel i r hr
       have hgo2 := hgo.out
       rw [putGo_step hr] at hgo2
       have hft := List.all_eq_true.1 hRa.out r (List.mem_of_getElem? hr)
       have hfl := fit_len hfit (by rw [hcl.out, ← en.out]; exact hlen.out) hft
       obtain ⟨x, y, rc, rfl⟩ : ∃ x y c, r = ⟨x, y, c⟩ := ⟨_, _, _, rfl⟩
       dsimp only at p0 p1 p2 hrow hgo2 hfl
       obtain ⟨q, hq⟩ : ∃ q, rc.length = q := ⟨_, rfl⟩
       obtain ⟨f1, f2, f3, f4⟩ := fitR_true.1 hft
       dsimp only at f1 f2 f3 f4
       obtain ⟨c1, c2, c3, c4⟩ := plcS_true.1 f1
       obtain ⟨e1, e2⟩ := row_end z0 c2 c4
       obtain ⟨P, hP⟩ : ∃ P, y * wd = P := ⟨_, rfl⟩
       rw [hP] at hgo2 hfl e1 e2
       obtain ⟨I, hI⟩ : ∃ I : Nat, P + x = I := ⟨(P + x).toNat, by omega⟩
       rw [hI, Int.toNat_natCast] at hgo2 hfl
       rw [hcl.out] at hfl
       rw [hq] at p2 hrow hfl f2 f3
       obtain ⟨gs, os, kc, es, hgs, _, _, hsrc⟩ := row_ce hrow (by omega)
       rw [hq] at es
       simp only [Value.slice.injEq] at es
       obtain ⟨rfl, _, rfl⟩ := es
       obtain ⟨g2, cap2, curA, hve, hgb, hgh, hcc, hcm2, hcs, hct⟩ := hoc.out.open_ (by rw [hcl.out]; omega)
       rw [hcl.out] at hve hcc
       simp only [Value.slice.injEq] at hve
       obtain ⟨rfl, _, rfl⟩ := hve
       have gne : b2 ≠ g2 := by
        rintro rfl
        have h := B2.out
        unfold Blk at h
        rw [hgh] at h
        injection h with h
        injection h with _ h2 _
        exact absurd h2 (by decide)
       have gne2 : b2 + 1 ≠ g2 := by
        rintro rfl
        have h := B4.out
        unfold Blk at h
        rw [hgh] at h
        injection h with h
        injection h with _ h2 _
        exact absurd h2 (by decide)
       have hzq : P ≤ 262144 := by omega
       have hx16 : x ≤ 16384 := by omega
       have hst : OwnsC w.heap.size W1 (.slice (some ⟨g2, 0, none⟩) n cv) (splC cur I (rc.take 0)) := by
        have e : splC cur I (rc.take 0) = cur := by unfold splC; simp
        rw [e]
        exact hoc.out
       replace hst := Lib.hid hst
       replace hgo2 := Lib.hid hgo2
       replace hsrc := Lib.hid hsrc
       replace p0 := Lib.hid p0
       replace p1 := Lib.hid p1
       replace p2 := Lib.hid p2
       replace hq := Lib.hid hq
       replace hfl := Lib.hid hfl
       clear hr hgo hel hrow hft f4 f1 hgh hct hcs hoc e2
       go_upto_region 16 with fail
       go_loopw [9] (fun kv wr => ∃ k : Nat, k ≤ q ∧ kv = .int .i64 k ∧ Hid (Below w.heap.size w wr) ∧ Hid (OwnsC w.heap.size wr (.slice (some ⟨g2, 0, none⟩) n cv) (splC cur I (rc.take k))) ∧ Hid (Blk wr b2 [.int .i64 wd, .int .i64 ht, .slice (some ⟨g2, 0, none⟩) n cv] 26) ∧ Hid (Blk wr (b2 + 1) [.int .i64 0, .int .i64 0, .slice none 0 0] 26)) (fun kv _ => q - (intOf kv).toNat)
       case atStart => exact ⟨0, Nat.zero_le _, rfl, hb, hst, B2, B4⟩
       case round =>
        clear hst hb B2 B4
        obtain ⟨k, hk, rfl, hb, hoc, B2, B4⟩ := hrel
        obtain ⟨W6, rfl⟩ : ∃ W6, W6 = wr := ⟨_, rfl⟩
        have z6 := hb.out.size
        have yg : g < W6.heap.size := by omega
        have r0 := (hb.out.cell (p := ⟨g, o + i * 3, none⟩) hg).trans p0.out
        have r1 := (hb.out.cell (p := ⟨g, o + i * 3 + 1, none⟩) hg).trans p1.out
        have r2 := (hb.out.cell (p := ⟨g, o + i * 3 + 2, none⟩) hg).trans p2.out
        by_cases hkq : k < q
        ·have hki : (k : Int) < q := by omega
         obtain ⟨c, hc⟩ := get_at hq.out hkq
         obtain ⟨g0, g1, g2', g3, g4, g5, g6, g7, g8, g9, g10⟩ := CMem.below (hsrc.out k c hc) hb.out hgs
         have ygs : gs < W6.heap.size := by omega
         have q0a := B2.out.cell (o := 0) rfl
         have q1a := B2.out.cell (o := 1) rfl
         have q2a := B2.out.cell (o := 2) rfl
         have yqa := B2.out.lt
         have hIk1 : (I : Int) + (k : Int) < n := by have := hfl.out; omega
         have hIk0 : (0 : Int) ≤ (I : Int) + (k : Int) := by omega
         have hspl : (splC cur I (rc.take k)).length = n := by
          rw [splC_len (by rw [hcl.out, List.length_take, hq.out]; have := hfl.out; omega)]; exact hcl.out
         go_upto_region 18 with fail
         refine wp_region_steady_then (Held W6 0 []) 30 (by kernel_rfl) (by kernel_rfl) (by decide) (by kernel_rfl) (by kernel_rfl) ⟨belt, (by (try simp) <;> omega), (by first | exact trivial | (simp only [Cells]; go_simp))⟩ ?_
         simp only [List.take_succ_cons, List.take_zero]
         repeat (first | (refine' wpSteady_do _ _ _; rotate_left; (focus rfl); (focus (intro w1 hS R hR; have hc := hS.cells; simp only [Cells] at hc; obtain ⟨hco, hfo⟩ := bcell hS.old; go_simp; (try go_bits); first | exact hR _ hS | fail)); simp only [pu]) | (refine wpSteady_pass ?_ ?_; (focus rfl); simp only [pu]))
         refine wpSteady_nil (fun uA hSA => ?_)
         have hcA := hSA.cells; have hbA := hSA.old; have hzA := hSA.size; clear hSA; simp only [Cells] at hcA; obtain ⟨hcoA, hfoA⟩ := bcell hbA
         simp only [List.drop_succ_cons, List.drop_zero, List.drop_nil]
         have hv4 := hoc.out.below hbA (Nat.le_refl _)
         have hbw4 := hb.out.trans (hbA.mono z6)
         obtain ⟨dc, hdc⟩ := get_at hspl (show I + k < n by have := hfl.out; omega)
         have fz := cown_unf hv4
         obtain ⟨m0, m1, m2, m3, m4, m5, m6, m7, m8, m9, m10⟩ := own_cmem hv4 hdc
         have yg4 : g2 < uA.heap.size := by
          have := (own_block_lt hv4 g2 rfl).2
          omega
         have HP := hv4.put hspl hdc c
         rw [splC_take hc (by rw [hcl.out, hq.out]; exact hfl.out)] at HP
         have hbP := putk_below hbw4 hgb (o := (I + k) * 11) (.int .i32 c.rune) (.int .u8 c.col.r) (.int .u8 c.col.g) (.int .u8 c.col.b) (.int .u8 c.col.a) (.int .u8 c.back.r) (.int .u8 c.back.g) (.int .u8 c.back.b) (.int .u8 c.back.a) (.bool c.wide) (.bool c.tail)
         have HB2 := (B2.out.below hbA B2.out.lt).putk gne (o := (I + k) * 11) (.int .i32 c.rune) (.int .u8 c.col.r) (.int .u8 c.col.g) (.int .u8 c.col.b) (.int .u8 c.col.a) (.int .u8 c.back.r) (.int .u8 c.back.g) (.int .u8 c.back.b) (.int .u8 c.back.a) (.bool c.wide) (.bool c.tail)
         have HB4 := (B4.out.below hbA B4.out.lt).putk gne2 (o := (I + k) * 11) (.int .i32 c.rune) (.int .u8 c.col.r) (.int .u8 c.col.g) (.int .u8 c.col.b) (.int .u8 c.col.a) (.int .u8 c.back.r) (.int .u8 c.back.g) (.int .u8 c.back.b) (.int .u8 c.back.a) (.bool c.wide) (.bool c.tail)
         clear hv4 hbw4 hb hoc B2 B4 g0 g1 g2' g3 g4 g5 g6 g7 g8 g9 g10 r0 r1 r2 hdc hcA hcoA hfoA
         clear q0a q1a q2a yqa
         go_upto_region 17 with fail
         generalize (((((((((((uA).setCell ⟨g2, ((I + k) * 11), none⟩ (.int .i32 c.rune)).setCell ⟨g2, ((I + k) * 11) + 1, none⟩ (.int .u8 c.col.r)).setCell ⟨g2, ((I + k) * 11) + 2, none⟩ (.int .u8 c.col.g)).setCell ⟨g2, ((I + k) * 11) + 3, none⟩ (.int .u8 c.col.b)).setCell ⟨g2, ((I + k) * 11) + 4, none⟩ (.int .u8 c.col.a)).setCell ⟨g2, ((I + k) * 11) + 5, none⟩ (.int .u8 c.back.r)).setCell ⟨g2, ((I + k) * 11) + 6, none⟩ (.int .u8 c.back.g)).setCell ⟨g2, ((I + k) * 11) + 7, none⟩ (.int .u8 c.back.b)).setCell ⟨g2, ((I + k) * 11) + 8, none⟩ (.int .u8 c.back.a)).setCell ⟨g2, ((I + k) * 11) + 9, none⟩ (.bool c.wide)).setCell ⟨g2, ((I + k) * 11) + 10, none⟩ (.bool c.tail) = W7 at HP hbP HB2 HB4 ⊢
         clear m0 m1 m2 m3 m4 m5 m6 m7 m8 m9 m10 fz yg4
         replace HP := Lib.hid HP
         replace hbP := Lib.hid hbP
         replace HB2 := Lib.hid HB2
         replace HB4 := Lib.hid HB4
         go_wp2
         exact ⟨⟨k + 1, by omega, by go_num, hbP, HP, HB2, HB4⟩, by simp [intOf]; omega⟩
        ·obtain rfl : q = k := by omega
         have hki : ¬ (q : Int) < q := by omega
         have ho2 := hoc.out
         rw [List.take_of_length_le (by rw [hq.out]; exact Nat.le_refl _)] at ho2
         have hcl2 : (splC cur I rc).length = n := by rw [splC_len (by rw [hcl.out, hq.out]; exact hfl.out)]; exact hcl.out
         replace ho2 := Lib.hid ho2
         replace hcl2 := Lib.hid hcl2
         go_wp2
         exact ⟨⟨i + 1, splC cur I rc, by omega, by go_num, hgo2, hb, ho2, hcl2, B2, B4⟩, by simp [intOf]; omega⟩
      ·obtain rfl : m = i := by omega
       have hii : ¬ (m : Int) < m := by omega
       have hRl : cur = RC := by
        have h := hgo.out
        rw [List.drop_of_length_le (by rw [em.out]; omega)] at h
        exact h
       subst hRl
       have q0a := B2.out.cell (o := 0) rfl
       have q1a := B2.out.cell (o := 1) rfl
       have q2a := B2.out.cell (o := 2) rfl
       have yqa := B2.out.lt
       have k0 := B4.out.cell (o := 0) rfl
       have k1 := B4.out.cell (o := 1) rfl
       have k2 := B4.out.cell (o := 2) rfl
       have kf := B4.out.free
       go_wp2
       clear q0a q1a q2a yqa
       clear k0 k1 k2 kf
       have B4o := B4.out
       have hbo := hb.out
       have ho := hoc.out
       have goX := (own_other (own_other (own_other ho (a := ⟨b2 + 1, 0, none⟩) (fun g hg he => ownsC_ne ho B4o (by decide) (by rw [hg]; exact congrArg some he)) (.int .i64 wd)) (a := ⟨b2 + 1, 1, none⟩) (fun g hg he => ownsC_ne ho B4o (by decide) (by rw [hg]; exact congrArg some he)) (.int .i64 ht)) (a := ⟨b2 + 1, 2, none⟩) (fun g hg he => ownsC_ne ho B4o (by decide) (by rw [hg]; exact congrArg some he)) (.slice sv n cv))
       have HZ := Blk.put3 B4o rfl (.int .i64 wd) (.int .i64 ht) (.slice sv n cv)
       have hbZ : Below w.heap.size w (((W1.setCell ⟨b2 + 1, 0, none⟩ (.int .i64 wd)).setCell ⟨b2 + 1, 1, none⟩ (.int .i64 ht)).setCell ⟨b2 + 1, 2, none⟩ (.slice sv n cv)) := ((hbo.setCell (p := ⟨b2 + 1, 0, none⟩) (by show w.heap.size ≤ b2 + 1; omega) _).setCell (p := ⟨b2 + 1, 1, none⟩) (by show w.heap.size ≤ b2 + 1; omega) _).setCell (p := ⟨b2 + 1, 2, none⟩) (by show w.heap.size ≤ b2 + 1; omega) _
       generalize ((W1.setCell ⟨b2 + 1, 0, none⟩ (.int .i64 wd)).setCell ⟨b2 + 1, 1, none⟩ (.int .i64 ht)).setCell ⟨b2 + 1, 2, none⟩ (.slice sv n cv) = wZ at HZ hbZ goX ⊢
       have jz0 := HZ.cell (o := 0) rfl
       have jz1 := HZ.cell (o := 1) rfl
       have jz2 := HZ.cell (o := 2) rfl
       refine bodyPost_ret (v := .tuple #[.agg #[.int .i64 wd, .int .i64 ht, .slice sv n cv], .int .i64 0]) (by simp [results, Tryz.results31, go_sem, jz0, jz1, jz2]) rfl ⟨hbZ, _, rfl, goX⟩
 ·rw [e0] at C1
  rw [if_neg (by omega)] at hE
  subst hE
  rw [if_neg (by decide)] at hZ1 hZ2 hRC
  subst hZ1 hZ2 hRC
  have k0 := B4.cell (o := 0) rfl
  have k1 := B4.cell (o := 1) rfl
  have k2 := B4.cell (o := 2) rfl
  have kf := B4.free
  go_wp2_with (go_at_call 16; (with_reducible refine C1.out.mono ?_); rintro e w1 ⟨rfl, hb1⟩; obtain ⟨hc1, hf1⟩ := bcell hb1; have z1 := hb1.size; have B4a := B4.below hb1 yB4; have hbF := hbw.trans (hb1.mono hbw.size))
  clear k0 k1 k2 kf
  have HZ := Blk.put3 B4a rfl (.int .i64 0) (.int .i64 0) (.slice none 0 0)
  have hbZ : Below w.heap.size w (((w1.setCell ⟨(b2 + 1), 0, none⟩ (.int .i64 0)).setCell ⟨(b2 + 1), 1, none⟩ (.int .i64 0)).setCell ⟨(b2 + 1), 2, none⟩ (.slice none 0 0)) := ((hbF.setCell (p := ⟨(b2 + 1), 0, none⟩) (by show w.heap.size ≤ (b2 + 1); omega) _).setCell (p := ⟨(b2 + 1), 1, none⟩) (by show w.heap.size ≤ (b2 + 1); omega) _).setCell (p := ⟨(b2 + 1), 2, none⟩) (by show w.heap.size ≤ (b2 + 1); omega) _
  generalize ((w1.setCell ⟨(b2 + 1), 0, none⟩ (.int .i64 0)).setCell ⟨(b2 + 1), 1, none⟩ (.int .i64 0)).setCell ⟨(b2 + 1), 2, none⟩ (.slice none 0 0) = wZ at HZ hbZ ⊢
  have jz0 := HZ.cell (o := 0) rfl
  have jz1 := HZ.cell (o := 1) rfl
  have jz2 := HZ.cell (o := 2) rfl
  refine bodyPost_ret (v := .tuple #[.agg #[.int .i64 0, .int .i64 0, .slice none 0 0], .int .i64 150]) (by simp [results, Tryz.results31, go_sem, jz0, jz1, jz2]) rfl ⟨hbZ, _, rfl, OwnsC.nil _ _⟩
end Go.Proofs.YtffmomgmkpmpkaaGreatDoor
