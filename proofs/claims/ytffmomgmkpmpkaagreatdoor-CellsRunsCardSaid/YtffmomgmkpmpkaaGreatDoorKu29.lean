/-
  Cells: a screen with runs, by the program.
-/
import Derived.Lib.SlicesCompact
import Derived.Test.YtffmomgmkpmpkaaGreatDoorProg
import Derived.Test.YtffmomgmkpmpkaaGreatDoorKu28
namespace Go.Proofs.YtffmomgmkpmpkaaGreatDoor
open Go.RowKit
set_option linter.unusedVariables false
attribute [local go_sem] vwp vUpon_value vUpon_skip vUpon_enter vUpon_row
set_option linter.unusedSimpArgs false
set_option linter.unusedVariables false
theorem cells_flat {B : Nat} {w : World} {s : Option Addr} {n k : Nat} {cs : List Ce} (h : Row B 11 Ce.enc w (.slice s n k) cs) (h0 : 0 < cs.length) :
    ∃ b o, s = some ⟨b, o, none⟩ ∧ b < B ∧ ∀ j u, (cs.flatMap Ce.enc)[j]? = some u → w.cell? ⟨b, o + j, none⟩ = some u := by
  obtain ⟨b, o, cap, e, hb, _, _, hx⟩ := h.open_ h0
  injection e with e _ _
  refine ⟨b, o, e, hb, fun j u hj => ?_⟩
  rw [flat_get Ce.enc_len (by decide)] at hj
  cases hc : cs[j / 11]? with
  | none => rw [hc] at hj; cases hj
  | some c =>
    rw [hc] at hj
    have := hx (j / 11) c hc (j % 11) u hj
    rw [show o + j / 11 * 11 + j % 11 = o + j by omega] at this
    exact this
set_option maxHeartbeats 16000000 in
set_option maxRecDepth 100000 in
theorem cput_any (wd ht : Int) (cs : List Ce) (v : Value) (l : List Rn) (vl : Value) (w : World) (h1 : I64 wd) (h2 : I64 ht) (hl : Row w.heap.size 11 Ce.enc w v cs) (hr : RunsAt w.heap.size w vl l) (hwf : ∀ r ∈ l, RnWf r) :
  Calls Tryz.prog 30 #[.agg #[.int .i64 (wd), .int .i64 (ht), v], vl] w (OutS w.heap.size (putE wd ht cs l) (putZ wd wd ht cs l) (putZ ht wd ht cs l) (putC wd ht cs l) w) := by
 have C1 := fun w1 (hb : Below w.heap.size w w1) => ccheck_any wd ht cs v w1 h1 h2 ((hl.below hb).mono hb.size)
 obtain ⟨s0, cap, rfl, hmax⟩ := hl.shape
 obtain ⟨s1, cap1, rfl, hmax1⟩ := hr.shape
 obtain ⟨E, hE⟩ : ∃ E, putE wd ht cs l = E := ⟨_, rfl⟩
 obtain ⟨Z1, hZ1⟩ : ∃ Z, putZ wd wd ht cs l = Z := ⟨_, rfl⟩
 obtain ⟨Z2, hZ2⟩ : ∃ Z, putZ ht wd ht cs l = Z := ⟨_, rfl⟩
 obtain ⟨RC, hRC⟩ : ∃ R, putC wd ht cs l = R := ⟨_, rfl⟩
 rw [hE, hZ1, hZ2, hRC]
 unfold putC at hRC
 unfold putZ at hZ1 hZ2
 rw [hE] at hZ1 hZ2 hRC
 unfold putE at hE
 have hl0 := Lib.hid hl
 have hop := fun h0 => hr.open_ h0
 obtain ⟨n, en⟩ : ∃ n, cs.length = n := ⟨_, rfl⟩
 obtain ⟨m, em⟩ : ∃ n, l.length = n := ⟨_, rfl⟩
 rw [en] at hl0 C1 hmax ⊢
 rw [em] at hop hmax1 hE ⊢
 unfold maxLen at hmax hmax1
 clear hl hr
 replace em := Lib.hid em
 replace hop := Lib.hid hop
 replace hwf := Lib.hid hwf
 go_enter Tryz.func30, Tryz.ntmps30
 go_upto_region 1 with fail
 obtain ⟨W, hW⟩ : ∃ W, (w.alloc (.cells #[.int .i64 wd, .int .i64 ht, .slice s0 n cap] 26)).alloc (.cells #[.int .i64 0, .int .i64 0, .slice none 0 0] 26) = W := ⟨_, rfl⟩
 obtain ⟨b2, hb2⟩ : ∃ b, w.heap.size = b := ⟨_, rfl⟩
 have B2 : Blk W b2 [.int .i64 wd, .int .i64 ht, .slice s0 n cap] 26 := by rw [← hW]; exact (Blk.new' hb2.symm).alloc _
 have B4 : Blk W (b2 + 1) [.int .i64 0, .int .i64 0, .slice none 0 0] 26 := by rw [← hW]; exact Blk.new' (by simp; omega)
 have hbw : Below w.heap.size w W := by rw [← hW]; exact belt
 rw [hW, hb2]
 clear hW
 have hb2B : w.heap.size ≤ b2 := by omega
 replace hb2 := Lib.hid hb2
 have yB2 := B2.lt
 have yB4 := B4.lt
 have q0a := B2.cell (o := 0) rfl
 have q1a := B2.cell (o := 1) rfl
 have q2a := B2.cell (o := 2) rfl
 have yqa := B2.lt
 replace C1 := Lib.hid (C1 W hbw)
 rcases chkS_cases wd ht cs with e0 | e0
 ·rw [e0] at C1
  rw [if_pos e0] at hE
  obtain ⟨hfit, hlen, hall⟩ := chkS_zero e0
  obtain ⟨z0, z1, z2, z3, z4⟩ := fitsS_true.1 hfit
  have hn2 : n ≤ 262144 := by
   have h : (n : Int) ≤ 262144 := by rw [← en, hlen]; exact z4
   omega
  go_upto_region 4 with (go_at_call 15; (with_reducible refine C1.out.mono ?_); rintro e w1 ⟨rfl, hb1⟩)
  replace B2 := B2.below hb1 yB2
  replace B4 := B4.below hb1 yB4
  replace hbw := hbw.trans (hb1.mono hbw.size)
  clear q0a q1a q2a yqa
  clear C1 hb1 yB2 yB4
  have yB2 := B2.lt
  have yB4 := B4.lt
  by_cases hbig : 262144 < m
  ·rw [if_pos hbig] at hE
   subst hE
   have hbi : (262144 : Int) < m := by omega
   rw [if_neg (by decide)] at hZ1 hZ2 hRC
   subst hZ1 hZ2 hRC
   have k0 := B4.cell (o := 0) rfl
   have k1 := B4.cell (o := 1) rfl
   have k2 := B4.cell (o := 2) rfl
   have kf := B4.free
   go_wp2
   clear k0 k1 k2 kf
   have HZ := Blk.put3 B4 rfl (.int .i64 0) (.int .i64 0) (.slice none 0 0)
   have hbZ : Below w.heap.size w (((w1.setCell ⟨(b2 + 1), 0, none⟩ (.int .i64 0)).setCell ⟨(b2 + 1), 1, none⟩ (.int .i64 0)).setCell ⟨(b2 + 1), 2, none⟩ (.slice none 0 0)) := ((hbw.setCell (p := ⟨(b2 + 1), 0, none⟩) (by show w.heap.size ≤ (b2 + 1); omega) _).setCell (p := ⟨(b2 + 1), 1, none⟩) (by show w.heap.size ≤ (b2 + 1); omega) _).setCell (p := ⟨(b2 + 1), 2, none⟩) (by show w.heap.size ≤ (b2 + 1); omega) _
   generalize ((w1.setCell ⟨(b2 + 1), 0, none⟩ (.int .i64 0)).setCell ⟨(b2 + 1), 1, none⟩ (.int .i64 0)).setCell ⟨(b2 + 1), 2, none⟩ (.slice none 0 0) = wZ at HZ hbZ ⊢
   have jz0 := HZ.cell (o := 0) rfl
   have jz1 := HZ.cell (o := 1) rfl
   have jz2 := HZ.cell (o := 2) rfl
   refine bodyPost_ret (v := .tuple #[.agg #[.int .i64 0, .int .i64 0, .slice none 0 0], .int .i64 4]) (by simp [results, Tryz.results30, go_sem, jz0, jz1, jz2]) rfl ⟨hbZ, _, rfl, OwnsC.nil _ _⟩
  ·rw [if_neg hbig] at hE
   have hbi : ¬ (262144 : Int) < m := by omega
   obtain ⟨R, hR⟩ : ∃ R, l.all (fitR wd ht) = R := ⟨_, rfl⟩
   rw [hR] at hE
   have hgo := Lib.hid (show (l.drop 0).all (fitR wd ht) = R from hR)
   have hRa := Lib.hid hR
   replace en := Lib.hid en
   replace hlen := Lib.hid hlen
   replace B2 := Lib.hid B2
   replace B4 := Lib.hid B4
   replace hbw := Lib.hid hbw
   replace hRC := Lib.hid hRC
   replace hZ1 := Lib.hid hZ1
   replace hZ2 := Lib.hid hZ2
   clear hR hall e0 yB2 yB4
   go_upto_region 7 with fail
   go_loopw [23] (fun iv wr => ∃ i : Nat, i ≤ m ∧ iv = .int .i64 i ∧ Hid ((l.drop i).all (fitR wd ht) = R) ∧ Hid (Below w.heap.size w wr) ∧ Hid (Blk wr b2 [.int .i64 wd, .int .i64 ht, .slice s0 n cap] 26) ∧ Hid (Blk wr (b2 + 1) [.int .i64 0, .int .i64 0, .slice none 0 0] 26)) (fun iv _ => m - (intOf iv).toNat)
   case atStart => exact ⟨0, Nat.zero_le _, rfl, hgo, hbw, B2, B4⟩
   case round =>
    clear hgo hbw B2 B4
    obtain ⟨i, hi, rfl, hgo, hb, B2, B4⟩ := hrel
    obtain ⟨W1, rfl⟩ : ∃ W1, W1 = wr := ⟨_, rfl⟩
    have zb := hb.out.size
    by_cases hin : i < m
    ·have hii : (i : Int) < m := by omega
     obtain ⟨g, o, cap', ea, hg, hcp, hcm, hel⟩ := hop.out (by omega)
     simp only [Value.slice.injEq] at ea
     obtain ⟨rfl, _, rfl⟩ := ea
     obtain ⟨r, hr⟩ := get_at em.out hin
     obtain ⟨s, k, p0, p1, p2, hrow⟩ := hel i r hr
     have hgo2 := hgo.out
     rw [allF_step hr] at hgo2
     have hw0 := hwf.out _ (List.mem_of_getElem? hr)
     obtain ⟨x, y, rc, rfl⟩ : ∃ x y c, r = ⟨x, y, c⟩ := ⟨_, _, _, rfl⟩
     dsimp only at p0 p1 p2 hrow
     obtain ⟨q, hq⟩ : ∃ q, rc.length = q := ⟨_, rfl⟩
     obtain ⟨hx64, hy64, _⟩ := hw0
     dsimp only at hx64 hy64
     unfold I64 at hx64 hy64
     have yg : g < W1.heap.size := by omega
     replace p0 := (hb.out.cell (p := ⟨g, o + i * 3, none⟩) hg).trans p0
     replace p1 := (hb.out.cell (p := ⟨g, o + i * 3 + 1, none⟩) hg).trans p1
     replace p2 := (hb.out.cell (p := ⟨g, o + i * 3 + 2, none⟩) hg).trans p2
     rw [hq] at p2 hrow
     clear hr hgo hel
     replace hrow := Lib.hid hrow
     go_upto_region 9 with fail
     obtain ⟨W2, hW2⟩ : ∃ W2, W1.alloc (.cells #[.int .i64 x, .int .i64 y, .slice s q k] 67) = W2 := ⟨_, rfl⟩
     obtain ⟨f, hf⟩ : ∃ f, W1.heap.size = f := ⟨_, rfl⟩
     have B8 : Blk W2 f [.int .i64 x, .int .i64 y, .slice s q k] 67 := by rw [← hW2]; exact Blk.new' hf.symm
     have hb2' : Below w.heap.size w W2 := by rw [← hW2]; exact hb.out.alloc zb _
     replace B2 := Lib.hid (show Blk W2 b2 _ _ by rw [← hW2]; exact B2.out.alloc _)
     replace B4 := Lib.hid (show Blk W2 (b2 + 1) _ _ by rw [← hW2]; exact B4.out.alloc _)
     rw [hW2, hf]
     clear hW2 p0 p1 p2 hb zb
     have zb := hb2'.size
     replace hf := Lib.hid hf
     have CI := cindex_any wd ht x y (.slice s0 n cap) W2 hfit
     have AL := fun u (hu : Below W2.heap.size W2 u) => (show Calls Tryz.prog 51 #[.slice s q k] u _ from call_any rc _ u (by have h := (hrow.out.below (hb2'.trans (hu.mono zb))).mono (B' := u.heap.size) (by have := hu.size; omega); rw [← hq] at h ⊢; exact h))
     obtain ⟨al, hal⟩ : ∃ q, rc.all mayC = q := ⟨_, rfl⟩
     rw [hal] at AL
     have hok : (plcS wd ht x y && (!(q == 0) && (decide ((q : Int) ≤ wd - x) && al)) && (l.drop (i + 1)).all (fitR wd ht)) = R := by rw [← hgo2]; unfold fitR; dsimp only; rw [hq, hal]
     clear hgo2
     replace hq := Lib.hid hq
     replace AL := Lib.hid AL
     have q0a := B2.out.cell (o := 0) rfl
     have q1a := B2.out.cell (o := 1) rfl
     have q2a := B2.out.cell (o := 2) rfl
     have yqa := B2.out.lt
     have q0b := B8.cell (o := 0) rfl
     have q1b := B8.cell (o := 1) rfl
     have q2b := B8.cell (o := 2) rfl
     have yqb := B8.lt
     have yB4 := B4.out.lt
     cases hp : plcS wd ht x y
     ·have hi1 : idxS wd ht x y = -1 := by unfold idxS; rw [hp]; rfl
      rw [hi1] at CI
      rw [hp] at hok
      replace CI := Lib.hid CI
      have hRf : R = false := by rw [← hok]; simp [*]
      subst hRf
      rw [if_neg (by decide)] at hE
      subst hE
      have hZ1 := hZ1.out
      have hZ2 := hZ2.out
      have hRC := hRC.out
      rw [if_neg (by decide)] at hZ1 hZ2 hRC
      subst hZ1 hZ2 hRC
      clear hok
      have k0 := B4.out.cell (o := 0) rfl
      have k1 := B4.out.cell (o := 1) rfl
      have k2 := B4.out.cell (o := 2) rfl
      have kf := B4.out.free
      go_wp2_with (go_at_call 58; (with_reducible refine CI.out.mono ?_); rintro e w3 ⟨rfl, hb3⟩; obtain ⟨hc3, hf3⟩ := bcell hb3; have z3 := hb3.size; have hbF := hb2'.trans (hb3.mono zb); have B4a := B4.out.below hb3 yB4; have yB4x := B4a.lt)
      clear k0 k1 k2 kf
      have HZ := Blk.put3 B4a rfl (.int .i64 0) (.int .i64 0) (.slice none 0 0)
      have hbZ : Below w.heap.size w (((w3.setCell ⟨(b2 + 1), 0, none⟩ (.int .i64 0)).setCell ⟨(b2 + 1), 1, none⟩ (.int .i64 0)).setCell ⟨(b2 + 1), 2, none⟩ (.slice none 0 0)) := ((hbF.setCell (p := ⟨(b2 + 1), 0, none⟩) (by show w.heap.size ≤ (b2 + 1); omega) _).setCell (p := ⟨(b2 + 1), 1, none⟩) (by show w.heap.size ≤ (b2 + 1); omega) _).setCell (p := ⟨(b2 + 1), 2, none⟩) (by show w.heap.size ≤ (b2 + 1); omega) _
      generalize ((w3.setCell ⟨(b2 + 1), 0, none⟩ (.int .i64 0)).setCell ⟨(b2 + 1), 1, none⟩ (.int .i64 0)).setCell ⟨(b2 + 1), 2, none⟩ (.slice none 0 0) = wZ at HZ hbZ ⊢
      have jz0 := HZ.cell (o := 0) rfl
      have jz1 := HZ.cell (o := 1) rfl
      have jz2 := HZ.cell (o := 2) rfl
      refine bodyPost_ret (v := .tuple #[.agg #[.int .i64 0, .int .i64 0, .slice none 0 0], .int .i64 150]) (by simp [results, Tryz.results30, go_sem, jz0, jz1, jz2]) rfl ⟨hbZ, _, rfl, OwnsC.nil _ _⟩
     ·obtain ⟨p1, p2, p3, p4⟩ := plcS_true.1 hp
      obtain ⟨e1, e2⟩ := row_end z0 p2 p4
      obtain ⟨I, hI⟩ : ∃ I : Nat, y * wd + x = I := ⟨(y * wd + x).toNat, by omega⟩
      have hi1 : idxS wd ht x y = I := by unfold idxS; rw [hp, ← hI]; rfl
      have hI0 : ¬ (I : Int) < 0 := by omega
      rw [hi1] at CI
      rw [hp] at hok
      replace CI := Lib.hid CI
      clear e1 e2 hI hi1 hp
      by_cases q0 : q = 0
      ·subst q0
       have hRf : R = false := by rw [← hok]; simp [*]
       subst hRf
       rw [if_neg (by decide)] at hE
       subst hE
       have hZ1 := hZ1.out
       have hZ2 := hZ2.out
       have hRC := hRC.out
       rw [if_neg (by decide)] at hZ1 hZ2 hRC
       subst hZ1 hZ2 hRC
       clear hok
       have k0 := B4.out.cell (o := 0) rfl
       have k1 := B4.out.cell (o := 1) rfl
       have k2 := B4.out.cell (o := 2) rfl
       have kf := B4.out.free
       go_wp2_with (go_at_call 58; (with_reducible refine CI.out.mono ?_); rintro e w3 ⟨rfl, hb3⟩; obtain ⟨hc3, hf3⟩ := bcell hb3; have z3 := hb3.size; have hbF := hb2'.trans (hb3.mono zb); have B4a := B4.out.below hb3 yB4; have yB4x := B4a.lt)
       clear k0 k1 k2 kf
       have HZ := Blk.put3 B4a rfl (.int .i64 0) (.int .i64 0) (.slice none 0 0)
       have hbZ : Below w.heap.size w (((w3.setCell ⟨(b2 + 1), 0, none⟩ (.int .i64 0)).setCell ⟨(b2 + 1), 1, none⟩ (.int .i64 0)).setCell ⟨(b2 + 1), 2, none⟩ (.slice none 0 0)) := ((hbF.setCell (p := ⟨(b2 + 1), 0, none⟩) (by show w.heap.size ≤ (b2 + 1); omega) _).setCell (p := ⟨(b2 + 1), 1, none⟩) (by show w.heap.size ≤ (b2 + 1); omega) _).setCell (p := ⟨(b2 + 1), 2, none⟩) (by show w.heap.size ≤ (b2 + 1); omega) _
       generalize ((w3.setCell ⟨(b2 + 1), 0, none⟩ (.int .i64 0)).setCell ⟨(b2 + 1), 1, none⟩ (.int .i64 0)).setCell ⟨(b2 + 1), 2, none⟩ (.slice none 0 0) = wZ at HZ hbZ ⊢
       have jz0 := HZ.cell (o := 0) rfl
       have jz1 := HZ.cell (o := 1) rfl
       have jz2 := HZ.cell (o := 2) rfl
       refine bodyPost_ret (v := .tuple #[.agg #[.int .i64 0, .int .i64 0, .slice none 0 0], .int .i64 150]) (by simp [results, Tryz.results30, go_sem, jz0, jz1, jz2]) rfl ⟨hbZ, _, rfl, OwnsC.nil _ _⟩
      ·have q0i : ¬ (q : Int) = 0 := by omega
       have q0q : ((q : Int) == 0) = false := by simpa using q0i
       have q0n : (q == 0) = false := by simpa using q0
       rw [q0n] at hok
       by_cases hrm : (q : Int) ≤ wd - x
       ·have hrm2 : ¬ wd - x < q := by omega
        cases al
        ·have hRf : R = false := by rw [← hok]; simp [*]
         subst hRf
         rw [if_neg (by decide)] at hE
         subst hE
         have hZ1 := hZ1.out
         have hZ2 := hZ2.out
         have hRC := hRC.out
         rw [if_neg (by decide)] at hZ1 hZ2 hRC
         subst hZ1 hZ2 hRC
         clear hok
         have k0 := B4.out.cell (o := 0) rfl
         have k1 := B4.out.cell (o := 1) rfl
         have k2 := B4.out.cell (o := 2) rfl
         have kf := B4.out.free
         go_wp2_with (first | (go_at_call 58; (with_reducible refine CI.out.mono ?_); rintro e w3 ⟨rfl, hb3⟩; obtain ⟨hc3, hf3⟩ := bcell hb3; have z3 := hb3.size; have hbF := hb2'.trans (hb3.mono zb); have B4a := B4.out.below hb3 yB4; have yB4x := B4a.lt) | (go_at_call 51; (with_reducible refine (AL.out _ hb3).mono ?_); rintro e w4 ⟨rfl, hb4⟩; obtain ⟨hc4, hf4⟩ := bcell hb4; have z4 := hb4.size; have hbG := hbF.trans (hb4.mono (by have := hbF.size; omega)); have B4b := B4a.below hb4 B4a.lt; have yB4y := B4b.lt))
         clear k0 k1 k2 kf
         have HZ := Blk.put3 B4b rfl (.int .i64 0) (.int .i64 0) (.slice none 0 0)
         have hbZ : Below w.heap.size w (((w4.setCell ⟨(b2 + 1), 0, none⟩ (.int .i64 0)).setCell ⟨(b2 + 1), 1, none⟩ (.int .i64 0)).setCell ⟨(b2 + 1), 2, none⟩ (.slice none 0 0)) := ((hbG.setCell (p := ⟨(b2 + 1), 0, none⟩) (by show w.heap.size ≤ (b2 + 1); omega) _).setCell (p := ⟨(b2 + 1), 1, none⟩) (by show w.heap.size ≤ (b2 + 1); omega) _).setCell (p := ⟨(b2 + 1), 2, none⟩) (by show w.heap.size ≤ (b2 + 1); omega) _
         generalize ((w4.setCell ⟨(b2 + 1), 0, none⟩ (.int .i64 0)).setCell ⟨(b2 + 1), 1, none⟩ (.int .i64 0)).setCell ⟨(b2 + 1), 2, none⟩ (.slice none 0 0) = wZ at HZ hbZ ⊢
         have jz0 := HZ.cell (o := 0) rfl
         have jz1 := HZ.cell (o := 1) rfl
         have jz2 := HZ.cell (o := 2) rfl
         refine bodyPost_ret (v := .tuple #[.agg #[.int .i64 0, .int .i64 0, .slice none 0 0], .int .i64 150]) (by simp [results, Tryz.results30, go_sem, jz0, jz1, jz2]) rfl ⟨hbZ, _, rfl, OwnsC.nil _ _⟩
        ·have hgo2 := Lib.hid (show (l.drop (i + 1)).all (fitR wd ht) = R by rw [← hok]; simp [hrm])
         clear hok
         go_wp2_with (first | (go_at_call 58; (with_reducible refine CI.out.mono ?_); rintro e w3 ⟨rfl, hb3⟩; obtain ⟨hc3, hf3⟩ := bcell hb3; have z3 := hb3.size; have hbF := hb2'.trans (hb3.mono zb); have B4a := B4.out.below hb3 yB4; have yB4x := B4a.lt) | (go_at_call 51; (with_reducible refine (AL.out _ hb3).mono ?_); rintro e w4 ⟨rfl, hb4⟩; obtain ⟨hc4, hf4⟩ := bcell hb4; have z4 := hb4.size; have hbG := hbF.trans (hb4.mono (by have := hbF.size; omega)); have B4b := B4a.below hb4 B4a.lt; have yB4y := B4b.lt))
         have B2b := (B2.out.below hb3 B2.out.lt).below hb4 (B2.out.below hb3 B2.out.lt).lt
         exact ⟨⟨i + 1, by omega, by go_num, hgo2, Lib.hid hbG, Lib.hid B2b, Lib.hid B4b⟩, by simp [intOf]; omega⟩
       ·have hrm2 : wd - x < q := by omega
        have hrm3 : decide ((q : Int) ≤ wd - x) = false := decide_eq_false hrm
        rw [hrm3] at hok
        have hRf : R = false := by rw [← hok]; simp [*]
        subst hRf
        rw [if_neg (by decide)] at hE
        subst hE
        have hZ1 := hZ1.out
        have hZ2 := hZ2.out
        have hRC := hRC.out
        rw [if_neg (by decide)] at hZ1 hZ2 hRC
        subst hZ1 hZ2 hRC
        clear hok
        have k0 := B4.out.cell (o := 0) rfl
        have k1 := B4.out.cell (o := 1) rfl
        have k2 := B4.out.cell (o := 2) rfl
        have kf := B4.out.free
        go_wp2_with (go_at_call 58; (with_reducible refine CI.out.mono ?_); rintro e w3 ⟨rfl, hb3⟩; obtain ⟨hc3, hf3⟩ := bcell hb3; have z3 := hb3.size; have hbF := hb2'.trans (hb3.mono zb); have B4a := B4.out.below hb3 yB4; have yB4x := B4a.lt)
        clear k0 k1 k2 kf
        have HZ := Blk.put3 B4a rfl (.int .i64 0) (.int .i64 0) (.slice none 0 0)
        have hbZ : Below w.heap.size w (((w3.setCell ⟨(b2 + 1), 0, none⟩ (.int .i64 0)).setCell ⟨(b2 + 1), 1, none⟩ (.int .i64 0)).setCell ⟨(b2 + 1), 2, none⟩ (.slice none 0 0)) := ((hbF.setCell (p := ⟨(b2 + 1), 0, none⟩) (by show w.heap.size ≤ (b2 + 1); omega) _).setCell (p := ⟨(b2 + 1), 1, none⟩) (by show w.heap.size ≤ (b2 + 1); omega) _).setCell (p := ⟨(b2 + 1), 2, none⟩) (by show w.heap.size ≤ (b2 + 1); omega) _
        generalize ((w3.setCell ⟨(b2 + 1), 0, none⟩ (.int .i64 0)).setCell ⟨(b2 + 1), 1, none⟩ (.int .i64 0)).setCell ⟨(b2 + 1), 2, none⟩ (.slice none 0 0) = wZ at HZ hbZ ⊢
        have jz0 := HZ.cell (o := 0) rfl
        have jz1 := HZ.cell (o := 1) rfl
        have jz2 := HZ.cell (o := 2) rfl
        refine bodyPost_ret (v := .tuple #[.agg #[.int .i64 0, .int .i64 0, .slice none 0 0], .int .i64 150]) (by simp [results, Tryz.results30, go_sem, jz0, jz1, jz2]) rfl ⟨hbZ, _, rfl, OwnsC.nil _ _⟩
    ·obtain rfl : m = i := by omega
     have hii : ¬ (m : Int) < m := by omega
     have hRt : R = true := by
      have h := hgo.out
      rw [List.drop_of_length_le (by rw [em.out]; omega)] at h
      exact h.symm
     subst hRt
     rw [if_pos rfl] at hE
     subst hE
     have hZ1 := hZ1.out
     have hZ2 := hZ2.out
     have hRC := hRC.out
     rw [if_pos rfl] at hZ1 hZ2 hRC
     subst hZ1 hZ2
     replace hRC := Lib.hid hRC
     have CL := Lib.hid (cclone_any cs (.slice s0 n cap) W1 (by have h := (hl0.out.below hb.out).mono zb; rw [← en.out] at h ⊢; exact h) (by rw [en.out]; omega))
     have q0a := B2.out.cell (o := 0) rfl
     have q1a := B2.out.cell (o := 1) rfl
     have q2a := B2.out.cell (o := 2) rfl
     have yqa := B2.out.lt
     have yB2 := B2.out.lt
     have yB4 := B4.out.lt
     have B2o := B2.out
     have B4o := B4.out
     go_upto_region 13 with (go_at_call 41; (with_reducible refine CL.out.mono ?_); rintro e w3 ⟨v3, rfl, hoc, hb3⟩; obtain ⟨sv, cv, hv3⟩ := own_slice hoc; rw [en.out] at hv3; subst hv3; replace B2o := B2o.below hb3 yB2; replace B4o := B4o.below hb3 yB4; have k2 := B2o.cell (o := 2) rfl; have kf := B2o.free)
     have G2 := B2o.set 2 (.slice sv n cv)
     have G4 := B4o.set_ne (a := ⟨b2, 2, none⟩) (by show b2 + 1 ≠ b2; omega) (.slice sv n cv)
     have zz3 := hb3.size
     have hoc2 : OwnsC w.heap.size w3 (.slice sv n cv) cs := own_less hoc (by omega)
     have goc : OwnsC w.heap.size _ (.slice sv n cv) cs := own_other hoc2 (a := ⟨b2, 2, none⟩) (fun g hg => by have := (own_block_lt hoc g hg).1; show g ≠ b2; omega) (.slice sv n cv)
     have hbX := (hb.out.trans (hb3.mono zb)).setCell (p := ⟨b2, 2, none⟩) hb2B (.slice sv n cv)
     clear hoc hoc2 hb3 B2o B4o k2 kf CL hb B2 B4 yB2 yB4
     clear q0a q1a q2a yqa
     generalize w3.setCell ⟨b2, 2, none⟩ (.slice sv n cv) = w4 at G2 G4 goc hbX ⊢
     replace G2 := Lib.hid G2
     replace G4 := Lib.hid G4
     replace goc := Lib.hid goc
     replace hbX := Lib.hid hbX
     have hgo3 := Lib.hid (show putGo wd cs (l.drop 0) = RC from hRC.out)
     clear hgo hRC zz3
     go_upto_region 14 with fail
     go_loopw [65] (fun iv wr => ∃ (i : Nat) (cur : List Ce), i ≤ m ∧ iv = .int .i64 i ∧ Hid (putGo wd cur (l.drop i) = RC) ∧ Hid (Below w.heap.size w wr) ∧ Hid (OwnsC w.heap.size wr (.slice sv n cv) cur) ∧ Hid (cur.length = n) ∧ Hid (Blk wr b2 [.int .i64 wd, .int .i64 ht, .slice sv n cv] 26) ∧ Hid (Blk wr (b2 + 1) [.int .i64 0, .int .i64 0, .slice none 0 0] 26)) (fun iv _ => m - (intOf iv).toNat)
     case atStart => exact ⟨0, cs, Nat.zero_le _, rfl, hgo3, hbX, goc, en, G2, G4⟩
     case round =>
      clear hgo3 hbX goc G2 G4
      obtain ⟨i, cur, hi, rfl, hgo, hb, hoc, hcl, B2, B4⟩ := hrel
      obtain ⟨W1, rfl⟩ : ∃ W1, W1 = wr := ⟨_, rfl⟩
      have zb := hb.out.size
      by_cases hin : i < m
      ·have hii : (i : Int) < m := by omega
       obtain ⟨g, o, cap', ea, hg, hcp, hcm, hel⟩ := hop.out (by omega)
       simp only [Value.slice.injEq] at ea
       obtain ⟨rfl, _, rfl⟩ := ea
       obtain ⟨r, hr⟩ := get_at em.out hin
       obtain ⟨s, k, p0, p1, p2, hrow⟩ := hel i r hr
       have hgo2 := hgo.out
       rw [putGo_step hr] at hgo2
       have hft := List.all_eq_true.1 hRa.out r (List.mem_of_getElem? hr)
       have hw0 := hwf.out _ (List.mem_of_getElem? hr)
       have hfl := fit_len hfit (by rw [hcl.out, ← en.out]; exact hlen.out) hft
       obtain ⟨x, y, rc, rfl⟩ : ∃ x y c, r = ⟨x, y, c⟩ := ⟨_, _, _, rfl⟩
       dsimp only at p0 p1 p2 hrow hgo2 hfl
       obtain ⟨q, hq⟩ : ∃ q, rc.length = q := ⟨_, rfl⟩
       obtain ⟨f1, f2, f3, f4⟩ := fitR_true.1 hft
       dsimp only at f1 f2 f3 f4
       obtain ⟨c1, c2, c3, c4⟩ := plcS_true.1 f1
       obtain ⟨e1, e2⟩ := row_end z0 c2 c4
       obtain ⟨I, hI⟩ : ∃ I : Nat, y * wd + x = I := ⟨(y * wd + x).toNat, by omega⟩
       have hi1 : idxS wd ht x y = I := by unfold idxS; rw [f1, ← hI]; rfl
       rw [hI, Int.toNat_natCast] at hgo2 hfl
       rw [hcl.out] at hfl
       have yg : g < W1.heap.size := by omega
       replace p0 := (hb.out.cell (p := ⟨g, o + i * 3, none⟩) hg).trans p0
       replace p1 := (hb.out.cell (p := ⟨g, o + i * 3 + 1, none⟩) hg).trans p1
       replace p2 := (hb.out.cell (p := ⟨g, o + i * 3 + 2, none⟩) hg).trans p2
       rw [hq] at p2 hrow hfl f2 f3
       obtain ⟨gs, os, rfl, hgs, hsrc⟩ := cells_flat hrow (by omega)
       replace hgo2 := Lib.hid hgo2
       replace hsrc := Lib.hid hsrc
       clear hr hgo hel hrow e1 e2 hft f4
       go_upto_region 16 with fail
       obtain ⟨W2, hW2⟩ : ∃ W2, W1.alloc (.cells #[.int .i64 x, .int .i64 y, .slice (some ⟨gs, os, none⟩) q k] 67) = W2 := ⟨_, rfl⟩
       obtain ⟨f, hf⟩ : ∃ f, W1.heap.size = f := ⟨_, rfl⟩
       have B8 : Blk W2 f [.int .i64 x, .int .i64 y, .slice (some ⟨gs, os, none⟩) q k] 67 := by rw [← hW2]; exact Blk.new' hf.symm
       have hb2' : Below w.heap.size w W2 := by rw [← hW2]; exact hb.out.alloc zb _
       replace B2 := Lib.hid (show Blk W2 b2 _ _ by rw [← hW2]; exact B2.out.alloc _)
       replace B4 := Lib.hid (show Blk W2 (b2 + 1) _ _ by rw [← hW2]; exact B4.out.alloc _)
       have hoc2 : OwnsC w.heap.size W2 (.slice sv n cv) cur := by rw [← hW2]; exact hoc.out.alloc _
       rw [hW2, hf]
       clear hW2 p0 p1 p2 hb zb hoc
       have zb := hb2'.size
       replace hf := Lib.hid hf
       have CI := cindex_any wd ht x y (.slice sv n cv) W2 hfit
       obtain ⟨g2, cap2, curA, hve, hgb, hgh, hcc, hcm2, hcs, hct⟩ := hoc2.open_ (by rw [hcl.out]; omega)
       rw [hcl.out] at hve hcc
       simp only [Value.slice.injEq] at hve
       obtain ⟨rfl, _, rfl⟩ := hve
       have CIX := fun u (hu : Below W2.heap.size W2 u) => (show Calls Tryz.prog 58 #[.agg #[.int .i64 (wd), .int .i64 (ht), .slice (some ⟨g2, 0, none⟩) n cv], .agg #[.int .i64 (x), .int .i64 (y)]] u (fun e w' => e = .returned (.int .i64 I) ∧ Below u.heap.size u w') from by have h := cindex_any wd ht x y (.slice (some ⟨g2, 0, none⟩) n cv) u hfit; rw [hi1] at h; exact h)
       replace CIX := Lib.hid CIX
       have yg2 := (Array.getElem?_eq_some_iff.1 hgh).1
       have hIi : (I : Int) ≤ n := by omega
       have hIc : ¬ cv = I := by omega
       unfold maxLen at hcm2
       clear CI hi1 hI
       replace hq := Lib.hid hq
       have q0a := B2.out.cell (o := 0) rfl
       have q1a := B2.out.cell (o := 1) rfl
       have q2a := B2.out.cell (o := 2) rfl
       have yqa := B2.out.lt
       have q0b := B8.cell (o := 0) rfl
       have q1b := B8.cell (o := 1) rfl
       have q2b := B8.cell (o := 2) rfl
       have yqb := B8.lt
       refine wp_region_steady_then (Held W2 0 []) 9 (by kernel_rfl) (by kernel_rfl) (by decide) (by kernel_rfl) (by kernel_rfl) ⟨belt, (by (try simp) <;> omega), (by first | exact trivial | (simp only [Cells]; go_simp))⟩ ?_
       simp only [List.take_succ_cons, List.take_zero]
       repeat (first | (refine' wpSteady_do _ _ _; rotate_left; (focus rfl); (focus (intro w1 hS R hR; have hc := hS.cells; simp only [Cells] at hc; obtain ⟨hco, hfo⟩ := bcell hS.old; go_simp; (try go_bits); first | exact hR _ hS | (go_at_call 58; (with_reducible refine (CIX.out _ hS.old).mono ?_); rintro e w2 ⟨rfl, hb2⟩; exact ⟨_, rfl, hR _ (hS.below hb2)⟩))); simp only [pu]) | (refine wpSteady_pass ?_ ?_; (focus rfl); simp only [pu]))
       refine wpSteady_nil (fun uA hSA => ?_)
       have hcA := hSA.cells; have hbA := hSA.old; have hzA := hSA.size; clear hSA; simp only [Cells] at hcA; obtain ⟨hcoA, hfoA⟩ := bcell hbA
       simp only [List.drop_succ_cons, List.drop_zero, List.drop_nil]
       have hgA := (hbA.block g2 yg2).trans hgh
       have hr := run_copy_rows (P := Tryz.prog) uA 24 24 3 52 11 g2 (I * 11) (n - I) (cv - I) ⟨gs, os, none⟩ q k curA 52 (rc.flatMap Ce.enc) Tryz.underlying24 sizeCe2 hgA
        (by rw [flat_len Ce.enc_len, hq.out, show Nat.min q (n - I) = q from Nat.min_eq_left (by omega)]) (fun j u h => by
         rw [addr_add]
         have h1 := hsrc.out j u h
         exact ((hb2'.trans (hbA.mono zb)).cell (p := ⟨gs, os + j, none⟩) hgs).trans h1) (by rw [flat_len Ce.enc_len, hq.out]; omega) (flat_one2 Ce.enc_one)
       rw [show Nat.min q (n - I) = q from Nat.min_eq_left (by omega)] at hr
       have OC := OwnsC.splice (p := rc) (i := I) (cs := cur) hgb hgA (by rw [hcl.out]; exact hcc) (by unfold maxLen; exact hcm2) hcs hct (by rw [hcl.out, hq.out]; exact hfl)
       rw [hcl.out] at OC
       have gne : b2 ≠ g2 := by
        rintro rfl
        have h := B2.out
        unfold Blk at h
        rw [hgh] at h
        injection h with h
        injection h with _ h2 _
        exact absurd h2 (by decide)
       have gne2 : b2 + 1 ≠ g2 := by
        rintro rfl
        have h := B4.out
        unfold Blk at h
        rw [hgh] at h
        injection h with h
        injection h with _ h2 _
        exact absurd h2 (by decide)
       have B2x := B2.out.below hbA B2.out.lt
       have B4x := B4.out.below hbA B4.out.lt
       obtain ⟨w6, hw6⟩ : ∃ w6, uA.setRow g2 (curA.toList.take (I * 11) ++ rc.flatMap Ce.enc ++ curA.toList.drop (I * 11 + (rc.flatMap Ce.enc).length)).toArray = w6 := ⟨_, rfl⟩
       rw [hw6] at hr OC
       replace B2x : Blk w6 b2 [.int .i64 wd, .int .i64 ht, .slice (some ⟨g2, 0, none⟩) n cv] 26 := by rw [← hw6]; exact B2x.setRow_ne gne _
       replace B4x : Blk w6 (b2 + 1) [.int .i64 0, .int .i64 0, .slice none 0 0] 26 := by rw [← hw6]; exact B4x.setRow_ne gne2 _
       have hb6 : Below w.heap.size w w6 := by
        rw [← hw6]
        exact KeptBut.toBelow (hb2'.trans (hbA.mono zb)) ((KeptBut.refl (fun q => q = g2) uA).setRow g2 _ rfl) (by omega) (fun k h1 h2 => by omega)
       clear hw6
       clear q0a q1a q2a yqa
       clear q0b q1b q2b yqb
       clear B2 B4 B8 hcA hcoA hfoA hbA hzA CIX
       go_upto_region 17 with (refine wpList_copy_runI uA rfl _ _ _ _ rfl _ _ (by rfl) (by rfl) hr ?_)
       have hcl2 : (splC cur I rc).length = n := by rw [splC_len (by rw [hcl.out, hq.out]; exact hfl)]; exact hcl.out
       replace OC := Lib.hid OC
       replace B2x := Lib.hid B2x
       replace B4x := Lib.hid B4x
       replace hb6 := Lib.hid hb6
       replace hcl2 := Lib.hid hcl2
       go_wp2
       exact ⟨⟨i + 1, splC cur I rc, by omega, by go_num, hgo2, hb6, OC, hcl2, B2x, B4x⟩, by simp [intOf]; omega⟩
      ·obtain rfl : m = i := by omega
       have hii : ¬ (m : Int) < m := by omega
       have hRl : cur = RC := by
        have h := hgo.out
        rw [List.drop_of_length_le (by rw [em.out]; omega)] at h
        exact h
       subst hRl
       have q0a := B2.out.cell (o := 0) rfl
       have q1a := B2.out.cell (o := 1) rfl
       have q2a := B2.out.cell (o := 2) rfl
       have yqa := B2.out.lt
       have k0 := B4.out.cell (o := 0) rfl
       have k1 := B4.out.cell (o := 1) rfl
       have k2 := B4.out.cell (o := 2) rfl
       have kf := B4.out.free
       go_wp2
       clear q0a q1a q2a yqa
       clear k0 k1 k2 kf
       have B4o := B4.out
       have hbo := hb.out
       have ho := hoc.out
       have goX := (own_other (own_other (own_other ho (a := ⟨b2 + 1, 0, none⟩) (fun g hg he => ownsC_ne ho B4o (by decide) (by rw [hg]; exact congrArg some he)) (.int .i64 wd)) (a := ⟨b2 + 1, 1, none⟩) (fun g hg he => ownsC_ne ho B4o (by decide) (by rw [hg]; exact congrArg some he)) (.int .i64 ht)) (a := ⟨b2 + 1, 2, none⟩) (fun g hg he => ownsC_ne ho B4o (by decide) (by rw [hg]; exact congrArg some he)) (.slice sv n cv))
       have HZ := Blk.put3 B4o rfl (.int .i64 wd) (.int .i64 ht) (.slice sv n cv)
       have hbZ : Below w.heap.size w (((W1.setCell ⟨b2 + 1, 0, none⟩ (.int .i64 wd)).setCell ⟨b2 + 1, 1, none⟩ (.int .i64 ht)).setCell ⟨b2 + 1, 2, none⟩ (.slice sv n cv)) := ((hbo.setCell (p := ⟨b2 + 1, 0, none⟩) (by show w.heap.size ≤ b2 + 1; omega) _).setCell (p := ⟨b2 + 1, 1, none⟩) (by show w.heap.size ≤ b2 + 1; omega) _).setCell (p := ⟨b2 + 1, 2, none⟩) (by show w.heap.size ≤ b2 + 1; omega) _
       generalize ((W1.setCell ⟨b2 + 1, 0, none⟩ (.int .i64 wd)).setCell ⟨b2 + 1, 1, none⟩ (.int .i64 ht)).setCell ⟨b2 + 1, 2, none⟩ (.slice sv n cv) = wZ at HZ hbZ goX ⊢
       have jz0 := HZ.cell (o := 0) rfl
       have jz1 := HZ.cell (o := 1) rfl
       have jz2 := HZ.cell (o := 2) rfl
       refine bodyPost_ret (v := .tuple #[.agg #[.int .i64 wd, .int .i64 ht, .slice sv n cv], .int .i64 0]) (by simp [results, Tryz.results30, go_sem, jz0, jz1, jz2]) rfl ⟨hbZ, _, rfl, goX⟩
 ·rw [e0] at C1
  rw [if_neg (by omega)] at hE
  subst hE
  rw [if_neg (by decide)] at hZ1 hZ2 hRC
  subst hZ1 hZ2 hRC
  have k0 := B4.cell (o := 0) rfl
  have k1 := B4.cell (o := 1) rfl
  have k2 := B4.cell (o := 2) rfl
  have kf := B4.free
  go_wp2_with (go_at_call 15; (with_reducible refine C1.out.mono ?_); rintro e w1 ⟨rfl, hb1⟩; obtain ⟨hc1, hf1⟩ := bcell hb1; have z1 := hb1.size; have B4a := B4.below hb1 yB4; have hbF := hbw.trans (hb1.mono hbw.size))
  clear k0 k1 k2 kf
  have HZ := Blk.put3 B4a rfl (.int .i64 0) (.int .i64 0) (.slice none 0 0)
  have hbZ : Below w.heap.size w (((w1.setCell ⟨(b2 + 1), 0, none⟩ (.int .i64 0)).setCell ⟨(b2 + 1), 1, none⟩ (.int .i64 0)).setCell ⟨(b2 + 1), 2, none⟩ (.slice none 0 0)) := ((hbF.setCell (p := ⟨(b2 + 1), 0, none⟩) (by show w.heap.size ≤ (b2 + 1); omega) _).setCell (p := ⟨(b2 + 1), 1, none⟩) (by show w.heap.size ≤ (b2 + 1); omega) _).setCell (p := ⟨(b2 + 1), 2, none⟩) (by show w.heap.size ≤ (b2 + 1); omega) _
  generalize ((w1.setCell ⟨(b2 + 1), 0, none⟩ (.int .i64 0)).setCell ⟨(b2 + 1), 1, none⟩ (.int .i64 0)).setCell ⟨(b2 + 1), 2, none⟩ (.slice none 0 0) = wZ at HZ hbZ ⊢
  have jz0 := HZ.cell (o := 0) rfl
  have jz1 := HZ.cell (o := 1) rfl
  have jz2 := HZ.cell (o := 2) rfl
  refine bodyPost_ret (v := .tuple #[.agg #[.int .i64 0, .int .i64 0, .slice none 0 0], .int .i64 150]) (by simp [results, Tryz.results30, go_sem, jz0, jz1, jz2]) rfl ⟨hbZ, _, rfl, OwnsC.nil _ _⟩
end Go.Proofs.YtffmomgmkpmpkaaGreatDoor
