/-
  Cells: a terminal's text is read, by the document.
-/
import Derived.Lib.LaidU8T
import Derived.Lib.SlicesCompact
import Derived.SizedLaws
import Derived.Test.YtffmomgmkpmpkaaGreatDoorProg
import Derived.Test.YtffmomgmkpmpkaaGreatDoorKr27
import Derived.Test.YtffmomgmkpmpkaaGreatDoorKr31
namespace Go.Proofs.YtffmomgmkpmpkaaGreatDoor
open Go.RowKit
set_option linter.unusedVariables false
attribute [local go_sem] vwp vUpon_value vUpon_skip vUpon_enter vUpon_row
set_option linter.unusedSimpArgs false
set_option linter.unusedVariables false
set_option maxHeartbeats 8000000 in
set_option maxRecDepth 100000 in
theorem crread_any (wd ht : Int) (cs : List Ce) (v : Value) (l : List UInt8) (w : World) (h1 : I64 wd) (h2 : I64 ht) (hl : Row w.heap.size 11 Ce.enc w v cs) (hll : l.length ≤ 9223372036854775807) (hD : DecT w) :
  Calls Tryz.prog 20 #[.agg #[.int .i64 (wd), .int .i64 (ht), v], .string (strL l)] w (OutRd w.heap.size (readS wd ht cs l) w) := by
 have C1 := fun w1 (hb : Below w.heap.size w w1) => crcheck_any wd ht cs v w1 h1 h2 ((hl.below hb).mono hb.size)
 obtain ⟨s0, cap, rfl, hmax⟩ := hl.shape
 obtain ⟨Q, hQ⟩ : ∃ Q, readS wd ht cs l = Q := ⟨_, rfl⟩
 rw [hQ]
 unfold readS at hQ
 have hl0 := Lib.hid hl
 obtain ⟨n, en⟩ : ∃ n, cs.length = n := ⟨_, rfl⟩
 rw [en] at hl0 C1 hmax ⊢
 obtain ⟨S, hS⟩ : ∃ s, strL l = s := ⟨_, rfl⟩
 have hSz : S.size = l.length := by rw [← hS]; exact strL_size _
 rw [hS]
 obtain ⟨L, hL⟩ : ∃ L, l.length = L := ⟨_, rfl⟩
 rw [hL] at hSz hQ hll
 clear hl
 replace hS := Lib.hid hS
 replace hD := Lib.hid hD
 go_enter Tryz.func20, Tryz.ntmps20
 go_upto_region 1 with fail
 obtain ⟨W, hW⟩ : ∃ W, (w.alloc (.cells #[.int .i64 wd, .int .i64 ht, .slice s0 n cap] 26)).alloc (.cells #[.int .i64 0, .int .i64 0, .slice none 0 0] 26) = W := ⟨_, rfl⟩
 have B2 : Blk W w.heap.size [.int .i64 wd, .int .i64 ht, .slice s0 n cap] 26 := by rw [← hW]; exact (Blk.new' rfl).alloc _
 have B4 : Blk W (w.heap.size + 1) [.int .i64 0, .int .i64 0, .slice none 0 0] 26 := by rw [← hW]; exact Blk.new' (by simp)
 have hbw : Below w.heap.size w W := by rw [← hW]; exact belt
 rw [hW]
 clear hW
 have yB2 := B2.lt
 have yB4 := B4.lt
 have q0 := B2.cell (o := 0) rfl
 have q1 := B2.cell (o := 1) rfl
 have q2 := B2.cell (o := 2) rfl
 replace C1 := Lib.hid (C1 W hbw)
 rcases chkS_cases wd ht cs with e0 | e0
 ·rw [e0] at C1
  rw [if_pos e0] at hQ
  go_upto_region 4 with (go_at_call 16; (with_reducible refine C1.out.mono ?_); rintro e w1 ⟨rfl, hb1⟩)
  replace B2 := B2.below hb1 yB2
  replace B4 := B4.below hb1 yB4
  replace hbw := hbw.trans (hb1.mono hbw.size)
  clear q0 q1 q2 C1 hb1 yB2 yB4
  have yB2 := B2.lt
  have yB4 := B4.lt
  by_cases hbig : 1048576 < L
  ·rw [if_pos hbig] at hQ
   subst hQ
   have hbi : (1048576 : Int) < L := by omega
   have k0 := B4.cell (o := 0) rfl
   have k1 := B4.cell (o := 1) rfl
   have k2 := B4.cell (o := 2) rfl
   have kf := B4.free
   go_wp2
   clear k0 k1 k2 kf
   have HZ := Blk.put3 B4 rfl (.int .i64 0) (.int .i64 0) (.slice none 0 0)
   have hbZ : Below w.heap.size w (((w1.setCell ⟨(w.heap.size + 1), 0, none⟩ (.int .i64 0)).setCell ⟨(w.heap.size + 1), 1, none⟩ (.int .i64 0)).setCell ⟨(w.heap.size + 1), 2, none⟩ (.slice none 0 0)) := ((hbw.setCell (p := ⟨(w.heap.size + 1), 0, none⟩) (by show w.heap.size ≤ (w.heap.size + 1); omega) _).setCell (p := ⟨(w.heap.size + 1), 1, none⟩) (by show w.heap.size ≤ (w.heap.size + 1); omega) _).setCell (p := ⟨(w.heap.size + 1), 2, none⟩) (by show w.heap.size ≤ (w.heap.size + 1); omega) _
   generalize ((w1.setCell ⟨(w.heap.size + 1), 0, none⟩ (.int .i64 0)).setCell ⟨(w.heap.size + 1), 1, none⟩ (.int .i64 0)).setCell ⟨(w.heap.size + 1), 2, none⟩ (.slice none 0 0) = wZ at HZ hbZ ⊢
   have jz0 := HZ.cell (o := 0) rfl
   have jz1 := HZ.cell (o := 1) rfl
   have jz2 := HZ.cell (o := 2) rfl
   refine bodyPost_ret (v := .tuple #[.agg #[.int .i64 0, .int .i64 0, .slice none 0 0], .int .i64 0, .int .i64 3]) (by simp [results, Tryz.results20, go_sem, jz0, jz1, jz2]) rfl ⟨hbZ, _, rfl, OwnsC.nil _ _⟩
  ·rw [if_neg hbig] at hQ
   have hbi : ¬ (1048576 : Int) < L := by omega
   obtain ⟨hfit, hlen, hall⟩ := chkS_zero e0
   obtain ⟨z0, z1, z2, z3, z4⟩ := fitsS_true.1 hfit
   have hn2 : n ≤ 262144 := by
    have h : (n : Int) ≤ 262144 := by rw [← en, hlen]; exact z4
    omega
   have TW := Lib.hid (twin_any wd ht cs (.slice s0 n cap) w1 (by have h := (hl0.out.below hbw).mono hbw.size; rw [← en] at h ⊢; exact h) (by rw [en]; omega))
   have q0 := B2.cell (o := 0) rfl
   have q1 := B2.cell (o := 1) rfl
   have q2 := B2.cell (o := 2) rfl
   clear hl0 hmax hall e0
   go_upto_region 7 with (go_at_call 10; (with_reducible refine TW.out.mono ?_); rintro e w3 ⟨v3, rfl, hoc, hb3⟩; obtain ⟨sv, cv, hv3⟩ := own_slice hoc; rw [en] at hv3; subst hv3)
   have zz := hbw.size
   have zz3 := hb3.size
   have hoc2 : OwnsC w.heap.size w3 (.slice sv n cv) cs := own_less hoc (by omega)
   have hbX := hbw.trans (hb3.mono hbw.size)
   have B4x := B4.below hb3 yB4
   obtain ⟨W5, hW5⟩ : ∃ W5, w3.alloc (.cells #[.int .i64 wd, .int .i64 ht, .slice sv n cv, .int .i64 0, .int .i64 0, .int .u8 0, .int .u8 0, .int .u8 0, .int .u8 0, .int .u8 0, .int .u8 0, .int .u8 0, .int .u8 0] 101) = W5 := ⟨_, rfl⟩
   obtain ⟨b, hb⟩ : ∃ b, w3.heap.size = b := ⟨_, rfl⟩
   have T5 : TmT w.heap.size b wd ht (.slice sv n cv) cs Tm.zero W5 := by rw [← hW5]; exact ⟨Blk.new' hb.symm, hoc2.alloc _⟩
   have hbs : w.heap.size + 1 < b := by rw [← hb]; exact B4x.lt
   have hb5 : Below w.heap.size w W5 := by rw [← hW5]; exact hbX.alloc hbX.size _
   replace B4 : Blk W5 (w.heap.size + 1) [.int .i64 0, .int .i64 0, .slice none 0 0] 26 := by rw [← hW5]; exact B4x.alloc _
   rw [hW5, hb]
   clear hW5 hb hoc hoc2 hb3 B2 B4x TW hbX q0 q1 q2 zz zz3 yB2 yB4 hbw
   obtain ⟨RL, hRL⟩ : ∃ R, readL wd ht cs Tm.zero l 0 = R := ⟨_, rfl⟩
   rw [hRL] at hQ
   have hgo := Lib.hid (show readL wd ht cs Tm.zero (l.drop 0) 0 = RL from hRL)
   replace hQ := Lib.hid hQ
   replace T5 := Lib.hid T5
   replace B4 := Lib.hid B4
   replace hb5 := Lib.hid hb5
   replace hL := Lib.hid hL
   replace en := Lib.hid en
   clear hRL
   go_upto_region 8 with fail
   go_loopw [9] (fun av wr => ∃ (p : Nat) (cur : List Ce) (t : Tm), p ≤ L ∧ av = .int .i64 p ∧ Hid (readL wd ht cur t (l.drop p) p = RL) ∧ Hid (TmT w.heap.size b wd ht (.slice sv n cv) cur t wr) ∧ Hid (cur.length = n) ∧ Hid (Blk wr (w.heap.size + 1) [.int .i64 0, .int .i64 0, .slice none 0 0] 26) ∧ Hid (Below w.heap.size w wr)) (fun av _ => L - (intOf av).toNat)
   case atStart => exact ⟨0, cs, Tm.zero, Nat.zero_le _, rfl, hgo, T5, en, B4, hb5⟩
   case round =>
    clear hgo T5 B4 hb5
    obtain ⟨p, cur, t, hp, rfl, hgo, hT, hcl, hB4, hb⟩ := hrel
    obtain ⟨W6, rfl⟩ : ∃ W6, W6 = wr := ⟨_, rfl⟩
    have zb := hb.out.size
    have yT := hT.out.1.lt
    by_cases hpL : p < L
    ·have hpi : (p : Int) < L := by omega
     obtain ⟨c, hc⟩ := get_at hL.out hpL
     have X1 := bAt_eq (s := S) (i := p) (by omega)
     have hcb : bAt S p = c.toNat := by rw [← hS.out]; exact bAt_get hc
     have hdr := drop_get hc
     obtain ⟨r, hr⟩ : ∃ r, l.drop (p + 1) = r := ⟨_, rfl⟩
     rw [hr] at hdr
     have hrl : r.length < 1048576 := by rw [← hr, List.length_drop, hL.out]; omega
     have hsx := strL_from l p hS.out
     rw [hL.out, hdr] at hsx
     have hgo2 := hgo.out
     rw [hdr, readL_step (by simp)] at hgo2
     have hplc : (p : Int) ≤ L := by omega
     have hDW := hD.out.below hb.out (Nat.le_refl _)
     replace hdr := Lib.hid hdr
     replace hr := Lib.hid hr
     replace hc := Lib.hid hc
     by_cases h27 : c = 27
     ·have hc27 : ((c.toNat : Int) == 27) = true := by rw [h27]; rfl
      have EC := tesc_any wd ht (.slice sv n cv) t (c :: r) b W6 hT.out.1 (by rw [List.length_cons]; omega)
      have hst : stepP wd ht cur t (c :: r) = match escP t (c :: r) with | none => none | some (t', n) => some (cur, t', n) := by unfold stepP; rw [h27]; rfl
      rw [hst] at hgo2
      cases hE : escP t (c :: r) with
      | none =>
       rw [hE] at EC hgo2
       dsimp only at hgo2
       subst hgo2
       replace EC := Lib.hid EC
       have hQ2 := hQ.out
       dsimp only at hQ2
       subst hQ2
       subst h27
       go_upto_region 13 with (go_at_call 56; (with_reducible refine (EC.out).mono ?_); rintro e w7 ⟨rfl, hB7, hk7⟩)
       have B7 := hB4.out.but hk7 (by omega)
       have hb7 : Below w.heap.size w w7 := KeptBut.toBelow hb.out hk7 zb (fun k h1 h2 => by omega)
       have k0 := B7.cell (o := 0) rfl
       have k1 := B7.cell (o := 1) rfl
       have k2 := B7.cell (o := 2) rfl
       have kf := B7.free
       have yB7 := B7.lt
       go_wp2
       clear k0 k1 k2 kf
       have HZ := Blk.put3 B7 rfl (.int .i64 0) (.int .i64 0) (.slice none 0 0)
       have hbZ : Below w.heap.size w (((w7.setCell ⟨(w.heap.size + 1), 0, none⟩ (.int .i64 0)).setCell ⟨(w.heap.size + 1), 1, none⟩ (.int .i64 0)).setCell ⟨(w.heap.size + 1), 2, none⟩ (.slice none 0 0)) := ((hb7.setCell (p := ⟨(w.heap.size + 1), 0, none⟩) (by show w.heap.size ≤ (w.heap.size + 1); omega) _).setCell (p := ⟨(w.heap.size + 1), 1, none⟩) (by show w.heap.size ≤ (w.heap.size + 1); omega) _).setCell (p := ⟨(w.heap.size + 1), 2, none⟩) (by show w.heap.size ≤ (w.heap.size + 1); omega) _
       generalize ((w7.setCell ⟨(w.heap.size + 1), 0, none⟩ (.int .i64 0)).setCell ⟨(w.heap.size + 1), 1, none⟩ (.int .i64 0)).setCell ⟨(w.heap.size + 1), 2, none⟩ (.slice none 0 0) = wZ at HZ hbZ ⊢
       have jz0 := HZ.cell (o := 0) rfl
       have jz1 := HZ.cell (o := 1) rfl
       have jz2 := HZ.cell (o := 2) rfl
       refine bodyPost_ret (v := .tuple #[.agg #[.int .i64 0, .int .i64 0, .slice none 0 0], .int .i64 p, .int .i64 150]) (by simp [results, Tryz.results20, go_sem, jz0, jz1, jz2]) rfl ⟨hbZ, _, rfl, OwnsC.nil _ _⟩
      | some q =>
       obtain ⟨t', m⟩ := q
       have hm := escP_pos hE
       rw [List.length_cons] at hm
       have hrL : r.length + 1 + p = L := by rw [← hr.out, List.length_drop, hL.out]; omega
       rw [hE] at EC hgo2
       dsimp only at hgo2
       rw [← hdr.out, List.drop_drop] at hgo2
       replace hgo2 := Lib.hid hgo2
       unfold stepN stepT at EC
       dsimp only at EC
       replace EC := Lib.hid EC
       subst h27
       have hm0 : ((m : Int) == 0) = false := by simp; omega
       have hm1 : ¬ (m : Int) = 0 := by omega
       go_upto_region 13 with (go_at_call 56; (with_reducible refine (EC.out).mono ?_); rintro e w7 ⟨rfl, hB7, hk7⟩)
       have B7 := hB4.out.but hk7 (by omega)
       have hb7 : Below w.heap.size w w7 := KeptBut.toBelow hb.out hk7 zb (fun k h1 h2 => by omega)
       have ho7 : OwnsC w.heap.size w7 (.slice sv n cv) cur := own_kept2 hT.out.2 hk7 (fun g hg he => ownsC_ne hT.out.2 hT.out.1 (by decide) (by rw [hg, he]))
       go_wp2
       go_roundw
       case rel => exact ⟨p + m, cur, t', by omega, by go_num, hgo2, Lib.hid ⟨hB7, ho7⟩, hcl, Lib.hid B7, Lib.hid hb7⟩
       case measure => (simp [intOf]) <;> omega
     ·have hc27 : ((c.toNat : Int) == 27) = false := by simp; intro h; exact h27 (UInt8.toNat_inj.1 (by show c.toNat = 27; omega))
      have EC := trune_any wd ht cur (.slice sv n cv) t c r b w.heap.size W6 hT.out.1 hT.out.2 hfit (by rw [hcl.out, ← en.out]; exact hlen) hrl hDW
      have hst : stepP wd ht cur t (c :: r) = cellP wd ht cur t (c :: r) := by unfold stepP; rw [if_neg]; simp; exact h27
      rw [hst] at hgo2
      cases hE : cellP wd ht cur t (c :: r) with
      | none =>
       rw [hE] at EC hgo2
       dsimp only at hgo2
       subst hgo2
       replace EC := Lib.hid EC
       have hQ2 := hQ.out
       dsimp only at hQ2
       subst hQ2
       go_upto_region 13 with (go_at_call 57; (with_reducible refine (EC.out).mono ?_); rintro e w7 ⟨rfl, hB7, hk7⟩)
       have B7 := hB4.out.but hk7 (fun h => h.elim (by omega) (fun h => ownsC_ne hT.out.2 hB4.out (by decide) h))
       have hb7 : Below w.heap.size w w7 := kept_below hT.out.2 (by omega) hb.out zb hk7
       have k0 := B7.cell (o := 0) rfl
       have k1 := B7.cell (o := 1) rfl
       have k2 := B7.cell (o := 2) rfl
       have kf := B7.free
       have yB7 := B7.lt
       go_wp2
       clear k0 k1 k2 kf
       have HZ := Blk.put3 B7 rfl (.int .i64 0) (.int .i64 0) (.slice none 0 0)
       have hbZ : Below w.heap.size w (((w7.setCell ⟨(w.heap.size + 1), 0, none⟩ (.int .i64 0)).setCell ⟨(w.heap.size + 1), 1, none⟩ (.int .i64 0)).setCell ⟨(w.heap.size + 1), 2, none⟩ (.slice none 0 0)) := ((hb7.setCell (p := ⟨(w.heap.size + 1), 0, none⟩) (by show w.heap.size ≤ (w.heap.size + 1); omega) _).setCell (p := ⟨(w.heap.size + 1), 1, none⟩) (by show w.heap.size ≤ (w.heap.size + 1); omega) _).setCell (p := ⟨(w.heap.size + 1), 2, none⟩) (by show w.heap.size ≤ (w.heap.size + 1); omega) _
       generalize ((w7.setCell ⟨(w.heap.size + 1), 0, none⟩ (.int .i64 0)).setCell ⟨(w.heap.size + 1), 1, none⟩ (.int .i64 0)).setCell ⟨(w.heap.size + 1), 2, none⟩ (.slice none 0 0) = wZ at HZ hbZ ⊢
       have jz0 := HZ.cell (o := 0) rfl
       have jz1 := HZ.cell (o := 1) rfl
       have jz2 := HZ.cell (o := 2) rfl
       refine bodyPost_ret (v := .tuple #[.agg #[.int .i64 0, .int .i64 0, .slice none 0 0], .int .i64 p, .int .i64 150]) (by simp [results, Tryz.results20, go_sem, jz0, jz1, jz2]) rfl ⟨hbZ, _, rfl, OwnsC.nil _ _⟩
      | some q =>
       obtain ⟨cur', t', m⟩ := q
       have hm := cellP_pos hE
       have hcl' := cellP_len hfit (by rw [hcl.out, ← en.out]; exact hlen) hE
       rw [List.length_cons] at hm
       have hrL : r.length + 1 + p = L := by rw [← hr.out, List.length_drop, hL.out]; omega
       rw [hE] at EC hgo2
       dsimp only at hgo2
       rw [← hdr.out, List.drop_drop] at hgo2
       replace hgo2 := Lib.hid hgo2
       unfold cellN cellC cellT at EC
       dsimp only at EC
       replace EC := Lib.hid EC
       have hm0 : ((m : Int) == 0) = false := by simp; omega
       have hm1 : ¬ (m : Int) = 0 := by omega
       go_upto_region 13 with (go_at_call 57; (with_reducible refine (EC.out).mono ?_); rintro e w7 ⟨rfl, hT7, hk7⟩)
       have B7 := hB4.out.but hk7 (fun h => h.elim (by omega) (fun h => ownsC_ne hT.out.2 hB4.out (by decide) h))
       have hb7 : Below w.heap.size w w7 := kept_below hT.out.2 (by omega) hb.out zb hk7
       go_wp2
       go_roundw
       case rel => exact ⟨p + m, cur', t', by omega, by go_num, hgo2, Lib.hid hT7, Lib.hid (hcl'.trans hcl.out), Lib.hid B7, Lib.hid hb7⟩
       case measure => (simp [intOf]) <;> omega
    ·obtain rfl : L = p := by omega
     have hpi : ¬ (L : Int) < L := by omega
     have hR : Except.ok cur = RL := by
      have h := hgo.out
      rw [List.drop_of_length_le (by rw [hL.out]; exact Nat.le_refl _)] at h
      exact h
     subst hR
     have hQ2 := hQ.out
     dsimp only at hQ2
     subst hQ2
     have B6 := hB4.out
     have k0 := B6.cell (o := 0) rfl
     have k1 := B6.cell (o := 1) rfl
     have k2 := B6.cell (o := 2) rfl
     have kf := B6.free
     have yB6 := B6.lt
     have j0 := hT.out.1.cell (o := 0) rfl
     have j1 := hT.out.1.cell (o := 1) rfl
     have j2 := hT.out.1.cell (o := 2) rfl
     go_wp2
     clear k0 k1 k2 kf j0 j1 j2
     have hbb := hb.out
     have ne := ownsC_ne hT.out.2 B6 (by decide)
     have hoZ := own_other (own_other (own_other hT.out.2 (a := ⟨w.heap.size + 1, 0, none⟩) (fun g hg e => ne (by rw [hg, e])) (.int .i64 wd)) (a := ⟨w.heap.size + 1, 1, none⟩) (fun g hg e => ne (by rw [hg, e])) (.int .i64 ht)) (a := ⟨w.heap.size + 1, 2, none⟩) (fun g hg e => ne (by rw [hg, e])) (.slice sv n cv)
     have HZ := Blk.put3 B6 rfl (.int .i64 wd) (.int .i64 ht) (.slice sv n cv)
     have hbZ : Below w.heap.size w (((W6.setCell ⟨w.heap.size + 1, 0, none⟩ (.int .i64 wd)).setCell ⟨w.heap.size + 1, 1, none⟩ (.int .i64 ht)).setCell ⟨w.heap.size + 1, 2, none⟩ (.slice sv n cv)) := ((hbb.setCell (p := ⟨w.heap.size + 1, 0, none⟩) (by show w.heap.size ≤ w.heap.size + 1; omega) _).setCell (p := ⟨w.heap.size + 1, 1, none⟩) (by show w.heap.size ≤ w.heap.size + 1; omega) _).setCell (p := ⟨w.heap.size + 1, 2, none⟩) (by show w.heap.size ≤ w.heap.size + 1; omega) _
     generalize ((W6.setCell ⟨w.heap.size + 1, 0, none⟩ (.int .i64 wd)).setCell ⟨w.heap.size + 1, 1, none⟩ (.int .i64 ht)).setCell ⟨w.heap.size + 1, 2, none⟩ (.slice sv n cv) = wZ at HZ hbZ hoZ ⊢
     have jz0 := HZ.cell (o := 0) rfl
     have jz1 := HZ.cell (o := 1) rfl
     have jz2 := HZ.cell (o := 2) rfl
     refine bodyPost_ret (v := .tuple #[.agg #[.int .i64 wd, .int .i64 ht, .slice sv n cv], .int .i64 0, .int .i64 0]) (by simp [results, Tryz.results20, go_sem, jz0, jz1, jz2]) rfl ⟨hbZ, _, rfl, hoZ⟩
 ·rw [e0] at C1
  rw [if_neg (by omega)] at hQ
  rw [e0] at hQ
  subst hQ
  go_wp2_with (go_at_call 16; (with_reducible refine C1.out.mono ?_); rintro e w1 ⟨rfl, hb1⟩; replace B4 := B4.below hb1 yB4; replace hbw := hbw.trans (hb1.mono hbw.size); have k0 := B4.cell (o := 0) rfl; have k1 := B4.cell (o := 1) rfl; have k2 := B4.cell (o := 2) rfl; have kf := B4.free)
  clear k0 k1 k2 kf
  have HZ := Blk.put3 B4 rfl (.int .i64 0) (.int .i64 0) (.slice none 0 0)
  have hbZ : Below w.heap.size w (((w1.setCell ⟨(w.heap.size + 1), 0, none⟩ (.int .i64 0)).setCell ⟨(w.heap.size + 1), 1, none⟩ (.int .i64 0)).setCell ⟨(w.heap.size + 1), 2, none⟩ (.slice none 0 0)) := ((hbw.setCell (p := ⟨(w.heap.size + 1), 0, none⟩) (by show w.heap.size ≤ (w.heap.size + 1); omega) _).setCell (p := ⟨(w.heap.size + 1), 1, none⟩) (by show w.heap.size ≤ (w.heap.size + 1); omega) _).setCell (p := ⟨(w.heap.size + 1), 2, none⟩) (by show w.heap.size ≤ (w.heap.size + 1); omega) _
  generalize ((w1.setCell ⟨(w.heap.size + 1), 0, none⟩ (.int .i64 0)).setCell ⟨(w.heap.size + 1), 1, none⟩ (.int .i64 0)).setCell ⟨(w.heap.size + 1), 2, none⟩ (.slice none 0 0) = wZ at HZ hbZ ⊢
  have jz0 := HZ.cell (o := 0) rfl
  have jz1 := HZ.cell (o := 1) rfl
  have jz2 := HZ.cell (o := 2) rfl
  refine bodyPost_ret (v := .tuple #[.agg #[.int .i64 0, .int .i64 0, .slice none 0 0], .int .i64 0, .int .i64 150]) (by simp [results, Tryz.results20, go_sem, jz0, jz1, jz2]) rfl ⟨hbZ, _, rfl, OwnsC.nil _ _⟩
end Go.Proofs.YtffmomgmkpmpkaaGreatDoor

namespace Go.Proofs.YtffmomgmkpmpkaaGreatDoor
open Go.RowKit
set_option linter.unusedVariables false
attribute [local go_sem] vwp vUpon_value vUpon_skip vUpon_enter vUpon_row
set_option linter.unusedSimpArgs false
set_option linter.unusedVariables false
set_option maxHeartbeats 16000000 in
set_option maxRecDepth 100000 in
theorem walk_CellsRead (wd ht : Int) (cs : List Ce) (v : Value) (l : List UInt8) (w : World) (h1 : I64 wd) (h2 : I64 ht) (hl : Row w.heap.size 11 Ce.enc w v cs) (hll : l.length ≤ 9223372036854775807) (hD : DigT w) (hE : DecT w) :
  Calls Tryz.prog 4 #[.agg #[.int .i64 (wd), .int .i64 (ht), v], .string (strL l)] w fun e w' => e = .returned (.bool true) ∧ Below w.heap.size w w' := by
 obtain ⟨s0, cap0, rfl, hmax0⟩ := hl.shape
 obtain ⟨n0, en0⟩ : ∃ n, cs.length = n := ⟨_, rfl⟩
 have hl0 := hl
 rw [en0] at hl0 hmax0 ⊢
 clear hl
 unfold maxLen at hmax0
 obtain ⟨S, hS⟩ : ∃ s, strL l = s := ⟨_, rfl⟩
 rw [hS]
 replace hl0 := Lib.hid hl0
 replace hD := Lib.hid hD
 replace hE := Lib.hid hE
 replace en0 := Lib.hid en0
 replace hS := Lib.hid hS
 go_enter Tryz.func4, Tryz.ntmps4
 go_upto_region 1 with fail
 obtain ⟨W0, hW0⟩ : ∃ W0, w.alloc (.cells #[.int .i64 wd, .int .i64 ht, .slice s0 n0 cap0] 26) = W0 := ⟨_, rfl⟩
 obtain ⟨b2, hb2⟩ : ∃ b, w.heap.size = b := ⟨_, rfl⟩
 have B2 : Blk W0 b2 [.int .i64 wd, .int .i64 ht, .slice s0 n0 cap0] 26 := by rw [← hW0]; exact Blk.new' hb2.symm
 have hb0 : Below w.heap.size w W0 := by rw [← hW0]; exact belt
 rw [hW0, hb2]
 clear hW0
 replace hb2 := Lib.hid hb2
 have AW := Lib.hid (awake_any W0 (hD.out.below hb0 (Nat.le_refl _)) (hE.out.below hb0 (Nat.le_refl _)))
 replace hb0 := Lib.hid hb0
 go_upto_region 4 with (go_at_call 8; (with_reducible refine AW.out.mono ?_); rintro e w1 ⟨rfl, hb1⟩)
 replace B2 := B2.below hb1 B2.lt
 have hb01 := hb0.out.trans (hb1.mono hb0.out.size)
 clear AW hb0 hb1
 have LG := large_any wd ht cs (.slice s0 n0 cap0) w1 ((hl0.out.below hb01).mono hb01.size)
 rw [en0.out] at LG
 replace LG := Lib.hid LG
 replace hb01 := Lib.hid hb01
 have k0a := B2.cell (o := 0) rfl
 have k1a := B2.cell (o := 1) rfl
 have k2a := B2.cell (o := 2) rfl
 have ya := B2.lt
 by_cases g0 : 600 < n0
 ·have g0i : decide (600 < n0) = true := decide_eq_true g0
  go_wp2_with (go_at_call 9; (with_reducible refine LG.out.mono ?_); rintro e w2 ⟨rfl, hb2'⟩)
  go_ret
  exact ⟨rfl, hb01.out.trans (hb2'.mono hb01.out.size)⟩
 ·have g0i : decide (600 < n0) = false := decide_eq_false g0
  go_upto_region 6 with (go_at_call 9; (with_reducible refine LG.out.mono ?_); rintro e w2 ⟨rfl, hb2'⟩)
  replace B2 := B2.below hb2' B2.lt
  have hb02 := hb01.out.trans (hb2'.mono hb01.out.size)
  clear LG hb01 hb2'
  clear k0a k1a k2a ya
  have z02 := hb02.size
  have RV := (hl0.out.below hb02).mono z02
  have hE2 := hE.out.below hb02 (Nat.le_refl _)
  have hn6 : n0 ≤ 600 := by omega
  clear hl0 hD hE g0 g0i
  have TW := Lib.hid (twin_any wd ht cs (.slice s0 n0 cap0) w2 (by rw [← en0.out] at RV ⊢; exact RV) (by rw [en0.out]; omega))
  replace hb02 := Lib.hid hb02
  replace RV := Lib.hid RV
  replace hE2 := Lib.hid hE2
  have k0a := B2.cell (o := 0) rfl
  have k1a := B2.cell (o := 1) rfl
  have k2a := B2.cell (o := 2) rfl
  have ya := B2.lt
  go_upto_region 7 with (go_at_call 10; (with_reducible refine TW.out.mono ?_); rintro e w3 ⟨vt, rfl, OT, hb3'⟩; obtain ⟨st, ct, hvt⟩ := own_slice OT; rw [en0.out] at hvt; subst hvt)
  obtain ⟨W4, hW4⟩ : ∃ W, w3.alloc (.cells #[.int .i64 wd, .int .i64 ht, .slice st n0 ct] 26) = W := ⟨_, rfl⟩
  obtain ⟨b5, hb5⟩ : ∃ b, w3.heap.size = b := ⟨_, rfl⟩
  have B5 : Blk W4 b5 [.int .i64 wd, .int .i64 ht, .slice st n0 ct] 26 := by rw [← hW4]; exact Blk.new' hb5.symm
  have hb4 : Below w2.heap.size w2 W4 := by rw [← hW4]; exact hb3'.alloc hb3'.size _
  have OT4 : OwnsC w2.heap.size W4 (.slice st n0 ct) cs := by rw [← hW4]; exact OT.alloc _
  rw [hW4, hb5]
  clear hW4 hb5 OT hb3'
  clear k0a k1a k2a ya
  clear TW
  have z4 := hb4.size
  obtain ⟨ER, PR, ZR1, ZR2, CR, hQ⟩ : ∃ a b c d e, readS wd ht cs l = (a, b, c, d, e) := ⟨_, _, _, _, _, rfl⟩
  have RT : Row W4.heap.size 11 Ce.enc W4 (.slice st n0 ct) cs := OT4.row (Nat.le_refl _)
  have RD : Calls Tryz.prog 19 #[.agg #[.int .i64 (wd), .int .i64 (ht), .slice st n0 ct], .string S] W4 (fun e w' => Below W4.heap.size W4 w' ∧ ∃ v, e = .returned (.tuple #[.agg #[.int .i64 (ZR1), .int .i64 (ZR2), v], .int .i64 PR, .int .i64 ER]) ∧ OwnsC W4.heap.size w' v CR) := by
   have h := cread_any wd ht cs (.slice st n0 ct) l W4 h1 h2 RT hll (hE2.out.below hb4 (Nat.le_refl _))
   rw [hQ, hS.out] at h
   exact h
  have RRD := Lib.hid (fun u (hu : Below W4.heap.size W4 u) => (show Calls Tryz.prog 20 #[.agg #[.int .i64 (wd), .int .i64 (ht), .slice s0 n0 cap0], .string S] u (fun e w' => Below u.heap.size u w' ∧ ∃ v, e = .returned (.tuple #[.agg #[.int .i64 (ZR1), .int .i64 (ZR2), v], .int .i64 PR, .int .i64 ER]) ∧ OwnsC u.heap.size w' v CR) from by
   have hh := hb4.trans (hu.mono z4)
   have h := crread_any wd ht cs (.slice s0 n0 cap0) l u h1 h2 ((RV.out.below hh).mono hh.size) hll (hE2.out.below hh (Nat.le_refl _))
   rw [hQ, hS.out] at h
   exact h))
  obtain ⟨NC, hNC⟩ : ∃ n, CR.length = n := ⟨_, rfl⟩
  replace RD := Lib.hid RD
  replace RT := Lib.hid RT
  replace OT4 := Lib.hid OT4
  replace hNC := Lib.hid hNC
  replace hQ := Lib.hid hQ
  replace B2 := B2.below hb4 B2.lt
  replace hb4 := Lib.hid hb4
  have k0a := B5.cell (o := 0) rfl
  have k1a := B5.cell (o := 1) rfl
  have k2a := B5.cell (o := 2) rfl
  have ya := B5.lt
  go_upto_region 8 with (go_at_call 19; (with_reducible refine RD.out.mono ?_); rintro e w5 ⟨hb5', va, rfl, OA⟩; obtain ⟨sa, ca, hva⟩ := own_slice OA; rw [hNC.out] at hva; subst hva)
  obtain ⟨W6, hW6⟩ : ∃ W, w5.alloc (.cells #[.int .i64 ZR1, .int .i64 ZR2, .slice sa NC ca] 26) = W := ⟨_, rfl⟩
  obtain ⟨c6, hc6⟩ : ∃ b, w5.heap.size = b := ⟨_, rfl⟩
  have B6 : Blk W6 c6 [.int .i64 ZR1, .int .i64 ZR2, .slice sa NC ca] 26 := by rw [← hW6]; exact Blk.new' hc6.symm
  have hb6 : Below W4.heap.size W4 W6 := by rw [← hW6]; exact hb5'.alloc hb5'.size _
  have OA6 : OwnsC W4.heap.size W6 (.slice sa NC ca) CR := by rw [← hW6]; exact OA.alloc _
  rw [hW6, hc6]
  clear hW6 hc6 OA hb5'
  clear k0a k1a k2a ya
  clear RD
  replace B2 := B2.below hb6 B2.lt
  replace B5 := B5.below hb6 B5.lt
  have OT6 := OT4.out.below hb6 (Nat.le_refl _)
  replace OA6 := Lib.hid OA6
  replace OT6 := Lib.hid OT6
  replace hb6 := Lib.hid hb6
  clear OT4
  have k0a := B2.cell (o := 0) rfl
  have k1a := B2.cell (o := 1) rfl
  have k2a := B2.cell (o := 2) rfl
  have ya := B2.lt
  go_upto_region 9 with (go_at_call 20; (with_reducible refine (RRD.out _ hb6.out).mono ?_); rintro e w7 ⟨hb7', vb, rfl, OB⟩; obtain ⟨sb, cb, hvb⟩ := own_slice OB; rw [hNC.out] at hvb; subst hvb)
  obtain ⟨W8, hW8⟩ : ∃ W, w7.alloc (.cells #[.int .i64 ZR1, .int .i64 ZR2, .slice sb NC cb] 26) = W := ⟨_, rfl⟩
  obtain ⟨b9, hb9⟩ : ∃ b, w7.heap.size = b := ⟨_, rfl⟩
  have B9 : Blk W8 b9 [.int .i64 ZR1, .int .i64 ZR2, .slice sb NC cb] 26 := by rw [← hW8]; exact Blk.new' hb9.symm
  have hb8 : Below W6.heap.size W6 W8 := by rw [← hW8]; exact hb7'.alloc hb7'.size _
  have OB8 : OwnsC W6.heap.size W8 (.slice sb NC cb) CR := by rw [← hW8]; exact OB.alloc _
  rw [hW8, hb9]
  clear hW8 hb9 OB hb7'
  clear k0a k1a k2a ya
  clear RRD
  replace B2 := B2.below hb8 B2.lt
  replace B5 := B5.below hb8 B5.lt
  replace B6 := B6.below hb8 B6.lt
  have OA8 := OA6.out.below hb8 (Nat.le_refl _)
  have OT8 := OT6.out.below hb8 (Nat.le_refl _)
  have hb48 := hb6.out.trans (hb8.mono hb6.out.size)
  have hb28 := hb4.out.trans (hb48.mono z4)
  have z28 := hb28.size
  have S1 := Lib.hid (fun q (hq : Below W8.heap.size W8 q) => (show Calls Tryz.prog 14 #[.agg #[.int .i64 (ZR1), .int .i64 (ZR2), .slice sa NC ca], .agg #[.int .i64 (ZR1), .int .i64 (ZR2), .slice sb NC cb]] q (fun e w' => e = .returned (.bool true) ∧ Below q.heap.size q w') from by
   have hh := csame_any ZR1 ZR2 ZR1 ZR2 CR CR (.slice sa NC ca) (.slice sb NC cb) q ((OA8.below hq (Nat.le_refl _)).row (Nat.le_refl _)) ((OB8.below hq (Nat.le_refl _)).row (Nat.le_refl _))
   rw [samS_iff.2 ⟨rfl, rfl, rfl⟩] at hh
   exact hh))
  have S2 := Lib.hid (fun q (hq : Below W8.heap.size W8 q) => (show Calls Tryz.prog 14 #[.agg #[.int .i64 (wd), .int .i64 (ht), .slice st n0 ct], .agg #[.int .i64 (wd), .int .i64 (ht), .slice s0 n0 cap0]] q (fun e w' => e = .returned (.bool true) ∧ Below q.heap.size q w') from by
   have h5 := hb28.trans (hq.mono z28)
   have hh := csame_any wd ht wd ht cs cs (.slice st n0 ct) (.slice s0 n0 cap0) q ((OT8.below hq (Nat.le_refl _)).row (Nat.le_refl _)) ((RV.out.below h5).mono h5.size)
   rw [samS_iff.2 ⟨rfl, rfl, rfl⟩] at hh
   exact hh))
  replace hb28 := Lib.hid hb28
  clear OA8 OT8 OB8 hb48 hb8 hb6 OA6 OT6
  have k0a := B2.cell (o := 0) rfl
  have k1a := B2.cell (o := 1) rfl
  have k2a := B2.cell (o := 2) rfl
  have ya := B2.lt
  have k0b := B5.cell (o := 0) rfl
  have k1b := B5.cell (o := 1) rfl
  have k2b := B5.cell (o := 2) rfl
  have yb := B5.lt
  have k0c := B6.cell (o := 0) rfl
  have k1c := B6.cell (o := 1) rfl
  have k2c := B6.cell (o := 2) rfl
  have yc := B6.lt
  have k0d := B9.cell (o := 0) rfl
  have k1d := B9.cell (o := 1) rfl
  have k2d := B9.cell (o := 2) rfl
  have yd := B9.lt
  go_wp2_with (first
   | (go_at_call 14; (with_reducible refine (S1.out _ (Below.refl _ _)).mono ?_); rintro e w10 ⟨rfl, hb10'⟩; obtain ⟨hc10, hf10⟩ := bcell hb10'; have z10 := hb10'.size)
   | (go_at_call 14; (with_reducible refine (S2.out _ hb10').mono ?_); rintro e w11 ⟨rfl, hb11'⟩; have hb1011 := hb10'.trans (hb11'.mono z10); clear hc10 hf10; obtain ⟨hc10, hf10⟩ := bcell hb1011))
  go_ret
  have z5 := hb02.out.trans (hb28.out.mono z02)
  exact ⟨rfl, z5.trans (hb1011.mono z5.size)⟩
set_option maxRecDepth 100000 in
theorem walk_CellsReadS (wd ht : Int) (cs : List Ce) (v : Value) (s : ByteArray) (w : World) (h1 : I64 wd) (h2 : I64 ht) (hl : Row w.heap.size 11 Ce.enc w v cs) (hs : s.size ≤ maxLen) (hD : DigT w) (hE : DecT w) :
    Calls Tryz.prog 4 #[.agg #[.int .i64 (wd), .int .i64 (ht), v], .string s] w fun e w' => e = .returned (.bool true) ∧ Below w.heap.size w w' := by
  have e : strL s.data.toList = s := by cases s; simp [strL]
  have hz : s.data.toList.length = s.size := Array.length_toList
  unfold maxLen at hs
  have h := walk_CellsRead wd ht cs v s.data.toList w h1 h2 hl (by rw [hz]; omega) hD hE
  rw [e] at h
  exact h
end Go.Proofs.YtffmomgmkpmpkaaGreatDoor

namespace Go.Proofs.YtffmomgmkpmpkaaGreatDoor
open Go Go.RowKit Go.ChangeShapes Go.WideShapes Go.Deep Go.Joins
set_option linter.unusedVariables false
set_option linter.unusedSimpArgs false
section
variable {P : Program} {H : Type} {enc : TypeId × Value → H} {w : World} {base : Nat} {spare : Nat → Bool} {held : Bool}
/-- A slice that came in, whatever its elements are: 'dec' says how the cells of one read. -/
theorem open_rowT {α : Type} [Inhabited α] {Ok : α → Prop} {sz : Nat} {encA : α → List Value} {fuel : Nat} {t e : TypeId} {v : Value} {y : DataW H × List MemPlace} (ht : P.underlying t = some (.slice e)) (hC : P.cellsOf e = sz) (hsz : 0 < sz)
  (dec : ∀ (n : Nat) (cs : List Value) (y : DataW H × List MemPlace), cs.length = sz → DataW.trod enc P w base spare held n e cs = some y → ∃ x, Ok x ∧ cs = encA x)
  (hf : DataW.trod enc P w base spare held fuel t [v] = some y) :
  ∃ xs : List α, Row w.heap.size sz encA w v xs ∧ ∀ x ∈ xs, Ok x := by
 rcases open_slice ht hf with ⟨h0, _⟩ | ⟨a', len, cap, m, n, D, Pl, hcs, hb, hl, hm, hmm, hx, hi⟩
 ·simp at h0
  subst h0
  exact ⟨[], ⟨none, 0, rfl, by simp, by unfold maxLen; omega, fun h => by simp at h⟩, by simp⟩
 ·simp at hcs
  subst hcs
  have hlm : len ≤ m := by rw [hmm]; split <;> omega
  have each : ∀ i, i < len → ∃ x : α, Ok x ∧ ∀ k u, (encA x)[k]? = some u → w.cell? ((a'.add (i * sz)).add k) = some u := by
   intro i hil
   obtain ⟨cs', hc, ht'⟩ := hi i (by omega)
   rw [hC] at hc
   obtain ⟨_, hcl, hat⟩ := World.cells?_some hc
   obtain ⟨x, hok, rfl⟩ := dec _ _ _ hcl ht'
   refine ⟨x, hok, fun k u hk => ?_⟩
   have hkl : k < sz := by rw [← hcl]; exact (List.getElem?_eq_some_iff.1 hk).1
   rw [hat k hkl, hk]
  obtain ⟨V, hV⟩ := choose_lt (α := α) (p := fun i x => Ok x ∧ ∀ k u, (encA x)[k]? = some u → w.cell? ((a'.add (i * sz)).add k) = some u) each
  refine ⟨(List.range len).map V, ⟨some a', cap, by simp, by simpa using hl, hm, fun h0 => ?_⟩, fun x hx => ?_⟩
  ·simp only [List.length_map, List.length_range] at h0
   obtain ⟨cs', hc, ht'⟩ := hi 0 (by omega)
   rw [hC] at hc
   obtain ⟨_, hcl, hat⟩ := World.cells?_some hc
   have h1 := hat 0 hsz
   rw [Nat.zero_mul] at h1
   obtain ⟨b, o, x⟩ := a'
   cases x with
   | some x =>
    exfalso
    have e0 : ((⟨b, o, some x⟩ : Addr).add 0).add 0 = ⟨b, o, some x⟩ := rfl
    rw [e0] at h1
    have : cs'[0]? = some (cs'[0]'(by omega)) := List.getElem?_eq_getElem (by omega)
    rw [this] at h1
    simp only [World.cell?] at h1
    split at h1 <;> simp at h1
   | none =>
    refine ⟨b, o, rfl, ?_, fun j x hj i u hi' => ?_⟩
    ·have : cs'[0]? = some (cs'[0]'(by omega)) := List.getElem?_eq_getElem (by omega)
     rw [this] at h1
     exact World.block_lt_of_cell? _ _ h1
    ·obtain ⟨hj', e⟩ := List.getElem?_eq_some_iff.1 hj
     simp at hj' e
     subst e
     have := (hV j hj').2 i u hi'
     rw [add_lit, add_lit] at this
     exact this
  ·obtain ⟨j, hj, rfl⟩ := List.mem_map.1 hx
   exact (hV j (List.mem_range.1 hj)).1
end
section
variable {H : Type} {enc : TypeId × Value → H} {w : World} {base : Nat} {spare : Nat → Bool} {held : Bool}
theorem list11 {cs : List Value} (h : cs.length = 11) : ∃ a b c d e f g i j k l, cs = [a, b, c, d, e, f, g, i, j, k, l] := by
  match cs, h with
  | [a, b, c, d, e, f, g, i, j, k, l], _ => exact ⟨a, b, c, d, e, f, g, i, j, k, l, rfl⟩
theorem cell_of {fuel : Nat} {cs : List Value} {x : DataW H × List MemPlace} (hl : cs.length = 11) (h : DataW.trod enc Tryz.prog w base spare held fuel 52 cs = some x) : ∃ s : Ce, s.Wf ∧ cs = s.enc := by
  obtain ⟨a, b, c, d, e, f, g, i, j, k, l, rfl⟩ := list11 hl
  obtain ⟨m0, y0, h0⟩ := field_of Tryz.underlying52 h 0 0 1 21 _ rfl rfl rfl (by kernel_rfl)
  obtain ⟨m1, y1, h1⟩ := field_of Tryz.underlying52 h 1 1 4 44 _ rfl rfl rfl (by kernel_rfl)
  obtain ⟨m2, y2, h2⟩ := field_of Tryz.underlying52 h 2 5 4 44 _ rfl rfl rfl (by kernel_rfl)
  obtain ⟨m3, y3, h3⟩ := field_of Tryz.underlying52 h 3 9 1 4 _ rfl rfl rfl (by kernel_rfl)
  obtain ⟨m4, y4, h4⟩ := field_of Tryz.underlying52 h 4 10 1 4 _ rfl rfl rfl (by kernel_rfl)
  simp only [List.drop_zero, List.drop_succ_cons, List.take_succ_cons, List.take_zero] at h0 h1 h2 h3 h4
  obtain ⟨n0, e0, z0, wf0⟩ := DataW.trod_int Tryz.underlying21 h0; simp at e0; subst e0
  obtain ⟨c1, w1, e1⟩ := colour_of h1
  obtain ⟨c2, w2, e2⟩ := colour_of h2
  obtain ⟨n3, e3, z3⟩ := DataW.trod_bool Tryz.underlying4 h3; simp at e3; subst e3
  obtain ⟨n4, e4, z4⟩ := DataW.trod_bool Tryz.underlying4 h4; simp at e4; subst e4
  refine ⟨⟨n0, c1, c2, n3, n4⟩, ⟨trivial, w1, w2⟩, ?_⟩
  unfold Ce.enc
  rw [← e1, ← e2]
  rfl
set_option maxRecDepth 100000 in
theorem open_screen {r : Reach} {b0 : Nat} {v : Value} {d : DataW H} {p : List MemPlace} (hv : Value.okWide Tryz.prog w r b0 26 v) (h : DataW.Trod enc Tryz.prog w base spare held 26 v d p) :
    ∃ (wd ht : Int) (u : Value) (cs : List Ce), v = .agg #[.int .i64 (wd), .int .i64 (ht), u] ∧ I64 wd ∧ I64 ht ∧ Row w.heap.size 11 Ce.enc w u cs ∧ CeL cs := by
  obtain ⟨cs, rfl, hsz⟩ := okWide_struct Tryz.underlying26 hv
  obtain ⟨l⟩ := cs
  obtain ⟨fuel, hf⟩ := h
  have hl : l.length = 3 := by
    have hc : Tryz.prog.cellsOf 26 = 3 := by kernel_rfl
    rw [← hc, ← hsz]; simp
  obtain ⟨a, b, c, rfl⟩ : ∃ a b c, l = [a, b, c] := by
    match l, hl with
    | [a, b, c], _ => exact ⟨a, b, c, rfl⟩
  simp only [Value.cells] at hf
  obtain ⟨m0, y0, h0⟩ := field_of Tryz.underlying26 hf 0 0 2 23 _ rfl rfl rfl (by kernel_rfl)
  obtain ⟨m1, y1, h1⟩ := field_of Tryz.underlying26 hf 1 2 1 24 _ rfl rfl rfl (by kernel_rfl)
  simp only [List.drop_zero, List.drop_succ_cons, List.take_succ_cons, List.take_zero] at h0 h1
  obtain ⟨wd, ht, ww, wh, rfl, rfl⟩ := size_of h0
  obtain ⟨cs, hr, hwf⟩ := open_rowT (sz := 11) (encA := Ce.enc) (Ok := Ce.Wf) Tryz.underlying24 (by kernel_rfl) (by omega) (fun n cs y hl ht => cell_of hl ht) h1
  exact ⟨wd, ht, c, cs, rfl, ww, wh, hr, hwf⟩
/-- The library's tables are there, as the card tells. -/
theorem dec_of_laid {L : List (String × DataW Unit)} {W : World} {D1 D2 : DataW Unit} (h : laidMet Tryz.prog L W) (h3 : ("unicode/utf8.first", D1) ∈ L) (e3 : D1 = Lib.firstData) (h4 : ("unicode/utf8.acceptRanges", D2) ∈ L) (e4 : D2 = Lib.acceptData) : DecT W := by
  subst e3 e4
  exact utf8Tabs_of_readsT (ρ := Tryz.lays197_ren) ⟨Tryz.underlying5, by kernel_rfl, by kernel_rfl, by kernel_rfl⟩ ⟨by kernel_rfl, by kernel_rfl, by kernel_rfl, by kernel_rfl, by kernel_rfl, by kernel_rfl, by kernel_rfl⟩ (Lib.laidMet.reads h h3) (Lib.laidMet.reads h h4)
theorem dig_of_laid {L : List (String × DataW Unit)} {W : World} {D : DataW Unit} (h : laidMet Tryz.prog L W) (hm : ("internal/strconv.uint64pow10", D) ∈ L) (hd' : D = Lib.tabData .u64 Lib.pow10Tab) : DigT W := by
  obtain ⟨g, t, cs, fuel, p, hg, ht, hv, hd⟩ := Lib.laidMet.reads h hm
  have hT : (Tryz.prog.globalNamed "internal/strconv.uint64pow10").bind (fun g => (Tryz.prog.globals[g]?).map (·.type)) = some 240 := by kernel_rfl
  rw [hg] at hT
  simp only [Option.bind_some] at hT
  rw [ht] at hT
  obtain rfl := Option.some.inj hT
  rw [hd'] at hd
  unfold DigT Lib.TabIs
  rw [hv, ← Lib.cells_of_tab (n := 20) Tryz.underlying240 Tryz.underlying206 (by kernel_rfl) (by kernel_rfl) hd]
end
end Go.Proofs.YtffmomgmkpmpkaaGreatDoor
