/-
  Short steps for the walks that orders2.py prints.
-/
import Derived.Test.YtfcphagmjijmkaaGreatDoorDd27
namespace Go.Proofs.YtfcphagmjijmkaaGreatDoor
open Go.RowKit
set_option linter.unusedVariables false
set_option linter.unusedSimpArgs false
attribute [local go_sem] vwp vUpon_value vUpon_skip vUpon_enter vUpon_row
set_option maxHeartbeats 16000000
theorem own_kept2 {base : Nat} {w w' : World} {v : Value} {cs : List Ce} {X : Nat → Prop} (h : OwnsC base w v cs) (hk : KeptBut X w w') (hx : ∀ g, v.ownBlock = some g → ¬ X g) : OwnsC base w' v cs := by
 refine ⟨h.1, ?_⟩
 rcases h.2 with ⟨a, b⟩ | ⟨g, cap, cur, rfl, hb, hg, r⟩
 ·exact .inl ⟨a, b⟩
 ·exact .inr ⟨g, cap, cur, rfl, hb, (hk.same g (Array.getElem?_eq_some_iff.1 hg).1 (hx g rfl)).trans hg, r⟩
def OutRd (base : Nat) (q : Int × Int × Int × Int × List Ce) (w : World) (e : Ending) (w' : World) : Prop := Below base w w' ∧ ∃ v, e = .returned (.tuple #[.agg #[.int .i64 (q.2.2.1), .int .i64 (q.2.2.2.1), v], .int .i64 q.2.1, .int .i64 q.1]) ∧ OwnsC base w' v q.2.2.2.2
theorem ownsC_ne {base k : Nat} {w : World} {v : Value} {cs : List Ce} {xs : List Value} {T : TypeId} (h : OwnsC base w v cs) (hb : Blk w k xs T) (hT : T ≠ 47) : v.ownBlock ≠ some k := by
 intro e
 rcases h.2 with ⟨rfl, _⟩ | ⟨g, cap, cur, rfl, _, hg, _⟩
 ·simp [Value.ownBlock] at e
 ·have e2 : g = k := by simpa [Value.ownBlock] using e
  subst e2; unfold Blk at hb; rw [hb] at hg
  injection hg with hg
  injection hg with _ e3 _
  exact hT e3
theorem kept_below {base b : Nat} {w wr w' : World} {v : Value} {cs : List Ce} (h : OwnsC base wr v cs) (hb : base ≤ b) (hw : Below base w wr) (hz : base ≤ wr.heap.size) (hk : KeptBut (fun q => q = b ∨ v.ownBlock = some q) wr w') : Below base w w' :=
 KeptBut.toBelow hw hk hz (fun k hk1 hk2 => by
  rcases hk2 with rfl | hk2
  ·omega
  ·have := own_block_lt h k hk2
   omega)
theorem cellP_len {wd ht : Int} {cs cs' : List Ce} {t t' : Tm} {l : List UInt8} {n : Nat} (hfit : fitsS wd ht = true) (hlen : (cs.length : Int) = wd * ht) (h : cellP wd ht cs t l = some (cs', t', n)) : cs'.length = cs.length := by
 cases l with
 | nil => cases h
 | cons c r =>
  rw [cellP_eq] at h
  split at h
  ·cases h
  ·split at h
   ·cases h
   ·rename_i hn
    injection h with h
    obtain ⟨rfl, _⟩ := Prod.mk.inj h
    have hp : plcS wd ht t.x t.y = true := by
     cases hp : plcS wd ht t.x t.y
     ·exact absurd (.inr (.inl hp)) hn
     ·rfl
    have hr := fun h => hn (.inr (.inr h))
    obtain ⟨p1, p2, p3, p4⟩ := plcS_true.1 hp; obtain ⟨z0, z1, z2, z3, z4⟩ := fitsS_true.1 hfit; obtain ⟨e1, e2⟩ := row_end z0 p2 p4; exact splC_len (by omega)
theorem bAt_get {l : List UInt8} {p : Nat} {c : UInt8} (h : l[p]? = some c) : bAt (strL l) p = c.toNat := by
 have hl := (List.getElem?_eq_some_iff.1 h).1; rw [← bAt_eq (s := strL l) (i := p) (by rw [strL_size]; exact hl)]; have := (List.getElem?_eq_some_iff.1 h).2; rw [← this]
 simp [strL]
 rfl
set_option maxRecDepth 100000 in
theorem cread_any (wd ht : Int) (cs : List Ce) (v : Value) (l : List UInt8) (w : World) (h1 : I64 wd) (h2 : I64 ht) (hl : Row w.heap.size 11 Ce.enc w v cs) (hll : l.length ≤ 9223372036854775807) (hD : DecT w) :
  Calls Tryz.prog 59 #[.agg #[.int .i64 (wd), .int .i64 (ht), v], .string (strL l)] w (OutRd w.heap.size (readS wd ht cs l) w) := by
 have C1 := fun w1 (hb : Below w.heap.size w w1) => ccheck_any wd ht cs v w1 h1 h2 ((hl.below hb).mono hb.size)
 obtain ⟨s0, cap, rfl, hmax⟩ := hl.shape; obtain ⟨Q, hQ⟩ := exx (readS wd ht cs l); rw [hQ]; unfold readS at hQ; have hl0 := hdh hl; obtain ⟨n, en⟩ := exx (cs.length); rw [en] at hl0 C1 hmax ⊢; obtain ⟨S, hS⟩ := exx (strL l)
 have hSz : S.size = l.length := by rw [← hS]; exact strL_size _
 rw [hS]; obtain ⟨L, hL⟩ := exx (l.length); rw [hL] at hSz hQ hll; clear hl; replace hS := hdh hS; replace hD := hdh hD
 go_enter Tryz.func59, Tryz.ntmps59
 go_upto_region 1 with fail
 obtain ⟨W, hW⟩ := exx ((w.alloc (.cells #[.int .i64 wd, .int .i64 ht, .slice s0 n cap] 40)).alloc (.cells #[.int .i64 0, .int .i64 0, .slice none 0 0] 40))
 have B2 : Blk W w.heap.size [.int .i64 wd, .int .i64 ht, .slice s0 n cap] 40 := by rw [← hW]; exact (Blk.new' rfl).alloc _
 have B4 : Blk W (w.heap.size + 1) [.int .i64 0, .int .i64 0, .slice none 0 0] 40 := by rw [← hW]; exact Blk.new' (by simp)
 have hbw : Below w.heap.size w W := by rw [← hW]; exact belt
 rw [hW]; clear hW; have yB2 := B2.lt; have yB4 := B4.lt; have q0 := B2.cell (o := 0) rfl; have q1 := B2.cell (o := 1) rfl; have q2 := B2.cell (o := 2) rfl; replace C1 := hdh (C1 W hbw)
 rcases chkS_cases wd ht cs with e0 | e0
 ·rw [e0] at C1
  rw [if_pos e0] at hQ
  go_upto_region 4 with (go_at_call 49; (with_reducible refine cmm C1.out fun w1 hb1 => ?_))
  replace B2 := B2.below hb1 yB2; replace B4 := B4.below hb1 yB4; replace hbw := hbw.trans (hb1.mono hbw.size); clear q0 q1 q2 C1 hb1 yB2 yB4; have yB2 := B2.lt; have yB4 := B4.lt
  by_cases hbig : 1048576 < L
  ·rw [if_pos hbig] at hQ
   subst hQ
   have hbi : (1048576 : Int) < L := by omega
   have k0 := B4.cell (o := 0) rfl; have k1 := B4.cell (o := 1) rfl; have k2 := B4.cell (o := 2) rfl; have kf := B4.free; go_wp2; clear k0 k1 k2 kf; have HZ := Blk.put3 B4 rfl (.int .i64 0) (.int .i64 0) (.slice none 0 0); have hbZ : Below w.heap.size w (((w1.setCell ⟨(w.heap.size + 1), 0, none⟩ (.int .i64 0)).setCell ⟨(w.heap.size + 1), 1, none⟩ (.int .i64 0)).setCell ⟨(w.heap.size + 1), 2, none⟩ (.slice none 0 0)) := ((hbw.setCell (p := ⟨(w.heap.size + 1), 0, none⟩) (by show w.heap.size ≤ (w.heap.size + 1); omega) _).setCell (p := ⟨(w.heap.size + 1), 1, none⟩) (by show w.heap.size ≤ (w.heap.size + 1); omega) _).setCell (p := ⟨(w.heap.size + 1), 2, none⟩) (by show w.heap.size ≤ (w.heap.size + 1); omega) _
   generalize ((w1.setCell ⟨(w.heap.size + 1), 0, none⟩ (.int .i64 0)).setCell ⟨(w.heap.size + 1), 1, none⟩ (.int .i64 0)).setCell ⟨(w.heap.size + 1), 2, none⟩ (.slice none 0 0) = wZ at HZ hbZ ⊢; have jz0 := HZ.cell (o := 0) rfl; have jz1 := HZ.cell (o := 1) rfl; have jz2 := HZ.cell (o := 2) rfl; refine bodyPost_ret (v := .tuple #[.agg #[.int .i64 0, .int .i64 0, .slice none 0 0], .int .i64 0, .int .i64 3]) (by simp [results, Tryz.results59, go_sem, jz0, jz1, jz2]) rfl ⟨hbZ, _, rfl, OwnsC.nil _ _⟩
  ·rw [if_neg hbig] at hQ
   have hbi : ¬ (1048576 : Int) < L := by omega
   obtain ⟨hfit, hlen, hall⟩ := chkS_zero e0; obtain ⟨z0, z1, z2, z3, z4⟩ := fitsS_true.1 hfit
   have hn2 : n ≤ 262144 := by
    have h : (n : Int) ≤ 262144 := by rw [← en, hlen]; exact z4
    omega
   have CL := fun w1 (hb : Below w.heap.size w w1) => cclone_any cs _ w1 ((hl0.out.below hb).mono hb.size) (by omega)
   replace CL := hdh (CL w1 hbw); have q0 := B2.cell (o := 0) rfl; have q1 := B2.cell (o := 1) rfl; have q2 := B2.cell (o := 2) rfl; clear hl0 hmax hall e0
   go_upto_region 7 with (go_at_call 50; (with_reducible refine CL.out.mono ?_); rintro e w3 ⟨v3, rfl, hoc, hb3⟩; obtain ⟨sv, cv, hv3⟩ := own_slice hoc; rw [en] at hv3; subst hv3; replace B2 := B2.below hb3 yB2; replace B4 := B4.below hb3 yB4; have k2 := B2.cell (o := 2) rfl; have kf := B2.free)
   have G2 := B2.set 2 (.slice sv n cv); have G4 := B4.set_ne (a := ⟨w.heap.size, 2, none⟩) (by show w.heap.size + 1 ≠ w.heap.size; omega) (.slice sv n cv); have zz := hbw.size; have zz3 := hb3.size; have hoc2 : OwnsC w.heap.size w3 (.slice sv n cv) cs := own_less hoc (by omega); have goc : OwnsC w.heap.size _ (.slice sv n cv) cs := own_other hoc2 (a := ⟨w.heap.size, 2, none⟩) (fun g hg => by have := (own_block_lt hoc g hg).1; show g ≠ w.heap.size; omega) (.slice sv n cv); have hbX := (hbw.trans (hb3.mono hbw.size)).setCell (p := ⟨w.heap.size, 2, none⟩) lrr (.slice sv n cv); clear hoc hoc2 hb3 B2 B4 k2 kf q0 q1 q2 CL hbw
   generalize w3.setCell ⟨w.heap.size, 2, none⟩ (.slice sv n cv) = w4 at G2 G4 goc hbX ⊢; have q0 := G2.cell (o := 0) rfl; have q1 := G2.cell (o := 1) rfl; have q2 := G2.cell (o := 2) rfl; have yG2 := G2.lt
   go_upto_region 8 with fail
   obtain ⟨W5, hW5⟩ := exx (w4.alloc (.cells #[.int .i64 wd, .int .i64 ht, .slice sv n cv, .int .i64 0, .int .i64 0, .int .u8 0, .int .u8 0, .int .u8 0, .int .u8 0, .int .u8 0, .int .u8 0, .int .u8 0, .int .u8 0] 167)); obtain ⟨b, hb⟩ := exx (w4.heap.size)
   have T5 : TmO w.heap.size b wd ht (.slice sv n cv) cs Tm.zero W5 := by rw [← hW5]; exact ⟨Blk.new' hb.symm, goc.alloc _⟩
   have B4 : Blk W5 (w.heap.size + 1) [.int .i64 0, .int .i64 0, .slice none 0 0] 40 := by rw [← hW5]; exact G4.alloc _
   have hb5 : Below w.heap.size w W5 := by rw [← hW5]; exact hbX.alloc hbX.size _
   have hbs : w.heap.size + 1 < b := by rw [← hb]; exact G4.lt
   rw [hW5, hb]; clear hW5 hb G2 G4 goc hbX q0 q1 q2 yG2 zz zz3 yB2 yB4; obtain ⟨RL, hRL⟩ := exx (readL wd ht cs Tm.zero l 0); rw [hRL] at hQ; have hgo := hdh (show readL wd ht cs Tm.zero (l.drop 0) 0 = RL from hRL); replace hQ := hdh hQ; replace T5 := hdh T5; replace B4 := hdh B4; replace hb5 := hdh hb5; replace hL := hdh hL; replace en := hdh en; clear hRL
   go_upto_region 9 with fail
   go_loopw [9] (fun av wr => ∃ (p : Nat) (cur : List Ce) (t : Tm), p ≤ L ∧ av = .int .i64 p ∧ Hid (readL wd ht cur t (l.drop p) p = RL) ∧ Hid (TmO w.heap.size b wd ht (.slice sv n cv) cur t wr) ∧ Hid (cur.length = n) ∧ Hid (Blk wr (w.heap.size + 1) [.int .i64 0, .int .i64 0, .slice none 0 0] 40) ∧ Hid (Below w.heap.size w wr)) (fun av _ => L - (intOf av).toNat)
   case atStart => exact ⟨0, cs, Tm.zero, Nat.zero_le _, rfl, hgo, T5, en, B4, hb5⟩
   case round =>
    clear hgo T5 B4 hb5; obtain ⟨p, cur, t, hp, rfl, hgo, hT, hcl, hB4, hb⟩ := hrel; obtain ⟨W6, rfl⟩ : ∃ W6, W6 = wr := ⟨_, rfl⟩; have zb := hb.out.size; have yT := hT.out.1.lt
    by_cases hpL : p < L
    ·have hpi : (p : Int) < L := by omega
     obtain ⟨c, hc⟩ := get_at hL.out hpL; have X1 := bAt_eq (s := S) (i := p) (by omega)
     have hcb : bAt S p = c.toNat := by rw [← hS.out]; exact bAt_get hc
     have hdr := drop_get hc; obtain ⟨r, hr⟩ := exx (l.drop (p + 1)); rw [hr] at hdr
     have hrl : r.length < 1048576 := by rw [← hr, List.length_drop, hL.out]; omega
     have hsx := strL_from l p hS.out; rw [hL.out, hdr] at hsx; have hgo2 := hgo.out; rw [hdr, readL_step (by simp)] at hgo2
     have hplc : (p : Int) ≤ L := by omega
     have hDW := hD.out.below hb.out lrr; replace hdr := hdh hdr; replace hr := hdh hr; replace hc := hdh hc
     by_cases h27 : c = 27
     ·have hc27 : ((c.toNat : Int) == 27) = true := by rw [h27]; rfl
      have EC := resc_any wd ht (.slice sv n cv) t (c :: r) b W6 hT.out.1 (by rw [List.length_cons]; omega)
      have hst : stepP wd ht cur t (c :: r) = match escP t (c :: r) with | none => none | some (t', n) => some (cur, t', n) := by unfold stepP; rw [h27]; rfl
      rw [hst] at hgo2
      cases hE : escP t (c :: r) with
      | none =>
       rw [hE] at EC hgo2; dsimp only at hgo2; subst hgo2; replace EC := hdh EC; have hQ2 := hQ.out; dsimp only at hQ2; subst hQ2; subst h27
       go_upto_region 14 with (go_at_call 114; (with_reducible refine (EC.out).mono ?_); rintro e w7 ⟨rfl, hB7, hk7⟩)
       have B7 := hB4.out.but hk7 (by omega); have hb7 : Below w.heap.size w w7 := KeptBut.toBelow hb.out hk7 zb (fun k h1 h2 => by omega); have k0 := B7.cell (o := 0) rfl; have k1 := B7.cell (o := 1) rfl; have k2 := B7.cell (o := 2) rfl; have kf := B7.free; have yB7 := B7.lt; go_wp2; clear k0 k1 k2 kf; have HZ := Blk.put3 B7 rfl (.int .i64 0) (.int .i64 0) (.slice none 0 0); have hbZ : Below w.heap.size w (((w7.setCell ⟨(w.heap.size + 1), 0, none⟩ (.int .i64 0)).setCell ⟨(w.heap.size + 1), 1, none⟩ (.int .i64 0)).setCell ⟨(w.heap.size + 1), 2, none⟩ (.slice none 0 0)) := ((hb7.setCell (p := ⟨(w.heap.size + 1), 0, none⟩) (by show w.heap.size ≤ (w.heap.size + 1); omega) _).setCell (p := ⟨(w.heap.size + 1), 1, none⟩) (by show w.heap.size ≤ (w.heap.size + 1); omega) _).setCell (p := ⟨(w.heap.size + 1), 2, none⟩) (by show w.heap.size ≤ (w.heap.size + 1); omega) _
       generalize ((w7.setCell ⟨(w.heap.size + 1), 0, none⟩ (.int .i64 0)).setCell ⟨(w.heap.size + 1), 1, none⟩ (.int .i64 0)).setCell ⟨(w.heap.size + 1), 2, none⟩ (.slice none 0 0) = wZ at HZ hbZ ⊢; have jz0 := HZ.cell (o := 0) rfl; have jz1 := HZ.cell (o := 1) rfl; have jz2 := HZ.cell (o := 2) rfl; refine bodyPost_ret (v := .tuple #[.agg #[.int .i64 0, .int .i64 0, .slice none 0 0], .int .i64 p, .int .i64 150]) (by simp [results, Tryz.results59, go_sem, jz0, jz1, jz2]) rfl ⟨hbZ, _, rfl, OwnsC.nil _ _⟩
      | some q =>
       obtain ⟨t', m⟩ := q; have hm := escP_pos hE; rw [List.length_cons] at hm
       have hrL : r.length + 1 + p = L := by rw [← hr.out, List.length_drop, hL.out]; omega
       rw [hE] at EC hgo2; dsimp only at hgo2; rw [← hdr.out, List.drop_drop] at hgo2; replace hgo2 := hdh hgo2; unfold stepN stepT at EC; dsimp only at EC; replace EC := hdh EC; subst h27
       have hm0 : ((m : Int) == 0) = false := by simp; omega
       have hm1 : ¬ (m : Int) = 0 := by omega
       go_upto_region 14 with (go_at_call 114; (with_reducible refine (EC.out).mono ?_); rintro e w7 ⟨rfl, hB7, hk7⟩)
       have B7 := hB4.out.but hk7 (by omega); have hb7 : Below w.heap.size w w7 := KeptBut.toBelow hb.out hk7 zb (fun k h1 h2 => by omega); have ho7 : OwnsC w.heap.size w7 (.slice sv n cv) cur := own_kept2 hT.out.2 hk7 (fun g hg he => ownsC_ne hT.out.2 hT.out.1 (by decide) (by rw [hg, he])); go_wp2; go_roundw
       case rel => exact ⟨p + m, cur, t', by omega, by go_num, hgo2, hdh ⟨hB7, ho7⟩, hcl, hdh B7, hdh hb7⟩
       case measure => (simp [intOf]) <;> omega
     ·have hc27 : ((c.toNat : Int) == 27) = false := by simp; intro h; exact h27 (UInt8.toNat_inj.1 (by show c.toNat = 27; omega))
      have EC := rcell_any wd ht cur (.slice sv n cv) t c r b w.heap.size W6 hT.out.1 hT.out.2 hfit (by rw [hcl.out, ← en.out]; exact hlen) hrl hDW
      have hst : stepP wd ht cur t (c :: r) = cellP wd ht cur t (c :: r) := by unfold stepP; rw [if_neg]; simp; exact h27
      rw [hst] at hgo2
      cases hE : cellP wd ht cur t (c :: r) with
      | none =>
       rw [hE] at EC hgo2; dsimp only at hgo2; subst hgo2; replace EC := hdh EC; have hQ2 := hQ.out; dsimp only at hQ2; subst hQ2
       go_upto_region 14 with (go_at_call 113; (with_reducible refine (EC.out).mono ?_); rintro e w7 ⟨rfl, hB7, hk7⟩)
       have B7 := hB4.out.but hk7 (fun h => h.elim (by omega) (fun h => ownsC_ne hT.out.2 hB4.out (by decide) h)); have hb7 : Below w.heap.size w w7 := kept_below hT.out.2 (by omega) hb.out zb hk7; have k0 := B7.cell (o := 0) rfl; have k1 := B7.cell (o := 1) rfl; have k2 := B7.cell (o := 2) rfl; have kf := B7.free; have yB7 := B7.lt; go_wp2; clear k0 k1 k2 kf; have HZ := Blk.put3 B7 rfl (.int .i64 0) (.int .i64 0) (.slice none 0 0); have hbZ : Below w.heap.size w (((w7.setCell ⟨(w.heap.size + 1), 0, none⟩ (.int .i64 0)).setCell ⟨(w.heap.size + 1), 1, none⟩ (.int .i64 0)).setCell ⟨(w.heap.size + 1), 2, none⟩ (.slice none 0 0)) := ((hb7.setCell (p := ⟨(w.heap.size + 1), 0, none⟩) (by show w.heap.size ≤ (w.heap.size + 1); omega) _).setCell (p := ⟨(w.heap.size + 1), 1, none⟩) (by show w.heap.size ≤ (w.heap.size + 1); omega) _).setCell (p := ⟨(w.heap.size + 1), 2, none⟩) (by show w.heap.size ≤ (w.heap.size + 1); omega) _
       generalize ((w7.setCell ⟨(w.heap.size + 1), 0, none⟩ (.int .i64 0)).setCell ⟨(w.heap.size + 1), 1, none⟩ (.int .i64 0)).setCell ⟨(w.heap.size + 1), 2, none⟩ (.slice none 0 0) = wZ at HZ hbZ ⊢; have jz0 := HZ.cell (o := 0) rfl; have jz1 := HZ.cell (o := 1) rfl; have jz2 := HZ.cell (o := 2) rfl; refine bodyPost_ret (v := .tuple #[.agg #[.int .i64 0, .int .i64 0, .slice none 0 0], .int .i64 p, .int .i64 150]) (by simp [results, Tryz.results59, go_sem, jz0, jz1, jz2]) rfl ⟨hbZ, _, rfl, OwnsC.nil _ _⟩
      | some q =>
       obtain ⟨cur', t', m⟩ := q; have hm := cellP_pos hE; have hcl' := cellP_len hfit (by rw [hcl.out, ← en.out]; exact hlen) hE; rw [List.length_cons] at hm
       have hrL : r.length + 1 + p = L := by rw [← hr.out, List.length_drop, hL.out]; omega
       rw [hE] at EC hgo2; dsimp only at hgo2; rw [← hdr.out, List.drop_drop] at hgo2; replace hgo2 := hdh hgo2; unfold cellN cellC cellT at EC; dsimp only at EC; replace EC := hdh EC
       have hm0 : ((m : Int) == 0) = false := by simp; omega
       have hm1 : ¬ (m : Int) = 0 := by omega
       go_upto_region 14 with (go_at_call 113; (with_reducible refine (EC.out).mono ?_); rintro e w7 ⟨rfl, hT7, hk7⟩)
       have B7 := hB4.out.but hk7 (fun h => h.elim (by omega) (fun h => ownsC_ne hT.out.2 hB4.out (by decide) h)); have hb7 : Below w.heap.size w w7 := kept_below hT.out.2 (by omega) hb.out zb hk7; go_wp2; go_roundw
       case rel => exact ⟨p + m, cur', t', by omega, by go_num, hgo2, hdh hT7, hdh (hcl'.trans hcl.out), hdh B7, hdh hb7⟩
       case measure => (simp [intOf]) <;> omega
    ·obtain rfl : L = p := by omega
     have hpi : ¬ (L : Int) < L := by omega
     have hR : Except.ok cur = RL := by
      have h := hgo.out; rw [List.drop_of_length_le (by rw [hL.out]; exact Nat.le_refl _)] at h; exact h
     subst hR; have hQ2 := hQ.out; dsimp only at hQ2; subst hQ2; have B6 := hB4.out; have k0 := B6.cell (o := 0) rfl; have k1 := B6.cell (o := 1) rfl; have k2 := B6.cell (o := 2) rfl; have kf := B6.free; have yB6 := B6.lt; have j0 := hT.out.1.cell (o := 0) rfl; have j1 := hT.out.1.cell (o := 1) rfl; have j2 := hT.out.1.cell (o := 2) rfl; go_wp2; clear k0 k1 k2 kf j0 j1 j2; have hbb := hb.out; have ne := ownsC_ne hT.out.2 B6 (by decide); have hoZ := own_other (own_other (own_other hT.out.2 (a := ⟨w.heap.size + 1, 0, none⟩) (fun g hg e => ne (by rw [hg, e])) (.int .i64 wd)) (a := ⟨w.heap.size + 1, 1, none⟩) (fun g hg e => ne (by rw [hg, e])) (.int .i64 ht)) (a := ⟨w.heap.size + 1, 2, none⟩) (fun g hg e => ne (by rw [hg, e])) (.slice sv n cv)
     have HZ := Blk.put3 B6 rfl (.int .i64 wd) (.int .i64 ht) (.slice sv n cv); have hbZ : Below w.heap.size w (((W6.setCell ⟨w.heap.size + 1, 0, none⟩ (.int .i64 wd)).setCell ⟨w.heap.size + 1, 1, none⟩ (.int .i64 ht)).setCell ⟨w.heap.size + 1, 2, none⟩ (.slice sv n cv)) := ((hbb.setCell (p := ⟨w.heap.size + 1, 0, none⟩) (by show w.heap.size ≤ w.heap.size + 1; omega) _).setCell (p := ⟨w.heap.size + 1, 1, none⟩) (by show w.heap.size ≤ w.heap.size + 1; omega) _).setCell (p := ⟨w.heap.size + 1, 2, none⟩) (by show w.heap.size ≤ w.heap.size + 1; omega) _; generalize ((W6.setCell ⟨w.heap.size + 1, 0, none⟩ (.int .i64 wd)).setCell ⟨w.heap.size + 1, 1, none⟩ (.int .i64 ht)).setCell ⟨w.heap.size + 1, 2, none⟩ (.slice sv n cv) = wZ at HZ hbZ hoZ ⊢
     have jz0 := HZ.cell (o := 0) rfl; have jz1 := HZ.cell (o := 1) rfl; have jz2 := HZ.cell (o := 2) rfl; refine bodyPost_ret (v := .tuple #[.agg #[.int .i64 wd, .int .i64 ht, .slice sv n cv], .int .i64 0, .int .i64 0]) (by simp [results, Tryz.results59, go_sem, jz0, jz1, jz2]) rfl ⟨hbZ, _, rfl, hoZ⟩
 ·rw [e0] at C1
  rw [if_neg (by omega)] at hQ; rw [e0] at hQ; subst hQ
  go_wp2_with (go_at_call 49; (with_reducible refine cmm C1.out fun w1 hb1 => ?_); replace B4 := B4.below hb1 yB4; replace hbw := hbw.trans (hb1.mono hbw.size); have k0 := B4.cell (o := 0) rfl; have k1 := B4.cell (o := 1) rfl; have k2 := B4.cell (o := 2) rfl; have kf := B4.free)
  clear k0 k1 k2 kf; have HZ := Blk.put3 B4 rfl (.int .i64 0) (.int .i64 0) (.slice none 0 0); have hbZ : Below w.heap.size w (((w1.setCell ⟨(w.heap.size + 1), 0, none⟩ (.int .i64 0)).setCell ⟨(w.heap.size + 1), 1, none⟩ (.int .i64 0)).setCell ⟨(w.heap.size + 1), 2, none⟩ (.slice none 0 0)) := ((hbw.setCell (p := ⟨(w.heap.size + 1), 0, none⟩) (by show w.heap.size ≤ (w.heap.size + 1); omega) _).setCell (p := ⟨(w.heap.size + 1), 1, none⟩) (by show w.heap.size ≤ (w.heap.size + 1); omega) _).setCell (p := ⟨(w.heap.size + 1), 2, none⟩) (by show w.heap.size ≤ (w.heap.size + 1); omega) _; generalize ((w1.setCell ⟨(w.heap.size + 1), 0, none⟩ (.int .i64 0)).setCell ⟨(w.heap.size + 1), 1, none⟩ (.int .i64 0)).setCell ⟨(w.heap.size + 1), 2, none⟩ (.slice none 0 0) = wZ at HZ hbZ ⊢
  have jz0 := HZ.cell (o := 0) rfl; have jz1 := HZ.cell (o := 1) rfl; have jz2 := HZ.cell (o := 2) rfl; refine bodyPost_ret (v := .tuple #[.agg #[.int .i64 0, .int .i64 0, .slice none 0 0], .int .i64 0, .int .i64 150]) (by simp [results, Tryz.results59, go_sem, jz0, jz1, jz2]) rfl ⟨hbZ, _, rfl, OwnsC.nil _ _⟩
end Go.Proofs.YtfcphagmjijmkaaGreatDoor
