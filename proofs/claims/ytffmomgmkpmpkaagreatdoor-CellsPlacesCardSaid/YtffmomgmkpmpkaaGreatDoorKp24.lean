/-
  Cells: a terminal's text is read, by the program.
-/
import Derived.Lib.OthersKept
import Derived.Test.YtffmomgmkpmpkaaGreatDoorProg
import Derived.Test.YtffmomgmkpmpkaaGreatDoorKp10
import Derived.Test.YtffmomgmkpmpkaaGreatDoorKp23
namespace Go.Proofs.YtffmomgmkpmpkaaGreatDoor
open Go.RowKit
set_option linter.unusedVariables false
attribute [local go_sem] vwp vUpon_value vUpon_skip vUpon_enter vUpon_row
set_option linter.unusedSimpArgs false
set_option linter.unusedVariables false
/-- What Read answers: the error, its place, the screen. -/
def OutRd (base : Nat) (q : Int × Int × Int × Int × List Ce) (w : World) (e : Ending) (w' : World) : Prop := Below base w w' ∧ ∃ v, e = .returned (.tuple #[.agg #[.int .i64 (q.2.2.1), .int .i64 (q.2.2.2.1), v], .int .i64 q.2.1, .int .i64 q.1]) ∧ OwnsC base w' v q.2.2.2.2
theorem ownsC_ne {base k : Nat} {w : World} {v : Value} {cs : List Ce} {xs : List Value} {T : TypeId} (h : OwnsC base w v cs) (hb : Blk w k xs T) (hT : T ≠ 52) : v.ownBlock ≠ some k := by
  intro e
  rcases h.2 with ⟨rfl, _⟩ | ⟨g, cap, cur, rfl, _, hg, _⟩
  · simp [Value.ownBlock] at e
  · have e2 : g = k := by simpa [Value.ownBlock] using e
    subst e2
    unfold Blk at hb
    rw [hb] at hg
    injection hg with hg
    injection hg with _ e3 _
    exact hT e3
theorem kept_below {base b : Nat} {w wr w' : World} {v : Value} {cs : List Ce} (h : OwnsC base wr v cs) (hb : base ≤ b) (hw : Below base w wr) (hz : base ≤ wr.heap.size) (hk : KeptBut (fun q => q = b ∨ v.ownBlock = some q) wr w') : Below base w w' :=
  KeptBut.toBelow hw hk hz (fun k hk1 hk2 => by
    rcases hk2 with rfl | hk2
    · omega
    · have := own_block_lt h k hk2
      omega)
theorem cellP_len {wd ht : Int} {cs cs' : List Ce} {t t' : Tm} {l : List UInt8} {n : Nat} (hfit : fitsS wd ht = true) (hlen : (cs.length : Int) = wd * ht) (h : cellP wd ht cs t l = some (cs', t', n)) : cs'.length = cs.length := by
  cases l with
  | nil => cases h
  | cons c r =>
    rw [cellP_eq] at h
    split at h
    · cases h
    · split at h
      · cases h
      · rename_i hn
        injection h with h
        obtain ⟨rfl, _⟩ := Prod.mk.inj h
        have hp : plcS wd ht t.x t.y = true := by
          cases hp : plcS wd ht t.x t.y
          · exact absurd (.inr (.inl hp)) hn
          · rfl
        have hr := fun h => hn (.inr (.inr h))
        obtain ⟨p1, p2, p3, p4⟩ := plcS_true.1 hp
        obtain ⟨z0, z1, z2, z3, z4⟩ := fitsS_true.1 hfit
        obtain ⟨e1, e2⟩ := row_end z0 p2 p4
        exact splC_len (by omega)
theorem bAt_get {l : List UInt8} {p : Nat} {c : UInt8} (h : l[p]? = some c) : bAt (strL l) p = c.toNat := by
  have hl := (List.getElem?_eq_some_iff.1 h).1
  rw [← bAt_eq (s := strL l) (i := p) (by rw [strL_size]; exact hl)]
  have := (List.getElem?_eq_some_iff.1 h).2
  rw [← this]
  simp [strL]
  rfl
set_option maxHeartbeats 8000000 in
set_option maxRecDepth 100000 in
theorem cread_any (wd ht : Int) (cs : List Ce) (v : Value) (l : List UInt8) (w : World) (h1 : I64 wd) (h2 : I64 ht) (hl : Row w.heap.size 11 Ce.enc w v cs) (hll : l.length ≤ 9223372036854775807) (hD : DecT w) :
  Calls Tryz.prog 19 #[.agg #[.int .i64 (wd), .int .i64 (ht), v], .string (strL l)] w (OutRd w.heap.size (readS wd ht cs l) w) := by
 have C1 := fun w1 (hb : Below w.heap.size w w1) => ccheck_any wd ht cs v w1 h1 h2 ((hl.below hb).mono hb.size)
 obtain ⟨s0, cap, rfl, hmax⟩ := hl.shape
 obtain ⟨Q, hQ⟩ : ∃ Q, readS wd ht cs l = Q := ⟨_, rfl⟩
 rw [hQ]
 unfold readS at hQ
 have hl0 := Lib.hid hl
 obtain ⟨n, en⟩ : ∃ n, cs.length = n := ⟨_, rfl⟩
 rw [en] at hl0 C1 hmax ⊢
 obtain ⟨S, hS⟩ : ∃ s, strL l = s := ⟨_, rfl⟩
 have hSz : S.size = l.length := by rw [← hS]; exact strL_size _
 rw [hS]
 obtain ⟨L, hL⟩ : ∃ L, l.length = L := ⟨_, rfl⟩
 rw [hL] at hSz hQ hll
 clear hl
 replace hS := Lib.hid hS
 replace hD := Lib.hid hD
 go_enter Tryz.func19, Tryz.ntmps19
 go_upto_region 1 with fail
 obtain ⟨W, hW⟩ : ∃ W, (w.alloc (.cells #[.int .i64 wd, .int .i64 ht, .slice s0 n cap] 26)).alloc (.cells #[.int .i64 0, .int .i64 0, .slice none 0 0] 26) = W := ⟨_, rfl⟩
 have B2 : Blk W w.heap.size [.int .i64 wd, .int .i64 ht, .slice s0 n cap] 26 := by rw [← hW]; exact (Blk.new' rfl).alloc _
 have B4 : Blk W (w.heap.size + 1) [.int .i64 0, .int .i64 0, .slice none 0 0] 26 := by rw [← hW]; exact Blk.new' (by simp)
 have hbw : Below w.heap.size w W := by rw [← hW]; exact belt
 rw [hW]
 clear hW
 have yB2 := B2.lt
 have yB4 := B4.lt
 have q0 := B2.cell (o := 0) rfl
 have q1 := B2.cell (o := 1) rfl
 have q2 := B2.cell (o := 2) rfl
 replace C1 := Lib.hid (C1 W hbw)
 rcases chkS_cases wd ht cs with e0 | e0
 ·rw [e0] at C1
  rw [if_pos e0] at hQ
  go_upto_region 4 with (go_at_call 15; (with_reducible refine C1.out.mono ?_); rintro e w1 ⟨rfl, hb1⟩)
  replace B2 := B2.below hb1 yB2
  replace B4 := B4.below hb1 yB4
  replace hbw := hbw.trans (hb1.mono hbw.size)
  clear q0 q1 q2 C1 hb1 yB2 yB4
  have yB2 := B2.lt
  have yB4 := B4.lt
  by_cases hbig : 1048576 < L
  ·rw [if_pos hbig] at hQ
   subst hQ
   have hbi : (1048576 : Int) < L := by omega
   have k0 := B4.cell (o := 0) rfl
   have k1 := B4.cell (o := 1) rfl
   have k2 := B4.cell (o := 2) rfl
   have kf := B4.free
   go_wp2
   clear k0 k1 k2 kf
   have HZ := Blk.put3 B4 rfl (.int .i64 0) (.int .i64 0) (.slice none 0 0)
   have hbZ : Below w.heap.size w (((w1.setCell ⟨(w.heap.size + 1), 0, none⟩ (.int .i64 0)).setCell ⟨(w.heap.size + 1), 1, none⟩ (.int .i64 0)).setCell ⟨(w.heap.size + 1), 2, none⟩ (.slice none 0 0)) := ((hbw.setCell (p := ⟨(w.heap.size + 1), 0, none⟩) (by show w.heap.size ≤ (w.heap.size + 1); omega) _).setCell (p := ⟨(w.heap.size + 1), 1, none⟩) (by show w.heap.size ≤ (w.heap.size + 1); omega) _).setCell (p := ⟨(w.heap.size + 1), 2, none⟩) (by show w.heap.size ≤ (w.heap.size + 1); omega) _
   generalize ((w1.setCell ⟨(w.heap.size + 1), 0, none⟩ (.int .i64 0)).setCell ⟨(w.heap.size + 1), 1, none⟩ (.int .i64 0)).setCell ⟨(w.heap.size + 1), 2, none⟩ (.slice none 0 0) = wZ at HZ hbZ ⊢
   have jz0 := HZ.cell (o := 0) rfl
   have jz1 := HZ.cell (o := 1) rfl
   have jz2 := HZ.cell (o := 2) rfl
   refine bodyPost_ret (v := .tuple #[.agg #[.int .i64 0, .int .i64 0, .slice none 0 0], .int .i64 0, .int .i64 3]) (by simp [results, Tryz.results19, go_sem, jz0, jz1, jz2]) rfl ⟨hbZ, _, rfl, OwnsC.nil _ _⟩
  ·rw [if_neg hbig] at hQ
   have hbi : ¬ (1048576 : Int) < L := by omega
   obtain ⟨hfit, hlen, hall⟩ := chkS_zero e0
   obtain ⟨z0, z1, z2, z3, z4⟩ := fitsS_true.1 hfit
   have hn2 : n ≤ 262144 := by
    have h : (n : Int) ≤ 262144 := by rw [← en, hlen]; exact z4
    omega
   have CL := fun w1 (hb : Below w.heap.size w w1) => cclone_any cs _ w1 ((hl0.out.below hb).mono hb.size) (by omega)
   replace CL := Lib.hid (CL w1 hbw)
   have q0 := B2.cell (o := 0) rfl
   have q1 := B2.cell (o := 1) rfl
   have q2 := B2.cell (o := 2) rfl
   clear hl0 hmax hall e0
   go_upto_region 7 with (go_at_call 41; (with_reducible refine CL.out.mono ?_); rintro e w3 ⟨v3, rfl, hoc, hb3⟩; obtain ⟨sv, cv, hv3⟩ := own_slice hoc; rw [en] at hv3; subst hv3; replace B2 := B2.below hb3 yB2; replace B4 := B4.below hb3 yB4; have k2 := B2.cell (o := 2) rfl; have kf := B2.free)
   have G2 := B2.set 2 (.slice sv n cv)
   have G4 := B4.set_ne (a := ⟨w.heap.size, 2, none⟩) (by show w.heap.size + 1 ≠ w.heap.size; omega) (.slice sv n cv)
   have zz := hbw.size
   have zz3 := hb3.size
   have hoc2 : OwnsC w.heap.size w3 (.slice sv n cv) cs := own_less hoc (by omega)
   have goc : OwnsC w.heap.size _ (.slice sv n cv) cs := own_other hoc2 (a := ⟨w.heap.size, 2, none⟩) (fun g hg => by have := (own_block_lt hoc g hg).1; show g ≠ w.heap.size; omega) (.slice sv n cv)
   have hbX := (hbw.trans (hb3.mono hbw.size)).setCell (p := ⟨w.heap.size, 2, none⟩) (Nat.le_refl _) (.slice sv n cv)
   clear hoc hoc2 hb3 B2 B4 k2 kf q0 q1 q2 CL hbw
   generalize w3.setCell ⟨w.heap.size, 2, none⟩ (.slice sv n cv) = w4 at G2 G4 goc hbX ⊢
   have q0 := G2.cell (o := 0) rfl
   have q1 := G2.cell (o := 1) rfl
   have q2 := G2.cell (o := 2) rfl
   have yG2 := G2.lt
   go_upto_region 8 with fail
   obtain ⟨W5, hW5⟩ : ∃ W5, w4.alloc (.cells #[.int .i64 wd, .int .i64 ht, .slice sv n cv, .int .i64 0, .int .i64 0, .int .u8 0, .int .u8 0, .int .u8 0, .int .u8 0, .int .u8 0, .int .u8 0, .int .u8 0, .int .u8 0] 97) = W5 := ⟨_, rfl⟩
   obtain ⟨b, hb⟩ : ∃ b, w4.heap.size = b := ⟨_, rfl⟩
   have T5 : TmO w.heap.size b wd ht (.slice sv n cv) cs Tm.zero W5 := by rw [← hW5]; exact ⟨Blk.new' hb.symm, goc.alloc _⟩
   have B4 : Blk W5 (w.heap.size + 1) [.int .i64 0, .int .i64 0, .slice none 0 0] 26 := by rw [← hW5]; exact G4.alloc _
   have hb5 : Below w.heap.size w W5 := by rw [← hW5]; exact hbX.alloc hbX.size _
   have hbs : w.heap.size + 1 < b := by rw [← hb]; exact G4.lt
   rw [hW5, hb]
   clear hW5 hb G2 G4 goc hbX q0 q1 q2 yG2 zz zz3 yB2 yB4
   obtain ⟨RL, hRL⟩ : ∃ R, readL wd ht cs Tm.zero l 0 = R := ⟨_, rfl⟩
   rw [hRL] at hQ
   have hgo := Lib.hid (show readL wd ht cs Tm.zero (l.drop 0) 0 = RL from hRL)
   replace hQ := Lib.hid hQ
   replace T5 := Lib.hid T5
   replace B4 := Lib.hid B4
   replace hb5 := Lib.hid hb5
   replace hL := Lib.hid hL
   replace en := Lib.hid en
   clear hRL
   go_upto_region 9 with fail
   go_loopw [9] (fun av wr => ∃ (p : Nat) (cur : List Ce) (t : Tm), p ≤ L ∧ av = .int .i64 p ∧ Hid (readL wd ht cur t (l.drop p) p = RL) ∧ Hid (TmO w.heap.size b wd ht (.slice sv n cv) cur t wr) ∧ Hid (cur.length = n) ∧ Hid (Blk wr (w.heap.size + 1) [.int .i64 0, .int .i64 0, .slice none 0 0] 26) ∧ Hid (Below w.heap.size w wr)) (fun av _ => L - (intOf av).toNat)
   case atStart => exact ⟨0, cs, Tm.zero, Nat.zero_le _, rfl, hgo, T5, en, B4, hb5⟩
   case round =>
    clear hgo T5 B4 hb5
    obtain ⟨p, cur, t, hp, rfl, hgo, hT, hcl, hB4, hb⟩ := hrel
    obtain ⟨W6, rfl⟩ : ∃ W6, W6 = wr := ⟨_, rfl⟩
    have zb := hb.out.size
    have yT := hT.out.1.lt
    by_cases hpL : p < L
    ·have hpi : (p : Int) < L := by omega
     obtain ⟨c, hc⟩ := get_at hL.out hpL
     have X1 := bAt_eq (s := S) (i := p) (by omega)
     have hcb : bAt S p = c.toNat := by rw [← hS.out]; exact bAt_get hc
     have hdr := drop_get hc
     obtain ⟨r, hr⟩ : ∃ r, l.drop (p + 1) = r := ⟨_, rfl⟩
     rw [hr] at hdr
     have hrl : r.length < 1048576 := by rw [← hr, List.length_drop, hL.out]; omega
     have hsx := strL_from l p hS.out
     rw [hL.out, hdr] at hsx
     have hgo2 := hgo.out
     rw [hdr, readL_step (by simp)] at hgo2
     have hplc : (p : Int) ≤ L := by omega
     have hDW := hD.out.below hb.out (Nat.le_refl _)
     replace hdr := Lib.hid hdr
     replace hr := Lib.hid hr
     replace hc := Lib.hid hc
     by_cases h27 : c = 27
     ·have hc27 : ((c.toNat : Int) == 27) = true := by rw [h27]; rfl
      have EC := resc_any wd ht (.slice sv n cv) t (c :: r) b W6 hT.out.1 (by rw [List.length_cons]; omega)
      have hst : stepP wd ht cur t (c :: r) = match escP t (c :: r) with | none => none | some (t', n) => some (cur, t', n) := by unfold stepP; rw [h27]; rfl
      rw [hst] at hgo2
      cases hE : escP t (c :: r) with
      | none =>
       rw [hE] at EC hgo2
       dsimp only at hgo2
       subst hgo2
       replace EC := Lib.hid EC
       have hQ2 := hQ.out
       dsimp only at hQ2
       subst hQ2
       subst h27
       go_upto_region 14 with (go_at_call 55; (with_reducible refine (EC.out).mono ?_); rintro e w7 ⟨rfl, hB7, hk7⟩)
       have B7 := hB4.out.but hk7 (by omega)
       have hb7 : Below w.heap.size w w7 := KeptBut.toBelow hb.out hk7 zb (fun k h1 h2 => by omega)
       have k0 := B7.cell (o := 0) rfl
       have k1 := B7.cell (o := 1) rfl
       have k2 := B7.cell (o := 2) rfl
       have kf := B7.free
       have yB7 := B7.lt
       go_wp2
       clear k0 k1 k2 kf
       have HZ := Blk.put3 B7 rfl (.int .i64 0) (.int .i64 0) (.slice none 0 0)
       have hbZ : Below w.heap.size w (((w7.setCell ⟨(w.heap.size + 1), 0, none⟩ (.int .i64 0)).setCell ⟨(w.heap.size + 1), 1, none⟩ (.int .i64 0)).setCell ⟨(w.heap.size + 1), 2, none⟩ (.slice none 0 0)) := ((hb7.setCell (p := ⟨(w.heap.size + 1), 0, none⟩) (by show w.heap.size ≤ (w.heap.size + 1); omega) _).setCell (p := ⟨(w.heap.size + 1), 1, none⟩) (by show w.heap.size ≤ (w.heap.size + 1); omega) _).setCell (p := ⟨(w.heap.size + 1), 2, none⟩) (by show w.heap.size ≤ (w.heap.size + 1); omega) _
       generalize ((w7.setCell ⟨(w.heap.size + 1), 0, none⟩ (.int .i64 0)).setCell ⟨(w.heap.size + 1), 1, none⟩ (.int .i64 0)).setCell ⟨(w.heap.size + 1), 2, none⟩ (.slice none 0 0) = wZ at HZ hbZ ⊢
       have jz0 := HZ.cell (o := 0) rfl
       have jz1 := HZ.cell (o := 1) rfl
       have jz2 := HZ.cell (o := 2) rfl
       refine bodyPost_ret (v := .tuple #[.agg #[.int .i64 0, .int .i64 0, .slice none 0 0], .int .i64 p, .int .i64 150]) (by simp [results, Tryz.results19, go_sem, jz0, jz1, jz2]) rfl ⟨hbZ, _, rfl, OwnsC.nil _ _⟩
      | some q =>
       obtain ⟨t', m⟩ := q
       have hm := escP_pos hE
       rw [List.length_cons] at hm
       have hrL : r.length + 1 + p = L := by rw [← hr.out, List.length_drop, hL.out]; omega
       rw [hE] at EC hgo2
       dsimp only at hgo2
       rw [← hdr.out, List.drop_drop] at hgo2
       replace hgo2 := Lib.hid hgo2
       unfold stepN stepT at EC
       dsimp only at EC
       replace EC := Lib.hid EC
       subst h27
       have hm0 : ((m : Int) == 0) = false := by simp; omega
       have hm1 : ¬ (m : Int) = 0 := by omega
       go_upto_region 14 with (go_at_call 55; (with_reducible refine (EC.out).mono ?_); rintro e w7 ⟨rfl, hB7, hk7⟩)
       have B7 := hB4.out.but hk7 (by omega)
       have hb7 : Below w.heap.size w w7 := KeptBut.toBelow hb.out hk7 zb (fun k h1 h2 => by omega)
       have ho7 : OwnsC w.heap.size w7 (.slice sv n cv) cur := own_kept2 hT.out.2 hk7 (fun g hg he => ownsC_ne hT.out.2 hT.out.1 (by decide) (by rw [hg, he]))
       go_wp2
       go_roundw
       case rel => exact ⟨p + m, cur, t', by omega, by go_num, hgo2, Lib.hid ⟨hB7, ho7⟩, hcl, Lib.hid B7, Lib.hid hb7⟩
       case measure => (simp [intOf]) <;> omega
     ·have hc27 : ((c.toNat : Int) == 27) = false := by simp; intro h; exact h27 (UInt8.toNat_inj.1 (by show c.toNat = 27; omega))
      have EC := rcell_any wd ht cur (.slice sv n cv) t c r b w.heap.size W6 hT.out.1 hT.out.2 hfit (by rw [hcl.out, ← en.out]; exact hlen) hrl hDW
      have hst : stepP wd ht cur t (c :: r) = cellP wd ht cur t (c :: r) := by unfold stepP; rw [if_neg]; simp; exact h27
      rw [hst] at hgo2
      cases hE : cellP wd ht cur t (c :: r) with
      | none =>
       rw [hE] at EC hgo2
       dsimp only at hgo2
       subst hgo2
       replace EC := Lib.hid EC
       have hQ2 := hQ.out
       dsimp only at hQ2
       subst hQ2
       go_upto_region 14 with (go_at_call 54; (with_reducible refine (EC.out).mono ?_); rintro e w7 ⟨rfl, hB7, hk7⟩)
       have B7 := hB4.out.but hk7 (fun h => h.elim (by omega) (fun h => ownsC_ne hT.out.2 hB4.out (by decide) h))
       have hb7 : Below w.heap.size w w7 := kept_below hT.out.2 (by omega) hb.out zb hk7
       have k0 := B7.cell (o := 0) rfl
       have k1 := B7.cell (o := 1) rfl
       have k2 := B7.cell (o := 2) rfl
       have kf := B7.free
       have yB7 := B7.lt
       go_wp2
       clear k0 k1 k2 kf
       have HZ := Blk.put3 B7 rfl (.int .i64 0) (.int .i64 0) (.slice none 0 0)
       have hbZ : Below w.heap.size w (((w7.setCell ⟨(w.heap.size + 1), 0, none⟩ (.int .i64 0)).setCell ⟨(w.heap.size + 1), 1, none⟩ (.int .i64 0)).setCell ⟨(w.heap.size + 1), 2, none⟩ (.slice none 0 0)) := ((hb7.setCell (p := ⟨(w.heap.size + 1), 0, none⟩) (by show w.heap.size ≤ (w.heap.size + 1); omega) _).setCell (p := ⟨(w.heap.size + 1), 1, none⟩) (by show w.heap.size ≤ (w.heap.size + 1); omega) _).setCell (p := ⟨(w.heap.size + 1), 2, none⟩) (by show w.heap.size ≤ (w.heap.size + 1); omega) _
       generalize ((w7.setCell ⟨(w.heap.size + 1), 0, none⟩ (.int .i64 0)).setCell ⟨(w.heap.size + 1), 1, none⟩ (.int .i64 0)).setCell ⟨(w.heap.size + 1), 2, none⟩ (.slice none 0 0) = wZ at HZ hbZ ⊢
       have jz0 := HZ.cell (o := 0) rfl
       have jz1 := HZ.cell (o := 1) rfl
       have jz2 := HZ.cell (o := 2) rfl
       refine bodyPost_ret (v := .tuple #[.agg #[.int .i64 0, .int .i64 0, .slice none 0 0], .int .i64 p, .int .i64 150]) (by simp [results, Tryz.results19, go_sem, jz0, jz1, jz2]) rfl ⟨hbZ, _, rfl, OwnsC.nil _ _⟩
      | some q =>
       obtain ⟨cur', t', m⟩ := q
       have hm := cellP_pos hE
       have hcl' := cellP_len hfit (by rw [hcl.out, ← en.out]; exact hlen) hE
       rw [List.length_cons] at hm
       have hrL : r.length + 1 + p = L := by rw [← hr.out, List.length_drop, hL.out]; omega
       rw [hE] at EC hgo2
       dsimp only at hgo2
       rw [← hdr.out, List.drop_drop] at hgo2
       replace hgo2 := Lib.hid hgo2
       unfold cellN cellC cellT at EC
       dsimp only at EC
       replace EC := Lib.hid EC
       have hm0 : ((m : Int) == 0) = false := by simp; omega
       have hm1 : ¬ (m : Int) = 0 := by omega
       go_upto_region 14 with (go_at_call 54; (with_reducible refine (EC.out).mono ?_); rintro e w7 ⟨rfl, hT7, hk7⟩)
       have B7 := hB4.out.but hk7 (fun h => h.elim (by omega) (fun h => ownsC_ne hT.out.2 hB4.out (by decide) h))
       have hb7 : Below w.heap.size w w7 := kept_below hT.out.2 (by omega) hb.out zb hk7
       go_wp2
       go_roundw
       case rel => exact ⟨p + m, cur', t', by omega, by go_num, hgo2, Lib.hid hT7, Lib.hid (hcl'.trans hcl.out), Lib.hid B7, Lib.hid hb7⟩
       case measure => (simp [intOf]) <;> omega
    ·obtain rfl : L = p := by omega
     have hpi : ¬ (L : Int) < L := by omega
     have hR : Except.ok cur = RL := by
      have h := hgo.out
      rw [List.drop_of_length_le (by rw [hL.out]; exact Nat.le_refl _)] at h
      exact h
     subst hR
     have hQ2 := hQ.out
     dsimp only at hQ2
     subst hQ2
     have B6 := hB4.out
     have k0 := B6.cell (o := 0) rfl
     have k1 := B6.cell (o := 1) rfl
     have k2 := B6.cell (o := 2) rfl
     have kf := B6.free
     have yB6 := B6.lt
     have j0 := hT.out.1.cell (o := 0) rfl
     have j1 := hT.out.1.cell (o := 1) rfl
     have j2 := hT.out.1.cell (o := 2) rfl
     go_wp2
     clear k0 k1 k2 kf j0 j1 j2
     have hbb := hb.out
     have ne := ownsC_ne hT.out.2 B6 (by decide)
     have hoZ := own_other (own_other (own_other hT.out.2 (a := ⟨w.heap.size + 1, 0, none⟩) (fun g hg e => ne (by rw [hg, e])) (.int .i64 wd)) (a := ⟨w.heap.size + 1, 1, none⟩) (fun g hg e => ne (by rw [hg, e])) (.int .i64 ht)) (a := ⟨w.heap.size + 1, 2, none⟩) (fun g hg e => ne (by rw [hg, e])) (.slice sv n cv)
     have HZ := Blk.put3 B6 rfl (.int .i64 wd) (.int .i64 ht) (.slice sv n cv)
     have hbZ : Below w.heap.size w (((W6.setCell ⟨w.heap.size + 1, 0, none⟩ (.int .i64 wd)).setCell ⟨w.heap.size + 1, 1, none⟩ (.int .i64 ht)).setCell ⟨w.heap.size + 1, 2, none⟩ (.slice sv n cv)) := ((hbb.setCell (p := ⟨w.heap.size + 1, 0, none⟩) (by show w.heap.size ≤ w.heap.size + 1; omega) _).setCell (p := ⟨w.heap.size + 1, 1, none⟩) (by show w.heap.size ≤ w.heap.size + 1; omega) _).setCell (p := ⟨w.heap.size + 1, 2, none⟩) (by show w.heap.size ≤ w.heap.size + 1; omega) _
     generalize ((W6.setCell ⟨w.heap.size + 1, 0, none⟩ (.int .i64 wd)).setCell ⟨w.heap.size + 1, 1, none⟩ (.int .i64 ht)).setCell ⟨w.heap.size + 1, 2, none⟩ (.slice sv n cv) = wZ at HZ hbZ hoZ ⊢
     have jz0 := HZ.cell (o := 0) rfl
     have jz1 := HZ.cell (o := 1) rfl
     have jz2 := HZ.cell (o := 2) rfl
     refine bodyPost_ret (v := .tuple #[.agg #[.int .i64 wd, .int .i64 ht, .slice sv n cv], .int .i64 0, .int .i64 0]) (by simp [results, Tryz.results19, go_sem, jz0, jz1, jz2]) rfl ⟨hbZ, _, rfl, hoZ⟩
 ·rw [e0] at C1
  rw [if_neg (by omega)] at hQ
  rw [e0] at hQ
  subst hQ
  go_wp2_with (go_at_call 15; (with_reducible refine C1.out.mono ?_); rintro e w1 ⟨rfl, hb1⟩; replace B4 := B4.below hb1 yB4; replace hbw := hbw.trans (hb1.mono hbw.size); have k0 := B4.cell (o := 0) rfl; have k1 := B4.cell (o := 1) rfl; have k2 := B4.cell (o := 2) rfl; have kf := B4.free)
  clear k0 k1 k2 kf
  have HZ := Blk.put3 B4 rfl (.int .i64 0) (.int .i64 0) (.slice none 0 0)
  have hbZ : Below w.heap.size w (((w1.setCell ⟨(w.heap.size + 1), 0, none⟩ (.int .i64 0)).setCell ⟨(w.heap.size + 1), 1, none⟩ (.int .i64 0)).setCell ⟨(w.heap.size + 1), 2, none⟩ (.slice none 0 0)) := ((hbw.setCell (p := ⟨(w.heap.size + 1), 0, none⟩) (by show w.heap.size ≤ (w.heap.size + 1); omega) _).setCell (p := ⟨(w.heap.size + 1), 1, none⟩) (by show w.heap.size ≤ (w.heap.size + 1); omega) _).setCell (p := ⟨(w.heap.size + 1), 2, none⟩) (by show w.heap.size ≤ (w.heap.size + 1); omega) _
  generalize ((w1.setCell ⟨(w.heap.size + 1), 0, none⟩ (.int .i64 0)).setCell ⟨(w.heap.size + 1), 1, none⟩ (.int .i64 0)).setCell ⟨(w.heap.size + 1), 2, none⟩ (.slice none 0 0) = wZ at HZ hbZ ⊢
  have jz0 := HZ.cell (o := 0) rfl
  have jz1 := HZ.cell (o := 1) rfl
  have jz2 := HZ.cell (o := 2) rfl
  refine bodyPost_ret (v := .tuple #[.agg #[.int .i64 0, .int .i64 0, .slice none 0 0], .int .i64 0, .int .i64 150]) (by simp [results, Tryz.results19, go_sem, jz0, jz1, jz2]) rfl ⟨hbZ, _, rfl, OwnsC.nil _ _⟩
end Go.Proofs.YtffmomgmkpmpkaaGreatDoor

namespace Go.Proofs.YtffmomgmkpmpkaaGreatDoor
open Go.RowKit
set_option linter.unusedVariables false
attribute [local go_sem] vwp vUpon_value vUpon_skip vUpon_enter vUpon_row
set_option linter.unusedSimpArgs false
set_option linter.unusedVariables false
/-- A writer in block b (of the call's own: from B on), whose builder holds the bytes bs; tl: its colours' cells. -/
def Wr (B b : Nat) (p : Value) (bs tl : List Value) (w : World) : Prop := B ≤ b ∧ tl.length = 8 ∧ ∃ v, Blk w b (p :: v :: tl) 118 ∧ w.ownsRowF B 5 1 v bs.length bs
def WrI (B b : Nat) (bs tl : List Value) (w : World) : Prop := Wr B b (.pointer none) bs tl w ∨ Wr B b (.pointer (some ⟨b, 0, none⟩)) bs tl w
theorem Blk.others {w w' : World} {b g : Nat} {cs : List Value} {T : TypeId} (h : Blk w g cs T) (hk : Lib.OthersKept 5 (some b) w w') (hg : g ≠ b) (hT : T ≠ 5) : Blk w' g cs T :=
  hk g _ h (fun e => hg (Option.some.inj e)) (fun c fz e => hT (by injection e))
theorem oth_below {w w' : World} {b : Nat} (h : Below w.heap.size w w') : Lib.OthersKept 5 (some b) w w' := fun k o hk _ _ => (h.block k (Array.getElem?_eq_some_iff.1 hk).1).trans hk
theorem Wr.lt {B b : Nat} {p : Value} {bs tl : List Value} {w : World} (h : Wr B b p bs tl w) : b < w.heap.size := by
  obtain ⟨_, _, v, hb, _⟩ := h
  exact hb.lt
theorem rowF_set {w : World} {B n : Nat} {e : TypeId} {v u : Value} {xs : List Value} {b o : Nat} (h : w.ownsRowF B e 1 v n xs) (hne : v.ownBlock ≠ some b) : (w.setCell ⟨b, o, none⟩ u).ownsRowF B e 1 v n xs :=
  h.kept (row := some b) (cgrown_set (grown_refl w _) o u) (.inr hne)
theorem rowF_ne {w : World} {B n b : Nat} {e T : TypeId} {v : Value} {xs cs : List Value} (h : w.ownsRowF B e 1 v n xs) (hb : Blk w b cs T) (hT : T ≠ e) : v.ownBlock ≠ some b := Lib.ownBlock_neF h hb hT
theorem Wr.drew {B b : Nat} {p : Value} {bs tl : List Value} {w : World} (h : Wr B b p bs tl w) : Wr B b p bs tl w.drew := h
theorem Wr.alloc {B b : Nat} {p : Value} {bs tl : List Value} {w : World} (h : Wr B b p bs tl w) (o : Obj) : Wr B b p bs tl (w.alloc o) := by
  obtain ⟨hB, ht, v, hb, hr⟩ := h
  exact ⟨hB, ht, v, hb.alloc o, hr.kept (World.grownBy_alloc w o none) (by cases v.ownBlock <;> simp)⟩
theorem Wr.below {B b : Nat} {p : Value} {bs tl : List Value} {w w' : World} (h : Wr B b p bs tl w) (hw : Below w.heap.size w w') : Wr B b p bs tl w' := by
  obtain ⟨hB, ht, v, hb, hr⟩ := h
  refine ⟨hB, ht, v, hb.below hw hb.lt, hr.1, ?_⟩
  rcases hr.2 with hn | ⟨g, cap, cur, fz, hv, hg, hh, rest⟩
  · exact .inl hn
  · exact .inr ⟨g, cap, cur, fz, hv, hg, (hw.block g (Array.getElem?_eq_some_iff.1 hh).1).trans hh, rest⟩
/-- The colours' cells are written over. -/
theorem Wr.tail {B b : Nat} {p : Value} {bs tl : List Value} {w : World} (h : Wr B b p bs tl w) {k : Nat} (hk : k < 8) (u : Value) : Wr B b p bs (tl.set k u) (w.setCell ⟨b, k + 2, none⟩ u) := by
  obtain ⟨hB, ht, v, hb, hr⟩ := h
  exact ⟨hB, by simp [ht], v, hb.set (k + 2) u, rowF_set hr (rowF_ne hr hb (by decide))⟩
theorem Wr.put {B b : Nat} {p v v' : Value} {bs' tl : List Value} {w : World} (hB : B ≤ b) (ht : tl.length = 8) (hb : Blk w b (p :: v :: tl) 118) (hr : w.ownsRowF B 5 1 v' bs'.length bs') : Wr B b p bs' tl (w.setCell ⟨b, 1, none⟩ v') :=
  ⟨hB, ht, v', hb.set 1 v', rowF_set hr (rowF_ne hr hb (by decide))⟩
set_option maxHeartbeats 2000000 in
set_option maxRecDepth 100000 in
theorem wr_copy (B b : Nat) (bs tl : List Value) (w : World) (h : WrI B b bs tl w) :
  Calls Tryz.prog 112 #[.pointer (some ⟨b, 0, none⟩)] w fun e w' => e = .returned (.tuple #[]) ∧ Wr B b (.pointer (some ⟨b, 0, none⟩)) bs tl w' ∧ Below B w w' ∧ Lib.OthersKept 5 (some b) w w' := by
 have hs : (Tryz.prog.info? 107).map (·.size) = some 2 := by kernel_rfl
 obtain ⟨j, hj, hjs⟩ := Option.map_eq_some_iff.1 hs
 rcases h with h | h
 ·obtain ⟨hB, ht, v, hb, hr⟩ := h
  have h0 := hb.cell (o := 0) rfl
  have hfz := hb.free 0
  have hsh : w.shape? b = some (118, 10) := by unfold Blk at hb; simp [World.shape?, hb, ht]
  have hl : liesAt Tryz.prog Tryz.prog.depth 118 (10 / Tryz.prog.cellsOf 118) 0 107 1 = true := by kernel_rfl
  go_enter Tryz.func112, Tryz.ntmps112
  go_wp2
  rw [Lib.run_to_unsafe w ⟨b, 0, none⟩ Tryz.underlying104 Tryz.underlying201 hj (by rw [hjs]; decide) hsh (by show (0 : Nat) < 10; decide)]
  simp only [Result.andThen]
  rw [Oper.upon_value]
  go_wp2
  rw [run_callFunc_extern Tryz.func148 (by kernel_rfl) (by kernel_rfl) (by kernel_rfl) (e := Extern.AbiNoEscape.same) (by kernel_rfl)]
  rw [Lib.run_noEscape]
  simp only [Result.andThen]
  rw [Oper.upon_value]
  go_wp2
  rw [Lib.run_from_unsafe w ⟨b, 0, none⟩ Tryz.underlying201 Tryz.underlying104 hj hsh hl]
  simp only [Result.andThen]
  rw [Oper.upon_value]
  go_wp2
  go_end0
  exact ⟨rfl, ⟨hB, ht, v, hb.set 0 _, rowF_set hr (rowF_ne hr hb (by decide))⟩, (Below.refl B w).setCell (p := ⟨b, 0, none⟩) hB _, (Lib.OthersKept.refl _ _ w).setCell ⟨b, 0, none⟩ rfl _⟩
 ·have h' := h
  obtain ⟨hB, ht, v, hb, hr⟩ := h
  have h0 := hb.cell (o := 0) rfl
  go_enter Tryz.func112, Tryz.ntmps112
  go_wp2
  rw [Lib.run_neq_ptr_same w _ Tryz.underlying104 hj]
  go_wp2
  go_end0
  exact ⟨rfl, h', Below.refl B _, Lib.OthersKept.refl _ _ w⟩
set_option maxHeartbeats 2000000 in
set_option maxRecDepth 100000 in
theorem wr_len (B b : Nat) (bs tl : List Value) (w : World) (h : WrI B b bs tl w) :
    Calls Tryz.prog 69 #[.pointer (some ⟨b, 0, none⟩)] w fun e w' => e = .returned (.int .i64 bs.length) ∧ w' = w := by
  obtain ⟨p, hB, ht, v, hb, hr⟩ : ∃ p, Wr B b p bs tl w := by
    rcases h with h | h
    · exact ⟨_, h⟩
    · exact ⟨_, h⟩
  obtain ⟨ao, cap, rfl⟩ : ∃ ao cap, v = .slice ao bs.length cap := by
    rcases hr.2 with ⟨hv, h0⟩ | ⟨g, cap, cur, fz, hv, _⟩
    · exact ⟨none, 0, by rw [hv, h0]⟩
    · exact ⟨_, _, hv⟩
  have c1 := hb.cell (o := 1) rfl
  go_enter Tryz.func69, Tryz.ntmps69
  go_wp2
  go_ret
  exact ⟨rfl, rfl⟩
theorem infoU8 : (Tryz.prog.info? 5).map (fun i => (i.zero, i.size, i.bytes)) = some (some (.int .u8 0), 1, 1) := by kernel_rfl
set_option maxHeartbeats 2000000 in
set_option maxRecDepth 100000 in
theorem wr_str (B b : Nat) (bs tl : List Value) (s : ByteArray) (w : World) (h : WrI B b bs tl w) (hlen : bs.length + s.size ≤ 140737488355328) (hBw : B ≤ w.heap.size) :
  Calls Tryz.prog 115 #[.pointer (some ⟨b, 0, none⟩), .string s] w fun e w' => e = .returned (.tuple #[.int .i64 s.size, .nilIface]) ∧ Wr B b (.pointer (some ⟨b, 0, none⟩)) (bs ++ Lib.strCells s) tl w' ∧ Below B w w' ∧ Lib.OthersKept 5 (some b) w w' := by
 obtain ⟨i0, hi, hz0, hz1, hz2⟩ := info_parts infoU8
 go_enter Tryz.func115, Tryz.ntmps115
 go_wp2_with (go_at_call 112; (with_reducible refine (wr_copy B b bs tl _ h).mono ?_))
 rintro e w1 ⟨rfl, ⟨hB, ht, v, hb, hr⟩, hb1, hk1⟩
 have c1 := hb.cell (o := 1) rfl
 obtain ⟨ao, cap, hv⟩ : ∃ ao cap, v = .slice ao bs.length cap := by
  rcases hr.2 with ⟨hv, h0⟩ | ⟨g, cap, cur, fz, hv, _⟩
  ·exact ⟨none, 0, by rw [hv, h0]⟩
  ·exact ⟨_, _, hv⟩
 subst hv
 replace hr := Lib.hid hr
 replace hb1 := Lib.hid hb1
 replace hb := Lib.hid hb
 have z1 := hb1.out.size
 have hne := rowF_ne hr.out hb.out (by decide)
 go_wp2_with (at_builtin; refine Lib.wpList_append_own_stringF _ rfl _ _ 105 9 rfl B 5 i0 Tryz.underlying105 Tryz.underlying9 hi hz0 hz1 hz2 _ _ _ rfl hr.out s rfl (by unfold maxLen; omega) (by omega) (by omega) ?_; intro v' w2 hown' hgr _; have hb2 := hb.out.keep hgr hne; have d1 := hb2.cell (o := 1) rfl; have f1 := hb2.free 1; obtain ⟨ao', n', cap', hv'⟩ : ∃ ao n' cap, v' = .slice ao n' cap := (by
   rcases hown'.2 with ⟨hv, _⟩ | ⟨g, cap, cur, fz, hv, _⟩
   ·exact ⟨_, _, _, hv⟩
   ·exact ⟨_, _, _, hv⟩); subst hv'; replace hown' := Lib.hid hown'; replace hgr := Lib.hid hgr)
 go_ret2
 exact ⟨rfl, Wr.put hB ht hb2 (by simpa [Lib.strCells_length] using hown'.out), (hb1.out.grown hgr.out (by omega) (fun k hk => (hr.out.lt k hk).1)).setCell (p := ⟨b, 1, none⟩) hB _, (hk1.grown hgr.out (Lib.ownsRowF_kind hr.out)).setCell ⟨b, 1, none⟩ rfl _⟩
set_option maxHeartbeats 2000000 in
set_option maxRecDepth 100000 in
theorem wr_byte (B b : Nat) (bs tl : List Value) (c : Int) (w : World) (h : WrI B b bs tl w) (hlen : bs.length + 1 ≤ 140737488355328) (hBw : B ≤ w.heap.size) :
  Calls Tryz.prog 62 #[.pointer (some ⟨b, 0, none⟩), .int .u8 c] w fun e w' => e = .returned .nilIface ∧ Wr B b (.pointer (some ⟨b, 0, none⟩)) (bs ++ [.int .u8 c]) tl w' ∧ Below B w w' ∧ Lib.OthersKept 5 (some b) w w' := by
 obtain ⟨i0, hi, hz0, hz1, hz2⟩ := info_parts infoU8
 go_enter Tryz.func62, Tryz.ntmps62
 go_wp2_with (go_at_call 112; (with_reducible refine (wr_copy B b bs tl _ h).mono ?_))
 rintro e w1 ⟨rfl, ⟨hB, ht, v, hb, hr⟩, hb1, hk1⟩
 have c1 := hb.cell (o := 1) rfl
 obtain ⟨ao, cap, hv⟩ : ∃ ao cap, v = .slice ao bs.length cap := by
  rcases hr.2 with ⟨hv, h0⟩ | ⟨g, cap, cur, fz, hv, _⟩
  ·exact ⟨none, 0, by rw [hv, h0]⟩
  ·exact ⟨_, _, hv⟩
 subst hv
 have hra := hr.kept (World.grownBy_alloc w1 (.cells #[.int .u8 c] 5) none) (by cases (Value.slice ao bs.length cap).ownBlock <;> simp)
 replace hra := Lib.hid hra
 replace hr := Lib.hid hr
 replace hb1 := Lib.hid hb1
 replace hb := Lib.hid hb
 have z1 := hb1.out.size
 have hne := rowF_ne hr.out hb.out (by decide)
 go_wp2_with (at_builtin; refine wpList_append_ownF _ rfl _ _ 105 rfl B 5 i0 (.int .u8 0) 1 1 Tryz.underlying105 hi hz0 hz1 hz2 rfl (by decide) _ _ _ rfl hra.out ⟨w1.heap.size, 0, none⟩ 1 1 [.int .u8 c] rfl rfl (cells_new w1 [.int .u8 c] 5) (by intro u hu; simp only [List.mem_cons, List.not_mem_nil, or_false] at hu; subst hu; rfl) (by unfold maxLen; omega) (by omega) (by simp; omega) ?_; intro v' w2 hown' hgr _; have hb2 := (hb.out.alloc _).keep hgr hne; have d1 := hb2.cell (o := 1) rfl; have f1 := hb2.free 1; obtain ⟨ao', n', cap', hv'⟩ : ∃ ao n' cap, v' = .slice ao n' cap := (by
   rcases hown'.2 with ⟨hv, _⟩ | ⟨g, cap, cur, fz, hv, _⟩
   ·exact ⟨_, _, _, hv⟩
   ·exact ⟨_, _, _, hv⟩); subst hv'; replace hown' := Lib.hid hown'; replace hgr := Lib.hid hgr)
 go_ret
 exact ⟨rfl, Wr.put hB ht hb2 (by simpa using hown'.out), ((hb1.out.alloc (by omega) _).grown hgr.out (by simp; omega) (fun k hk => (hr.out.lt k hk).1)).setCell (p := ⟨b, 1, none⟩) hB _, ((hk1.alloc _).grown hgr.out (Lib.ownsRowF_kind hra.out)).setCell ⟨b, 1, none⟩ rfl _⟩
set_option maxHeartbeats 2000000 in
set_option maxRecDepth 100000 in
theorem wr_rune (B b : Nat) (bs tl : List Value) (r : Int) (w : World) (h : WrI B b bs tl w) (hr0 : -2147483648 ≤ r) (hr1 : r ≤ 2147483647) (hlen : bs.length + 4 ≤ 140737488355328) (hBw : B ≤ w.heap.size) :
  Calls Tryz.prog 61 #[.pointer (some ⟨b, 0, none⟩), .int .i32 r] w fun e w' => e = .returned (.tuple #[.int .i64 (Lib.runeCells r).length, .nilIface]) ∧ Wr B b (.pointer (some ⟨b, 0, none⟩)) (bs ++ Lib.runeCells r) tl w' ∧ Below B w w' ∧ Lib.OthersKept 5 (some b) w w' := by
 have hk4 := Lib.runeCells_le r
 go_enter Tryz.func61, Tryz.ntmps61
 go_wp2_with (go_at_call 112; (with_reducible refine (wr_copy B b bs tl _ h).mono ?_))
 rintro e w1 ⟨rfl, ⟨hB, ht, v, hb, hr⟩, hb1, hk1⟩
 have c1 := hb.cell (o := 1) rfl
 obtain ⟨ao, cap, hv⟩ : ∃ ao cap, v = .slice ao bs.length cap := by
  rcases hr.2 with ⟨hv, h0⟩ | ⟨g, cap, cur, fz, hv, _⟩
  ·exact ⟨none, 0, by rw [hv, h0]⟩
  ·exact ⟨_, _, hv⟩
 subst hv
 replace hr := Lib.hid hr
 replace hb1 := Lib.hid hb1
 replace hb := Lib.hid hb
 have z1 := hb1.out.size
 have hne := rowF_ne hr.out hb.out (by decide)
 have AP := Any.utf8_AppendRune_own { YtffmomgmkpmpkaaGreatDoor.bwrLays with } YtffmomgmkpmpkaaGreatDoor.bwrLaysX B _ bs.length bs r hr0 hr1 w1 hr.out hlen (by omega)
 go_wp2_with (go_at_call 113; refine AP.mono ?_; rintro e w2 ⟨v', rfl, hown', o, hgr⟩; have hb2 := (hb.out.alloc o).keep hgr hne; have d1 := hb2.cell (o := 1) rfl; have f1 := hb2.free 1; obtain ⟨ao', cap', hv'⟩ : ∃ ao cap, v' = .slice ao (bs.length + (Lib.runeCells r).length) cap := (by
   rcases hown'.2 with ⟨hv, h0⟩ | ⟨g, cap, cur, fz, hv, _⟩
   ·exact ⟨none, 0, by rw [hv, h0]⟩
   ·exact ⟨_, _, hv⟩); subst hv'; replace hown' := Lib.hid hown'; replace hgr := Lib.hid hgr)
 go_ret2
 refine ⟨?_, Wr.put hB ht hb2 (by have h := hown'.out; rw [List.length_append]; exact h), ((hb1.out.alloc (by omega) o).grown hgr.out (by simp; omega) (fun k hk => (hr.out.lt k hk).1)).setCell (p := ⟨b, 1, none⟩) hB _, ((hk1.alloc o).grown hgr.out (Lib.ownsRowF_kind (hr.out.kept (World.grownBy_alloc w1 o none) (by cases (Value.slice ao bs.length cap).ownBlock <;> simp)))).setCell ⟨b, 1, none⟩ rfl _⟩
 have e : ((bs.length : Int) + ((Lib.runeCells r).length : Int) - (bs.length : Int)) = ((Lib.runeCells r).length : Int) := by omega
 simp [e]
set_option maxHeartbeats 2000000 in
set_option maxRecDepth 100000 in
theorem wr_string (B b : Nat) (l : List UInt8) (tl : List Value) (w : World) (h : WrI B b (Lib.byteCells l) tl w) (h0 : l ≠ []) :
  Calls Tryz.prog 63 #[.pointer (some ⟨b, 0, none⟩)] w fun e w' => e = .returned (.string ⟨l.toArray⟩) ∧ Below B w w' := by
 obtain ⟨p, hB, ht, v, hb, hr⟩ : ∃ p, Wr B b p (Lib.byteCells l) tl w := by
  rcases h with h | h
  ·exact ⟨_, h⟩
  ·exact ⟨_, h⟩
 have hl0 : l.length ≠ 0 := by simpa using h0
 rw [Lib.byteCells_length] at hr
 obtain ⟨g, cap, cur, fz, rfl, hbg, hg, hfz, hnc, hcm, hcs, htake⟩ : ∃ g cap cur fz, v = .slice (some ⟨g, 0, none⟩) l.length cap ∧ B ≤ g ∧ w.heap[g]? = some (.cells cur 5 fz) ∧ fz.2 ≤ l.length * 1 ∧ l.length ≤ cap ∧ cap ≤ maxLen ∧ cur.size = cap * 1 ∧ cur.toList.take (l.length * 1) = Lib.byteCells l := by
  rcases hr.2 with ⟨_, hz⟩ | ⟨g, cap, cur, fz, hv, r⟩
  ·exact absurd hz hl0
  ·exact ⟨g, cap, cur, fz, hv, r⟩
 have c1 := hb.drew.cell (o := 1) rfl
 have hSD : (Builtin.unsafeSliceData_ #[105] 169 #[.slice (some ⟨g, 0, none⟩) l.length cap]).run Tryz.prog w.drew = .ok (.pointer (some ⟨g, 0, none⟩)) w.drew :=
  Lib.run_unsafeSliceData_row _ _ _ _ _ _ (by omega)
 have hUS : (Builtin.unsafeString_ #[169, 3] 9 #[.pointer (some ⟨g, 0, none⟩), .int .i64 l.length]).run Tryz.prog w.drew = .ok (.string ⟨l.toArray⟩) (w.drew.freeze ⟨g, 0, none⟩ l.length) := by
  refine Lib.run_unsafeString_row w.drew 169 3 9 5 Tryz.underlying169 (by kernel_rfl) g cur.size (by have hg' : w.drew.heap[g]? = some (.cells cur 5 fz) := hg; simp [World.shape?, hg']) l h0 (by omega) (by unfold maxLen at hcm; omega) ?_
  intro j x hx
  have := hr.cells (g := g) rfl j (.int .u8 x.toNat) (by simp [Lib.byteCells, hx])
  exact this
 have mixed : Tryz.prog.follows Departure.mixedOrders = true := by kernel_rfl
 go_enter Tryz.func63, Tryz.ntmps63
 go_wp2
 go_region_o
 all_goals (go_wp2; go_ret; exact ⟨rfl, Lib.below_freeze (Below.drew (Below.refl B w)) (p := ⟨g, 0, none⟩) hbg _⟩)
set_option maxHeartbeats 2000000 in
set_option maxRecDepth 100000 in
theorem wr_string_nil (B b : Nat) (p : Value) (tl : List Value) (w : World) (hb : Blk w b (p :: .slice none 0 0 :: tl) 118) :
    Calls Tryz.prog 63 #[.pointer (some ⟨b, 0, none⟩)] w fun e w' => e = .returned (.string ⟨#[]⟩) ∧ Below B w w' := by
  have hUS : (Builtin.unsafeString_ #[169, 3] 9 #[.pointer none, .int .i64 0]).run Tryz.prog w.drew = .ok (.string ⟨#[]⟩) w.drew := Lib.run_unsafeString_none _ _ _ _ none
  have c1 := hb.drew.cell (o := 1) rfl
  have hSD : (Builtin.unsafeSliceData_ #[105] 169 #[.slice none 0 0]).run Tryz.prog w.drew = .ok (.pointer none) w.drew := rfl
  have mixed : Tryz.prog.follows Departure.mixedOrders = true := by kernel_rfl
  go_enter Tryz.func63, Tryz.ntmps63
  go_wp2
  go_region_o
  all_goals (go_wp2; go_ret; exact ⟨rfl, Below.drew (Below.refl B w)⟩)
end Go.Proofs.YtffmomgmkpmpkaaGreatDoor
