/-
  Damage: the pieces of a flat stroke.
-/
import Derived.Test.YtfcphagmjijmkaaGreatDoorDd32
namespace Go.Proofs.YtfcphagmjijmkaaGreatDoor
open Go.RowKit
set_option linter.unusedVariables false
set_option linter.unusedSimpArgs false
attribute [local go_sem] vwp vUpon_value vUpon_skip vUpon_enter vUpon_row
set_option maxHeartbeats 16000000
set_option maxRecDepth 100000 in
theorem pieces_gone (f : Fl) (w : World) (h : f.Ok) (hg : goneB f.s = true) : Calls Tryz.prog 44 #[.agg #[.int .u8 (f).s.kind, .int .i64 (f).s.rect.x, .int .i64 (f).s.rect.y, .int .i64 (f).s.rect.wd, .int .i64 (f).s.rect.ht, .int .u8 (f).s.col.r, .int .u8 (f).s.col.g, .int .u8 (f).s.col.b, .int .u8 (f).s.col.a, .int .u8 (f).s.back.r, .int .u8 (f).s.back.g, .int .u8 (f).s.back.b, .int .u8 (f).s.back.a, .string (f).s.text, .int .i64 (f).s.node, .int .i64 (f).r.x, .int .i64 (f).r.y, .int .i64 (f).r.wd, .int .i64 (f).r.ht]] w fun e w' => Below w.heap.size w w' ∧ ∃ v, e = .returned v ∧ OwnsR w.heap.size w' v [] := by
 obtain ⟨_, _, hk, _, _, _⟩ := h; unfold goneB at hg
 rcases hk with hk | hk | hk
 ·rw [if_pos (.inl hk)] at hg
  have ha : f.s.col.a = 0 := of_decide_eq_true hg
  have q1 : (f.s.kind == 1) = true := by rw [hk]; rfl
  have q4 : (f.s.col.a == 0) = true := by rw [ha]; rfl
  clear hg hk ha
  go_enter Tryz.func44, Tryz.ntmps44
  go_wp2; go_ret; exact ⟨belt, _, rfl, World.ownsRow_nil _ _ _ _⟩
 ·rw [if_pos (.inr hk)] at hg
  have ha : f.s.col.a = 0 := of_decide_eq_true hg
  have q1 : (f.s.kind == 1) = false := by rw [hk]; rfl
  have q2 : (f.s.kind == 2) = true := by rw [hk]; rfl
  have q4 : (f.s.col.a == 0) = true := by rw [ha]; rfl
  clear hg hk ha
  go_enter Tryz.func44, Tryz.ntmps44
  go_wp2; go_ret; exact ⟨belt, _, rfl, World.ownsRow_nil _ _ _ _⟩
 ·rw [if_neg (by omega), if_pos hk] at hg
  have ha : f.s.text.toList = [] := of_decide_eq_true hg
  have q1 : (f.s.kind == 1) = false := by rw [hk]; rfl
  have q2 : (f.s.kind == 2) = false := by rw [hk]; rfl
  have q3 : (f.s.kind == 3) = true := by rw [hk]; rfl
  have q4 : (f.s.text.toList == []) = true := by rw [ha]; rfl
  have q5 : f.s.text.toList.isEmpty = true := by rw [ha]; rfl
  clear hg hk
  go_enter Tryz.func44, Tryz.ntmps44
  go_wp2; go_ret; exact ⟨belt, _, rfl, World.ownsRow_nil _ _ _ _⟩
set_option maxRecDepth 100000 in
theorem pieces_fill (f : Fl) (w : World) (h : f.Ok) (hg : goneB f.s = false) (hk : f.s.kind = 1) : Calls Tryz.prog 44 #[.agg #[.int .u8 (f).s.kind, .int .i64 (f).s.rect.x, .int .i64 (f).s.rect.y, .int .i64 (f).s.rect.wd, .int .i64 (f).s.rect.ht, .int .u8 (f).s.col.r, .int .u8 (f).s.col.g, .int .u8 (f).s.col.b, .int .u8 (f).s.col.a, .int .u8 (f).s.back.r, .int .u8 (f).s.back.g, .int .u8 (f).s.back.b, .int .u8 (f).s.back.a, .string (f).s.text, .int .i64 (f).s.node, .int .i64 (f).r.x, .int .i64 (f).r.y, .int .i64 (f).r.wd, .int .i64 (f).r.ht]] w fun e w' => Below w.heap.size w w' ∧ ∃ v, e = .returned v ∧ OwnsR w.heap.size w' v (meets (allSd f.s) f.r) := by
 obtain ⟨iR, hr0, hr1, hr2, hr3⟩ := info_parts infoRe; obtain ⟨hwf, hm, _, hmr, _, _⟩ := h; unfold goneB at hg; rw [if_pos (.inl hk)] at hg
 have q1 : (f.s.kind == 1) = true := by rw [hk]; rfl
 have q2 : (f.s.kind == 2) = false := by rw [hk]; rfl
 have q4 : (f.s.col.a == 0) = false := by simpa using hg
 have eS : allSd f.s = [f.s.rect] := by unfold allSd; rw [if_neg (by omega)]
 obtain ⟨SD, hSD⟩ := exx (allSd f.s); rw [hSD]; rw [hSD] at eS; replace hSD := hdh eS; clear hg hk eS
 go_enter Tryz.func44, Tryz.ntmps44
 go_upto_region 1 with fail
 obtain ⟨W0, hW0⟩ := exx (w.alloc (.cells (Fl.enc f).toArray 82)); obtain ⟨b1, hb1⟩ := exx (w.heap.size)
 have B1 : Blk W0 b1 (Fl.enc f) 82 := by rw [← hW0]; exact Blk.new' hb1.symm
 have hb0 : Below w.heap.size w W0 := by rw [← hW0]; exact belt
 rw [show w.alloc (.cells #[.int .u8 (f).s.kind, .int .i64 (f).s.rect.x, .int .i64 (f).s.rect.y, .int .i64 (f).s.rect.wd, .int .i64 (f).s.rect.ht, .int .u8 (f).s.col.r, .int .u8 (f).s.col.g, .int .u8 (f).s.col.b, .int .u8 (f).s.col.a, .int .u8 (f).s.back.r, .int .u8 (f).s.back.g, .int .u8 (f).s.back.b, .int .u8 (f).s.back.a, .string (f).s.text, .int .i64 (f).s.node, .int .i64 (f).r.x, .int .i64 (f).r.y, .int .i64 (f).r.wd, .int .i64 (f).r.ht] 82) = W0 from hW0, hb1]; clear hW0; replace hb1 := hdh hb1; have k0 := B1.cell (o := 0) rfl; have k1 := B1.cell (o := 1) rfl; have k2 := B1.cell (o := 2) rfl
 have k3 := B1.cell (o := 3) rfl; have k4 := B1.cell (o := 4) rfl; have k8 := B1.cell (o := 8) rfl; have k13 := B1.cell (o := 13) rfl; have kl := B1.lt
 go_upto_region 2 with fail
 obtain ⟨W1, hW1⟩ := exx (W0.alloc (.cells #[.int .i64 f.s.rect.x, .int .i64 f.s.rect.y, .int .i64 f.s.rect.wd, .int .i64 f.s.rect.ht] 32)); obtain ⟨b3, hb3⟩ := exx (W0.heap.size)
 have B3 : Blk W1 b3 ([f.s.rect].flatMap Re.enc) 32 := by rw [← hW1]; exact Blk.new' (cs := [.int .i64 f.s.rect.x, .int .i64 f.s.rect.y, .int .i64 f.s.rect.wd, .int .i64 f.s.rect.ht]) hb3.symm
 have hb01 : Below W0.heap.size W0 W1 := by rw [← hW1]; exact (Below.refl _ _).alloc lrr _
 have gb3 : w.heap.size ≤ b3 := by have := hb0.size; omega
 rw [hW1, hb3]; clear hW1 hb3; clear k0 k1 k2 k3 k4 k8 k13 kl; replace B1 := B1.below hb01 B1.lt; have hb1w := hb0.trans (hb01.mono hb0.size); clear hb0 hb01; have k0 := B1.cell (o := 0) rfl; have k1 := B1.cell (o := 1) rfl; have k2 := B1.cell (o := 2) rfl; have k3 := B1.cell (o := 3) rfl; have k4 := B1.cell (o := 4) rfl; have k8 := B1.cell (o := 8) rfl; have k13 := B1.cell (o := 13) rfl; have kl := B1.lt
 go_upto_region 11 with fail
 clear k0 k1 k2 k3 k4 k8 k13 kl; obtain ⟨W2, hW2⟩ := exx (W1.alloc (.cells #[.int .i64 f.s.rect.x, .int .i64 f.s.rect.y, .int .i64 f.s.rect.wd, .int .i64 f.s.rect.ht] 32)); obtain ⟨b4, hb4⟩ := exx (W1.heap.size)
 have B4 : Blk W2 b4 (Re.enc f.s.rect) 32 := by rw [← hW2]; exact Blk.new' (cs := [.int .i64 f.s.rect.x, .int .i64 f.s.rect.y, .int .i64 f.s.rect.wd, .int .i64 f.s.rect.ht]) hb4.symm
 have hb12 : Below W1.heap.size W1 W2 := by rw [← hW2]; exact (Below.refl _ _).alloc lrr _
 rw [hW2, hb4]; clear hW2 hb4; replace B1 := B1.below hb12 B1.lt; replace B3 := B3.below hb12 B3.lt; have hb2w := hb1w.trans (hb12.mono hb1w.size); clear hb1w hb12; have k0 := B1.cell (o := 0) rfl
 go_upto_region 18 with fail
 clear k0 B4; have RS : Row W2.heap.size 4 Re.enc W2 (.slice (some ⟨b3, 0, none⟩) 1 1) [f.s.rect] := (Blk.ownsR (n := 1) (base := 0) B3 rfl (Nat.zero_le _) (by unfold maxLen; omega)).row lrr
 have hsw : ∀ p ∈ [f.s.rect], p.Wf := fun p hp => by simp at hp; rw [hp]; exact may_wf hm
 have hsl : [f.s.rect].length = 1 := rfl; clear B3 gb3 q1 q2 q4 hm hwf; have hSD2 := hSD.out; rw [← hSD2] at RS hsw hsl; replace hsw := hdh hsw; replace hsl := hdh hsl; replace RS := hdh RS; replace B1 := hdh B1; clear hSD hSD2; obtain ⟨WL, hWL⟩ := exx (W2); rw [hWL] at RS B1 hb2w ⊢; clear hWL; go_wp2
 go_loopw [9, 81] (fun v i wr => ∃ k : Nat, k ≤ 1 ∧ i = .int .i64 k ∧ OwnsR WL.heap.size wr v (meets (SD.take k) f.r) ∧ Below WL.heap.size WL wr) (fun _ i _ => 1 - (intOf i).toNat)
 case atStart => exact ⟨0, by omega, rfl, World.ownsRow_nil _ _ _ _, Below.refl _ _⟩
 case round =>
  obtain ⟨k, hk, rfl, hown, hbr⟩ := hrel; have zr := hbr.size
  by_cases hkn : k < 1
  ·obtain ⟨p, hp⟩ := get_at hsl.out hkn
   obtain ⟨bS, oS, cS, e, hbS, _, _, hel⟩ := row_re (RS.out.below hbr) (by rw [hsl.out]; omega); rw [hsl.out] at e
   simp at e
   obtain ⟨⟨rfl, rfl⟩, rfl⟩ := e; obtain ⟨g0, g1, g2, g3⟩ := hel k p hp; simp only [Nat.zero_add] at g0 g1 g2 g3
   have M := fun w => gmeet_any p f.r w (hsw.out p (List.mem_of_getElem? hp)) (may_wf hmr)
   have hsn := meets_snoc (q := f.r) hp; have hml := meets_le (SD.take k) f.r
   have hml4 : (meets (SD.take k) f.r).length ≤ 4 := by simp at hml; omega
   have hkk : (k : Int) < 1 := by omega
   have hem := meet_em p f.r
   have E := fun w => empty_any (meetR p f.r) w (may_wf (meet_may _ _))
   rw [hem] at E; generalize meetR p f.r = m at M hsn E; have hcs : [.int .i64 m.x, .int .i64 m.y, .int .i64 m.wd, .int .i64 m.ht] = m.enc := rfl; replace hcs := hdh hcs; replace M := hdh M; clear hp hml hem hel; unfold OwnsR at hown; obtain ⟨st0, cap0, rfl⟩ := own_slice hown
   have yr0 : b3 < wr.heap.size := by omega
   have B1r := B1.out.below hbr B1.out.lt; have r0 := B1r.cell (o := 15) rfl; have r1 := B1r.cell (o := 16) rfl; have r2 := B1r.cell (o := 17) rfl; have r3 := B1r.cell (o := 18) rfl; have r4 := B1r.lt; replace hown := hdh hown; clear B1r; generalize hz : m.eqb Re.none = z at E hsn; replace E := hdh E
   go_upto_region 23 with (first
    | (go_at_call 51; (with_reducible refine cmm (M.out _) fun w5 hb5 => ?_); have hb5' : Below wr.heap.size wr w5 := belt)
    | go_in)
   have hb7 : Below wr.heap.size wr (w5.alloc (.cells #[.int .i64 m.x, .int .i64 m.y, .int .i64 m.wd, .int .i64 m.ht] 32)) := hb5'.alloc hb5'.size _; obtain ⟨w7, hw7⟩ := exx (w5.alloc (.cells #[.int .i64 m.x, .int .i64 m.y, .int .i64 m.wd, .int .i64 m.ht] 32)); obtain ⟨b12, hb12⟩ := exx (w5.heap.size)
   have B12 : Blk w7 b12 [.int .i64 m.x, .int .i64 m.y, .int .i64 m.wd, .int .i64 m.ht] 32 := by rw [← hw7]; exact Blk.new' hb12.symm
   rw [hw7] at hb7 ⊢; rw [hb12]; clear hw7 hb12 hb5 hb5' r0 r1 r2 r3 r4 g0 g1 g2 g3 M; have c0 := B12.cell (o := 0) rfl; have c1 := B12.cell (o := 1) rfl; have c2 := B12.cell (o := 2) rfl; have c3 := B12.cell (o := 3) rfl; have cl := B12.lt; have zr7 := hb7.size
   cases z
   ·have hsn' : meets (SD.take (k + 1)) f.r = meets (SD.take k) f.r ++ [m] := by rw [hsn]; rfl
    replace hsn' := hdh hsn'; clear hsn hz
    go_upto_region 24 with (first
     | (go_at_call 52; (with_reducible refine cmm (E.out _) fun w8 hb8 => ?_))
     | go_in)
    have B12' := B12.below hb8 cl; have hb78 := hb7.trans (hb8.mono zr7); have z78 := hb78.size; clear c0 c1 c2 c3 cl B12 hb8 E; have c0 := B12'.cell (o := 0) rfl; have c1 := B12'.cell (o := 1) rfl; have c2 := B12'.cell (o := 2) rfl; have c3 := B12'.cell (o := 3) rfl; have cl := B12'.lt
    go_wp2_with (first
     | (at_builtin; refine wpList_append_new rfl _ _ _ rfl WL.heap.size 32 iR _ 4 32 Tryz.underlying25 hr0 hr1 hr2 hr3 rfl (by omega) w8 1 _ _ _ _ (by rfl) (ownsRow_below hown.out hb78 lrr) (by rfl) rfl (by simp [Value.oneCell']) (by omega) (by unfold maxLen; omega) (by omega) ?_; intro v6 w6 hown6 hb6)
     | go_in)
    have hb6' : Below WL.heap.size WL w6 := (hbr.trans (hb78.mono zr)).trans hb6; rw [flatR_snoc hcs.out] at hown6; replace hown6 := hdh hown6; clear hb6; go_wp2; go_roundw
    case rel =>
     refine ⟨k + 1, by omega, by go_num, ?_, hb6'⟩; unfold OwnsR; rw [hsn'.out, List.length_append]; exact hown6.out
    case measure => simp [intOf]; omega
   ·have hsn' : meets (SD.take (k + 1)) f.r = meets (SD.take k) f.r := by rw [hsn]; simp
    replace hsn' := hdh hsn'; clear hsn hz
    go_wp2_with (first
     | (go_at_call 52; (with_reducible refine cmm (E.out _) fun w8 hb8 => ?_))
     | go_in)
    have hb78 := hb7.trans (hb8.mono zr7); go_roundw
    case rel =>
     refine ⟨k + 1, by omega, by go_num, ?_, hbr.trans (hb78.mono zr)⟩; rw [hsn'.out]; exact OwnsR.below hown.out hb78 lrr
    case measure => simp [intOf]; omega
  ·obtain rfl : k = 1 := by omega
   rw [List.take_of_length_le (by have := hsl.out; omega)] at hown; obtain ⟨st0, cap0, rfl⟩ := own_slice hown; replace hown := hdh hown; go_wp2; go_ret; exact ⟨(hb2w).trans (hbr.mono (hb2w).size), _, rfl, own_less hown.out (hb2w).size⟩
set_option maxRecDepth 100000 in
theorem pieces_write (f : Fl) (w : World) (h : f.Ok) (hg : goneB f.s = false) (hk : f.s.kind = 3) : Calls Tryz.prog 44 #[.agg #[.int .u8 (f).s.kind, .int .i64 (f).s.rect.x, .int .i64 (f).s.rect.y, .int .i64 (f).s.rect.wd, .int .i64 (f).s.rect.ht, .int .u8 (f).s.col.r, .int .u8 (f).s.col.g, .int .u8 (f).s.col.b, .int .u8 (f).s.col.a, .int .u8 (f).s.back.r, .int .u8 (f).s.back.g, .int .u8 (f).s.back.b, .int .u8 (f).s.back.a, .string (f).s.text, .int .i64 (f).s.node, .int .i64 (f).r.x, .int .i64 (f).r.y, .int .i64 (f).r.wd, .int .i64 (f).r.ht]] w fun e w' => Below w.heap.size w w' ∧ ∃ v, e = .returned v ∧ OwnsR w.heap.size w' v (meets (allSd f.s) f.r) := by
 obtain ⟨iR, hr0, hr1, hr2, hr3⟩ := info_parts infoRe; obtain ⟨hwf, hm, _, hmr, _, _⟩ := h; unfold goneB at hg; rw [if_neg (by omega), if_pos hk] at hg; have ht := of_decide_eq_false hg
 have q1 : (f.s.kind == 1) = false := by rw [hk]; rfl
 have q2 : (f.s.kind == 2) = false := by rw [hk]; rfl
 have q3 : (f.s.kind == 3) = true := by rw [hk]; rfl
 have q4 : (f.s.text.toList == []) = false := by simpa using ht
 have q5 : f.s.text.toList.isEmpty = false := by simpa using ht
 have eS : allSd f.s = [f.s.rect] := by unfold allSd; rw [if_neg (by omega)]
 obtain ⟨SD, hSD⟩ := exx (allSd f.s); rw [hSD]; rw [hSD] at eS; replace hSD := hdh eS; clear hg hk eS ht
 go_enter Tryz.func44, Tryz.ntmps44
 go_upto_region 1 with fail
 obtain ⟨W0, hW0⟩ := exx (w.alloc (.cells (Fl.enc f).toArray 82)); obtain ⟨b1, hb1⟩ := exx (w.heap.size)
 have B1 : Blk W0 b1 (Fl.enc f) 82 := by rw [← hW0]; exact Blk.new' hb1.symm
 have hb0 : Below w.heap.size w W0 := by rw [← hW0]; exact belt
 rw [show w.alloc (.cells #[.int .u8 (f).s.kind, .int .i64 (f).s.rect.x, .int .i64 (f).s.rect.y, .int .i64 (f).s.rect.wd, .int .i64 (f).s.rect.ht, .int .u8 (f).s.col.r, .int .u8 (f).s.col.g, .int .u8 (f).s.col.b, .int .u8 (f).s.col.a, .int .u8 (f).s.back.r, .int .u8 (f).s.back.g, .int .u8 (f).s.back.b, .int .u8 (f).s.back.a, .string (f).s.text, .int .i64 (f).s.node, .int .i64 (f).r.x, .int .i64 (f).r.y, .int .i64 (f).r.wd, .int .i64 (f).r.ht] 82) = W0 from hW0, hb1]; clear hW0; replace hb1 := hdh hb1; have k0 := B1.cell (o := 0) rfl; have k1 := B1.cell (o := 1) rfl; have k2 := B1.cell (o := 2) rfl
 have k3 := B1.cell (o := 3) rfl; have k4 := B1.cell (o := 4) rfl; have k8 := B1.cell (o := 8) rfl; have k13 := B1.cell (o := 13) rfl; have kl := B1.lt
 go_upto_region 2 with fail
 obtain ⟨W1, hW1⟩ := exx (W0.alloc (.cells #[.int .i64 f.s.rect.x, .int .i64 f.s.rect.y, .int .i64 f.s.rect.wd, .int .i64 f.s.rect.ht] 32)); obtain ⟨b3, hb3⟩ := exx (W0.heap.size)
 have B3 : Blk W1 b3 ([f.s.rect].flatMap Re.enc) 32 := by rw [← hW1]; exact Blk.new' (cs := [.int .i64 f.s.rect.x, .int .i64 f.s.rect.y, .int .i64 f.s.rect.wd, .int .i64 f.s.rect.ht]) hb3.symm
 have hb01 : Below W0.heap.size W0 W1 := by rw [← hW1]; exact (Below.refl _ _).alloc lrr _
 have gb3 : w.heap.size ≤ b3 := by have := hb0.size; omega
 rw [hW1, hb3]; clear hW1 hb3; clear k0 k1 k2 k3 k4 k8 k13 kl; replace B1 := B1.below hb01 B1.lt; have hb1w := hb0.trans (hb01.mono hb0.size); clear hb0 hb01; have k0 := B1.cell (o := 0) rfl; have k1 := B1.cell (o := 1) rfl; have k2 := B1.cell (o := 2) rfl; have k3 := B1.cell (o := 3) rfl; have k4 := B1.cell (o := 4) rfl; have k8 := B1.cell (o := 8) rfl; have k13 := B1.cell (o := 13) rfl; have kl := B1.lt
 go_upto_region 11 with fail
 clear k0 k1 k2 k3 k4 k8 k13 kl; obtain ⟨W2, hW2⟩ := exx (W1.alloc (.cells #[.int .i64 f.s.rect.x, .int .i64 f.s.rect.y, .int .i64 f.s.rect.wd, .int .i64 f.s.rect.ht] 32)); obtain ⟨b4, hb4⟩ := exx (W1.heap.size)
 have B4 : Blk W2 b4 (Re.enc f.s.rect) 32 := by rw [← hW2]; exact Blk.new' (cs := [.int .i64 f.s.rect.x, .int .i64 f.s.rect.y, .int .i64 f.s.rect.wd, .int .i64 f.s.rect.ht]) hb4.symm
 have hb12 : Below W1.heap.size W1 W2 := by rw [← hW2]; exact (Below.refl _ _).alloc lrr _
 rw [hW2, hb4]; clear hW2 hb4; replace B1 := B1.below hb12 B1.lt; replace B3 := B3.below hb12 B3.lt; have hb2w := hb1w.trans (hb12.mono hb1w.size); clear hb1w hb12; have k0 := B1.cell (o := 0) rfl
 go_upto_region 18 with fail
 clear k0 B4; have RS : Row W2.heap.size 4 Re.enc W2 (.slice (some ⟨b3, 0, none⟩) 1 1) [f.s.rect] := (Blk.ownsR (n := 1) (base := 0) B3 rfl (Nat.zero_le _) (by unfold maxLen; omega)).row lrr
 have hsw : ∀ p ∈ [f.s.rect], p.Wf := fun p hp => by simp at hp; rw [hp]; exact may_wf hm
 have hsl : [f.s.rect].length = 1 := rfl; clear B3 gb3 q1 q2 q3 q4 q5 hm hwf; have hSD2 := hSD.out; rw [← hSD2] at RS hsw hsl; replace hsw := hdh hsw; replace hsl := hdh hsl; replace RS := hdh RS; replace B1 := hdh B1; clear hSD hSD2; obtain ⟨WL, hWL⟩ := exx (W2); rw [hWL] at RS B1 hb2w ⊢; clear hWL; go_wp2
 go_loopw [9, 81] (fun v i wr => ∃ k : Nat, k ≤ 1 ∧ i = .int .i64 k ∧ OwnsR WL.heap.size wr v (meets (SD.take k) f.r) ∧ Below WL.heap.size WL wr) (fun _ i _ => 1 - (intOf i).toNat)
 case atStart => exact ⟨0, by omega, rfl, World.ownsRow_nil _ _ _ _, Below.refl _ _⟩
 case round =>
  obtain ⟨k, hk, rfl, hown, hbr⟩ := hrel; have zr := hbr.size
  by_cases hkn : k < 1
  ·obtain ⟨p, hp⟩ := get_at hsl.out hkn
   obtain ⟨bS, oS, cS, e, hbS, _, _, hel⟩ := row_re (RS.out.below hbr) (by rw [hsl.out]; omega); rw [hsl.out] at e
   simp at e
   obtain ⟨⟨rfl, rfl⟩, rfl⟩ := e; obtain ⟨g0, g1, g2, g3⟩ := hel k p hp; simp only [Nat.zero_add] at g0 g1 g2 g3
   have M := fun w => gmeet_any p f.r w (hsw.out p (List.mem_of_getElem? hp)) (may_wf hmr)
   have hsn := meets_snoc (q := f.r) hp; have hml := meets_le (SD.take k) f.r
   have hml4 : (meets (SD.take k) f.r).length ≤ 4 := by simp at hml; omega
   have hkk : (k : Int) < 1 := by omega
   have hem := meet_em p f.r
   have E := fun w => empty_any (meetR p f.r) w (may_wf (meet_may _ _))
   rw [hem] at E; generalize meetR p f.r = m at M hsn E; have hcs : [.int .i64 m.x, .int .i64 m.y, .int .i64 m.wd, .int .i64 m.ht] = m.enc := rfl; replace hcs := hdh hcs; replace M := hdh M; clear hp hml hem hel; unfold OwnsR at hown; obtain ⟨st0, cap0, rfl⟩ := own_slice hown
   have yr0 : b3 < wr.heap.size := by omega
   have B1r := B1.out.below hbr B1.out.lt; have r0 := B1r.cell (o := 15) rfl; have r1 := B1r.cell (o := 16) rfl; have r2 := B1r.cell (o := 17) rfl; have r3 := B1r.cell (o := 18) rfl; have r4 := B1r.lt; replace hown := hdh hown; clear B1r; generalize hz : m.eqb Re.none = z at E hsn; replace E := hdh E
   go_upto_region 23 with (first
    | (go_at_call 51; (with_reducible refine cmm (M.out _) fun w5 hb5 => ?_); have hb5' : Below wr.heap.size wr w5 := belt)
    | go_in)
   have hb7 : Below wr.heap.size wr (w5.alloc (.cells #[.int .i64 m.x, .int .i64 m.y, .int .i64 m.wd, .int .i64 m.ht] 32)) := hb5'.alloc hb5'.size _; obtain ⟨w7, hw7⟩ := exx (w5.alloc (.cells #[.int .i64 m.x, .int .i64 m.y, .int .i64 m.wd, .int .i64 m.ht] 32)); obtain ⟨b12, hb12⟩ := exx (w5.heap.size)
   have B12 : Blk w7 b12 [.int .i64 m.x, .int .i64 m.y, .int .i64 m.wd, .int .i64 m.ht] 32 := by rw [← hw7]; exact Blk.new' hb12.symm
   rw [hw7] at hb7 ⊢; rw [hb12]; clear hw7 hb12 hb5 hb5' r0 r1 r2 r3 r4 g0 g1 g2 g3 M; have c0 := B12.cell (o := 0) rfl; have c1 := B12.cell (o := 1) rfl; have c2 := B12.cell (o := 2) rfl; have c3 := B12.cell (o := 3) rfl; have cl := B12.lt; have zr7 := hb7.size
   cases z
   ·have hsn' : meets (SD.take (k + 1)) f.r = meets (SD.take k) f.r ++ [m] := by rw [hsn]; rfl
    replace hsn' := hdh hsn'; clear hsn hz
    go_upto_region 24 with (first
     | (go_at_call 52; (with_reducible refine cmm (E.out _) fun w8 hb8 => ?_))
     | go_in)
    have B12' := B12.below hb8 cl; have hb78 := hb7.trans (hb8.mono zr7); have z78 := hb78.size; clear c0 c1 c2 c3 cl B12 hb8 E; have c0 := B12'.cell (o := 0) rfl; have c1 := B12'.cell (o := 1) rfl; have c2 := B12'.cell (o := 2) rfl; have c3 := B12'.cell (o := 3) rfl; have cl := B12'.lt
    go_wp2_with (first
     | (at_builtin; refine wpList_append_new rfl _ _ _ rfl WL.heap.size 32 iR _ 4 32 Tryz.underlying25 hr0 hr1 hr2 hr3 rfl (by omega) w8 1 _ _ _ _ (by rfl) (ownsRow_below hown.out hb78 lrr) (by rfl) rfl (by simp [Value.oneCell']) (by omega) (by unfold maxLen; omega) (by omega) ?_; intro v6 w6 hown6 hb6)
     | go_in)
    have hb6' : Below WL.heap.size WL w6 := (hbr.trans (hb78.mono zr)).trans hb6; rw [flatR_snoc hcs.out] at hown6; replace hown6 := hdh hown6; clear hb6; go_wp2; go_roundw
    case rel =>
     refine ⟨k + 1, by omega, by go_num, ?_, hb6'⟩; unfold OwnsR; rw [hsn'.out, List.length_append]; exact hown6.out
    case measure => simp [intOf]; omega
   ·have hsn' : meets (SD.take (k + 1)) f.r = meets (SD.take k) f.r := by rw [hsn]; simp
    replace hsn' := hdh hsn'; clear hsn hz
    go_wp2_with (first
     | (go_at_call 52; (with_reducible refine cmm (E.out _) fun w8 hb8 => ?_))
     | go_in)
    have hb78 := hb7.trans (hb8.mono zr7); go_roundw
    case rel =>
     refine ⟨k + 1, by omega, by go_num, ?_, hbr.trans (hb78.mono zr)⟩; rw [hsn'.out]; exact OwnsR.below hown.out hb78 lrr
    case measure => simp [intOf]; omega
  ·obtain rfl : k = 1 := by omega
   rw [List.take_of_length_le (by have := hsl.out; omega)] at hown; obtain ⟨st0, cap0, rfl⟩ := own_slice hown; replace hown := hdh hown; go_wp2; go_ret; exact ⟨(hb2w).trans (hbr.mono (hb2w).size), _, rfl, own_less hown.out (hb2w).size⟩
set_option maxRecDepth 100000 in
theorem pieces_frame0 (f : Fl) (w : World) (h : f.Ok) (hg : goneB f.s = false) (hk : f.s.kind = 2) (he : emptyR f.s.rect = true) : Calls Tryz.prog 44 #[.agg #[.int .u8 (f).s.kind, .int .i64 (f).s.rect.x, .int .i64 (f).s.rect.y, .int .i64 (f).s.rect.wd, .int .i64 (f).s.rect.ht, .int .u8 (f).s.col.r, .int .u8 (f).s.col.g, .int .u8 (f).s.col.b, .int .u8 (f).s.col.a, .int .u8 (f).s.back.r, .int .u8 (f).s.back.g, .int .u8 (f).s.back.b, .int .u8 (f).s.back.a, .string (f).s.text, .int .i64 (f).s.node, .int .i64 (f).r.x, .int .i64 (f).r.y, .int .i64 (f).r.wd, .int .i64 (f).r.ht]] w fun e w' => Below w.heap.size w w' ∧ ∃ v, e = .returned v ∧ OwnsR w.heap.size w' v (meets (allSd f.s) f.r) := by
 obtain ⟨iR, hr0, hr1, hr2, hr3⟩ := info_parts infoRe; obtain ⟨hwf, hm, _, hmr, _, _⟩ := h; unfold goneB at hg; rw [if_pos (.inr hk)] at hg
 have q1 : (f.s.kind == 1) = false := by rw [hk]; rfl
 have q2 : (f.s.kind == 2) = true := by rw [hk]; rfl
 have q4 : (f.s.col.a == 0) = false := by simpa using hg
 have eS : allSd f.s = [f.s.rect] := by unfold allSd; rw [if_neg (by rw [he]; simp)]
 obtain ⟨SD, hSD⟩ := exx (allSd f.s); rw [hSD]; rw [hSD] at eS; replace hSD := hdh eS
 have EM := fun w => empty_any f.s.rect w (may_wf hm)
 rw [he] at EM; replace EM := hdh EM; clear hg hk eS he
 go_enter Tryz.func44, Tryz.ntmps44
 go_upto_region 1 with fail
 obtain ⟨W0, hW0⟩ := exx (w.alloc (.cells (Fl.enc f).toArray 82)); obtain ⟨b1, hb1⟩ := exx (w.heap.size)
 have B1 : Blk W0 b1 (Fl.enc f) 82 := by rw [← hW0]; exact Blk.new' hb1.symm
 have hb0 : Below w.heap.size w W0 := by rw [← hW0]; exact belt
 rw [show w.alloc (.cells #[.int .u8 (f).s.kind, .int .i64 (f).s.rect.x, .int .i64 (f).s.rect.y, .int .i64 (f).s.rect.wd, .int .i64 (f).s.rect.ht, .int .u8 (f).s.col.r, .int .u8 (f).s.col.g, .int .u8 (f).s.col.b, .int .u8 (f).s.col.a, .int .u8 (f).s.back.r, .int .u8 (f).s.back.g, .int .u8 (f).s.back.b, .int .u8 (f).s.back.a, .string (f).s.text, .int .i64 (f).s.node, .int .i64 (f).r.x, .int .i64 (f).r.y, .int .i64 (f).r.wd, .int .i64 (f).r.ht] 82) = W0 from hW0, hb1]; clear hW0; replace hb1 := hdh hb1; have k0 := B1.cell (o := 0) rfl; have k1 := B1.cell (o := 1) rfl; have k2 := B1.cell (o := 2) rfl
 have k3 := B1.cell (o := 3) rfl; have k4 := B1.cell (o := 4) rfl; have k8 := B1.cell (o := 8) rfl; have k13 := B1.cell (o := 13) rfl; have kl := B1.lt
 go_upto_region 2 with fail
 obtain ⟨W1, hW1⟩ := exx (W0.alloc (.cells #[.int .i64 f.s.rect.x, .int .i64 f.s.rect.y, .int .i64 f.s.rect.wd, .int .i64 f.s.rect.ht] 32)); obtain ⟨b3, hb3⟩ := exx (W0.heap.size)
 have B3 : Blk W1 b3 ([f.s.rect].flatMap Re.enc) 32 := by rw [← hW1]; exact Blk.new' (cs := [.int .i64 f.s.rect.x, .int .i64 f.s.rect.y, .int .i64 f.s.rect.wd, .int .i64 f.s.rect.ht]) hb3.symm
 have hb01 : Below W0.heap.size W0 W1 := by rw [← hW1]; exact (Below.refl _ _).alloc lrr _
 have gb3 : w.heap.size ≤ b3 := by have := hb0.size; omega
 rw [hW1, hb3]; clear hW1 hb3; clear k0 k1 k2 k3 k4 k8 k13 kl; replace B1 := B1.below hb01 B1.lt; have hb1w := hb0.trans (hb01.mono hb0.size); clear hb0 hb01; have k0 := B1.cell (o := 0) rfl; have k1 := B1.cell (o := 1) rfl; have k2 := B1.cell (o := 2) rfl; have k3 := B1.cell (o := 3) rfl; have k4 := B1.cell (o := 4) rfl; have k8 := B1.cell (o := 8) rfl; have k13 := B1.cell (o := 13) rfl; have kl := B1.lt
 go_upto_region 11 with fail
 clear k0 k1 k2 k3 k4 k8 k13 kl; obtain ⟨W2, hW2⟩ := exx (W1.alloc (.cells #[.int .i64 f.s.rect.x, .int .i64 f.s.rect.y, .int .i64 f.s.rect.wd, .int .i64 f.s.rect.ht] 32)); obtain ⟨b4, hb4⟩ := exx (W1.heap.size)
 have B4 : Blk W2 b4 (Re.enc f.s.rect) 32 := by rw [← hW2]; exact Blk.new' (cs := [.int .i64 f.s.rect.x, .int .i64 f.s.rect.y, .int .i64 f.s.rect.wd, .int .i64 f.s.rect.ht]) hb4.symm
 have hb12 : Below W1.heap.size W1 W2 := by rw [← hW2]; exact (Below.refl _ _).alloc lrr _
 rw [hW2, hb4]; clear hW2 hb4; replace B1 := B1.below hb12 B1.lt; replace B3 := B3.below hb12 B3.lt; have hb2w := hb1w.trans (hb12.mono hb1w.size); clear hb1w hb12; have k0 := B1.cell (o := 0) rfl; have c0 := B4.cell (o := 0) rfl; have c1 := B4.cell (o := 1) rfl; have c2 := B4.cell (o := 2) rfl; have c3 := B4.cell (o := 3) rfl; have c4 := B4.lt
 go_upto_region 18 with (go_at_call 52; (with_reducible refine cmm (EM.out _) fun w3 hb3 => ?_))
 replace B1 := B1.below hb3 B1.lt; replace B3 := B3.below hb3 B3.lt; have hb3w := hb2w.trans (hb3.mono hb2w.size); clear k0 B4 c0 c1 c2 c3 c4 hb3 hb2w EM; have RS : Row w3.heap.size 4 Re.enc w3 (.slice (some ⟨b3, 0, none⟩) 1 1) [f.s.rect] := (Blk.ownsR (n := 1) (base := 0) B3 rfl (Nat.zero_le _) (by unfold maxLen; omega)).row lrr
 have hsw : ∀ p ∈ [f.s.rect], p.Wf := fun p hp => by simp at hp; rw [hp]; exact may_wf hm
 have hsl : [f.s.rect].length = 1 := rfl; clear B3 gb3 q1 q2 q4 hm hwf; have hSD2 := hSD.out; rw [← hSD2] at RS hsw hsl; replace hsw := hdh hsw; replace hsl := hdh hsl; replace RS := hdh RS; replace B1 := hdh B1; clear hSD hSD2; obtain ⟨WL, hWL⟩ := exx (w3); rw [hWL] at RS B1 hb3w ⊢; clear hWL; go_wp2
 go_loopw [9, 81] (fun v i wr => ∃ k : Nat, k ≤ 1 ∧ i = .int .i64 k ∧ OwnsR WL.heap.size wr v (meets (SD.take k) f.r) ∧ Below WL.heap.size WL wr) (fun _ i _ => 1 - (intOf i).toNat)
 case atStart => exact ⟨0, by omega, rfl, World.ownsRow_nil _ _ _ _, Below.refl _ _⟩
 case round =>
  obtain ⟨k, hk, rfl, hown, hbr⟩ := hrel; have zr := hbr.size
  by_cases hkn : k < 1
  ·obtain ⟨p, hp⟩ := get_at hsl.out hkn
   obtain ⟨bS, oS, cS, e, hbS, _, _, hel⟩ := row_re (RS.out.below hbr) (by rw [hsl.out]; omega); rw [hsl.out] at e
   simp at e
   obtain ⟨⟨rfl, rfl⟩, rfl⟩ := e; obtain ⟨g0, g1, g2, g3⟩ := hel k p hp; simp only [Nat.zero_add] at g0 g1 g2 g3
   have M := fun w => gmeet_any p f.r w (hsw.out p (List.mem_of_getElem? hp)) (may_wf hmr)
   have hsn := meets_snoc (q := f.r) hp; have hml := meets_le (SD.take k) f.r
   have hml4 : (meets (SD.take k) f.r).length ≤ 4 := by simp at hml; omega
   have hkk : (k : Int) < 1 := by omega
   have hem := meet_em p f.r
   have E := fun w => empty_any (meetR p f.r) w (may_wf (meet_may _ _))
   rw [hem] at E; generalize meetR p f.r = m at M hsn E; have hcs : [.int .i64 m.x, .int .i64 m.y, .int .i64 m.wd, .int .i64 m.ht] = m.enc := rfl; replace hcs := hdh hcs; replace M := hdh M; clear hp hml hem hel; unfold OwnsR at hown; obtain ⟨st0, cap0, rfl⟩ := own_slice hown
   have yr0 : b3 < wr.heap.size := by omega
   have B1r := B1.out.below hbr B1.out.lt; have r0 := B1r.cell (o := 15) rfl; have r1 := B1r.cell (o := 16) rfl; have r2 := B1r.cell (o := 17) rfl; have r3 := B1r.cell (o := 18) rfl; have r4 := B1r.lt; replace hown := hdh hown; clear B1r; generalize hz : m.eqb Re.none = z at E hsn; replace E := hdh E
   go_upto_region 23 with (first
    | (go_at_call 51; (with_reducible refine cmm (M.out _) fun w5 hb5 => ?_); have hb5' : Below wr.heap.size wr w5 := belt)
    | go_in)
   have hb7 : Below wr.heap.size wr (w5.alloc (.cells #[.int .i64 m.x, .int .i64 m.y, .int .i64 m.wd, .int .i64 m.ht] 32)) := hb5'.alloc hb5'.size _; obtain ⟨w7, hw7⟩ := exx (w5.alloc (.cells #[.int .i64 m.x, .int .i64 m.y, .int .i64 m.wd, .int .i64 m.ht] 32)); obtain ⟨b12, hb12⟩ := exx (w5.heap.size)
   have B12 : Blk w7 b12 [.int .i64 m.x, .int .i64 m.y, .int .i64 m.wd, .int .i64 m.ht] 32 := by rw [← hw7]; exact Blk.new' hb12.symm
   rw [hw7] at hb7 ⊢; rw [hb12]; clear hw7 hb12 hb5 hb5' r0 r1 r2 r3 r4 g0 g1 g2 g3 M; have c0 := B12.cell (o := 0) rfl; have c1 := B12.cell (o := 1) rfl; have c2 := B12.cell (o := 2) rfl; have c3 := B12.cell (o := 3) rfl; have cl := B12.lt; have zr7 := hb7.size
   cases z
   ·have hsn' : meets (SD.take (k + 1)) f.r = meets (SD.take k) f.r ++ [m] := by rw [hsn]; rfl
    replace hsn' := hdh hsn'; clear hsn hz
    go_upto_region 24 with (first
     | (go_at_call 52; (with_reducible refine cmm (E.out _) fun w8 hb8 => ?_))
     | go_in)
    have B12' := B12.below hb8 cl; have hb78 := hb7.trans (hb8.mono zr7); have z78 := hb78.size; clear c0 c1 c2 c3 cl B12 hb8 E; have c0 := B12'.cell (o := 0) rfl; have c1 := B12'.cell (o := 1) rfl; have c2 := B12'.cell (o := 2) rfl; have c3 := B12'.cell (o := 3) rfl; have cl := B12'.lt
    go_wp2_with (first
     | (at_builtin; refine wpList_append_new rfl _ _ _ rfl WL.heap.size 32 iR _ 4 32 Tryz.underlying25 hr0 hr1 hr2 hr3 rfl (by omega) w8 1 _ _ _ _ (by rfl) (ownsRow_below hown.out hb78 lrr) (by rfl) rfl (by simp [Value.oneCell']) (by omega) (by unfold maxLen; omega) (by omega) ?_; intro v6 w6 hown6 hb6)
     | go_in)
    have hb6' : Below WL.heap.size WL w6 := (hbr.trans (hb78.mono zr)).trans hb6; rw [flatR_snoc hcs.out] at hown6; replace hown6 := hdh hown6; clear hb6; go_wp2; go_roundw
    case rel =>
     refine ⟨k + 1, by omega, by go_num, ?_, hb6'⟩; unfold OwnsR; rw [hsn'.out, List.length_append]; exact hown6.out
    case measure => simp [intOf]; omega
   ·have hsn' : meets (SD.take (k + 1)) f.r = meets (SD.take k) f.r := by rw [hsn]; simp
    replace hsn' := hdh hsn'; clear hsn hz
    go_wp2_with (first
     | (go_at_call 52; (with_reducible refine cmm (E.out _) fun w8 hb8 => ?_))
     | go_in)
    have hb78 := hb7.trans (hb8.mono zr7); go_roundw
    case rel =>
     refine ⟨k + 1, by omega, by go_num, ?_, hbr.trans (hb78.mono zr)⟩; rw [hsn'.out]; exact OwnsR.below hown.out hb78 lrr
    case measure => simp [intOf]; omega
  ·obtain rfl : k = 1 := by omega
   rw [List.take_of_length_le (by have := hsl.out; omega)] at hown; obtain ⟨st0, cap0, rfl⟩ := own_slice hown; replace hown := hdh hown; go_wp2; go_ret; exact ⟨(hb3w).trans (hbr.mono (hb3w).size), _, rfl, own_less hown.out (hb3w).size⟩
set_option maxRecDepth 100000 in
theorem pieces_frame (f : Fl) (w : World) (h : f.Ok) (hg : goneB f.s = false) (hk : f.s.kind = 2) (he : emptyR f.s.rect = false) : Calls Tryz.prog 44 #[.agg #[.int .u8 (f).s.kind, .int .i64 (f).s.rect.x, .int .i64 (f).s.rect.y, .int .i64 (f).s.rect.wd, .int .i64 (f).s.rect.ht, .int .u8 (f).s.col.r, .int .u8 (f).s.col.g, .int .u8 (f).s.col.b, .int .u8 (f).s.col.a, .int .u8 (f).s.back.r, .int .u8 (f).s.back.g, .int .u8 (f).s.back.b, .int .u8 (f).s.back.a, .string (f).s.text, .int .i64 (f).s.node, .int .i64 (f).r.x, .int .i64 (f).r.y, .int .i64 (f).r.wd, .int .i64 (f).r.ht]] w fun e w' => Below w.heap.size w w' ∧ ∃ v, e = .returned v ∧ OwnsR w.heap.size w' v (meets (allSd f.s) f.r) := by
 obtain ⟨iR, hr0, hr1, hr2, hr3⟩ := info_parts infoRe; obtain ⟨hwf, hm, _, hmr, _, _⟩ := h; unfold goneB at hg; rw [if_pos (.inr hk)] at hg
 have q1 : (f.s.kind == 1) = false := by rw [hk]; rfl
 have q2 : (f.s.kind == 2) = true := by rw [hk]; rfl
 have q4 : (f.s.col.a == 0) = false := by simpa using hg
 have eS : allSd f.s = sidesR f.s.rect := by unfold allSd; rw [if_pos ⟨hk, he⟩]
 obtain ⟨SD, hSD⟩ := exx (allSd f.s); rw [hSD]; rw [hSD] at eS; replace hSD := hdh eS
 have EM := fun w => empty_any f.s.rect w (may_wf hm)
 rw [he] at EM; replace EM := hdh EM; have hbd := may_bd hm; obtain ⟨bx0, bx1, by0, by1, bw0, bw1, bh0, bh1⟩ := hbd; clear hg hk eS he
 go_enter Tryz.func44, Tryz.ntmps44
 go_upto_region 1 with fail
 obtain ⟨W0, hW0⟩ := exx (w.alloc (.cells (Fl.enc f).toArray 82)); obtain ⟨b1, hb1⟩ := exx (w.heap.size)
 have B1 : Blk W0 b1 (Fl.enc f) 82 := by rw [← hW0]; exact Blk.new' hb1.symm
 have hb0 : Below w.heap.size w W0 := by rw [← hW0]; exact belt
 rw [show w.alloc (.cells #[.int .u8 (f).s.kind, .int .i64 (f).s.rect.x, .int .i64 (f).s.rect.y, .int .i64 (f).s.rect.wd, .int .i64 (f).s.rect.ht, .int .u8 (f).s.col.r, .int .u8 (f).s.col.g, .int .u8 (f).s.col.b, .int .u8 (f).s.col.a, .int .u8 (f).s.back.r, .int .u8 (f).s.back.g, .int .u8 (f).s.back.b, .int .u8 (f).s.back.a, .string (f).s.text, .int .i64 (f).s.node, .int .i64 (f).r.x, .int .i64 (f).r.y, .int .i64 (f).r.wd, .int .i64 (f).r.ht] 82) = W0 from hW0, hb1]; clear hW0; replace hb1 := hdh hb1; have k0 := B1.cell (o := 0) rfl; have k1 := B1.cell (o := 1) rfl; have k2 := B1.cell (o := 2) rfl
 have k3 := B1.cell (o := 3) rfl; have k4 := B1.cell (o := 4) rfl; have k8 := B1.cell (o := 8) rfl; have k13 := B1.cell (o := 13) rfl; have kl := B1.lt
 go_upto_region 2 with fail
 obtain ⟨W1, hW1⟩ := exx (W0.alloc (.cells #[.int .i64 f.s.rect.x, .int .i64 f.s.rect.y, .int .i64 f.s.rect.wd, .int .i64 f.s.rect.ht] 32)); obtain ⟨b3, hb3⟩ := exx (W0.heap.size)
 have B3 : Blk W1 b3 ([f.s.rect].flatMap Re.enc) 32 := by rw [← hW1]; exact Blk.new' (cs := [.int .i64 f.s.rect.x, .int .i64 f.s.rect.y, .int .i64 f.s.rect.wd, .int .i64 f.s.rect.ht]) hb3.symm
 have hb01 : Below W0.heap.size W0 W1 := by rw [← hW1]; exact (Below.refl _ _).alloc lrr _
 have gb3 : w.heap.size ≤ b3 := by have := hb0.size; omega
 rw [hW1, hb3]; clear hW1 hb3; clear k0 k1 k2 k3 k4 k8 k13 kl; replace B1 := B1.below hb01 B1.lt; have hb1w := hb0.trans (hb01.mono hb0.size); clear hb0 hb01; have k0 := B1.cell (o := 0) rfl; have k1 := B1.cell (o := 1) rfl; have k2 := B1.cell (o := 2) rfl; have k3 := B1.cell (o := 3) rfl; have k4 := B1.cell (o := 4) rfl; have k8 := B1.cell (o := 8) rfl; have k13 := B1.cell (o := 13) rfl; have kl := B1.lt
 go_upto_region 11 with fail
 clear k0 k1 k2 k3 k4 k8 k13 kl; obtain ⟨W2, hW2⟩ := exx (W1.alloc (.cells #[.int .i64 f.s.rect.x, .int .i64 f.s.rect.y, .int .i64 f.s.rect.wd, .int .i64 f.s.rect.ht] 32)); obtain ⟨b4, hb4⟩ := exx (W1.heap.size)
 have B4 : Blk W2 b4 (Re.enc f.s.rect) 32 := by rw [← hW2]; exact Blk.new' (cs := [.int .i64 f.s.rect.x, .int .i64 f.s.rect.y, .int .i64 f.s.rect.wd, .int .i64 f.s.rect.ht]) hb4.symm
 have hb12 : Below W1.heap.size W1 W2 := by rw [← hW2]; exact (Below.refl _ _).alloc lrr _
 rw [hW2, hb4]; clear hW2 hb4; replace B1 := B1.below hb12 B1.lt; replace B3 := B3.below hb12 B3.lt; have hb2w := hb1w.trans (hb12.mono hb1w.size); clear hb1w hb12; have k0 := B1.cell (o := 0) rfl; have c0 := B4.cell (o := 0) rfl; have c1 := B4.cell (o := 1) rfl; have c2 := B4.cell (o := 2) rfl; have c3 := B4.cell (o := 3) rfl; have c4 := B4.lt
 go_upto_region 12 with (go_at_call 52; (with_reducible refine cmm (EM.out _) fun w3 hb3 => ?_))
 replace B1 := B1.below hb3 B1.lt; replace B4 := B4.below hb3 B4.lt; have hb3w := hb2w.trans (hb3.mono hb2w.size); clear k0 B3 gb3 c0 c1 c2 c3 c4 hb3 hb2w EM q1 q2 q4 hwf; have c0 := B4.cell (o := 0) rfl; have c1 := B4.cell (o := 1) rfl; have c2 := B4.cell (o := 2) rfl; have c3 := B4.cell (o := 3) rfl; have c4 := B4.lt
 go_cut [5, 6] (fun v7 v8 wx => TwoBox w3 f.s.rect f.s.rect v7 v8 wx)
 case first =>
  refine held_begin (Held w3 0 []) (by kernel_rfl) ⟨Below.drew (Below.refl _ _), Nat.le_refl _, trivial⟩ (fun hS => ?_)
  (refine' hdo 0 hS ?_; simp only [pu])
  (refine' hdo 1 hS ?_; simp only [pu])
  (refine' held_two (i := 2) (j := 3) rfl rfl (by kernel_rfl) _ _ _ _; (focus rfl); (focus rfl))
  ·intro K hK
   go_simp
   refine hK _ _ ⟨belt, by (try simp) <;> omega, trivial⟩ ?_; clear hK
   (try simp only [pu])
   (refine honn 3 fun K hK => ?_; go_simp)
   refine hK _ _ ⟨belt, by (try simp) <;> omega, trivial⟩ ?_; clear hK
   (try simp only [pu])
   (refine honn 4 fun K hK => ?_; go_simp)
   refine hK _ _ ⟨belt, by (try simp) <;> omega, trivial⟩ ?_; clear hK
   (try simp only [pu])
   (refine honn 5 fun K hK => ?_; go_simp)
   refine hK _ _ ⟨belt, by (try simp) <;> omega, trivial⟩ ?_; clear hK
   (try simp only [pu])
   refine wpAnyH_done (by kernel_rfl) ?_ _; go_wp2; go_meet
   case rel => exact ⟨_, _, rfl, rfl, by omega, by omega, by omega, by (try simp) <;> omega, by (try simp) <;> omega, ⟨⟨by go_simp, by go_simp, by go_simp, by go_simp⟩, ⟨by go_simp, by go_simp, by go_simp, by go_simp⟩⟩, ⟨⟨by go_simp, by go_simp, by go_simp, by go_simp⟩, ⟨by go_simp, by go_simp, by go_simp, by go_simp⟩⟩, belt⟩
  ·intro K hK
   go_simp
   refine hK _ _ ⟨belt, by (try simp) <;> omega, trivial⟩ ?_; clear hK
   (try simp only [pu])
   (refine honn 2 fun K hK => ?_; go_simp)
   refine hK _ _ ⟨belt, by (try simp) <;> omega, trivial⟩ ?_; clear hK
   (try simp only [pu])
   (refine honn 4 fun K hK => ?_; go_simp)
   refine hK _ _ ⟨belt, by (try simp) <;> omega, trivial⟩ ?_; clear hK
   (try simp only [pu])
   (refine honn 5 fun K hK => ?_; go_simp)
   refine hK _ _ ⟨belt, by (try simp) <;> omega, trivial⟩ ?_; clear hK
   (try simp only [pu])
   refine wpAnyH_done (by kernel_rfl) ?_ _; go_wp2; go_meet
   case rel => exact ⟨_, _, rfl, rfl, by omega, by omega, by omega, by (try simp) <;> omega, by (try simp) <;> omega, ⟨⟨by go_simp, by go_simp, by go_simp, by go_simp⟩, ⟨by go_simp, by go_simp, by go_simp, by go_simp⟩⟩, ⟨⟨by go_simp, by go_simp, by go_simp, by go_simp⟩, ⟨by go_simp, by go_simp, by go_simp, by go_simp⟩⟩, belt⟩
 case rest =>
  obtain ⟨b5, b6, rfl, rfl, hne, g1, g2, g3, g4, ⟨⟨a0, a1, a2, a3⟩, ⟨f0, f1, f2, f3⟩⟩, ⟨⟨e0, e1, e2, e3⟩, ⟨d0, d1, d2, d3⟩⟩, hbc⟩ := hcut; clear c0 c1 c2 c3; have zc := hbc.size; have B1c := B1.below hbc B1.lt; have B4c := B4.below hbc B4.lt; have l1 := B1.lt; clear B1 B4
  go_upto_region 14 with fail
  have B1d := (B1c.set_ne (a := ⟨b5, 3, none⟩) (by show b1 ≠ b5; omega) (.int .i64 1)).set_ne (a := ⟨b6, 2, none⟩) (by show b1 ≠ b6; omega) (.int .i64 1); have B4d := (B4c.set_ne (a := ⟨b5, 3, none⟩) (by show b4 ≠ b5; omega) (.int .i64 1)).set_ne (a := ⟨b6, 2, none⟩) (by show b4 ≠ b6; omega) (.int .i64 1); have hbd := ((hbc.setCell (p := ⟨b5, 3, none⟩) (by show w3.heap.size ≤ b5; omega) (.int .i64 1)).setCell (p := ⟨b6, 2, none⟩) (by show w3.heap.size ≤ b6; omega) (.int .i64 1))
  have p0 : ((wc.setCell ⟨b5, 3, none⟩ (.int .i64 1)).setCell ⟨b6, 2, none⟩ (.int .i64 1)).cell? ⟨b5, 0, none⟩ = some (.int .i64 f.s.rect.x) := by go_simp
  have p1 : ((wc.setCell ⟨b5, 3, none⟩ (.int .i64 1)).setCell ⟨b6, 2, none⟩ (.int .i64 1)).cell? ⟨b5, 1, none⟩ = some (.int .i64 f.s.rect.y) := by go_simp
  have p2 : ((wc.setCell ⟨b5, 3, none⟩ (.int .i64 1)).setCell ⟨b6, 2, none⟩ (.int .i64 1)).cell? ⟨b5, 2, none⟩ = some (.int .i64 f.s.rect.wd) := by go_simp
  have p3 : ((wc.setCell ⟨b5, 3, none⟩ (.int .i64 1)).setCell ⟨b6, 2, none⟩ (.int .i64 1)).cell? ⟨b5, 3, none⟩ = some (.int .i64 1) := by go_simp
  have r0 : ((wc.setCell ⟨b5, 3, none⟩ (.int .i64 1)).setCell ⟨b6, 2, none⟩ (.int .i64 1)).cell? ⟨b6, 0, none⟩ = some (.int .i64 f.s.rect.x) := by go_simp
  have r1 : ((wc.setCell ⟨b5, 3, none⟩ (.int .i64 1)).setCell ⟨b6, 2, none⟩ (.int .i64 1)).cell? ⟨b6, 1, none⟩ = some (.int .i64 f.s.rect.y) := by go_simp
  have r2 : ((wc.setCell ⟨b5, 3, none⟩ (.int .i64 1)).setCell ⟨b6, 2, none⟩ (.int .i64 1)).cell? ⟨b6, 2, none⟩ = some (.int .i64 1) := by go_simp
  have r3 : ((wc.setCell ⟨b5, 3, none⟩ (.int .i64 1)).setCell ⟨b6, 2, none⟩ (.int .i64 1)).cell? ⟨b6, 3, none⟩ = some (.int .i64 f.s.rect.ht) := by go_simp
  have zd : ((wc.setCell ⟨b5, 3, none⟩ (.int .i64 1)).setCell ⟨b6, 2, none⟩ (.int .i64 1)).heap.size = wc.heap.size := by simp
  clear a0 a1 a2 a3 f0 f1 f2 f3 e0 e1 e2 e3 d0 d1 d2 d3 B1c B4c; generalize (wc.setCell ⟨b5, 3, none⟩ (.int .i64 1)).setCell ⟨b6, 2, none⟩ (.int .i64 1) = W4 at B1d B4d hbd p0 p1 p2 p3 r0 r1 r2 r3 zd ⊢
  have l5 : b5 < W4.heap.size := by omega
  have l6 : b6 < W4.heap.size := by omega
  have hb4w := hb3w.trans (hbd.mono hb3w.size); have l14 : b1 < W4.heap.size := B1d.lt; have l44 : b4 < W4.heap.size := B4d.lt
  have n45 : b4 ≠ b5 := by omega
  have n46 : b4 ≠ b6 := by omega
  clear zd hbc zc g3 g4 hbd
  go_cut [7, 8] (fun v7 v8 wx => TwoBox W4 ⟨f.s.rect.x, f.s.rect.y, 1, f.s.rect.ht⟩ ⟨f.s.rect.x, f.s.rect.y, f.s.rect.wd, 1⟩ v7 v8 wx)
  case first =>
   refine held_begin (Held W4 0 []) (by kernel_rfl) ⟨Below.drew (Below.refl _ _), Nat.le_refl _, trivial⟩ (fun hS => ?_)
   (refine' hdo 0 hS ?_; simp only [pu])
   (refine' hdo 1 hS ?_; simp only [pu])
   (refine' held_two (i := 2) (j := 3) rfl rfl (by kernel_rfl) _ _ _ _; (focus rfl); (focus rfl))
   ·intro K hK
    go_simp
    refine hK _ _ ⟨belt, by (try simp) <;> omega, trivial⟩ ?_; clear hK
    (try simp only [pu])
    (refine honn 3 fun K hK => ?_; go_simp)
    refine hK _ _ ⟨belt, by (try simp) <;> omega, trivial⟩ ?_; clear hK
    (try simp only [pu])
    (refine honn 4 fun K hK => ?_; go_simp)
    refine hK _ _ ⟨belt, by (try simp) <;> omega, trivial⟩ ?_; clear hK
    (try simp only [pu])
    (refine honn 5 fun K hK => ?_; go_simp)
    refine hK _ _ ⟨belt, by (try simp) <;> omega, trivial⟩ ?_; clear hK
    (try simp only [pu])
    refine wpAnyH_done (by kernel_rfl) ?_ _; go_wp2; go_meet
    case rel => exact ⟨_, _, rfl, rfl, by omega, by omega, by omega, by (try simp) <;> omega, by (try simp) <;> omega, ⟨⟨by go_simp, by go_simp, by go_simp, by go_simp⟩, ⟨by go_simp, by go_simp, by go_simp, by go_simp⟩⟩, ⟨⟨by go_simp, by go_simp, by go_simp, by go_simp⟩, ⟨by go_simp, by go_simp, by go_simp, by go_simp⟩⟩, belt⟩
   ·intro K hK
    go_simp
    refine hK _ _ ⟨belt, by (try simp) <;> omega, trivial⟩ ?_; clear hK
    (try simp only [pu])
    (refine honn 2 fun K hK => ?_; go_simp)
    refine hK _ _ ⟨belt, by (try simp) <;> omega, trivial⟩ ?_; clear hK
    (try simp only [pu])
    (refine honn 4 fun K hK => ?_; go_simp)
    refine hK _ _ ⟨belt, by (try simp) <;> omega, trivial⟩ ?_; clear hK
    (try simp only [pu])
    (refine honn 5 fun K hK => ?_; go_simp)
    refine hK _ _ ⟨belt, by (try simp) <;> omega, trivial⟩ ?_; clear hK
    (try simp only [pu])
    refine wpAnyH_done (by kernel_rfl) ?_ _; go_wp2; go_meet
    case rel => exact ⟨_, _, rfl, rfl, by omega, by omega, by omega, by (try simp) <;> omega, by (try simp) <;> omega, ⟨⟨by go_simp, by go_simp, by go_simp, by go_simp⟩, ⟨by go_simp, by go_simp, by go_simp, by go_simp⟩⟩, ⟨⟨by go_simp, by go_simp, by go_simp, by go_simp⟩, ⟨by go_simp, by go_simp, by go_simp, by go_simp⟩⟩, belt⟩
  case rest =>
   obtain ⟨b7, b8, rfl, rfl, hne2, i1, i2, i3, i4, ⟨⟨m0, m1, m2, m3⟩, ⟨j0, j1, j2, j3⟩⟩, ⟨⟨n0, n1, n2, n3⟩, ⟨o0, o1, o2, o3⟩⟩, hbe⟩ := hcut; simp only at m0 m1 m2 m3 n0 n1 n2 n3; have ze := hbe.size
   have cc := fun o => (bcell hbe).1 b5 o l5
   have cd := fun o => (bcell hbe).1 b6 o l6
   have p0 := (cc 0).trans p0; have p1 := (cc 1).trans p1; have p2 := (cc 2).trans p2; have p3 := (cc 3).trans p3; have r0 := (cd 0).trans r0; have r1 := (cd 1).trans r1; have r2 := (cd 2).trans r2; have r3 := (cd 3).trans r3; have B1e := B1d.below hbe l14; have B4e := B4d.below hbe l44; have t2 := B4e.cell (o := 2) rfl; have t3 := B4e.cell (o := 3) rfl
   have n57 : b5 ≠ b7 := by omega
   have n58 : b5 ≠ b8 := by omega
   have n67 : b6 ≠ b7 := by omega
   have n68 : b6 ≠ b8 := by omega
   have n75 : b7 ≠ b5 := by omega
   have n85 : b8 ≠ b5 := by omega
   have n76 : b7 ≠ b6 := by omega
   have n86 : b8 ≠ b6 := by omega
   have n47 : b4 ≠ b7 := by omega
   have n48 : b4 ≠ b8 := by omega
   have n74 : b7 ≠ b4 := by omega
   have n84 : b8 ≠ b4 := by omega
   have hne3 : b8 ≠ b7 := by omega
   have n17 : b1 ≠ b7 := by omega
   have n18 : b1 ≠ b8 := by omega
   have hb5w := hb4w.trans (hbe.mono hb4w.size); have hb6w := (hb5w.setCell (p := ⟨b7, 0, none⟩) (by have := hb4w.size; show w.heap.size ≤ b7; omega) (.int .i64 (f.s.rect.x + (f.s.rect.wd - 1)))).setCell (p := ⟨b8, 1, none⟩) (by have := hb4w.size; show w.heap.size ≤ b8; omega) (.int .i64 (f.s.rect.y + (f.s.rect.ht - 1))); have B1f := (B1e.set_ne (a := ⟨b7, 0, none⟩) n17 (.int .i64 (f.s.rect.x + (f.s.rect.wd - 1)))).set_ne (a := ⟨b8, 1, none⟩) n18 (.int .i64 (f.s.rect.y + (f.s.rect.ht - 1))); clear B1d B1e B4d B4e hb5w hb4w hb3w
   go_upto_region 18 with fail
   have BS : Blk (((wc.setCell ⟨b7, 0, none⟩ (.int .i64 (f.s.rect.x + (f.s.rect.wd - 1)))).setCell ⟨b8, 1, none⟩ (.int .i64 (f.s.rect.y + (f.s.rect.ht - 1)))).alloc (.cells ((sidesR f.s.rect).flatMap Re.enc).toArray 32)) wc.heap.size ((sidesR f.s.rect).flatMap Re.enc) 32 := Blk.new' (by simp); have B1g := B1f.alloc (.cells ((sidesR f.s.rect).flatMap Re.enc).toArray 32); have hb7w := hb6w.alloc hb6w.size (.cells ((sidesR f.s.rect).flatMap Re.enc).toArray 32); obtain ⟨W6, hW6⟩ := exx ((((wc.setCell ⟨b7, 0, none⟩ (.int .i64 (f.s.rect.x + (f.s.rect.wd - 1)))).setCell ⟨b8, 1, none⟩ (.int .i64 (f.s.rect.y + (f.s.rect.ht - 1)))).alloc (.cells ((sidesR f.s.rect).flatMap Re.enc).toArray 32)))
   obtain ⟨bS, hbS⟩ := exx (wc.heap.size); rw [hW6] at BS B1g hb7w; rw [hbS] at BS; have B1 := B1g; rw [show ((wc.setCell ⟨b7, 0, none⟩ (.int .i64 (f.s.rect.x + (f.s.rect.wd - 1)))).setCell ⟨b8, 1, none⟩ (.int .i64 (f.s.rect.y + (f.s.rect.ht - 1)))).alloc (.cells #[.int .i64 f.s.rect.x, .int .i64 f.s.rect.y, .int .i64 f.s.rect.wd, .int .i64 1, .int .i64 f.s.rect.x, .int .i64 f.s.rect.y, .int .i64 1, .int .i64 f.s.rect.ht, .int .i64 (f.s.rect.x + (f.s.rect.wd - 1)), .int .i64 f.s.rect.y, .int .i64 1, .int .i64 f.s.rect.ht, .int .i64 f.s.rect.x, .int .i64 (f.s.rect.y + (f.s.rect.ht - 1)), .int .i64 f.s.rect.wd, .int .i64 1] 32) = W6 from hW6, hbS]
   clear hW6 B1g B1f hb6w p0 p1 p2 p3 r0 r1 r2 r3 m0 m1 m2 m3 n0 n1 n2 n3 j0 j1 j2 j3 o0 o1 o2 o3 t2 t3 cc cd hbe ze hbS; have RS : Row W6.heap.size 4 Re.enc W6 (.slice (some ⟨bS, 0, none⟩) 4 4) (sidesR f.s.rect) := (Blk.ownsR (n := 4) (base := 0) BS rfl (Nat.zero_le _) (by unfold maxLen; omega)).row lrr
   have hsw : ∀ p ∈ sidesR f.s.rect, p.Wf := fun p hp => side_wf hm hp
   have hsl : (sidesR f.s.rect).length = 4 := rfl; clear BS hm; have hSD2 := hSD.out; rw [← hSD2] at RS hsw hsl; replace hsw := hdh hsw; replace hsl := hdh hsl; replace RS := hdh RS; replace B1 := hdh B1; clear hSD hSD2; obtain ⟨WL, hWL⟩ := exx (W6); rw [hWL] at RS B1 hb7w ⊢; clear hWL; go_wp2
   go_loopw [9, 81] (fun v i wr => ∃ k : Nat, k ≤ 4 ∧ i = .int .i64 k ∧ OwnsR WL.heap.size wr v (meets (SD.take k) f.r) ∧ Below WL.heap.size WL wr) (fun _ i _ => 4 - (intOf i).toNat)
   case atStart => exact ⟨0, by omega, rfl, World.ownsRow_nil _ _ _ _, Below.refl _ _⟩
   case round =>
    obtain ⟨k, hk, rfl, hown, hbr⟩ := hrel; have zr := hbr.size
    by_cases hkn : k < 4
    ·obtain ⟨p, hp⟩ := get_at hsl.out hkn
     obtain ⟨bS, oS, cS, e, hbS, _, _, hel⟩ := row_re (RS.out.below hbr) (by rw [hsl.out]; omega); rw [hsl.out] at e
     simp at e
     obtain ⟨⟨rfl, rfl⟩, rfl⟩ := e; obtain ⟨g0, g1, g2, g3⟩ := hel k p hp; simp only [Nat.zero_add] at g0 g1 g2 g3
     have M := fun w => gmeet_any p f.r w (hsw.out p (List.mem_of_getElem? hp)) (may_wf hmr)
     have hsn := meets_snoc (q := f.r) hp; have hml := meets_le (SD.take k) f.r
     have hml4 : (meets (SD.take k) f.r).length ≤ 4 := by simp at hml; omega
     have hkk : (k : Int) < 4 := by omega
     have hem := meet_em p f.r
     have E := fun w => empty_any (meetR p f.r) w (may_wf (meet_may _ _))
     rw [hem] at E; generalize meetR p f.r = m at M hsn E; have hcs : [.int .i64 m.x, .int .i64 m.y, .int .i64 m.wd, .int .i64 m.ht] = m.enc := rfl; replace hcs := hdh hcs; replace M := hdh M; clear hp hml hem hel; unfold OwnsR at hown; obtain ⟨st0, cap0, rfl⟩ := own_slice hown
     have yr0 : bS < wr.heap.size := by omega
     have B1r := B1.out.below hbr B1.out.lt; have r0 := B1r.cell (o := 15) rfl; have r1 := B1r.cell (o := 16) rfl; have r2 := B1r.cell (o := 17) rfl; have r3 := B1r.cell (o := 18) rfl; have r4 := B1r.lt; replace hown := hdh hown; clear B1r; generalize hz : m.eqb Re.none = z at E hsn; replace E := hdh E
     go_upto_region 23 with (first
      | (go_at_call 51; (with_reducible refine cmm (M.out _) fun w5 hb5 => ?_); have hb5' : Below wr.heap.size wr w5 := belt)
      | go_in)
     have hb7 : Below wr.heap.size wr (w5.alloc (.cells #[.int .i64 m.x, .int .i64 m.y, .int .i64 m.wd, .int .i64 m.ht] 32)) := hb5'.alloc hb5'.size _; obtain ⟨w7, hw7⟩ := exx (w5.alloc (.cells #[.int .i64 m.x, .int .i64 m.y, .int .i64 m.wd, .int .i64 m.ht] 32)); obtain ⟨b12, hb12⟩ := exx (w5.heap.size)
     have B12 : Blk w7 b12 [.int .i64 m.x, .int .i64 m.y, .int .i64 m.wd, .int .i64 m.ht] 32 := by rw [← hw7]; exact Blk.new' hb12.symm
     rw [hw7] at hb7 ⊢; rw [hb12]; clear hw7 hb12 hb5 hb5' r0 r1 r2 r3 r4 g0 g1 g2 g3 M; have c0 := B12.cell (o := 0) rfl; have c1 := B12.cell (o := 1) rfl; have c2 := B12.cell (o := 2) rfl; have c3 := B12.cell (o := 3) rfl; have cl := B12.lt; have zr7 := hb7.size
     cases z
     ·have hsn' : meets (SD.take (k + 1)) f.r = meets (SD.take k) f.r ++ [m] := by rw [hsn]; rfl
      replace hsn' := hdh hsn'; clear hsn hz
      go_upto_region 24 with (first
       | (go_at_call 52; (with_reducible refine cmm (E.out _) fun w8 hb8 => ?_))
       | go_in)
      have B12' := B12.below hb8 cl; have hb78 := hb7.trans (hb8.mono zr7); have z78 := hb78.size; clear c0 c1 c2 c3 cl B12 hb8 E; have c0 := B12'.cell (o := 0) rfl; have c1 := B12'.cell (o := 1) rfl; have c2 := B12'.cell (o := 2) rfl; have c3 := B12'.cell (o := 3) rfl; have cl := B12'.lt
      go_wp2_with (first
       | (at_builtin; refine wpList_append_new rfl _ _ _ rfl WL.heap.size 32 iR _ 4 32 Tryz.underlying25 hr0 hr1 hr2 hr3 rfl (by omega) w8 1 _ _ _ _ (by rfl) (ownsRow_below hown.out hb78 lrr) (by rfl) rfl (by simp [Value.oneCell']) (by omega) (by unfold maxLen; omega) (by omega) ?_; intro v6 w6 hown6 hb6)
       | go_in)
      have hb6' : Below WL.heap.size WL w6 := (hbr.trans (hb78.mono zr)).trans hb6; rw [flatR_snoc hcs.out] at hown6; replace hown6 := hdh hown6; clear hb6; go_wp2; go_roundw
      case rel =>
       refine ⟨k + 1, by omega, by go_num, ?_, hb6'⟩; unfold OwnsR; rw [hsn'.out, List.length_append]; exact hown6.out
      case measure => simp [intOf]; omega
     ·have hsn' : meets (SD.take (k + 1)) f.r = meets (SD.take k) f.r := by rw [hsn]; simp
      replace hsn' := hdh hsn'; clear hsn hz
      go_wp2_with (first
       | (go_at_call 52; (with_reducible refine cmm (E.out _) fun w8 hb8 => ?_))
       | go_in)
      have hb78 := hb7.trans (hb8.mono zr7); go_roundw
      case rel =>
       refine ⟨k + 1, by omega, by go_num, ?_, hbr.trans (hb78.mono zr)⟩; rw [hsn'.out]; exact OwnsR.below hown.out hb78 lrr
      case measure => simp [intOf]; omega
    ·obtain rfl : k = 4 := by omega
     rw [List.take_of_length_le (by have := hsl.out; omega)] at hown; obtain ⟨st0, cap0, rfl⟩ := own_slice hown; replace hown := hdh hown; go_wp2; go_ret; exact ⟨(hb7w).trans (hbr.mono (hb7w).size), _, rfl, own_less hown.out (hb7w).size⟩
theorem pieces_any (f : Fl) (w : World) (h : f.Ok) : Calls Tryz.prog 44 #[f.val] w fun e w' => Below w.heap.size w w' ∧ ∃ v, e = .returned v ∧ OwnsR w.heap.size w' v (pieL f) := by
 rw [← pieP_is h, show f.val = .agg #[.int .u8 (f).s.kind, .int .i64 (f).s.rect.x, .int .i64 (f).s.rect.y, .int .i64 (f).s.rect.wd, .int .i64 (f).s.rect.ht, .int .u8 (f).s.col.r, .int .u8 (f).s.col.g, .int .u8 (f).s.col.b, .int .u8 (f).s.col.a, .int .u8 (f).s.back.r, .int .u8 (f).s.back.g, .int .u8 (f).s.back.b, .int .u8 (f).s.back.a, .string (f).s.text, .int .i64 (f).s.node, .int .i64 (f).r.x, .int .i64 (f).r.y, .int .i64 (f).r.wd, .int .i64 (f).r.ht] from rfl]; unfold pieP
 cases hg : goneB f.s
 ·simp only [Bool.false_eq_true, if_false]
  rcases h.2.2.1 with hk | hk | hk
  ·exact pieces_fill f w h hg hk
  ·cases he : emptyR f.s.rect
   ·exact pieces_frame f w h hg hk he
   ·exact pieces_frame0 f w h hg hk he
  ·exact pieces_write f w h hg hk
 ·simp only [if_true]
  exact pieces_gone f w h hg
end Go.Proofs.YtfcphagmjijmkaaGreatDoor
