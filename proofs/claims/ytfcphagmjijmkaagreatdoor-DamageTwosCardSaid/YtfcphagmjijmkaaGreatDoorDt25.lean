/-
  Damage: geom.Join; the rectangle about some; the form of some, or the one about them.
-/
import Derived.Test.YtfcphagmjijmkaaGreatDoorDt24
namespace Go.Proofs.YtfcphagmjijmkaaGreatDoor
open Go.RowKit
set_option linter.unusedVariables false
set_option linter.unusedSimpArgs false
attribute [local go_sem] vwp vUpon_value vUpon_skip vUpon_enter vUpon_row
set_option maxHeartbeats 16000000
section
theorem gjoin_any (p q : Re) (w : World) (hp : p.Wf) (hq : q.Wf) : Calls Tryz.prog 119 #[.agg #[.int .i64 (p).x, .int .i64 (p).y, .int .i64 (p).wd, .int .i64 (p).ht], .agg #[.int .i64 (q).x, .int .i64 (q).y, .int .i64 (q).wd, .int .i64 (q).ht]] w fun e w' => e = .returned (.agg #[.int .i64 (joinR p q).x, .int .i64 (joinR p q).y, .int .i64 (joinR p q).wd, .int .i64 (joinR p q).ht]) ∧ Below w.heap.size w w' := by
 have A := fun w => empty_any p w hp
 have B := fun w => empty_any q w hq
 clear hp hq; unfold joinR plainR
 cases h1 : emptyR p
 ·cases h2 : emptyR q
  ·rw [h1] at A
   rw [h2] at B; obtain ⟨mp, p1, p2⟩ := full_bd h1; obtain ⟨mq, q1, q2⟩ := full_bd h2
   have C := fun w => ends_any p w mp
   have D := fun w => ends_any q w mq
   have := may_bd mp; have := may_bd mq; have := may_sum mp; have := may_sum mq
   have E := fun w => from_any (min p.x q.x) (min p.y q.y) (max (p.x + p.wd) (q.x + q.wd)) (max (p.y + p.ht) (q.y + q.ht)) w (by omega) (by omega) (by omega) (by omega)
   simp only [Bool.false_eq_true, if_false]; obtain ⟨x, y, a, b⟩ := p; obtain ⟨u, v, c, d⟩ := q; simp only at A B C D E ⊢; generalize fromR (min x u) (min y v) (max (x + a) (u + c)) (max (y + b) (v + d)) = r at *; obtain ⟨r1, r2, r3, r4⟩ := r; replace A := hdh A; replace B := hdh B; have A2 := A; have B2 := B; replace C := hdh C; replace D := hdh D; replace E := hdh E; clear h1 h2 mp mq
   go_enter Tryz.func119, Tryz.ntmps119
   go_wp2_with (first | (go_at_call 52; (with_reducible refine cmm (A.out _) fun w1 hb1 => ?_); obtain ⟨hc1, hf1, z1⟩ := bzz hb1; (try simp at z1); have lx1 : w.heap.size < w1.heap.size := (by omega); have ly1 : w.heap.size + 1 < w1.heap.size := (by omega); have lz1 : w.heap.size + 1 + 1 < w1.heap.size := (by omega); clear A) | (go_at_call 52; (with_reducible refine cmm (B.out _) fun w2 hb2 => ?_); obtain ⟨hc2, hf2, z2⟩ := bzz hb2; (try simp at z2); have lx2 : w.heap.size < w2.heap.size := (by omega); have ly2 : w.heap.size + 1 < w2.heap.size := (by omega); have lz2 : w.heap.size + 1 + 1 < w2.heap.size := (by omega); clear B) | (go_at_call 52; (with_reducible refine cmm (A2.out _) fun w6 hb6 => ?_); obtain ⟨hc6, hf6, z6⟩ := bzz hb6; (try simp at z6); have lx6 : w.heap.size < w6.heap.size := (by omega); have ly6 : w.heap.size + 1 < w6.heap.size := (by omega); have lz6 : w.heap.size + 1 + 1 < w6.heap.size := (by omega)) | (go_at_call 52; (with_reducible refine cmm (B2.out _) fun w7 hb7 => ?_); obtain ⟨hc7, hf7, z7⟩ := bzz hb7; (try simp at z7); have lx7 : w.heap.size < w7.heap.size := (by omega); have ly7 : w.heap.size + 1 < w7.heap.size := (by omega); have lz7 : w.heap.size + 1 + 1 < w7.heap.size := (by omega)) | (go_at_call 95; (with_reducible refine cmm (C.out _) fun w3 hb3 => ?_); obtain ⟨hc3, hf3, z3⟩ := bzz hb3; (try simp at z3); have lx3 : w.heap.size < w3.heap.size := (by omega); have ly3 : w.heap.size + 1 < w3.heap.size := (by omega); have lz3 : w.heap.size + 1 + 1 < w3.heap.size := (by omega)) | (go_at_call 95; (with_reducible refine cmm (D.out _) fun w4 hb4 => ?_); obtain ⟨hc4, hf4, z4⟩ := bzz hb4; (try simp at z4); have lx4 : w.heap.size < w4.heap.size := (by omega); have ly4 : w.heap.size + 1 < w4.heap.size := (by omega); have lz4 : w.heap.size + 1 + 1 < w4.heap.size := (by omega)) | (go_at_call 96; (with_reducible refine cmm (E.out _) fun w5 hb5 => ?_); obtain ⟨hc5, hf5, z5⟩ := bzz hb5; (try simp at z5); have lx5 : w.heap.size < w5.heap.size := (by omega); have ly5 : w.heap.size + 1 < w5.heap.size := (by omega); have lz5 : w.heap.size + 1 + 1 < w5.heap.size := (by omega)) | go_in)
   refine bodyPost_ret (v := .agg #[.int .i64 r1, .int .i64 r2, .int .i64 r3, .int .i64 r4]) (by simp [results, Tryz.results119, go_sem, hc1, hc6, hc2, hc3, hc4, hc5, hf1, hf6, hf2, hf3, hf4, hf5, lz1, lz6, lz2, lz3, lz4, lz5]) rfl ⟨rfl, belt⟩
  ·rw [h1] at A
   rw [h2] at B; simp only [Bool.false_eq_true, if_false, if_true]; obtain ⟨x, y, a, b⟩ := p; obtain ⟨u, v, c, d⟩ := q; simp only at A B ⊢; replace A := hdh A; replace B := hdh B; have A2 := A; have B2 := B; clear h1 h2
   go_enter Tryz.func119, Tryz.ntmps119
   go_wp2_with (first | (go_at_call 52; (with_reducible refine cmm (A.out _) fun w1 hb1 => ?_); obtain ⟨hc1, hf1, z1⟩ := bzz hb1; (try simp at z1); have lx1 : w.heap.size < w1.heap.size := (by omega); have ly1 : w.heap.size + 1 < w1.heap.size := (by omega); have lz1 : w.heap.size + 1 + 1 < w1.heap.size := (by omega); clear A) | (go_at_call 52; (with_reducible refine cmm (B.out _) fun w2 hb2 => ?_); obtain ⟨hc2, hf2, z2⟩ := bzz hb2; (try simp at z2); have lx2 : w.heap.size < w2.heap.size := (by omega); have ly2 : w.heap.size + 1 < w2.heap.size := (by omega); have lz2 : w.heap.size + 1 + 1 < w2.heap.size := (by omega); clear B) | (go_at_call 52; (with_reducible refine cmm (A2.out _) fun w6 hb6 => ?_); obtain ⟨hc6, hf6, z6⟩ := bzz hb6; (try simp at z6); have lx6 : w.heap.size < w6.heap.size := (by omega); have ly6 : w.heap.size + 1 < w6.heap.size := (by omega); have lz6 : w.heap.size + 1 + 1 < w6.heap.size := (by omega)) | (go_at_call 52; (with_reducible refine cmm (B2.out _) fun w7 hb7 => ?_); obtain ⟨hc7, hf7, z7⟩ := bzz hb7; (try simp at z7); have lx7 : w.heap.size < w7.heap.size := (by omega); have ly7 : w.heap.size + 1 < w7.heap.size := (by omega); have lz7 : w.heap.size + 1 + 1 < w7.heap.size := (by omega)) | go_in)
   refine bodyPost_ret (v := .agg #[.int .i64 x, .int .i64 y, .int .i64 a, .int .i64 b]) (by simp [results, Tryz.results119, go_sem, hc1, hc6, hc2, hf1, hf6, hf2, lz1, lz6, lz2]) rfl ⟨rfl, belt⟩
 ·cases h2 : emptyR q
  ·rw [h1] at A
   rw [h2] at B; simp only [Bool.false_eq_true, if_false, if_true]; obtain ⟨x, y, a, b⟩ := p; obtain ⟨u, v, c, d⟩ := q; simp only at A B ⊢; replace A := hdh A; replace B := hdh B; have A2 := A; have B2 := B; clear h1 h2
   go_enter Tryz.func119, Tryz.ntmps119
   go_wp2_with (first | (go_at_call 52; (with_reducible refine cmm (A.out _) fun w1 hb1 => ?_); obtain ⟨hc1, hf1, z1⟩ := bzz hb1; (try simp at z1); have lx1 : w.heap.size < w1.heap.size := (by omega); have ly1 : w.heap.size + 1 < w1.heap.size := (by omega); have lz1 : w.heap.size + 1 + 1 < w1.heap.size := (by omega); clear A) | (go_at_call 52; (with_reducible refine cmm (B.out _) fun w2 hb2 => ?_); obtain ⟨hc2, hf2, z2⟩ := bzz hb2; (try simp at z2); have lx2 : w.heap.size < w2.heap.size := (by omega); have ly2 : w.heap.size + 1 < w2.heap.size := (by omega); have lz2 : w.heap.size + 1 + 1 < w2.heap.size := (by omega); clear B) | (go_at_call 52; (with_reducible refine cmm (A2.out _) fun w6 hb6 => ?_); obtain ⟨hc6, hf6, z6⟩ := bzz hb6; (try simp at z6); have lx6 : w.heap.size < w6.heap.size := (by omega); have ly6 : w.heap.size + 1 < w6.heap.size := (by omega); have lz6 : w.heap.size + 1 + 1 < w6.heap.size := (by omega)) | (go_at_call 52; (with_reducible refine cmm (B2.out _) fun w7 hb7 => ?_); obtain ⟨hc7, hf7, z7⟩ := bzz hb7; (try simp at z7); have lx7 : w.heap.size < w7.heap.size := (by omega); have ly7 : w.heap.size + 1 < w7.heap.size := (by omega); have lz7 : w.heap.size + 1 + 1 < w7.heap.size := (by omega)) | go_in)
   refine bodyPost_ret (v := .agg #[.int .i64 u, .int .i64 v, .int .i64 c, .int .i64 d]) (by simp [results, Tryz.results119, go_sem, hc1, hc2, hc6, hf1, hf2, hf6, lz1, lz2, lz6]) rfl ⟨rfl, belt⟩
  ·rw [h1] at A
   rw [h2] at B; simp only [if_true]; replace A := hdh A; replace B := hdh B; have A2 := A; have B2 := B; clear h1 h2
   go_enter Tryz.func119, Tryz.ntmps119
   go_wp2_with (first | (go_at_call 52; (with_reducible refine cmm (A.out _) fun w1 hb1 => ?_); obtain ⟨hc1, hf1, z1⟩ := bzz hb1; (try simp at z1); have lx1 : w.heap.size < w1.heap.size := (by omega); have ly1 : w.heap.size + 1 < w1.heap.size := (by omega); have lz1 : w.heap.size + 1 + 1 < w1.heap.size := (by omega); clear A) | (go_at_call 52; (with_reducible refine cmm (B.out _) fun w2 hb2 => ?_); obtain ⟨hc2, hf2, z2⟩ := bzz hb2; (try simp at z2); have lx2 : w.heap.size < w2.heap.size := (by omega); have ly2 : w.heap.size + 1 < w2.heap.size := (by omega); have lz2 : w.heap.size + 1 + 1 < w2.heap.size := (by omega); clear B) | (go_at_call 52; (with_reducible refine cmm (A2.out _) fun w6 hb6 => ?_); obtain ⟨hc6, hf6, z6⟩ := bzz hb6; (try simp at z6); have lx6 : w.heap.size < w6.heap.size := (by omega); have ly6 : w.heap.size + 1 < w6.heap.size := (by omega); have lz6 : w.heap.size + 1 + 1 < w6.heap.size := (by omega)) | (go_at_call 52; (with_reducible refine cmm (B2.out _) fun w7 hb7 => ?_); obtain ⟨hc7, hf7, z7⟩ := bzz hb7; (try simp at z7); have lx7 : w.heap.size < w7.heap.size := (by omega); have ly7 : w.heap.size + 1 < w7.heap.size := (by omega); have lz7 : w.heap.size + 1 + 1 < w7.heap.size := (by omega)) | go_in)
   refine bodyPost_ret (v := .agg #[.int .i64 (Re.none).x, .int .i64 (Re.none).y, .int .i64 (Re.none).wd, .int .i64 (Re.none).ht]) (by simp [results, Tryz.results119, go_sem, hc1, hc2, hf1, hf2, lz1, lz2, Re.none]) rfl ⟨rfl, belt⟩
end
section
theorem abt_from (q : Re) (l : List Re) (h : emptyR q = false) : (q :: l).foldl joinR q = abtR (q :: l) := by
 unfold abtR; rw [List.foldl_cons, List.foldl_cons, join_self h, join_none q h]
theorem joinR_may {a b : Re} (ha : mayR a = true) (hb : mayR b = true) : mayR (joinR a b) = true := by
 unfold joinR plainR
 cases h1 : emptyR a
 ·cases h2 : emptyR b
  ·have := (join_full h1 h2).2
   unfold joinR at this; rw [h1, h2] at this; exact (full_bd this).1
  ·simp only [Bool.false_eq_true, if_false, if_true]; exact ha
 ·simp only [if_true]
  split
  ·exact Re.none_may
  ·exact hb
set_option maxRecDepth 100000 in
theorem about_any (l : List Re) (v : Value) (w : World) (hl : Row w.heap.size 4 Re.enc w v l) (hm : MayL l) (he : ∀ q ∈ l, emptyR q = false) (h0 : 0 < l.length) :
  Calls Tryz.prog 66 #[v] w fun e w' => Below w.heap.size w w' ∧ ∃ v', e = .returned v' ∧ CutR w.heap.size w' v' [abtR l] := by
 obtain ⟨b, o, cap, rfl, hb, hlc, hcm, hel⟩ := row_re hl h0; unfold maxLen at hcm; obtain ⟨n, hn⟩ := exx (l.length); obtain ⟨q0, hq0⟩ := get_at hn (show 0 < n by omega); obtain ⟨g0, g1, g2, g3⟩ := hel 0 q0 hq0; rw [Nat.zero_mul, Nat.add_zero] at g0 g1 g2 g3; have hq0e := he q0 (List.mem_of_getElem? hq0); have hq0m := hm q0 (List.mem_of_getElem? hq0)
 have hfin : l.foldl joinR q0 = abtR l := by
  cases l with
  | nil => simp at h0
  | cons q l =>
   simp at hq0
   subst hq0; exact abt_from q l hq0e
 rw [hn] at hlc h0 ⊢; rw [← hfin]; replace hel := hdh hel; replace hn := hdh hn; replace hm := hdh hm; clear hfin he hl hq0 hq0e; obtain ⟨RES, hRES⟩ := exx (l.foldl joinR q0); rw [hRES]; replace hRES := hdh hRES
 go_enter Tryz.func66, Tryz.ntmps66
 go_upto_region 2 with fail
 obtain ⟨W, hW⟩ := exx (w.alloc (.cells #[.int .i64 q0.x, .int .i64 q0.y, .int .i64 q0.wd, .int .i64 q0.ht] 32)); obtain ⟨b3, hb3⟩ := exx (w.heap.size)
 have B3 : Blk W b3 (Re.enc q0) 32 := by rw [← hW]; exact Blk.new' (cs := Re.enc q0) hb3.symm
 have hbW : Below w.heap.size w W := by rw [← hW]; exact belt
 rw [hW, hb3]; clear hW g0 g1 g2 g3; replace hb3 := hdh hb3; go_wp2
 go_loopw [11] (fun i wr => ∃ (k : Nat) (o : Re), k ≤ n ∧ i = .int .i64 k ∧ Blk wr b3 (Re.enc o) 32 ∧ mayR o = true ∧ Hid ((l.take k).foldl joinR q0 = o) ∧ Below w.heap.size w wr) (fun i _ => n - (intOf i).toNat)
 case atStart => exact ⟨0, q0, Nat.zero_le _, rfl, B3, hq0m, hdh rfl, hbW⟩
 case round =>
  obtain ⟨k, o', hk, rfl, BO, hom, hfo, hbr⟩ := hrel; have zr := hbr.size
  by_cases hkn : k < n
  ·obtain ⟨q, hq⟩ := get_at hn.out hkn
   obtain ⟨g0, g1, g2, g3⟩ := hel.out k q hq; have hqm := hm.out q (List.mem_of_getElem? hq)
   have hkk : (k : Int) < n := by omega
   have J := hdh (fun w => gjoin_any o' q w (may_wf hom) (may_wf hqm)); have hjm := joinR_may hom hqm
   have hfo' : (l.take (k + 1)).foldl joinR q0 = joinR o' q := by rw [List.take_add_one, hq, List.foldl_append, hfo.out]; rfl
   replace hfo' := hdh hfo'; replace hjm := hdh hjm; obtain ⟨hcr, hfr⟩ := bcell hbr; clear hq
   go_upto_region 5 with fail
   clear hcr hfr; obtain ⟨W5, hW5⟩ := exx (wr.alloc (.cells #[.int .i64 q.x, .int .i64 q.y, .int .i64 q.wd, .int .i64 q.ht] 32)); obtain ⟨b5, hb5⟩ := exx (wr.heap.size)
   have B5 : Blk W5 b5 [.int .i64 q.x, .int .i64 q.y, .int .i64 q.wd, .int .i64 q.ht] 32 := by rw [← hW5]; exact Blk.new' hb5.symm
   have hbr5 : Below wr.heap.size wr W5 := by rw [← hW5]; exact (Below.refl _ _).alloc lrr _
   have BO5 := BO.below hbr5 BO.lt; rw [hW5, hb5]; clear hW5 hb5 g0 g1 g2 g3; have c0 := BO5.cell (o := 0) rfl; have c1 := BO5.cell (o := 1) rfl; have c2 := BO5.cell (o := 2) rfl; have c3 := BO5.cell (o := 3) rfl; have d0 := B5.cell (o := 0) rfl; have d1 := B5.cell (o := 1) rfl; have d2 := B5.cell (o := 2) rfl; have d3 := B5.cell (o := 3) rfl
   go_upto_region 6 with (go_at_call 119; (with_reducible refine cmm (J.out _) fun w6 hb6 => ?_); have BO6 := BO5.below hb6 BO5.lt; have e0 := BO6.cell (o := 0) rfl; have e1 := BO6.cell (o := 1) rfl; have e2 := BO6.cell (o := 2) rfl; have e3 := BO6.cell (o := 3) rfl; have fz := BO6.free)
   have HZ : Blk _ b3 (Re.enc (joinR o' q)) 32 := (((BO6.set 0 (.int .i64 (joinR o' q).x)).set 1 (.int .i64 (joinR o' q).y)).set 2 (.int .i64 (joinR o' q).wd)).set 3 (.int .i64 (joinR o' q).ht); have hb06 : Below w.heap.size w w6 := (hbr.trans (hbr5.mono zr)).trans (hb6.mono (by have := hbr5.size; omega)); have hbZ := (((hb06.setCell (p := ⟨b3, 0, none⟩) (by have := hb3.out; show w.heap.size ≤ b3; omega) (.int .i64 (joinR o' q).x)).setCell (p := ⟨b3, 1, none⟩) (by have := hb3.out; show w.heap.size ≤ b3; omega) (.int .i64 (joinR o' q).y)).setCell (p := ⟨b3, 2, none⟩) (by have := hb3.out; show w.heap.size ≤ b3; omega) (.int .i64 (joinR o' q).wd)).setCell (p := ⟨b3, 3, none⟩) (by have := hb3.out; show w.heap.size ≤ b3; omega) (.int .i64 (joinR o' q).ht)
   generalize (((w6.setCell ⟨b3, 0, none⟩ (.int .i64 (joinR o' q).x)).setCell ⟨b3, 1, none⟩ (.int .i64 (joinR o' q).y)).setCell ⟨b3, 2, none⟩ (.int .i64 (joinR o' q).wd)).setCell ⟨b3, 3, none⟩ (.int .i64 (joinR o' q).ht) = wZ at HZ hbZ ⊢; clear c0 c1 c2 c3 d0 d1 d2 d3 e0 e1 e2 e3 fz; replace HZ := hdh HZ; go_wp2; go_roundw
   case rel => exact ⟨k + 1, _, by omega, by go_num, HZ.out, hjm.out, hfo', hbZ⟩
   case measure => simp [intOf]; omega
  ·obtain rfl : k = n := by omega
   have e1 : o' = RES := by rw [← hfo.out, ← hRES.out, List.take_of_length_le (by rw [hn.out]; exact Nat.le_refl _)]
   subst e1; have c0 := BO.cell (o := 0) rfl; have c1 := BO.cell (o := 1) rfl; have c2 := BO.cell (o := 2) rfl; have c3 := BO.cell (o := 3) rfl; go_wp2; go_ret; refine ⟨hbr.alloc zr _, _, rfl, ?_⟩; exact CutR.of (Blk.ownsR (rs := [o']) (show Blk _ _ _ _ from Blk.new' (cs := [.int .i64 o'.x, .int .i64 o'.y, .int .i64 o'.wd, .int .i64 o'.ht]) rfl) rfl zr (by unfold maxLen; omega)) rfl
theorem told_any (l : List Re) (v : Value) (w : World) (hl : Row w.heap.size 4 Re.enc w v l) (hm : MayL l) (he : ∀ q ∈ l, emptyR q = false) :
  Calls Tryz.prog 45 #[v] w fun e w' => Below w.heap.size w w' ∧ ∃ v', e = .returned v' ∧ CutR w.heap.size w' v' (tldL l) := by
 have O1 := of_any l v w hl (wf_of_may hm)
 have A1 := fun (h0 : 0 < l.length) W (h : Below w.heap.size w W) => about_any l v W ((hl.below h).mono h.size) hm he h0
 have hE : bothE l [] 1 ≠ 0 → 0 < l.length := fun h => by
  cases l with
  | nil => exact absurd (by rw [bothE_of mayL_nil]; rfl) h
  | cons _ _ => simp
 have T0 : bothE l [] 1 = 0 → tldL l = bothL l [] 1 := fun h => if_pos h
 have T1 : bothE l [] 1 ≠ 0 → tldL l = [abtR l] := fun h => if_neg h
 obtain ⟨s0, c0, rfl, m0⟩ := hl.shape; clear hl hm he; generalize bothE l [] 1 = E at O1 hE T0 T1; generalize bothL l [] 1 = L at O1 T0; generalize tldL l = T at T0 T1 ⊢
 by_cases e0 : E = 0
 ·subst e0
  obtain rfl := T0 rfl; replace O1 := hdh O1; clear A1 hE T1 T0
  go_enter Tryz.func45, Tryz.ntmps45
  go_wp2_with (first
   | (go_at_call 91; (with_reducible refine O1.out.mono ?_); rintro e w1 ⟨hb1, v1, rfl, C1⟩)
   | go_in)
  go_ret; exact ⟨hb1, _, rfl, C1⟩
 ·obtain rfl := T1 e0
  have e1 : (E == 0) = false := by simpa using e0
  have A2 := A1 (hE e0); replace O1 := hdh O1; replace A2 := hdh A2; clear A1 hE T1 T0
  go_enter Tryz.func45, Tryz.ntmps45
  go_wp2_with (first
   | (go_at_call 91; (with_reducible refine O1.out.mono ?_); rintro e w1 ⟨hb1, v1, rfl, C1⟩; have z1 := hb1.size; clear C1)
   | (go_at_call 66; (with_reducible refine (A2.out _ hb1).mono ?_); rintro e w2 ⟨hb2, v2, rfl, C2⟩)
   | go_in)
  go_ret; exact ⟨hb1.trans (hb2.mono z1), _, rfl, C2.less z1⟩
end
def goneB (s : St) : Bool := if s.kind = 1 ∨ s.kind = 2 then decide (s.col.a = 0) else if s.kind = 3 then decide (s.text.toList = []) else false
def allSd (s : St) : List Re := if s.kind = 2 ∧ emptyR s.rect = false then sidesR s.rect else [s.rect]
def pieP (f : Fl) : List Re := if goneB f.s then [] else meets (allSd f.s) f.r
def pieD (f : Fl) : List Re := if emptyR f.r ∨ (f.s.kind = 3 ∧ f.s.text.toList = []) ∨ (f.s.kind ≠ 3 ∧ f.s.col.a = 0) then [] else if f.s.kind ≠ 2 then [f.r] else meets (sidesR f.s.rect) f.r
theorem meets_none (l : List Re) : meets l Re.none = [] := by
 unfold meets; rw [List.filter_eq_nil_iff]
 intro m hm
 obtain ⟨p, _, rfl⟩ := List.mem_map.1 hm
 have e : meetR p Re.none = Re.none := by unfold meetR; rw [Re.none_empty, Bool.or_true, if_pos rfl]
 rw [e, _root_.Go.Proofs.YtfcphagmjijmkaaGreatDoor.eqb_iff.2 rfl]
 decide
theorem meet_inside {f : Fl} (h : f.Ok) (hr : emptyR f.r = false) : emptyR f.s.rect = false ∧ meetR f.s.rect f.r = f.r := by
 obtain ⟨hw, hm, hk, hmr, hf, hin⟩ := h; obtain ⟨_, w0, h0⟩ := full_bd hr; have c1 := has_bd.1 (hin f.r.x f.r.y (has_bd.2 (by omega))); have c2 := has_bd.1 (hin (f.r.x + f.r.wd - 1) (f.r.y + f.r.ht - 1) (has_bd.2 (by omega))); have hs : emptyR f.s.rect = false := full_mk hm (by omega) (by omega); refine ⟨hs, ?_⟩; unfold meetR; rw [hs, hr]; simp only [Bool.or_self, Bool.false_eq_true, if_false]; unfold fromR; rw [if_neg (by omega)]; obtain ⟨⟨k, p, c, b, t, n⟩, ⟨x, y, w, u⟩⟩ := f; simp only at *; simp only [Re.mk.injEq]; omega
theorem pieP_is {f : Fl} (h : f.Ok) : pieP f = pieL f := by
 have hk := h.2.2.1
 have hd : drB f.s = true := by unfold drB; simp; omega
 rcases h.2.2.2.2.1 with e | e
 ·have e1 : pieL f = [] := by
   unfold pieL plcL; rw [e, _root_.Go.Proofs.YtfcphagmjijmkaaGreatDoor.eqb_iff.2 rfl]
   rfl
  rw [e1]; unfold pieP; rw [e, meets_none]
  split <;> rfl
 ·obtain ⟨m1, m2⟩ := meet_inside h e
  have hn : f.r.eqb Re.none = false := by
   cases hh : f.r.eqb Re.none
   ·rfl
   ·rw [_root_.Go.Proofs.YtfcphagmjijmkaaGreatDoor.eqb_iff.1 hh, Re.none_empty] at e
    cases e
  have one : meets [f.s.rect] f.r = [f.r] := by
   unfold meets
   simp [m2, hn]
  unfold pieP pieL plcL; rw [hn, hd]; simp only [Bool.not_true, Bool.or_self, Bool.false_eq_true, if_false]
  rcases hk with hk | hk | hk
  ·have g1 : goneB f.s = decide (f.s.col.a = 0) := by unfold goneB; rw [if_pos (by omega)]
   have g2 : allSd f.s = [f.s.rect] := by unfold allSd; rw [if_neg (by omega)]
   rw [g1, g2, one, if_neg (show ¬ f.s.kind = 3 by omega), if_pos hk]
   by_cases c : f.s.col.a = 0
   ·rw [if_pos c, decide_eq_true c, if_pos rfl]
   ·rw [if_neg c, decide_eq_false c, if_neg (by decide)]
  ·have g1 : goneB f.s = decide (f.s.col.a = 0) := by unfold goneB; rw [if_pos (by omega)]
   have g2 : allSd f.s = sidesR f.s.rect := by unfold allSd; rw [if_pos ⟨hk, m1⟩]
   rw [g1, g2, if_neg (show ¬ f.s.kind = 3 by omega), if_neg (show ¬ f.s.kind = 1 by omega)]
   by_cases c : f.s.col.a = 0
   ·rw [if_pos c, decide_eq_true c, if_pos rfl]
   ·rw [if_neg c, decide_eq_false c, if_neg (by decide)]
  ·have g1 : goneB f.s = decide (f.s.text.toList = []) := by unfold goneB; rw [if_neg (by omega), if_pos hk]
   have g2 : allSd f.s = [f.s.rect] := by unfold allSd; rw [if_neg (by omega)]
   rw [g1, g2, one, if_pos hk]
   by_cases c : f.s.text.toList = []
   ·rw [if_pos c, decide_eq_true c, if_pos rfl]
   ·rw [if_neg c, decide_eq_false c, if_neg (by decide)]
theorem pieD_is {f : Fl} (h : f.Ok) : pieD f = pieL f := by
 have hk := h.2.2.1
 have hd : drB f.s = true := by unfold drB; simp; omega
 unfold pieD pieL plcL; rw [hd]
 rcases h.2.2.2.2.1 with e | e
 ·rw [e, Re.none_empty, _root_.Go.Proofs.YtfcphagmjijmkaaGreatDoor.eqb_iff.2 rfl, if_pos (.inl rfl)]
  rfl
 ·have hn : f.r.eqb Re.none = false := by
   cases hh : f.r.eqb Re.none
   ·rfl
   ·rw [_root_.Go.Proofs.YtfcphagmjijmkaaGreatDoor.eqb_iff.1 hh, Re.none_empty] at e
    cases e
  rw [hn, e]; simp only [Bool.not_true, Bool.or_self, Bool.false_eq_true, if_false, false_or]
  by_cases h3 : f.s.kind = 3
  ·rw [if_pos h3]
   by_cases c : f.s.text.toList = []
   ·rw [if_pos (.inl ⟨h3, c⟩), if_pos c]
   ·rw [if_neg (by rintro (⟨_, c'⟩ | ⟨c', _⟩); exact c c'; exact c' h3), if_neg c, if_pos (by omega)]
  ·rw [if_neg h3]
   by_cases c : f.s.col.a = 0
   ·rw [if_pos (.inr ⟨h3, c⟩), if_pos c]
   ·rw [if_neg (by rintro (⟨c', _⟩ | ⟨_, c'⟩); exact h3 c'; exact c c'), if_neg c]
    by_cases h2 : f.s.kind = 2
    ·rw [if_neg (by omega), if_neg (by omega)]
    ·rw [if_pos h2, if_pos (by omega)]
end Go.Proofs.YtfcphagmjijmkaaGreatDoor
