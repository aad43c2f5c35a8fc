/-
  XGm: XLisV XLisW XLisRa.
-/
import Derived.Test.YtfcphagmjijmkaaGreatDoorDd9
namespace Go.Proofs.YtfcphagmjijmkaaGreatDoor
open Go.RowKit
set_option linter.unusedVariables false
set_option linter.unusedSimpArgs false
attribute [local go_sem] vwp vUpon_value vUpon_skip vUpon_enter vUpon_row
set_option maxHeartbeats 16000000
section
section
def fromR (x y r b : Int) : Re := if r ≤ x ∨ b ≤ y then Re.none else ⟨x, y, r - x, b - y⟩
def meetR (a b : Re) : Re := if emptyR a || emptyR b then Re.none else fromR (max a.x b.x) (max a.y b.y) (min (a.x + a.wd) (b.x + b.wd)) (min (a.y + a.ht) (b.y + b.ht))
theorem Re.none_may : mayR Re.none = true := by decide
theorem Re.none_empty : emptyR Re.none = true := by decide
theorem may_of {q : Re} (h : -16384 ≤ q.x ∧ q.x ≤ 16384 ∧ -16384 ≤ q.y ∧ q.y ≤ 16384 ∧ 0 ≤ q.wd ∧ q.wd ≤ 32768 ∧ 0 ≤ q.ht ∧ q.ht ≤ 32768 ∧ q.x + q.wd ≤ 16384 ∧ q.y + q.ht ≤ 16384) : mayR q = true := by
 unfold mayR spanB; obtain ⟨a, b, c, d, e, f, g, i, j, k⟩ := h; rw [inB_iff.2 ⟨a, b⟩, inB_iff.2 ⟨c, d⟩, sdB_iff.2 ⟨e, f⟩, sdB_iff.2 ⟨g, i⟩, decide_eq_true j, decide_eq_true k]
 rfl
theorem meet_may (a b : Re) : mayR (meetR a b) = true := by
 unfold meetR
 split
 ·exact Re.none_may
 ·rename_i h
  simp only [Bool.or_eq_true, not_or, Bool.not_eq_true] at h; obtain ⟨ma, a1, a2⟩ := full_bd h.1; obtain ⟨mb, b1, b2⟩ := full_bd h.2; have := may_bd ma; have := may_bd mb; have := may_sum ma; have := may_sum mb; unfold fromR
  split
  ·exact Re.none_may
  ·apply may_of
   simp only; omega
theorem from_any (x y r b : Int) (w : World) (hx : -65536 ≤ x ∧ x ≤ 65536) (hy : -65536 ≤ y ∧ y ≤ 65536) (hr : -65536 ≤ r ∧ r ≤ 65536) (hb : -65536 ≤ b ∧ b ≤ 65536) : Calls Tryz.prog 96 #[.int .i64 x, .int .i64 y, .int .i64 r, .int .i64 b] w fun e w' => e = .returned (.agg #[.int .i64 (fromR x y r b).x, .int .i64 (fromR x y r b).y, .int .i64 (fromR x y r b).wd, .int .i64 (fromR x y r b).ht]) ∧ Below w.heap.size w w' := by
 obtain ⟨x0, x1⟩ := hx; obtain ⟨y0, y1⟩ := hy; obtain ⟨r0, r1⟩ := hr; obtain ⟨b0, b1⟩ := hb
 by_cases c1 : r ≤ x
 ·have e : fromR x y r b = Re.none := by unfold fromR; rw [if_pos (.inl c1)]
  rw [e]; clear e
  have g1 : decide (r ≤ x) = true := by simpa using c1
  clear c1
  go_enter Tryz.func96, Tryz.ntmps96
  go_wp2; refine bodyPost_ret (v := .agg #[.int .i64 (Re.none).x, .int .i64 (Re.none).y, .int .i64 (Re.none).wd, .int .i64 (Re.none).ht]) (by simp [results, Tryz.results96, go_sem, Re.none]) rfl ⟨rfl, belt⟩
 ·have g1 : decide (r ≤ x) = false := by simpa using c1
  by_cases c2 : b ≤ y
  ·have e : fromR x y r b = Re.none := by unfold fromR; rw [if_pos (.inr c2)]
   rw [e]; clear e
   have g2 : decide (b ≤ y) = true := by simpa using c2
   clear c1 c2
   go_enter Tryz.func96, Tryz.ntmps96
   go_wp2; refine bodyPost_ret (v := .agg #[.int .i64 (Re.none).x, .int .i64 (Re.none).y, .int .i64 (Re.none).wd, .int .i64 (Re.none).ht]) (by simp [results, Tryz.results96, go_sem, Re.none]) rfl ⟨rfl, belt⟩
  ·have e : fromR x y r b = ⟨x, y, r - x, b - y⟩ := by unfold fromR; rw [if_neg (by omega)]
   rw [e]; clear e
   have g2 : decide (b ≤ y) = false := by simpa using c2
   clear c1 c2
   go_enter Tryz.func96, Tryz.ntmps96
   go_wp2; refine bodyPost_ret (v := .agg #[.int .i64 x, .int .i64 y, .int .i64 (r - x), .int .i64 (b - y)]) (by simp [results, Tryz.results96, go_sem]) rfl ⟨rfl, belt⟩
end
section
theorem gmeet_any (p q : Re) (w : World) (hp : p.Wf) (hq : q.Wf) : Calls Tryz.prog 51 #[.agg #[.int .i64 (p).x, .int .i64 (p).y, .int .i64 (p).wd, .int .i64 (p).ht], .agg #[.int .i64 (q).x, .int .i64 (q).y, .int .i64 (q).wd, .int .i64 (q).ht]] w fun e w' => e = .returned (.agg #[.int .i64 (meetR p q).x, .int .i64 (meetR p q).y, .int .i64 (meetR p q).wd, .int .i64 (meetR p q).ht]) ∧ Below w.heap.size w w' := by
 have A := fun w => empty_any p w hp
 have B := fun w => empty_any q w hq
 clear hp hq; unfold meetR
 cases h1 : emptyR p
 ·cases h2 : emptyR q
  ·rw [h1] at A
   rw [h2] at B; obtain ⟨mp, p1, p2⟩ := full_bd h1; obtain ⟨mq, q1, q2⟩ := full_bd h2
   have C := fun w => ends_any p w mp
   have D := fun w => ends_any q w mq
   have := may_bd mp; have := may_bd mq; have := may_sum mp; have := may_sum mq
   have E := fun w => from_any (max p.x q.x) (max p.y q.y) (min (p.x + p.wd) (q.x + q.wd)) (min (p.y + p.ht) (q.y + q.ht)) w (by omega) (by omega) (by omega) (by omega)
   simp only [Bool.or_self, Bool.false_eq_true, if_false]; obtain ⟨x, y, a, b⟩ := p; obtain ⟨u, v, c, d⟩ := q; simp only at A B C D E ⊢; generalize fromR (max x u) (max y v) (min (x + a) (u + c)) (min (y + b) (v + d)) = r at *; obtain ⟨r1, r2, r3, r4⟩ := r; replace A := hdh A; replace B := hdh B; replace C := hdh C; replace D := hdh D; replace E := hdh E; clear h1 h2 mp mq
   go_enter Tryz.func51, Tryz.ntmps51
   go_wp2_with (first | (go_at_call 52; (with_reducible refine cmm (A.out _) fun w1 hb1 => ?_); obtain ⟨hc1, hf1, z1⟩ := bzz hb1; (try simp at z1); have lx1 : w.heap.size < w1.heap.size := (by omega); have ly1 : w.heap.size + 1 < w1.heap.size := (by omega); have lz1 : w.heap.size + 1 + 1 < w1.heap.size := (by omega)) | (go_at_call 52; (with_reducible refine cmm (B.out _) fun w2 hb2 => ?_); obtain ⟨hc2, hf2, z2⟩ := bzz hb2; (try simp at z2); have lx2 : w.heap.size < w2.heap.size := (by omega); have ly2 : w.heap.size + 1 < w2.heap.size := (by omega); have lz2 : w.heap.size + 1 + 1 < w2.heap.size := (by omega)) | (go_at_call 95; (with_reducible refine cmm (C.out _) fun w3 hb3 => ?_); obtain ⟨hc3, hf3, z3⟩ := bzz hb3; (try simp at z3); have lx3 : w.heap.size < w3.heap.size := (by omega); have ly3 : w.heap.size + 1 < w3.heap.size := (by omega); have lz3 : w.heap.size + 1 + 1 < w3.heap.size := (by omega)) | (go_at_call 95; (with_reducible refine cmm (D.out _) fun w4 hb4 => ?_); obtain ⟨hc4, hf4, z4⟩ := bzz hb4; (try simp at z4); have lx4 : w.heap.size < w4.heap.size := (by omega); have ly4 : w.heap.size + 1 < w4.heap.size := (by omega); have lz4 : w.heap.size + 1 + 1 < w4.heap.size := (by omega)) | (go_at_call 96; (with_reducible refine cmm (E.out _) fun w5 hb5 => ?_); obtain ⟨hc5, hf5, z5⟩ := bzz hb5; (try simp at z5); have lx5 : w.heap.size < w5.heap.size := (by omega); have ly5 : w.heap.size + 1 < w5.heap.size := (by omega); have lz5 : w.heap.size + 1 + 1 < w5.heap.size := (by omega)) | go_in)
   refine bodyPost_ret (v := .agg #[.int .i64 r1, .int .i64 r2, .int .i64 r3, .int .i64 r4]) (by simp [results, Tryz.results51, go_sem, hc1, hc2, hc3, hc4, hc5, hf1, hf2, hf3, hf4, hf5, lz1, lz2, lz3, lz4, lz5]) rfl ⟨rfl, belt⟩
  ·rw [h1] at A
   rw [h2] at B; replace A := hdh A; replace B := hdh B; clear h1 h2
   go_enter Tryz.func51, Tryz.ntmps51
   go_wp2_with (first | (go_at_call 52; (with_reducible refine cmm (A.out _) fun w1 hb1 => ?_); obtain ⟨hc1, hf1, z1⟩ := bzz hb1; (try simp at z1); have lx1 : w.heap.size < w1.heap.size := (by omega); have ly1 : w.heap.size + 1 < w1.heap.size := (by omega); have lz1 : w.heap.size + 1 + 1 < w1.heap.size := (by omega)) | (go_at_call 52; (with_reducible refine cmm (B.out _) fun w2 hb2 => ?_); obtain ⟨hc2, hf2, z2⟩ := bzz hb2; (try simp at z2); have lx2 : w.heap.size < w2.heap.size := (by omega); have ly2 : w.heap.size + 1 < w2.heap.size := (by omega); have lz2 : w.heap.size + 1 + 1 < w2.heap.size := (by omega)) | go_in)
   refine bodyPost_ret (v := .agg #[.int .i64 (Re.none).x, .int .i64 (Re.none).y, .int .i64 (Re.none).wd, .int .i64 (Re.none).ht]) (by simp [results, Tryz.results51, go_sem, hc1, hc2, hf1, hf2, lz1, lz2, Re.none]) rfl ⟨rfl, belt⟩
 ·rw [h1] at A
  replace A := hdh A; replace B := hdh B; clear h1
  go_enter Tryz.func51, Tryz.ntmps51
  go_wp2_with (first | (go_at_call 52; (with_reducible refine cmm (A.out _) fun w1 hb1 => ?_); obtain ⟨hc1, hf1, z1⟩ := bzz hb1; (try simp at z1); have lx1 : w.heap.size < w1.heap.size := (by omega); have ly1 : w.heap.size + 1 < w1.heap.size := (by omega); have lz1 : w.heap.size + 1 + 1 < w1.heap.size := (by omega)) | (go_at_call 52; (with_reducible refine cmm (B.out _) fun w2 hb2 => ?_); obtain ⟨hc2, hf2, z2⟩ := bzz hb2; (try simp at z2); have lx2 : w.heap.size < w2.heap.size := (by omega); have ly2 : w.heap.size + 1 < w2.heap.size := (by omega); have lz2 : w.heap.size + 1 + 1 < w2.heap.size := (by omega)) | go_in)
  refine bodyPost_ret (v := .agg #[.int .i64 (Re.none).x, .int .i64 (Re.none).y, .int .i64 (Re.none).wd, .int .i64 (Re.none).ht]) (by simp [results, Tryz.results51, go_sem, hc1, hf1, lz1, Re.none]) rfl ⟨rfl, belt⟩
attribute [local go_sem high] eql_rect neq_rect
theorem draws_any (s : St) (w : World) (h : U8 s.kind) : Calls Tryz.prog 84 #[.agg #[.int .u8 (s).kind, .int .i64 (s).rect.x, .int .i64 (s).rect.y, .int .i64 (s).rect.wd, .int .i64 (s).rect.ht, .int .u8 (s).col.r, .int .u8 (s).col.g, .int .u8 (s).col.b, .int .u8 (s).col.a, .int .u8 (s).back.r, .int .u8 (s).back.g, .int .u8 (s).back.b, .int .u8 (s).back.a, .string (s).text, .int .i64 (s).node]] w fun e w' => e = .returned (.bool (decide (s.kind ≤ 3))) ∧ Below w.heap.size w w' := by
 obtain ⟨k, r, c, b, t, n⟩ := s; obtain ⟨h0, h1⟩ := h; simp only at h0 h1 ⊢
 go_enter Tryz.func84, Tryz.ntmps84
 go_wp2; go_ret; exact ⟨rfl, belt⟩
end
section
attribute [local go_sem high] eql_rect neq_rect
theorem kempty1_any (q : Re) (w : World) (hq : q.Wf) : Calls Tryz.prog 105 #[.agg #[.int .i64 (q).x, .int .i64 (q).y, .int .i64 (q).wd, .int .i64 (q).ht]] w fun e w' => e = .returned (.bool (emptyR q)) ∧ Below w.heap.size w w' := by
 have A := fun w => may_any q w hq
 clear hq; obtain ⟨x, y, a, b⟩ := q; simp only at A ⊢
 cases hm : mayR ⟨x, y, a, b⟩
 ·have he : emptyR ⟨x, y, a, b⟩ = true := by unfold emptyR areaR; rw [hm]; rfl
  rw [hm] at A; clear hm; rw [show emptyR ⟨x, y, a, b⟩ = true from he]; replace A := hdh A; clear he
  go_enter Tryz.func105, Tryz.ntmps105
  go_wp2_with (first
   | (go_at_call 92; (with_reducible refine cmm (A.out _) fun w1 hb1 => ?_); obtain ⟨hc1, hf1, z1⟩ := bzz hb1; (try simp at z1); have lx1 : w.heap.size < w1.heap.size := (by omega))
   | go_in)
  go_ret; exact ⟨rfl, belt⟩
 ·rw [hm] at A
  by_cases h1 : a = 0
  ·have he : emptyR ⟨x, y, a, b⟩ = true := by rw [empty_none hm]; simp [noneR, h1]
   have d1 : (a == 0) = true := by simp [h1]
   clear h1 hm; rw [show emptyR ⟨x, y, a, b⟩ = true from he]; replace A := hdh A; clear he
   go_enter Tryz.func105, Tryz.ntmps105
   go_wp2_with (first
    | (go_at_call 92; (with_reducible refine cmm (A.out _) fun w1 hb1 => ?_); obtain ⟨hc1, hf1, z1⟩ := bzz hb1; (try simp at z1); have lx1 : w.heap.size < w1.heap.size := (by omega))
    | go_in)
   go_ret; exact ⟨rfl, belt⟩
  ·have d1 : (a == 0) = false := by simp [h1]
   by_cases h2 : b = 0
   ·have he : emptyR ⟨x, y, a, b⟩ = true := by rw [empty_none hm]; simp [noneR, h2]
    have d2 : (b == 0) = true := by simp [h2]
    clear h2 hm; rw [show emptyR ⟨x, y, a, b⟩ = true from he]; replace A := hdh A; clear he
    go_enter Tryz.func105, Tryz.ntmps105
    go_wp2_with (first
     | (go_at_call 92; (with_reducible refine cmm (A.out _) fun w1 hb1 => ?_); obtain ⟨hc1, hf1, z1⟩ := bzz hb1; (try simp at z1); have lx1 : w.heap.size < w1.heap.size := (by omega))
     | go_in)
    go_ret; exact ⟨rfl, belt⟩
   ·have he : emptyR ⟨x, y, a, b⟩ = false := by rw [empty_none hm]; simp [noneR, h1, h2]
    have d2 : (b == 0) = false := by simp [h2]
    clear hm; rw [show emptyR ⟨x, y, a, b⟩ = false from he]; replace A := hdh A; clear he
    go_enter Tryz.func105, Tryz.ntmps105
    go_wp2_with (first
     | (go_at_call 92; (with_reducible refine cmm (A.out _) fun w1 hb1 => ?_); obtain ⟨hc1, hf1, z1⟩ := bzz hb1; (try simp at z1); have lx1 : w.heap.size < w1.heap.size := (by omega))
     | go_in)
    go_ret; exact ⟨rfl, belt⟩
theorem kright_any (q : Re) (w : World) (hq : mayR q = true) : Calls Tryz.prog 106 #[.agg #[.int .i64 (q).x, .int .i64 (q).y, .int .i64 (q).wd, .int .i64 (q).ht]] w fun e w' => e = .returned (.int .i64 (q.x + q.wd)) ∧ Below w.heap.size w w' := by
 have hb := may_bd hq; obtain ⟨x, y, a, b⟩ := q; obtain ⟨x0, x1, y0, y1, a0, a1, b0, b1⟩ := hb; simp only at x0 x1 y0 y1 a0 a1 b0 b1 ⊢; clear hq
 go_enter Tryz.func106, Tryz.ntmps106
 go_wp2; go_ret; exact ⟨rfl, belt⟩
theorem kbelow_any (q : Re) (w : World) (hq : mayR q = true) : Calls Tryz.prog 107 #[.agg #[.int .i64 (q).x, .int .i64 (q).y, .int .i64 (q).wd, .int .i64 (q).ht]] w fun e w' => e = .returned (.int .i64 (q.y + q.ht)) ∧ Below w.heap.size w w' := by
 have hb := may_bd hq; obtain ⟨x, y, a, b⟩ := q; obtain ⟨x0, x1, y0, y1, a0, a1, b0, b1⟩ := hb; simp only at x0 x1 y0 y1 a0 a1 b0 b1 ⊢; clear hq
 go_enter Tryz.func107, Tryz.ntmps107
 go_wp2; go_ret; exact ⟨rfl, belt⟩
end
end
section
open Go Go.RowKit
section
variable {P : Program} {ops : Array Oper} {Q : Exit → Act → World → Prop}
theorem held_three {S : World → Prop} {i j k : Nat} {oi oj ok : Oper} {fuel : Nat} {listed : Array Bool} {a : Act} {w : World} (hi : ops[i]? = some oi) (hj : ops[j]? = some oj) (hk : ops[k]? = some ok) (hr : Region.ready .any ops listed = [i, j, k])
  (wi : Region.wanted oi (yielded ops a.tmps) = true) (wj : Region.wanted oj (yielded ops a.tmps) = true) (wk : Region.wanted ok (yielded ops a.tmps) = true)
  (h1 : ∀ K : Act → World → Prop, (∀ a w, S w → wpAnyH P .any ops Q S fuel (listed.setIfInBounds i true) a w → K a w) → oi.wp P a w K Q)
  (h2 : ∀ K : Act → World → Prop, (∀ a w, S w → wpAnyH P .any ops Q S fuel (listed.setIfInBounds j true) a w → K a w) → oj.wp P a w K Q)
  (h3 : ∀ K : Act → World → Prop, (∀ a w, S w → wpAnyH P .any ops Q S fuel (listed.setIfInBounds k true) a w → K a w) → ok.wp P a w K Q) : wpAnyH P .any ops Q S (fuel + 1) listed a w := by
 refine wpAnyH_all hr (by simp) (fun n hn => ?_); unfold wpOp
 rcases List.mem_cons.1 hn with rfl | hn
 ·simp only [hi, wi, if_true]
  exact .inl (h1 _ fun a w hS hW => ⟨hS, hW⟩)
 ·rcases List.mem_cons.1 hn with rfl | hn
  ·simp only [hj, wj, if_true]
   exact .inl (h2 _ fun a w hS hW => ⟨hS, hW⟩)
  ·obtain rfl : n = k := by simpa using hn
   simp only [hk, wk, if_true]; exact .inl (h3 _ fun a w hS hW => ⟨hS, hW⟩)
end
end
def ovC (a b : Co) : Co := ⟨ov a.a b.a a.r b.r, ov a.a b.a a.g b.g, ov a.a b.a a.b b.b, ovA a.a b.a⟩
theorem ovC_wf {a b : Co} (ha : a.Wf) (hb : b.Wf) : (ovC a b).Wf :=
 ⟨ov_bd _ _ _ _ ha.2.2.2 hb.2.2.2 ha.1 hb.1, ov_bd _ _ _ _ ha.2.2.2 hb.2.2.2 ha.2.1 hb.2.1, ov_bd _ _ _ _ ha.2.2.2 hb.2.2.2 ha.2.2.1 hb.2.2.1, ovA_bd _ _ ha.2.2.2 hb.2.2.2⟩
theorem covr_any (a b : Co) (w : World) (ha : a.Wf) (hb : b.Wf) : Calls Tryz.prog 102 #[.agg #[.int .u8 (a).r, .int .u8 (a).g, .int .u8 (a).b, .int .u8 (a).a], .agg #[.int .u8 (b).r, .int .u8 (b).g, .int .u8 (b).b, .int .u8 (b).a]] w fun e w' => e = .returned (.agg #[.int .u8 (ovC a b).r, .int .u8 (ovC a b).g, .int .u8 (ovC a b).b, .int .u8 (ovC a b).a]) ∧ Below w.heap.size w w' :=
 over_any _ _ _ _ _ _ _ _ w ha.1 ha.2.1 ha.2.2.1 ha.2.2.2 hb.1 hb.2.1 hb.2.2.1 hb.2.2.2
def fillC (c : Ce) (k : Co) : Ce := if k.a = 255 then ⟨32, Co.none, k, false, false⟩ else { c with col := ovC k c.col, back := ovC k c.back }
set_option maxRecDepth 100000 in
theorem cfill_any (c : Ce) (k : Co) (w : World) (hc : c.Wf) (hk : k.Wf) : Calls Tryz.prog 100 #[.agg #[.int .i32 (c).rune, .int .u8 (c).col.r, .int .u8 (c).col.g, .int .u8 (c).col.b, .int .u8 (c).col.a, .int .u8 (c).back.r, .int .u8 (c).back.g, .int .u8 (c).back.b, .int .u8 (c).back.a, .bool (c).wide, .bool (c).tail], .agg #[.int .u8 (k).r, .int .u8 (k).g, .int .u8 (k).b, .int .u8 (k).a]] w fun e w' => e = .returned (.agg #[.int .i32 ((fillC c k)).rune, .int .u8 ((fillC c k)).col.r, .int .u8 ((fillC c k)).col.g, .int .u8 ((fillC c k)).col.b, .int .u8 ((fillC c k)).col.a, .int .u8 ((fillC c k)).back.r, .int .u8 ((fillC c k)).back.g, .int .u8 ((fillC c k)).back.b, .int .u8 ((fillC c k)).back.a, .bool ((fillC c k)).wide, .bool ((fillC c k)).tail]) ∧ Below w.heap.size w w' := by
 obtain ⟨R, hR⟩ := exx (fillC c k); rw [hR]; unfold fillC at hR
 have O1 := fun w => covr_any k c.col w hk hc.2.1
 have O2 := fun w => covr_any k c.back w hk hc.2.2
 by_cases ka : k.a = 255
 ·rw [if_pos ka] at hR
  subst hR; clear O1 O2; obtain ⟨ru, ⟨c0, c1, c2, c3⟩, ⟨d0, d1, d2, d3⟩, wi, ta⟩ := c; obtain ⟨k0, k1, k2, k3⟩ := k; dsimp only at ka ⊢; subst ka
  go_enter Tryz.func100, Tryz.ntmps100
  go_wp2; refine bodyPost_ret (v := .agg #[.int .i32 32, .int .u8 0, .int .u8 0, .int .u8 0, .int .u8 0, .int .u8 k0, .int .u8 k1, .int .u8 k2, .int .u8 255, .bool false, .bool false]) (by simp [results, Tryz.results100, go_sem]) rfl ⟨rfl, belt⟩
 ·rw [if_neg ka] at hR
  generalize ovC k c.col = p at O1 hR; generalize ovC k c.back = q at O2 hR; subst hR; replace O1 := hdh O1; replace O2 := hdh O2; obtain ⟨ru, ⟨c0, c1, c2, c3⟩, ⟨d0, d1, d2, d3⟩, wi, ta⟩ := c; obtain ⟨k0, k1, k2, k3⟩ := k; dsimp only at ka ⊢
  go_enter Tryz.func100, Tryz.ntmps100
  go_upto_region 3 with fail
  obtain ⟨W3, hW3⟩ := exx (((w.alloc (.cells #[.int .i32 ru, .int .u8 c0, .int .u8 c1, .int .u8 c2, .int .u8 c3, .int .u8 d0, .int .u8 d1, .int .u8 d2, .int .u8 d3, .bool wi, .bool ta] 47)).alloc (.cells #[.int .u8 k0, .int .u8 k1, .int .u8 k2, .int .u8 k3] 34)).alloc (.cells #[.int .i32 0, .int .u8 0, .int .u8 0, .int .u8 0, .int .u8 0, .int .u8 0, .int .u8 0, .int .u8 0, .int .u8 0, .bool false, .bool false] 47))
  have B0 : Blk W3 w.heap.size [.int .i32 ru, .int .u8 c0, .int .u8 c1, .int .u8 c2, .int .u8 c3, .int .u8 d0, .int .u8 d1, .int .u8 d2, .int .u8 d3, .bool wi, .bool ta] 47 := by rw [← hW3]; exact ((Blk.new' rfl).alloc _).alloc _
  have B1 : Blk W3 (w.heap.size + 1) [.int .u8 k0, .int .u8 k1, .int .u8 k2, .int .u8 k3] 34 := by rw [← hW3]; exact (Blk.new' (by simp)).alloc _
  have B2 : Blk W3 (w.heap.size + 1 + 1) [.int .i32 0, .int .u8 0, .int .u8 0, .int .u8 0, .int .u8 0, .int .u8 0, .int .u8 0, .int .u8 0, .int .u8 0, .bool false, .bool false] 47 := by rw [← hW3]; exact Blk.new' (by simp)
  have hb3 : Below w.heap.size w W3 := by rw [← hW3]; exact belt
  rw [hW3]; clear hW3; have y0 := B0.lt; have y1 := B1.lt; have y2 := B2.lt; have q0 := B0.cell (o := 0) rfl; have q1 := B0.cell (o := 1) rfl; have q2 := B0.cell (o := 2) rfl; have q3 := B0.cell (o := 3) rfl; have q4 := B0.cell (o := 4) rfl; have q5 := B0.cell (o := 5) rfl; have q6 := B0.cell (o := 6) rfl; have q7 := B0.cell (o := 7) rfl; have q8 := B0.cell (o := 8) rfl; have r0 := B1.cell (o := 0) rfl; have r1 := B1.cell (o := 1) rfl; have r2 := B1.cell (o := 2) rfl; have r3 := B1.cell (o := 3) rfl; refine wp_region_steady_then (Held W3 0 []) 9 (by kernel_rfl) (by kernel_rfl) (by decide) (by kernel_rfl) (by kernel_rfl) ⟨belt, (by (try simp) <;> omega), (by first | exact trivial | (simp only [Cells]; go_simp))⟩ ?_
  simp only [List.take_succ_cons, List.take_zero]
  repeat (first | (refine' wpSteady_do _ _ _; rotate_left; (focus rfl); (focus (intro w1 hS R hR; have hc := hS.cells; simp only [Cells] at hc; obtain ⟨hco, hfo⟩ := bcell hS.old; go_simp; (try go_bits); first | exact hR _ hS | ((go_at_call 102; (with_reducible refine cmm (O1.out _) fun w2 hb2 => ?_); exact ⟨_, rfl, hR _ (hS.below hb2)⟩)) | ((go_at_call 102; (with_reducible refine cmm (O2.out _) fun w2 hb2 => ?_); exact ⟨_, rfl, hR _ (hS.below hb2)⟩)))); simp only [pu]) | (refine spa ?_; simp only [pu]))
  refine wpSteady_nil (fun uA hSA => ?_); obtain ⟨hcA, hbA, hzA, hcoA, hfoA⟩ := hall hSA; clear hSA; simp only [Cells] at hcA; simp only [List.drop_succ_cons, List.drop_zero, List.drop_nil]; have E0 := B0.below hbA y0; have E2 := B2.below hbA y2; have hbW : Below w.heap.size w uA := hb3.trans (hbA.mono hb3.size); clear q0 q1 q2 q3 q4 q5 q6 q7 q8 r0 r1 r2 r3 hcoA hfoA hcA hbA B0 B1 B2 hb3; have z0 := E0.lt; have z2 := E2.lt; have e1 := E0.cell (o := 1) rfl; have e2 := E0.cell (o := 2) rfl; have e3 := E0.cell (o := 3) rfl; have e4 := E0.cell (o := 4) rfl; have e5 := E0.cell (o := 5) rfl; have e6 := E0.cell (o := 6) rfl
  have e7 := E0.cell (o := 7) rfl; have e8 := E0.cell (o := 8) rfl; have ff := E0.free
  go_upto_region 4 with fail
  have G0 : Blk (((((((((uA).setCell ⟨w.heap.size, 1, none⟩ (.int .u8 p.r)).setCell ⟨w.heap.size, 2, none⟩ (.int .u8 p.g)).setCell ⟨w.heap.size, 3, none⟩ (.int .u8 p.b)).setCell ⟨w.heap.size, 4, none⟩ (.int .u8 p.a)).setCell ⟨w.heap.size, 5, none⟩ (.int .u8 q.r)).setCell ⟨w.heap.size, 6, none⟩ (.int .u8 q.g)).setCell ⟨w.heap.size, 7, none⟩ (.int .u8 q.b)).setCell ⟨w.heap.size, 8, none⟩ (.int .u8 q.a)) w.heap.size [.int .i32 ru, .int .u8 p.r, .int .u8 p.g, .int .u8 p.b, .int .u8 p.a, .int .u8 q.r, .int .u8 q.g, .int .u8 q.b, .int .u8 q.a, .bool wi, .bool ta] 47 := ((((((((E0).set 1 (.int .u8 p.r)).set 2 (.int .u8 p.g)).set 3 (.int .u8 p.b)).set 4 (.int .u8 p.a)).set 5 (.int .u8 q.r)).set 6 (.int .u8 q.g)).set 7 (.int .u8 q.b)).set 8 (.int .u8 q.a)
  have G2 := ((((((((E2).set_ne (a := ⟨w.heap.size, 1, none⟩) (by show w.heap.size + 1 + 1 ≠ w.heap.size; omega) (.int .u8 p.r)).set_ne (a := ⟨w.heap.size, 2, none⟩) (by show w.heap.size + 1 + 1 ≠ w.heap.size; omega) (.int .u8 p.g)).set_ne (a := ⟨w.heap.size, 3, none⟩) (by show w.heap.size + 1 + 1 ≠ w.heap.size; omega) (.int .u8 p.b)).set_ne (a := ⟨w.heap.size, 4, none⟩) (by show w.heap.size + 1 + 1 ≠ w.heap.size; omega) (.int .u8 p.a)).set_ne (a := ⟨w.heap.size, 5, none⟩) (by show w.heap.size + 1 + 1 ≠ w.heap.size; omega) (.int .u8 q.r)).set_ne (a := ⟨w.heap.size, 6, none⟩) (by show w.heap.size + 1 + 1 ≠ w.heap.size; omega) (.int .u8 q.g)).set_ne (a := ⟨w.heap.size, 7, none⟩) (by show w.heap.size + 1 + 1 ≠ w.heap.size; omega) (.int .u8 q.b)).set_ne (a := ⟨w.heap.size, 8, none⟩) (by show w.heap.size + 1 + 1 ≠ w.heap.size; omega) (.int .u8 q.a)
  have hbX : Below w.heap.size w (((((((((uA).setCell ⟨w.heap.size, 1, none⟩ (.int .u8 p.r)).setCell ⟨w.heap.size, 2, none⟩ (.int .u8 p.g)).setCell ⟨w.heap.size, 3, none⟩ (.int .u8 p.b)).setCell ⟨w.heap.size, 4, none⟩ (.int .u8 p.a)).setCell ⟨w.heap.size, 5, none⟩ (.int .u8 q.r)).setCell ⟨w.heap.size, 6, none⟩ (.int .u8 q.g)).setCell ⟨w.heap.size, 7, none⟩ (.int .u8 q.b)).setCell ⟨w.heap.size, 8, none⟩ (.int .u8 q.a)) := ((((((((hbW).setCell (p := ⟨w.heap.size, 1, none⟩) lrr (.int .u8 p.r)).setCell (p := ⟨w.heap.size, 2, none⟩) lrr (.int .u8 p.g)).setCell (p := ⟨w.heap.size, 3, none⟩) lrr (.int .u8 p.b)).setCell (p := ⟨w.heap.size, 4, none⟩) lrr (.int .u8 p.a)).setCell (p := ⟨w.heap.size, 5, none⟩) lrr (.int .u8 q.r)).setCell (p := ⟨w.heap.size, 6, none⟩) lrr (.int .u8 q.g)).setCell (p := ⟨w.heap.size, 7, none⟩) lrr (.int .u8 q.b)).setCell (p := ⟨w.heap.size, 8, none⟩) lrr (.int .u8 q.a)
  clear e1 e2 e3 e4 e5 e6 e7 e8 ff E0 E2 hbW; generalize ((((((((uA).setCell ⟨w.heap.size, 1, none⟩ (.int .u8 p.r)).setCell ⟨w.heap.size, 2, none⟩ (.int .u8 p.g)).setCell ⟨w.heap.size, 3, none⟩ (.int .u8 p.b)).setCell ⟨w.heap.size, 4, none⟩ (.int .u8 p.a)).setCell ⟨w.heap.size, 5, none⟩ (.int .u8 q.r)).setCell ⟨w.heap.size, 6, none⟩ (.int .u8 q.g)).setCell ⟨w.heap.size, 7, none⟩ (.int .u8 q.b)).setCell ⟨w.heap.size, 8, none⟩ (.int .u8 q.a) = wB at G0 G2 hbX ⊢; obtain ⟨e0, e1, e2, e3, e4, e5, e6, e7, e8, e9, e10⟩ := G0.c11; have ff := G2.free; obtain ⟨j0, j1, j2, j3, j4, j5, j6, j7, j8, j9, j10⟩ := G2.c11
  have z0 := G0.lt; have z2 := G2.lt; go_wp2; have H2 := Blk.put11 G2 rfl (.int .i32 ru) (.int .u8 p.r) (.int .u8 p.g) (.int .u8 p.b) (.int .u8 p.a) (.int .u8 q.r) (.int .u8 q.g) (.int .u8 q.b) (.int .u8 q.a) (.bool wi) (.bool ta); have hbZ := put11_below hbX (b := w.heap.size + 1 + 1) (by omega) (.int .i32 ru) (.int .u8 p.r) (.int .u8 p.g) (.int .u8 p.b) (.int .u8 p.a) (.int .u8 q.r) (.int .u8 q.g) (.int .u8 q.b) (.int .u8 q.a) (.bool wi) (.bool ta); clear e0 e1 e2 e3 e4 e5 e6 e7 e8 e9 e10 j0 j1 j2 j3 j4 j5 j6 j7 j8 j9 j10 ff G0 G2 hbX; generalize (((((((((((wB).setCell ⟨w.heap.size + 1 + 1, 0, none⟩ (.int .i32 ru)).setCell ⟨w.heap.size + 1 + 1, 1, none⟩ (.int .u8 p.r)).setCell ⟨w.heap.size + 1 + 1, 2, none⟩ (.int .u8 p.g)).setCell ⟨w.heap.size + 1 + 1, 3, none⟩ (.int .u8 p.b)).setCell ⟨w.heap.size + 1 + 1, 4, none⟩ (.int .u8 p.a)).setCell ⟨w.heap.size + 1 + 1, 5, none⟩ (.int .u8 q.r)).setCell ⟨w.heap.size + 1 + 1, 6, none⟩ (.int .u8 q.g)).setCell ⟨w.heap.size + 1 + 1, 7, none⟩ (.int .u8 q.b)).setCell ⟨w.heap.size + 1 + 1, 8, none⟩ (.int .u8 q.a)).setCell ⟨w.heap.size + 1 + 1, 9, none⟩ (.bool wi)).setCell ⟨w.heap.size + 1 + 1, 10, none⟩ (.bool ta) = wZ at H2 hbZ ⊢
  obtain ⟨j0, j1, j2, j3, j4, j5, j6, j7, j8, j9, j10⟩ := H2.c11; refine bodyPost_ret (v := .agg #[.int .i32 ru, .int .u8 p.r, .int .u8 p.g, .int .u8 p.b, .int .u8 p.a, .int .u8 q.r, .int .u8 q.g, .int .u8 q.b, .int .u8 q.a, .bool wi, .bool ta]) (by simp [results, Tryz.results100, go_sem, j0, j1, j2, j3, j4, j5, j6, j7, j8, j9, j10]) rfl ⟨rfl, hbZ⟩
/-! ### frames -/
def frmV (l r a b w h : Bool) : Int := if !l && !r && !a && !b then 0 else if w && h then 9633 else if w then 9474 else if h then 9472 else if l && a then 9484 else if r && a then 9488 else if l && b then 9492 else if r && b then 9496 else if a || b then 9472 else 9474
def frmP (q : Re) (x y : Int) : Int := frmV (x - q.x == 0) (x - q.x == q.wd - 1) (y - q.y == 0) (y - q.y == q.ht - 1) (q.wd - 1 == 0) (q.ht - 1 == 0)
theorem frm_cases {X W : Int} (h0 : 0 ≤ X) (h1 : X ≤ W) : ((X == 0) = true ∧ (X == W) = true ∧ (W == 0) = true ∧ decide (0 < X) = false) ∨ ((X == 0) = true ∧ (X == W) = false ∧ (W == 0) = false ∧ decide (0 < X) = false) ∨ ((X == 0) = false ∧ (X == W) = true ∧ (W == 0) = false ∧ decide (0 < X) = true) ∨ ((X == 0) = false ∧ (X == W) = false ∧ (W == 0) = false ∧ decide (0 < X) = true) := by
 simp only [beq_iff_eq, beq_eq_false_iff_ne, decide_eq_true_eq, decide_eq_false_iff_not]; omega
def boxV : List Value := [.int .i32 9484, .int .i32 9488, .int .i32 9492, .int .i32 9496, .int .i32 9472, .int .i32 9474, .int .i32 9633]
theorem boxes_any (w : World) : Calls Tryz.prog 145 #[] w fun e w' => e = .returned (.agg #[.int .i32 9484, .int .i32 9488, .int .i32 9492, .int .i32 9496, .int .i32 9472, .int .i32 9474, .int .i32 9633]) ∧ Below w.heap.size w w' := by
 go_enter Tryz.func145, Tryz.ntmps145
 go_wp2; refine bodyPost_ret (v := .agg #[.int .i32 9484, .int .i32 9488, .int .i32 9492, .int .i32 9496, .int .i32 9472, .int .i32 9474, .int .i32 9633]) (by simp [results, Tryz.results145, go_sem]) rfl ⟨rfl, belt⟩
set_option maxRecDepth 100000 in
theorem cframed_any (q : Re) (x y : Int) (w : World) (hm : mayR q = true) (i1 : q.x ≤ x) (i2 : x < q.x + q.wd) (i3 : q.y ≤ y) (i4 : y < q.y + q.ht) : Calls Tryz.prog 101 #[.agg #[.int .i64 (q).x, .int .i64 (q).y, .int .i64 (q).wd, .int .i64 (q).ht], .agg #[.int .i64 (x), .int .i64 (y)]] w fun e w' => e = .returned (.int .i32 (frmP q x y)) ∧ Below w.heap.size w w' := by
 obtain ⟨R, hR⟩ := exx (frmP q x y); rw [hR]; have hbd := may_bd hm; unfold frmP at hR; obtain ⟨X, hX⟩ := exx (x - q.x); obtain ⟨Y, hY⟩ := exx (y - q.y); obtain ⟨W, hW⟩ := exx (q.wd - 1); obtain ⟨H, hH⟩ := exx (q.ht - 1); rw [hX, hY, hW, hH] at hR; have CX := frm_cases (X := X) (W := W) (by omega) (by omega); have CY := frm_cases (X := Y) (W := H) (by omega) (by omega)
 have bW : 0 ≤ W ∧ W ≤ 20000000 := by omega
 have bH : 0 ≤ H ∧ H ≤ 20000000 := by omega
 have bX : 0 ≤ X ∧ X ≤ 20000000 := by omega
 have bY : 0 ≤ Y ∧ Y ≤ 20000000 := by omega
 obtain ⟨qx, qy, qw, qh⟩ := q; dsimp only at hX hY hW hH hbd i1 i2 i3 i4 ⊢
 go_enter Tryz.func101, Tryz.ntmps101
 go_upto_region 2 with (go_at_call 145; (with_reducible refine cmm (boxes_any _) fun w1 hb1 => ?_); obtain ⟨hc1, hf1, hz1⟩ := bzz hb1; (try simp at hz1); (try have lt1 : w.heap.size < w1.heap.size := (by omega)))
 have yb0 : w.heap.size < w1.heap.size := by omega
 have yb1 : w.heap.size + 1 < w1.heap.size := by omega
 have hbw : Below w.heap.size w w1 := belt
 have c0 : w1.cell? ⟨w.heap.size, 0, none⟩ = some (.int .i64 qx) := by go_simp
 have c1 : w1.cell? ⟨w.heap.size, 1, none⟩ = some (.int .i64 qy) := by go_simp
 have c2 : w1.cell? ⟨w.heap.size, 2, none⟩ = some (.int .i64 qw) := by go_simp
 have c3 : w1.cell? ⟨w.heap.size, 3, none⟩ = some (.int .i64 qh) := by go_simp
 have c4 : w1.cell? ⟨w.heap.size + 1, 0, none⟩ = some (.int .i64 x) := by go_simp
 have c5 : w1.cell? ⟨w.heap.size + 1, 1, none⟩ = some (.int .i64 y) := by go_simp
 clear hc1 hf1 hb1 hz1; obtain ⟨W2, hW2⟩ := exx (w1.alloc (.cells #[.int .i32 9484, .int .i32 9488, .int .i32 9492, .int .i32 9496, .int .i32 9472, .int .i32 9474, .int .i32 9633] 195))
 have hB : Blk W2 w1.heap.size boxV 195 := by rw [← hW2]; exact Blk.new' rfl
 have hb12 : Below w1.heap.size w1 W2 := by rw [← hW2]; exact belt
 rw [hW2]; clear hW2; obtain ⟨hco12, hfo12⟩ := bcell hb12; replace c0 := (hco12 _ _ yb0).trans c0; replace c1 := (hco12 _ _ yb0).trans c1; replace c2 := (hco12 _ _ yb0).trans c2; replace c3 := (hco12 _ _ yb0).trans c3; replace c4 := (hco12 _ _ yb1).trans c4; replace c5 := (hco12 _ _ yb1).trans c5; clear hco12 hfo12; have hbW := hbw.trans (hb12.mono hbw.size); have yB := hB.lt
 have yz0 : w.heap.size < W2.heap.size := by omega
 have yz1 : w.heap.size + 1 < W2.heap.size := by omega
 clear hbw hb12; refine rst (Held W2 0 []) ?_
 repeat (first | (refine' sdo ?_; simp only [pu]) | (refine spa ?_; simp only [pu]))
 refine wpSteady_nil (fun uA hSA => ?_); obtain ⟨hcA, hbA, hzA, hcoA, hfoA⟩ := hall hSA; clear hSA; simp only [Cells] at hcA; go_wp2; have d2 := (hcoA _ _ yz0).trans c2; have d3 := (hcoA _ _ yz0).trans c3; have hBA := hB.below hbA yB; have hbWA := hbW.trans (hbA.mono hbW.size)
 have yzA : w.heap.size < uA.heap.size := by omega
 have yBA := hBA.lt; clear c0 c1 c2 c3 c4 c5 hcA hcoA hfoA hbA hB hbW; refine rst (Held uA 0 []) ?_
 repeat (first | (refine' sdo ?_; simp only [pu]) | (refine spa ?_; simp only [pu]))
 refine wpSteady_nil (fun uB hSB => ?_); obtain ⟨hcB, hbB, hzB, hcoB, hfoB⟩ := hall hSB; clear hSB; simp only [Cells] at hcB; have hBB := hBA.below hbB yBA; have hbWB := hbWA.trans (hbB.mono hbWA.size); have k0 := hBB.cell (o := 0) rfl; have k1 := hBB.cell (o := 1) rfl; have k2 := hBB.cell (o := 2) rfl; have k3 := hBB.cell (o := 3) rfl; have k4 := hBB.cell (o := 4) rfl; have k5 := hBB.cell (o := 5) rfl; have k6 := hBB.cell (o := 6) rfl; have yBB := hBB.lt; clear d2 d3 hcB hcoB hfoB hbB hBA hbWA hX hY hW hH i1 i2 i3 i4 hbd hm hBB
 rcases CX with ⟨e1, e2, e3, e4⟩ | ⟨e1, e2, e3, e4⟩ | ⟨e1, e2, e3, e4⟩ | ⟨e1, e2, e3, e4⟩ <;> rcases CY with ⟨e5, e6, e7, e8⟩ | ⟨e5, e6, e7, e8⟩ | ⟨e5, e6, e7, e8⟩ | ⟨e5, e6, e7, e8⟩ <;> rw [e1, e2, e3, e5, e6, e7] at hR <;> simp only [frmV, Bool.not_true, Bool.not_false, Bool.and_true, Bool.and_false, Bool.true_and, Bool.false_and, Bool.false_eq_true, if_true, if_false, Bool.or_self, Bool.true_or, Bool.or_true] at hR <;> subst hR
 all_goals
  go_wp2; go_ret; exact ⟨rfl, hbWB⟩
end Go.Proofs.YtfcphagmjijmkaaGreatDoor
