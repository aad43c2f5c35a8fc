/-
  Cells: what a text has in cells, by the program (a range over SplitSeq).
-/
import Derived.Lib.OthersKept
import Derived.Test.YtfcphagmjijmkaaGreatDoorDd5
namespace Go.Proofs.YtfcphagmjijmkaaGreatDoor
open Go.RowKit
set_option linter.unusedVariables false
set_option linter.unusedSimpArgs false
attribute [local go_sem] vwp vUpon_value vUpon_skip vUpon_enter vUpon_row
set_option maxHeartbeats 16000000
section
attribute [local go_sem] Oper.semAt_some wide_fn wide_depth
theorem infoGl : (Tryz.prog.info? 150).map (fun i => (i.zero, i.size, i.bytes)) = some (some (.agg #[.int .i32 0, .bool false, .bool false]), 3, 8) := by kernel_rfl
theorem infoGr : (Tryz.prog.info? 147).map (fun i => (i.zero, i.size, i.bytes)) = some (some (.slice none 0 0), 1, 24) := by kernel_rfl
theorem own_but {w w' : World} {base : Nat} {e : TypeId} {sz n : Nat} {v : Value} {xs : List Value} {X : Nat → Prop} (h : w.ownsRow base e sz v n xs) (hk : KeptBut X w w') (hx : ∀ k, base ≤ k → ¬ X k) : w'.ownsRow base e sz v n xs := by
 refine ⟨h.1, ?_⟩
 rcases h.2 with ⟨a, b⟩ | ⟨g, cap, cur, rfl, hb, hg, r⟩
 ·exact .inl ⟨a, b⟩
 ·exact .inr ⟨g, cap, cur, rfl, hb, (hk.same g (Array.getElem?_eq_some_iff.1 hg).1 (hx g hb)).trans hg, r⟩
theorem own_agree {w w' : World} {base : Nat} {e : TypeId} {sz n : Nat} {v : Value} {xs : List Value} (h : w.ownsRow base e sz v n xs) (hk : ∀ k, base ≤ k → k < w.heap.size → w'.heap[k]? = w.heap[k]?) : w'.ownsRow base e sz v n xs := by
 refine ⟨h.1, ?_⟩
 rcases h.2 with ⟨a, b⟩ | ⟨g, cap, cur, rfl, hb, hg, r⟩
 ·exact .inl ⟨a, b⟩
 ·exact .inr ⟨g, cap, cur, rfl, hb, (hk g hb (Array.getElem?_eq_some_iff.1 hg).1).trans hg, r⟩
theorem own_apart {w : World} {b1 b2 : Nat} {e1 e2 : TypeId} {s1 s2 n1 n2 : Nat} {v1 v2 : Value} {x1 x2 : List Value} (h1 : w.ownsRow b1 e1 s1 v1 n1 x1) (h2 : w.ownsRow b2 e2 s2 v2 n2 x2) (he : e1 ≠ e2) (g : Nat) (h : v1.ownBlock = some g) : v2.ownBlock ≠ some g := by
 intro h'
 rcases h1.2 with ⟨rfl, _⟩ | ⟨g1, _, _, rfl, _, hg1, _⟩
 ·simp [Value.ownBlock] at h
 ·rcases h2.2 with ⟨rfl, _⟩ | ⟨g2, _, _, rfl, _, hg2, _⟩
  ·simp [Value.ownBlock] at h'
  ·simp [Value.ownBlock] at h h'
   subst h h'; rw [hg1] at hg2
   injection hg2 with hg2
   injection hg2 with _ a _
   exact he a
def GlyRows (tr tg : TypeId) (base : Nat) (W : World) (v : Value) (g : List (List Gl)) : Prop :=
 ∃ vs : List Value, vs.length = g.length ∧ W.ownsRow base tr 1 v g.length vs ∧ ∀ (j : Nat) u r, vs[j]? = some u → g[j]? = some r → W.ownsRow base tg 3 u r.length (r.flatMap Gl.enc)
theorem GlyRows.but {tr tg : TypeId} {W W' : World} {base : Nat} {v : Value} {g : List (List Gl)} {X : Nat → Prop} (h : GlyRows tr tg base W v g) (hk : KeptBut X W W') (hx : ∀ k, base ≤ k → ¬ X k) : GlyRows tr tg base W' v g := by
 obtain ⟨vs, hl, hr, hj⟩ := h; exact ⟨vs, hl, own_but hr hk hx, fun j u r h1 h2 => own_but (hj j u r h1 h2) hk hx⟩
theorem GlyRows.nil (tr tg : TypeId) (base : Nat) (W : World) : GlyRows tr tg base W (.slice none 0 0) [] := ⟨[], rfl, World.ownsRow_nil _ _ _ _, fun j u r h => by simp at h⟩
theorem flat_one (vs : List Value) : vs.flatMap (fun u => [u]) = vs := by
 induction vs with
 | nil => rfl
 | cons a l ih => rw [List.flatMap_cons, ih]; rfl
theorem GlyRows.grid {tr tg : TypeId} {W : World} {base lo : Nat} {v : Value} {g : List (List Gl)} (h : GlyRows tr tg base W v g) (hlo : lo ≤ base) : GridO W lo v g := by
 intro w'' hw
 obtain ⟨vs, hl, hr, hj⟩ := h; have hr2 := own_agree hr (w' := w'') (fun k h1 h2 => hw k (by omega) h2); refine ⟨vs, hl, ?_, fun j u r h1 h2 => ?_⟩
 ·rw [← hl] at hr2 hr
  have e := flat_one vs; refine Row.own_lt (fun _ => rfl) (by rw [e]; exact hr2) (fun b hb => (hr.lt b hb).2) (by omega)
 ·have h3 := own_agree (hj j u r h1 h2) (w' := w'') (fun k h1 h2 => hw k (by omega) h2)
  exact Row.own_lt Gl.enc_len h3 (fun b hb => ((hj j u r h1 h2).lt b hb).2) (by omega)
theorem own_low {w : World} {base B : Nat} {e : TypeId} {size n : Nat} {v : Value} {xs : List Value} (h : w.ownsRow base e size v n xs) (hB : B ≤ base) : w.ownsRow B e size v n xs := by
 refine ⟨h.1, ?_⟩
 rcases h.2 with ⟨a, b⟩ | ⟨g, cap, cur, rfl, hb, r⟩
 ·exact .inl ⟨a, b⟩
 ·exact .inr ⟨g, cap, cur, rfl, by omega, r⟩
theorem GlyRows.snoc {tr tg : TypeId} (hne : tg ≠ tr) {W w' : World} {base : Nat} {v v' u : Value} {g : List (List Gl)} {r : List Gl} {vs : List Value} (hl : vs.length = g.length) (hj : ∀ (j : Nat) u r, vs[j]? = some u → g[j]? = some r → W.ownsRow base tg 3 u r.length (r.flatMap Gl.enc))
  (hr : W.ownsRow base tr 1 v g.length vs) (hu : W.ownsRow base tg 3 u r.length (r.flatMap Gl.enc)) (hown : w'.ownsRow base tr 1 v' (g.length + 1) (vs ++ [u])) (hg : W.grownBy w' v.ownBlock) : GlyRows tr tg base w' v' (g ++ [r]) := by
 refine ⟨vs ++ [u], by simp [hl], by simpa using hown, fun j u' r' h1 h2 => ?_⟩
 have key : ∀ {u : Value} {r : List Gl}, W.ownsRow base tg 3 u r.length (r.flatMap Gl.enc) → w'.ownsRow base tg 3 u r.length (r.flatMap Gl.enc) := fun h => by
  refine h.kept hg ?_
  rcases h.2 with ⟨rfl, _⟩ | ⟨b, cap, cur, rfl, _⟩
  ·exact .inl rfl
  ·exact .inr (fun e => own_apart h hr hne b rfl e.symm)
 by_cases c : j < vs.length
 ·rw [List.getElem?_append_left c] at h1
  rw [List.getElem?_append_left (by omega)] at h2; exact key (hj j u' r' h1 h2)
 ·by_cases c2 : j = vs.length
  ·subst c2
   rw [List.getElem?_append_right lrr, Nat.sub_self] at h1; rw [hl, List.getElem?_append_right lrr, Nat.sub_self] at h2
   simp at h1 h2
   subst h1 h2; exact key hu
  ·rw [List.getElem?_eq_none (by simp; omega)] at h1
   cases h1
theorem cells_new (w : World) (xs : List Value) (t : TypeId) : ∀ j u, xs[j]? = some u → (w.alloc (.cells xs.toArray t)).cell? ((⟨w.heap.size, 0, none⟩ : Addr).add j) = some u := by
 intro j u h
 have := (Blk.new w xs t).cell h
 cases j with
 | zero => simpa [Addr.add] using this
 | succ j => simpa [Addr.add] using this
set_option maxRecDepth 100000 in
theorem glyphs_any (s : ByteArray) (w : World) (hm : s.size ≤ 65536) : Calls Tryz.prog 53 #[.string s] w fun e w' => Below w.heap.size w w' ∧ ∃ v, e = .returned v ∧ GridO w' w.heap.size v (glyS s) := by
 obtain ⟨iG, hi0, hz0, hz1, hz2⟩ := info_parts infoGl; obtain ⟨iR, ri0, rz0, rz1, rz2⟩ := info_parts infoGr
 refine callsIn_wide (n := 9) |>.1 ?_
 refine callsIn_of_wp_marks Tryz.func53 rfl trivial ?_ rfl; simp only [Tryz.ntmps53, List.size_toArray, List.length_cons, List.length_nil, Nat.reduceAdd, Nat.reduceSub, Array.replicate_succ, Array.replicate_zero, List.push_toArray, List.append_toArray, List.nil_append, List.cons_append]
 gi_wp2_with (gi_at_call 98; (with_reducible refine (callsIn_wide.2 (ssplitSeq_any _ _)).mono ?_); rintro e w1 ⟨rfl, rfl⟩)
 obtain ⟨W0, hW0⟩ := exx ((((w.alloc (.cells #[.slice none 0 0] 92)).alloc (.cells #[.string s] 9)).alloc (.cells #[.string ⟨#[10]⟩] 9)).alloc (.cells #[.int .i64 0] 3))
 have B0 : Blk W0 w.heap.size [.slice none 0 0] 92 := by rw [← hW0]; exact (((Blk.new' rfl).alloc _).alloc _).alloc _
 have B1 : Blk W0 (w.heap.size + 1) [.string s] 9 := by rw [← hW0]; exact ((Blk.new' (by simp)).alloc _).alloc _
 have B2 : Blk W0 (w.heap.size + 1 + 1) [.string ⟨#[10]⟩] 9 := by rw [← hW0]; exact (Blk.new' (by simp)).alloc _
 have B3 : Blk W0 (w.heap.size + 1 + 1 + 1) [.int .i64 0] 3 := by rw [← hW0]; exact Blk.new' (by simp)
 have hbw : Below w.heap.size w W0 := by rw [← hW0]; exact belt
 have zW0 : W0.heap.size = w.heap.size + 4 := by rw [← hW0]; simp
 rw [hW0]; clear hW0; obtain ⟨n, hn⟩ := exx (w.heap.size); rw [hn] at B0 B1 B2 B3 zW0 hbw ⊢
 refine wpIn_range_own (gf := 183) rfl (enters_of Tryz.func183 (by kernel_rfl) rfl) (split_iter 8 (n + 1) s W0 (by unfold maxLen; omega) B1 B2 B3) lrr (by omega) (by omega) rfl
  (fun pre W => ∃ v, Blk W n [v] 92 ∧ GlyRows 147 150 (n + 6) W v (pre.map lineG) ∧ Below n w W)
  ?hI ⟨_, B0, GlyRows.nil _ _ _ _, hbw⟩ ?a1 ?assign ?body ?done
 case assign =>
  intro l x W K hK
  gi_wp2
  exact hK
 case hI =>
  rintro pre W W' ⟨v, hb, hg, hw⟩ hk
  refine ⟨v, hb.but hk (by omega), hg.but hk (fun k h1 => by omega), hk.toBelow hw (by have := hw.size; omega) (fun k h1 => by omega)⟩
 case body =>
  rintro l pre x rest W hx ⟨v, hb, hg, hw⟩ hz
  have WID := fun r w1 => CallsIn.inRound (F := Fence.wide) l (callsIn_wide (n := 9 - 1 - 1 - 1) |>.2 (width_any r w1))
  have xz : x.size ≤ s.size := splB_size s _ _ _ x (by unfold linesB at hx; rw [← hx]; simp); obtain ⟨m, hm⟩ := exx (W.heap.size); rw [hm] at hz
  gi_wp2_with fail
  gi_loopw [5] (fun rv wr => ∃ (p : Nat) (row : List Gl), p ≤ x.size ∧ wr.heap[m]? = some (.stringIter x p) ∧ wr.ownsRow (m + 1) 150 3 rv row.length (row.flatMap Gl.enc) ∧ Hid (row ++ rowG (runesAt x p) = lineG x) ∧ Below m W wr ∧ m < wr.heap.size ∧ row.length ≤ 2 * p) (fun _ wr => x.size - wr.iterPos m)
  case atStart => exact ⟨0, [], Nat.zero_le _, by rw [← hm]; exact World.alloc_heap_new W _, World.ownsRow_nil _ _ _ _, hdh rfl, by rw [← hm]; exact (Below.refl _ _).alloc lrr _, by show m < (W.alloc _).heap.size; rw [World.size_alloc]; omega, Nat.zero_le _⟩
  case round =>
   obtain ⟨p, row, hp, hit, hrow, hgo, hbr, hmr, hln⟩ := hrel
   have hlt := fun g h => (hrow.lt g h).1
   by_cases c : p < x.size
   ·have hnx := fun ty => Lib.run_next_any_at (P := Tryz.prog) wr m x p ty hit c
    have hst := runesAt_step c; have hfit := dec_fit c; have hpos := dec_pos x p; obtain ⟨⟨r, k⟩, hD⟩ : ∃ D, Utf8.decode x p = D := ⟨_, rfl⟩; rw [hD] at hnx hst hfit hpos; dsimp only at hnx hst hfit hpos; have hg := hgo.out; rw [hst, rowG_cons] at hg; clear hst hD; obtain ⟨wi, hwi⟩ := exx (wr.iterAt m x (p + k)); rw [hwi] at hnx
    have hiti : wi.heap[m]? = some (.stringIter x (p + k)) := by rw [← hwi]; exact Lib.iterAt_heap wr m x p (p + k) hit
    have zi : wi.heap.size = wr.heap.size := by rw [← hwi]; exact Lib.iterAt_size _ _ _ _
    have hrowi := own_agree hrow (w' := wi) (fun j h1 _ => by rw [← hwi]; exact Lib.iterAt_other wr m j x (p + k) (by omega))
    have hbi : Below m W wi := by rw [← hwi]; exact Lib.below_iterAt hbr lrr _ _
    replace hit := hdh hit; clear hwi hrow hgo hbr; have WD := WID (r : Int); obtain ⟨Z, hZ⟩ := exx (widR (r : Int)); rw [hZ] at WD hg; clear hZ; replace hrowi := hdh hrowi; replace hiti := hdh hiti
    by_cases z1 : Z = 1
    ·subst z1
     replace hg := hdh hg
     gi_wp2_with (first
      | (gi_at_call 99; (with_reducible refine (WD _).mono ?_); rintro e w2 ⟨rfl, hb2⟩; have hrow2 := own_agree hrowi.out (fun j _ h2 => hb2.block j h2); have hit2 := (hb2.block m (by omega)).trans hiti.out; have zz2 := hb2.size; have hbx := hbi.trans (hb2.mono (by omega)); replace hrow2 := hdh hrow2; replace hit2 := hdh hit2; replace hbx := hdh hbx; clear hb2)
      | (gi_at_builtin; refine wpListIn_append_own _ rfl _ _ 147 rfl (m + 1) 150 iG _ 3 8 Tryz.underlying147 hi0 hz0 hz1 hz2 rfl (by omega) _ row.length _ rfl (hrow2.out.alloc _) ⟨w2.heap.size, 0, none⟩ 1 1 ([.int .i32 (r : Int), .bool false, .bool false] : List Value) rfl rfl (cells_new w2 ([.int .i32 (r : Int), .bool false, .bool false] : List Value) 150) (by intro u hu; simp only [List.mem_cons, List.not_mem_nil, or_false] at hu; rcases hu with rfl | rfl | rfl <;> rfl) (by unfold maxLen; omega) (by omega) (by simp; omega) ?_; intro v3 w3 hown3 hgr3 _; replace hown3 := hdh hown3; replace hgr3 := hdh hgr3))
     have hm3 : w3.heap[m]? = some (.stringIter x (p + k)) := (hgr3.out.block m (by simp; omega) (fun e => by have := hlt m e.symm; omega)).trans ((Below.heap_alloc w2 _ m (by omega)).trans hit2.out); have hb3 : Below m W w3 := ((hbx.out.alloc (by omega) _).grown hgr3.out (by simp; omega) (fun g hg => by have := hlt g hg; omega)); have z3 := hgr3.out.size; rw [World.size_alloc] at z3; have hown4 := hown3.out; go_roundw
     case rel => exact ⟨p + k, row ++ [⟨(r : Int), false, false⟩], hfit, hm3, by simpa [Gl.enc] using hown4, hdh (by rw [List.append_assoc, ← hg.out]; rfl), hb3, by omega, by simp; omega⟩
     case measure =>
      have e1 : w3.iterPos m = p + k := by unfold World.iterPos; rw [hm3]
      have e2 : wr.iterPos m = p := by unfold World.iterPos; rw [hit.out]
      rw [e1, e2]; omega
    ·by_cases z2 : Z = 2
     ·subst z2
      replace hg := hdh hg
      gi_wp2_with (first
       | (gi_at_call 99; (with_reducible refine (WD _).mono ?_); rintro e w2 ⟨rfl, hb2⟩; have hrow2 := own_agree hrowi.out (fun j _ h2 => hb2.block j h2); have hit2 := (hb2.block m (by omega)).trans hiti.out; have zz2 := hb2.size; have hbx := hbi.trans (hb2.mono (by omega)); replace hrow2 := hdh hrow2; replace hit2 := hdh hit2; replace hbx := hdh hbx; clear hb2)
       | (gi_at_builtin; refine wpListIn_append_own _ rfl _ _ 147 rfl (m + 1) 150 iG _ 3 8 Tryz.underlying147 hi0 hz0 hz1 hz2 rfl (by omega) _ row.length _ rfl (hrow2.out.alloc _) ⟨w2.heap.size, 0, none⟩ 2 2 ([.int .i32 (r : Int), .bool true, .bool false, .int .i32 (r : Int), .bool false, .bool true] : List Value) rfl rfl (cells_new w2 ([.int .i32 (r : Int), .bool true, .bool false, .int .i32 (r : Int), .bool false, .bool true] : List Value) 150) (by intro u hu; simp only [List.mem_cons, List.not_mem_nil, or_false] at hu; rcases hu with rfl | rfl | rfl | rfl | rfl | rfl <;> rfl) (by unfold maxLen; omega) (by omega) (by simp; omega) ?_; intro v3 w3 hown3 hgr3 _; replace hown3 := hdh hown3; replace hgr3 := hdh hgr3))
      have hm3 : w3.heap[m]? = some (.stringIter x (p + k)) := (hgr3.out.block m (by simp; omega) (fun e => by have := hlt m e.symm; omega)).trans ((Below.heap_alloc w2 _ m (by omega)).trans hit2.out); have hb3 : Below m W w3 := ((hbx.out.alloc (by omega) _).grown hgr3.out (by simp; omega) (fun g hg => by have := hlt g hg; omega)); have z3 := hgr3.out.size; rw [World.size_alloc] at z3; have hown4 := hown3.out; go_roundw
      case rel => exact ⟨p + k, row ++ [⟨(r : Int), true, false⟩, ⟨(r : Int), false, true⟩], hfit, hm3, by simpa [Gl.enc] using hown4, hdh (by rw [List.append_assoc, ← hg.out]; rfl), hb3, by omega, by simp; omega⟩
      case measure =>
       have e1 : w3.iterPos m = p + k := by unfold World.iterPos; rw [hm3]
       have e2 : wr.iterPos m = p := by unfold World.iterPos; rw [hit.out]
       rw [e1, e2]; omega
     ·replace hg := hdh hg
      gi_wp2_with (gi_at_call 99; (with_reducible refine (WD _).mono ?_); rintro e w2 ⟨rfl, hb2⟩; have hrow2 := own_agree hrowi.out (fun j _ h2 => hb2.block j h2); have hit2 := (hb2.block m (by omega)).trans hiti.out; have zz2 := hb2.size; have hbx := hbi.trans (hb2.mono (by omega)); replace hrow2 := hdh hrow2; replace hit2 := hdh hit2; replace hbx := hdh hbx; clear hb2)
      go_roundw
      case rel => exact ⟨p + k, row, hfit, hit2.out, hrow2.out, hdh (by rw [← hg.out]; unfold glyR; rw [if_neg z1, if_neg z2]; rfl), hbx.out, by omega, by omega⟩
      case measure =>
       have e1 : w2.iterPos m = p + k := by unfold World.iterPos; rw [hit2.out]
       have e2 : wr.iterPos m = p := by unfold World.iterPos; rw [hit.out]
       rw [e1, e2]; omega
   ·have hnx := fun ty => Lib.run_next_end_at (P := Tryz.prog) wr m x p ty hit c
    have hgo := hgo.out; rw [runesAt_end c] at hgo
    have hgo : row = lineG x := by simpa [rowG] using hgo
    obtain ⟨sv, cv, hsv⟩ := own_slice hrow; subst hsv; obtain ⟨vs, hl, hr, hj⟩ := hg; obtain ⟨so, co, hso⟩ := own_slice hr; rw [List.length_map] at hr hso hl; subst hso; have hr2 := ownsRow_below hr hbr (by omega)
    have hj2 := fun j u r h1 h2 => ownsRow_below (hj j u r h1 h2) hbr (by omega)
    have hb2 := hb.below hbr (by omega); have k0 := hb2.cell (o := 0) rfl; have f0 := hb2.free
    have hlen : pre.length + 1 ≤ 65537 := by
     have h1 := splB_len s s.size 0 0
     have h2 : (pre ++ x :: rest).length = (linesB s).length := by rw [hx]
     unfold linesB at h2; rw [List.length_append, List.length_cons] at h2; omega
    have yn : n < wr.heap.size := by omega
    have hno : (Value.slice so pre.length co).ownBlock ≠ some n := fun e => by have := (hr.lt n e).1; omega
    replace hr2 := hdh hr2; replace hj2 := hdh hj2; replace hj := hdh hj; replace hr := hdh hr; replace hrow := hdh hrow; replace hl := hdh hl; replace hgo := hdh hgo; replace hx := hdh hx; replace hb2 := hdh hb2; replace hb := hdh hb; replace hit := hdh hit
    gi_wp2_with (gi_at_builtin; refine wpListIn_append_own _ rfl _ _ 92 rfl (n + 6) 147 iR _ 1 24 Tryz.underlying92 ri0 rz0 rz1 rz2 rfl (by omega) _ pre.length _ rfl (hr2.out.alloc _) ⟨wr.heap.size, 0, none⟩ 1 1 [.slice sv row.length cv] rfl rfl (cells_new wr [.slice sv row.length cv] 147) (by intro u hu; simp only [List.mem_cons, List.not_mem_nil, or_false] at hu; subst hu; rfl) (by unfold maxLen; omega) (by omega) (by simp; omega) ?_; intro v3 w3 hown3 hgr3 _; obtain ⟨s3, c3, hv3⟩ := own_slice hown3; subst hv3; have E3 := (hb2.out.alloc _).keep hgr3 hno; have e3 := E3.cell (o := 0) rfl; have f3 := E3.free; replace hown3 := hdh hown3; replace hgr3 := hdh hgr3; replace E3 := hdh E3)
    have hown3 := hown3.out; have hgr3 := hgr3.out; have hr2 := hr2.out
    have hlow : ∀ g, (Value.slice so pre.length co).ownBlock = some g → n + 6 ≤ g := fun g hg => (hr2.lt g hg).1
    have e6 : (pre.map lineG).length = pre.length := List.length_map _
    have G3 : GlyRows 147 150 (n + 6) w3 (.slice s3 (pre.length + 1) c3) (pre.map lineG ++ [lineG x]) := by
     refine GlyRows.snoc (by decide) (W := wr.alloc (.cells #[.slice sv row.length cv] 147)) (v := .slice so pre.length co) (vs := vs) (u := .slice sv row.length cv) (by rw [hl.out, e6]) (fun j u r h1 h2 => (hj2.out j u r h1 h2).alloc _) (by rw [e6]; exact hr2.alloc _) ?_ (by rw [e6]; exact hown3) hgr3; rw [← hgo.out]; exact own_low (hrow.out.alloc _) (by omega)
    have z3 := hgr3.size; rw [World.size_alloc] at z3; have hb3 : Below n W w3 := ((hbr.mono (by omega)).alloc (by omega) _).grown hgr3 (by simp; omega) (fun g hg => by have := hlow g hg; omega)
    have hk4 : ∀ k, n + 1 ≤ k → k < n + 6 → (w3.setCell ⟨n, 0, none⟩ (.slice s3 (pre.length + 1) c3)).heap[k]? = W.heap[k]? := fun k h1 h2 =>
     (Below.heap_setCell w3 _ _ k (by show k ≠ n; omega)).trans ((hgr3.block k (by simp; omega) (fun e => by have := hlow k e.symm; omega)).trans ((Below.heap_alloc wr _ k (by omega)).trans (hbr.block k (by omega))))
    refine ⟨⟨_, E3.out.set 0 _, ?_, ?_⟩, by simp; omega, fun k h1 h2 => hk4 k (by omega) (by omega), fun k h1 h2 => hk4 k (by omega) (by omega)⟩
    ·rw [List.map_append]
     exact G3.but ((KeptBut.refl (fun k => k = n) w3).setCell ⟨n, 0, none⟩ _ rfl) (fun k h1 => by omega)
    ·exact (hw.trans hb3).setCell (p := ⟨n, 0, none⟩) lrr _
 case done =>
  rintro W ⟨v, hb, hg, hw⟩ hD
  have k0 := hb.cell (o := 0) rfl
  gi_wp2
  refine ⟨by simp, .inl ⟨_, _, rfl, run_takeDeferred hD, ?_⟩⟩; have kb : KeptBut (fun k => k = W0.heap.size) W (W.putObj W0.heap.size (.deferred none)) := (KeptBut.refl _ _).putObj _ _ rfl; refine ⟨_, results_tmp rfl _ _ _, ?_⟩; rw [hn]; exact ⟨kb.toBelow hw (by have := hw.size; omega) (fun k h1 => by omega), _, rfl, (hg.but kb (fun k h1 => by omega)).grid (by omega)⟩
end
end Go.Proofs.YtfcphagmjijmkaaGreatDoor
