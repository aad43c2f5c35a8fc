/-
  Damage: the places at which two screens are unlike, as a region (damage.Changed).
-/
import Derived.Test.YtfcphagmjijmkaaGreatDoorDt29
import Derived.Test.YtfcphagmjijmkaaGreatDoorDt30
namespace Go.Proofs.YtfcphagmjijmkaaGreatDoor
open Go.RowKit
set_option linter.unusedVariables false
set_option linter.unusedSimpArgs false
attribute [local go_sem] vwp vUpon_value vUpon_skip vUpon_enter vUpon_row
set_option maxHeartbeats 16000000
/-! ### plain: bounds -/
def LowK (k : Nat) (l : List Re) : Prop := ∀ b ∈ l, 0 ≤ b.y ∧ b.y ≤ 16384 ∧ 0 ≤ b.ht ∧ b.ht ≤ (k : Int) + 1
theorem LowK.low {k : Nat} {l : List Re} (h : LowK k l) (hk : k ≤ 300000) : LowR l := fun b hb => by
 have := h b hb; omega
theorem LowK.up {k j : Nat} {l : List Re} (h : LowK k l) (hk : k ≤ j) : LowK j l := fun b hb => by
 have := h b hb; omega
theorem LowK.nil (k : Nat) : LowK k [] := fun b hb => by cases hb
theorem LowK.snoc {k : Nat} {l : List Re} {q : Re} (h : LowK k l) (hq : 0 ≤ q.y ∧ q.y ≤ 16384) (h1 : q.ht = 1) : LowK k (l ++ [q]) := fun b hb => by
 rcases List.mem_append.1 hb with hb | hb
 ·exact h b hb
 ·rw [List.mem_singleton.1 hb, h1]
  omega
theorem LowK.grow {k : Nat} {l : List Re} (h : LowK k l) : LowK (k + 1) (l.map growR) := fun b hb => by
 obtain ⟨c, hc, rfl⟩ := List.mem_map.1 hb; have := h c hc; unfold growR; simp only; omega
theorem runAt_y (ls ms : List Ce) (P N y : Nat) : ∀ f x, ∀ r ∈ runAt ls ms P N y f x, r.y = (y : Int)
 | 0, _, r, h => by cases h
 | f + 1, x, r, h => by
  rw [runAt] at h
  split at h
  ·rcases List.mem_append.1 h with h | h
   ·unfold runOne at h
    split at h
    ·rw [List.mem_singleton.1 h]
    ·cases h
   ·exact runAt_y ls ms P N y f _ r h
  ·cases h
theorem runsGo_y (ls ms : List Ce) (N : Nat) : ∀ n y, ∀ r ∈ runsGo ls ms N n y, (y : Int) ≤ r.y ∧ r.y < (y + n : Nat)
 | 0, _, r, h => by cases h
 | n + 1, y, r, h => by
  rw [runsGo] at h
  rcases List.mem_append.1 h with h | h
  ·have := runAt_y _ _ _ _ _ _ _ r h
   omega
  ·have := runsGo_y ls ms N n _ r h
   omega
theorem chk_bd {wd ht : Int} {cs : List Ce} (h : chkS wd ht cs = 0) : wd.toNat * ht.toNat ≤ 262144 ∧ wd.toNat ≤ 16384 ∧ ht.toNat ≤ 16384 := by
 obtain ⟨h1, h2, _⟩ := chkS_zero h; obtain ⟨z0, z1, z2, z3, z4⟩ := fitsS_true.1 h1; obtain ⟨W, rfl⟩ : ∃ W : Nat, wd = W := ⟨wd.toNat, by omega⟩; obtain ⟨H, rfl⟩ : ∃ H : Nat, ht = H := ⟨ht.toNat, by omega⟩; refine ⟨?_, by omega, by omega⟩; have e : ((W * H : Nat) : Int) = (W : Int) * (H : Int) := Int.natCast_mul W H
 have z5 : ((W * H : Nat) : Int) ≤ 262144 := by rw [e]; exact z4
 simp only [Int.toNat_natCast]; omega
theorem runs_bd {wa ha wb hb : Int} {xs ys : List Ce} : (runsL wa ha xs wb hb ys).length ≤ 300000 ∧ ∀ r ∈ runsL wa ha xs wb hb ys, 0 ≤ r.y ∧ r.y ≤ 16384 := by
 unfold runsL
 split
 ·rename_i h
  obtain ⟨h1, _⟩ := runsOk_iff.1 h; obtain ⟨b1, b2, b3⟩ := chk_bd h1
  constructor
  ·refine Nat.le_trans (runsGo_len _ _ _ _ _) (Nat.le_trans (Nat.mul_le_mul_left _ (show (wa.toNat + 1) / 2 ≤ wa.toNat + 1 by omega)) ?_)
   rw [Nat.mul_add, Nat.mul_one, Nat.mul_comm]; omega
  ·intro r hr
   have := runsGo_y _ _ _ _ _ r hr; omega
 ·exact ⟨by simp, fun r hr => by cases hr⟩
theorem band_mem : ∀ {l : List Bd}, CanB l → ∀ q ∈ flatB l, 0 < q.wd ∧ 0 < q.ht
 | [], _, q, hq => by cases hq
 | t :: r, h, q, hq => by
  unfold flatB at hq; rw [List.flatMap_cons] at hq
  rcases List.mem_append.1 hq with hq | hq
  ·have g := h.good
   unfold rectsOf at hq; obtain ⟨s, hs, rfl⟩ := List.mem_map.1 hq; have := CanS.all_pos g.2.2 s hs; have := g.1; exact ⟨by simp only; omega, by simp only; omega⟩
  ·exact band_mem h.tail q hq
theorem form_full {a b : List Re} (ha : MayL a) (hb : MayL b) (what : Int) : ∀ q ∈ formR a b what, emptyR q = false := fun q hq => by
 obtain ⟨h1, h2⟩ := band_mem (bands_spec ha.sane hb.sane what).1 q hq; exact full_mk (form_may ha hb what q hq) h1 h2
theorem chgF_ok {wa ha wb hb : Int} {xs ys : List Ce} : MayL (chgF wa ha xs wb hb ys) ∧ ∀ q ∈ chgF wa ha xs wb hb ys, emptyR q = false := by
 by_cases h : runsOk wa ha xs wb hb ys = true
 ·obtain ⟨h1, h2, rfl, rfl⟩ := runsOk_iff.1 h
  have um := unit_may (ms := ys) (size_nat h1).1 (size_nat h1).2.1 (size_nat h1).2.2; rw [chgF_form h1 h2]; exact ⟨form_may um mayL_nil 1, form_full um mayL_nil 1⟩
 ·have e : chgF wa ha xs wb hb ys = [] := by
   unfold chgF runsL; rw [if_neg h]
   rfl
  rw [e]; exact ⟨mayL_nil, fun q hq => by cases hq⟩
theorem chg_bad {wa ha wb hb : Int} {xs ys : List Ce} (h : chgE wa ha xs wb hb ys ≠ 0) : chgL wa ha xs wb hb ys = [] := by
 have e : chgF wa ha xs wb hb ys = [] := by
  unfold chgF runsL; rw [if_neg (fun h' => h (by unfold chgE runsE; rw [if_pos h']))]
  rfl
 unfold chgL; rw [e]
 rfl
/-! ### runs of the call's own, opened -/
theorem RunRows.open_ {base : Nat} {w : World} {v : Value} {l : List Rn} (h : RunRows base w v l) : ∃ s cap, v = .slice s l.length cap ∧ (0 < l.length → ∃ g, s = some ⟨g, 0, none⟩ ∧ base ≤ g ∧ g < w.heap.size ∧ l.length ≤ cap ∧ cap ≤ maxLen ∧
  ∀ (j : Nat) r, l[j]? = some r → ∃ s k, w.cell? ⟨g, j * 3, none⟩ = some (.int .i64 r.x) ∧ w.cell? ⟨g, j * 3 + 1, none⟩ = some (.int .i64 r.y) ∧ w.cell? ⟨g, j * 3 + 2, none⟩ = some (.slice s r.cells.length k)) := by
 obtain ⟨vs, hl, hr, hj, _⟩ := h
 have e2 : (l.zip vs).length = l.length := by rw [List.length_zip, hl, Nat.min_self]
 rcases hr.2 with ⟨rfl, h0⟩ | ⟨g, cap, cur, rfl, hg, hh, hc, hm, hs, ht⟩
 ·exact ⟨none, 0, by rw [h0], fun h => by omega⟩
 ·refine ⟨some ⟨g, 0, none⟩, cap, rfl, fun _ => ⟨g, rfl, hg, lt_of_block hh, hc, hm, fun j r hjr => ?_⟩⟩
  have hjl := (List.getElem?_eq_some_iff.1 hjr).1; obtain ⟨u, hu⟩ : ∃ u, vs[j]? = some u := ⟨_, List.getElem?_eq_getElem (by omega)⟩; obtain ⟨su, cu, rfl⟩ := own_slice (hj j u r hu hjr); have hz : (l.zip vs)[j]? = some (r, .slice su r.cells.length cu) := List.getElem?_zip_eq_some.2 ⟨hjr, hu⟩
  have key : ∀ i v, (encRn (r, .slice su r.cells.length cu))[i]? = some v → w.cell? ⟨g, j * 3 + i, none⟩ = some v := by
   intro i v hi
   have hil : i < 3 := (List.getElem?_eq_some_iff.1 hi).1
   have hp : ((l.zip vs).flatMap encRn)[j * 3 + i]? = some v := by
    rw [flat_get encRn_len (by omega), show (j * 3 + i) / 3 = j by omega, show (j * 3 + i) % 3 = i by omega, hz]; exact hi
   rw [← ht, List.getElem?_take, if_pos (by omega)] at hp; simp only [World.cell?, hh]
   simpa using hp
  exact ⟨su, cu, key 0 _ rfl, key 1 _ rfl, key 2 _ rfl⟩
theorem CutR.own {base n cap : Nat} {w : World} {s : Option Addr} {l : List Re} (h : OwnsR base w (.slice s n cap) l) (hn : l.length = n) : CutR base w (.slice s n cap) l := by
 unfold OwnsR at h; rw [hn] at h
 rcases h.2 with ⟨e, h0⟩ | ⟨g, cap', cur, e, h2, h3, h4, h5, h6, h7⟩
 ·injection e with e1 e2 e3
  subst e1 e3; subst h0; exact .inl ⟨rfl, List.length_eq_zero_iff.1 hn⟩
 ·injection e with e1 e2 e3
  subst e1 e3; exact .inr ⟨g, cap, cur, by rw [hn], h2, h3, by omega, h5, by rw [h6]; exact Nat.le_refl _, by rw [hn]; exact h7⟩
theorem FlsW.below {base b8 b9 b10 : Nat} {w w' : World} {f r l : List Re} (h : FlsW base b8 b9 b10 w f r l) (hb : Below w.heap.size w w') : FlsW base b8 b9 b10 w' f r l := by
 obtain ⟨vf, vr, vl, B8, B9, B10, Of, Or, Ol, a1, a2, a3⟩ := h; exact ⟨vf, vr, vl, B8.below hb B8.lt, B9.below hb B9.lt, B10.below hb B10.lt, Of.below hb lrr, Or.below hb lrr, Ol.below hb lrr, a1, a2, a3⟩
theorem fls_low {k : Nat} {form last row : List Re} (hl : LowK k last) (hr : LowK k row) (hlf : last.length ≤ form.length) : LowK (k + 1) (flsN last row) ∧ (flsN last row).length ≤ (flsF form last row).length ∧ (flsF form last row).length ≤ form.length + row.length := by
 refine ⟨?_, ?_, fls_len _ _ _⟩
 ·unfold flsN
  split
  ·exact hl.grow
  ·exact hr.up (by omega)
 ·unfold flsN flsF
  split
  ·rw [List.length_append, List.length_map]; omega
  ·rw [List.length_append]; omega
theorem ch_step {form last row : List Re} {l : List Rn} {k : Nat} {r : Rn} {X : List Re} (h : chGo form last row ((l.drop k).map recR) = X) (hr : l[k]? = some r) :
  (endB (recR r) ((l.drop (k + 1)).map recR) = true → chGo (flsF form last (row ++ [recR r])) (flsN last (row ++ [recR r])) [] ((l.drop (k + 1)).map recR) = X) ∧
  (endB (recR r) ((l.drop (k + 1)).map recR) = false → chGo form last (row ++ [recR r]) ((l.drop (k + 1)).map recR) = X) := by
 rw [drop_get hr, List.map_cons, chGo] at h
 constructor
 ·intro e
  rw [if_pos e] at h; exact h
 ·intro e
  rw [if_neg (by rw [e]; decide)] at h; exact h
theorem end_last {l : List Rn} {k : Nat} {r : Rn} (h : k + 1 = l.length) : endB (recR r) ((l.drop (k + 1)).map recR) = true := by
 rw [h, List.drop_length]
 rfl
theorem end_next {l : List Rn} {k : Nat} {r p : Rn} (h : l[k + 1]? = some p) : endB (recR r) ((l.drop (k + 1)).map recR) = !(p.y == r.y) := by
 rw [drop_get h]
 rfl
theorem flush_any (base b8 b9 b10 : Nat) (f r l : List Re) (w : World) (h : FlsW base b8 b9 b10 w f r l) (hb : base ≤ w.heap.size) (h8 : base ≤ b8) (h9 : base ≤ b9) (h10 : base ≤ b10) (d1 : b8 ≠ b9) (d2 : b8 ≠ b10) (d3 : b9 ≠ b10)
  (hf : f.length ≤ 1000000) (hr : r.length ≤ 1000000) (hl : l.length ≤ 1000000) (hL : LowR l) (hlf : l.length ≤ f.length) :
  Calls Tryz.prog 64 #[.pointer (some ⟨b10, 0, none⟩), .pointer (some ⟨b9, 0, none⟩), .pointer (some ⟨b8, 0, none⟩)] w fun e w' => e = .returned (.tuple #[]) ∧ FlsW base b8 b9 b10 w' (flsF f l r) [] (flsN l r) ∧ Below base w w' := by
 unfold flsF flsN
 cases ha : alkB l r
 ·rw [if_neg (by decide), if_neg (by decide)]
  exact flush_new base b8 b9 b10 f r l w h hb h8 h9 h10 d1 d2 d3 hf hr hl hL ha
 ·rw [if_pos rfl, if_pos rfl]
  exact flush_old base b8 b9 b10 f r l w h hb h8 h9 h10 d1 d2 d3 hf hr hl hL ha hlf
set_option maxRecDepth 100000 in
theorem changed_any (wa ha : Int) (xs : List Ce) (va : Value) (wb hb : Int) (ys : List Ce) (vb : Value) (w : World) (h1 : I64 wa) (h2 : I64 ha) (h3 : I64 wb) (h4 : I64 hb) (hl : Row w.heap.size 11 Ce.enc w va xs) (hl2 : Row w.heap.size 11 Ce.enc w vb ys) :
  Calls Tryz.prog 23 #[.agg #[.int .i64 (wa), .int .i64 (ha), va], .agg #[.int .i64 (wb), .int .i64 (hb), vb]] w (OutDm w.heap.size (chgE wa ha xs wb hb ys) (chgL wa ha xs wb hb ys) w) := by
 obtain ⟨iR, hr0, hr1, hr2, hr3⟩ := info_parts infoRe
 have RUN := fun W (h : Below w.heap.size w W) => cruns_any wa ha xs va wb hb ys vb W h1 h2 h3 h4 ((hl.below h).mono h.size) ((hl2.below h).mono h.size)
 obtain ⟨s0, cap, rfl, hmax⟩ := hl.shape; obtain ⟨s1, cap1, rfl, hmax1⟩ := hl2.shape; have hE0 : runsE wa ha xs wb hb ys = chgE wa ha xs wb hb ys := rfl
 have hbad : chgE wa ha xs wb hb ys ≠ 0 → chgL wa ha xs wb hb ys = [] := fun h => chg_bad h
 obtain ⟨f1, f2⟩ := chgF_ok (wa := wa) (ha := ha) (xs := xs) (wb := wb) (hb := hb) (ys := ys); obtain ⟨n1, n2⟩ := runs_bd (wa := wa) (ha := ha) (xs := xs) (wb := wb) (hb := hb) (ys := ys)
 have hL : chgL wa ha xs wb hb ys = if 1024 < (chgF wa ha xs wb hb ys).length then [abtR (chgF wa ha xs wb hb ys)] else chgF wa ha xs wb hb ys := rfl
 have hF : chgF wa ha xs wb hb ys = chGo [] [] [] ((runsL wa ha xs wb hb ys).map recR) := rfl; rw [hE0] at RUN; obtain ⟨E, hE⟩ := exx (chgE wa ha xs wb hb ys); obtain ⟨L, hLe⟩ := exx (chgL wa ha xs wb hb ys); obtain ⟨CF, hCF⟩ := exx (chgF wa ha xs wb hb ys); obtain ⟨RC, hRC⟩ := exx (runsL wa ha xs wb hb ys); rw [hE] at RUN hbad ⊢; rw [hRC] at RUN hF n1 n2; rw [hCF] at hL hF f1 f2; rw [hLe] at hL hbad ⊢; obtain ⟨N0, hN0⟩ := exx (xs.length); obtain ⟨N1, hN1⟩ := exx (ys.length); rw [hN0] at RUN ⊢; rw [hN1] at RUN ⊢; replace RUN := hdh RUN; replace hF := hdh hF; clear hE0 hE hLe hCF hRC hl hl2 hmax hmax1 h1 h2 h3 h4 hN0 hN1
 obtain ⟨n, hn⟩ := exx (RC.length); rw [hn] at n1
 have hmf : ∀ (fn : Fn) (first cap : Array Value) (w : World), (Instr.makeFunc fn first cap).run Tryz.prog w = .ok (.func fn first cap) w := fun _ _ _ _ => rfl
 go_enter Tryz.func23, Tryz.ntmps23
 go_upto_region 1 with fail
 obtain ⟨W, hW⟩ := exx ((w.alloc (.cells #[.int .i64 wa, .int .i64 ha, .slice s0 N0 cap] 40)).alloc (.cells #[.int .i64 wb, .int .i64 hb, .slice s1 N1 cap1] 40)); obtain ⟨b2, hb2⟩ := exx (w.heap.size)
 have B2 : Blk W b2 [.int .i64 wa, .int .i64 ha, .slice s0 N0 cap] 40 := by rw [← hW]; exact (Blk.new' hb2.symm).alloc _
 have B3 : Blk W (b2 + 1) [.int .i64 wb, .int .i64 hb, .slice s1 N1 cap1] 40 := by rw [← hW]; exact Blk.new' (by simp [hb2])
 have hbw : Below w.heap.size w W := by rw [← hW]; exact belt
 rw [hW, hb2]; clear hW; have q0 := B2.cell (o := 0) rfl; have q1 := B2.cell (o := 1) rfl; have q2 := B2.cell (o := 2) rfl; have p0 := B3.cell (o := 0) rfl; have p1 := B3.cell (o := 1) rfl; have p2 := B3.cell (o := 2) rfl; have yB2 := B2.lt; have yB3 := B3.lt; replace hb2 := hdh hb2
 go_upto_region 2 with (go_at_call 57; (with_reducible refine (RUN.out _ hbw).mono ?_); rintro e w1 ⟨hb1, v1, rfl, RR⟩)
 clear q0 q1 q2 p0 p1 p2 yB2 yB3 B2 B3 RUN; have hbw1 := hbw.trans (hb1.mono hbw.size); clear hbw hb1 hb2; have zw1 := hbw1.size
 by_cases hE0 : E = 0
 ·subst hE0
  obtain ⟨sv, cv, rfl, hop⟩ := RR.open_; rw [hn] at hop ⊢; replace hop := hdh hop; clear RR
  go_upto_region 6 with fail
  obtain ⟨W2, hW2⟩ := exx (((w1.alloc (.cells #[.slice none 0 0] 25)).alloc (.cells #[.slice none 0 0] 25)).alloc (.cells #[.slice none 0 0] 25)); obtain ⟨b8, hb8⟩ := exx (w1.heap.size)
  have B8 : Blk W2 b8 [.slice none 0 0] 25 := by rw [← hW2]; exact ((Blk.new' hb8.symm).alloc _).alloc _
  have B9 : Blk W2 (b8 + 1) [.slice none 0 0] 25 := by rw [← hW2]; exact (Blk.new' (by simp [hb8])).alloc _
  have B10 : Blk W2 (b8 + 1 + 1) [.slice none 0 0] 25 := by rw [← hW2]; exact Blk.new' (by simp [hb8])
  have hb2 : Below w1.heap.size w1 W2 := by rw [← hW2]; exact belt
  have FW : FlsW b8 b8 (b8 + 1) (b8 + 1 + 1) W2 [] [] [] := ⟨_, _, _, B8, B9, B10, OwnsR.nil _ _, OwnsR.nil _ _, OwnsR.nil _ _, Apart.none _ 0 0, Apart.none _ 0 0, Apart.none _ 0 0⟩; rw [hW2, hb8]; clear hW2 B8 B9 B10; have zb2 := hb2.size; rw [hb8] at hb2 zb2 zw1; have hbw2 : Below w.heap.size w W2 := hbw1.trans ((hb8 ▸ hb2 : Below w1.heap.size w1 W2).mono hbw1.size); replace hL := hdh hL; replace f1 := hdh f1; replace f2 := hdh f2; replace n2 := hdh n2; replace hn := hdh hn; replace hbw2 := hdh hbw2; replace hb8 := hdh hb8; clear hbad hbw1; go_wp2
  go_loopw [26] (fun iv wr => ∃ (k : Nat) (f l r : List Re), k ≤ n ∧ iv = .int .i64 k ∧ FlsW b8 b8 (b8 + 1) (b8 + 1 + 1) wr f r l ∧ Below b8 W2 wr ∧ Hid (chGo f l r ((RC.drop k).map recR) = CF) ∧ Hid (LowK k l ∧ LowK k r) ∧ f.length + r.length ≤ k ∧ l.length ≤ f.length) (fun iv _ => n - (intOf iv).toNat)
  case atStart => exact ⟨0, [], [], [], Nat.zero_le _, rfl, FW, Below.refl _ _, hdh (by rw [List.drop_zero]; exact hF.out.symm), hdh ⟨LowK.nil _, LowK.nil _⟩, Nat.le_refl _, Nat.le_refl _⟩
  case round =>
   clear FW hF; obtain ⟨k, f, l, r, hk, rfl, FW, hbr, hgo, hlow, hfr, hlf⟩ := hrel
   by_cases hkn : k < n
   ·obtain ⟨rn, hrn⟩ := get_at hn.out hkn
    obtain ⟨g, hsv, hg1, hg2, hcap, hcm, hel⟩ := hop.out (by omega); subst hsv
    have hgb : g < b8 := by have := hb8.out; omega
    have hb1r : Below b8 w1 wr := hb2.trans hbr; obtain ⟨su, cu, e0, e1, e2⟩ := hel k rn hrn; have e0 := (hb1r.cell (p := ⟨g, k * 3, none⟩) hgb).trans e0; have e1 := (hb1r.cell (p := ⟨g, k * 3 + 1, none⟩) hgb).trans e1; have e2 := (hb1r.cell (p := ⟨g, k * 3 + 2, none⟩) hgb).trans e2; have hy := n2.out rn (List.mem_of_getElem? hrn); have hst := ch_step hgo.out hrn
    have hen1 := fun h => end_last (l := RC) (k := k) (r := rn) h
    have hen2 := fun p (h : RC[k + 1]? = some p) => end_next (r := rn) h
    obtain ⟨x, y, cl⟩ := rn; simp only at e0 e1 e2 hy; obtain ⟨nu, hnu⟩ := exx (cl.length)
    have hq : recR ⟨x, y, cl⟩ = ⟨x, y, (nu : Int), 1⟩ := by rw [← hnu]; rfl
    rw [hq] at hst hen1 hen2; rw [hnu] at e2; clear hq hnu
    have hkk : (k : Int) < n := by omega
    have hko : ((k : Int) * 3).toNat = k * 3 := by omega
    replace hst := hdh hst; replace hen1 := hdh hen1; replace hen2 := hdh hen2; replace hel := hdh hel; replace hb1r := hdh hb1r
    go_upto_region 9 with fail
    clear e0 e1 e2; obtain ⟨W3, hW3⟩ := exx (wr.alloc (.cells #[.int .i64 x, .int .i64 y, .slice su nu cu] 112)); obtain ⟨b13, hb13⟩ := exx (wr.heap.size)
    have B13 : Blk W3 b13 [.int .i64 x, .int .i64 y, .slice su nu cu] 112 := by rw [← hW3]; exact Blk.new' hb13.symm
    have hb3 : Below wr.heap.size wr W3 := by rw [← hW3]; exact (Below.refl _ _).alloc lrr _
    rw [hW3, hb13]
    have hbb : b8 ≤ b13 := by have := hbr.size; omega
    clear hW3 hb13; have zbr := hbr.size; have hb3r := hbr.trans (hb3.mono (by omega)); have zb3 := hb3r.size; obtain ⟨vf, vr, vl, B8, B9, B10, Of, Or, Ol, a1, a2, a3⟩ := FW.below hb3; obtain ⟨sr, cr, hvr⟩ := own_slice Or; obtain ⟨nr, hnr⟩ := exx (r.length); rw [hnr] at hvr hfr; subst hvr; have n8 := ownsR_far Or B8 (by decide); have n9 := ownsR_far Or B9 (by decide); have n10 := ownsR_far Or B10 (by decide); have n13 := ownsR_far Or B13 (by decide)
    have m8 : b13 ≠ b8 := fun e => by subst e; unfold Blk at B8 B13; rw [B13] at B8; injection B8 with B8; injection B8 with _ B8; exact absurd B8 (by decide)
    have m9 : b13 ≠ b8 + 1 := fun e => by subst e; unfold Blk at B9 B13; rw [B13] at B9; injection B9 with B9; injection B9 with _ B9; exact absurd B9 (by decide)
    have Or' : W3.ownsRow b8 32 4 (.slice sr nr cr) nr (r.flatMap Re.enc) := by have h := Or; unfold OwnsR at h; rw [hnr] at h; exact h
    have k0 := B9.cell (o := 0) rfl; have d0 := B13.cell (o := 0) rfl; have d1 := B13.cell (o := 1) rfl; have d2 := B13.cell (o := 2) rfl; have y9 := B9.lt; have y13 := B13.lt; replace hnr := hdh hnr; replace Or' := hdh Or'; have RW : Row (W3.alloc (.cells #[.int .i64 x, .int .i64 y, .int .i64 nu, .int .i64 1] 32)).heap.size 4 Re.enc (W3.alloc (.cells #[.int .i64 x, .int .i64 y, .int .i64 nu, .int .i64 1] 32)) (.slice (some ⟨W3.heap.size, 0, none⟩) 1 1) [⟨x, y, (nu : Int), 1⟩] := Blk.row (xs := [(⟨x, y, (nu : Int), 1⟩ : Re)]) Re.enc_len (Blk.new' rfl) rfl (by simp) (by unfold maxLen; simp) (by simp)
    replace RW := hdh RW
    have zz13 : b8 ≤ (W3.alloc (.cells #[.int .i64 x, .int .i64 y, .int .i64 nu, .int .i64 1] 32)).heap.size := by rw [World.size_alloc]; omega
    go_upto_region 10 with (first
     | ((at_builtin; refine wpList_append_rowA rfl _ _ _ rfl b8 32 iR _ 4 32 Tryz.underlying25 hr0 hr1 hr2 hr3 rfl (by omega) _ _ _ _ (by rfl) (Or'.out.alloc _) Re.enc_len Re.enc_one _ _ [⟨x, y, (nu : Int), 1⟩] RW.out (by rfl) (by unfold maxLen; simp only [List.length_cons, List.length_nil]; omega) (by simp only [List.length_cons, List.length_nil]; omega) zz13 ?_; intro v6 w6 hown6 hgr6 hat6); obtain ⟨s6, c6, hv6⟩ := own_slice hown6; subst hv6; have G9 := (B9.alloc _).keep hgr6 n9; have jf := G9.free; have j0 := G9.cell (o := 0) rfl)
     | go_in)
    obtain ⟨W4, hW4⟩ := exx (W3.alloc (.cells #[.int .i64 x, .int .i64 y, .int .i64 nu, .int .i64 1] 32))
    have hb4 : Below W3.heap.size W3 W4 := by rw [← hW4]; exact (Below.refl _ _).alloc lrr _
    rw [hW4] at hgr6 hat6; clear RW zz13 jf j0 G9; simp only [List.length_cons, List.length_nil, Nat.zero_add] at hown6 hat6 ⊢; obtain ⟨q, hq⟩ : ∃ q : Re, (⟨x, y, (nu : Int), 1⟩ : Re) = q := ⟨_, rfl⟩
    have hqy : q.y = y := by rw [← hq]
    have hqh : q.ht = 1 := by rw [← hq]
    rw [hq] at hown6 hst hen1 hen2; have z34 := hb4.size; have C8 := (B8.below hb4 B8.lt).keep hgr6 n8; have C9 := (B9.below hb4 y9).keep hgr6 n9; have C10 := (B10.below hb4 B10.lt).keep hgr6 n10; have C13 := (B13.below hb4 y13).keep hgr6 n13; have Of6 : OwnsR b8 w6 vf f := own_keep (Of.below hb4 lrr) hgr6 (fun g h1 h2 => a1 g h1 h2); have Ol6 : OwnsR b8 w6 vl l := own_keep (Ol.below hb4 lrr) hgr6 (fun g h1 h2 => a3 g h2 h1)
    have Or6 : OwnsR b8 w6 (.slice s6 (nr + 1) c6) (r ++ [q]) := by
     unfold OwnsR; rw [List.length_append, hnr.out, List.flatMap_append]; exact hown6
    have ap1 : Apart vf (.slice s6 (nr + 1) c6) := fun g h1 h2 => by
     rcases hat6 g h2 with h | h
     ·exact a1 g h1 h
     ·have := (own_in Of g h1).2
      omega
    have ap3 : Apart (.slice s6 (nr + 1) c6) vl := fun g h1 h2 => by
     rcases hat6 g h1 with h | h
     ·exact a3 g h h2
     ·have := (own_in Ol g h2).2
      omega
    have f2' := ownsR_far Of6 C9 (by decide); have r2' := ownsR_far Or6 C9 (by decide); have l2' := ownsR_far Ol6 C9 (by decide)
    have S1 : ∀ {W : World} {v : Value} {l : List Re} {b : Nat}, OwnsR b8 W v l → v.ownBlock ≠ some b → ∀ u, OwnsR b8 (W.setCell ⟨b, 0, none⟩ u) v l := fun h hn u => own_other h (fun g hg he => hn (by rw [hg]; exact congrArg some he)) u
    have hb6 : Below b8 W2 w6 := (hb3r.trans (hb4.mono (by omega))).grown hgr6 (by omega) (fun g hg => (own_in Or g hg).1); have H8 := C8.set_ne (a := ⟨b8 + 1, 0, none⟩) (by show b8 ≠ b8 + 1; omega) (.slice s6 (nr + 1) c6); have H9 := C9.set 0 (.slice s6 (nr + 1) c6); have H10 := C10.set_ne (a := ⟨b8 + 1, 0, none⟩) (by show b8 + 1 + 1 ≠ b8 + 1; omega) (.slice s6 (nr + 1) c6); have H13 := C13.set_ne (a := ⟨b8 + 1, 0, none⟩) m9 (.slice s6 (nr + 1) c6); have Of7 := S1 Of6 f2' (.slice s6 (nr + 1) c6); have Or7 := S1 Or6 r2' (.slice s6 (nr + 1) c6); have Ol7 := S1 Ol6 l2' (.slice s6 (nr + 1) c6); have hb7 := hb6.setCell (p := ⟨b8 + 1, 0, none⟩) (by show b8 ≤ b8 + 1; omega) (.slice s6 (nr + 1) c6)
    clear C8 C9 C10 C13 Of6 Or6 Ol6 hb6 hown6 hgr6 hat6 Of Or Ol Or' B8 B9 B10 B13 k0 d0 d1 d2 y9 y13 f2' r2' l2' n8 n9 n10 n13 a1 a3 hb4 hb3 hb3r zb3 hW4 S1 z34 hq FW; generalize w6.setCell ⟨b8 + 1, 0, none⟩ (.slice s6 (nr + 1) c6) = W7 at H8 H9 H10 H13 Of7 Or7 Ol7 hb7 ⊢; have FW7 : FlsW b8 b8 (b8 + 1) (b8 + 1 + 1) W7 f (r ++ [q]) l := ⟨_, _, _, H8, H9, H10, Of7, Or7, Ol7, ap1, a2, ap3⟩; clear H8 H9 H10 Of7 Or7 Ol7 ap1 ap3 a2; have d1 := H13.cell (o := 1) rfl; have y13 := H13.lt; have zb7 := hb7.size; have hlo := hlow.out; have hr1 : LowK k (r ++ [q]) := LowK.snoc hlo.2 (by rw [hqy]; exact hy) hqh
    obtain ⟨t1, t2, t3⟩ := fls_low hlo.1 hr1 hlf
    have hrl : (r ++ [q]).length = nr + 1 := by rw [List.length_append, hnr.out]; rfl
    have hlR : LowR l := hlo.1.low (by omega); rw [hrl] at t3; replace FW7 := hdh FW7; replace t1 := hdh t1; replace t2 := hdh t2; replace t3 := hdh t3; replace hr1 := hdh hr1; replace hlR := hdh hlR; replace hrl := hdh hrl
    by_cases hl1 : k + 1 = n
    ·have hE := hen1.out (by rw [hn.out]; exact hl1)
     have hgo1 := hdh (hst.out.1 hE)
     have hk1 : ((k : Int) + 1 = n) := by omega
     have hk2 : ((k : Int) + 1 == (n : Int)) = true := by rw [hk1]; simp
     clear hen1 hen2 hst hel hE hlo; refine rst (Held W7 0 []) ?_
     repeat (first | (refine' sdo ?_; simp only [pu]) | (refine spa ?_; simp only [pu]))
     refine wpSteady_nil (fun uA hSA => ?_); obtain ⟨hcA, hbA, hzA, hcoA, hfoA⟩ := hall hSA; clear hSA; simp only [Cells] at hcA; have FL := flush_any b8 b8 (b8 + 1) (b8 + 1 + 1) f (r ++ [q]) l uA (FW7.out.below hbA) (by omega) lrr (by omega) (by omega) (by omega) (by omega) (by omega) (by omega) (by rw [hrl.out]; omega) (by omega) hlR.out hlf; replace FL := hdh FL; clear FW7 hlR hr1
     go_upto_region 12 with (go_at_call 64; (with_reducible refine FL.out.mono ?_); rintro e w9 ⟨rfl, FW9, hb9⟩)
     have hb79 := (hb7.trans (hbA.mono (by omega))).trans hb9; replace FW9 := hdh FW9; clear FL hb9; go_wp2; go_roundw
     case rel => exact ⟨k + 1, _, _, [], by omega, by go_num, FW9.out, hb79, hgo1, hdh ⟨t1.out, LowK.nil _⟩, by have := t3.out; simp only [List.length_nil]; omega, t2.out⟩
     case measure => simp [intOf]; omega
    ·have hk1 : ¬ ((k : Int) + 1 = n) := by omega
     have hk2 : ((k : Int) + 1 == (n : Int)) = false := by simpa using hk1
     obtain ⟨p, hp⟩ := get_at hn.out (show k + 1 < n by omega); have hE := hen2.out p hp; obtain ⟨sp, cp, _, e3, _⟩ := hel.out (k + 1) p hp; have e3 := ((hb2.trans hb7).cell (p := ⟨g, (k + 1) * 3 + 1, none⟩) hgb).trans e3
     have hk3 : (k : Int) + 1 < n := by omega
     have yg : g < W7.heap.size := by omega
     obtain ⟨px, py, pc⟩ := p; simp only at e3 hE; clear hen1 hen2 hel hlo hp
     by_cases hpy : py = y
     ·subst hpy
      have hgo1 := hdh (hst.out.2 (by rw [hE]; simp))
      have hy2 : (py != py) = false := by simp
      clear hst hE; refine rst (Held W7 0 []) ?_
      repeat (first | (refine' sdo ?_; simp only [pu]) | (refine spa ?_; simp only [pu]))
      refine wpSteady_nil (fun uA hSA => ?_); obtain ⟨hcA, hbA, hzA, hcoA, hfoA⟩ := hall hSA; clear hSA; simp only [Cells] at hcA; have FW8 := hdh (FW7.out.below hbA); clear FW7 t1 t2 t3 hlR; go_wp2; go_roundw
      case rel => exact ⟨k + 1, f, l, r ++ [q], by omega, by go_num, FW8.out, hb7.trans (hbA.mono (by omega)), hgo1, hdh ⟨hlow.out.1.up (by omega), hr1.out.up (by omega)⟩, by rw [hrl.out]; omega, hlf⟩
      case measure => simp [intOf]; omega
     ·have hgo1 := hdh (hst.out.1 (by rw [hE]; simpa using hpy))
      have hy2 : (py != y) = true := by simpa using hpy
      clear hst hE; refine rst (Held W7 0 []) ?_
      repeat (first | (refine' sdo ?_; simp only [pu]) | (refine spa ?_; simp only [pu]))
      refine wpSteady_nil (fun uA hSA => ?_); obtain ⟨hcA, hbA, hzA, hcoA, hfoA⟩ := hall hSA; clear hSA; simp only [Cells] at hcA; have FL := flush_any b8 b8 (b8 + 1) (b8 + 1 + 1) f (r ++ [q]) l uA (FW7.out.below hbA) (by omega) lrr (by omega) (by omega) (by omega) (by omega) (by omega) (by omega) (by rw [hrl.out]; omega) (by omega) hlR.out hlf; replace FL := hdh FL; clear FW7 hlR hr1
      go_upto_region 12 with (go_at_call 64; (with_reducible refine FL.out.mono ?_); rintro e w9 ⟨rfl, FW9, hb9⟩)
      have hb79 := (hb7.trans (hbA.mono (by omega))).trans hb9; replace FW9 := hdh FW9; clear FL hb9; go_wp2; go_roundw
      case rel => exact ⟨k + 1, _, _, [], by omega, by go_num, FW9.out, hb79, hgo1, hdh ⟨t1.out, LowK.nil _⟩, by have := t3.out; simp only [List.length_nil]; omega, t2.out⟩
      case measure => simp [intOf]; omega
   ·obtain rfl : k = n := by omega
    have hfe : f = CF := by
     have h := hgo.out; rw [List.drop_of_length_le (by rw [hn.out]; exact Nat.le_refl _)] at h; exact h
    subst hfe; obtain ⟨vf, vr, vl, B8, B9, B10, Of, _, _, _, _, _⟩ := FW; obtain ⟨sf, cf, hvf⟩ := own_slice Of; obtain ⟨nf, hnf⟩ := exx (f.length); rw [hnf] at hvf hfr; subst hvf; have k0 := B8.cell (o := 0) rfl; have hbW := hbw2.out.trans (hbr.mono zw1)
    have hkk : ¬ (k : Int) < k := by omega
    have zr := hbr.size
    by_cases h1024 : 1024 < nf
    ·have hi : (1024 : Int) < nf := by omega
     have AB := about_any f (.slice sf nf cf) wr (Of.row lrr) f1.out f2.out (by omega)
     have hLe : L = [abtR f] := by rw [hL.out, if_pos (by rw [hnf]; exact h1024)]
     subst hLe; replace AB := hdh AB; clear hL hgo hlow hnf Of hop B9 B10
     go_wp2_with (go_at_call 66; (with_reducible refine AB.out.mono ?_); rintro e w5 ⟨hb5, v5, rfl, O5⟩)
     go_ret2; exact ⟨hbW.trans (hb5.mono hbW.size), _, rfl, O5.less hbW.size⟩
    ·have hi : ¬ (1024 : Int) < nf := by omega
     have hLe : L = f := by rw [hL.out, if_neg (by rw [hnf]; exact h1024)]
     subst hLe; replace Of := hdh Of; replace hnf := hdh hnf; clear hL hgo hlow hop B9 B10; go_wp2; go_ret2; exact ⟨hbW, _, rfl, (CutR.own Of.out hnf.out).less zw1⟩
 ·have e1 : (E != 0) = true := by simpa using hE0
  have hL0 := hbad hE0; clear hL hF f1 f2 n1 n2 hbad hE0 RR hn hmf; subst hL0; go_wp2; go_ret2; exact ⟨hbw1, _, rfl, CutR.nil _ _⟩
end Go.Proofs.YtfcphagmjijmkaaGreatDoor
