/-
  XGd: XRegBa XRegBb XRegBc XRegBd XRegBe.
-/
import Derived.Test.YtfcphagmjijmkaaGreatDoorDd8
namespace Go.Proofs.YtfcphagmjijmkaaGreatDoor
open Go.RowKit
set_option linter.unusedVariables false
set_option linter.unusedSimpArgs false
attribute [local go_sem] vwp vUpon_value vUpon_skip vUpon_enter vUpon_row
set_option maxHeartbeats 16000000
section
structure Kept (c : Nat) (gb : Option Nat) (w w' : World) : Prop where
 os : w'.os = w.os
 tape : w'.tape = w.tape
 output : w'.output = w.output
 size : w.heap.size ≤ w'.heap.size
 block : ∀ k, k < w.heap.size → k ≠ c → gb ≠ some k → w'.heap[k]? = w.heap[k]?
theorem Kept.of {c : Nat} {gb : Option Nat} {w w' : World} (h : Below w.heap.size w w') : Kept c gb w w' := ⟨h.os, h.tape, h.output, h.size, fun k hk _ _ => h.block k hk⟩
theorem Kept.trans {c : Nat} {g1 g2 : Option Nat} {a b d : World} (h : Kept c g1 a b) (k : Kept c g2 b d) (hg : ∀ x, g2 = some x → g1 = some x ∨ a.heap.size ≤ x) : Kept c g1 a d :=
 ⟨k.os.trans h.os, k.tape.trans h.tape, k.output.trans h.output, Nat.le_trans h.size k.size, fun x hx hc hg1 => by
  rw [k.block x (Nat.lt_of_lt_of_le hx h.size) hc (fun e => by rcases hg x e with h' | h'; exact hg1 h'; omega)]
  exact h.block x hx hc hg1⟩
theorem Kept.below {c B : Nat} {gb : Option Nat} {w w' : World} (h : Kept c gb w w') (hc : B ≤ c) (hB : B ≤ w.heap.size) (hg : ∀ k, gb = some k → B ≤ k) : Below B w w' :=
 ⟨h.os, h.tape, h.output, h.size, fun k hk => h.block k (by omega) (by omega) (fun e => by have := hg k e; omega)⟩
def RowX {α : Type} (c : Nat) (gb : Option Nat) (sz : Nat) (enc : α → List Value) (w : World) (v : Value) (l : List α) : Prop := Row w.heap.size sz enc w v l ∧ (0 < l.length → ∀ b, v.ownBlock = some b → b ≠ c ∧ gb ≠ some b)
theorem RowX.kept {α : Type} {c sz : Nat} {gb gb' : Option Nat} {enc : α → List Value} {w w' : World} {v : Value} {l : List α} (h : RowX c gb sz enc w v l) (hk : Kept c gb w w') (hg : ∀ k, gb' = some k → gb = some k ∨ w.heap.size ≤ k) : RowX c gb' sz enc w' v l := by
 obtain ⟨⟨s, cap, rfl, hl, hc, hx⟩, h2⟩ := h
 constructor
 ·refine ⟨s, cap, rfl, hl, hc, fun h0 => ?_⟩
  obtain ⟨b, o, rfl, hlt, hx⟩ := hx h0; obtain ⟨n1, n2⟩ := h2 h0 b rfl; refine ⟨b, o, rfl, Nat.lt_of_lt_of_le hlt hk.size, fun j x hj i u hi => ?_⟩; rw [cell_block (hk.block b hlt n1 n2)]; exact hx j x hj i u hi
 ·intro h0 b hb
  obtain ⟨b', o, rfl, hlt, _⟩ := hx h0; obtain ⟨n1, n2⟩ := h2 h0 b' rfl
  simp [Value.ownBlock] at hb
  subst hb; refine ⟨n1, fun e => ?_⟩
  rcases hg _ e with h | h
  ·exact n2 h
  ·omega
theorem RowX.stay {α : Type} {c sz : Nat} {gb : Option Nat} {enc : α → List Value} {w w' : World} {v : Value} {l : List α} (h : RowX c gb sz enc w v l) (hb : Below w.heap.size w w') : RowX c gb sz enc w' v l := h.kept (Kept.of hb) (fun k hk => .inl hk)
theorem RowX.new {α : Type} {c sz B : Nat} {gb : Option Nat} {enc : α → List Value} {w : World} {e : TypeId} {v : Value} {l : List α} (he : ∀ x, (enc x).length = sz) (hsz : 0 < sz) (h : w.ownsRow B e sz v l.length (l.flatMap enc)) (hc : c < B) (hg : ∀ k, gb = some k → k < B) : RowX c gb sz enc w v l := by
 refine ⟨Row.own he h lrr hsz, fun _ b hb => ?_⟩; have := (own_in h b hb).1; exact ⟨by omega, fun e => by have := hg b e; omega⟩
theorem RowX.nil {α : Type} (c sz : Nat) (gb : Option Nat) (enc : α → List Value) (w : World) : RowX c gb sz enc w (.slice none 0 0) [] :=
 ⟨⟨none, 0, rfl, by simp, by unfold maxLen; omega, fun h => by simp at h⟩, fun h => by simp at h⟩
def runM (more : List Bd → Bool) : List Bd → List Bd → List Bd
 | d, [] => d
 | d, t :: r => if more (d ++ [t]) then runM more (d ++ [t]) r else d ++ [t]
structure Band (fb : Nat) (cb : Array Value) (c B0 : Nat) (more : List Bd → Bool) (R : List Bd) (I : List Bd → Option Nat → World → Prop) : Prop where
 enters : ∀ args w, (callFunc fb args).run Tryz.prog w = .ok (.enter fb args) w
 le : B0 ≤ c
 first : more [] = true
 at_ : ∀ {d g w}, I d g w → c < w.heap.size ∧ ∀ k, g = some k → B0 ≤ k ∧ k < w.heap.size
 stay : ∀ {d g w w'}, I d g w → Below w.heap.size w w' → I d g w'
 call : ∀ {d g w} (y h : Int) (vl : Value) (l : List Sp), I d g w → RowX c g 2 encS w vl l → more d = true → InM y → InM (y + h) → 0 < h → CanS l → (∀ s ∈ l, InM s.1 ∧ InM s.2) → l.length ≤ 200000 → (∃ r, runM more d ((y, h, l) :: r) = R) →
  Calls Tryz.prog fb (#[.int .i64 y, .int .i64 h, vl] ++ cb) w fun e w' => ∃ g', e = .returned (.bool (more (d ++ [(y, h, l)]))) ∧ I (d ++ [(y, h, l)]) g' w' ∧ Kept c g w w' ∧ ∀ k, g' = some k → g = some k ∨ w.heap.size ≤ k
def BandsPost (B0 : Nat) (I : List Bd → Option Nat → World → Prop) (R : List Bd) (w : World) (e : Ending) (w' : World) : Prop := e = .returned (.tuple #[]) ∧ Below B0 w w' ∧ ∃ g, I R g w'
/-! ### the rows one after another -/
theorem rise_lt : ∀ {l : List Int}, Rise l → ∀ {i j : Nat} {a b : Int}, i < j → l[i]? = some a → l[j]? = some b → a < b
 | [], _, i, j, a, b, _, h, _ => by simp at h
 | x :: l, hr, i, j, a, b, hij, h1, h2 => by
  obtain ⟨j, rfl⟩ : ∃ k, j = k + 1 := ⟨j - 1, by omega⟩
  cases i with
  | zero =>
   simp at h1 h2
   subst h1; exact hr.above b (List.mem_of_getElem? h2)
  | succ i =>
   simp at h1 h2
   exact rise_lt hr.tail (i := i) (j := j) (by omega) h1 h2
theorem run_step {more : List Bd → Bool} {now : Int → List Sp} {last : List Sp} {frm y : Int} {d : List Bd} {X : List Int} {i : Nat} {z : Int} (h1 : X[i]? = some y) (h2 : X[i + 1]? = some z) :
  runM more d (bandGo now last frm (X.drop i)) = if now y = last then runM more d (bandGo now last frm (X.drop (i + 1))) else runM more d ((if last = [] then [] else [(frm, y - frm, last)]) ++ bandGo now (now y) y (X.drop (i + 1))) := by
 rw [drop_get h1, drop_get h2]
 show runM more d (if now y = last then bandGo now last frm (z :: X.drop (i + 1 + 1)) else _) = _
 split <;> rfl
theorem run_last {more : List Bd → Bool} {now : Int → List Sp} {last : List Sp} {frm y : Int} {d : List Bd} {X : List Int} {i : Nat} (h1 : X[i]? = some y) (h2 : X.length ≤ i + 1) :
  runM more d (bandGo now last frm (X.drop i)) = if last = [] then d else d ++ [(frm, y - frm, last)] := by
 rw [drop_get h1, List.drop_eq_nil_of_le h2]
 show runM more d (if last = [] then [] else [(frm, y - frm, last)]) = _
 split
 ·rfl
 ·unfold runM
  split <;> rfl
theorem run_end {more : List Bd → Bool} {now : Int → List Sp} {last : List Sp} {frm y : Int} {d : List Bd} {X : List Int} {i : Nat} (h1 : X[i]? = some y) (h2 : X.length ≤ i + 1) (hl : last ≠ []) :
  runM more d (bandGo now last frm (X.drop i)) = runM more d [(frm, y - frm, last)] := by
 rw [drop_get h1, List.drop_eq_nil_of_le h2]
 show runM more d (if last = [] then [] else [(frm, y - frm, last)]) = _
 rw [if_neg hl]
theorem spans_len2 {a b : List Re} (ha : Sane a) (hb : Sane b) (what y : Int) : (spansP a b what y).length ≤ a.length + b.length := by
 have := spans_len ha hb what y; have h2 : actN (a ++ b) y ≤ (a ++ b).length := List.countP_le_length; rw [List.length_append] at h2; omega
theorem mixP_spans {a b : List Re} (ha : Sane a) (hb : Sane b) (what y : Int) : mixP (spansP a [] 1 y) (spansP b [] 1 y) what = spansP a b what y := by
 obtain ⟨_, h1⟩ := spans_spec ha sane_nil 1 y; obtain ⟨_, h2⟩ := spans_spec hb sane_nil 1 y; obtain ⟨o1, o2⟩ := onceI_spec (endsS (spansP a [] 1 y) ++ endsS (spansP b [] 1 y)); exact mixed_eq ha hb (fun x => by rw [h1, kept_one]) (fun x => by rw [h2, kept_one]) o1 o2
theorem spans_can {a b : List Re} (ha : Sane a) (hb : Sane b) (what y : Int) : CanS (spansP a b what y) := (spans_spec ha hb what y).1
end
section
structure BLoop (a b : List Re) (what : Int) (c : Nat) (more : List Bd → Bool) (R : List Bd) (X : List Int) (i : Nat) (last : List Sp) (frm : Int) (d : List Bd) : Prop where
 run : runM more d (bandGo (fun y => spansP a b what y) last frm (X.drop i)) = R
 more_ : more d = true
 from_ : last ≠ [] → InM frm ∧ ∃ j, j < i ∧ X[j]? = some frm
 row_ : last = [] ∨ ∃ y, last = spansP a b what y
 in_ : i < X.length ∨ last = []
set_option maxRecDepth 100000 in
theorem bands_any (a b : List Re) (va vb : Value) (what : Int) (fw fb c B0 : Nat) (cb : Array Value) (more : List Bd → Bool) (I : List Bd → Option Nat → World → Prop) (g0 : Option Nat) (w : World)
  (ha : Row B0 4 Re.enc w va a) (hb : Row B0 4 Re.enc w vb b) (ma : MayL a) (mb : MayL b) (la : a.length ≤ 100000) (lb : b.length ≤ 100000) (hB : B0 ≤ w.heap.size)
  (eg : ∀ args w, (callFunc fw args).run Tryz.prog w = .ok (.enter fw args) w) (hw : ∀ a b w, Calls Tryz.prog fw #[.bool a, .bool b] w fun e w' => e = .returned (.bool (wantB what a b)) ∧ Below w.heap.size w w')
  (BD : Band fb cb c B0 more (runM more [] (bandsP a b what)) I) (hI : I [] g0 w) :
  Calls Tryz.prog 179 #[va, vb, .func (.func fw) #[] #[], .func (.func fb) #[] cb] w (BandsPost B0 I (runM more [] (bandsP a b what)) w) := by
 have egb := BD.enters; have hBc := BD.le; obtain ⟨R, hR⟩ := exx (runM more [] (bandsP a b what)); rw [hR] at BD ⊢
 have RW := fun w1 (h : Below w.heap.size w w1) => rows_any [(va, a), (vb, b)] w.heap.size 2 w1 lrr
 have RA := fun y (hy : InM y) W (h : Below B0 w W) => row_any a y va W ((ha.below h).mono (Nat.le_trans hB h.size)) ma la hy
 have RB := fun y (hy : InM y) W (h : Below B0 w W) => row_any b y vb W ((hb.below h).mono (Nat.le_trans hB h.size)) mb lb hy
 have MX := fun y W v1 v2 (h1 : Row W.heap.size 2 encS W v1 (spansP a [] 1 y)) (h2 : Row W.heap.size 2 encS W v2 (spansP b [] 1 y)) => mixed_any (spansP a [] 1 y) (spansP b [] 1 y) v1 v2 what fw W h1 h2 (spans_can ma.sane sane_nil 1 y) (spans_can mb.sane sane_nil 1 y) (spans_in ma mayL_nil 1 y) (spans_in mb mayL_nil 1 y) (by have := spans_len2 ma.sane sane_nil 1 y; simp at this; omega) (by have := spans_len2 mb.sane sane_nil 1 y; simp at this; omega) eg hw
 unfold MixPost at MX; simp only [mixP_spans ma.sane mb.sane] at MX; obtain ⟨s1, c1, rfl, hmax1⟩ := ha.shape; obtain ⟨s2, c2, rfl, hmax2⟩ := hb.shape
 have RW2 : Calls Tryz.prog 209 #[.slice (some ⟨w.heap.size, 0, none⟩) 2 2] (w.alloc (.cells #[.slice s1 a.length c1, .slice s2 b.length c2] 25)) (RowsPost (edgesY a b) (w.alloc (.cells #[.slice s1 a.length c1, .slice s2 b.length c2] 25))) := by
  have hal : Below w.heap.size w (w.alloc (.cells #[.slice s1 a.length c1, .slice s2 b.length c2] 25)) := (Below.refl _ _).alloc lrr _; have := RW _ hal ⟨rfl, by simp, fun i p hp => ?_⟩ (fun p hp => ?_)
  ·rw [show sndL [(Value.slice s1 a.length c1, a), (Value.slice s2 b.length c2, b)] = [a, b] from rfl, ys_two] at this
   exact this
  ·match i, hp with
   | 0, hp =>
    simp at hp
    subst hp; exact ⟨by rw [World.cell?_alloc_at _ _ _ _ rfl]; rfl, (ha.below (hal.mono hB)).mono (by simp; omega), fun q hq => may_wf (ma q hq)⟩
   | 1, hp =>
    simp at hp
    subst hp; exact ⟨by rw [World.cell?_alloc_at _ _ _ _ rfl]; rfl, (hb.below (hal.mono hB)).mono (by simp; omega), fun q hq => may_wf (mb q hq)⟩
   | i + 2, hp => simp at hp
  ·simp at hp
   rcases hp with rfl | rfl
   ·exact ⟨ma, la⟩
   ·exact ⟨mb, lb⟩
 obtain ⟨X, hX⟩ := exx (edgesY a b); rw [hX] at RW2
 have hXl : X.length ≤ 400000 := by
  have h1 := ysL_len [(Value.slice s1 a.length c1, a), (Value.slice s2 b.length c2, b)] (fun p hp => by
   simp at hp
   rcases hp with rfl | rfl
   ·exact la
   ·exact lb)
  have h2 := onceI_len (ysL [a, b]); rw [ys_two, hX] at h2; rw [show sndL [(Value.slice s1 a.length c1, a), (Value.slice s2 b.length c2, b)] = [a, b] from rfl] at h1; simp only [List.length_cons, List.length_nil] at h1; omega
 have hXr : Rise X := by rw [← hX]; exact edgesY_rise a b
 have hXin : ∀ x ∈ X, InM x := by rw [← hX]; exact edgesY_in ma mb
 have hst : BLoop a b what c more R X 0 [] 0 [] := ⟨by rw [List.drop_zero, ← hX]; exact hR, BD.first, fun h => absurd rfl h, .inl rfl, .inr rfl⟩; obtain ⟨hcw, hg0⟩ := BD.at_ hI
 have hSC := fun y => spans_can ma.sane mb.sane what y
 have hSI := fun y => spans_in ma mb what y
 have hSL : ∀ y, (spansP a b what y).length ≤ 200000 := fun y => by have := spans_len2 ma.sane mb.sane what y; omega
 clear RW hX hR ha hb; replace RA := hdh RA; replace RB := hdh RB; replace MX := hdh MX; replace RW2 := hdh RW2; replace BD := hdh BD; replace hXr := hdh hXr; replace hXin := hdh hXin; replace hst := hdh hst; replace hSC := hdh hSC; replace hSI := hdh hSI; replace hSL := hdh hSL; replace hw := hdh hw; replace hI := hdh hI
 go_enter Tryz.func179, Tryz.ntmps179
 go_wp2_with (first
  | (go_at_call 209; (with_reducible refine (RW2.out).mono ?_); rintro e w4 ⟨hb4, v4, rfl, ow4⟩)
  | go_in)
 have hb04 : Below w.heap.size w w4 := ((Below.refl _ _).alloc lrr _).trans (hb4.mono (by simp)); have hI4 := BD.out.stay hI.out hb04; have hY := RowX.new (c := c) (gb := g0) (enc := encI) (sz := 1) encI_len (by omega) ow4 (by simp; omega) (fun k hk => by have := (hg0 k hk).2; simp; omega); obtain ⟨s4, c4, rfl⟩ := own_slice ow4; obtain ⟨L, hL⟩ := exx (X.length); rw [hL] at hY hXl ⊢; have hBB := hb04.mono hB; replace hL := hdh hL; clear hb4 ow4
 go_loopw [9, 10, 11] (fun lv fv iv wr => ∃ (i : Nat) (last : List Sp) (frm : Int) (d : List Bd) (g : Option Nat), i ≤ L ∧ iv = .int .i64 i ∧ fv = .int .i64 frm ∧ Hid (BLoop a b what c more R X i last frm d) ∧ Hid (RowX c g 2 encS wr lv last) ∧ Hid (RowX c g 1 encI wr (.slice s4 L c4) X) ∧ Hid (I d g wr) ∧ Below B0 w wr) (fun _ _ iv _ => L - (intOf iv).toNat)
 case atStart => exact ⟨0, [], 0, [], g0, Nat.zero_le _, rfl, rfl, hst, hdh (RowX.nil _ _ _ _ _), hdh hY, hdh hI4, hBB⟩
 case round =>
  obtain ⟨i, last, frm, d, g, hi, rfl, rfl, hbl, hlast, hys, hIr, hbr⟩ := hrel; clear hst hI hI4 hY hBB hb04 hg0; have zr := hbr.size; have zB := Nat.le_trans hB zr; obtain ⟨sl, cl, rfl, hlm⟩ := hlast.out.1.shape; obtain ⟨hcr, hgr⟩ := BD.out.at_ hIr.out; obtain ⟨q, hq⟩ := exx (last.length)
  have hql : q ≤ 200000 := by
   rw [← hq]
   rcases hbl.out.row_ with h | ⟨y, h⟩
   ·rw [h]; simp
   ·rw [h]; exact hSL.out y
  rw [hq] at hlm hlast ⊢; replace hq := hdh hq; replace hgr := hdh hgr
  by_cases hiL : i + 1 < L
  ·have hopen := row_in hys.out.1
   rw [hL.out] at hopen; obtain ⟨b', o, cap', e, hb', _, _, hel⟩ := hopen (by omega)
   simp at e
   obtain ⟨rfl, rfl⟩ := e; obtain ⟨y, hy⟩ := get_at hL.out (show i < L by omega); obtain ⟨z, hz⟩ := get_at hL.out hiL; have g0 := hel i y hy; have g1 := hel (i + 1) z hz; have hyin := hXin.out y (List.mem_of_getElem? hy); obtain ⟨y0, y1⟩ := id hyin; have hrun := hbl.out.run; rw [run_step hy hz] at hrun; have RA := hdh (RA.out y hyin); have RB := hdh (RB.out y hyin); have MX := hdh (MX.out y); have hNC := hSC.out y; have hNI := hSI.out y; have hNL := hSL.out y; have hyh := hdh hy
   (try simp only at hrun)
   have hNow : ∃ y', spansP a b what y = spansP a b what y' := ⟨y, rfl⟩; generalize spansP a b what y = N at MX hrun hNC hNI hNL hNow
   have hii : (i : Int) < L := by omega
   have hii2 : (i : Int) + 1 < L := by omega
   replace hrun := hdh hrun; replace hNC := hdh hNC; replace hNI := hdh hNI; replace hNow := hdh hNow; clear hopen hel hz hy hyin; go_wp2; refine held_begin (Held wr 0 []) (by kernel_rfl) ⟨Below.drew (Below.refl _ _), Nat.le_refl _, trivial⟩ (fun hS => ?_)
   (refine' hdo 0 hS ?_; simp only [pu])
   (refine' hdo 1 hS ?_; simp only [pu])
   (refine' hdo 2 hS ?_; simp only [pu])
   (refine' hdo 3 hS ?_; simp only [pu])
   (refine' hdo 4 hS ?_; simp only [pu])
   (refine' hdo 6 hS ?_; simp only [pu])
   (refine' hdo 7 hS ?_; simp only [pu])
   (refine' hdo 8 hS ?_; simp only [pu])
   (refine' hdo 9 hS ?_; simp only [pu])
   (refine' hdo 10 hS ?_; simp only [pu])
   (refine' hdo 12 hS ?_; simp only [pu])
   (refine honn 5 fun K hK => ?_; go_simp)
   go_at_call 211
   (with_reducible refine (RA.out _ (Below.drew hbr)).mono ?_)
   rintro e w5 ⟨hb5, v5, rfl, hr5⟩
   have hS5 := hS.below hb5; refine hK _ _ hS5 ?_; clear hK
   (try simp only [pu])
   (refine honn 11 fun K hK => ?_; go_simp)
   go_at_call 211
   (with_reducible refine (RB.out _ (hbr.trans (hS5.old.mono zB))).mono ?_)
   rintro e w6 ⟨hb6, v6, rfl, hr6⟩
   have hS6 := hS5.below hb6; refine hK _ _ hS6 ?_; clear hK
   (try simp only [pu])
   (refine honn 13 fun K hK => ?_; go_simp)
   go_at_call 210
   (with_reducible refine (MX.out _ _ _ ((hr5.below hb6).mono hb6.size) hr6).mono ?_)
   rintro e w7 ⟨hb7, v7, rfl, ow7⟩
   have hS7 := hS6.below hb7; refine hK _ _ hS7 ?_; clear hK
   (try simp only [pu])
   (refine honn 14 fun K hK => ?_; go_simp)
   refine hK _ _ hS7 ?_; clear hK
   (try simp only [pu])
   refine wpAnyH_done (by kernel_rfl) ?_ _; have hr7 := hS7.old; have z67 := hS6.old.size; have hnew := RowX.new (c := c) (gb := g) (enc := encS) (sz := 2) encS_len (by omega) ow7 (by omega) (fun k hk => by have := (hgr.out k hk).2; omega); have hla7 := hlast.out.stay hr7; have E := equalS_any N last v7 (.slice sl q cl) w7 hnew.1 hla7.1 (by omega) (by have := hq.out; omega); rw [eqSs_dec] at E; obtain ⟨s7, c7, rfl⟩ := own_slice ow7; replace hnew := hdh hnew; replace E := hdh E; clear hS hS5 hS6 hS7 hb5 hb6 hb7 hr5 hr6 ow7 hla7 RA RB MX; have zr7 := hr7.size
   by_cases hNl : N = last
   ·have E := E.out
    rw [show decide (N = last) = true by simpa using hNl] at E; replace E := hdh E; have hNlh := hdh hNl; clear hNl
    go_wp2_with (first
     | (go_at_call 212; (with_reducible refine cmm (E.out) fun w8 hb8 => ?_))
     | go_in)
    have hr8 := hr7.trans (hb8.mono zr7); go_roundw
    case rel =>
     have hrun := hrun.out; rw [if_pos hNlh.out] at hrun; refine ⟨i + 1, last, frm, d, g, by omega, by go_num, rfl, hdh ⟨hrun, hbl.out.more_, fun h => ?_, hbl.out.row_, .inl (by rw [hL.out]; omega)⟩, hdh (hlast.out.stay hr8), hdh (hys.out.stay hr8), hdh (BD.out.stay hIr.out hr8), hbr.trans (hr8.mono zB)⟩; obtain ⟨h1, j, h2, h3⟩ := hbl.out.from_ h; exact ⟨h1, j, by omega, h3⟩
    case measure => simp [intOf]; omega
   ·have E := E.out
    rw [show decide (N = last) = false by simpa using hNl] at E; replace E := hdh E; have hrun := hrun.out; rw [if_neg hNl] at hrun
    by_cases hq0 : q = 0
    ·have hl0 : last = [] := List.length_eq_zero_iff.1 (hq.out.trans hq0)
     subst hq0; rw [if_pos hl0, List.nil_append] at hrun; replace hrun := hdh hrun
     go_upto_region 9 with (first
      | (go_at_call 212; (with_reducible refine cmm (E.out) fun w8 hb8 => ?_))
      | go_in)
     have hr8 := hr7.trans (hb8.mono zr7); have z8 := hb8.size; obtain ⟨hc8, hf8⟩ := bcell hr8
     have y8 : b' < w8.heap.size := by have := hr8.size; omega
     refine rst (Held w8 0 []) ?_
     repeat (first | (refine' sdo ?_; simp only [pu]) | (refine spa ?_; simp only [pu]))
     refine wpSteady_nil (fun uA hSA => ?_); obtain ⟨hcA, hbA, hzA, hcoA, hfoA⟩ := hall hSA; clear hSA; simp only [Cells] at hcA; have hrA := hr8.trans (hbA.mono hr8.size); have h7A := hb8.trans (hbA.mono z8); go_wp2; go_roundw
     case rel =>
      refine ⟨i + 1, N, y, d, g, by omega, by go_num, rfl, hdh ⟨hrun.out, hbl.out.more_, fun _ => ⟨⟨y0, y1⟩, i, by omega, hyh.out⟩, .inr hNow.out, .inl (by rw [hL.out]; omega)⟩, hdh (hnew.out.stay h7A), hdh (hys.out.stay hrA), hdh (BD.out.stay hIr.out hrA), hbr.trans (hrA.mono zB)⟩
     case measure => simp [intOf]; omega
    ·have hl0 : last ≠ [] := by rintro rfl; have := hq.out; simp at this; omega
     rw [if_neg hl0] at hrun; obtain ⟨⟨f0, f1⟩, j, hj, hjf⟩ := hbl.out.from_ hl0; have hfy := rise_lt hXr.out hj hjf hyh.out
     have hq1 : (0 : Int) < q := by omega
     have hlC : CanS last := by
      rcases hbl.out.row_ with h | ⟨y', h⟩
      ·exact absurd h hl0
      ·rw [h]; exact hSC.out y'
     have hlI : ∀ s ∈ last, InM s.1 ∧ InM s.2 := by
      rcases hbl.out.row_ with h | ⟨y', h⟩
      ·exact absurd h hl0
      ·rw [h]; exact hSI.out y'
     rw [List.singleton_append] at hrun
     have C := fun W (h : Below wr.heap.size wr W) => BD.out.call frm (y - frm) (.slice sl q cl) last (BD.out.stay hIr.out h) (hlast.out.stay h) hbl.out.more_ ⟨f0, f1⟩ (by rw [show frm + (y - frm) = y by omega]; exact ⟨y0, y1⟩) (by omega) hlC hlI (by have := hq.out; omega) ⟨_, hrun⟩
     obtain ⟨D, hD⟩ := exx (d ++ [(frm, y - frm, last)]); unfold runM at hrun; rw [hD] at C hrun; obtain ⟨mb', hmb⟩ := exx (more D); rw [hmb] at C hrun; replace C := hdh C; replace hmb := hdh hmb; clear hlC hlI hD hjf
     cases mb'
     ·rw [if_neg (by decide)] at hrun
      subst hrun
      go_wp2_with (first
       | (go_at_call 212; (with_reducible refine cmm (E.out) fun w8 hb8 => ?_); have hr8 := hr7.trans (hb8.mono zr7); obtain ⟨hc8, hf8, z8⟩ := bzz hr8; have y8 : b' < w8.heap.size := (by omega))
       | (go_at_fn fb; (with_reducible refine (C.out _ hr8).mono ?_); rintro e w9 ⟨g', rfl, hI9, hk9, hg9⟩)
       | go_in)
      go_end0
      exact ⟨rfl, hbr.trans ((hr8.mono zB).trans (hk9.below (B := B0) hBc (by omega) (fun k hk => (hgr.out k hk).1))), g', hI9⟩
     ·rw [if_pos rfl] at hrun
      replace hrun := hdh hrun
      go_upto_region 9 with (first
       | (go_at_call 212; (with_reducible refine cmm (E.out) fun w8 hb8 => ?_); have hr8 := hr7.trans (hb8.mono zr7); obtain ⟨hc8, hf8, z8⟩ := bzz hr8; have y8 : b' < w8.heap.size := (by omega))
       | (go_at_fn fb; (with_reducible refine (C.out _ hr8).mono ?_); rintro e w9 ⟨g', rfl, hI9, hk9, hg9⟩)
       | go_in)
      have hbB9 : Below B0 w w9 := hbr.trans ((hr8.mono zB).trans (hk9.below (B := B0) hBc (by omega) (fun k hk => (hgr.out k hk).1))); have hys9 := (hys.out.stay hr8).kept hk9 hg9; have hnew9 := (hnew.out.stay hb8).kept hk9 hg9; have hopen := row_in hys9.1; rw [hL.out] at hopen; obtain ⟨b2, o2, cap2, e2, hb2, _, _, hel2⟩ := hopen (by omega)
      simp at e2
      obtain ⟨⟨rfl, rfl⟩, rfl⟩ := e2; have g9 := hel2 i y hyh.out; replace hys9 := hdh hys9; replace hnew9 := hdh hnew9; replace hg9 := hdh hg9; replace hk9 := hdh hk9; clear hopen hel2 hc8 hf8 hcr; refine rst (Held w9 0 []) ?_
      repeat (first | (refine' sdo ?_; simp only [pu]) | (refine spa ?_; simp only [pu]))
      refine wpSteady_nil (fun uA hSA => ?_); obtain ⟨hcA, hbA, hzA, hcoA, hfoA⟩ := hall hSA; clear hSA; simp only [Cells] at hcA; go_wp2; go_roundw
      case rel =>
       refine ⟨i + 1, N, y, D, g', by omega, by go_num, rfl, hdh ⟨hrun.out, hmb.out, fun _ => ⟨⟨y0, y1⟩, i, by omega, hyh.out⟩, .inr hNow.out, .inl (by rw [hL.out]; omega)⟩, hdh (hnew9.out.stay hbA), hdh (hys9.out.stay hbA), hdh (BD.out.stay hI9 hbA), hbB9.trans (hbA.mono (by have := hbB9.size; omega))⟩
      case measure => simp [intOf]; omega
  ·have hrun := hbl.out.run
   by_cases hq0 : q = 0
   ·have hl0 : last = [] := List.length_eq_zero_iff.1 (hq.out.trans hq0)
    subst hq0
    have hRd : R = d := by
     rw [← hrun]
     by_cases hiL2 : i < L
     ·obtain ⟨y, hy⟩ := get_at hL.out hiL2
      rw [run_last hy (by have := hL.out; omega), if_pos hl0]
     ·rw [List.drop_eq_nil_of_le (by have := hL.out; omega)]
      rfl
    have hii2 : ¬ (i : Int) + 1 < L := by omega
    clear hrun; subst hRd; go_wp2
    go_end0
    exact ⟨rfl, hbr, g, hIr.out⟩
   ·have hl0 : last ≠ [] := by rintro rfl; have := hq.out; simp at this; omega
    have hiL2 : i < L := by
     rcases hbl.out.in_ with h | h
     ·have := hL.out; omega
     ·exact absurd h hl0
    obtain rfl : L = i + 1 := by omega
    have hopen := row_in hys.out.1; rw [hL.out] at hopen; obtain ⟨b', o, cap', e, hb', _, _, hel⟩ := hopen (by omega)
    simp at e
    obtain ⟨rfl, rfl⟩ := e; obtain ⟨y, hy⟩ := get_at hL.out (show i < i + 1 by omega); have g0 := hel i y hy; have hyin := hXin.out y (List.mem_of_getElem? hy); obtain ⟨y0, y1⟩ := id hyin; obtain ⟨⟨f0, f1⟩, j, hj, hjf⟩ := hbl.out.from_ hl0; have hfy := rise_lt hXr.out hj hjf hy
    have hq1 : (0 : Int) < q := by omega
    have hlC : CanS last := by
     rcases hbl.out.row_ with h | ⟨y', h⟩
     ·exact absurd h hl0
     ·rw [h]; exact hSC.out y'
    have hlI : ∀ s ∈ last, InM s.1 ∧ InM s.2 := by
     rcases hbl.out.row_ with h | ⟨y', h⟩
     ·exact absurd h hl0
     ·rw [h]; exact hSI.out y'
    have hrun2 := hrun; rw [run_end hy (by have := hL.out; omega) hl0] at hrun2; rw [run_last hy (by have := hL.out; omega), if_neg hl0] at hrun; have C := BD.out.call frm (y - frm) (.slice sl q cl) last hIr.out hlast.out hbl.out.more_ ⟨f0, f1⟩ (by rw [show frm + (y - frm) = y by omega]; exact ⟨y0, y1⟩) (by omega) hlC hlI (by have := hq.out; omega) ⟨_, hrun2⟩; rw [hrun] at C; replace C := hdh C; clear hlC hlI hjf hopen hel hy hrun hrun2
    go_wp2_with (first
     | (go_at_fn fb; (with_reducible refine (C.out).mono ?_); rintro e w9 ⟨g', rfl, hI9, hk9, hg9⟩)
     | go_in)
    go_end0
    exact ⟨rfl, hbr.trans (hk9.below (B := B0) hBc (by omega) (fun k hk => (hgr.out k hk).1)), g', hI9⟩
end
section
theorem wpList_append_two {P : Program} {ops : Array Oper} {rest : List Oper} {o : Oper} {a : Act} {Q : Exit → Act → World → Prop} (hgd : o.guard = none) (s x : Operand) (t : TypeId)
  (ho : o.op = .call { callee := .builtin .append, args := #[s, x], argTypes := #[t, t] })
  (base : Nat) (e : TypeId) (i : TypeInfo) (z : Value) (size bytes : Nat) (ht : P.underlying t = some (.slice e)) (hi : P.info? e = some i) (hz : i.zero = some z)
  (hsize : i.size = size) (hby : i.bytes = bytes) (hzs : z.cells.size = size) (hsz : 0 < size)
  (w : World) (m : Nat) (us : List Value) (v : Value) (n : Nat) (xs : List Value) (hs : a.eval s = v) (hown : w.ownsRow base e size v n xs)
  (hx : a.eval x = .slice (some ⟨w.heap.size, 0, none⟩) m m) (hl : us.length = m * size) (h1 : ∀ u ∈ us, u.oneCell' = true)
  (hbytes : (n + m) * bytes ≤ 140737488355328) (h63 : n + m ≤ maxLen) (hbase : base ≤ w.heap.size)
  (h : ∀ v' w', w'.ownsRow base e size v' (n + m) (xs ++ us) → w.grownBy w' v.ownBlock → (∀ g, v'.ownBlock = some g → v.ownBlock = some g ∨ w.heap.size < g) → Below base w w' → wpList P ops Q rest (a.put o.dst v') w') :
  wpList P ops Q (o :: rest) a (w.alloc (.cells us.toArray e)) := by
 refine wpList_append_own_at _ hgd s x t ho base e i z size bytes ht hi hz hsize hby hzs hsz v n xs hs (hown.alloc _) ⟨w.heap.size, 0, none⟩ m m us hx (by omega) (fun j u hj => ?_) h1 h63 hbytes (by simp; omega) (fun v' w' h2 h3 _ h5 => h v' w' h2 ?_ ?_ ?_)
 ·rw [show (⟨w.heap.size, 0, none⟩ : Addr).add j = ⟨w.heap.size, j, none⟩ by unfold Addr.add; split <;> simp_all]
  rw [World.cell?_alloc_at _ _ _ _ rfl]
  simpa using hj
 ·have hal : w.grownBy (w.alloc (.cells us.toArray e)) v.ownBlock := ⟨rfl, rfl, rfl, by simp, fun k hk _ => ((Below.refl w.heap.size w).alloc lrr _).block k hk⟩
  exact ⟨h3.os.trans hal.os, h3.tape.trans hal.tape, h3.output.trans hal.output, Nat.le_trans hal.size h3.size, fun k hk hne => (h3.block k (Nat.lt_of_lt_of_le hk hal.size) hne).trans (hal.block k hk hne)⟩
 ·intro g hg
  rcases h5 with h5 | h5
  ·exact .inl (h5 ▸ hg)
  ·rw [h5] at hg
   injection hg with hg
   simp at hg
   exact .inr (by omega)
 ·exact (((Below.refl _ _).alloc hbase _).grown h3 (by simp; omega) (fun k hk => (hown.lt k hk).1))
def FormI (c : Nat) (L : List Re) (g : Option Nat) (w : World) : Prop := ∃ v, Blk w c [v] 25 ∧ OwnsR (c + 1) w v L ∧ v.ownBlock = g ∧ L.length ≤ 300000
theorem FormI.stay {c : Nat} {L : List Re} {g : Option Nat} {w w' : World} (h : FormI c L g w) (hb : Below w.heap.size w w') : FormI c L g w' := by
 obtain ⟨v, h1, h2, h3, h4⟩ := h; exact ⟨v, h1.below hb h1.lt, h2.below hb lrr, h3, h4⟩
theorem FormI.at_ {c : Nat} {L : List Re} {g : Option Nat} {w : World} (h : FormI c L g w) : c < w.heap.size ∧ ∀ k, g = some k → c + 1 ≤ k ∧ k < w.heap.size := by
 obtain ⟨v, h1, h2, h3, h4⟩ := h; refine ⟨h1.lt, fun k hk => ?_⟩; have := own_in h2 k (by rw [h3]; exact hk); exact this
theorem rectsOf_snoc {l : List Sp} {k : Nat} {s : Sp} (y h : Int) (hs : l[k]? = some s) : rectsOf y h (l.take (k + 1)) = rectsOf y h (l.take k) ++ [⟨s.1, y, s.2 - s.1, h⟩] := by
 unfold rectsOf; rw [List.take_add_one, hs, List.map_append]
 rfl
theorem rectsOf_len (y h : Int) (l : List Sp) : (rectsOf y h l).length = l.length := by simp [rectsOf]
theorem flatR_snoc {l : List Re} {t : Re} {cs : List Value} (h : cs = t.enc) : l.flatMap Re.enc ++ cs = (l ++ [t]).flatMap Re.enc := by
 rw [h, List.flatMap_append]; simp
def F1Post (y h : Int) (l : List Sp) (L : List Re) (c : Nat) (g : Option Nat) (w : World) (e : Ending) (w' : World) : Prop := ∃ g', e = .returned (.bool (decide ((L ++ rectsOf y h l).length ≤ 1024))) ∧ FormI c (L ++ rectsOf y h l) g' w' ∧ Kept c g w w' ∧ ∀ k, g' = some k → g = some k ∨ w.heap.size ≤ k
set_option maxRecDepth 100000 in
theorem form1_any (y h : Int) (vl : Value) (l : List Sp) (L : List Re) (c : Nat) (g : Option Nat) (w : World) (hI : FormI c L g w) (hL : L.length ≤ 1024) (hrow : RowX c g 2 encS w vl l) (hy : InM y) (hh : InM (y + h)) (h0 : 0 < h) (hin : ∀ s ∈ l, InM s.1 ∧ InM s.2) (hln : l.length ≤ 200000) :
  Calls Tryz.prog 180 #[.int .i64 y, .int .i64 h, vl, .pointer (some ⟨c, 0, none⟩)] w (F1Post y h l L c g w) := by
 obtain ⟨iR, hr0, hr1, hr2, hr3⟩ := info_parts infoRe; obtain ⟨s0, cap, rfl, hmax⟩ := hrow.1.shape; obtain ⟨n, en⟩ := exx (l.length); rw [en] at hmax hln hrow ⊢
 have hst : FormI c (L ++ rectsOf y h (l.take 0)) g w := by simpa [rectsOf] using hI
 obtain ⟨y0, y1⟩ := id hy; obtain ⟨h1, h2⟩ := id hh; replace en := hdh en; replace hrow := hdh hrow; replace hin := hdh hin; replace hst := hdh hst; clear hI
 go_enter Tryz.func180, Tryz.ntmps180
 go_wp2
 go_loopw [12] (fun iv wr => ∃ (k : Nat) (g' : Option Nat), k ≤ n ∧ iv = .int .i64 k ∧ Hid (FormI c (L ++ rectsOf y h (l.take k)) g' wr) ∧ Hid (Kept c g w wr) ∧ Hid (∀ x, g' = some x → g = some x ∨ w.heap.size ≤ x)) (fun iv _ => n - (intOf iv).toNat)
 case atStart => exact ⟨0, g, Nat.zero_le _, rfl, hst, hdh (Kept.of (Below.refl _ _)), hdh (fun x hx => .inl hx)⟩
 case round =>
  obtain ⟨k, g', hk, rfl, hI, hkp, hg'⟩ := hrel; clear hst; obtain ⟨v, hbk, hown, hvg, hll⟩ := hI.out; obtain ⟨D, hD⟩ := exx (L ++ rectsOf y h (l.take k)); rw [hD] at hown hll hI
  have hDl : D.length = L.length + k := by rw [← hD, List.length_append, rectsOf_len, List.length_take]; have := en.out; omega
  replace hDl := hdh hDl; obtain ⟨st, cp, rfl⟩ := own_slice hown; have hcw := hbk.lt; have hc0 := hbk.cell (o := 0) rfl; have hkz := hkp.out.size; replace hvg := hdh hvg
  by_cases hkn : k < n
  ·have hx := hrow.out.kept hkp.out hg'.out
   have hopen := row_sp hx.1; rw [en.out] at hopen; obtain ⟨b, o, cap', e, hb, _, _, hel⟩ := hopen (by omega)
   simp at e
   obtain ⟨rfl, rfl⟩ := e; obtain ⟨s, hs⟩ := get_at en.out hkn; obtain ⟨j0, j1⟩ := hel k s hs; obtain ⟨⟨a0, a1⟩, ⟨b0, b1⟩⟩ := hin.out s (List.mem_of_getElem? hs); have hsn := rectsOf_snoc y h hs; obtain ⟨x1, x2⟩ := s; simp only at j0 j1 a0 a1 b0 b1 hsn
   have hkk : (k : Int) < n := by omega
   replace hsn := hdh hsn; replace hD := hdh hD; unfold OwnsR at hown; clear hs hel hopen hx
   go_upto_region 4 with fail
   have hb7 : Below wr.heap.size wr (wr.alloc (.cells #[.int .i64 x1, .int .i64 x2] 244)) := (Below.refl _ _).alloc lrr _
   have e0 : (wr.alloc (.cells #[.int .i64 x1, .int .i64 x2] 244)).cell? ⟨wr.heap.size, 0, none⟩ = some (.int .i64 x1) := by go_simp
   have e1 : (wr.alloc (.cells #[.int .i64 x1, .int .i64 x2] 244)).cell? ⟨wr.heap.size, 1, none⟩ = some (.int .i64 x2) := by go_simp
   have hbk7 := hbk.alloc (.cells #[.int .i64 x1, .int .i64 x2] 244)
   have h57 : wr.heap.size < (wr.alloc (.cells #[.int .i64 x1, .int .i64 x2] 244)).heap.size := by simp
   generalize wr.alloc (.cells #[.int .i64 x1, .int .i64 x2] 244) = w7 at hb7 e0 e1 hbk7 h57 ⊢; have hc7 := hbk7.cell (o := 0) rfl; have zr7 := hb7.size; have own7 := ownsRow_below hown hb7 lrr; replace hbk7 := hdh hbk7; replace own7 := hdh own7; replace hbk := hdh hbk; replace hown := hdh hown; clear hc0 j0 j1
   go_wp2_with (first
    | (at_builtin; refine wpList_append_two rfl _ _ _ rfl (c + 1) 32 iR _ 4 32 Tryz.underlying25 hr0 hr1 hr2 hr3 rfl (by omega) w7 1 _ _ _ _ (by rfl) own7.out (by rfl) rfl (by simp [Value.oneCell']) (by omega) (by unfold maxLen; omega) (by omega) ?_; intro v6 w6 hown6 hgr6 hat6 hb6; obtain ⟨s6, c6, rfl⟩ := own_slice hown6; have hbk6 := Blk.below hbk7.out hb6 (by omega); have hc6 := hbk6.cell (o := 0) rfl; have hf6 := hbk6.free 0; replace hbk6 := hdh hbk6; replace hown6 := hdh hown6; replace hgr6 := hdh hgr6; replace hat6 := hdh hat6; clear hc7)
    | go_in)
   have hown6 := hown6.out; rw [flatR_snoc (t := ⟨x1, y, x2 - x1, h⟩) (cs := [.int .i64 x1, .int .i64 y, .int .i64 (x2 - x1), .int .i64 h]) rfl] at hown6; replace hown6 := hdh hown6; go_roundw
   case rel =>
    have hset : ∀ k', k' ≠ c → (w6.setCell ⟨c, 0, none⟩ (Value.slice s6 (D.length + 1) c6)).heap[k']? = w6.heap[k']? := fun k' hk' => Below.heap_setCell _ _ _ _ hk'
    have h68 := (Below.refl 0 w6).setCell (p := ⟨c, 0, none⟩) (Nat.zero_le _) (Value.slice s6 (D.length + 1) c6)
    have hk2 : Kept c g' wr (w6.setCell ⟨c, 0, none⟩ (Value.slice s6 (D.length + 1) c6)) := by
     have h1 := hgr6.out; refine ⟨h68.os.trans (h1.os.trans hb7.os), h68.tape.trans (h1.tape.trans hb7.tape), h68.output.trans (h1.output.trans hb7.output), Nat.le_trans zr7 (Nat.le_trans h1.size h68.size), fun k' hk' hc' hg'' => ?_⟩; rw [hset k' hc', h1.block k' (by omega) (fun e => hg'' (by rw [← hvg.out]; exact e.symm))]; exact hb7.block k' hk'
    have hnb : ∀ x, (Value.slice s6 (D.length + 1) c6).ownBlock = some x → g' = some x ∨ wr.heap.size ≤ x := fun x hx => by
     rcases hat6.out x hx with h' | h'
     ·exact .inl (hvg.out ▸ h')
     ·exact .inr (by omega)
    refine ⟨k + 1, (Value.slice s6 (D.length + 1) c6).ownBlock, by omega, by go_num, hdh ?_, hdh (hkp.out.trans hk2 hg'.out), hdh (fun x hx => ?_)⟩
    ·refine ⟨(Value.slice s6 (D.length + 1) c6), hbk6.out.set 0 (Value.slice s6 (D.length + 1) c6), ?_, rfl, ?_⟩
     ·unfold OwnsR
      rw [hsn.out, ← List.append_assoc, hD.out, List.length_append]; exact own_other hown6.out (fun x hx => by have := (own_in hown6.out x hx).1; show x ≠ c; omega) _
     ·rw [hsn.out, ← List.append_assoc, hD.out, List.length_append, hDl.out]; simp; omega
    ·rcases hnb x hx with h' | h'
     ·exact hg'.out x h'
     ·exact .inr (by omega)
   case measure => simp [intOf]; omega
  ·obtain rfl : k = n := by omega
   rw [List.take_of_length_le (by have := en.out; omega)] at hD
   have hDi : (D.length : Int) ≤ 1024 ↔ D.length ≤ 1024 := by omega
   replace hbk := hdh hbk; replace hown := hdh hown; have hDh := hdh hD; clear hD
   by_cases hle : D.length ≤ 1024
   ·have hle' : (D.length : Int) ≤ 1024 := by omega
    go_wp2; go_ret; exact ⟨g', by rw [hDh.out]; simp [hle], by rw [hDh.out]; exact hI, hkp.out, hg'.out⟩
   ·have hle' : ¬ (D.length : Int) ≤ 1024 := by omega
    go_wp2; go_ret; exact ⟨g', by rw [hDh.out]; simp [hle], by rw [hDh.out]; exact hI, hkp.out, hg'.out⟩
def moreF (d : List Bd) : Bool := decide ((flatB d).length ≤ 1024)
theorem flatB_one (d : List Bd) (y h : Int) (l : List Sp) : flatB (d ++ [(y, h, l)]) = flatB d ++ rectsOf y h l := by
 rw [flatB_append]
 simp [flatB]
theorem formBand (c : Nat) (R : List Bd) : Band 180 #[.pointer (some ⟨c, 0, none⟩)] c c moreF R (fun d g w => FormI c (flatB d) g w) where
 enters := enters_of Tryz.func180 (by kernel_rfl) rfl
 le := Nat.le_refl _
 first := by simp [moreF, flatB]
 at_ := fun h => ⟨h.at_.1, fun k hk => ⟨by have := (h.at_.2 k hk).1; omega, (h.at_.2 k hk).2⟩⟩
 stay := fun h hb => h.stay hb
 call := fun {d g w} y h vl l hI hrow hm hy hh h0 _ hin hln _ => by
  have := form1_any y h vl l (flatB d) c g w hI (by simpa [moreF] using hm) hrow hy hh h0 hin hln; unfold F1Post at this; unfold moreF; rw [flatB_one]; exact this
end
section
def CutR (base : Nat) (w : World) (v : Value) (l : List Re) : Prop := (v = .slice none 0 0 ∧ l = []) ∨ ∃ g cap cur, v = .slice (some ⟨g, 0, none⟩) l.length cap ∧ base ≤ g ∧ w.heap[g]? = some (.cells cur 32 (0, 0)) ∧ l.length ≤ cap ∧ cap ≤ maxLen ∧ cap * 4 ≤ cur.size ∧ cur.toList.take (l.length * 4) = l.flatMap Re.enc
theorem CutR.nil (base : Nat) (w : World) : CutR base w (.slice none 0 0) [] := .inl ⟨rfl, rfl⟩
theorem CutR.below {base B : Nat} {w w' : World} {v : Value} {l : List Re} (h : CutR base w v l) (hb : Below B w w') (hB : w.heap.size ≤ B) : CutR base w' v l := by
 rcases h with h | ⟨g, cap, cur, h1, h2, h3, h4⟩
 ·exact .inl h
 ·exact .inr ⟨g, cap, cur, h1, h2, (hb.block g (Nat.lt_of_lt_of_le (lt_of_block h3) hB)).trans h3, h4⟩
theorem CutR.less {base B : Nat} {w : World} {v : Value} {l : List Re} (h : CutR base w v l) (hB : B ≤ base) : CutR B w v l := by
 rcases h with h | ⟨g, cap, cur, h1, h2, h3⟩
 ·exact .inl h
 ·exact .inr ⟨g, cap, cur, h1, by omega, h3⟩
theorem CutR.shape {base : Nat} {w : World} {v : Value} {l : List Re} (h : CutR base w v l) : ∃ s cap, v = .slice s l.length cap := by
 rcases h with ⟨rfl, rfl⟩ | ⟨g, cap, cur, h1, _⟩
 ·exact ⟨_, _, rfl⟩
 ·exact ⟨_, _, h1⟩
theorem CutR.row {base B : Nat} {w : World} {v : Value} {l : List Re} (h : CutR base w v l) (hB : w.heap.size ≤ B) : Row B 4 Re.enc w v l := by
 rcases h with ⟨rfl, rfl⟩ | ⟨g, cap, cur, rfl, h2, h3, h4, h5, h6, h7⟩
 ·exact ⟨none, 0, rfl, by simp, by unfold maxLen; omega, fun h => by simp at h⟩
 ·refine ⟨_, cap, rfl, h4, h5, fun h0 => ⟨g, 0, rfl, Nat.lt_of_lt_of_le (lt_of_block h3) hB, fun j x hj i u hi => ?_⟩⟩
  have hjl := (List.getElem?_eq_some_iff.1 hj).1; have hil : i < 4 := (List.getElem?_eq_some_iff.1 hi).1
  have hp : (l.flatMap Re.enc)[j * 4 + i]? = some u := by
   rw [flat_get Re.enc_len (by omega), show (j * 4 + i) / 4 = j by omega, show (j * 4 + i) % 4 = i by omega, hj]; exact hi
  rw [← h7, List.getElem?_take, if_pos (by omega)] at hp; simp only [World.cell?, h3, Nat.zero_add]
  simpa using hp
theorem CutR.of {base : Nat} {w : World} {s : Option Addr} {n cap : Nat} {l : List Re} (h : OwnsR base w (.slice s n cap) l) (hn : l.length = n) : CutR base w (.slice s n n) l := by
 unfold OwnsR at h; rw [hn] at h
 rcases h.2 with ⟨e, h0⟩ | ⟨g, cap', cur, e, h2, h3, h4, h5, h6, h7⟩
 ·injection e with e1 e2 e3
  subst e1; subst h0; exact .inl ⟨rfl, List.length_eq_zero_iff.1 hn⟩
 ·injection e with e1 e2 e3
  subst e1; refine .inr ⟨g, n, cur, by rw [hn], h2, h3, by omega, by omega, by rw [h6]; exact Nat.mul_le_mul_right 4 h4, by rw [hn]; exact h7⟩
theorem run_more : ∀ (r d : List Bd), moreF d = true → ((flatB (d ++ r)).length ≤ 1024 → runM moreF d r = d ++ r) ∧ (1024 < (flatB (d ++ r)).length → 1024 < (flatB (runM moreF d r)).length)
 | [], d, h => by
  rw [List.append_nil]; exact ⟨fun _ => rfl, fun h => h⟩
 | t :: r, d, h => by
  have e : d ++ t :: r = (d ++ [t]) ++ r := by simp
  rw [e]; unfold runM
  cases hm : moreF (d ++ [t])
  ·rw [if_neg (by decide)]
   unfold moreF at hm; simp only [decide_eq_false_iff_not] at hm; refine ⟨fun h => ?_, fun _ => by omega⟩; rw [flatB_append, List.length_append] at h; omega
  ·rw [if_pos rfl]
   exact run_more r (d ++ [t]) hm
def FormPost (E : Int) (L : List Re) (w : World) (e : Ending) (w' : World) : Prop := Below w.heap.size w w' ∧ ∃ v, e = .returned (.tuple #[v, .int .i64 E]) ∧ CutR w.heap.size w' v L
theorem form_any (a b : List Re) (va vb : Value) (what : Int) (fw : Nat) (w : World) (ha : Row w.heap.size 4 Re.enc w va a) (hb : Row w.heap.size 4 Re.enc w vb b) (ma : MayL a) (mb : MayL b) (la : a.length ≤ 100000) (lb : b.length ≤ 100000)
  (eg : ∀ args w, (callFunc fw args).run Tryz.prog w = .ok (.enter fw args) w) (hw : ∀ a b w, Calls Tryz.prog fw #[.bool a, .bool b] w fun e w' => e = .returned (.bool (wantB what a b)) ∧ Below w.heap.size w w') :
  Calls Tryz.prog 132 #[va, vb, .func (.func fw) #[] #[]] w (FormPost (madeE a b what) (madeL a b what) w) := by
 have hal : Below w.heap.size w (w.alloc (.cells #[.slice none 0 0] 25)) := (Below.refl _ _).alloc lrr _; have BA := bands_any a b va vb what fw 180 w.heap.size w.heap.size #[.pointer (some ⟨w.heap.size, 0, none⟩)] moreF (fun d g w' => FormI w.heap.size (flatB d) g w') none (w.alloc (.cells #[.slice none 0 0] 25)) (ha.below hal) (hb.below hal) ma mb la lb (by simp) eg hw (formBand _ _) ⟨.slice none 0 0, Blk.new' rfl, OwnsR.nil _ _, rfl, by simp [flatB]⟩; obtain ⟨r1, r2⟩ := run_more (bandsP a b what) [] (by simp [moreF, flatB]); rw [List.nil_append] at r1 r2
 have hE : madeE a b what = if (flatB (runM moreF [] (bandsP a b what))).length > 1024 then 4 else 0 := by
  unfold madeE formR
  by_cases h : (flatB (bandsP a b what)).length > 1024
  ·rw [if_pos h, if_pos (r2 h)]
  ·rw [if_neg h, r1 (by omega), if_neg h]
 have hLL : madeL a b what = if (flatB (runM moreF [] (bandsP a b what))).length > 1024 then [] else flatB (runM moreF [] (bandsP a b what)) := by
  unfold madeL formR
  by_cases h : (flatB (bandsP a b what)).length > 1024
  ·rw [if_pos h, if_pos (r2 h)]
  ·rw [if_neg h, r1 (by omega), if_neg h]
 rw [hE, hLL]; replace BA : Calls Tryz.prog 179 #[va, vb, .func (.func fw) #[] #[], .func (.func 180) #[] #[.pointer (some ⟨w.heap.size, 0, none⟩)]] (w.alloc (.cells #[.slice none 0 0] 25)) (fun e w' => e = .returned (.tuple #[]) ∧ Below w.heap.size (w.alloc (.cells #[.slice none 0 0] 25)) w' ∧ ∃ g, FormI w.heap.size (flatB (runM moreF [] (bandsP a b what))) g w') := BA; generalize flatB (runM moreF [] (bandsP a b what)) = D at BA ⊢; obtain ⟨s1, c1, rfl, _⟩ := ha.shape; obtain ⟨s2, c2, rfl, _⟩ := hb.shape; clear hE hLL r1 r2 ha hb; replace BA := hdh BA; replace hw := hdh hw
 go_enter Tryz.func132, Tryz.ntmps132
 go_upto_region 3 with (first
  | (go_at_call 179; (with_reducible refine (BA.out).mono ?_); rintro e w2 ⟨rfl, hb2, g, hI⟩)
  | go_in)
 have hb02 : Below w.heap.size w w2 := hal.trans hb2; obtain ⟨v, hbk, hown, _, hll⟩ := hI; obtain ⟨st, cp, rfl⟩ := own_slice hown; have hc0 := hbk.cell (o := 0) rfl; have hcw := hbk.lt; have hcut := own_less hown (B := w.heap.size) (by omega); have hcut2 : OwnsR w.heap.size w2 (.slice st D.length cp) D := hcut; have hcut3 := CutR.of hcut2 rfl
 have hle : D.length ≤ cp := by
  have := hcut2; unfold OwnsR at this; exact (own_len this).1
 rcases hcut.2 with ⟨e, hq⟩ | ⟨g', cap', cur, e, hq⟩
 ·injection e with e1 e2 e3
  subst e1; subst e3; have hD : D = [] := List.length_eq_zero_iff.1 e2; subst hD; rw [if_neg (by simp), if_neg (by simp)]; clear hq e2 hcut hcut2 hown hbk hb2; replace hcut3 := hdh hcut3; go_wp2; go_ret2; exact ⟨hb02, _, rfl, hcut3.out⟩
 ·injection e with e1 e2 e3
  subst e1; clear hq e2 e3 hcut hcut2 hown hbk hb2; replace hcut3 := hdh hcut3
  by_cases hbig : D.length > 1024
  ·have hbig' : (1024 : Int) < D.length := by omega
   rw [if_pos hbig, if_pos hbig]; go_wp2; go_ret2; exact ⟨hb02, _, rfl, CutR.nil _ _⟩
  ·have hbig' : ¬ (1024 : Int) < D.length := by omega
   rw [if_neg hbig, if_neg hbig]; go_wp2; go_ret2; exact ⟨hb02, _, rfl, hcut3.out⟩
theorem ask_two (a b : List Re) : askG [a, b] = askR a b := by
 unfold askG askG askR; unfold askG
 by_cases h1 : chkR a = 0
 ·rw [if_pos h1, if_pos h1]
  by_cases h2 : chkR b = 0
  ·rw [if_pos h2, h2]
  ·rw [if_neg h2]
 ·rw [if_neg h1, if_neg h1]
def WfL (l : List Re) : Prop := ∀ q ∈ l, q.Wf
theorem asked2 (a b : List Re) (s1 s2 : Option Addr) (c1 c2 : Nat) (w : World) (ha : Row w.heap.size 4 Re.enc w (.slice s1 a.length c1) a) (hb : Row w.heap.size 4 Re.enc w (.slice s2 b.length c2) b) (wa : WfL a) (wb : WfL b) :
  Calls Tryz.prog 131 #[.slice (some ⟨w.heap.size, 0, none⟩) 2 2] (w.alloc (.cells #[.slice s1 a.length c1, .slice s2 b.length c2] 25)) fun e w' => e = .returned (.int .i64 (askR a b)) ∧ Below (w.alloc (.cells #[.slice s1 a.length c1, .slice s2 b.length c2] 25)).heap.size (w.alloc (.cells #[.slice s1 a.length c1, .slice s2 b.length c2] 25)) w' := by
 have hal : Below w.heap.size w (w.alloc (.cells #[.slice s1 a.length c1, .slice s2 b.length c2] 25)) := (Below.refl _ _).alloc lrr _; have := asked_any [(.slice s1 a.length c1, a), (.slice s2 b.length c2, b)] w.heap.size 2 (w.alloc (.cells #[.slice s1 a.length c1, .slice s2 b.length c2] 25)) lrr ⟨rfl, by simp, fun i p hp => ?_⟩
 ·rw [show sndL [(Value.slice s1 a.length c1, a), (Value.slice s2 b.length c2, b)] = [a, b] from rfl, ask_two] at this
  exact this
 ·match i, hp with
  | 0, hp =>
   simp at hp
   subst hp; exact ⟨by rw [World.cell?_alloc_at _ _ _ _ rfl]; rfl, (ha.below hal).mono (by simp), wa⟩
  | 1, hp =>
   simp at hp
   subst hp; exact ⟨by rw [World.cell?_alloc_at _ _ _ _ rfl]; rfl, (hb.below hal).mono (by simp), wb⟩
  | i + 2, hp => simp at hp
end
section
theorem both_any (a b : List Re) (va vb : Value) (what : Int) (fw : Nat) (w : World) (ha : Row w.heap.size 4 Re.enc w va a) (hb : Row w.heap.size 4 Re.enc w vb b) (wa : WfL a) (wb : WfL b)
  (eg : ∀ args w, (callFunc fw args).run Tryz.prog w = .ok (.enter fw args) w) (hw : ∀ a b w, Calls Tryz.prog fw #[.bool a, .bool b] w fun e w' => e = .returned (.bool (wantB what a b)) ∧ Below w.heap.size w w') :
  Calls Tryz.prog 86 #[va, vb, .func (.func fw) #[] #[]] w (FormPost (bothE a b what) (bothL a b what) w) := by
 obtain ⟨s1, c1, rfl, _⟩ := ha.shape; obtain ⟨s2, c2, rfl, _⟩ := hb.shape; have AS := asked2 a b s1 s2 c1 c2 w ha hb wa wb; have hal : Below w.heap.size w (w.alloc (.cells #[.slice s1 a.length c1, .slice s2 b.length c2] 25)) := (Below.refl _ _).alloc lrr _; unfold bothE bothL
 by_cases h0 : askR a b = 0
 ·rw [if_pos h0, if_pos h0]
  rw [h0] at AS
  have hca : chkR a = 0 := by unfold askR at h0; by_cases h : chkR a = 0; exact h; rw [if_neg h] at h0; exact h0
  have hcb : chkR b = 0 := by unfold askR at h0; rw [if_pos hca] at h0; exact h0
  obtain ⟨ma, la⟩ := chkR_may hca; obtain ⟨mb, lb⟩ := chkR_may hcb
  have FM := fun w1 (h : Below w.heap.size w w1) => form_any a b _ _ what fw w1 ((ha.below h).mono h.size) ((hb.below h).mono h.size) ma mb (by omega) (by omega) eg hw
  replace AS := hdh AS; replace FM := hdh FM; replace hw := hdh hw; clear ha hb
  go_enter Tryz.func86, Tryz.ntmps86
  go_wp2_with (first
   | (go_at_call 131; (with_reducible refine cmm (AS.out) fun w1 hb1 => ?_); have hb01 := hal.trans (hb1.mono hal.size))
   | (go_at_call 132; (with_reducible refine (FM.out _ hb01).mono ?_); rintro e w2 ⟨hb2, v, rfl, hcut⟩)
   | go_in)
  go_ret2; exact ⟨hb01.trans (hb2.mono hb01.size), v, rfl, hcut.less hb01.size⟩
 ·rw [if_neg h0, if_neg h0]
  have h0' : (askR a b == 0) = false := by simp [h0]
  have h0n : (askR a b != 0) = true := by simp [h0]
  generalize askR a b = E at *; replace AS := hdh AS; replace hw := hdh hw; clear ha hb
  go_enter Tryz.func86, Tryz.ntmps86
  go_wp2_with (first
   | (go_at_call 131; (with_reducible refine cmm (AS.out) fun w1 hb1 => ?_); have hb01 := hal.trans (hb1.mono hal.size))
   | go_in)
  go_ret2; exact ⟨hb01, _, rfl, CutR.nil _ _⟩
theorem eg_either : ∀ args w, (callFunc 134 args).run Tryz.prog w = .ok (.enter 134 args) w := enters_of Tryz.func134 (by kernel_rfl) rfl
theorem hw_either (a b : Bool) (w : World) : Calls Tryz.prog 134 #[.bool a, .bool b] w fun e w' => e = .returned (.bool (wantB 1 a b)) ∧ Below w.heap.size w w' := either_any a b w
theorem nilRow (B : Nat) (w : World) : Row B 4 Re.enc w (.slice none 0 0) [] := ⟨none, 0, rfl, by simp, by unfold maxLen; omega, fun h => by simp at h⟩
theorem wf_nil : WfL [] := fun q hq => by simp at hq
theorem of_any (a : List Re) (va : Value) (w : World) (ha : Row w.heap.size 4 Re.enc w va a) (wa : WfL a) :
  Calls Tryz.prog 91 #[va] w (FormPost (bothE a [] 1) (bothL a [] 1) w) := by
 have B := both_any a [] va (.slice none 0 0) 1 _ w ha (nilRow _ _) wa wf_nil eg_either hw_either; generalize bothE a [] 1 = E at B ⊢; generalize bothL a [] 1 = L at B ⊢; clear ha; replace B := hdh B
 go_enter Tryz.func91, Tryz.ntmps91
 go_wp2_with (first
  | (go_at_call 86; (with_reducible refine (B.out).mono ?_); rintro e w2 ⟨hb2, v, rfl, hcut⟩)
  | go_in)
 go_ret2; exact ⟨hb2, v, rfl, hcut⟩
end
end Go.Proofs.YtfcphagmjijmkaaGreatDoor
