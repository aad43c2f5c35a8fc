/-
  region.bands, walked.
-/
import Derived.Test.YtlklmncjicgbgaaRegBa
namespace Go.Proofs.Ytlklmncjicgbgaa
open Go.RowKit
set_option linter.unusedVariables false
attribute [local go_sem] vwp vUpon_value vUpon_skip vUpon_enter vUpon_row
set_option linter.unusedSimpArgs false
set_option linter.unusedVariables false
/-- Where the loop stands. -/
structure BLoop (a b : List Re) (what : Int) (c : Nat) (more : List Bd → Bool) (R : List Bd) (X : List Int) (i : Nat) (last : List Sp) (frm : Int) (d : List Bd) : Prop where
  run : runM more d (bandGo (fun y => spansP a b what y) last frm (X.drop i)) = R
  more_ : more d = true
  from_ : last ≠ [] → InM frm ∧ ∃ j, j < i ∧ X[j]? = some frm
  row_ : last = [] ∨ ∃ y, last = spansP a b what y
  in_ : i < X.length ∨ last = []
set_option maxHeartbeats 4000000 in
set_option maxRecDepth 100000 in
theorem bands_any (a b : List Re) (va vb : Value) (what : Int) (fw fb c B0 : Nat) (cb : Array Value) (more : List Bd → Bool) (I : List Bd → Option Nat → World → Prop) (g0 : Option Nat) (w : World)
    (ha : Row B0 4 Re.enc w va a) (hb : Row B0 4 Re.enc w vb b) (ma : MayL a) (mb : MayL b) (la : a.length ≤ 100000) (lb : b.length ≤ 100000) (hB : B0 ≤ w.heap.size)
    (eg : ∀ args w, (callFunc fw args).run Try.prog w = .ok (.enter fw args) w) (hw : ∀ a b w, Calls Try.prog fw #[.bool a, .bool b] w fun e w' => e = .returned (.bool (wantB what a b)) ∧ Below w.heap.size w w')
    (BD : Band fb cb c B0 more (runM more [] (bandsP a b what)) I) (hI : I [] g0 w) :
    Calls Try.prog 57 #[va, vb, .func (.func fw) #[] #[], .func (.func fb) #[] cb] w (BandsPost B0 I (runM more [] (bandsP a b what)) w) := by
  have egb := BD.enters
  have hBc := BD.le
  obtain ⟨R, hR⟩ : ∃ R, runM more [] (bandsP a b what) = R := ⟨_, rfl⟩
  rw [hR] at BD ⊢
  have RW := fun w1 (h : Below w.heap.size w w1) => rows_any [(va, a), (vb, b)] w.heap.size 2 w1 (Nat.le_refl _)
  have RA := fun y (hy : InM y) W (h : Below B0 w W) => row_any a y va W ((ha.below h).mono (Nat.le_trans hB h.size)) ma la hy
  have RB := fun y (hy : InM y) W (h : Below B0 w W) => row_any b y vb W ((hb.below h).mono (Nat.le_trans hB h.size)) mb lb hy
  have MX := fun y W v1 v2 (h1 : Row W.heap.size 2 encS W v1 (spansP a [] 1 y)) (h2 : Row W.heap.size 2 encS W v2 (spansP b [] 1 y)) => mixed_any (spansP a [] 1 y) (spansP b [] 1 y) v1 v2 what fw W h1 h2 (spans_can ma.sane sane_nil 1 y) (spans_can mb.sane sane_nil 1 y) (spans_in ma mayL_nil 1 y) (spans_in mb mayL_nil 1 y) (by have := spans_len2 ma.sane sane_nil 1 y; simp at this; omega) (by have := spans_len2 mb.sane sane_nil 1 y; simp at this; omega) eg hw
  unfold MixPost at MX
  simp only [mixP_spans ma.sane mb.sane] at MX
  obtain ⟨s1, c1, rfl, hmax1⟩ := ha.shape
  obtain ⟨s2, c2, rfl, hmax2⟩ := hb.shape
  have RW2 : Calls Try.prog 44 #[.slice (some ⟨w.heap.size, 0, none⟩) 2 2] (w.alloc (.cells #[.slice s1 a.length c1, .slice s2 b.length c2] 22)) (RowsPost (edgesY a b) (w.alloc (.cells #[.slice s1 a.length c1, .slice s2 b.length c2] 22))) := by
    have hal : Below w.heap.size w (w.alloc (.cells #[.slice s1 a.length c1, .slice s2 b.length c2] 22)) := (Below.refl _ _).alloc (Nat.le_refl _) _
    have := RW _ hal ⟨rfl, by simp, fun i p hp => ?_⟩ (fun p hp => ?_)
    · rw [show sndL [(Value.slice s1 a.length c1, a), (Value.slice s2 b.length c2, b)] = [a, b] from rfl, ys_two] at this
      exact this
    · match i, hp with
      | 0, hp =>
        simp at hp
        subst hp
        exact ⟨by rw [World.cell?_alloc_at _ _ _ _ rfl]; rfl, (ha.below (hal.mono hB)).mono (by simp; omega), fun q hq => may_wf (ma q hq)⟩
      | 1, hp =>
        simp at hp
        subst hp
        exact ⟨by rw [World.cell?_alloc_at _ _ _ _ rfl]; rfl, (hb.below (hal.mono hB)).mono (by simp; omega), fun q hq => may_wf (mb q hq)⟩
      | i + 2, hp => simp at hp
    · simp at hp
      rcases hp with rfl | rfl
      · exact ⟨ma, la⟩
      · exact ⟨mb, lb⟩
  obtain ⟨X, hX⟩ : ∃ X, edgesY a b = X := ⟨_, rfl⟩
  rw [hX] at RW2
  have hXl : X.length ≤ 400000 := by
    have h1 := ysL_len [(Value.slice s1 a.length c1, a), (Value.slice s2 b.length c2, b)] (fun p hp => by
      simp at hp
      rcases hp with rfl | rfl
      · exact la
      · exact lb)
    have h2 := onceI_len (ysL [a, b])
    rw [ys_two, hX] at h2
    rw [show sndL [(Value.slice s1 a.length c1, a), (Value.slice s2 b.length c2, b)] = [a, b] from rfl] at h1
    simp only [List.length_cons, List.length_nil] at h1
    omega
  have hXr : Rise X := by rw [← hX]; exact edgesY_rise a b
  have hXin : ∀ x ∈ X, InM x := by rw [← hX]; exact edgesY_in ma mb
  have hst : BLoop a b what c more R X 0 [] 0 [] := ⟨by rw [List.drop_zero, ← hX]; exact hR, BD.first, fun h => absurd rfl h, .inl rfl, .inr rfl⟩
  obtain ⟨hcw, hg0⟩ := BD.at_ hI
  have hSC := fun y => spans_can ma.sane mb.sane what y
  have hSI := fun y => spans_in ma mb what y
  have hSL : ∀ y, (spansP a b what y).length ≤ 200000 := fun y => by have := spans_len2 ma.sane mb.sane what y; omega
  clear RW hX hR ha hb
  replace RA := Lib.hid RA
  replace RB := Lib.hid RB
  replace MX := Lib.hid MX
  replace RW2 := Lib.hid RW2
  replace BD := Lib.hid BD
  replace hXr := Lib.hid hXr
  replace hXin := Lib.hid hXin
  replace hst := Lib.hid hst
  replace hSC := Lib.hid hSC
  replace hSI := Lib.hid hSI
  replace hSL := Lib.hid hSL
  replace hw := Lib.hid hw
  replace hI := Lib.hid hI
  go_enter Try.func57, Try.ntmps57
  go_wp2_with (first
    | (go_at_call 44; (with_reducible refine (RW2.out).mono ?_); rintro e w4 ⟨hb4, v4, rfl, ow4⟩)
    | go_in)
  have hb04 : Below w.heap.size w w4 := ((Below.refl _ _).alloc (Nat.le_refl _) _).trans (hb4.mono (by simp))
  have hI4 := BD.out.stay hI.out hb04
  have hY := RowX.new (c := c) (gb := g0) (enc := encI) (sz := 1) encI_len (by omega) ow4 (by simp; omega) (fun k hk => by have := (hg0 k hk).2; simp; omega)
  obtain ⟨s4, c4, rfl⟩ := own_slice ow4
  obtain ⟨L, hL⟩ : ∃ L, X.length = L := ⟨_, rfl⟩
  rw [hL] at hY hXl ⊢
  have hBB := hb04.mono hB
  replace hL := Lib.hid hL
  clear hb4 ow4
  go_loopw [9, 10, 11] (fun lv fv iv wr => ∃ (i : Nat) (last : List Sp) (frm : Int) (d : List Bd) (g : Option Nat), i ≤ L ∧ iv = .int .i64 i ∧ fv = .int .i64 frm ∧ Hid (BLoop a b what c more R X i last frm d) ∧ Hid (RowX c g 2 encS wr lv last) ∧ Hid (RowX c g 1 encI wr (.slice s4 L c4) X) ∧ Hid (I d g wr) ∧ Below B0 w wr) (fun _ _ iv _ => L - (intOf iv).toNat)
  case atStart => exact ⟨0, [], 0, [], g0, Nat.zero_le _, rfl, rfl, hst, Lib.hid (RowX.nil _ _ _ _ _), Lib.hid hY, Lib.hid hI4, hBB⟩
  case round =>
    obtain ⟨i, last, frm, d, g, hi, rfl, rfl, hbl, hlast, hys, hIr, hbr⟩ := hrel
    clear hst hI hI4 hY hBB hb04 hg0
    have zr := hbr.size
    have zB := Nat.le_trans hB zr
    obtain ⟨sl, cl, rfl, hlm⟩ := hlast.out.1.shape
    obtain ⟨hcr, hgr⟩ := BD.out.at_ hIr.out
    obtain ⟨q, hq⟩ : ∃ q, last.length = q := ⟨_, rfl⟩
    have hql : q ≤ 200000 := by
      rw [← hq]
      rcases hbl.out.row_ with h | ⟨y, h⟩
      · rw [h]; simp
      · rw [h]; exact hSL.out y
    rw [hq] at hlm hlast ⊢
    replace hq := Lib.hid hq
    replace hgr := Lib.hid hgr
    by_cases hiL : i + 1 < L
    · have hopen := row_in hys.out.1
      rw [hL.out] at hopen
      obtain ⟨b', o, cap', e, hb', _, _, hel⟩ := hopen (by omega)
      simp at e
      obtain ⟨rfl, rfl⟩ := e
      obtain ⟨y, hy⟩ := get_at hL.out (show i < L by omega)
      obtain ⟨z, hz⟩ := get_at hL.out hiL
      have g0 := hel i y hy
      have g1 := hel (i + 1) z hz
      have hyin := hXin.out y (List.mem_of_getElem? hy)
      obtain ⟨y0, y1⟩ := id hyin
      have hrun := hbl.out.run
      rw [run_step hy hz] at hrun
      have RA := Lib.hid (RA.out y hyin)
      have RB := Lib.hid (RB.out y hyin)
      have MX := Lib.hid (MX.out y)
      have hNC := hSC.out y
      have hNI := hSI.out y
      have hNL := hSL.out y
      have hyh := Lib.hid hy
      (try simp only at hrun)
      have hNow : ∃ y', spansP a b what y = spansP a b what y' := ⟨y, rfl⟩
      generalize spansP a b what y = N at MX hrun hNC hNI hNL hNow
      have hii : (i : Int) < L := by omega
      have hii2 : (i : Int) + 1 < L := by omega
      replace hrun := Lib.hid hrun
      replace hNC := Lib.hid hNC
      replace hNI := Lib.hid hNI
      replace hNow := Lib.hid hNow
      clear hopen hel hz hy hyin
      go_wp2
      refine held_begin (Held wr 0 []) (by kernel_rfl) ⟨Below.drew (Below.refl _ _), Nat.le_refl _, trivial⟩ (fun hS => ?_)
      (first | (refine' held_do (i := 0) _ (by kernel_rfl) (by kernel_rfl) (by kernel_rfl) _ _ hS _ _; rotate_left 2; (focus (simp only [List.getElem?_toArray, List.getElem?_cons_succ, List.getElem?_cons_zero]; rfl)); (focus exact fun _ _ _ h => h); (focus rfl); (focus (intro w1 hSS R hR; have hc := hSS.2.2; (try simp only [Cells] at hc); obtain ⟨hco, hfo⟩ := bcell hSS.1; go_simp; (try go_bits); exact hR)); simp only [Act.put, List.setIfInBounds_toArray, List.set_cons_zero, List.set_cons_succ]) | (refine' held_pass (i := 0) _ (by kernel_rfl) (by kernel_rfl) (by kernel_rfl) _ _ hS _; rotate_left; (focus (simp only [List.getElem?_toArray, List.getElem?_cons_succ, List.getElem?_cons_zero]; rfl)); (focus exact fun _ _ _ h => h); (focus rfl); simp only [Act.put, List.setIfInBounds_toArray, List.set_cons_zero, List.set_cons_succ]))
      (first | (refine' held_do (i := 1) _ (by kernel_rfl) (by kernel_rfl) (by kernel_rfl) _ _ hS _ _; rotate_left 2; (focus (simp only [List.getElem?_toArray, List.getElem?_cons_succ, List.getElem?_cons_zero]; rfl)); (focus exact fun _ _ _ h => h); (focus rfl); (focus (intro w1 hSS R hR; have hc := hSS.2.2; (try simp only [Cells] at hc); obtain ⟨hco, hfo⟩ := bcell hSS.1; go_simp; (try go_bits); exact hR)); simp only [Act.put, List.setIfInBounds_toArray, List.set_cons_zero, List.set_cons_succ]) | (refine' held_pass (i := 1) _ (by kernel_rfl) (by kernel_rfl) (by kernel_rfl) _ _ hS _; rotate_left; (focus (simp only [List.getElem?_toArray, List.getElem?_cons_succ, List.getElem?_cons_zero]; rfl)); (focus exact fun _ _ _ h => h); (focus rfl); simp only [Act.put, List.setIfInBounds_toArray, List.set_cons_zero, List.set_cons_succ]))
      (first | (refine' held_do (i := 2) _ (by kernel_rfl) (by kernel_rfl) (by kernel_rfl) _ _ hS _ _; rotate_left 2; (focus (simp only [List.getElem?_toArray, List.getElem?_cons_succ, List.getElem?_cons_zero]; rfl)); (focus exact fun _ _ _ h => h); (focus rfl); (focus (intro w1 hSS R hR; have hc := hSS.2.2; (try simp only [Cells] at hc); obtain ⟨hco, hfo⟩ := bcell hSS.1; go_simp; (try go_bits); exact hR)); simp only [Act.put, List.setIfInBounds_toArray, List.set_cons_zero, List.set_cons_succ]) | (refine' held_pass (i := 2) _ (by kernel_rfl) (by kernel_rfl) (by kernel_rfl) _ _ hS _; rotate_left; (focus (simp only [List.getElem?_toArray, List.getElem?_cons_succ, List.getElem?_cons_zero]; rfl)); (focus exact fun _ _ _ h => h); (focus rfl); simp only [Act.put, List.setIfInBounds_toArray, List.set_cons_zero, List.set_cons_succ]))
      (first | (refine' held_do (i := 3) _ (by kernel_rfl) (by kernel_rfl) (by kernel_rfl) _ _ hS _ _; rotate_left 2; (focus (simp only [List.getElem?_toArray, List.getElem?_cons_succ, List.getElem?_cons_zero]; rfl)); (focus exact fun _ _ _ h => h); (focus rfl); (focus (intro w1 hSS R hR; have hc := hSS.2.2; (try simp only [Cells] at hc); obtain ⟨hco, hfo⟩ := bcell hSS.1; go_simp; (try go_bits); exact hR)); simp only [Act.put, List.setIfInBounds_toArray, List.set_cons_zero, List.set_cons_succ]) | (refine' held_pass (i := 3) _ (by kernel_rfl) (by kernel_rfl) (by kernel_rfl) _ _ hS _; rotate_left; (focus (simp only [List.getElem?_toArray, List.getElem?_cons_succ, List.getElem?_cons_zero]; rfl)); (focus exact fun _ _ _ h => h); (focus rfl); simp only [Act.put, List.setIfInBounds_toArray, List.set_cons_zero, List.set_cons_succ]))
      (first | (refine' held_do (i := 4) _ (by kernel_rfl) (by kernel_rfl) (by kernel_rfl) _ _ hS _ _; rotate_left 2; (focus (simp only [List.getElem?_toArray, List.getElem?_cons_succ, List.getElem?_cons_zero]; rfl)); (focus exact fun _ _ _ h => h); (focus rfl); (focus (intro w1 hSS R hR; have hc := hSS.2.2; (try simp only [Cells] at hc); obtain ⟨hco, hfo⟩ := bcell hSS.1; go_simp; (try go_bits); exact hR)); simp only [Act.put, List.setIfInBounds_toArray, List.set_cons_zero, List.set_cons_succ]) | (refine' held_pass (i := 4) _ (by kernel_rfl) (by kernel_rfl) (by kernel_rfl) _ _ hS _; rotate_left; (focus (simp only [List.getElem?_toArray, List.getElem?_cons_succ, List.getElem?_cons_zero]; rfl)); (focus exact fun _ _ _ h => h); (focus rfl); simp only [Act.put, List.setIfInBounds_toArray, List.set_cons_zero, List.set_cons_succ]))
      (first | (refine' held_do (i := 6) _ (by kernel_rfl) (by kernel_rfl) (by kernel_rfl) _ _ hS _ _; rotate_left 2; (focus (simp only [List.getElem?_toArray, List.getElem?_cons_succ, List.getElem?_cons_zero]; rfl)); (focus exact fun _ _ _ h => h); (focus rfl); (focus (intro w1 hSS R hR; have hc := hSS.2.2; (try simp only [Cells] at hc); obtain ⟨hco, hfo⟩ := bcell hSS.1; go_simp; (try go_bits); exact hR)); simp only [Act.put, List.setIfInBounds_toArray, List.set_cons_zero, List.set_cons_succ]) | (refine' held_pass (i := 6) _ (by kernel_rfl) (by kernel_rfl) (by kernel_rfl) _ _ hS _; rotate_left; (focus (simp only [List.getElem?_toArray, List.getElem?_cons_succ, List.getElem?_cons_zero]; rfl)); (focus exact fun _ _ _ h => h); (focus rfl); simp only [Act.put, List.setIfInBounds_toArray, List.set_cons_zero, List.set_cons_succ]))
      (first | (refine' held_do (i := 7) _ (by kernel_rfl) (by kernel_rfl) (by kernel_rfl) _ _ hS _ _; rotate_left 2; (focus (simp only [List.getElem?_toArray, List.getElem?_cons_succ, List.getElem?_cons_zero]; rfl)); (focus exact fun _ _ _ h => h); (focus rfl); (focus (intro w1 hSS R hR; have hc := hSS.2.2; (try simp only [Cells] at hc); obtain ⟨hco, hfo⟩ := bcell hSS.1; go_simp; (try go_bits); exact hR)); simp only [Act.put, List.setIfInBounds_toArray, List.set_cons_zero, List.set_cons_succ]) | (refine' held_pass (i := 7) _ (by kernel_rfl) (by kernel_rfl) (by kernel_rfl) _ _ hS _; rotate_left; (focus (simp only [List.getElem?_toArray, List.getElem?_cons_succ, List.getElem?_cons_zero]; rfl)); (focus exact fun _ _ _ h => h); (focus rfl); simp only [Act.put, List.setIfInBounds_toArray, List.set_cons_zero, List.set_cons_succ]))
      (first | (refine' held_do (i := 8) _ (by kernel_rfl) (by kernel_rfl) (by kernel_rfl) _ _ hS _ _; rotate_left 2; (focus (simp only [List.getElem?_toArray, List.getElem?_cons_succ, List.getElem?_cons_zero]; rfl)); (focus exact fun _ _ _ h => h); (focus rfl); (focus (intro w1 hSS R hR; have hc := hSS.2.2; (try simp only [Cells] at hc); obtain ⟨hco, hfo⟩ := bcell hSS.1; go_simp; (try go_bits); exact hR)); simp only [Act.put, List.setIfInBounds_toArray, List.set_cons_zero, List.set_cons_succ]) | (refine' held_pass (i := 8) _ (by kernel_rfl) (by kernel_rfl) (by kernel_rfl) _ _ hS _; rotate_left; (focus (simp only [List.getElem?_toArray, List.getElem?_cons_succ, List.getElem?_cons_zero]; rfl)); (focus exact fun _ _ _ h => h); (focus rfl); simp only [Act.put, List.setIfInBounds_toArray, List.set_cons_zero, List.set_cons_succ]))
      (first | (refine' held_do (i := 9) _ (by kernel_rfl) (by kernel_rfl) (by kernel_rfl) _ _ hS _ _; rotate_left 2; (focus (simp only [List.getElem?_toArray, List.getElem?_cons_succ, List.getElem?_cons_zero]; rfl)); (focus exact fun _ _ _ h => h); (focus rfl); (focus (intro w1 hSS R hR; have hc := hSS.2.2; (try simp only [Cells] at hc); obtain ⟨hco, hfo⟩ := bcell hSS.1; go_simp; (try go_bits); exact hR)); simp only [Act.put, List.setIfInBounds_toArray, List.set_cons_zero, List.set_cons_succ]) | (refine' held_pass (i := 9) _ (by kernel_rfl) (by kernel_rfl) (by kernel_rfl) _ _ hS _; rotate_left; (focus (simp only [List.getElem?_toArray, List.getElem?_cons_succ, List.getElem?_cons_zero]; rfl)); (focus exact fun _ _ _ h => h); (focus rfl); simp only [Act.put, List.setIfInBounds_toArray, List.set_cons_zero, List.set_cons_succ]))
      (first | (refine' held_do (i := 10) _ (by kernel_rfl) (by kernel_rfl) (by kernel_rfl) _ _ hS _ _; rotate_left 2; (focus (simp only [List.getElem?_toArray, List.getElem?_cons_succ, List.getElem?_cons_zero]; rfl)); (focus exact fun _ _ _ h => h); (focus rfl); (focus (intro w1 hSS R hR; have hc := hSS.2.2; (try simp only [Cells] at hc); obtain ⟨hco, hfo⟩ := bcell hSS.1; go_simp; (try go_bits); exact hR)); simp only [Act.put, List.setIfInBounds_toArray, List.set_cons_zero, List.set_cons_succ]) | (refine' held_pass (i := 10) _ (by kernel_rfl) (by kernel_rfl) (by kernel_rfl) _ _ hS _; rotate_left; (focus (simp only [List.getElem?_toArray, List.getElem?_cons_succ, List.getElem?_cons_zero]; rfl)); (focus exact fun _ _ _ h => h); (focus rfl); simp only [Act.put, List.setIfInBounds_toArray, List.set_cons_zero, List.set_cons_succ]))
      (first | (refine' held_do (i := 12) _ (by kernel_rfl) (by kernel_rfl) (by kernel_rfl) _ _ hS _ _; rotate_left 2; (focus (simp only [List.getElem?_toArray, List.getElem?_cons_succ, List.getElem?_cons_zero]; rfl)); (focus exact fun _ _ _ h => h); (focus rfl); (focus (intro w1 hSS R hR; have hc := hSS.2.2; (try simp only [Cells] at hc); obtain ⟨hco, hfo⟩ := bcell hSS.1; go_simp; (try go_bits); exact hR)); simp only [Act.put, List.setIfInBounds_toArray, List.set_cons_zero, List.set_cons_succ]) | (refine' held_pass (i := 12) _ (by kernel_rfl) (by kernel_rfl) (by kernel_rfl) _ _ hS _; rotate_left; (focus (simp only [List.getElem?_toArray, List.getElem?_cons_succ, List.getElem?_cons_zero]; rfl)); (focus exact fun _ _ _ h => h); (focus rfl); simp only [Act.put, List.setIfInBounds_toArray, List.set_cons_zero, List.set_cons_succ]))
      (refine' held_one (i := 5) _ (by kernel_rfl) _ _; rotate_left; (focus (simp only [List.getElem?_toArray, List.getElem?_cons_succ, List.getElem?_cons_zero]; rfl)); (focus rfl); intro K hK; go_simp)
      go_at_call 45
      (with_reducible refine (RA.out _ (Below.drew hbr)).mono ?_)
      rintro e w5 ⟨hb5, v5, rfl, hr5⟩
      have hS5 := hS.below hb5
      refine hK _ _ hS5 ?_
      clear hK
      (try simp only [Act.put, List.setIfInBounds_toArray, List.set_cons_zero, List.set_cons_succ])
      (refine' held_one (i := 11) _ (by kernel_rfl) _ _; rotate_left; (focus (simp only [List.getElem?_toArray, List.getElem?_cons_succ, List.getElem?_cons_zero]; rfl)); (focus rfl); intro K hK; go_simp)
      go_at_call 45
      (with_reducible refine (RB.out _ (hbr.trans (hS5.old.mono zB))).mono ?_)
      rintro e w6 ⟨hb6, v6, rfl, hr6⟩
      have hS6 := hS5.below hb6
      refine hK _ _ hS6 ?_
      clear hK
      (try simp only [Act.put, List.setIfInBounds_toArray, List.set_cons_zero, List.set_cons_succ])
      (refine' held_one (i := 13) _ (by kernel_rfl) _ _; rotate_left; (focus (simp only [List.getElem?_toArray, List.getElem?_cons_succ, List.getElem?_cons_zero]; rfl)); (focus rfl); intro K hK; go_simp)
      go_at_call 76
      (with_reducible refine (MX.out _ _ _ ((hr5.below hb6).mono hb6.size) hr6).mono ?_)
      rintro e w7 ⟨hb7, v7, rfl, ow7⟩
      have hS7 := hS6.below hb7
      refine hK _ _ hS7 ?_
      clear hK
      (try simp only [Act.put, List.setIfInBounds_toArray, List.set_cons_zero, List.set_cons_succ])
      (refine' held_one (i := 14) _ (by kernel_rfl) _ _; rotate_left; (focus (simp only [List.getElem?_toArray, List.getElem?_cons_succ, List.getElem?_cons_zero]; rfl)); (focus rfl); intro K hK; go_simp)
      refine hK _ _ hS7 ?_
      clear hK
      (try simp only [Act.put, List.setIfInBounds_toArray, List.set_cons_zero, List.set_cons_succ])
      refine wpAnyH_done (by kernel_rfl) ?_ _
      have hr7 := hS7.old
      have z67 := hS6.old.size
      have hnew := RowX.new (c := c) (gb := g) (enc := encS) (sz := 2) encS_len (by omega) ow7 (by omega) (fun k hk => by have := (hgr.out k hk).2; omega)
      have hla7 := hlast.out.stay hr7
      have E := equalS_any N last v7 (.slice sl q cl) w7 hnew.1 hla7.1 (by omega) (by have := hq.out; omega)
      rw [eqSs_dec] at E
      obtain ⟨s7, c7, rfl⟩ := own_slice ow7
      replace hnew := Lib.hid hnew
      replace E := Lib.hid E
      clear hS hS5 hS6 hS7 hb5 hb6 hb7 hr5 hr6 ow7 hla7 RA RB MX
      have zr7 := hr7.size
      by_cases hNl : N = last
      · have E := E.out
        rw [show decide (N = last) = true by simpa using hNl] at E
        replace E := Lib.hid E
        have hNlh := Lib.hid hNl
        clear hNl
        go_wp2_with (first
          | (go_at_call 77; (with_reducible refine (E.out).mono ?_); rintro e w8 ⟨rfl, hb8⟩)
          | go_in)
        have hr8 := hr7.trans (hb8.mono zr7)
        go_roundw
        case rel =>
          have hrun := hrun.out
          rw [if_pos hNlh.out] at hrun
          refine ⟨i + 1, last, frm, d, g, by omega, by go_num, rfl, Lib.hid ⟨hrun, hbl.out.more_, fun h => ?_, hbl.out.row_, .inl (by rw [hL.out]; omega)⟩, Lib.hid (hlast.out.stay hr8), Lib.hid (hys.out.stay hr8), Lib.hid (BD.out.stay hIr.out hr8), hbr.trans (hr8.mono zB)⟩
          obtain ⟨h1, j, h2, h3⟩ := hbl.out.from_ h
          exact ⟨h1, j, by omega, h3⟩
        case measure => simp [intOf]; omega
      · have E := E.out
        rw [show decide (N = last) = false by simpa using hNl] at E
        replace E := Lib.hid E
        have hrun := hrun.out
        rw [if_neg hNl] at hrun
        by_cases hq0 : q = 0
        · have hl0 : last = [] := List.length_eq_zero_iff.1 (hq.out.trans hq0)
          subst hq0
          rw [if_pos hl0, List.nil_append] at hrun
          replace hrun := Lib.hid hrun
          go_upto_region 9 with (first
            | (go_at_call 77; (with_reducible refine (E.out).mono ?_); rintro e w8 ⟨rfl, hb8⟩)
            | go_in)
          have hr8 := hr7.trans (hb8.mono zr7)
          have z8 := hb8.size
          obtain ⟨hc8, hf8⟩ := bcell hr8
          have y8 : b' < w8.heap.size := by have := hr8.size; omega
          refine wp_region_steady (Held w8 0 []) (by kernel_rfl) (by kernel_rfl) ⟨(by repeat (first | exact Below.refl _ _ | assumption | refine Below.drew ?_ | refine Below.alloc ?_ (by (try simp) <;> omega) _ | refine Below.setCell ?_ (by (try simp) <;> omega) _ | (refine Below.trans ?_ (Below.mono (by assumption) (by (try simp) <;> omega))))), (by (try simp) <;> omega), (by first | exact trivial | (simp only [Cells]; go_simp))⟩ ?_
          repeat (first | (refine' wpSteady_do _ _ _; rotate_left; (focus rfl); (focus (intro w1 hS R hR; have hc := hS.cells; simp only [Cells] at hc; obtain ⟨hco, hfo⟩ := bcell hS.old; go_simp; (try go_bits); first | exact hR _ hS | fail)); simp only [Act.put, List.setIfInBounds_toArray, List.set_cons_zero, List.set_cons_succ]) | (refine wpSteady_pass ?_ ?_; (focus rfl); simp only [Act.put, List.setIfInBounds_toArray, List.set_cons_zero, List.set_cons_succ]))
          refine wpSteady_nil (fun uA hSA => ?_)
          have hcA := hSA.cells; have hbA := hSA.old; have hzA := hSA.size; clear hSA; simp only [Cells] at hcA; obtain ⟨hcoA, hfoA⟩ := bcell hbA
          have hrA := hr8.trans (hbA.mono hr8.size)
          have h7A := hb8.trans (hbA.mono z8)
          go_wp2
          go_roundw
          case rel =>
            refine ⟨i + 1, N, y, d, g, by omega, by go_num, rfl, Lib.hid ⟨hrun.out, hbl.out.more_, fun _ => ⟨⟨y0, y1⟩, i, by omega, hyh.out⟩, .inr hNow.out, .inl (by rw [hL.out]; omega)⟩, Lib.hid (hnew.out.stay h7A), Lib.hid (hys.out.stay hrA), Lib.hid (BD.out.stay hIr.out hrA), hbr.trans (hrA.mono zB)⟩
          case measure => simp [intOf]; omega
        · have hl0 : last ≠ [] := by rintro rfl; have := hq.out; simp at this; omega
          rw [if_neg hl0] at hrun
          obtain ⟨⟨f0, f1⟩, j, hj, hjf⟩ := hbl.out.from_ hl0
          have hfy := rise_lt hXr.out hj hjf hyh.out
          have hq1 : (0 : Int) < q := by omega
          have hlC : CanS last := by
            rcases hbl.out.row_ with h | ⟨y', h⟩
            · exact absurd h hl0
            · rw [h]; exact hSC.out y'
          have hlI : ∀ s ∈ last, InM s.1 ∧ InM s.2 := by
            rcases hbl.out.row_ with h | ⟨y', h⟩
            · exact absurd h hl0
            · rw [h]; exact hSI.out y'
          rw [List.singleton_append] at hrun
          have C := fun W (h : Below wr.heap.size wr W) => BD.out.call frm (y - frm) (.slice sl q cl) last (BD.out.stay hIr.out h) (hlast.out.stay h) hbl.out.more_ ⟨f0, f1⟩ (by rw [show frm + (y - frm) = y by omega]; exact ⟨y0, y1⟩) (by omega) hlC hlI (by have := hq.out; omega) ⟨_, hrun⟩
          obtain ⟨D, hD⟩ : ∃ D, d ++ [(frm, y - frm, last)] = D := ⟨_, rfl⟩
          unfold runM at hrun
          rw [hD] at C hrun
          obtain ⟨mb', hmb⟩ : ∃ x, more D = x := ⟨_, rfl⟩
          rw [hmb] at C hrun
          replace C := Lib.hid C
          replace hmb := Lib.hid hmb
          clear hlC hlI hD hjf
          cases mb'
          · rw [if_neg (by decide)] at hrun
            subst hrun
            go_wp2_with (first
              | (go_at_call 77; (with_reducible refine (E.out).mono ?_); rintro e w8 ⟨rfl, hb8⟩; have hr8 := hr7.trans (hb8.mono zr7); obtain ⟨hc8, hf8⟩ := bcell hr8; have z8 := hr8.size; have y8 : b' < w8.heap.size := (by omega))
              | (go_at_fn fb; (with_reducible refine (C.out _ hr8).mono ?_); rintro e w9 ⟨g', rfl, hI9, hk9, hg9⟩)
              | go_in)
            go_end0
            exact ⟨rfl, hbr.trans ((hr8.mono zB).trans (hk9.below (B := B0) hBc (by omega) (fun k hk => (hgr.out k hk).1))), g', hI9⟩
          · rw [if_pos rfl] at hrun
            replace hrun := Lib.hid hrun
            go_upto_region 9 with (first
              | (go_at_call 77; (with_reducible refine (E.out).mono ?_); rintro e w8 ⟨rfl, hb8⟩; have hr8 := hr7.trans (hb8.mono zr7); obtain ⟨hc8, hf8⟩ := bcell hr8; have z8 := hr8.size; have y8 : b' < w8.heap.size := (by omega))
              | (go_at_fn fb; (with_reducible refine (C.out _ hr8).mono ?_); rintro e w9 ⟨g', rfl, hI9, hk9, hg9⟩)
              | go_in)
            have hbB9 : Below B0 w w9 := hbr.trans ((hr8.mono zB).trans (hk9.below (B := B0) hBc (by omega) (fun k hk => (hgr.out k hk).1)))
            have hys9 := (hys.out.stay hr8).kept hk9 hg9
            have hnew9 := (hnew.out.stay hb8).kept hk9 hg9
            have hopen := row_in hys9.1
            rw [hL.out] at hopen
            obtain ⟨b2, o2, cap2, e2, hb2, _, _, hel2⟩ := hopen (by omega)
            simp at e2
            obtain ⟨⟨rfl, rfl⟩, rfl⟩ := e2
            have g9 := hel2 i y hyh.out
            replace hys9 := Lib.hid hys9
            replace hnew9 := Lib.hid hnew9
            replace hg9 := Lib.hid hg9
            replace hk9 := Lib.hid hk9
            clear hopen hel2 hc8 hf8 hcr
            refine wp_region_steady (Held w9 0 []) (by kernel_rfl) (by kernel_rfl) ⟨(by repeat (first | exact Below.refl _ _ | assumption | refine Below.drew ?_ | refine Below.alloc ?_ (by (try simp) <;> omega) _ | refine Below.setCell ?_ (by (try simp) <;> omega) _ | (refine Below.trans ?_ (Below.mono (by assumption) (by (try simp) <;> omega))))), (by (try simp) <;> omega), (by first | exact trivial | (simp only [Cells]; go_simp))⟩ ?_
            repeat (first | (refine' wpSteady_do _ _ _; rotate_left; (focus rfl); (focus (intro w1 hS R hR; have hc := hS.cells; simp only [Cells] at hc; obtain ⟨hco, hfo⟩ := bcell hS.old; go_simp; (try go_bits); first | exact hR _ hS | fail)); simp only [Act.put, List.setIfInBounds_toArray, List.set_cons_zero, List.set_cons_succ]) | (refine wpSteady_pass ?_ ?_; (focus rfl); simp only [Act.put, List.setIfInBounds_toArray, List.set_cons_zero, List.set_cons_succ]))
            refine wpSteady_nil (fun uA hSA => ?_)
            have hcA := hSA.cells; have hbA := hSA.old; have hzA := hSA.size; clear hSA; simp only [Cells] at hcA; obtain ⟨hcoA, hfoA⟩ := bcell hbA
            go_wp2
            go_roundw
            case rel =>
              refine ⟨i + 1, N, y, D, g', by omega, by go_num, rfl, Lib.hid ⟨hrun.out, hmb.out, fun _ => ⟨⟨y0, y1⟩, i, by omega, hyh.out⟩, .inr hNow.out, .inl (by rw [hL.out]; omega)⟩, Lib.hid (hnew9.out.stay hbA), Lib.hid (hys9.out.stay hbA), Lib.hid (BD.out.stay hI9 hbA), hbB9.trans (hbA.mono (by have := hbB9.size; omega))⟩
            case measure => simp [intOf]; omega
    · have hrun := hbl.out.run
      by_cases hq0 : q = 0
      · have hl0 : last = [] := List.length_eq_zero_iff.1 (hq.out.trans hq0)
        subst hq0
        have hRd : R = d := by
          rw [← hrun]
          by_cases hiL2 : i < L
          · obtain ⟨y, hy⟩ := get_at hL.out hiL2
            rw [run_last hy (by have := hL.out; omega), if_pos hl0]
          · rw [List.drop_eq_nil_of_le (by have := hL.out; omega)]
            rfl
        have hii2 : ¬ (i : Int) + 1 < L := by omega
        clear hrun
        subst hRd
        go_wp2
        go_end0
        exact ⟨rfl, hbr, g, hIr.out⟩
      · have hl0 : last ≠ [] := by rintro rfl; have := hq.out; simp at this; omega
        have hiL2 : i < L := by
          rcases hbl.out.in_ with h | h
          · have := hL.out; omega
          · exact absurd h hl0
        obtain rfl : L = i + 1 := by omega
        have hopen := row_in hys.out.1
        rw [hL.out] at hopen
        obtain ⟨b', o, cap', e, hb', _, _, hel⟩ := hopen (by omega)
        simp at e
        obtain ⟨rfl, rfl⟩ := e
        obtain ⟨y, hy⟩ := get_at hL.out (show i < i + 1 by omega)
        have g0 := hel i y hy
        have hyin := hXin.out y (List.mem_of_getElem? hy)
        obtain ⟨y0, y1⟩ := id hyin
        obtain ⟨⟨f0, f1⟩, j, hj, hjf⟩ := hbl.out.from_ hl0
        have hfy := rise_lt hXr.out hj hjf hy
        have hq1 : (0 : Int) < q := by omega
        have hlC : CanS last := by
          rcases hbl.out.row_ with h | ⟨y', h⟩
          · exact absurd h hl0
          · rw [h]; exact hSC.out y'
        have hlI : ∀ s ∈ last, InM s.1 ∧ InM s.2 := by
          rcases hbl.out.row_ with h | ⟨y', h⟩
          · exact absurd h hl0
          · rw [h]; exact hSI.out y'
        have hrun2 := hrun
        rw [run_end hy (by have := hL.out; omega) hl0] at hrun2
        rw [run_last hy (by have := hL.out; omega), if_neg hl0] at hrun
        have C := BD.out.call frm (y - frm) (.slice sl q cl) last hIr.out hlast.out hbl.out.more_ ⟨f0, f1⟩ (by rw [show frm + (y - frm) = y by omega]; exact ⟨y0, y1⟩) (by omega) hlC hlI (by have := hq.out; omega) ⟨_, hrun2⟩
        rw [hrun] at C
        replace C := Lib.hid C
        clear hlC hlI hjf hopen hel hy hrun hrun2
        go_wp2_with (first
          | (go_at_fn fb; (with_reducible refine (C.out).mono ?_); rintro e w9 ⟨g', rfl, hI9, hk9, hg9⟩)
          | go_in)
        go_end0
        exact ⟨rfl, hbr.trans (hk9.below (B := B0) hBc (by omega) (fun k hk => (hgr.out k hk).1)), g', hI9⟩
end Go.Proofs.Ytlklmncjicgbgaa
