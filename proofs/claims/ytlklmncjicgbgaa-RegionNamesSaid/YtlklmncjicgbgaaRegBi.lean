/-
  region.Same.
-/
import Derived.Test.YtlklmncjicgbgaaRegBe
namespace Go.Proofs.Ytlklmncjicgbgaa
open Go.RowKit
set_option linter.unusedVariables false
attribute [local go_sem] vwp vUpon_value vUpon_skip vUpon_enter vUpon_row
set_option linter.unusedSimpArgs false
set_option linter.unusedVariables false
attribute [local go_sem high] neq_span
def sameP (a b : List Re) (y : Int) : Bool := decide (spansP a [] 1 y = spansP b [] 1 y)
theorem all_step {p : Int → Bool} {X : List Int} {i : Nat} {y : Int} (h : X[i]? = some y) : (X.drop i).all p = (p y && (X.drop (i + 1)).all p) := by
  rw [drop_get h]; rfl
set_option maxHeartbeats 4000000 in
set_option maxRecDepth 100000 in
theorem same_any (a b : List Re) (va vb : Value) (w : World) (ha : Row w.heap.size 4 Re.enc w va a) (hb : Row w.heap.size 4 Re.enc w vb b) (wa : WfL a) (wb : WfL b) :
    Calls Try.prog 14 #[va, vb] w fun e w' => e = .returned (.tuple #[.bool (samE a b), .int .i64 (askR a b)]) ∧ Below w.heap.size w w' := by
  obtain ⟨s1, c1, rfl, _⟩ := ha.shape
  obtain ⟨s2, c2, rfl, _⟩ := hb.shape
  have AS := asked2 a b s1 s2 c1 c2 w ha hb wa wb
  have hal : Below w.heap.size w (w.alloc (.cells #[.slice s1 a.length c1, .slice s2 b.length c2] 22)) := (Below.refl _ _).alloc (Nat.le_refl _) _
  unfold samE
  by_cases h0 : askR a b = 0
  · rw [if_pos h0]
    rw [h0] at AS ⊢
    have hca : chkR a = 0 := by unfold askR at h0; by_cases h : chkR a = 0; exact h; rw [if_neg h] at h0; exact h0
    have hcb : chkR b = 0 := by unfold askR at h0; rw [if_pos hca] at h0; exact h0
    obtain ⟨ma, la⟩ := chkR_may hca
    obtain ⟨mb, lb⟩ := chkR_may hcb
    have RW : ∀ w1, Below w.heap.size w w1 → Calls Try.prog 44 #[.slice (some ⟨w1.heap.size, 0, none⟩) 2 2] (w1.alloc (.cells #[.slice s1 a.length c1, .slice s2 b.length c2] 22)) (RowsPost (edgesY a b) (w1.alloc (.cells #[.slice s1 a.length c1, .slice s2 b.length c2] 22))) := fun w1 h => by
      have hal1 : Below w1.heap.size w1 (w1.alloc (.cells #[.slice s1 a.length c1, .slice s2 b.length c2] 22)) := (Below.refl _ _).alloc (Nat.le_refl _) _
      have := rows_any [(.slice s1 a.length c1, a), (.slice s2 b.length c2, b)] w1.heap.size 2 (w1.alloc (.cells #[.slice s1 a.length c1, .slice s2 b.length c2] 22)) (Nat.le_refl _) ⟨rfl, by simp, fun i p hp => ?_⟩ (fun p hp => ?_)
      · rw [show sndL [(Value.slice s1 a.length c1, a), (Value.slice s2 b.length c2, b)] = [a, b] from rfl, ys_two] at this
        exact this
      · match i, hp with
        | 0, hp =>
          simp at hp
          subst hp
          exact ⟨by rw [World.cell?_alloc_at _ _ _ _ rfl]; rfl, (((ha.below h).mono h.size).below hal1).mono (by simp), fun q hq => may_wf (ma q hq)⟩
        | 1, hp =>
          simp at hp
          subst hp
          exact ⟨by rw [World.cell?_alloc_at _ _ _ _ rfl]; rfl, (((hb.below h).mono h.size).below hal1).mono (by simp), fun q hq => may_wf (mb q hq)⟩
        | i + 2, hp => simp at hp
      · simp at hp
        rcases hp with rfl | rfl
        · exact ⟨ma, Nat.le_trans la (by omega)⟩
        · exact ⟨mb, Nat.le_trans lb (by omega)⟩
    have RA := fun y (hy : InM y) W (h : Below w.heap.size w W) => row_any a y _ W ((ha.below h).mono h.size) ma (by omega) hy
    have RB := fun y (hy : InM y) W (h : Below w.heap.size w W) => row_any b y _ W ((hb.below h).mono h.size) mb (by omega) hy
    obtain ⟨X, hX⟩ : ∃ X, edgesY a b = X := ⟨_, rfl⟩
    have hXl : X.length ≤ 400000 := by
      have h1 := ysL_len [(Value.slice s1 a.length c1, a), (Value.slice s2 b.length c2, b)] (fun p hp => by
        simp at hp
        rcases hp with rfl | rfl
        · show a.length ≤ 100000; omega
        · show b.length ≤ 100000; omega)
      have h2 := onceI_len (ysL [a, b])
      rw [ys_two, hX] at h2
      rw [show sndL [(Value.slice s1 a.length c1, a), (Value.slice s2 b.length c2, b)] = [a, b] from rfl] at h1
      simp only [List.length_cons, List.length_nil] at h1
      omega
    have hXin : ∀ x ∈ X, InM x := by rw [← hX]; exact edgesY_in ma mb
    obtain ⟨R, hR⟩ : ∃ R, sameR a b = R := ⟨_, rfl⟩
    have hgo : (X.drop 0).all (sameP a b) = R := by rw [List.drop_zero, ← hX]; exact hR
    have hSA : ∀ y, (spansP a [] 1 y).length ≤ 200000 := fun y => by have := spans_len2 ma.sane sane_nil 1 y; simp at this; omega
    have hSB : ∀ y, (spansP b [] 1 y).length ≤ 200000 := fun y => by have := spans_len2 mb.sane sane_nil 1 y; simp at this; omega
    rw [hX] at RW
    rw [hR]
    replace AS := Lib.hid AS
    replace RW := Lib.hid RW
    replace RA := Lib.hid RA
    replace RB := Lib.hid RB
    replace hXin := Lib.hid hXin
    replace hgo := Lib.hid hgo
    replace hSA := Lib.hid hSA
    replace hSB := Lib.hid hSB
    clear ha hb hR hX
    go_enter Try.func14, Try.ntmps14
    go_wp2
    go_step3
    go_wp2_with (first
      | (go_at_call 43; (with_reducible refine (AS.out).mono ?_); rintro e w1 ⟨rfl, hb1⟩; have hb01 := hal.trans (hb1.mono hal.size))
      | (go_at_call 44; (with_reducible refine ((RW.out _ hb01)).mono ?_); rintro e w4 ⟨hb4, v4, rfl, ow4⟩)
      | go_in)
    have hb14 : Below w1.heap.size w1 w4 := ((Below.refl _ _).alloc (Nat.le_refl _) _).trans (hb4.mono (by simp))
    have hb04 := hb01.trans (hb14.mono hb01.size)
    have hX4 := fun (wr : World) (hb : Below w4.heap.size w4 wr) h0 => row_in ((ow4.row (Nat.le_refl _)).below hb) h0
    obtain ⟨s4, c4, rfl⟩ := own_slice ow4
    obtain ⟨L, hL⟩ : ∃ L, X.length = L := ⟨_, rfl⟩
    rw [hL] at hX4 hXl ⊢
    have z04 := hb04.size
    replace hX4 := Lib.hid hX4
    replace hL := Lib.hid hL
    clear ow4 hb1 hb4 hb14 hb01 AS RW
    go_step3
    go_wp2
    go_loopw [8, 27] (fun sv iv wr => ∃ i : Nat, i ≤ L ∧ iv = .int .i64 i ∧ sv = .bool true ∧ Hid ((X.drop i).all (sameP a b) = R) ∧ Below w4.heap.size w4 wr) (fun _ iv _ => L - (intOf iv).toNat)
    case atStart => exact ⟨0, Nat.zero_le _, rfl, rfl, hgo, Below.refl _ _⟩
    case round =>
      obtain ⟨i, hi, rfl, rfl, hgo, hb4r⟩ := hrel
      have hbr := hb04.trans (hb4r.mono z04)
      have zr := hbr.size
      have z4r := hb4r.size
      by_cases hiL : i < L
      · obtain ⟨b', o, cap', e, hb', _, _, hel⟩ := hX4.out w4 (Below.refl _ _) (by omega)
        simp at e
        obtain ⟨rfl, rfl⟩ := e
        obtain ⟨y, hy⟩ := get_at hL.out hiL
        have g0 := hel i y hy
        obtain ⟨hcr, hfr⟩ := bcell hb4r
        have hyin := hXin.out y (List.mem_of_getElem? hy)
        have RA := RA.out y hyin
        have RB := RB.out y hyin
        unfold RowPost at RA RB
        have hsa := hSA.out y
        have hsb := hSB.out y
        have hgo := hgo.out
        rw [all_step hy] at hgo
        unfold sameP at hgo
        have hii : (i : Int) < L := by omega
        have yb : b' < wr.heap.size := by omega
        generalize spansP a [] 1 y = S at RA hsa hgo
        generalize spansP b [] 1 y = T at RB hsb hgo
        replace hgo := Lib.hid hgo
        replace RA := Lib.hid RA
        replace RB := Lib.hid RB
        clear hel hy hyin
        go_wp2
        refine held_begin (Held wr 0 []) (by kernel_rfl) ⟨Below.drew (Below.refl _ _), Nat.le_refl _, trivial⟩ (fun hS => ?_)
        (first | (refine' held_do (i := 0) _ (by kernel_rfl) (by kernel_rfl) (by kernel_rfl) _ _ hS _ _; rotate_left 2; (focus (simp only [List.getElem?_toArray, List.getElem?_cons_succ, List.getElem?_cons_zero]; rfl)); (focus exact fun _ _ _ h => h); (focus rfl); (focus (intro w1 hSS R hR; have hc := hSS.2.2; (try simp only [Cells] at hc); obtain ⟨hco, hfo⟩ := bcell hSS.1; go_simp; (try go_bits); exact hR)); simp only [Act.put, List.setIfInBounds_toArray, List.set_cons_zero, List.set_cons_succ]) | (refine' held_pass (i := 0) _ (by kernel_rfl) (by kernel_rfl) (by kernel_rfl) _ _ hS _; rotate_left; (focus (simp only [List.getElem?_toArray, List.getElem?_cons_succ, List.getElem?_cons_zero]; rfl)); (focus exact fun _ _ _ h => h); (focus rfl); simp only [Act.put, List.setIfInBounds_toArray, List.set_cons_zero, List.set_cons_succ]))
        (first | (refine' held_do (i := 1) _ (by kernel_rfl) (by kernel_rfl) (by kernel_rfl) _ _ hS _ _; rotate_left 2; (focus (simp only [List.getElem?_toArray, List.getElem?_cons_succ, List.getElem?_cons_zero]; rfl)); (focus exact fun _ _ _ h => h); (focus rfl); (focus (intro w1 hSS R hR; have hc := hSS.2.2; (try simp only [Cells] at hc); obtain ⟨hco, hfo⟩ := bcell hSS.1; go_simp; (try go_bits); exact hR)); simp only [Act.put, List.setIfInBounds_toArray, List.set_cons_zero, List.set_cons_succ]) | (refine' held_pass (i := 1) _ (by kernel_rfl) (by kernel_rfl) (by kernel_rfl) _ _ hS _; rotate_left; (focus (simp only [List.getElem?_toArray, List.getElem?_cons_succ, List.getElem?_cons_zero]; rfl)); (focus exact fun _ _ _ h => h); (focus rfl); simp only [Act.put, List.setIfInBounds_toArray, List.set_cons_zero, List.set_cons_succ]))
        (first | (refine' held_do (i := 2) _ (by kernel_rfl) (by kernel_rfl) (by kernel_rfl) _ _ hS _ _; rotate_left 2; (focus (simp only [List.getElem?_toArray, List.getElem?_cons_succ, List.getElem?_cons_zero]; rfl)); (focus exact fun _ _ _ h => h); (focus rfl); (focus (intro w1 hSS R hR; have hc := hSS.2.2; (try simp only [Cells] at hc); obtain ⟨hco, hfo⟩ := bcell hSS.1; go_simp; (try go_bits); exact hR)); simp only [Act.put, List.setIfInBounds_toArray, List.set_cons_zero, List.set_cons_succ]) | (refine' held_pass (i := 2) _ (by kernel_rfl) (by kernel_rfl) (by kernel_rfl) _ _ hS _; rotate_left; (focus (simp only [List.getElem?_toArray, List.getElem?_cons_succ, List.getElem?_cons_zero]; rfl)); (focus exact fun _ _ _ h => h); (focus rfl); simp only [Act.put, List.setIfInBounds_toArray, List.set_cons_zero, List.set_cons_succ]))
        (first | (refine' held_do (i := 3) _ (by kernel_rfl) (by kernel_rfl) (by kernel_rfl) _ _ hS _ _; rotate_left 2; (focus (simp only [List.getElem?_toArray, List.getElem?_cons_succ, List.getElem?_cons_zero]; rfl)); (focus exact fun _ _ _ h => h); (focus rfl); (focus (intro w1 hSS R hR; have hc := hSS.2.2; (try simp only [Cells] at hc); obtain ⟨hco, hfo⟩ := bcell hSS.1; go_simp; (try go_bits); exact hR)); simp only [Act.put, List.setIfInBounds_toArray, List.set_cons_zero, List.set_cons_succ]) | (refine' held_pass (i := 3) _ (by kernel_rfl) (by kernel_rfl) (by kernel_rfl) _ _ hS _; rotate_left; (focus (simp only [List.getElem?_toArray, List.getElem?_cons_succ, List.getElem?_cons_zero]; rfl)); (focus exact fun _ _ _ h => h); (focus rfl); simp only [Act.put, List.setIfInBounds_toArray, List.set_cons_zero, List.set_cons_succ]))
        (first | (refine' held_do (i := 4) _ (by kernel_rfl) (by kernel_rfl) (by kernel_rfl) _ _ hS _ _; rotate_left 2; (focus (simp only [List.getElem?_toArray, List.getElem?_cons_succ, List.getElem?_cons_zero]; rfl)); (focus exact fun _ _ _ h => h); (focus rfl); (focus (intro w1 hSS R hR; have hc := hSS.2.2; (try simp only [Cells] at hc); obtain ⟨hco, hfo⟩ := bcell hSS.1; go_simp; (try go_bits); exact hR)); simp only [Act.put, List.setIfInBounds_toArray, List.set_cons_zero, List.set_cons_succ]) | (refine' held_pass (i := 4) _ (by kernel_rfl) (by kernel_rfl) (by kernel_rfl) _ _ hS _; rotate_left; (focus (simp only [List.getElem?_toArray, List.getElem?_cons_succ, List.getElem?_cons_zero]; rfl)); (focus exact fun _ _ _ h => h); (focus rfl); simp only [Act.put, List.setIfInBounds_toArray, List.set_cons_zero, List.set_cons_succ]))
        (first | (refine' held_do (i := 6) _ (by kernel_rfl) (by kernel_rfl) (by kernel_rfl) _ _ hS _ _; rotate_left 2; (focus (simp only [List.getElem?_toArray, List.getElem?_cons_succ, List.getElem?_cons_zero]; rfl)); (focus exact fun _ _ _ h => h); (focus rfl); (focus (intro w1 hSS R hR; have hc := hSS.2.2; (try simp only [Cells] at hc); obtain ⟨hco, hfo⟩ := bcell hSS.1; go_simp; (try go_bits); exact hR)); simp only [Act.put, List.setIfInBounds_toArray, List.set_cons_zero, List.set_cons_succ]) | (refine' held_pass (i := 6) _ (by kernel_rfl) (by kernel_rfl) (by kernel_rfl) _ _ hS _; rotate_left; (focus (simp only [List.getElem?_toArray, List.getElem?_cons_succ, List.getElem?_cons_zero]; rfl)); (focus exact fun _ _ _ h => h); (focus rfl); simp only [Act.put, List.setIfInBounds_toArray, List.set_cons_zero, List.set_cons_succ]))
        (first | (refine' held_do (i := 7) _ (by kernel_rfl) (by kernel_rfl) (by kernel_rfl) _ _ hS _ _; rotate_left 2; (focus (simp only [List.getElem?_toArray, List.getElem?_cons_succ, List.getElem?_cons_zero]; rfl)); (focus exact fun _ _ _ h => h); (focus rfl); (focus (intro w1 hSS R hR; have hc := hSS.2.2; (try simp only [Cells] at hc); obtain ⟨hco, hfo⟩ := bcell hSS.1; go_simp; (try go_bits); exact hR)); simp only [Act.put, List.setIfInBounds_toArray, List.set_cons_zero, List.set_cons_succ]) | (refine' held_pass (i := 7) _ (by kernel_rfl) (by kernel_rfl) (by kernel_rfl) _ _ hS _; rotate_left; (focus (simp only [List.getElem?_toArray, List.getElem?_cons_succ, List.getElem?_cons_zero]; rfl)); (focus exact fun _ _ _ h => h); (focus rfl); simp only [Act.put, List.setIfInBounds_toArray, List.set_cons_zero, List.set_cons_succ]))
        (first | (refine' held_do (i := 8) _ (by kernel_rfl) (by kernel_rfl) (by kernel_rfl) _ _ hS _ _; rotate_left 2; (focus (simp only [List.getElem?_toArray, List.getElem?_cons_succ, List.getElem?_cons_zero]; rfl)); (focus exact fun _ _ _ h => h); (focus rfl); (focus (intro w1 hSS R hR; have hc := hSS.2.2; (try simp only [Cells] at hc); obtain ⟨hco, hfo⟩ := bcell hSS.1; go_simp; (try go_bits); exact hR)); simp only [Act.put, List.setIfInBounds_toArray, List.set_cons_zero, List.set_cons_succ]) | (refine' held_pass (i := 8) _ (by kernel_rfl) (by kernel_rfl) (by kernel_rfl) _ _ hS _; rotate_left; (focus (simp only [List.getElem?_toArray, List.getElem?_cons_succ, List.getElem?_cons_zero]; rfl)); (focus exact fun _ _ _ h => h); (focus rfl); simp only [Act.put, List.setIfInBounds_toArray, List.set_cons_zero, List.set_cons_succ]))
        (first | (refine' held_do (i := 9) _ (by kernel_rfl) (by kernel_rfl) (by kernel_rfl) _ _ hS _ _; rotate_left 2; (focus (simp only [List.getElem?_toArray, List.getElem?_cons_succ, List.getElem?_cons_zero]; rfl)); (focus exact fun _ _ _ h => h); (focus rfl); (focus (intro w1 hSS R hR; have hc := hSS.2.2; (try simp only [Cells] at hc); obtain ⟨hco, hfo⟩ := bcell hSS.1; go_simp; (try go_bits); exact hR)); simp only [Act.put, List.setIfInBounds_toArray, List.set_cons_zero, List.set_cons_succ]) | (refine' held_pass (i := 9) _ (by kernel_rfl) (by kernel_rfl) (by kernel_rfl) _ _ hS _; rotate_left; (focus (simp only [List.getElem?_toArray, List.getElem?_cons_succ, List.getElem?_cons_zero]; rfl)); (focus exact fun _ _ _ h => h); (focus rfl); simp only [Act.put, List.setIfInBounds_toArray, List.set_cons_zero, List.set_cons_succ]))
        (first | (refine' held_do (i := 10) _ (by kernel_rfl) (by kernel_rfl) (by kernel_rfl) _ _ hS _ _; rotate_left 2; (focus (simp only [List.getElem?_toArray, List.getElem?_cons_succ, List.getElem?_cons_zero]; rfl)); (focus exact fun _ _ _ h => h); (focus rfl); (focus (intro w1 hSS R hR; have hc := hSS.2.2; (try simp only [Cells] at hc); obtain ⟨hco, hfo⟩ := bcell hSS.1; go_simp; (try go_bits); exact hR)); simp only [Act.put, List.setIfInBounds_toArray, List.set_cons_zero, List.set_cons_succ]) | (refine' held_pass (i := 10) _ (by kernel_rfl) (by kernel_rfl) (by kernel_rfl) _ _ hS _; rotate_left; (focus (simp only [List.getElem?_toArray, List.getElem?_cons_succ, List.getElem?_cons_zero]; rfl)); (focus exact fun _ _ _ h => h); (focus rfl); simp only [Act.put, List.setIfInBounds_toArray, List.set_cons_zero, List.set_cons_succ]))
        (refine' held_one (i := 5) _ (by kernel_rfl) _ _; rotate_left; (focus (simp only [List.getElem?_toArray, List.getElem?_cons_succ, List.getElem?_cons_zero]; rfl)); (focus rfl); intro K hK; go_simp)
        go_at_call 45
        (with_reducible refine (RA.out _ (Below.drew hbr)).mono ?_)
        rintro e w5 ⟨hb5, v5, rfl, hr5⟩
        obtain ⟨t5, d5, rfl, _⟩ := hr5.shape
        have hS5 := hS.below hb5
        refine hK _ _ hS5 ?_
        clear hK
        (try simp only [Act.put, List.setIfInBounds_toArray, List.set_cons_zero, List.set_cons_succ])
        (refine' held_one (i := 11) _ (by kernel_rfl) _ _; rotate_left; (focus (simp only [List.getElem?_toArray, List.getElem?_cons_succ, List.getElem?_cons_zero]; rfl)); (focus rfl); intro K hK; go_simp)
        go_at_call 45
        (with_reducible refine (RB.out _ (hbr.trans (hS5.old.mono zr))).mono ?_)
        rintro e w6 ⟨hb6, v6, rfl, hr6⟩
        obtain ⟨t6, d6, rfl, _⟩ := hr6.shape
        have hS6 := hS5.below hb6
        refine hK _ _ hS6 ?_
        clear hK
        (try simp only [Act.put, List.setIfInBounds_toArray, List.set_cons_zero, List.set_cons_succ])
        (refine' held_one (i := 12) _ (by kernel_rfl) _ _; rotate_left; (focus (simp only [List.getElem?_toArray, List.getElem?_cons_succ, List.getElem?_cons_zero]; rfl)); (focus rfl); intro K hK; go_simp)
        refine hK _ _ hS6 ?_
        clear hK
        (try simp only [Act.put, List.setIfInBounds_toArray, List.set_cons_zero, List.set_cons_succ])
        (refine' held_one (i := 13) _ (by kernel_rfl) _ _; rotate_left; (focus (simp only [List.getElem?_toArray, List.getElem?_cons_succ, List.getElem?_cons_zero]; rfl)); (focus rfl); intro K hK; go_simp)
        refine hK _ _ hS6 ?_
        clear hK
        (try simp only [Act.put, List.setIfInBounds_toArray, List.set_cons_zero, List.set_cons_succ])
        refine wpAnyH_done (by kernel_rfl) ?_ _
        have hr06 := hS6.old
        have hr5' := (hr5.below hb6).mono hb6.size
        obtain ⟨m, em⟩ : ∃ m, S.length = m := ⟨_, rfl⟩
        obtain ⟨m2, em2⟩ : ∃ m2, T.length = m2 := ⟨_, rfl⟩
        rw [em] at hsa hr5' ⊢
        rw [em2] at hsb hr6 ⊢
        have z6 := hr06.size
        clear hS hS5 hS6 hb5 hb6 hr5 hcr hfr RA RB
        by_cases hmm : m = m2
        · subst hmm
          have hopS := fun (wr : World) (hb : Below w6.heap.size w6 wr) h0 => row_sp (hr5'.below hb) h0
          have hopT := fun (wr : World) (hb : Below w6.heap.size w6 wr) h0 => row_sp (hr6.below hb) h0
          rw [em] at hopS
          rw [em2] at hopT
          have hgo := hgo.out
          rw [← eqSs_dec] at hgo
          obtain ⟨B, hB⟩ : ∃ B, eqSs S T = B := ⟨_, rfl⟩
          rw [hB] at hgo
          replace hopS := Lib.hid hopS
          replace hopT := Lib.hid hopT
          replace em := Lib.hid em
          replace em2 := Lib.hid em2
          replace hgo := Lib.hid hgo
          replace hB := Lib.hid (show eqSs (S.drop 0) (T.drop 0) = B from hB)
          clear hr5' hr6
          obtain ⟨W1, hW1⟩ : ∃ W1 : World, W1 = wr := ⟨_, rfl⟩
          subst hW1
          go_wp2
          go_loopw [8, 49] (fun sv iv wr => ∃ j : Nat, j ≤ m ∧ iv = .int .i64 j ∧ sv = .bool true ∧ Hid (eqSs (S.drop j) (T.drop j) = B) ∧ Below w6.heap.size w6 wr) (fun _ iv _ => m - (intOf iv).toNat)
          case atStart => exact ⟨0, Nat.zero_le _, rfl, rfl, hB, Below.refl _ _⟩
          case round =>
            obtain ⟨j, hj, rfl, rfl, hB, hb6r⟩ := hrel
            have z6r := hb6r.size
            have hbR : Below W1.heap.size W1 wr := hr06.trans (hb6r.mono z6)
            by_cases hjm : j < m
            · obtain ⟨p1, q1, _, e, hp1, _, _, hel1⟩ := hopS.out wr hb6r (by omega)
              simp at e
              obtain ⟨⟨rfl, rfl⟩, rfl⟩ := e
              obtain ⟨p2, q2, _, e, hp2, _, _, hel2⟩ := hopT.out wr hb6r (by omega)
              simp at e
              obtain ⟨⟨rfl, rfl⟩, rfl⟩ := e
              obtain ⟨s, hs⟩ := get_at em.out hjm
              obtain ⟨t, ht⟩ := get_at em2.out hjm
              obtain ⟨j0, j1⟩ := hel1 j s hs
              obtain ⟨i0, i1⟩ := hel2 j t ht
              have hBs := hB.out
              rw [eqSs_step hs ht] at hBs
              have hjj : (j : Int) < m := by omega
              have y1 : p1 < wr.heap.size := by omega
              have y2 : p2 < wr.heap.size := by omega
              clear hel1 hel2 hs ht
              obtain ⟨x, x'⟩ := s
              obtain ⟨u, u'⟩ := t
              simp only at j0 j1 i0 i1
              obtain ⟨bb, hbb⟩ : ∃ bb, eqS1 (x, x') (u, u') = bb := ⟨_, rfl⟩
              rw [hbb] at hBs
              replace hbb : ((x == u) && (x' == u')) = bb := hbb
              cases bb
              · rw [Bool.false_and] at hBs
                subst hBs
                have hgo := hgo.out
                rw [Bool.false_and] at hgo
                subst hgo
                go_wp2
                refine wp_region_steady (Held wr 1 [(⟨wr.heap.size, 0, none⟩, .int .i64 x), (⟨wr.heap.size, 1, none⟩, .int .i64 x')]) (by kernel_rfl) (by kernel_rfl) ⟨(by repeat (first | exact Below.refl _ _ | assumption | refine Below.drew ?_ | refine Below.alloc ?_ (by (try simp) <;> omega) _ | refine Below.setCell ?_ (by (try simp) <;> omega) _ | (refine Below.trans ?_ (Below.mono (by assumption) (by (try simp) <;> omega))))), (by (try simp) <;> omega), (by first | exact trivial | (simp only [Cells]; go_simp))⟩ ?_
                repeat (first | (refine' wpSteady_do _ _ _; rotate_left; (focus rfl); (focus (intro w1 hS R hR; have hc := hS.cells; simp only [Cells] at hc; obtain ⟨hco, hfo⟩ := bcell hS.old; go_simp; (try go_bits); first | exact hR _ hS | fail)); simp only [Act.put, List.setIfInBounds_toArray, List.set_cons_zero, List.set_cons_succ]) | (refine wpSteady_pass ?_ ?_; (focus rfl); simp only [Act.put, List.setIfInBounds_toArray, List.set_cons_zero, List.set_cons_succ]))
                refine wpSteady_nil (fun uA hSA => ?_)
                have hcA := hSA.cells; have hbA := hSA.old; have hzA := hSA.size; clear hSA; simp only [Cells] at hcA; obtain ⟨hcoA, hfoA⟩ := bcell hbA
                go_wp2
                simp only [Exit.noGoto]
                go_ret2
                exact ⟨rfl, hbr.trans ((hbR.trans (hbA.mono (by omega))).mono zr)⟩
              · rw [Bool.true_and] at hBs
                replace hBs := Lib.hid hBs
                go_wp2
                refine wp_region_steady (Held wr 1 [(⟨wr.heap.size, 0, none⟩, .int .i64 x), (⟨wr.heap.size, 1, none⟩, .int .i64 x')]) (by kernel_rfl) (by kernel_rfl) ⟨(by repeat (first | exact Below.refl _ _ | assumption | refine Below.drew ?_ | refine Below.alloc ?_ (by (try simp) <;> omega) _ | refine Below.setCell ?_ (by (try simp) <;> omega) _ | (refine Below.trans ?_ (Below.mono (by assumption) (by (try simp) <;> omega))))), (by (try simp) <;> omega), (by first | exact trivial | (simp only [Cells]; go_simp))⟩ ?_
                repeat (first | (refine' wpSteady_do _ _ _; rotate_left; (focus rfl); (focus (intro w1 hS R hR; have hc := hS.cells; simp only [Cells] at hc; obtain ⟨hco, hfo⟩ := bcell hS.old; go_simp; (try go_bits); first | exact hR _ hS | fail)); simp only [Act.put, List.setIfInBounds_toArray, List.set_cons_zero, List.set_cons_succ]) | (refine wpSteady_pass ?_ ?_; (focus rfl); simp only [Act.put, List.setIfInBounds_toArray, List.set_cons_zero, List.set_cons_succ]))
                refine wpSteady_nil (fun uA hSA => ?_)
                have hcA := hSA.cells; have hbA := hSA.old; have hzA := hSA.size; clear hSA; simp only [Cells] at hcA; obtain ⟨hcoA, hfoA⟩ := bcell hbA
                go_wp2
                go_roundw
                case rel => exact ⟨j + 1, by omega, by go_num, rfl, hBs, hb6r.trans (hbA.mono z6r)⟩
                case measure => simp [intOf]; omega
            · obtain rfl : j = m := by omega
              have hBs := hB.out
              rw [List.drop_eq_nil_of_le (by have := em.out; omega), List.drop_eq_nil_of_le (by have := em2.out; omega)] at hBs
              have hBs : true = B := hBs
              subst hBs
              have hgo := hgo.out
              rw [Bool.true_and] at hgo
              replace hgo := Lib.hid hgo
              go_wp2
              go_roundw
              case rel => exact ⟨i + 1, by omega, by go_num, rfl, hgo, hb4r.trans (hbR.mono z4r)⟩
              case measure => simp [intOf]; omega
        · have hne : decide (S = T) = false := by
            simp only [decide_eq_false_iff_not]
            rintro rfl
            exact hmm (em.symm.trans em2)
          have hgo := hgo.out
          rw [hne, Bool.false_and] at hgo
          subst hgo
          have hmi : ¬ (m : Int) = m2 := by omega
          have hmb : ((m : Int) == m2) = false := by simp; omega
          clear hne hr5' hr6
          go_wp2
          simp only [Exit.noGoto]
          go_ret2
          exact ⟨rfl, hbr.trans (hr06.mono zr)⟩
      · have hgo := hgo.out
        rw [List.drop_eq_nil_of_le (by have := hL.out; omega)] at hgo
        have hgo : true = R := hgo
        subst hgo
        have hii : ¬ (i : Int) < L := by omega
        go_wp2
        (try simp only [Exit.noGoto])
        go_ret2
        exact ⟨rfl, hbr⟩
  · rw [if_neg h0]
    have h0' : (askR a b == 0) = false := by simp [h0]
    have h0n : (askR a b != 0) = true := by simp [h0]
    generalize askR a b = E at *
    replace AS := Lib.hid AS
    clear ha hb
    go_enter Try.func14, Try.ntmps14
    go_wp2
    go_step3
    go_wp2_with (first
      | (go_at_call 43; (with_reducible refine (AS.out).mono ?_); rintro e w1 ⟨rfl, hb1⟩; have hb01 := hal.trans (hb1.mono hal.size))
      | go_in)
    simp only [Exit.noGoto]
    go_ret2
    exact ⟨rfl, hb01⟩
end Go.Proofs.Ytlklmncjicgbgaa
