/-
  Motions, one by one: At, the document's answer, while a motion goes on; all of it together.
-/
import Derived.Test.YtblneabjdbllbaaMotH
namespace Go.Proofs.Ytblneabjdbllbaa
open Go.RowKit
set_option linter.unusedVariables false
attribute [local go_sem] vwp vUpon_value vUpon_skip vUpon_enter vUpon_row
set_option linter.unusedSimpArgs false
set_option maxHeartbeats 2000000 in
theorem rAt_on (m : Mo) (t : Int) (w : World) (hw : Wf m) (c0 : chk m = 0) (h0 : m.st ≤ t) (h1 : t ≤ 1048576) (ho : overB m t = false) : Calls Try.prog 11 #[.agg #[.int .i64 ((m).node), .int .i64 ((m).fr), .int .i64 ((m).to), .int .i64 ((m).st), .int .i64 ((m).ln), .int .u8 ((m).es), .int .i64 ((m).ts), .bool ((m).bk)], .int .i64 t] w fun e w' => e = .returned (.tuple #[.int .i64 (m.fr + ((m.to - m.fr) * bentN (restN m t * 65536 / m.ln) m.es + 32768) / 65536), .bool true, .int .i64 0]) ∧ Below w.heap.size w w' := by
  have h := Ok.of hw c0
  have C := fun w => rcheck_any m w hw
  rw [c0] at C
  replace C := Lib.hid C
  have O := fun w => rover_any m t w h h0 h1
  rw [ho] at O
  replace O := Lib.hid O
  have hr := rest_bd m t h
  have hp := part_ok (restN m t) m.ln hr.1 hr.2 h.ln.1
  have hq := bentN_bd (restN m t * 65536 / m.ln) m.es hp
  have hwy := way_bd m.fr m.to _ h.fr h.to hq
  have B := fun w => rbent_any (restN m t * 65536 / m.ln) m.es w hp h.es.1 h.es.2
  have D := fun w => down_any ((m.to - m.fr) * bentN (restN m t * 65536 / m.ln) m.es + 32768) w (by omega) (by omega)
  replace B := Lib.hid B
  replace D := Lib.hid D
  obtain ⟨n0, n1⟩ := quo_bd m t h h0 h1
  have hb := (rem_cases ((t - m.st) / m.ln) n0).1
  have hres : restN m t = if (m.bk && oddB ((t - m.st) / m.ln)) = true then m.ln - (t - m.st) % m.ln else (t - m.st) % m.ln := rfl
  have r0 := Int.emod_nonneg (t - m.st) (show m.ln ≠ 0 by have := h.ln.1; omega)
  have r1 := Int.emod_lt_of_pos (t - m.st) (show 0 < m.ln by have := h.ln.1; omega)
  obtain ⟨l0, l1⟩ := h.ln
  obtain ⟨s0, s1⟩ := h.st
  obtain ⟨f0, f1⟩ := h.fr
  obtain ⟨g0, g1⟩ := h.to
  clear h ho c0 hw hq
  obtain ⟨nd, fr, to, st, ln, es, ts, bk⟩ := m
  simp only at *
  have lz : ¬ ln = 0 := by omega
  generalize restN _ t = r at *
  generalize hn : (t - st) / ln = n at *
  generalize hm : (t - st) % ln = u at *
  obtain ⟨p0, p1⟩ := hp; obtain ⟨r00, r01⟩ := hr; obtain ⟨w0, w1'⟩ := hwy
  generalize hK : bentN (r * 65536 / ln) es = K at *
  replace hK := Lib.hid hK
  have d0 : -137438953472 ≤ ((to - fr) * K + 32768) / 65536 := by omega
  have d1 : ((to - fr) * K + 32768) / 65536 ≤ 137438953472 := by omega
  cases hk : oddB n <;> cases bk <;> simp only [hk] at hb hres <;> simp only [Bool.and_false, Bool.false_and, Bool.and_true, if_true, Bool.false_eq_true, if_false] at hres
  all_goals clear hk; subst hres
  · go_enter Try.func11, Try.ntmps11
    go_wp2_with (first | (go_at_call 15; (with_reducible refine (C.out _).mono ?_); rintro e w1 ⟨rfl, hb1⟩; obtain ⟨hc1, hf1⟩ := bcell hb1; have hz1 := hb1.size; (try simp at hz1); (try have lt1 : w.heap.size < w1.heap.size := (by omega))) | (go_at_call 27; (with_reducible refine (O.out _).mono ?_); rintro e w2 ⟨rfl, hb2⟩; obtain ⟨hc2, hf2⟩ := bcell hb2; have hz2 := hb2.size; (try simp at hz2); (try have lt2 : w.heap.size < w2.heap.size := (by omega))))
    refine wp_region_steady (Held w 1 [(⟨w.heap.size, 0, none⟩, .int .i64 (nd)), (⟨w.heap.size, 1, none⟩, .int .i64 (fr)), (⟨w.heap.size, 2, none⟩, .int .i64 (to)), (⟨w.heap.size, 3, none⟩, .int .i64 (st)), (⟨w.heap.size, 4, none⟩, .int .i64 (ln)), (⟨w.heap.size, 5, none⟩, .int .u8 (es)), (⟨w.heap.size, 6, none⟩, .int .i64 (ts)), (⟨w.heap.size, 7, none⟩, .bool (false))]) (by kernel_rfl) (by kernel_rfl) ⟨(by repeat (first | exact Below.refl _ _ | assumption | refine Below.drew ?_ | refine Below.alloc ?_ (by (try simp) <;> omega) _ | refine Below.setCell ?_ (by (try simp) <;> omega) _ | (refine Below.trans ?_ (Below.mono (by assumption) (by (try simp) <;> omega))))), (by (try simp) <;> omega), (by simp only [Cells]; go_simp)⟩ ?_
    repeat (first | (refine' wpSteady_do _ _ _; rotate_left; (focus rfl); (focus (intro w1 hS R hR; have hc := hS.cells; simp only [Cells] at hc; go_simp; (try go_bits); first | exact hR _ hS | ((go_at_call 29; (with_reducible refine (B.out _).mono ?_); rintro e w2 ⟨rfl, rfl⟩; exact ⟨_, rfl, hR _ hS⟩)) | ((go_at_call 28; (with_reducible refine (D.out _).mono ?_); rintro e w2 ⟨rfl, rfl⟩; exact ⟨_, rfl, hR _ hS⟩)))); simp only [Act.put, List.setIfInBounds_toArray, List.set_cons_zero, List.set_cons_succ]) | (refine wpSteady_pass ?_ ?_; (focus rfl); simp only [Act.put, List.setIfInBounds_toArray, List.set_cons_zero, List.set_cons_succ]))
    refine wpSteady_nil (fun w8 hS => ?_)
    go_wp2
    go_ret3
    exact ⟨rfl, hS.old⟩
  · go_enter Try.func11, Try.ntmps11
    go_wp2_with (first | (go_at_call 15; (with_reducible refine (C.out _).mono ?_); rintro e w1 ⟨rfl, hb1⟩; obtain ⟨hc1, hf1⟩ := bcell hb1; have hz1 := hb1.size; (try simp at hz1); (try have lt1 : w.heap.size < w1.heap.size := (by omega))) | (go_at_call 27; (with_reducible refine (O.out _).mono ?_); rintro e w2 ⟨rfl, hb2⟩; obtain ⟨hc2, hf2⟩ := bcell hb2; have hz2 := hb2.size; (try simp at hz2); (try have lt2 : w.heap.size < w2.heap.size := (by omega))))
    refine wp_region_steady (Held w 1 [(⟨w.heap.size, 0, none⟩, .int .i64 (nd)), (⟨w.heap.size, 1, none⟩, .int .i64 (fr)), (⟨w.heap.size, 2, none⟩, .int .i64 (to)), (⟨w.heap.size, 3, none⟩, .int .i64 (st)), (⟨w.heap.size, 4, none⟩, .int .i64 (ln)), (⟨w.heap.size, 5, none⟩, .int .u8 (es)), (⟨w.heap.size, 6, none⟩, .int .i64 (ts)), (⟨w.heap.size, 7, none⟩, .bool (true))]) (by kernel_rfl) (by kernel_rfl) ⟨(by repeat (first | exact Below.refl _ _ | assumption | refine Below.drew ?_ | refine Below.alloc ?_ (by (try simp) <;> omega) _ | refine Below.setCell ?_ (by (try simp) <;> omega) _ | (refine Below.trans ?_ (Below.mono (by assumption) (by (try simp) <;> omega))))), (by (try simp) <;> omega), (by simp only [Cells]; go_simp)⟩ ?_
    repeat (first | (refine' wpSteady_do _ _ _; rotate_left; (focus rfl); (focus (intro w1 hS R hR; have hc := hS.cells; simp only [Cells] at hc; go_simp; (try go_bits); first | exact hR _ hS | ((go_at_call 29; (with_reducible refine (B.out _).mono ?_); rintro e w2 ⟨rfl, rfl⟩; exact ⟨_, rfl, hR _ hS⟩)) | ((go_at_call 28; (with_reducible refine (D.out _).mono ?_); rintro e w2 ⟨rfl, rfl⟩; exact ⟨_, rfl, hR _ hS⟩)))); simp only [Act.put, List.setIfInBounds_toArray, List.set_cons_zero, List.set_cons_succ]) | (refine wpSteady_pass ?_ ?_; (focus rfl); simp only [Act.put, List.setIfInBounds_toArray, List.set_cons_zero, List.set_cons_succ]))
    refine wpSteady_nil (fun w8 hS => ?_)
    go_wp2
    go_ret3
    exact ⟨rfl, hS.old⟩
  · go_enter Try.func11, Try.ntmps11
    go_wp2_with (first | (go_at_call 15; (with_reducible refine (C.out _).mono ?_); rintro e w1 ⟨rfl, hb1⟩; obtain ⟨hc1, hf1⟩ := bcell hb1; have hz1 := hb1.size; (try simp at hz1); (try have lt1 : w.heap.size < w1.heap.size := (by omega))) | (go_at_call 27; (with_reducible refine (O.out _).mono ?_); rintro e w2 ⟨rfl, hb2⟩; obtain ⟨hc2, hf2⟩ := bcell hb2; have hz2 := hb2.size; (try simp at hz2); (try have lt2 : w.heap.size < w2.heap.size := (by omega))))
    refine wp_region_steady (Held w 1 [(⟨w.heap.size, 0, none⟩, .int .i64 (nd)), (⟨w.heap.size, 1, none⟩, .int .i64 (fr)), (⟨w.heap.size, 2, none⟩, .int .i64 (to)), (⟨w.heap.size, 3, none⟩, .int .i64 (st)), (⟨w.heap.size, 4, none⟩, .int .i64 (ln)), (⟨w.heap.size, 5, none⟩, .int .u8 (es)), (⟨w.heap.size, 6, none⟩, .int .i64 (ts)), (⟨w.heap.size, 7, none⟩, .bool (false))]) (by kernel_rfl) (by kernel_rfl) ⟨(by repeat (first | exact Below.refl _ _ | assumption | refine Below.drew ?_ | refine Below.alloc ?_ (by (try simp) <;> omega) _ | refine Below.setCell ?_ (by (try simp) <;> omega) _ | (refine Below.trans ?_ (Below.mono (by assumption) (by (try simp) <;> omega))))), (by (try simp) <;> omega), (by simp only [Cells]; go_simp)⟩ ?_
    repeat (first | (refine' wpSteady_do _ _ _; rotate_left; (focus rfl); (focus (intro w1 hS R hR; have hc := hS.cells; simp only [Cells] at hc; go_simp; (try go_bits); first | exact hR _ hS | ((go_at_call 29; (with_reducible refine (B.out _).mono ?_); rintro e w2 ⟨rfl, rfl⟩; exact ⟨_, rfl, hR _ hS⟩)) | ((go_at_call 28; (with_reducible refine (D.out _).mono ?_); rintro e w2 ⟨rfl, rfl⟩; exact ⟨_, rfl, hR _ hS⟩)))); simp only [Act.put, List.setIfInBounds_toArray, List.set_cons_zero, List.set_cons_succ]) | (refine wpSteady_pass ?_ ?_; (focus rfl); simp only [Act.put, List.setIfInBounds_toArray, List.set_cons_zero, List.set_cons_succ]))
    refine wpSteady_nil (fun w8 hS => ?_)
    go_wp2
    go_ret3
    exact ⟨rfl, hS.old⟩
  · go_enter Try.func11, Try.ntmps11
    go_wp2_with (first | (go_at_call 15; (with_reducible refine (C.out _).mono ?_); rintro e w1 ⟨rfl, hb1⟩; obtain ⟨hc1, hf1⟩ := bcell hb1; have hz1 := hb1.size; (try simp at hz1); (try have lt1 : w.heap.size < w1.heap.size := (by omega))) | (go_at_call 27; (with_reducible refine (O.out _).mono ?_); rintro e w2 ⟨rfl, hb2⟩; obtain ⟨hc2, hf2⟩ := bcell hb2; have hz2 := hb2.size; (try simp at hz2); (try have lt2 : w.heap.size < w2.heap.size := (by omega))))
    refine wp_region_steady (Held w 1 [(⟨w.heap.size, 0, none⟩, .int .i64 (nd)), (⟨w.heap.size, 1, none⟩, .int .i64 (fr)), (⟨w.heap.size, 2, none⟩, .int .i64 (to)), (⟨w.heap.size, 3, none⟩, .int .i64 (st)), (⟨w.heap.size, 4, none⟩, .int .i64 (ln)), (⟨w.heap.size, 5, none⟩, .int .u8 (es)), (⟨w.heap.size, 6, none⟩, .int .i64 (ts)), (⟨w.heap.size, 7, none⟩, .bool (true))]) (by kernel_rfl) (by kernel_rfl) ⟨(by repeat (first | exact Below.refl _ _ | assumption | refine Below.drew ?_ | refine Below.alloc ?_ (by (try simp) <;> omega) _ | refine Below.setCell ?_ (by (try simp) <;> omega) _ | (refine Below.trans ?_ (Below.mono (by assumption) (by (try simp) <;> omega))))), (by (try simp) <;> omega), (by simp only [Cells]; go_simp)⟩ ?_
    repeat (first | (refine' wpSteady_do _ _ _; rotate_left; (focus rfl); (focus (intro w1 hS R hR; have hc := hS.cells; simp only [Cells] at hc; go_simp; (try go_bits); first | exact hR _ hS | ((go_at_call 29; (with_reducible refine (B.out _).mono ?_); rintro e w2 ⟨rfl, rfl⟩; exact ⟨_, rfl, hR _ hS⟩)) | ((go_at_call 28; (with_reducible refine (D.out _).mono ?_); rintro e w2 ⟨rfl, rfl⟩; exact ⟨_, rfl, hR _ hS⟩)))); simp only [Act.put, List.setIfInBounds_toArray, List.set_cons_zero, List.set_cons_succ]) | (refine wpSteady_pass ?_ ?_; (focus rfl); simp only [Act.put, List.setIfInBounds_toArray, List.set_cons_zero, List.set_cons_succ]))
    refine wpSteady_nil (fun w8 hS => ?_)
    go_wp2
    go_ret3
    exact ⟨rfl, hS.old⟩
theorem rAt_any (m : Mo) (t : Int) (w : World) (hw : Wf m) : Calls Try.prog 11 #[.agg #[.int .i64 ((m).node), .int .i64 ((m).fr), .int .i64 ((m).to), .int .i64 ((m).st), .int .i64 ((m).ln), .int .u8 ((m).es), .int .i64 ((m).ts), .bool ((m).bk)], .int .i64 t] w fun e w' => e = .returned (.tuple #[.int .i64 (resV m t), .bool (resG m t), .int .i64 (resE m t)]) ∧ Below w.heap.size w w' := by
  by_cases c0 : chk m = 0
  · cases hl : lateB t
    · obtain ⟨t0, t1⟩ := lateB_no hl
      have e0 : resE m t = 0 := by unfold resE; rw [if_pos c0, hl]; rfl
      have e1 : resV m t = atV m t := if_pos e0
      have e2 : resG m t = atG m t := if_pos e0
      rw [e0, e1, e2]
      by_cases hb : t < m.st
      · have a1 : atV m t = m.fr := if_pos hb
        have a2 : atG m t = true := by unfold atG; simp [hb]
        rw [a1, a2]
        exact rAt_before m t w hw c0 t0 t1 hb
      · cases ho : overB m t
        · have a1 : atV m t = m.fr + ((m.to - m.fr) * bentN (restN m t * 65536 / m.ln) m.es + 32768) / 65536 := by unfold atV; rw [if_neg hb, if_neg (by simp [ho])]
          have a2 : atG m t = true := by unfold atG; simp [ho]
          rw [a1, a2]
          exact rAt_on m t w hw c0 (by omega) t1 ho
        · have a1 : atV m t = if (m.bk && !oddB m.ts) = true then m.fr else m.to := by unfold atV; rw [if_neg hb, if_pos ho]
          have a2 : atG m t = false := by unfold atG; simp [ho]; omega
          rw [a1, a2]
          exact rAt_over m t w hw c0 (by omega) t1 ho
    · have e0 : resE m t = 230 := by unfold resE; rw [if_pos c0, hl]; rfl
      have e1 : resV m t = 0 := if_neg (by omega)
      have e2 : resG m t = false := if_neg (by omega)
      rw [e0, e1, e2]
      exact rAt_late m t w hw c0 hl
  · have e0 : resE m t = chk m := if_neg c0
    have e1 : resV m t = 0 := if_neg (by omega)
    have e2 : resG m t = false := if_neg (by omega)
    rw [e0, e1, e2]
    exact rAt_bad m t w hw c0
end Go.Proofs.Ytblneabjdbllbaa
