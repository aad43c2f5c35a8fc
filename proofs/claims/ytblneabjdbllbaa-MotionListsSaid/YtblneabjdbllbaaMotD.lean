/-
  Motions, one by one: where they are.
-/
import Derived.Test.YtblneabjdbllbaaMotC
namespace Go.Proofs.Ytblneabjdbllbaa
open Go.RowKit
set_option linter.unusedVariables false
attribute [local go_sem] vwp vUpon_value vUpon_skip vUpon_enter vUpon_row
def lateB (t : Int) : Bool := decide (t < 0 ∨ 1048576 < t)
set_option maxHeartbeats 400000 in
theorem late_any (t : Int) (w : World) : Calls Try.prog 25 #[.int .i64 t] w fun e w' => e = .returned (.bool (lateB t)) ∧ w = w' := by
  by_cases h1 : t < 0
  · have e : lateB t = true := by unfold lateB; simp; omega
    rw [e]
    go_enter Try.func25, Try.ntmps25
    go_wp2
    go_ret
    exact ⟨rfl, rfl⟩
  · by_cases h2 : 1048576 < t
    · have e : lateB t = true := by unfold lateB; simp; omega
      rw [e]
      go_enter Try.func25, Try.ntmps25
      go_wp2
      go_ret
      exact ⟨rfl, rfl⟩
    · have e : lateB t = false := by unfold lateB; simp; omega
      rw [e]
      go_enter Try.func25, Try.ntmps25
      go_wp2
      go_ret
      exact ⟨rfl, rfl⟩
/-- Is it over? -/
def overB (m : Mo) (t : Int) : Bool := decide (0 < m.ts) && decide (m.ts ≤ (t - m.st) / m.ln)
theorem quo_bd (m : Mo) (t : Int) (h : Ok m) (h0 : m.st ≤ t) (h1 : t ≤ 1048576) : 0 ≤ (t - m.st) / m.ln ∧ (t - m.st) / m.ln ≤ 1048576 := by
  have := h.ln.1; have := h.st.1
  exact ⟨Int.ediv_nonneg (by omega) (by omega), by
    have := Int.ediv_le_self (a := t - m.st) m.ln (by omega)
    omega⟩
set_option maxHeartbeats 1000000 in
theorem over_any (m : Mo) (t : Int) (w : World) (h : Ok m) (h0 : m.st ≤ t) (h1 : t ≤ 1048576) : Calls Try.prog 34 #[.agg #[.int .i64 ((m).node), .int .i64 ((m).fr), .int .i64 ((m).to), .int .i64 ((m).st), .int .i64 ((m).ln), .int .u8 ((m).es), .int .i64 ((m).ts), .bool ((m).bk)], .int .i64 t] w fun e w' => e = .returned (.bool (overB m t)) ∧ Below w.heap.size w w' := by
  obtain ⟨q0, q1⟩ := quo_bd m t h h0 h1
  obtain ⟨s0, s1⟩ := h.st; obtain ⟨l0, l1⟩ := h.ln; obtain ⟨t0, t1⟩ := h.ts
  clear h
  obtain ⟨nd, fr, to, st, ln, es, ts, bk⟩ := m
  simp only [overB] at *
  have lz : ¬ ln = 0 := by omega
  by_cases c1 : 0 < ts
  · have c1' : decide (0 < ts) = true := by simpa using c1
    by_cases c2 : ts ≤ (t - st) / ln
    · have d1 : decide (0 < ts) = true := by simpa using c1
      have d2 : decide (ts ≤ (t - st) / ln) = true := by simpa using c2
      rw [d1, d2]
      clear d1
      go_enter Try.func34, Try.ntmps34
      go_wp2
      refine wp_region_steady (Held w 1 [(⟨w.heap.size, 0, none⟩, .int .i64 (nd)), (⟨w.heap.size, 1, none⟩, .int .i64 (fr)), (⟨w.heap.size, 2, none⟩, .int .i64 (to)), (⟨w.heap.size, 3, none⟩, .int .i64 (st)), (⟨w.heap.size, 4, none⟩, .int .i64 (ln)), (⟨w.heap.size, 5, none⟩, .int .u8 (es)), (⟨w.heap.size, 6, none⟩, .int .i64 (ts)), (⟨w.heap.size, 7, none⟩, .bool (bk))]) (by kernel_rfl) (by kernel_rfl) ⟨(by repeat (first | exact Below.refl _ _ | assumption | refine Below.drew ?_ | refine Below.alloc ?_ (by (try simp) <;> omega) _ | refine Below.setCell ?_ (by (try simp) <;> omega) _)), (by (try simp) <;> omega), (by simp only [Cells]; go_simp)⟩ ?_
      repeat (first | (refine' wpSteady_do _ _ _; rotate_left; (focus rfl); (focus (intro w1 hS R hR; have hc := hS.cells; simp only [Cells] at hc; go_simp; (try go_bits); first | exact hR _ hS | fail)); simp only [Act.put, List.setIfInBounds_toArray, List.set_cons_zero, List.set_cons_succ]) | (refine wpSteady_pass ?_ ?_; (focus rfl); simp only [Act.put, List.setIfInBounds_toArray, List.set_cons_zero, List.set_cons_succ]))
      refine wpSteady_nil (fun w1 hS => ?_)
      have hc := hS.cells; have hb := hS.old; have hz := hS.size; clear hS; simp only [Cells] at hc
      go_wp2
      go_ret
      exact ⟨by simp, (by repeat (first | exact Below.refl _ _ | assumption | refine Below.drew ?_ | refine Below.alloc ?_ (by (try simp) <;> omega) _ | refine Below.setCell ?_ (by (try simp) <;> omega) _ | (refine Below.trans ?_ (Below.mono (by assumption) (by (try simp) <;> omega)))))⟩
    · have d1 : decide (0 < ts) = true := by simpa using c1
      have d2 : decide (ts ≤ (t - st) / ln) = false := by simpa using c2
      rw [d1, d2]
      clear d1
      go_enter Try.func34, Try.ntmps34
      go_wp2
      refine wp_region_steady (Held w 1 [(⟨w.heap.size, 0, none⟩, .int .i64 (nd)), (⟨w.heap.size, 1, none⟩, .int .i64 (fr)), (⟨w.heap.size, 2, none⟩, .int .i64 (to)), (⟨w.heap.size, 3, none⟩, .int .i64 (st)), (⟨w.heap.size, 4, none⟩, .int .i64 (ln)), (⟨w.heap.size, 5, none⟩, .int .u8 (es)), (⟨w.heap.size, 6, none⟩, .int .i64 (ts)), (⟨w.heap.size, 7, none⟩, .bool (bk))]) (by kernel_rfl) (by kernel_rfl) ⟨(by repeat (first | exact Below.refl _ _ | assumption | refine Below.drew ?_ | refine Below.alloc ?_ (by (try simp) <;> omega) _ | refine Below.setCell ?_ (by (try simp) <;> omega) _)), (by (try simp) <;> omega), (by simp only [Cells]; go_simp)⟩ ?_
      repeat (first | (refine' wpSteady_do _ _ _; rotate_left; (focus rfl); (focus (intro w1 hS R hR; have hc := hS.cells; simp only [Cells] at hc; go_simp; (try go_bits); first | exact hR _ hS | fail)); simp only [Act.put, List.setIfInBounds_toArray, List.set_cons_zero, List.set_cons_succ]) | (refine wpSteady_pass ?_ ?_; (focus rfl); simp only [Act.put, List.setIfInBounds_toArray, List.set_cons_zero, List.set_cons_succ]))
      refine wpSteady_nil (fun w1 hS => ?_)
      have hc := hS.cells; have hb := hS.old; have hz := hS.size; clear hS; simp only [Cells] at hc
      go_wp2
      go_ret
      exact ⟨by simp, (by repeat (first | exact Below.refl _ _ | assumption | refine Below.drew ?_ | refine Below.alloc ?_ (by (try simp) <;> omega) _ | refine Below.setCell ?_ (by (try simp) <;> omega) _ | (refine Below.trans ?_ (Below.mono (by assumption) (by (try simp) <;> omega)))))⟩
  · have d1 : decide (0 < ts) = false := by simpa using c1
    rw [d1]
    clear d1
    have c1' : decide (0 < ts) = false := by simpa using c1
    go_enter Try.func34, Try.ntmps34
    go_wp2
    refine wp_region_steady (Held w 1 [(⟨w.heap.size, 0, none⟩, .int .i64 (nd)), (⟨w.heap.size, 1, none⟩, .int .i64 (fr)), (⟨w.heap.size, 2, none⟩, .int .i64 (to)), (⟨w.heap.size, 3, none⟩, .int .i64 (st)), (⟨w.heap.size, 4, none⟩, .int .i64 (ln)), (⟨w.heap.size, 5, none⟩, .int .u8 (es)), (⟨w.heap.size, 6, none⟩, .int .i64 (ts)), (⟨w.heap.size, 7, none⟩, .bool (bk))]) (by kernel_rfl) (by kernel_rfl) ⟨(by repeat (first | exact Below.refl _ _ | assumption | refine Below.drew ?_ | refine Below.alloc ?_ (by (try simp) <;> omega) _ | refine Below.setCell ?_ (by (try simp) <;> omega) _)), (by (try simp) <;> omega), (by simp only [Cells]; go_simp)⟩ ?_
    repeat (first | (refine' wpSteady_do _ _ _; rotate_left; (focus rfl); (focus (intro w1 hS R hR; have hc := hS.cells; simp only [Cells] at hc; go_simp; (try go_bits); first | exact hR _ hS | fail)); simp only [Act.put, List.setIfInBounds_toArray, List.set_cons_zero, List.set_cons_succ]) | (refine wpSteady_pass ?_ ?_; (focus rfl); simp only [Act.put, List.setIfInBounds_toArray, List.set_cons_zero, List.set_cons_succ]))
    refine wpSteady_nil (fun w1 hS => ?_)
    have hc := hS.cells; have hb := hS.old; have hz := hS.size; clear hS; simp only [Cells] at hc
    go_wp2
    go_ret
    exact ⟨by simp, (by repeat (first | exact Below.refl _ _ | assumption | refine Below.drew ?_ | refine Below.alloc ?_ (by (try simp) <;> omega) _ | refine Below.setCell ?_ (by (try simp) <;> omega) _ | (refine Below.trans ?_ (Below.mono (by assumption) (by (try simp) <;> omega)))))⟩
set_option maxHeartbeats 1000000 in
theorem rover_any (m : Mo) (t : Int) (w : World) (h : Ok m) (h0 : m.st ≤ t) (h1 : t ≤ 1048576) : Calls Try.prog 27 #[.agg #[.int .i64 ((m).node), .int .i64 ((m).fr), .int .i64 ((m).to), .int .i64 ((m).st), .int .i64 ((m).ln), .int .u8 ((m).es), .int .i64 ((m).ts), .bool ((m).bk)], .int .i64 t] w fun e w' => e = .returned (.bool (overB m t)) ∧ Below w.heap.size w w' := by
  obtain ⟨q0, q1⟩ := quo_bd m t h h0 h1
  obtain ⟨s0, s1⟩ := h.st; obtain ⟨l0, l1⟩ := h.ln; obtain ⟨t0, t1⟩ := h.ts
  clear h
  obtain ⟨nd, fr, to, st, ln, es, ts, bk⟩ := m
  simp only [overB] at *
  have lz : ¬ ln = 0 := by omega
  by_cases c1 : 0 < ts
  · have c1' : (ts != 0) = true := by simp; omega
    by_cases c2 : ts ≤ (t - st) / ln
    · have d1 : decide (0 < ts) = true := by simpa using c1
      have d2 : decide (ts ≤ (t - st) / ln) = true := by simpa using c2
      rw [d1, d2]
      clear d1
      go_enter Try.func27, Try.ntmps27
      go_wp2
      refine wp_region_steady (Held w 1 [(⟨w.heap.size, 0, none⟩, .int .i64 (nd)), (⟨w.heap.size, 1, none⟩, .int .i64 (fr)), (⟨w.heap.size, 2, none⟩, .int .i64 (to)), (⟨w.heap.size, 3, none⟩, .int .i64 (st)), (⟨w.heap.size, 4, none⟩, .int .i64 (ln)), (⟨w.heap.size, 5, none⟩, .int .u8 (es)), (⟨w.heap.size, 6, none⟩, .int .i64 (ts)), (⟨w.heap.size, 7, none⟩, .bool (bk))]) (by kernel_rfl) (by kernel_rfl) ⟨(by repeat (first | exact Below.refl _ _ | assumption | refine Below.drew ?_ | refine Below.alloc ?_ (by (try simp) <;> omega) _ | refine Below.setCell ?_ (by (try simp) <;> omega) _)), (by (try simp) <;> omega), (by simp only [Cells]; go_simp)⟩ ?_
      repeat (first | (refine' wpSteady_do _ _ _; rotate_left; (focus rfl); (focus (intro w1 hS R hR; have hc := hS.cells; simp only [Cells] at hc; go_simp; (try go_bits); first | exact hR _ hS | fail)); simp only [Act.put, List.setIfInBounds_toArray, List.set_cons_zero, List.set_cons_succ]) | (refine wpSteady_pass ?_ ?_; (focus rfl); simp only [Act.put, List.setIfInBounds_toArray, List.set_cons_zero, List.set_cons_succ]))
      refine wpSteady_nil (fun w1 hS => ?_)
      have hc := hS.cells; have hb := hS.old; have hz := hS.size; clear hS; simp only [Cells] at hc
      go_wp2
      go_ret
      exact ⟨by simp, (by repeat (first | exact Below.refl _ _ | assumption | refine Below.drew ?_ | refine Below.alloc ?_ (by (try simp) <;> omega) _ | refine Below.setCell ?_ (by (try simp) <;> omega) _ | (refine Below.trans ?_ (Below.mono (by assumption) (by (try simp) <;> omega)))))⟩
    · have d1 : decide (0 < ts) = true := by simpa using c1
      have d2 : decide (ts ≤ (t - st) / ln) = false := by simpa using c2
      rw [d1, d2]
      clear d1
      go_enter Try.func27, Try.ntmps27
      go_wp2
      refine wp_region_steady (Held w 1 [(⟨w.heap.size, 0, none⟩, .int .i64 (nd)), (⟨w.heap.size, 1, none⟩, .int .i64 (fr)), (⟨w.heap.size, 2, none⟩, .int .i64 (to)), (⟨w.heap.size, 3, none⟩, .int .i64 (st)), (⟨w.heap.size, 4, none⟩, .int .i64 (ln)), (⟨w.heap.size, 5, none⟩, .int .u8 (es)), (⟨w.heap.size, 6, none⟩, .int .i64 (ts)), (⟨w.heap.size, 7, none⟩, .bool (bk))]) (by kernel_rfl) (by kernel_rfl) ⟨(by repeat (first | exact Below.refl _ _ | assumption | refine Below.drew ?_ | refine Below.alloc ?_ (by (try simp) <;> omega) _ | refine Below.setCell ?_ (by (try simp) <;> omega) _)), (by (try simp) <;> omega), (by simp only [Cells]; go_simp)⟩ ?_
      repeat (first | (refine' wpSteady_do _ _ _; rotate_left; (focus rfl); (focus (intro w1 hS R hR; have hc := hS.cells; simp only [Cells] at hc; go_simp; (try go_bits); first | exact hR _ hS | fail)); simp only [Act.put, List.setIfInBounds_toArray, List.set_cons_zero, List.set_cons_succ]) | (refine wpSteady_pass ?_ ?_; (focus rfl); simp only [Act.put, List.setIfInBounds_toArray, List.set_cons_zero, List.set_cons_succ]))
      refine wpSteady_nil (fun w1 hS => ?_)
      have hc := hS.cells; have hb := hS.old; have hz := hS.size; clear hS; simp only [Cells] at hc
      go_wp2
      go_ret
      exact ⟨by simp, (by repeat (first | exact Below.refl _ _ | assumption | refine Below.drew ?_ | refine Below.alloc ?_ (by (try simp) <;> omega) _ | refine Below.setCell ?_ (by (try simp) <;> omega) _ | (refine Below.trans ?_ (Below.mono (by assumption) (by (try simp) <;> omega)))))⟩
  · have d1 : decide (0 < ts) = false := by simpa using c1
    rw [d1]
    clear d1
    have c1' : (ts != 0) = false := by simp; omega
    go_enter Try.func27, Try.ntmps27
    go_wp2
    refine wp_region_steady (Held w 1 [(⟨w.heap.size, 0, none⟩, .int .i64 (nd)), (⟨w.heap.size, 1, none⟩, .int .i64 (fr)), (⟨w.heap.size, 2, none⟩, .int .i64 (to)), (⟨w.heap.size, 3, none⟩, .int .i64 (st)), (⟨w.heap.size, 4, none⟩, .int .i64 (ln)), (⟨w.heap.size, 5, none⟩, .int .u8 (es)), (⟨w.heap.size, 6, none⟩, .int .i64 (ts)), (⟨w.heap.size, 7, none⟩, .bool (bk))]) (by kernel_rfl) (by kernel_rfl) ⟨(by repeat (first | exact Below.refl _ _ | assumption | refine Below.drew ?_ | refine Below.alloc ?_ (by (try simp) <;> omega) _ | refine Below.setCell ?_ (by (try simp) <;> omega) _)), (by (try simp) <;> omega), (by simp only [Cells]; go_simp)⟩ ?_
    repeat (first | (refine' wpSteady_do _ _ _; rotate_left; (focus rfl); (focus (intro w1 hS R hR; have hc := hS.cells; simp only [Cells] at hc; go_simp; (try go_bits); first | exact hR _ hS | fail)); simp only [Act.put, List.setIfInBounds_toArray, List.set_cons_zero, List.set_cons_succ]) | (refine wpSteady_pass ?_ ?_; (focus rfl); simp only [Act.put, List.setIfInBounds_toArray, List.set_cons_zero, List.set_cons_succ]))
    refine wpSteady_nil (fun w1 hS => ?_)
    have hc := hS.cells; have hb := hS.old; have hz := hS.size; clear hS; simp only [Cells] at hc
    go_wp2
    go_ret
    exact ⟨by simp, (by repeat (first | exact Below.refl _ _ | assumption | refine Below.drew ?_ | refine Below.alloc ?_ (by (try simp) <;> omega) _ | refine Below.setCell ?_ (by (try simp) <;> omega) _ | (refine Below.trans ?_ (Below.mono (by assumption) (by (try simp) <;> omega)))))⟩
set_option maxHeartbeats 400000 in
theorem down_any (n : Int) (w : World) (h0 : -1099511627776 ≤ n) (h1 : n ≤ 1099511627776) : Calls Try.prog 28 #[.int .i64 n] w fun e w' => e = .returned (.int .i64 (n / 65536)) ∧ w = w' := by
  by_cases hn : 0 ≤ n
  · go_enter Try.func28, Try.ntmps28
    go_wp2
    go_ret
    exact ⟨rfl, rfl⟩
  · have hq : n.tdiv 65536 = -((-n) / 65536) := by
      rw [show n = -(-n) by omega, Int.neg_tdiv, Int.tdiv_eq_ediv_of_nonneg (by omega)]
      simp
    by_cases hx : n < n.tdiv 65536 * 65536
    · have e : n / 65536 = n.tdiv 65536 - 1 := by omega
      rw [e]
      have r1 : -16777216 ≤ n.tdiv 65536 := by omega
      have r2 : n.tdiv 65536 ≤ 0 := by omega
      clear hq e
      go_enter Try.func28, Try.ntmps28
      go_wp2
      go_ret
      exact ⟨rfl, rfl⟩
    · have e : n / 65536 = n.tdiv 65536 := by omega
      rw [e]
      have r1 : -16777216 ≤ n.tdiv 65536 := by omega
      have r2 : n.tdiv 65536 ≤ 0 := by omega
      clear hq e
      go_enter Try.func28, Try.ntmps28
      go_wp2
      go_ret
      exact ⟨rfl, rfl⟩
end Go.Proofs.Ytblneabjdbllbaa
