/-
  Rectangles: how many places, empty, ends, has.
-/
import Derived.Test.YtlklmncjicgbgaaRegA
import Derived.Test.YtlklmncjicgbgaaRegR
namespace Go.Proofs.Ytlklmncjicgbgaa
open Go.RowKit
set_option linter.unusedVariables false
attribute [local go_sem] vwp vUpon_value vUpon_skip vUpon_enter vUpon_row
set_option linter.unusedSimpArgs false
set_option linter.unusedVariables false
theorem may_bd {q : Re} (h : mayR q = true) : -16384 ≤ q.x ∧ q.x ≤ 16384 ∧ -16384 ≤ q.y ∧ q.y ≤ 16384 ∧ 0 ≤ q.wd ∧ q.wd ≤ 32768 ∧ 0 ≤ q.ht ∧ q.ht ≤ 32768 := by
  unfold mayR spanB at h
  simp only [Bool.and_eq_true] at h
  obtain ⟨⟨h1, h2, h3⟩, ⟨h4, h5, h6⟩⟩ := h
  have := inB_iff.1 h1
  have := sdB_iff.1 h2
  have := inB_iff.1 h4
  have := sdB_iff.1 h5
  omega
def areaR (q : Re) : Int := if mayR q then q.wd * q.ht else 0
def emptyR (q : Re) : Bool := areaR q == 0
theorem full_bd {q : Re} (h : emptyR q = false) : mayR q = true ∧ 0 < q.wd ∧ 0 < q.ht := by
  unfold emptyR areaR at h
  cases hm : mayR q
  · rw [hm] at h; simp at h
  · rw [hm] at h
    have := may_bd hm
    simp at h
    exact ⟨rfl, by omega, by omega⟩
theorem may_sum {q : Re} (h : mayR q = true) : q.x + q.wd ≤ 16384 ∧ q.y + q.ht ≤ 16384 := by
  unfold mayR spanB at h
  simp only [Bool.and_eq_true, decide_eq_true_eq] at h
  exact ⟨h.1.2.2, h.2.2.2⟩
theorem may_wf {q : Re} (h : mayR q = true) : q.Wf := by
  have := may_bd h
  unfold Re.Wf I64
  omega
theorem area_any (q : Re) (w : World) (hq : q.Wf) : Calls Try.prog 80 #[.agg #[.int .i64 (q).x, .int .i64 (q).y, .int .i64 (q).wd, .int .i64 (q).ht]] w fun e w' => e = .returned (.int .i64 (areaR q)) ∧ Below w.heap.size w w' := by
  have A := fun w => gcheck_any q w hq
  obtain ⟨x, y, a, b⟩ := q
  unfold areaR
  simp only at A ⊢
  cases hm : mayR ⟨x, y, a, b⟩
  · rw [hm] at A
    replace A := Lib.hid A
    clear hq hm
    go_enter Try.func80, Try.ntmps80
    go_wp2_with (first | (go_at_call 60; (with_reducible refine (A.out _).mono ?_); rintro e w1 ⟨rfl, hb1⟩) | go_in)
    go_ret
    exact ⟨rfl, (by repeat (first | exact Below.refl _ _ | assumption | refine Below.drew ?_ | refine Below.alloc ?_ (by (try simp) <;> omega) _ | refine Below.setCell ?_ (by (try simp) <;> omega) _ | (refine Below.trans ?_ (Below.mono (by assumption) (by (try simp) <;> omega)))))⟩
  · have hb := may_bd hm
    obtain ⟨_, _, _, _, a0, a1, b0, b1⟩ := hb
    simp only at a0 a1 b0 b1
    rw [hm] at A
    replace A := Lib.hid A
    have m0 : 0 ≤ a * b := Int.mul_nonneg a0 b0
    have m1 : a * b ≤ 1073741824 := by have := Int.mul_le_mul a1 b1 b0 (by omega); omega
    clear hq hm
    go_enter Try.func80, Try.ntmps80
    go_wp2_with (first | (go_at_call 60; (with_reducible refine (A.out _).mono ?_); rintro e w1 ⟨rfl, hb1⟩; obtain ⟨hc1, hf1⟩ := bcell hb1; have z1 := hb1.size; (try simp at z1); have l1 : w.heap.size < w1.heap.size := (by omega)) | go_in)
    go_ret
    exact ⟨rfl, (by repeat (first | exact Below.refl _ _ | assumption | refine Below.drew ?_ | refine Below.alloc ?_ (by (try simp) <;> omega) _ | refine Below.setCell ?_ (by (try simp) <;> omega) _ | (refine Below.trans ?_ (Below.mono (by assumption) (by (try simp) <;> omega)))))⟩
theorem empty_any (q : Re) (w : World) (hq : q.Wf) : Calls Try.prog 61 #[.agg #[.int .i64 (q).x, .int .i64 (q).y, .int .i64 (q).wd, .int .i64 (q).ht]] w fun e w' => e = .returned (.bool (emptyR q)) ∧ Below w.heap.size w w' := by
  have A := fun w => area_any q w hq
  obtain ⟨x, y, a, b⟩ := q
  unfold emptyR
  simp only at A ⊢
  generalize areaR ⟨x, y, a, b⟩ = k at *
  replace A := Lib.hid A
  clear hq
  go_enter Try.func61, Try.ntmps61
  go_wp2_with (first | (go_at_call 80; (with_reducible refine (A.out _).mono ?_); rintro e w1 ⟨rfl, hb1⟩) | go_in)
  go_ret
  exact ⟨rfl, (by repeat (first | exact Below.refl _ _ | assumption | refine Below.drew ?_ | refine Below.alloc ?_ (by (try simp) <;> omega) _ | refine Below.setCell ?_ (by (try simp) <;> omega) _ | (refine Below.trans ?_ (Below.mono (by assumption) (by (try simp) <;> omega)))))⟩
theorem ends_any (q : Re) (w : World) (hq : mayR q = true) : Calls Try.prog 74 #[.agg #[.int .i64 (q).x, .int .i64 (q).y, .int .i64 (q).wd, .int .i64 (q).ht]] w fun e w' => e = .returned (.tuple #[.int .i64 (q.x + q.wd), .int .i64 (q.y + q.ht)]) ∧ Below w.heap.size w w' := by
  have hb := may_bd hq
  obtain ⟨x, y, a, b⟩ := q
  obtain ⟨x0, x1, y0, y1, a0, a1, b0, b1⟩ := hb
  simp only at x0 x1 y0 y1 a0 a1 b0 b1 ⊢
  clear hq
  go_enter Try.func74, Try.ntmps74
  go_wp2
  refine wp_region_steady (Held w 1 [(⟨w.heap.size, 0, none⟩, .int .i64 x), (⟨w.heap.size, 1, none⟩, .int .i64 y), (⟨w.heap.size, 2, none⟩, .int .i64 a), (⟨w.heap.size, 3, none⟩, .int .i64 b)]) (by kernel_rfl) (by kernel_rfl) ⟨(by repeat (first | exact Below.refl _ _ | assumption | refine Below.drew ?_ | refine Below.alloc ?_ (by (try simp) <;> omega) _ | refine Below.setCell ?_ (by (try simp) <;> omega) _)), (by (try simp) <;> omega), (by simp only [Cells]; go_simp)⟩ ?_
  repeat (first | (refine' wpSteady_do _ _ _; rotate_left; (focus rfl); (focus (intro w1 hS R hR; have hc := hS.cells; simp only [Cells] at hc; go_simp; (try go_bits); first | exact hR _ hS | fail)); simp only [Act.put, List.setIfInBounds_toArray, List.set_cons_zero, List.set_cons_succ]) | (refine wpSteady_pass ?_ ?_; (focus rfl); simp only [Act.put, List.setIfInBounds_toArray, List.set_cons_zero, List.set_cons_succ]))
  refine wpSteady_nil (fun w1 hS => ?_)
  have hc := hS.cells; have hb := hS.old; have hz := hS.size; clear hS; simp only [Cells] at hc
  go_wp2
  refine bodyPost_ret (v := .tuple #[.int .i64 (x + a), .int .i64 (y + b)]) (by simp [results, Try.results74, go_sem]) rfl ⟨rfl, (by repeat (first | exact Below.refl _ _ | assumption | refine Below.drew ?_ | refine Below.alloc ?_ (by (try simp) <;> omega) _ | refine Below.setCell ?_ (by (try simp) <;> omega) _ | (refine Below.trans ?_ (Below.mono (by assumption) (by (try simp) <;> omega)))))⟩
theorem empty_none {q : Re} (h : mayR q = true) : emptyR q = noneR q := by
  have := may_bd h
  unfold emptyR areaR noneR
  rw [if_pos h]
  by_cases h1 : q.wd = 0
  · simp [h1]
  · by_cases h2 : q.ht = 0
    · simp [h2]
    · have : q.wd * q.ht ≠ 0 := Int.mul_ne_zero h1 h2
      simp [h1, h2]
theorem has_none {q : Re} {x y : Int} (h : mayR q = true) (hn : noneR q = true) : hasR q x y = false := by
  have := may_bd h
  unfold noneR at hn
  unfold hasR
  simp only [Bool.or_eq_true, decide_eq_true_eq] at hn
  rw [Bool.eq_false_iff]
  simp only [ne_eq, Bool.and_eq_true, decide_eq_true_eq, not_and]
  omega
set_option maxHeartbeats 1000000 in
theorem ghas_any (q : Re) (px py : Int) (w : World) (hm : mayR q = true) (h1 : I64 px) (h2 : I64 py) : Calls Try.prog 54 #[.agg #[.int .i64 (q).x, .int .i64 (q).y, .int .i64 (q).wd, .int .i64 (q).ht], .agg #[.int .i64 px, .int .i64 py]] w fun e w' => e = .returned (.bool (hasR q px py)) ∧ Below w.heap.size w w' := by
  have EM := fun w => empty_any q w (may_wf hm)
  have EN := fun w => ends_any q w hm
  rw [empty_none hm] at EM
  have hbd := may_bd hm
  obtain ⟨hx1, hx2⟩ := h1
  obtain ⟨hy1, hy2⟩ := h2
  have hn0 := has_none (x := px) (y := py) hm
  obtain ⟨x, y, a, b⟩ := q
  simp only at hbd EM EN ⊢
  cases hn : noneR ⟨x, y, a, b⟩
  · rw [hn] at EM
    replace EM := Lib.hid EM
    replace EN := Lib.hid EN
    unfold hasR
    simp only
    clear hn hn0 hm
    by_cases c1 : x ≤ px
    · by_cases c2 : px < x + a
      · by_cases c3 : y ≤ py
        · by_cases c4 : py < y + b
          · rw [show (decide (x ≤ px) && decide (px < x + a) && decide (y ≤ py) && decide (py < y + b)) = true by simp [c1, c2, c3, c4]]
            go_enter Try.func54, Try.ntmps54
            go_wp2_with (first
              | (go_at_call 74; (with_reducible refine (EN.out _).mono ?_); rintro e w1 ⟨rfl, hb1⟩; obtain ⟨hc1, hf1⟩ := bcell hb1; have z1 := hb1.size; (try simp at z1); have l0 : w.heap.size < w1.heap.size := (by omega); have l1 : w.heap.size + 1 < w1.heap.size := (by omega))
              | (go_at_call 61; (with_reducible refine (EM.out _).mono ?_); rintro e w2 ⟨rfl, hb2⟩; obtain ⟨hc2, hf2⟩ := bcell hb2; have z2 := hb2.size; (try simp at z2); have m0 : w.heap.size < w2.heap.size := (by omega); have m1 : w.heap.size + 1 < w2.heap.size := (by omega))
              | go_in)
            go_ret
            exact ⟨by first | rfl | (simp; omega), (by repeat (first | exact Below.refl _ _ | assumption | refine Below.drew ?_ | refine Below.alloc ?_ (by (try simp) <;> omega) _ | refine Below.setCell ?_ (by (try simp) <;> omega) _ | (refine Below.trans ?_ (Below.mono (by assumption) (by (try simp) <;> omega)))))⟩
          · rw [show (decide (x ≤ px) && decide (px < x + a) && decide (y ≤ py) && decide (py < y + b)) = false by simp [c4]]
            go_enter Try.func54, Try.ntmps54
            go_wp2_with (first
              | (go_at_call 74; (with_reducible refine (EN.out _).mono ?_); rintro e w1 ⟨rfl, hb1⟩; obtain ⟨hc1, hf1⟩ := bcell hb1; have z1 := hb1.size; (try simp at z1); have l0 : w.heap.size < w1.heap.size := (by omega); have l1 : w.heap.size + 1 < w1.heap.size := (by omega))
              | (go_at_call 61; (with_reducible refine (EM.out _).mono ?_); rintro e w2 ⟨rfl, hb2⟩; obtain ⟨hc2, hf2⟩ := bcell hb2; have z2 := hb2.size; (try simp at z2); have m0 : w.heap.size < w2.heap.size := (by omega); have m1 : w.heap.size + 1 < w2.heap.size := (by omega))
              | go_in)
            go_ret
            exact ⟨by first | rfl | (simp; omega), (by repeat (first | exact Below.refl _ _ | assumption | refine Below.drew ?_ | refine Below.alloc ?_ (by (try simp) <;> omega) _ | refine Below.setCell ?_ (by (try simp) <;> omega) _ | (refine Below.trans ?_ (Below.mono (by assumption) (by (try simp) <;> omega)))))⟩
        · rw [show (decide (x ≤ px) && decide (px < x + a) && decide (y ≤ py) && decide (py < y + b)) = false by simp [c3]]
          go_enter Try.func54, Try.ntmps54
          go_wp2_with (first
            | (go_at_call 74; (with_reducible refine (EN.out _).mono ?_); rintro e w1 ⟨rfl, hb1⟩; obtain ⟨hc1, hf1⟩ := bcell hb1; have z1 := hb1.size; (try simp at z1); have l0 : w.heap.size < w1.heap.size := (by omega); have l1 : w.heap.size + 1 < w1.heap.size := (by omega))
            | (go_at_call 61; (with_reducible refine (EM.out _).mono ?_); rintro e w2 ⟨rfl, hb2⟩; obtain ⟨hc2, hf2⟩ := bcell hb2; have z2 := hb2.size; (try simp at z2); have m0 : w.heap.size < w2.heap.size := (by omega); have m1 : w.heap.size + 1 < w2.heap.size := (by omega))
            | go_in)
          go_ret
          exact ⟨by first | rfl | (simp; omega), (by repeat (first | exact Below.refl _ _ | assumption | refine Below.drew ?_ | refine Below.alloc ?_ (by (try simp) <;> omega) _ | refine Below.setCell ?_ (by (try simp) <;> omega) _ | (refine Below.trans ?_ (Below.mono (by assumption) (by (try simp) <;> omega)))))⟩
      · rw [show (decide (x ≤ px) && decide (px < x + a) && decide (y ≤ py) && decide (py < y + b)) = false by simp [c2]]
        go_enter Try.func54, Try.ntmps54
        go_wp2_with (first
          | (go_at_call 74; (with_reducible refine (EN.out _).mono ?_); rintro e w1 ⟨rfl, hb1⟩; obtain ⟨hc1, hf1⟩ := bcell hb1; have z1 := hb1.size; (try simp at z1); have l0 : w.heap.size < w1.heap.size := (by omega); have l1 : w.heap.size + 1 < w1.heap.size := (by omega))
          | (go_at_call 61; (with_reducible refine (EM.out _).mono ?_); rintro e w2 ⟨rfl, hb2⟩; obtain ⟨hc2, hf2⟩ := bcell hb2; have z2 := hb2.size; (try simp at z2); have m0 : w.heap.size < w2.heap.size := (by omega); have m1 : w.heap.size + 1 < w2.heap.size := (by omega))
          | go_in)
        go_ret
        exact ⟨by first | rfl | (simp; omega), (by repeat (first | exact Below.refl _ _ | assumption | refine Below.drew ?_ | refine Below.alloc ?_ (by (try simp) <;> omega) _ | refine Below.setCell ?_ (by (try simp) <;> omega) _ | (refine Below.trans ?_ (Below.mono (by assumption) (by (try simp) <;> omega)))))⟩
    · rw [show (decide (x ≤ px) && decide (px < x + a) && decide (y ≤ py) && decide (py < y + b)) = false by simp [c1]]
      go_enter Try.func54, Try.ntmps54
      go_wp2_with (first
        | (go_at_call 74; (with_reducible refine (EN.out _).mono ?_); rintro e w1 ⟨rfl, hb1⟩; obtain ⟨hc1, hf1⟩ := bcell hb1; have z1 := hb1.size; (try simp at z1); have l0 : w.heap.size < w1.heap.size := (by omega); have l1 : w.heap.size + 1 < w1.heap.size := (by omega))
        | (go_at_call 61; (with_reducible refine (EM.out _).mono ?_); rintro e w2 ⟨rfl, hb2⟩; obtain ⟨hc2, hf2⟩ := bcell hb2; have z2 := hb2.size; (try simp at z2); have m0 : w.heap.size < w2.heap.size := (by omega); have m1 : w.heap.size + 1 < w2.heap.size := (by omega))
        | go_in)
      go_ret
      exact ⟨by first | rfl | (simp; omega), (by repeat (first | exact Below.refl _ _ | assumption | refine Below.drew ?_ | refine Below.alloc ?_ (by (try simp) <;> omega) _ | refine Below.setCell ?_ (by (try simp) <;> omega) _ | (refine Below.trans ?_ (Below.mono (by assumption) (by (try simp) <;> omega)))))⟩
  · rw [hn0 hn]
    rw [hn] at EM
    replace EM := Lib.hid EM
    replace EN := Lib.hid EN
    clear hn hn0 hm
    go_enter Try.func54, Try.ntmps54
    go_wp2_with (first
      | (go_at_call 74; (with_reducible refine (EN.out _).mono ?_); rintro e w1 ⟨rfl, hb1⟩; obtain ⟨hc1, hf1⟩ := bcell hb1; have z1 := hb1.size; (try simp at z1); have l0 : w.heap.size < w1.heap.size := (by omega); have l1 : w.heap.size + 1 < w1.heap.size := (by omega))
      | (go_at_call 61; (with_reducible refine (EM.out _).mono ?_); rintro e w2 ⟨rfl, hb2⟩; obtain ⟨hc2, hf2⟩ := bcell hb2; have z2 := hb2.size; (try simp at z2); have m0 : w.heap.size < w2.heap.size := (by omega); have m1 : w.heap.size + 1 < w2.heap.size := (by omega))
      | go_in)
    go_ret
    exact ⟨by first | rfl | (simp; omega), (by repeat (first | exact Below.refl _ _ | assumption | refine Below.drew ?_ | refine Below.alloc ?_ (by (try simp) <;> omega) _ | refine Below.setCell ?_ (by (try simp) <;> omega) _ | (refine Below.trans ?_ (Below.mono (by assumption) (by (try simp) <;> omega)))))⟩
end Go.Proofs.Ytlklmncjicgbgaa
