/-
  Rectangles: how many places, empty, ends, what both have, in.
-/
import Derived.Test.YtkmofpnefjgnkaaLisT
namespace Go.Proofs.Ytkmofpnefjgnkaa
open Go.RowKit
set_option linter.unusedVariables false
attribute [local go_sem] vwp vUpon_value vUpon_skip vUpon_enter vUpon_row
set_option linter.unusedSimpArgs false
set_option linter.unusedVariables false
def areaR (q : Re) : Int := if mayR q then q.wd * q.ht else 0
def emptyR (q : Re) : Bool := areaR q == 0
def fromR (x y r b : Int) : Re := if r ≤ x ∨ b ≤ y then Re.none else ⟨x, y, r - x, b - y⟩
def meetR (a b : Re) : Re := if emptyR a || emptyR b then Re.none else fromR (max a.x b.x) (max a.y b.y) (min (a.x + a.wd) (b.x + b.wd)) (min (a.y + a.ht) (b.y + b.ht))
def inR (a b : Re) : Bool := emptyR a || (meetR a b).eqb a
theorem Re.none_may : mayR Re.none = true := by decide
theorem Re.none_empty : emptyR Re.none = true := by decide
theorem full_bd {q : Re} (h : emptyR q = false) : mayR q = true ∧ 0 < q.wd ∧ 0 < q.ht := by
  unfold emptyR areaR at h
  cases hm : mayR q
  · rw [hm] at h; simp at h
  · rw [hm] at h
    have := may_bd hm
    simp at h
    exact ⟨rfl, by omega, by omega⟩
theorem may_sum {q : Re} (h : mayR q = true) : q.x + q.wd ≤ 16384 ∧ q.y + q.ht ≤ 16384 := by
  unfold mayR spanB at h
  simp only [Bool.and_eq_true, decide_eq_true_eq] at h
  exact ⟨h.1.2.2, h.2.2.2⟩
theorem may_wf {q : Re} (h : mayR q = true) : q.Wf := by
  have := may_bd h
  unfold Re.Wf I64
  omega
theorem may_of {q : Re} (h : -16384 ≤ q.x ∧ q.x ≤ 16384 ∧ -16384 ≤ q.y ∧ q.y ≤ 16384 ∧ 0 ≤ q.wd ∧ q.wd ≤ 32768 ∧ 0 ≤ q.ht ∧ q.ht ≤ 32768 ∧ q.x + q.wd ≤ 16384 ∧ q.y + q.ht ≤ 16384) : mayR q = true := by
  unfold mayR spanB
  obtain ⟨a, b, c, d, e, f, g, i, j, k⟩ := h
  rw [inB_iff.2 ⟨a, b⟩, inB_iff.2 ⟨c, d⟩, sdB_iff.2 ⟨e, f⟩, sdB_iff.2 ⟨g, i⟩, decide_eq_true j, decide_eq_true k]
  rfl
theorem meet_may (a b : Re) : mayR (meetR a b) = true := by
  unfold meetR
  split
  · exact Re.none_may
  · rename_i h
    simp only [Bool.or_eq_true, not_or, Bool.not_eq_true] at h
    obtain ⟨ma, a1, a2⟩ := full_bd h.1
    obtain ⟨mb, b1, b2⟩ := full_bd h.2
    have := may_bd ma; have := may_bd mb; have := may_sum ma; have := may_sum mb
    unfold fromR
    split
    · exact Re.none_may
    · apply may_of
      simp only
      omega
theorem area_any (q : Re) (w : World) (hq : q.Wf) : Calls Try.prog 61 #[.agg #[.int .i64 (q).x, .int .i64 (q).y, .int .i64 (q).wd, .int .i64 (q).ht]] w fun e w' => e = .returned (.int .i64 (areaR q)) ∧ Below w.heap.size w w' := by
  have A := fun w => gcheck_any q w hq
  obtain ⟨x, y, a, b⟩ := q
  unfold areaR
  simp only at A ⊢
  cases hm : mayR ⟨x, y, a, b⟩
  · rw [hm] at A
    replace A := Lib.hid A
    clear hq hm
    go_enter Try.func61, Try.ntmps61
    go_wp2_with (first | (go_at_call 38; (with_reducible refine (A.out _).mono ?_); rintro e w1 ⟨rfl, hb1⟩) | go_in)
    go_ret
    exact ⟨rfl, (by repeat (first | exact Below.refl _ _ | assumption | refine Below.drew ?_ | refine Below.alloc ?_ (by (try simp) <;> omega) _ | refine Below.setCell ?_ (by (try simp) <;> omega) _ | (refine Below.trans ?_ (Below.mono (by assumption) (by (try simp) <;> omega)))))⟩
  · have hb := may_bd hm
    obtain ⟨_, _, _, _, a0, a1, b0, b1⟩ := hb
    simp only at a0 a1 b0 b1
    rw [hm] at A
    replace A := Lib.hid A
    have m0 : 0 ≤ a * b := Int.mul_nonneg a0 b0
    have m1 : a * b ≤ 1073741824 := by have := Int.mul_le_mul a1 b1 b0 (by omega); omega
    clear hq hm
    go_enter Try.func61, Try.ntmps61
    go_wp2_with (first | (go_at_call 38; (with_reducible refine (A.out _).mono ?_); rintro e w1 ⟨rfl, hb1⟩; obtain ⟨hc1, hf1⟩ := bcell hb1; have z1 := hb1.size; (try simp at z1); have l1 : w.heap.size < w1.heap.size := (by omega)) | go_in)
    go_ret
    exact ⟨rfl, (by repeat (first | exact Below.refl _ _ | assumption | refine Below.drew ?_ | refine Below.alloc ?_ (by (try simp) <;> omega) _ | refine Below.setCell ?_ (by (try simp) <;> omega) _ | (refine Below.trans ?_ (Below.mono (by assumption) (by (try simp) <;> omega)))))⟩
theorem empty_any (q : Re) (w : World) (hq : q.Wf) : Calls Try.prog 44 #[.agg #[.int .i64 (q).x, .int .i64 (q).y, .int .i64 (q).wd, .int .i64 (q).ht]] w fun e w' => e = .returned (.bool (emptyR q)) ∧ Below w.heap.size w w' := by
  have A := fun w => area_any q w hq
  obtain ⟨x, y, a, b⟩ := q
  unfold emptyR
  simp only at A ⊢
  generalize areaR ⟨x, y, a, b⟩ = k at *
  replace A := Lib.hid A
  clear hq
  go_enter Try.func44, Try.ntmps44
  go_wp2_with (first | (go_at_call 61; (with_reducible refine (A.out _).mono ?_); rintro e w1 ⟨rfl, hb1⟩) | go_in)
  go_ret
  exact ⟨rfl, (by repeat (first | exact Below.refl _ _ | assumption | refine Below.drew ?_ | refine Below.alloc ?_ (by (try simp) <;> omega) _ | refine Below.setCell ?_ (by (try simp) <;> omega) _ | (refine Below.trans ?_ (Below.mono (by assumption) (by (try simp) <;> omega)))))⟩
theorem ends_any (q : Re) (w : World) (hq : mayR q = true) : Calls Try.prog 53 #[.agg #[.int .i64 (q).x, .int .i64 (q).y, .int .i64 (q).wd, .int .i64 (q).ht]] w fun e w' => e = .returned (.tuple #[.int .i64 (q.x + q.wd), .int .i64 (q.y + q.ht)]) ∧ Below w.heap.size w w' := by
  have hb := may_bd hq
  obtain ⟨x, y, a, b⟩ := q
  obtain ⟨x0, x1, y0, y1, a0, a1, b0, b1⟩ := hb
  simp only at x0 x1 y0 y1 a0 a1 b0 b1 ⊢
  clear hq
  go_enter Try.func53, Try.ntmps53
  go_wp2
  refine wp_region_steady (Held w 1 [(⟨w.heap.size, 0, none⟩, .int .i64 x), (⟨w.heap.size, 1, none⟩, .int .i64 y), (⟨w.heap.size, 2, none⟩, .int .i64 a), (⟨w.heap.size, 3, none⟩, .int .i64 b)]) (by kernel_rfl) (by kernel_rfl) ⟨(by repeat (first | exact Below.refl _ _ | assumption | refine Below.drew ?_ | refine Below.alloc ?_ (by (try simp) <;> omega) _ | refine Below.setCell ?_ (by (try simp) <;> omega) _)), (by (try simp) <;> omega), (by simp only [Cells]; go_simp)⟩ ?_
  repeat (first | (refine' wpSteady_do _ _ _; rotate_left; (focus rfl); (focus (intro w1 hS R hR; have hc := hS.cells; simp only [Cells] at hc; go_simp; (try go_bits); first | exact hR _ hS | fail)); simp only [Act.put, List.setIfInBounds_toArray, List.set_cons_zero, List.set_cons_succ]) | (refine wpSteady_pass ?_ ?_; (focus rfl); simp only [Act.put, List.setIfInBounds_toArray, List.set_cons_zero, List.set_cons_succ]))
  refine wpSteady_nil (fun w1 hS => ?_)
  have hc := hS.cells; have hb := hS.old; have hz := hS.size; clear hS; simp only [Cells] at hc
  go_wp2
  refine bodyPost_ret (v := .tuple #[.int .i64 (x + a), .int .i64 (y + b)]) (by simp [results, Try.results53, go_sem]) rfl ⟨rfl, (by repeat (first | exact Below.refl _ _ | assumption | refine Below.drew ?_ | refine Below.alloc ?_ (by (try simp) <;> omega) _ | refine Below.setCell ?_ (by (try simp) <;> omega) _ | (refine Below.trans ?_ (Below.mono (by assumption) (by (try simp) <;> omega)))))⟩
theorem from_any (x y r b : Int) (w : World) (hx : -65536 ≤ x ∧ x ≤ 65536) (hy : -65536 ≤ y ∧ y ≤ 65536) (hr : -65536 ≤ r ∧ r ≤ 65536) (hb : -65536 ≤ b ∧ b ≤ 65536) : Calls Try.prog 62 #[.int .i64 x, .int .i64 y, .int .i64 r, .int .i64 b] w fun e w' => e = .returned (.agg #[.int .i64 (fromR x y r b).x, .int .i64 (fromR x y r b).y, .int .i64 (fromR x y r b).wd, .int .i64 (fromR x y r b).ht]) ∧ Below w.heap.size w w' := by
  obtain ⟨x0, x1⟩ := hx; obtain ⟨y0, y1⟩ := hy; obtain ⟨r0, r1⟩ := hr; obtain ⟨b0, b1⟩ := hb
  by_cases c1 : r ≤ x
  · have e : fromR x y r b = Re.none := by unfold fromR; rw [if_pos (.inl c1)]
    rw [e]; clear e
    have g1 : decide (r ≤ x) = true := by simpa using c1
    clear c1
    go_enter Try.func62, Try.ntmps62
    go_wp2
    refine bodyPost_ret (v := .agg #[.int .i64 (Re.none).x, .int .i64 (Re.none).y, .int .i64 (Re.none).wd, .int .i64 (Re.none).ht]) (by simp [results, Try.results62, go_sem, Re.none]) rfl ⟨rfl, (by repeat (first | exact Below.refl _ _ | assumption | refine Below.drew ?_ | refine Below.alloc ?_ (by (try simp) <;> omega) _ | refine Below.setCell ?_ (by (try simp) <;> omega) _ | (refine Below.trans ?_ (Below.mono (by assumption) (by (try simp) <;> omega)))))⟩
  · have g1 : decide (r ≤ x) = false := by simpa using c1
    by_cases c2 : b ≤ y
    · have e : fromR x y r b = Re.none := by unfold fromR; rw [if_pos (.inr c2)]
      rw [e]; clear e
      have g2 : decide (b ≤ y) = true := by simpa using c2
      clear c1 c2
      go_enter Try.func62, Try.ntmps62
      go_wp2
      refine bodyPost_ret (v := .agg #[.int .i64 (Re.none).x, .int .i64 (Re.none).y, .int .i64 (Re.none).wd, .int .i64 (Re.none).ht]) (by simp [results, Try.results62, go_sem, Re.none]) rfl ⟨rfl, (by repeat (first | exact Below.refl _ _ | assumption | refine Below.drew ?_ | refine Below.alloc ?_ (by (try simp) <;> omega) _ | refine Below.setCell ?_ (by (try simp) <;> omega) _ | (refine Below.trans ?_ (Below.mono (by assumption) (by (try simp) <;> omega)))))⟩
    · have e : fromR x y r b = ⟨x, y, r - x, b - y⟩ := by unfold fromR; rw [if_neg (by omega)]
      rw [e]; clear e
      have g2 : decide (b ≤ y) = false := by simpa using c2
      clear c1 c2
      go_enter Try.func62, Try.ntmps62
      go_wp2
      refine bodyPost_ret (v := .agg #[.int .i64 x, .int .i64 y, .int .i64 (r - x), .int .i64 (b - y)]) (by simp [results, Try.results62, go_sem]) rfl ⟨rfl, (by repeat (first | exact Below.refl _ _ | assumption | refine Below.drew ?_ | refine Below.alloc ?_ (by (try simp) <;> omega) _ | refine Below.setCell ?_ (by (try simp) <;> omega) _ | (refine Below.trans ?_ (Below.mono (by assumption) (by (try simp) <;> omega)))))⟩
end Go.Proofs.Ytkmofpnefjgnkaa
