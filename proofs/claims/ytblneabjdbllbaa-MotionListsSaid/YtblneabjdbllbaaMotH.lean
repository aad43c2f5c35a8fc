/-
  Motions, one by one: At, the document's answer.
-/
import Derived.Test.YtblneabjdbllbaaMotG
namespace Go.Proofs.Ytblneabjdbllbaa
open Go.RowKit
set_option linter.unusedVariables false
attribute [local go_sem] vwp vUpon_value vUpon_skip vUpon_enter vUpon_row
set_option linter.unusedSimpArgs false
set_option maxHeartbeats 1000000 in
theorem rAt_bad (m : Mo) (t : Int) (w : World) (hw : Wf m) (c0 : ¬ chk m = 0) : Calls Try.prog 11 #[.agg #[.int .i64 ((m).node), .int .i64 ((m).fr), .int .i64 ((m).to), .int .i64 ((m).st), .int .i64 ((m).ln), .int .u8 ((m).es), .int .i64 ((m).ts), .bool ((m).bk)], .int .i64 t] w fun e w' => e = .returned (.tuple #[.int .i64 0, .bool false, .int .i64 (chk m)]) ∧ Below w.heap.size w w' := by
  have C := fun w => rcheck_any m w hw
  generalize chk m = c at *
  have hne : (c != 0) = true := by simpa using c0
  replace C := Lib.hid C
  clear c0 hw
  obtain ⟨nd, fr, to, st, ln, es, ts, bk⟩ := m
  go_enter Try.func11, Try.ntmps11
  go_wp2_with (first | (go_at_call 15; (with_reducible refine (C.out _).mono ?_); rintro e w1 ⟨rfl, hb1⟩; obtain ⟨hc1, hf1⟩ := bcell hb1; have hz1 := hb1.size; (try simp at hz1); (try have lt1 : w.heap.size < w1.heap.size := (by omega))))
  go_ret3
  exact ⟨rfl, (by repeat (first | exact Below.refl _ _ | assumption | refine Below.drew ?_ | refine Below.alloc ?_ (by (try simp) <;> omega) _ | refine Below.setCell ?_ (by (try simp) <;> omega) _ | (refine Below.trans ?_ (Below.mono (by assumption) (by (try simp) <;> omega)))))⟩
set_option maxHeartbeats 1000000 in
theorem rAt_late (m : Mo) (t : Int) (w : World) (hw : Wf m) (c0 : chk m = 0) (hl : lateB t = true) : Calls Try.prog 11 #[.agg #[.int .i64 ((m).node), .int .i64 ((m).fr), .int .i64 ((m).to), .int .i64 ((m).st), .int .i64 ((m).ln), .int .u8 ((m).es), .int .i64 ((m).ts), .bool ((m).bk)], .int .i64 t] w fun e w' => e = .returned (.tuple #[.int .i64 0, .bool false, .int .i64 230]) ∧ Below w.heap.size w w' := by
  have C := fun w => rcheck_any m w hw
  rw [c0] at C
  replace C := Lib.hid C
  have : t < 0 ∨ (0 ≤ t ∧ 1048576 < t) := by unfold lateB at hl; simp at hl; omega
  clear c0 hw hl
  obtain ⟨nd, fr, to, st, ln, es, ts, bk⟩ := m
  rcases this with h | ⟨h, h'⟩
  all_goals
    go_enter Try.func11, Try.ntmps11
    go_wp2_with (first | (go_at_call 15; (with_reducible refine (C.out _).mono ?_); rintro e w1 ⟨rfl, hb1⟩; obtain ⟨hc1, hf1⟩ := bcell hb1; have hz1 := hb1.size; (try simp at hz1); (try have lt1 : w.heap.size < w1.heap.size := (by omega))))
    go_ret3
    exact ⟨rfl, (by repeat (first | exact Below.refl _ _ | assumption | refine Below.drew ?_ | refine Below.alloc ?_ (by (try simp) <;> omega) _ | refine Below.setCell ?_ (by (try simp) <;> omega) _ | (refine Below.trans ?_ (Below.mono (by assumption) (by (try simp) <;> omega)))))⟩
set_option maxHeartbeats 1000000 in
theorem rAt_before (m : Mo) (t : Int) (w : World) (hw : Wf m) (c0 : chk m = 0) (h0 : 0 ≤ t) (h1 : t ≤ 1048576) (h2 : t < m.st) : Calls Try.prog 11 #[.agg #[.int .i64 ((m).node), .int .i64 ((m).fr), .int .i64 ((m).to), .int .i64 ((m).st), .int .i64 ((m).ln), .int .u8 ((m).es), .int .i64 ((m).ts), .bool ((m).bk)], .int .i64 t] w fun e w' => e = .returned (.tuple #[.int .i64 m.fr, .bool true, .int .i64 0]) ∧ Below w.heap.size w w' := by
  have C := fun w => rcheck_any m w hw
  rw [c0] at C
  replace C := Lib.hid C
  clear c0 hw
  obtain ⟨nd, fr, to, st, ln, es, ts, bk⟩ := m
  simp only at *
  go_enter Try.func11, Try.ntmps11
  go_wp2_with (first | (go_at_call 15; (with_reducible refine (C.out _).mono ?_); rintro e w1 ⟨rfl, hb1⟩; obtain ⟨hc1, hf1⟩ := bcell hb1; have hz1 := hb1.size; (try simp at hz1); (try have lt1 : w.heap.size < w1.heap.size := (by omega))))
  go_ret3
  exact ⟨rfl, (by repeat (first | exact Below.refl _ _ | assumption | refine Below.drew ?_ | refine Below.alloc ?_ (by (try simp) <;> omega) _ | refine Below.setCell ?_ (by (try simp) <;> omega) _ | (refine Below.trans ?_ (Below.mono (by assumption) (by (try simp) <;> omega)))))⟩
set_option maxHeartbeats 2000000 in
theorem rAt_over (m : Mo) (t : Int) (w : World) (hw : Wf m) (c0 : chk m = 0) (h0 : m.st ≤ t) (h1 : t ≤ 1048576) (ho : overB m t = true) : Calls Try.prog 11 #[.agg #[.int .i64 ((m).node), .int .i64 ((m).fr), .int .i64 ((m).to), .int .i64 ((m).st), .int .i64 ((m).ln), .int .u8 ((m).es), .int .i64 ((m).ts), .bool ((m).bk)], .int .i64 t] w fun e w' => e = .returned (.tuple #[.int .i64 (if (m.bk && !oddB m.ts) = true then m.fr else m.to), .bool false, .int .i64 0]) ∧ Below w.heap.size w w' := by
  have h := Ok.of hw c0
  have C := fun w => rcheck_any m w hw
  rw [c0] at C
  replace C := Lib.hid C
  have O := fun w => rover_any m t w h h0 h1
  rw [ho] at O
  replace O := Lib.hid O
  have hb := (rem_cases m.ts h.ts.1).2
  obtain ⟨t0, t1⟩ := h.ts
  obtain ⟨s0, s1⟩ := h.st
  clear h ho c0 hw
  obtain ⟨nd, fr, to, st, ln, es, ts, bk⟩ := m
  simp only at *
  cases hk : oddB ts <;> cases bk <;> simp only [hk] at hb ⊢ <;> simp only [Bool.and_false, Bool.false_and, Bool.and_true, Bool.not_true, Bool.not_false, if_true, Bool.false_eq_true, if_false] at hb ⊢
  all_goals clear hk
  all_goals
    go_enter Try.func11, Try.ntmps11
    go_wp2_with (first | (go_at_call 15; (with_reducible refine (C.out _).mono ?_); rintro e w1 ⟨rfl, hb1⟩; obtain ⟨hc1, hf1⟩ := bcell hb1; have hz1 := hb1.size; (try simp at hz1); (try have lt1 : w.heap.size < w1.heap.size := (by omega))) | ((go_at_call 27; (with_reducible refine (O.out _).mono ?_); rintro e w2 ⟨rfl, hb2⟩; obtain ⟨hc2, hf2⟩ := bcell hb2; have hz2 := hb2.size; (try simp at hz2); (try have lt2 : w.heap.size < w2.heap.size := (by omega)))))
    go_ret3
    exact ⟨rfl, (by repeat (first | exact Below.refl _ _ | assumption | refine Below.drew ?_ | refine Below.alloc ?_ (by (try simp) <;> omega) _ | refine Below.setCell ?_ (by (try simp) <;> omega) _ | (refine Below.trans ?_ (Below.mono (by assumption) (by (try simp) <;> omega)))))⟩
end Go.Proofs.Ytblneabjdbllbaa
