/-
  The law MotionLies walked: all ways together.
-/
import Derived.Test.YtblneabjdbllbaaMotionLiesW
namespace Go.Proofs.Ytblneabjdbllbaa
open Go.RowKit
set_option linter.unusedVariables false
attribute [local go_sem] vwp vUpon_value vUpon_skip vUpon_enter vUpon_row
theorem resE_ok {m : Mo} {t : Int} (hw : Wf m) (h : resE m t = 0) : Ok m ∧ 0 ≤ t ∧ t ≤ 1048576 := by
  unfold resE at h
  by_cases c0 : chk m = 0
  · rw [if_pos c0] at h
    cases hl : lateB t
    · obtain ⟨t0, t1⟩ := lateB_no hl
      exact ⟨Ok.of hw c0, t0, t1⟩
    · rw [hl] at h; simp at h
  · rw [if_neg c0] at h; exact absurd h c0
theorem resE_may {m : Mo} {t : Int} (h : Ok m) (t0 : 0 ≤ t) (t1 : t ≤ 1048576) : resE m t = 0 := by
  unfold resE
  have hl : lateB t = false := by unfold lateB; simp; omega
  rw [if_pos h.chk, hl]; rfl
theorem At_may (m : Mo) (t : Int) (w : World) (hw : Wf m) (h : Ok m) (t0 : 0 ≤ t) (t1 : t ≤ 1048576) : Calls Try.prog 10 #[.agg #[.int .i64 ((m).node), .int .i64 ((m).fr), .int .i64 ((m).to), .int .i64 ((m).st), .int .i64 ((m).ln), .int .u8 ((m).es), .int .i64 ((m).ts), .bool ((m).bk)], .int .i64 t] w fun e w' => e = .returned (.tuple #[.int .i64 (atV m t), .bool (atG m t), .int .i64 0]) ∧ Below w.heap.size w w' := by
  have a := At_any m t w hw
  have e0 := resE_may h t0 t1
  rw [show resV m t = atV m t from if_pos e0, show resG m t = atG m t from if_pos e0, e0] at a
  exact a
theorem walk_MotionLies (m : Mo) (t l : Int) (w : World) (hw : Wf m) :
    Calls Try.prog 5 #[.agg #[.int .i64 ((m).node), .int .i64 ((m).fr), .int .i64 ((m).to), .int .i64 ((m).st), .int .i64 ((m).ln), .int .u8 ((m).es), .int .i64 ((m).ts), .bool ((m).bk)], .int .i64 t, .int .i64 l] w fun e w' => e = .returned (.bool true) ∧ Below w.heap.size w w' := by
  by_cases he : resE m t = 0
  · obtain ⟨h, t0, t1⟩ := resE_ok hw he
    have A1 := fun w => At_may m t w hw h t0 t1
    have A2 := fun w => At_may m m.st w hw h h.st.1 h.st.2
    rw [at_start m h] at A2
    have A3 : atG m t = false → t ≤ l → l ≤ 1048576 → ∀ w, Calls Try.prog 10 #[.agg #[.int .i64 ((m).node), .int .i64 ((m).fr), .int .i64 ((m).to), .int .i64 ((m).st), .int .i64 ((m).ln), .int .u8 ((m).es), .int .i64 ((m).ts), .bool ((m).bk)], .int .i64 l] w fun e w' => e = .returned (.tuple #[.int .i64 (atV m t), .bool false, .int .i64 0]) ∧ Below w.heap.size w w' := by
      intro hg h1 h2 w
      obtain ⟨e1, e2⟩ := stays_over m t l h h1 hg
      have a := At_may m l w hw h (by omega) h2
      rw [e1, e2] at a
      exact a
    have A4 : m.bk = true → 1 ≤ t - m.st - m.ln → t - m.st - m.ln < m.ln → m.ts ≠ 1 → ∃ g3, ∀ w, Calls Try.prog 10 #[.agg #[.int .i64 ((m).node), .int .i64 ((m).fr), .int .i64 ((m).to), .int .i64 ((m).st), .int .i64 ((m).ln), .int .u8 ((m).es), .int .i64 ((m).ts), .bool ((m).bk)], .int .i64 (m.st + m.ln - (t - m.st - m.ln))] w fun e w' => e = .returned (.tuple #[.int .i64 (atV m t), .bool g3, .int .i64 0]) ∧ Below w.heap.size w w' := by
      intro hb h1 h2 h3
      refine ⟨atG m (m.st + m.ln - (t - m.st - m.ln)), fun w => ?_⟩
      have a := At_may m (m.st + m.ln - (t - m.st - m.ln)) w hw h (by have := h.st; omega) (by omega)
      have e := mirror m (t - m.st - m.ln) h hb h3 h1 h2
      rw [e, show m.st + m.ln + (t - m.st - m.ln) = t by omega] at a
      exact a
    have L := lies m t h
    obtain ⟨s0, s1⟩ := h.st
    obtain ⟨l0, l1⟩ := h.ln
    clear he h hw
    generalize atV m t = v at *
    generalize atG m t = g at *
    generalize atG m m.st = g2 at *
    obtain ⟨nd, fr, to, st, ln, es, ts, bk⟩ := m
    simp only at *
    have m1 : (if fr < to then fr else to) = min fr to := by split <;> omega
    have m2 : (if to < fr then to else fr) = min fr to := by split <;> omega
    have m3 : (if fr < to then to else fr) = max fr to := by split <;> omega
    have m4 : (if to < fr then fr else to) = max fr to := by split <;> omega
    have v0 : min fr to ≤ v := by omega
    have v1 : v ≤ max fr to := by omega
    have B : ts = 1 ∨ (ts ≠ 1 ∧ t - st - ln < 1) ∨ (ts ≠ 1 ∧ 1 ≤ t - st - ln ∧ ln ≤ t - st - ln) ∨ (ts ≠ 1 ∧ 1 ≤ t - st - ln ∧ t - st - ln < ln) := by omega
    have C : l < t ∨ (t ≤ l ∧ 1048576 < l) ∨ (t ≤ l ∧ l ≤ 1048576) := by omega
    cases g
    · rcases C with h1 | ⟨h1, h2⟩ | ⟨h1, h2⟩
      · cases bk
        · exact n1_lies_b _ _ _ _ _ _ _ _ _ _ _ _ _ _ (Lib.hid A1) (Lib.hid A2) (Lib.hid A3) (Lib.hid A4) m1 m2 m3 m4 v0 v1 t0 t1 s0 s1 l0 l1 h1 trivial
        · rcases B with k1 | ⟨k1, k2⟩ | ⟨k1, k2, k3⟩ | ⟨k1, k2, k3⟩
          · exact n2_lies_b _ _ _ _ _ _ _ _ _ _ _ _ _ _ (Lib.hid A1) (Lib.hid A2) (Lib.hid A3) (Lib.hid A4) m1 m2 m3 m4 v0 v1 t0 t1 s0 s1 l0 l1 h1 (by simpa using k1)
          · exact n3_lies_b _ _ _ _ _ _ _ _ _ _ _ _ _ _ (Lib.hid A1) (Lib.hid A2) (Lib.hid A3) (Lib.hid A4) m1 m2 m3 m4 v0 v1 t0 t1 s0 s1 l0 l1 h1 (by simpa using k1) k2
          · exact n4_lies_b _ _ _ _ _ _ _ _ _ _ _ _ _ _ (Lib.hid A1) (Lib.hid A2) (Lib.hid A3) (Lib.hid A4) m1 m2 m3 m4 v0 v1 t0 t1 s0 s1 l0 l1 h1 (by simpa using k1) k2 k3
          · exact n5_lies_b _ _ _ _ _ _ _ _ _ _ _ _ _ _ (Lib.hid A1) (Lib.hid A2) (Lib.hid A3) (Lib.hid A4) m1 m2 m3 m4 v0 v1 t0 t1 s0 s1 l0 l1 h1 (by simpa using k1) k2 k3
      · cases bk
        · exact n1_lies_c _ _ _ _ _ _ _ _ _ _ _ _ _ _ (Lib.hid A1) (Lib.hid A2) (Lib.hid A3) (Lib.hid A4) m1 m2 m3 m4 v0 v1 t0 t1 s0 s1 l0 l1 h1 h2 trivial
        · rcases B with k1 | ⟨k1, k2⟩ | ⟨k1, k2, k3⟩ | ⟨k1, k2, k3⟩
          · exact n2_lies_c _ _ _ _ _ _ _ _ _ _ _ _ _ _ (Lib.hid A1) (Lib.hid A2) (Lib.hid A3) (Lib.hid A4) m1 m2 m3 m4 v0 v1 t0 t1 s0 s1 l0 l1 h1 h2 (by simpa using k1)
          · exact n3_lies_c _ _ _ _ _ _ _ _ _ _ _ _ _ _ (Lib.hid A1) (Lib.hid A2) (Lib.hid A3) (Lib.hid A4) m1 m2 m3 m4 v0 v1 t0 t1 s0 s1 l0 l1 h1 h2 (by simpa using k1) k2
          · exact n4_lies_c _ _ _ _ _ _ _ _ _ _ _ _ _ _ (Lib.hid A1) (Lib.hid A2) (Lib.hid A3) (Lib.hid A4) m1 m2 m3 m4 v0 v1 t0 t1 s0 s1 l0 l1 h1 h2 (by simpa using k1) k2 k3
          · exact n5_lies_c _ _ _ _ _ _ _ _ _ _ _ _ _ _ (Lib.hid A1) (Lib.hid A2) (Lib.hid A3) (Lib.hid A4) m1 m2 m3 m4 v0 v1 t0 t1 s0 s1 l0 l1 h1 h2 (by simpa using k1) k2 k3
      · cases bk
        · exact n1_lies_d _ _ _ _ _ _ _ _ _ _ _ _ _ _ (Lib.hid A1) (Lib.hid A2) (Lib.hid A3) (Lib.hid A4) m1 m2 m3 m4 v0 v1 t0 t1 s0 s1 l0 l1 h1 h2 trivial
        · rcases B with k1 | ⟨k1, k2⟩ | ⟨k1, k2, k3⟩ | ⟨k1, k2, k3⟩
          · exact n2_lies_d _ _ _ _ _ _ _ _ _ _ _ _ _ _ (Lib.hid A1) (Lib.hid A2) (Lib.hid A3) (Lib.hid A4) m1 m2 m3 m4 v0 v1 t0 t1 s0 s1 l0 l1 h1 h2 (by simpa using k1)
          · exact n3_lies_d _ _ _ _ _ _ _ _ _ _ _ _ _ _ (Lib.hid A1) (Lib.hid A2) (Lib.hid A3) (Lib.hid A4) m1 m2 m3 m4 v0 v1 t0 t1 s0 s1 l0 l1 h1 h2 (by simpa using k1) k2
          · exact n4_lies_d _ _ _ _ _ _ _ _ _ _ _ _ _ _ (Lib.hid A1) (Lib.hid A2) (Lib.hid A3) (Lib.hid A4) m1 m2 m3 m4 v0 v1 t0 t1 s0 s1 l0 l1 h1 h2 (by simpa using k1) k2 k3
          · exact n5_lies_d _ _ _ _ _ _ _ _ _ _ _ _ _ _ (Lib.hid A1) (Lib.hid A2) (Lib.hid A3) (Lib.hid A4) m1 m2 m3 m4 v0 v1 t0 t1 s0 s1 l0 l1 h1 h2 (by simpa using k1) k2 k3
    · cases bk
      · exact n1_lies_a _ _ _ _ _ _ _ _ _ _ _ _ _ _ (Lib.hid A1) (Lib.hid A2) (Lib.hid A3) (Lib.hid A4) m1 m2 m3 m4 v0 v1 t0 t1 s0 s1 l0 l1 trivial
      · rcases B with k1 | ⟨k1, k2⟩ | ⟨k1, k2, k3⟩ | ⟨k1, k2, k3⟩
        · exact n2_lies_a _ _ _ _ _ _ _ _ _ _ _ _ _ _ (Lib.hid A1) (Lib.hid A2) (Lib.hid A3) (Lib.hid A4) m1 m2 m3 m4 v0 v1 t0 t1 s0 s1 l0 l1 (by simpa using k1)
        · exact n3_lies_a _ _ _ _ _ _ _ _ _ _ _ _ _ _ (Lib.hid A1) (Lib.hid A2) (Lib.hid A3) (Lib.hid A4) m1 m2 m3 m4 v0 v1 t0 t1 s0 s1 l0 l1 (by simpa using k1) k2
        · exact n4_lies_a _ _ _ _ _ _ _ _ _ _ _ _ _ _ (Lib.hid A1) (Lib.hid A2) (Lib.hid A3) (Lib.hid A4) m1 m2 m3 m4 v0 v1 t0 t1 s0 s1 l0 l1 (by simpa using k1) k2 k3
        · exact n5_lies_a _ _ _ _ _ _ _ _ _ _ _ _ _ _ (Lib.hid A1) (Lib.hid A2) (Lib.hid A3) (Lib.hid A4) m1 m2 m3 m4 v0 v1 t0 t1 s0 s1 l0 l1 (by simpa using k1) k2 k3
  · exact lies_err m t l w hw he
end Go.Proofs.Ytblneabjdbllbaa
