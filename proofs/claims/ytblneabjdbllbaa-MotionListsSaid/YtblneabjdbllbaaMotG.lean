/-
  Motions, one by one: At, of both texts.
-/
import Derived.Test.YtblneabjdbllbaaMotF
namespace Go.Proofs.Ytblneabjdbllbaa
open Go.RowKit
set_option linter.unusedVariables false
attribute [local go_sem] vwp vUpon_value vUpon_skip vUpon_enter vUpon_row
def resE (m : Mo) (t : Int) : Int := if chk m = 0 then (if lateB t = true then 230 else 0) else chk m
def resV (m : Mo) (t : Int) : Int := if resE m t = 0 then atV m t else 0
def resG (m : Mo) (t : Int) : Bool := if resE m t = 0 then atG m t else false
theorem lateB_no {t : Int} (h : lateB t = false) : 0 ≤ t ∧ t ≤ 1048576 := by unfold lateB at h; simp at h; omega
theorem at_may (m : Mo) (t : Int) (w : World) (h : Ok m) (h0 : 0 ≤ t) (h1 : t ≤ 1048576) : Calls Try.prog 26 #[.agg #[.int .i64 ((m).node), .int .i64 ((m).fr), .int .i64 ((m).to), .int .i64 ((m).st), .int .i64 ((m).ln), .int .u8 ((m).es), .int .i64 ((m).ts), .bool ((m).bk)], .int .i64 t] w fun e w' => e = .returned (.tuple #[.int .i64 (atV m t), .bool (atG m t)]) ∧ Below w.heap.size w w' := by
  by_cases c : t < m.st
  · exact at_before m t w h h0 c
  · cases ho : overB m t
    · exact at_on m t w h (by omega) h1 ho
    · exact at_over m t w h (by omega) h1 ho
set_option maxHeartbeats 1000000 in
theorem At_any (m : Mo) (t : Int) (w : World) (hw : Wf m) : Calls Try.prog 10 #[.agg #[.int .i64 ((m).node), .int .i64 ((m).fr), .int .i64 ((m).to), .int .i64 ((m).st), .int .i64 ((m).ln), .int .u8 ((m).es), .int .i64 ((m).ts), .bool ((m).bk)], .int .i64 t] w fun e w' => e = .returned (.tuple #[.int .i64 (resV m t), .bool (resG m t), .int .i64 (resE m t)]) ∧ Below w.heap.size w w' := by
  have C := fun w => check_any m w hw
  have L := fun w => late_any t w
  by_cases c0 : chk m = 0
  · have hok := Ok.of hw c0
    cases hl : lateB t
    · obtain ⟨t0, t1⟩ := lateB_no hl
      have e0 : resE m t = 0 := by unfold resE; rw [if_pos c0, hl]; rfl
      have e1 : resV m t = atV m t := if_pos e0
      have e2 : resG m t = atG m t := if_pos e0
      rw [e0, e1, e2]
      have A := fun w => at_may m t w hok t0 t1
      rw [c0] at C
      rw [hl] at L
      replace C := Lib.hid C
      replace L := Lib.hid L
      replace A := Lib.hid A
      clear e0 e1 e2 hok c0 hw hl
      generalize atV m t = v at *
      generalize atG m t = g at *
      obtain ⟨nd, fr, to, st, ln, es, ts, bk⟩ := m
      go_enter Try.func10, Try.ntmps10
      go_wp2_with (first | (go_at_call 14; (with_reducible refine (C.out _).mono ?_); rintro e w1 ⟨rfl, hb1⟩; obtain ⟨hc1, hf1⟩ := bcell hb1; have hz1 := hb1.size; (try simp at hz1); (try have lt1 : w.heap.size < w1.heap.size := (by omega))) | (go_at_call 25; (with_reducible refine (L.out _).mono ?_); rintro e w2 ⟨rfl, rfl⟩) | (go_at_call 26; (with_reducible refine (A.out _).mono ?_); rintro e w3 ⟨rfl, hb3⟩; obtain ⟨hc3, hf3⟩ := bcell hb3; have hz3 := hb3.size; (try simp at hz3); (try have lt3 : w.heap.size < w3.heap.size := (by omega))))
      go_ret3
      exact ⟨rfl, (by repeat (first | exact Below.refl _ _ | assumption | refine Below.drew ?_ | refine Below.alloc ?_ (by (try simp) <;> omega) _ | refine Below.setCell ?_ (by (try simp) <;> omega) _ | (refine Below.trans ?_ (Below.mono (by assumption) (by (try simp) <;> omega)))))⟩
    · have e0 : resE m t = 230 := by unfold resE; rw [if_pos c0, hl]; rfl
      have e1 : resV m t = 0 := if_neg (by omega)
      have e2 : resG m t = false := if_neg (by omega)
      rw [e0, e1, e2]
      rw [c0] at C
      rw [hl] at L
      replace C := Lib.hid C
      replace L := Lib.hid L
      clear e0 e1 e2 hok c0 hw hl
      obtain ⟨nd, fr, to, st, ln, es, ts, bk⟩ := m
      go_enter Try.func10, Try.ntmps10
      go_wp2_with (first | (go_at_call 14; (with_reducible refine (C.out _).mono ?_); rintro e w1 ⟨rfl, hb1⟩; obtain ⟨hc1, hf1⟩ := bcell hb1; have hz1 := hb1.size; (try simp at hz1); (try have lt1 : w.heap.size < w1.heap.size := (by omega))) | (go_at_call 25; (with_reducible refine (L.out _).mono ?_); rintro e w2 ⟨rfl, rfl⟩))
      go_ret3
      exact ⟨rfl, (by repeat (first | exact Below.refl _ _ | assumption | refine Below.drew ?_ | refine Below.alloc ?_ (by (try simp) <;> omega) _ | refine Below.setCell ?_ (by (try simp) <;> omega) _ | (refine Below.trans ?_ (Below.mono (by assumption) (by (try simp) <;> omega)))))⟩
  · have e0 : resE m t = chk m := if_neg c0
    have e1 : resV m t = 0 := if_neg (by omega)
    have e2 : resG m t = false := if_neg (by omega)
    rw [e0, e1, e2]
    generalize chk m = c at *
    have hne : (c != 0) = true := by simpa using c0
    replace C := Lib.hid C
    clear e0 e1 e2 c0 hw L
    obtain ⟨nd, fr, to, st, ln, es, ts, bk⟩ := m
    go_enter Try.func10, Try.ntmps10
    go_wp2_with (first | (go_at_call 14; (with_reducible refine (C.out _).mono ?_); rintro e w1 ⟨rfl, hb1⟩; obtain ⟨hc1, hf1⟩ := bcell hb1; have hz1 := hb1.size; (try simp at hz1); (try have lt1 : w.heap.size < w1.heap.size := (by omega))))
    go_ret3
    exact ⟨rfl, (by repeat (first | exact Below.refl _ _ | assumption | refine Below.drew ?_ | refine Below.alloc ?_ (by (try simp) <;> omega) _ | refine Below.setCell ?_ (by (try simp) <;> omega) _ | (refine Below.trans ?_ (Below.mono (by assumption) (by (try simp) <;> omega)))))⟩
theorem rem_cases (n : Int) (h : 0 ≤ n) : (n % 2 == 1) = oddB n ∧ (n % 2 == 0) = !oddB n := by
  unfold oddB
  rcases (by omega : n % 2 = 0 ∨ n % 2 = 1) with h | h <;> rw [h] <;> decide
end Go.Proofs.Ytblneabjdbllbaa
