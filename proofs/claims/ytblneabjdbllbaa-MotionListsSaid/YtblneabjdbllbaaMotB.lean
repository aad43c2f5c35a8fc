/-
  Motions, one by one: whether they may be, whether they are over, where they are.
-/
import Derived.Test.YtblneabjdbllbaaMotA
namespace Go.Proofs.Ytblneabjdbllbaa
open Go.RowKit
set_option linter.unusedVariables false
attribute [local go_sem] vwp vUpon_value vUpon_skip vUpon_enter vUpon_row
/-- A motion, as numbers. -/
structure Mo where
  node : Int
  fr : Int
  to : Int
  st : Int
  ln : Int
  es : Int
  ts : Int
  bk : Bool
def apartB (n : Int) : Bool := decide (n < -1048576 ∨ 1048576 < n)
/-- P23.1's error. -/
def chk (m : Mo) : Int :=
  if m.node < 0 then 7 else if apartB m.fr = true ∨ apartB m.to = true then 2
  else if m.st < 0 ∨ 1048576 < m.st ∨ m.ln < 1 ∨ 1048576 < m.ln then 230
  else if 3 < m.es ∨ m.ts < 0 ∨ 1048576 < m.ts then 2 else 0
/-- It fits its kinds. -/
structure Wf (m : Mo) : Prop where
  node : I64 m.node
  fr : I64 m.fr
  to : I64 m.to
  st : I64 m.st
  ln : I64 m.ln
  es : U8 m.es
  ts : I64 m.ts
/-- It may be. -/
structure Ok (m : Mo) : Prop where
  node : 0 ≤ m.node
  fr : -1048576 ≤ m.fr ∧ m.fr ≤ 1048576
  to : -1048576 ≤ m.to ∧ m.to ≤ 1048576
  st : 0 ≤ m.st ∧ m.st ≤ 1048576
  ln : 1 ≤ m.ln ∧ m.ln ≤ 1048576
  es : 0 ≤ m.es ∧ m.es ≤ 3
  ts : 0 ≤ m.ts ∧ m.ts ≤ 1048576
theorem apartB_no {n : Int} (h : apartB n = false) : -1048576 ≤ n ∧ n ≤ 1048576 := by
  unfold apartB at h; simp at h; omega
theorem Ok.of {m : Mo} (hw : Wf m) (h : chk m = 0) : Ok m := by
  unfold chk at h
  split at h
  · omega
  split at h
  · omega
  split at h
  · omega
  split at h
  · omega
  rename_i h1 h2 h3 h4
  simp only [not_or, Bool.not_eq_true] at h2 h3 h4
  have := hw.es.1
  exact ⟨by omega, apartB_no h2.1, apartB_no h2.2, by omega, by omega, by omega, by omega⟩
theorem Ok.chk {m : Mo} (h : Ok m) : chk m = 0 := by
  have a1 : apartB m.fr = false := by have := h.fr; unfold apartB; simp; omega
  have a2 : apartB m.to = false := by have := h.to; unfold apartB; simp; omega
  have := h.node; have := h.st; have := h.ln; have := h.es; have := h.ts
  unfold Go.Proofs.Ytblneabjdbllbaa.chk
  rw [if_neg (by omega), if_neg (by simp [a1, a2]), if_neg (by omega), if_neg (by omega)]
set_option maxHeartbeats 400000 in
theorem apart_any (n : Int) (w : World) : Calls Try.prog 31 #[.int .i64 n] w fun e w' => e = .returned (.bool (apartB n)) ∧ w = w' := by
  by_cases h1 : n < -1048576
  · have e : apartB n = true := by unfold apartB; simp; omega
    rw [e]
    go_enter Try.func31, Try.ntmps31
    go_wp2
    go_ret
    exact ⟨rfl, rfl⟩
  · by_cases h2 : 1048576 < n
    · have e : apartB n = true := by unfold apartB; simp; omega
      rw [e]
      go_enter Try.func31, Try.ntmps31
      go_wp2
      go_ret
      exact ⟨rfl, rfl⟩
    · have e : apartB n = false := by unfold apartB; simp; omega
      rw [e]
      go_enter Try.func31, Try.ntmps31
      go_wp2
      go_ret
      exact ⟨rfl, rfl⟩
theorem ways (m : Mo) (hw : Wf m) :
    (chk m = 7 ∧ m.node < 0) ∨
    (0 ≤ m.node ∧ chk m = 2 ∧ apartB m.fr = true) ∨
    (0 ≤ m.node ∧ chk m = 2 ∧ apartB m.fr = false ∧ apartB m.to = true) ∨
    (0 ≤ m.node ∧ apartB m.fr = false ∧ apartB m.to = false ∧ chk m = 230 ∧ m.st < 0) ∨
    (0 ≤ m.node ∧ apartB m.fr = false ∧ apartB m.to = false ∧ chk m = 230 ∧ 0 ≤ m.st ∧ 1048576 < m.st) ∨
    (0 ≤ m.node ∧ apartB m.fr = false ∧ apartB m.to = false ∧ chk m = 230 ∧ 0 ≤ m.st ∧ m.st ≤ 1048576 ∧ m.ln < 1) ∨
    (0 ≤ m.node ∧ apartB m.fr = false ∧ apartB m.to = false ∧ chk m = 230 ∧ 0 ≤ m.st ∧ m.st ≤ 1048576 ∧ 1 ≤ m.ln ∧ 1048576 < m.ln) ∨
    (0 ≤ m.node ∧ apartB m.fr = false ∧ apartB m.to = false ∧ 0 ≤ m.st ∧ m.st ≤ 1048576 ∧ 1 ≤ m.ln ∧ m.ln ≤ 1048576 ∧ chk m = 2 ∧ 3 < m.es) ∨
    (0 ≤ m.node ∧ apartB m.fr = false ∧ apartB m.to = false ∧ 0 ≤ m.st ∧ m.st ≤ 1048576 ∧ 1 ≤ m.ln ∧ m.ln ≤ 1048576 ∧ chk m = 2 ∧ m.es ≤ 3 ∧ m.ts < 0) ∨
    (0 ≤ m.node ∧ apartB m.fr = false ∧ apartB m.to = false ∧ 0 ≤ m.st ∧ m.st ≤ 1048576 ∧ 1 ≤ m.ln ∧ m.ln ≤ 1048576 ∧ chk m = 2 ∧ m.es ≤ 3 ∧ 0 ≤ m.ts ∧ 1048576 < m.ts) ∨
    (0 ≤ m.node ∧ apartB m.fr = false ∧ apartB m.to = false ∧ 0 ≤ m.st ∧ m.st ≤ 1048576 ∧ 1 ≤ m.ln ∧ m.ln ≤ 1048576 ∧ chk m = 0 ∧ m.es ≤ 3 ∧ 0 ≤ m.ts ∧ m.ts ≤ 1048576) := by
  unfold chk
  by_cases h1 : m.node < 0
  · simp [h1]
  rw [if_neg h1]
  have g1 : 0 ≤ m.node := by omega
  cases h2 : apartB m.fr
  · cases h3 : apartB m.to
    · rw [if_neg (by simp)]
      by_cases h4 : m.st < 0 ∨ 1048576 < m.st ∨ m.ln < 1 ∨ 1048576 < m.ln
      · rw [if_pos h4]; simp; omega
      · rw [if_neg h4]
        by_cases h5 : 3 < m.es ∨ m.ts < 0 ∨ 1048576 < m.ts
        · rw [if_pos h5]; simp; omega
        · rw [if_neg h5]; simp; omega
    · simp [g1]
  · simp [g1]
set_option maxHeartbeats 4000000 in
theorem rcheck_any (m : Mo) (w : World) (hw : Wf m) : Calls Try.prog 15 #[.agg #[.int .i64 ((m).node), .int .i64 ((m).fr), .int .i64 ((m).to), .int .i64 ((m).st), .int .i64 ((m).ln), .int .u8 ((m).es), .int .i64 ((m).ts), .bool ((m).bk)]] w fun e w' => e = .returned (.int .i64 (chk m)) ∧ Below w.heap.size w w' := by
  have W := ways m hw
  have hes := hw.es.1
  obtain ⟨nd, fr, to, st, ln, es, ts, bk⟩ := m
  simp only at *
  clear hw
  generalize hC : chk _ = c at *
  clear hC
  have ap : ∀ n, apartB n = true → (n < -1048576 ∨ (-1048576 ≤ n ∧ 1048576 < n)) := fun n h => by unfold apartB at h; simp at h; omega
  rcases W with ⟨rfl, h1⟩ | ⟨h1, rfl, h2⟩ | ⟨h1, rfl, h2, h3⟩ | ⟨h1, h2, h3, rfl, h4⟩ | ⟨h1, h2, h3, rfl, h4, h5⟩ | ⟨h1, h2, h3, rfl, h4, h5, h6⟩ | ⟨h1, h2, h3, rfl, h4, h5, h6, h7⟩ | ⟨h1, h2, h3, h4, h5, h6, h7, rfl, h8⟩ | ⟨h1, h2, h3, h4, h5, h6, h7, rfl, h8, h9⟩ | ⟨h1, h2, h3, h4, h5, h6, h7, rfl, h8, h9, h10⟩ | ⟨h1, h2, h3, h4, h5, h6, h7, rfl, h8, h9, h10⟩
  · clear ap
    go_enter Try.func15, Try.ntmps15
    go_wp2
    go_ret
    exact ⟨rfl, (by repeat (first | exact Below.refl _ _ | assumption | refine Below.drew ?_ | refine Below.alloc ?_ (by (try simp) <;> omega) _ | refine Below.setCell ?_ (by (try simp) <;> omega) _))⟩
  · rcases ap _ h2 with h | ⟨h, h'⟩
    all_goals
      clear ap h2
      go_enter Try.func15, Try.ntmps15
      go_wp2
      go_ret
      exact ⟨rfl, (by repeat (first | exact Below.refl _ _ | assumption | refine Below.drew ?_ | refine Below.alloc ?_ (by (try simp) <;> omega) _ | refine Below.setCell ?_ (by (try simp) <;> omega) _))⟩
  · obtain ⟨f1, f2⟩ := apartB_no h2
    rcases ap _ h3 with h | ⟨h, h'⟩
    all_goals
      clear ap h2 h3
      go_enter Try.func15, Try.ntmps15
      go_wp2
      go_ret
      exact ⟨rfl, (by repeat (first | exact Below.refl _ _ | assumption | refine Below.drew ?_ | refine Below.alloc ?_ (by (try simp) <;> omega) _ | refine Below.setCell ?_ (by (try simp) <;> omega) _))⟩
  all_goals
    obtain ⟨f1, f2⟩ := apartB_no h2
    obtain ⟨f3, f4⟩ := apartB_no h3
    clear ap h2 h3
    go_enter Try.func15, Try.ntmps15
    go_wp2
    go_ret
    exact ⟨rfl, (by repeat (first | exact Below.refl _ _ | assumption | refine Below.drew ?_ | refine Below.alloc ?_ (by (try simp) <;> omega) _ | refine Below.setCell ?_ (by (try simp) <;> omega) _))⟩
end Go.Proofs.Ytblneabjdbllbaa
