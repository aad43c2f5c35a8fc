/-
  Motions, one by one: where they are (the program's text).
-/
import Derived.Test.YtblneabjdbllbaaMotD
namespace Go.Proofs.Ytblneabjdbllbaa
open Go.RowKit
set_option linter.unusedVariables false
attribute [local go_sem] vwp vUpon_value vUpon_skip vUpon_enter vUpon_row
def oddB (n : Int) : Bool := n % 2 == 1
/-- How far into its round, there or back. -/
def restN (m : Mo) (t : Int) : Int := if (m.bk && oddB ((t - m.st) / m.ln)) = true then m.ln - (t - m.st) % m.ln else (t - m.st) % m.ln
/-- P23.2. -/
def atV (m : Mo) (t : Int) : Int :=
  if t < m.st then m.fr else if overB m t = true then (if (m.bk && !oddB m.ts) = true then m.fr else m.to)
  else m.fr + ((m.to - m.fr) * bentN (restN m t * 65536 / m.ln) m.es + 32768) / 65536
def atG (m : Mo) (t : Int) : Bool := decide (t < m.st) || !overB m t
set_option maxHeartbeats 1000000 in
theorem at_before (m : Mo) (t : Int) (w : World) (h : Ok m) (h0 : 0 ≤ t) (h1 : t < m.st) : Calls Try.prog 26 #[.agg #[.int .i64 ((m).node), .int .i64 ((m).fr), .int .i64 ((m).to), .int .i64 ((m).st), .int .i64 ((m).ln), .int .u8 ((m).es), .int .i64 ((m).ts), .bool ((m).bk)], .int .i64 t] w fun e w' => e = .returned (.tuple #[.int .i64 (atV m t), .bool (atG m t)]) ∧ Below w.heap.size w w' := by
  have e1 : atV m t = m.fr := if_pos h1
  have e2 : atG m t = true := by unfold atG; simp [h1]
  rw [e1, e2]
  clear e1 e2 h
  obtain ⟨nd, fr, to, st, ln, es, ts, bk⟩ := m
  simp only at *
  go_enter Try.func26, Try.ntmps26
  go_wp2
  go_ret2
  exact ⟨rfl, (by repeat (first | exact Below.refl _ _ | assumption | refine Below.drew ?_ | refine Below.alloc ?_ (by (try simp) <;> omega) _ | refine Below.setCell ?_ (by (try simp) <;> omega) _))⟩
theorem odd_cases (n : Int) (h : 0 ≤ n) (h1 : n ≤ 1048576) : bits .and .i64 n 1 = if oddB n = true then 1 else 0 := by
  obtain ⟨k, rfl⟩ := Int.eq_ofNat_of_zero_le h
  have hx : k &&& 1 = k % 2 := Nat.and_one_is_mod k
  have e : bits .and .i64 (k : Int) 1 = ((k &&& 1 : Nat) : Int) := by
    show IntKind.i64.wrap ((BitVec.ofInt 64 (k : Int) &&& BitVec.ofInt 64 1).toNat : Int) = _
    rw [BitVec.toNat_and, BitVec.ofInt_natCast, BitVec.toNat_ofNat, Nat.mod_eq_of_lt (by omega)]
    have : (BitVec.ofInt 64 1).toNat = 1 := by decide
    rw [this, IntKind.wrap_i64]
    omega
  rw [e, hx]
  unfold oddB
  split <;> rename_i h <;> simp at h <;> omega
set_option maxHeartbeats 1000000 in
theorem at_over (m : Mo) (t : Int) (w : World) (h : Ok m) (h0 : m.st ≤ t) (h1 : t ≤ 1048576) (ho : overB m t = true) : Calls Try.prog 26 #[.agg #[.int .i64 ((m).node), .int .i64 ((m).fr), .int .i64 ((m).to), .int .i64 ((m).st), .int .i64 ((m).ln), .int .u8 ((m).es), .int .i64 ((m).ts), .bool ((m).bk)], .int .i64 t] w fun e w' => e = .returned (.tuple #[.int .i64 (atV m t), .bool (atG m t)]) ∧ Below w.heap.size w w' := by
  have e1 : atV m t = if (m.bk && !oddB m.ts) = true then m.fr else m.to := by unfold atV; rw [if_neg (by omega), if_pos ho]
  have e2 : atG m t = false := by unfold atG; simp [ho]; omega
  rw [e1, e2]
  have O := fun w => over_any m t w h h0 h1
  rw [ho] at O
  replace O := Lib.hid O
  have hb := odd_cases m.ts h.ts.1 h.ts.2
  obtain ⟨t0, t1⟩ := h.ts
  clear e1 e2 h ho
  obtain ⟨nd, fr, to, st, ln, es, ts, bk⟩ := m
  simp only at *
  cases hk : oddB ts <;> cases bk <;> simp only [hk] at hb ⊢ <;> simp at hb ⊢
  all_goals clear hk
  all_goals
    go_enter Try.func26, Try.ntmps26
    go_wp2_with (go_at_call 34; (with_reducible refine (O.out _).mono ?_); rintro e w1 ⟨rfl, hb1⟩; obtain ⟨hc1, hf1⟩ := bcell hb1; have hz1 := hb1.size; (try simp at hz1); (try have lt1 : w.heap.size < w1.heap.size := (by omega)))
    go_ret2
    exact ⟨rfl, (by repeat (first | exact Below.refl _ _ | assumption | refine Below.drew ?_ | refine Below.alloc ?_ (by (try simp) <;> omega) _ | refine Below.setCell ?_ (by (try simp) <;> omega) _ | (refine Below.trans ?_ (Below.mono (by assumption) (by (try simp) <;> omega)))))⟩
end Go.Proofs.Ytblneabjdbllbaa
