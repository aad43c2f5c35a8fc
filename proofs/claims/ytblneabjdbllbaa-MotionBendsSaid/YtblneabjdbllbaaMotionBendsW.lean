/-
  The law MotionBends walked.
-/
import Derived.Test.YtblneabjdbllbaaMotP
namespace Go.Proofs.Ytblneabjdbllbaa
open Go.RowKit
set_option linter.unusedVariables false
attribute [local go_sem] vwp vUpon_value vUpon_skip vUpon_enter vUpon_row
theorem tmod_bd (n : Int) : -65536 ≤ n.tmod 65537 ∧ n.tmod 65537 ≤ 65536 := by
  rcases Int.le_total 0 n with h | h
  · rw [Int.tmod_eq_emod_of_nonneg h]; omega
  · obtain ⟨k, rfl⟩ : ∃ k, n = -k := ⟨-n, by omega⟩
    rw [Int.neg_tmod, Int.tmod_eq_emod_of_nonneg (by omega)]
    omega
set_option maxHeartbeats 2000000 in
set_option maxRecDepth 100000 in
theorem walk_MotionBends (p q : Int) (w : World) : Calls Try.prog 4 #[.int .i64 p, .int .i64 q] w fun e w' => e = .returned (.bool true) ∧ Below w.heap.size w w' := by
  obtain ⟨p0, p1⟩ := tmod_bd p
  obtain ⟨q0, q1⟩ := tmod_bd q
  go_enter Try.func4, Try.ntmps4
  go_wp2_with (go_at_call 9; (with_reducible refine (alive_any _).mono ?_); rintro e w1 ⟨rfl, hb1⟩; obtain ⟨hc1, hf1⟩ := bcell hb1; have hz1 := hb1.size; (try simp at hz1); (try have lt1 : w.heap.size < w1.heap.size := (by omega)))
  obtain ⟨a, ha⟩ : ∃ a, (p.tmod 65537 + 65537) % 65537 = a := ⟨_, rfl⟩
  obtain ⟨b, hb⟩ : ∃ b, (q.tmod 65537 + 65537) % 65537 = b := ⟨_, rfl⟩
  rw [ha, hb]
  have a0 : 0 ≤ a := by omega
  have a1 : a ≤ 65536 := by omega
  have b0 : 0 ≤ b := by omega
  have b1 : b ≤ 65536 := by omega
  clear ha hb p0 p1 q0 q1
  obtain ⟨lo, hlo⟩ : ∃ lo, min a b = lo := ⟨_, rfl⟩
  obtain ⟨hi, hhi⟩ : ∃ hi, max a b = hi := ⟨_, rfl⟩
  have m1 : (if a < b then a else b) = lo := by split <;> omega
  have m2 : (if b < a then b else a) = lo := by split <;> omega
  have m3 : (if a < b then b else a) = hi := by split <;> omega
  have m4 : (if b < a then a else b) = hi := by split <;> omega
  have l0 : 0 ≤ lo := by omega
  have l1 : lo ≤ hi := by omega
  have l2 : hi ≤ 65536 := by omega
  clear hlo hhi
  have hB : Below w.heap.size w w1 := hb1
  go_loopw [8] (fun i wr => ∃ k : Int, 0 ≤ k ∧ k ≤ 4 ∧ i = .int .i64 k ∧ Below w.heap.size w wr) (fun i _ => (4 - intOf i).toNat)
  case atStart => exact ⟨0, by omega, by omega, rfl, hB⟩
  case round =>
    obtain ⟨k, k0, k4, rfl, hr⟩ := hrel
    have hrz := hr.size
    clear hB hb1 hc1 hf1 hz1
    by_cases hk : k < 4
    · have hk8 : IntKind.u8.wrap k = k := by rw [IntKind.wrap_u8]; omega
      have E0 := fun w => ease_ok 0 k w ⟨by omega, by omega⟩ k0 (by omega)
      have E1 := fun w => ease_ok 65536 k w ⟨by omega, by omega⟩ k0 (by omega)
      have E2 := fun w => ease_ok lo k w ⟨l0, by omega⟩ k0 (by omega)
      have E3 := fun w => ease_ok hi k w ⟨by omega, l2⟩ k0 (by omega)
      rw [bentN_0] at E0
      rw [bentN_1] at E1
      have g1 := bentN_mono (e := k) l0 l1 l2
      have g2 := (bentN_bd lo k ⟨l0, by omega⟩).1
      have g3 := (bentN_bd hi k ⟨by omega, l2⟩).2
      generalize bentN lo k = x at *
      generalize bentN hi k = y at *
      replace E0 := Lib.hid E0
      replace E1 := Lib.hid E1
      replace E2 := Lib.hid E2
      replace E3 := Lib.hid E3
      go_wp2_with (first
        | (go_at_call 12; (with_reducible refine (E0.out _).mono ?_); rintro e w2 ⟨rfl, hb2⟩; obtain ⟨hc2, hf2⟩ := bcell hb2; have hz2 := hb2.size; (try simp at hz2); (try have lt2 : w.heap.size < w2.heap.size := (by omega)))
        | (go_at_call 12; (with_reducible refine (E1.out _).mono ?_); rintro e w3 ⟨rfl, hb3⟩; obtain ⟨hc3, hf3⟩ := bcell hb3; have hz3 := hb3.size; (try simp at hz3); (try have lt3 : w.heap.size < w3.heap.size := (by omega)))
        | (go_at_call 12; (with_reducible refine (E2.out _).mono ?_); rintro e w4 ⟨rfl, hb4⟩; obtain ⟨hc4, hf4⟩ := bcell hb4; have hz4 := hb4.size; (try simp at hz4); (try have lt4 : w.heap.size < w4.heap.size := (by omega)))
        | (go_at_call 12; (with_reducible refine (E3.out _).mono ?_); rintro e w5 ⟨rfl, hb5⟩; obtain ⟨hc5, hf5⟩ := bcell hb5; have hz5 := hb5.size; (try simp at hz5); (try have lt5 : w.heap.size < w5.heap.size := (by omega))))
      go_roundw
      case rel => exact ⟨k + 1, by omega, by omega, by go_num, (by repeat (first | exact Below.refl _ _ | assumption | refine Below.drew ?_ | refine Below.alloc ?_ (by (try simp) <;> omega) _ | refine Below.setCell ?_ (by (try simp) <;> omega) _ | (refine Below.trans ?_ (Below.mono (by assumption) (by (try simp) <;> omega)))))⟩
      case measure => simp [intOf]; omega
    · obtain rfl : k = 4 := by omega
      clear m1 m2 m3 m4 l0 l1 l2 hk k0 k4
      have E0 := fun w => ease_ok (65536 - a) 1 w ⟨by omega, by omega⟩ (by omega) (by omega)
      have E1 := fun w => ease_ok a 2 w ⟨by omega, by omega⟩ (by omega) (by omega)
      have E2 := fun w => ease_ok a 3 w ⟨by omega, by omega⟩ (by omega) (by omega)
      have E3 := fun w => ease_ok (65536 - a) 3 w ⟨by omega, by omega⟩ (by omega) (by omega)
      have v0 : bentN (65536 - a) 1 = bend1 (65536 - a) := rfl
      have v1 : bentN a 2 = 65536 - bend1 (65536 - a) := rfl
      have v2 : bentN a 3 = 65536 - bend3 (65536 - a) := bend3_mirror a
      have v3 : bentN (65536 - a) 3 = bend3 (65536 - a) := rfl
      rw [v0] at E0
      rw [v1] at E1
      rw [v2] at E2
      rw [v3] at E3
      obtain ⟨x0, x1⟩ := bend1_bd (65536 - a) ⟨by omega, by omega⟩
      obtain ⟨y0, y1⟩ := bend3_bd (65536 - a) ⟨by omega, by omega⟩
      clear v0 v1 v2 v3
      generalize bend1 (65536 - a) = x at *
      generalize bend3 (65536 - a) = y at *
      replace E0 := Lib.hid E0
      replace E1 := Lib.hid E1
      replace E2 := Lib.hid E2
      replace E3 := Lib.hid E3
      go_wp2_with (first
        | (go_at_call 12; (with_reducible refine (E0.out _).mono ?_); rintro e w2 ⟨rfl, hb2⟩; obtain ⟨hc2, hf2⟩ := bcell hb2; have hz2 := hb2.size; (try simp at hz2); (try have lt2 : w.heap.size < w2.heap.size := (by omega)))
        | (go_at_call 12; (with_reducible refine (E1.out _).mono ?_); rintro e w3 ⟨rfl, hb3⟩; obtain ⟨hc3, hf3⟩ := bcell hb3; have hz3 := hb3.size; (try simp at hz3); (try have lt3 : w.heap.size < w3.heap.size := (by omega)))
        | (go_at_call 12; (with_reducible refine (E2.out _).mono ?_); rintro e w4 ⟨rfl, hb4⟩; obtain ⟨hc4, hf4⟩ := bcell hb4; have hz4 := hb4.size; (try simp at hz4); (try have lt4 : w.heap.size < w4.heap.size := (by omega)))
        | (go_at_call 12; (with_reducible refine (E3.out _).mono ?_); rintro e w5 ⟨rfl, hb5⟩; obtain ⟨hc5, hf5⟩ := bcell hb5; have hz5 := hb5.size; (try simp at hz5); (try have lt5 : w.heap.size < w5.heap.size := (by omega))))
      go_ret
      exact ⟨rfl, (by repeat (first | exact Below.refl _ _ | assumption | refine Below.drew ?_ | refine Below.alloc ?_ (by (try simp) <;> omega) _ | refine Below.setCell ?_ (by (try simp) <;> omega) _ | (refine Below.trans ?_ (Below.mono (by assumption) (by (try simp) <;> omega)))))⟩
end Go.Proofs.Ytblneabjdbllbaa
