/-
  Motions, one by one: easings.
-/
import Derived.Test.YtblneabjdbllbaaOwn
import Derived.Test.YtblneabjdbllbaaProg
import Derived.WalkSpells
import Derived.WalkLawsBesides
import Derived.Lib.Hide
import Derived.Laws.EntriesVeiled
import Derived.Deep.RegionHeld3
namespace Go.Proofs.Ytblneabjdbllbaa
open Go.RowKit
set_option linter.unusedVariables false
attribute [local go_sem] vwp vUpon_value vUpon_skip vUpon_enter vUpon_row
def U8 (x : Int) : Prop := 0 ≤ x ∧ x ≤ 255
theorem u8_of {x : Int} (h : (Lit.int .u8 x).wf = true) : U8 x := by
  have : 0 ≤ x ∧ x ≤ 255 := by simpa [Lit.wf, IntKind.min, IntKind.max, IntKind.signed, IntKind.bits] using h
  exact this
def I64 (x : Int) : Prop := -9223372036854775808 ≤ x ∧ x ≤ 9223372036854775807
theorem i64_of {x : Int} (h : (Lit.int .i64 x).wf = true) : I64 x := by
  have : -9223372036854775808 ≤ x ∧ x ≤ 9223372036854775807 := by simpa [Lit.wf, IntKind.min, IntKind.max, IntKind.signed, IntKind.bits] using h
  exact this
/-- A part of a whole way. -/
def Part (p : Int) : Prop := 0 ≤ p ∧ p ≤ 65536
def bend1 (p : Int) : Int := p * p / 65536
def bend2 (p : Int) : Int := 65536 - bend1 (65536 - p)
def bend3 (p : Int) : Int := if 65536 - p < p then 65536 - 2 * (65536 - p) * (65536 - p) / 65536 else 2 * p * p / 65536
/-- P23.1. -/
def bentN (p e : Int) : Int := if e = 1 then bend1 p else if e = 2 then bend2 p else if e = 3 then bend3 p else p
theorem mul_bd (p : Int) (h : Part p) : 0 ≤ p * p ∧ p * p ≤ 4294967296 := by
  obtain ⟨a, b⟩ := h
  exact ⟨Int.mul_nonneg a a, by have := Int.mul_le_mul b b a (by omega); simpa using this⟩
theorem bend1_bd (p : Int) (h : Part p) : Part (bend1 p) := by
  obtain ⟨a, b⟩ := mul_bd p h
  unfold bend1 Part
  omega
theorem bend2_bd (p : Int) (h : Part p) : Part (bend2 p) := by
  have := bend1_bd (65536 - p) ⟨by have := h.2; omega, by have := h.1; omega⟩
  unfold bend2
  unfold Part at *; omega
theorem half_bd (p : Int) (h0 : 0 ≤ p) (h : p ≤ 32768) : 0 ≤ 2 * p * p ∧ 2 * p * p ≤ 2147483648 := by
  have e : 2 * p * p = 2 * (p * p) := by rw [Int.mul_assoc]
  have := Int.mul_nonneg h0 h0
  have := Int.mul_le_mul h h h0 (by omega)
  rw [e]; omega
theorem bend3_bd (p : Int) (h : Part p) : Part (bend3 p) := by
  obtain ⟨a, b⟩ := h
  unfold bend3 Part
  split
  · have := half_bd (65536 - p) (by omega) (by omega); omega
  · have := half_bd p a (by omega); omega
theorem bentN_bd (p e : Int) (h : Part p) : Part (bentN p e) := by
  unfold bentN
  split
  · exact bend1_bd p h
  · split
    · exact bend2_bd p h
    · split
      · exact bend3_bd p h
      · exact h

set_option maxHeartbeats 400000 in
theorem e1_any (p : Int) (w : World) (h : Part p) : Calls Try.prog 37 #[.int .i64 p] w fun e w' => e = .returned (.int .i64 (bend1 p)) ∧ w = w' := by
  obtain ⟨m0, m1⟩ := mul_bd p h
  obtain ⟨a, b⟩ := h
  unfold bend1
  go_enter Try.func37, Try.ntmps37
  go_wp2
  go_ret
  exact ⟨rfl, rfl⟩
set_option maxHeartbeats 400000 in
theorem e2_any (p : Int) (w : World) : Calls Try.prog 38 #[.int .i64 p] w fun e w' => e = .returned (.int .i64 p) ∧ w = w' := by
  go_enter Try.func38, Try.ntmps38
  go_wp2
  go_ret
  exact ⟨rfl, rfl⟩
set_option maxHeartbeats 400000 in
theorem e3_any (p : Int) (b o : Nat) (w : World) (h : Part p) (hc : w.cell? ⟨b, o, none⟩ = some (.func (.func 37) #[] #[])) : Calls Try.prog 39 #[.int .i64 p, .pointer (some ⟨b, o, none⟩)] w fun e w' => e = .returned (.int .i64 (bend2 p)) ∧ w = w' := by
  have E := fun w => e1_any (65536 - p) w ⟨by have := h.2; omega, by have := h.1; omega⟩
  have b1 := bend1_bd (65536 - p) ⟨by have := h.2; omega, by have := h.1; omega⟩
  replace E := Lib.hid E
  obtain ⟨p0, p1⟩ := h
  unfold bend2
  generalize bend1 (65536 - p) = q at *
  obtain ⟨q0, q1⟩ := b1
  go_enter Try.func39, Try.ntmps39
  go_wp2_with (go_at_call 37; (with_reducible refine (E.out _).mono ?_); rintro e w1 ⟨rfl, rfl⟩)
  go_ret
  exact ⟨rfl, rfl⟩
set_option maxHeartbeats 400000 in
theorem e4_any (p : Int) (w : World) (h : Part p) : Calls Try.prog 40 #[.int .i64 p] w fun e w' => e = .returned (.int .i64 (bend3 p)) ∧ w = w' := by
  obtain ⟨p0, p1⟩ := h
  unfold bend3
  by_cases c : 65536 - p < p
  · rw [if_pos c]
    obtain ⟨k0, k1⟩ := half_bd (65536 - p) (by omega) (by omega)
    go_enter Try.func40, Try.ntmps40
    go_wp2
    go_ret
    exact ⟨rfl, rfl⟩
  · rw [if_neg c]
    obtain ⟨k0, k1⟩ := half_bd p p0 (by omega)
    go_enter Try.func40, Try.ntmps40
    go_wp2
    go_ret
    exact ⟨rfl, rfl⟩
set_option maxHeartbeats 400000 in
theorem easings_any (w : World) : Calls Try.prog 30 #[] w fun e w' => e = .returned (.agg #[.func (.func 38) #[] #[], .func (.func 37) #[] #[], .func (.func 39) #[] #[.pointer (some ⟨w.heap.size + 1, 0, none⟩)], .func (.func 40) #[] #[]]) ∧ Below w.heap.size w w' ∧ w'.cell? ⟨w.heap.size + 1, 0, none⟩ = some (.func (.func 37) #[] #[]) := by
  go_enter Try.func30, Try.ntmps30
  go_wp2
  refine bodyPost_ret (v := .agg #[.func (.func 38) #[] #[], .func (.func 37) #[] #[], .func (.func 39) #[] #[.pointer (some ⟨w.heap.size + 1, 0, none⟩)], .func (.func 40) #[] #[]]) (by simp [results, Try.results30, go_sem]) rfl ⟨rfl, (by repeat (first | exact Below.refl _ _ | assumption | refine Below.drew ?_ | refine Below.alloc ?_ (by (try simp) <;> omega) _ | refine Below.setCell ?_ (by (try simp) <;> omega) _)), by simp [go_sem]⟩
set_option maxHeartbeats 1000000 in
theorem ease_ok (p e : Int) (w : World) (hp : Part p) (e0 : 0 ≤ e) (e3 : e ≤ 3) : Calls Try.prog 12 #[.int .i64 p, .int .u8 e] w fun f w' => f = .returned (.tuple #[.int .i64 (bentN p e), .int .i64 0]) ∧ Below w.heap.size w w' := by
  have E1 := fun w => e1_any p w hp
  have E3 := fun b o w h => e3_any p b o w hp h
  have E4 := fun w => e4_any p w hp
  replace E1 := Lib.hid E1
  replace E3 := Lib.hid E3
  replace E4 := Lib.hid E4
  obtain ⟨p0, p1⟩ := hp
  have : e = 0 ∨ e = 1 ∨ e = 2 ∨ e = 3 := by omega
  rcases this with rfl | rfl | rfl | rfl
  all_goals
    simp only [bentN]
    clear e0 e3
    go_enter Try.func12, Try.ntmps12
    go_wp2_with (first | (go_at_call 30; (with_reducible refine (easings_any _).mono ?_); rintro e w1 ⟨rfl, hb1, hs1⟩; obtain ⟨hc1, hf1⟩ := bcell hb1; have hz1 := hb1.size; (try simp at hz1); (try have lt1 : w.heap.size < w1.heap.size := (by omega)); have hg1 := World.block_lt_of_cell? _ _ hs1) | (go_at_call 37; (with_reducible refine (E1.out _).mono ?_); rintro e w2 ⟨rfl, rfl⟩) | (go_at_call 38; (with_reducible refine (e2_any p _).mono ?_); rintro e w2 ⟨rfl, rfl⟩) | (go_at_call 39; (with_reducible refine (E3.out _ _ _ ?_).mono ?_); (simp [go_sem, hs1, hg1]); rintro e w2 ⟨rfl, rfl⟩) | (go_at_call 40; (with_reducible refine (E4.out _).mono ?_); rintro e w2 ⟨rfl, rfl⟩))
    go_ret2
    exact ⟨by simp, (by repeat (first | exact Below.refl _ _ | assumption | refine Below.drew ?_ | refine Below.alloc ?_ (by (try simp) <;> omega) _ | refine Below.setCell ?_ (by (try simp) <;> omega) _ | (refine Below.trans ?_ (Below.mono (by assumption) (by (try simp) <;> omega)))))⟩
set_option maxHeartbeats 1000000 in
theorem ease_bad (p e : Int) (w : World) (h : p < 0 ∨ 65536 < p ∨ 3 < e) (he : U8 e) : Calls Try.prog 12 #[.int .i64 p, .int .u8 e] w fun f w' => f = .returned (.tuple #[.int .i64 0, .int .i64 2]) ∧ Below w.heap.size w w' := by
  obtain ⟨e0, e1⟩ := he
  have : p < 0 ∨ (0 ≤ p ∧ 65536 < p) ∨ (0 ≤ p ∧ p ≤ 65536 ∧ 3 < e) := by omega
  rcases this with h1 | ⟨h1, h2⟩ | ⟨h1, h2, h3⟩
  all_goals
    clear h
    go_enter Try.func12, Try.ntmps12
    go_wp2_with (go_at_call 30; (with_reducible refine (easings_any _).mono ?_); rintro e w1 ⟨rfl, hb1, hs1⟩; obtain ⟨hc1, hf1⟩ := bcell hb1; have hz1 := hb1.size; (try simp at hz1); (try have lt1 : w.heap.size < w1.heap.size := (by omega)); have hg1 := World.block_lt_of_cell? _ _ hs1)
    go_ret2
    exact ⟨rfl, (by repeat (first | exact Below.refl _ _ | assumption | refine Below.drew ?_ | refine Below.alloc ?_ (by (try simp) <;> omega) _ | refine Below.setCell ?_ (by (try simp) <;> omega) _ | (refine Below.trans ?_ (Below.mono (by assumption) (by (try simp) <;> omega)))))⟩
set_option maxHeartbeats 1000000 in
theorem rbent_any (p e : Int) (w : World) (hp : Part p) (e0 : 0 ≤ e) (e3 : e ≤ 3) : Calls Try.prog 29 #[.int .i64 p, .int .u8 e] w fun f w' => f = .returned (.int .i64 (bentN p e)) ∧ w = w' := by
  obtain ⟨m0, m1⟩ := mul_bd p hp
  obtain ⟨n0, n1⟩ := mul_bd (65536 - p) ⟨by have := hp.2; omega, by have := hp.1; omega⟩
  obtain ⟨p0, p1⟩ := hp
  have : e = 0 ∨ e = 1 ∨ e = 2 ∨ (e = 3 ∧ p ≤ 32768) ∨ (e = 3 ∧ 32768 < p) := by omega
  rcases this with rfl | rfl | rfl | ⟨rfl, h⟩ | ⟨rfl, h⟩
  · simp only [bentN]
    go_enter Try.func29, Try.ntmps29
    go_wp2
    go_ret
    exact ⟨by simp, rfl⟩
  · have e : bentN p 1 = p * p / 65536 := rfl
    rw [e]
    go_enter Try.func29, Try.ntmps29
    go_wp2
    go_ret
    exact ⟨rfl, rfl⟩
  · have e : bentN p 2 = 65536 - (65536 - p) * (65536 - p) / 65536 := rfl
    rw [e]
    go_enter Try.func29, Try.ntmps29
    go_wp2
    go_ret
    exact ⟨rfl, rfl⟩
  · have e : bentN p 3 = 2 * p * p / 65536 := by
      have e0 : bentN p 3 = bend3 p := rfl
      rw [e0]; unfold bend3; rw [if_neg (by omega)]
    rw [e]
    obtain ⟨k0, k1⟩ := half_bd p p0 h
    clear m0 m1 n0 n1
    go_enter Try.func29, Try.ntmps29
    go_wp2
    go_ret
    exact ⟨rfl, rfl⟩
  · have e : bentN p 3 = 65536 - 2 * (65536 - p) * (65536 - p) / 65536 := by
      have e0 : bentN p 3 = bend3 p := rfl
      rw [e0]; unfold bend3; rw [if_pos (by omega)]
    rw [e]
    obtain ⟨k0, k1⟩ := half_bd (65536 - p) (by omega) (by omega)
    clear m0 m1 n0 n1
    go_enter Try.func29, Try.ntmps29
    go_wp2
    go_ret
    exact ⟨rfl, rfl⟩
set_option maxHeartbeats 1000000 in
theorem rease_ok (p e : Int) (w : World) (hp : Part p) (e0 : 0 ≤ e) (e3 : e ≤ 3) : Calls Try.prog 13 #[.int .i64 p, .int .u8 e] w fun f w' => f = .returned (.tuple #[.int .i64 (bentN p e), .int .i64 0]) ∧ Below w.heap.size w w' := by
  have B := fun w => rbent_any p e w hp e0 e3
  replace B := Lib.hid B
  obtain ⟨p0, p1⟩ := hp
  go_enter Try.func13, Try.ntmps13
  go_wp2_with (go_at_call 29; (with_reducible refine (B.out _).mono ?_); rintro e w1 ⟨rfl, rfl⟩)
  go_ret2
  exact ⟨rfl, (by repeat (first | exact Below.refl _ _ | assumption | refine Below.drew ?_ | refine Below.alloc ?_ (by (try simp) <;> omega) _ | refine Below.setCell ?_ (by (try simp) <;> omega) _))⟩
set_option maxHeartbeats 1000000 in
theorem rease_bad (p e : Int) (w : World) (h : p < 0 ∨ 65536 < p ∨ 3 < e) (he : U8 e) : Calls Try.prog 13 #[.int .i64 p, .int .u8 e] w fun f w' => f = .returned (.tuple #[.int .i64 0, .int .i64 2]) ∧ Below w.heap.size w w' := by
  obtain ⟨e0, e1⟩ := he
  have : p < 0 ∨ (0 ≤ p ∧ 65536 < p) ∨ (0 ≤ p ∧ p ≤ 65536 ∧ 3 < e) := by omega
  rcases this with h1 | ⟨h1, h2⟩ | ⟨h1, h2, h3⟩
  all_goals
    clear h
    go_enter Try.func13, Try.ntmps13
    go_wp2
    go_ret2
    exact ⟨rfl, (by repeat (first | exact Below.refl _ _ | assumption | refine Below.drew ?_ | refine Below.alloc ?_ (by (try simp) <;> omega) _ | refine Below.setCell ?_ (by (try simp) <;> omega) _))⟩
end Go.Proofs.Ytblneabjdbllbaa
