/-
  The spinner's sign.
-/
import Derived.Test.YtblneabjdbllbaaMotI
namespace Go.Proofs.Ytblneabjdbllbaa
open Go.RowKit
set_option linter.unusedVariables false
attribute [local go_sem] vwp vUpon_value vUpon_skip vUpon_enter vUpon_row
def windN (t : Int) : Int := if t % 4 = 0 then 124 else if t % 4 = 1 then 47 else if t % 4 = 2 then 45 else 92
set_option maxHeartbeats 1000000 in
theorem rwind_any (t : Int) (w : World) (h : I64 t) : Calls Try.prog 17 #[.int .i64 t] w fun e w' => e = .returned (.int .i32 (windN t)) ∧ w = w' := by
  obtain ⟨h0, h1⟩ := h
  have : (t.tmod 4 = 0 ∧ windN t = 124) ∨ (t.tmod 4 = 1 ∧ windN t = 47) ∨ (t.tmod 4 = 2 ∧ windN t = 45) ∨ (t.tmod 4 = 3 ∧ windN t = 92) ∨ (t.tmod 4 = -1 ∧ windN t = 92) ∨ (t.tmod 4 = -2 ∧ windN t = 45) ∨ (t.tmod 4 = -3 ∧ windN t = 47) := by
    have e : t % 4 = t.tmod 4 ∨ t % 4 = t.tmod 4 + 4 := by
      rcases Int.le_total 0 t with h | h
      · left; rw [Int.tmod_eq_emod_of_nonneg h]
      · obtain ⟨n, rfl⟩ : ∃ n, t = -n := ⟨-t, by omega⟩
        rw [Int.neg_tmod, Int.tmod_eq_emod_of_nonneg (by omega)]
        omega
    have b : -3 ≤ t.tmod 4 ∧ t.tmod 4 ≤ 3 := by
      rcases Int.le_total 0 t with h | h
      · rw [Int.tmod_eq_emod_of_nonneg h]; omega
      · obtain ⟨n, rfl⟩ : ∃ n, t = -n := ⟨-t, by omega⟩
        rw [Int.neg_tmod, Int.tmod_eq_emod_of_nonneg (by omega)]
        omega
    generalize t.tmod 4 = k at *
    unfold windN
    have : k = 0 ∨ k = 1 ∨ k = 2 ∨ k = 3 ∨ k = -1 ∨ k = -2 ∨ k = -3 := by omega
    rcases this with rfl | rfl | rfl | rfl | rfl | rfl | rfl
    · exact .inl ⟨rfl, if_pos (by omega)⟩
    · exact .inr (.inl ⟨rfl, by rw [if_neg (by omega), if_pos (by omega)]⟩)
    · exact .inr (.inr (.inl ⟨rfl, by rw [if_neg (by omega), if_neg (by omega), if_pos (by omega)]⟩))
    · exact .inr (.inr (.inr (.inl ⟨rfl, by rw [if_neg (by omega), if_neg (by omega), if_neg (by omega)]⟩)))
    · exact .inr (.inr (.inr (.inr (.inl ⟨rfl, by rw [if_neg (by omega), if_neg (by omega), if_neg (by omega)]⟩))))
    · exact .inr (.inr (.inr (.inr (.inr (.inl ⟨rfl, by rw [if_neg (by omega), if_neg (by omega), if_pos (by omega)]⟩)))))
    · exact .inr (.inr (.inr (.inr (.inr (.inr ⟨rfl, by rw [if_neg (by omega), if_pos (by omega)]⟩)))))
  rcases this with ⟨h, e⟩ | ⟨h, e⟩ | ⟨h, e⟩ | ⟨h, e⟩ | ⟨h, e⟩ | ⟨h, e⟩ | ⟨h, e⟩
  all_goals
    rw [e]
    clear e
    go_enter Try.func17, Try.ntmps17
    go_wp2
    go_ret
    exact ⟨rfl, rfl⟩
theorem and_three (t : Int) : bits .and .u64 (IntKind.u64.wrap t) 3 = t % 4 := by
  rw [IntKind.wrap_u64]
  obtain ⟨k, hk⟩ := Int.eq_ofNat_of_zero_le (Int.emod_nonneg t (show (18446744073709551616 : Int) ≠ 0 by omega))
  have hlt := Int.emod_lt_of_pos t (show (0 : Int) < 18446744073709551616 by omega)
  have hm : t % 4 = (k : Int) % 4 := by omega
  rw [hk] at hlt ⊢
  rw [hm]
  have hx : k &&& 3 = k % 4 := Nat.and_two_pow_sub_one_eq_mod k 2
  show IntKind.u64.wrap ((BitVec.ofInt 64 (k : Int) &&& BitVec.ofInt 64 3).toNat : Int) = _
  rw [BitVec.toNat_and, BitVec.ofInt_natCast, BitVec.toNat_ofNat, Nat.mod_eq_of_lt (by omega)]
  have : (BitVec.ofInt 64 3).toNat = 3 := by decide
  rw [this, hx, IntKind.wrap_u64]
  omega
set_option maxHeartbeats 1000000 in
theorem wind_any (t : Int) (w : World) (h : I64 t) : Calls Try.prog 16 #[.int .i64 t] w fun e w' => e = .returned (.int .i32 (windN t)) ∧ w = w' := by
  obtain ⟨h0, h1⟩ := h
  have h := and_three t
  have : (t % 4 = 0 ∧ windN t = 124) ∨ (t % 4 = 1 ∧ windN t = 47) ∨ (t % 4 = 2 ∧ windN t = 45) ∨ (t % 4 = 3 ∧ windN t = 92) := by
    unfold windN
    rcases (by omega : t % 4 = 0 ∨ t % 4 = 1 ∨ t % 4 = 2 ∨ t % 4 = 3) with h | h | h | h <;> rw [h] <;> simp
  have ix0 : ∀ w : World, (Instr.index 53 (.agg #[.int .i32 124, .int .i32 47, .int .i32 45, .int .i32 92]) (.int .u64 0)).run Try.prog w = .ok (.int .i32 124) w := fun _ => by kernel_rfl
  have ix1 : ∀ w : World, (Instr.index 53 (.agg #[.int .i32 124, .int .i32 47, .int .i32 45, .int .i32 92]) (.int .u64 1)).run Try.prog w = .ok (.int .i32 47) w := fun _ => by kernel_rfl
  have ix2 : ∀ w : World, (Instr.index 53 (.agg #[.int .i32 124, .int .i32 47, .int .i32 45, .int .i32 92]) (.int .u64 2)).run Try.prog w = .ok (.int .i32 45) w := fun _ => by kernel_rfl
  have ix3 : ∀ w : World, (Instr.index 53 (.agg #[.int .i32 124, .int .i32 47, .int .i32 45, .int .i32 92]) (.int .u64 3)).run Try.prog w = .ok (.int .i32 92) w := fun _ => by kernel_rfl
  rcases this with ⟨g, e⟩ | ⟨g, e⟩ | ⟨g, e⟩ | ⟨g, e⟩
  all_goals
    rw [e]
    rw [g] at h
    clear e g
    go_enter Try.func16, Try.ntmps16
    go_wp2
    go_ret
    exact ⟨rfl, rfl⟩
end Go.Proofs.Ytblneabjdbllbaa
