/-
  Palettes: what each number's colour is.
-/
import Derived.Test.YthecbopffdpefaaDoorColP
import Derived.Test.YthecbopffdpefaaDoorColC
namespace Go.Proofs.YthecbopffdpefaaDoor
open Go.RowKit
set_option linter.unusedVariables false
set_option linter.unusedSimpArgs false
attribute [local go_sem] vwp vUpon_value vUpon_skip vUpon_enter vUpon_row
theorem sixteen (n : Nat) (h : n < 16) : n = 0 ∨ n = 1 ∨ n = 2 ∨ n = 3 ∨ n = 4 ∨ n = 5 ∨ n = 6 ∨ n = 7 ∨ n = 8 ∨ n = 9 ∨ n = 10 ∨ n = 11 ∨ n = 12 ∨ n = 13 ∨ n = 14 ∨ n = 15 := by omega
theorem sixteenI (n : Int) (h0 : 0 ≤ n) (h : n < 16) : n = 0 ∨ n = 1 ∨ n = 2 ∨ n = 3 ∨ n = 4 ∨ n = 5 ∨ n = 6 ∨ n = 7 ∨ n = 8 ∨ n = 9 ∨ n = 10 ∨ n = 11 ∨ n = 12 ∨ n = 13 ∨ n = 14 ∨ n = 15 := by omega

/-- A level of the cube. -/
def levelN (n : Int) : Int := if n = 0 then 0 else 55 + 40 * n
set_option maxHeartbeats 400000 in
theorem level_any (n : Int) (w : World) (h0 : 0 ≤ n) (h5 : n ≤ 5) : Calls Tryd.prog 35 #[.int .i64 n] w fun e w' => e = .returned (.int .u8 (levelN n)) ∧ w = w' := by
  by_cases h : n = 0
  · subst h
    go_enter Tryd.func35, Tryd.ntmps35
    go_wp2
    go_ret
    exact ⟨rfl, rfl⟩
  · have e : levelN n = 55 + 40 * n := if_neg h
    rw [e]
    have hne : (n == 0) = false := by simp; omega
    clear e h
    go_enter Tryd.func35, Tryd.ntmps35
    go_wp2
    go_ret
    exact ⟨rfl, rfl⟩
def namedS : Nat → ByteArray
  | 0 => ⟨#[35, 48, 48, 48]⟩
  | 1 => ⟨#[35, 56, 48, 48, 48, 48, 48]⟩
  | 2 => ⟨#[35, 48, 48, 56, 48, 48, 48]⟩
  | 3 => ⟨#[35, 56, 48, 56, 48, 48, 48]⟩
  | 4 => ⟨#[35, 48, 48, 48, 48, 56, 48]⟩
  | 5 => ⟨#[35, 56, 48, 48, 48, 56, 48]⟩
  | 6 => ⟨#[35, 48, 48, 56, 48, 56, 48]⟩
  | 7 => ⟨#[35, 99, 48, 99, 48, 99, 48]⟩
  | 8 => ⟨#[35, 56, 48, 56, 48, 56, 48]⟩
  | 9 => ⟨#[35, 102, 48, 48]⟩
  | 10 => ⟨#[35, 48, 102, 48]⟩
  | 11 => ⟨#[35, 102, 102, 48]⟩
  | 12 => ⟨#[35, 48, 48, 102]⟩
  | 13 => ⟨#[35, 102, 48, 102]⟩
  | 14 => ⟨#[35, 48, 102, 102]⟩
  | _ => ⟨#[35, 102, 102, 102]⟩
def bkV (k : Int) : Int := if 8 < k then 255 else 128
def bkR (k : Int) : Int := if k = 7 then 192 else if k = 8 then 128 else if k < 16 then bkV k * (k % 2) else if 232 ≤ k then 8 + 10 * (k - 232) else levelN ((k - 16) / 36)
def bkG (k : Int) : Int := if k = 7 then 192 else if k = 8 then 128 else if k < 16 then bkV k * (k / 2 % 2) else if 232 ≤ k then 8 + 10 * (k - 232) else levelN ((k - 16) / 6 % 6)
def bkB (k : Int) : Int := if k = 7 then 192 else if k = 8 then 128 else if k < 16 then bkV k * (k / 4 % 2) else if 232 ≤ k then 8 + 10 * (k - 232) else levelN ((k - 16) % 6)
theorem levelN_bd (n : Int) (h0 : 0 ≤ n) (h5 : n ≤ 5) : U8 (levelN n) := by unfold levelN U8; split <;> omega
theorem bk_gray (k : Int) (h : 232 ≤ k) : bkR k = 8 + 10 * (k - 232) ∧ bkG k = 8 + 10 * (k - 232) ∧ bkB k = 8 + 10 * (k - 232) := by
  unfold bkR bkG bkB
  refine ⟨?_, ?_, ?_⟩ <;> rw [if_neg (by omega), if_neg (by omega), if_neg (by omega), if_pos h]
theorem bk_cube (k : Int) (h : 16 ≤ k) (h' : k < 232) : bkR k = levelN ((k - 16) / 36) ∧ bkG k = levelN ((k - 16) / 6 % 6) ∧ bkB k = levelN ((k - 16) % 6) := by
  unfold bkR bkG bkB
  refine ⟨?_, ?_, ?_⟩ <;> rw [if_neg (by omega), if_neg (by omega), if_neg (by omega), if_neg (by omega)]
theorem bk_bd (k : Int) (h : U8 k) : U8 (bkR k) ∧ U8 (bkG k) ∧ U8 (bkB k) := by
  obtain ⟨h0, h1⟩ := h
  by_cases c : k < 16
  · rcases sixteenI k h0 c with rfl | rfl | rfl | rfl | rfl | rfl | rfl | rfl | rfl | rfl | rfl | rfl | rfl | rfl | rfl | rfl <;> (unfold U8; decide)
  · by_cases d : 232 ≤ k
    · obtain ⟨a, b, e⟩ := bk_gray k d
      rw [a, b, e]; unfold U8; omega
    · obtain ⟨a, b, e⟩ := bk_cube k (by omega) (by omega)
      rw [a, b, e]
      exact ⟨levelN_bd _ (by omega) (by omega), levelN_bd _ (by omega) (by omega), levelN_bd _ (by omega) (by omega)⟩

theorem cnt_of (s : ByteArray) (k : Nat) (hk : k = s.size) (h9 : k ≤ 9) (h : (List.range k).all (fun j => if j = 0 then byt s 0 == 35 else decide (0 ≤ dg (byt s j))) = true) : Cnt s k := by
  refine ⟨by omega, h9, fun j hj => ?_, fun ⟨h1, _⟩ => by omega⟩
  have := List.all_eq_true.1 h j (List.mem_range.2 hj)
  unfold okAt
  by_cases h0 : j = 0
  · rw [if_pos h0] at this ⊢; simpa using this
  · rw [if_neg h0] at this ⊢; simpa using this
/-- What the sixteen names read as. -/
theorem named_read (n : Nat) (h : n < 16) : Cnt (namedS n) (namedS n).size ∧ ((namedS n).size = 4 ∨ (namedS n).size = 7 ∨ (namedS n).size = 9) ∧
    pr (namedS n) (namedS n).size 0 = bkR n ∧ pr (namedS n) (namedS n).size 1 = bkG n ∧ pr (namedS n) (namedS n).size 2 = bkB n ∧ pr (namedS n) (namedS n).size 3 = 255 := by
  rcases sixteen n h with rfl | rfl | rfl | rfl | rfl | rfl | rfl | rfl | rfl | rfl | rfl | rfl | rfl | rfl | rfl | rfl
  all_goals exact ⟨cnt_of _ _ rfl (by decide) (by decide +kernel), by decide, by decide +kernel, by decide +kernel, by decide +kernel, by decide +kernel⟩

set_option maxHeartbeats 4000000 in
theorem back_small (n : Int) (w : World) (h0 : 0 ≤ n) (h : n < 16) : Calls Tryd.prog 23 #[.int .u8 n, .bool true] w fun e w' => e = .returned (.agg #[.int .u8 (bkR n), .int .u8 (bkG n), .int .u8 (bkB n), .int .u8 (255)]) ∧ Below w.heap.size w w' := by
  rcases sixteenI n h0 h with rfl | rfl | rfl | rfl | rfl | rfl | rfl | rfl | rfl | rfl | rfl | rfl | rfl | rfl | rfl | rfl
  all_goals
    go_enter Tryd.func23, Tryd.ntmps23
    go_wp2
    refine bodyPost_ret (v := .agg #[.int .u8 _, .int .u8 _, .int .u8 _, .int .u8 255]) (by simp [results, Tryd.results23, go_sem]; exact ⟨rfl, rfl, rfl⟩) rfl ⟨rfl, (by repeat (first | exact Below.refl _ _ | assumption | refine Below.drew ?_ | refine Below.alloc ?_ (by (try simp) <;> omega) _ | refine Below.setCell ?_ (by (try simp) <;> omega) _))⟩
end Go.Proofs.YthecbopffdpefaaDoor
