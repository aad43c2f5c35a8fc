/-
  Bytes: which stand as they are; small sixteens.
-/
import Derived.Test.YtpbolbpenkfpiaaDoorVecB
namespace Go.Proofs.YtpbolbpenkfpiaaDoor
open Go.RowKit
set_option linter.unusedVariables false
attribute [local go_sem] vwp vUpon_value vUpon_skip vUpon_enter vUpon_row
set_option linter.unusedSimpArgs false
set_option linter.unusedVariables false
def stB (b : Int) : Bool := decide (32 < b) && (decide (b < 127) && (!(b == 38) && (!(b == 60) && (!(b == 62) && !(b == 34)))))
theorem stands_any (b : Int) (w : World) (h : U8 b) : Calls Tryd.prog 25 #[.int .u8 b] w fun e w' => e = .returned (.bool (stB b)) ∧ w = w' := by
  obtain ⟨h0, h1⟩ := h
  unfold stB
  by_cases c1 : 32 < b
  · by_cases c2 : b < 127
    · by_cases c3 : b = 38
      · subst c3
        go_enter Tryd.func25, Tryd.ntmps25
        go_wp2
        go_ret
        exact ⟨rfl, rfl⟩
      by_cases c4 : b = 60
      · subst c4
        go_enter Tryd.func25, Tryd.ntmps25
        go_wp2
        go_ret
        exact ⟨rfl, rfl⟩
      by_cases c5 : b = 62
      · subst c5
        go_enter Tryd.func25, Tryd.ntmps25
        go_wp2
        go_ret
        exact ⟨rfl, rfl⟩
      by_cases c6 : b = 34
      · subst c6
        go_enter Tryd.func25, Tryd.ntmps25
        go_wp2
        go_ret
        exact ⟨rfl, rfl⟩
      have d3 : (b == 38) = false := by simpa using c3
      have d4 : (b == 60) = false := by simpa using c4
      have d5 : (b == 62) = false := by simpa using c5
      have d6 : (b == 34) = false := by simpa using c6
      have e3 : (b != 38) = true := by simpa using c3
      have e4 : (b != 60) = true := by simpa using c4
      have e5 : (b != 62) = true := by simpa using c5
      have e6 : (b != 34) = true := by simpa using c6
      rw [d3, d4, d5, d6, decide_eq_true c1, decide_eq_true c2]
      go_enter Tryd.func25, Tryd.ntmps25
      go_wp2
      go_ret
      exact ⟨rfl, rfl⟩
    · rw [decide_eq_true c1, decide_eq_false c2]
      go_enter Tryd.func25, Tryd.ntmps25
      go_wp2
      go_ret
      exact ⟨rfl, rfl⟩
  · rw [decide_eq_false c1]
    go_enter Tryd.func25, Tryd.ntmps25
    go_wp2
    go_ret
    exact ⟨rfl, rfl⟩
theorem ix_st (b : Int) (h : U8 b) (c1 : 32 < b) (c2 : b < 127) : decide (Lib.indexByte [38, 60, 62, 34] b.toNat.toUInt8 < 0) = stB b := by
  obtain ⟨n, rfl⟩ := Int.eq_ofNat_of_zero_le h.1
  have hn : n < 127 := by omega
  have key : (List.range 127).all (fun n => decide (n ≤ 32) || decide (Lib.indexByte [38, 60, 62, 34] (n : Int).toNat.toUInt8 < 0) == stB (n : Int)) = true := by decide +kernel
  have := List.all_eq_true.1 key n (List.mem_range.2 hn)
  have hc : ¬ n ≤ 32 := by omega
  simpa [hc] using this
theorem vplain_any (b : Int) (w : World) (h : U8 b) : Calls Tryd.prog 23 #[.int .u8 b] w fun e w' => e = .returned (.bool (stB b)) ∧ w = w' := by
  obtain ⟨h0, h1⟩ := id h
  by_cases c1 : 32 < b
  · by_cases c2 : b < 127
    · have I := fun w => Tryd.strings_IndexByte ⟨#[38, 60, 62, 34]⟩ b w
      have e := ix_st b h c1 c2
      have el : (⟨#[38, 60, 62, 34]⟩ : ByteArray).data.toList = [38, 60, 62, 34] := rfl
      simp only [el] at I
      obtain ⟨r, hr⟩ : ∃ r, Lib.indexByte [38, 60, 62, 34] b.toNat.toUInt8 = r := ⟨_, rfl⟩
      rw [hr] at I e
      rw [← e]
      clear e hr el
      replace I := Lib.hid I
      go_enter Tryd.func23, Tryd.ntmps23
      go_wp2_with (first
        | (go_at_call 24; (with_reducible refine (I.out _).mono ?_); rintro e w1 ⟨rfl, rfl⟩)
        | go_in)
      go_ret
      exact ⟨rfl, rfl⟩
    · have e : stB b = false := by unfold stB; rw [decide_eq_true c1, decide_eq_false c2]; rfl
      rw [e]
      clear e
      go_enter Tryd.func23, Tryd.ntmps23
      go_wp2
      go_ret
      exact ⟨rfl, rfl⟩
  · have e : stB b = false := by unfold stB; rw [decide_eq_false c1]; rfl
    rw [e]
    clear e
    go_enter Tryd.func23, Tryd.ntmps23
    go_wp2
    go_ret
    exact ⟨rfl, rfl⟩
theorem sixteen_any (n : Nat) (w : World) (h : n < 16) : Calls Tryd.prog 28 #[.int .i64 n] w fun e w' => e = .returned (.string ⟨#[hxU n]⟩) ∧ w = w' := by
  have x0 := ex_one n h
  have i0 : (n : Int) + 1 ≤ 16 := by omega
  have i2 : (n : Int) ≤ n + 1 := by omega
  go_enter Tryd.func28, Tryd.ntmps28
  go_wp2
  go_ret
  exact ⟨rfl, rfl⟩
end Go.Proofs.YtpbolbpenkfpiaaDoor
