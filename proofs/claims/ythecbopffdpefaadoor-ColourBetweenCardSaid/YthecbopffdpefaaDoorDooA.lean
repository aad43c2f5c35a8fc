/-
  The library's small functions that colour.Parse calls: IndexByte, HasPrefix, lower.
-/
import Derived.Test.YthecbopffdpefaaDoorColM
import Derived.Lib.Bytealg
import Derived.Laws.Externs
import Derived.KernelRfl
namespace Go.Proofs.YthecbopffdpefaaDoor
open Go.RowKit
set_option linter.unusedVariables false
attribute [local go_sem] vwp vUpon_value vUpon_skip vUpon_enter vUpon_row
set_option linter.unusedSimpArgs false
set_option linter.unusedVariables false
theorem slix_any (s : ByteArray) (c : Int) (w : World) : Calls Tryd.prog 37 #[.string s, .int .u8 c] w fun e w' => e = .returned (.int .i64 (Lib.indexByte s.data.toList c.toNat.toUInt8)) ∧ w = w' := by
  go_enter Tryd.func37, Tryd.ntmps37
  go_wp2
  rw [run_callFunc_extern Tryd.func41 (by kernel_rfl) (by kernel_rfl) (by kernel_rfl) (e := Extern.BytealgIndexByte.indexByte) (by kernel_rfl), Lib.run_indexByteString]
  simp only [Result.andThen]
  rw [Oper.upon_value]
  go_wp2
  go_ret
  exact ⟨rfl, rfl⟩
theorem sixb_any (s : ByteArray) (c : Int) (w : World) : Calls Tryd.prog 26 #[.string s, .int .u8 c] w fun e w' => e = .returned (.int .i64 (Lib.indexByte s.data.toList c.toNat.toUInt8)) ∧ w = w' := by
  go_enter Tryd.func26, Tryd.ntmps26
  go_wp2_with (first
    | (go_at_call 37; (with_reducible refine (slix_any _ _ _).mono ?_); rintro e w1 ⟨rfl, rfl⟩)
    | go_in)
  go_ret
  exact ⟨rfl, rfl⟩
theorem lower_any (b : Int) (w : World) (h : U8 b) : Calls Tryd.prog 42 #[.int .u8 b] w fun e w' => e = .returned (.int .u8 (bits .or .u8 b 32)) ∧ w = w' := by
  go_enter Tryd.func42, Tryd.ntmps42
  go_wp2
  go_ret
  exact ⟨rfl, rfl⟩
def hpB (s : ByteArray) : Bool := decide (0 < s.size ∧ byt s 0 = 35)
theorem hp_none {s : ByteArray} (h : ¬ 1 ≤ s.size) : hpB s = false := by
  unfold hpB; simp; omega
theorem hp_some {s : ByteArray} (h : 1 ≤ s.size) : ((s.extract 0 1).toList == [35]) = hpB s := by
  obtain ⟨⟨l⟩⟩ := s
  cases l with
  | nil => exact absurd h (by decide)
  | cons x t =>
    have e0 : ((⟨⟨x :: t⟩⟩ : ByteArray).extract 0 1).toList = [x] := by
      rw [ByteArray.toList_eq, Lib.extract_data]; rfl
    have e1 : byt (⟨⟨x :: t⟩⟩ : ByteArray) 0 = (x.toNat : Int) := by
      rw [byt_eq (show 0 < (⟨⟨x :: t⟩⟩ : ByteArray).size from h)]; rfl
    have e2 : 0 < (⟨⟨x :: t⟩⟩ : ByteArray).size := h
    unfold hpB
    rw [e0, e1]
    by_cases hx : x = 35
    · subst hx
      simp [e2]
    · have h3 : ¬ ((x.toNat : Int) = 35) := fun h => hx (by
        have h4 : x.toNat = 35 := by omega
        exact UInt8.toNat_inj.1 h4)
      simp [hx, h3]
theorem shp_any (s : ByteArray) (w : World) (hs : s.size ≤ maxLen) : Calls Tryd.prog 36 #[.string s, .string ⟨#[35]⟩] w fun e w' => e = .returned (.bool (hpB s)) ∧ w = w' := by
  unfold maxLen at hs
  by_cases h0 : 1 ≤ s.size
  · have hi : (1 : Int) ≤ s.size := by omega
    rw [← hp_some h0]
    go_enter Tryd.func36, Tryd.ntmps36
    go_wp2
    go_ret
    exact ⟨rfl, rfl⟩
  · have hi : ¬ (1 : Int) ≤ s.size := by omega
    rw [hp_none h0]
    go_enter Tryd.func36, Tryd.ntmps36
    go_wp2
    go_ret
    exact ⟨rfl, rfl⟩
theorem hp_any (s : ByteArray) (w : World) (hs : s.size ≤ maxLen) : Calls Tryd.prog 25 #[.string s, .string ⟨#[35]⟩] w fun e w' => e = .returned (.bool (hpB s)) ∧ w = w' := by
  go_enter Tryd.func25, Tryd.ntmps25
  go_wp2_with (first
    | (go_at_call 36; (with_reducible refine (shp_any _ _ hs).mono ?_); rintro e w1 ⟨rfl, rfl⟩)
    | go_in)
  go_ret
  exact ⟨rfl, rfl⟩
def digS : ByteArray := ⟨#[48, 49, 50, 51, 52, 53, 54, 55, 56, 57, 97, 98, 99, 100, 101, 102, 65, 66, 67, 68, 69, 70]⟩
def ixD (b : Int) : Int := Lib.indexByte digS.data.toList b.toNat.toUInt8
theorem ixD_iff (b : Int) (h : U8 b) : (0 ≤ ixD b) ↔ (0 ≤ dg b) := by
  have key : ∀ n : Nat, n < 256 → decide (0 ≤ ixD (n : Int)) = decide (0 ≤ dg (n : Int)) := by
    have : (List.range 256).all (fun n => decide (0 ≤ ixD (n : Int)) == decide (0 ≤ dg (n : Int))) = true := by decide +kernel
    intro n hn
    simpa using List.all_eq_true.1 this n (List.mem_range.2 hn)
  obtain ⟨n, rfl⟩ := Int.eq_ofNat_of_zero_le h.1
  have := key n (by have := h.2; omega)
  simpa using this
theorem ixD_bd (b : Int) (h : U8 b) : -1 ≤ ixD b ∧ ixD b ≤ 21 := by
  have key : ∀ n : Nat, n < 256 → decide (-1 ≤ ixD (n : Int) ∧ ixD (n : Int) ≤ 21) = true := by
    have : (List.range 256).all (fun n => decide (-1 ≤ ixD (n : Int) ∧ ixD (n : Int) ≤ 21)) = true := by decide +kernel
    intro n hn
    exact List.all_eq_true.1 this n (List.mem_range.2 hn)
  obtain ⟨n, rfl⟩ := Int.eq_ofNat_of_zero_le h.1
  exact of_decide_eq_true (key n (by have := h.2; omega))
end Go.Proofs.YthecbopffdpefaaDoor
