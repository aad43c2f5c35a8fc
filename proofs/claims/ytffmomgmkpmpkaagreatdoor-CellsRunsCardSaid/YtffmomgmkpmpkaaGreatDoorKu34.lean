/-
  Cells: a screen's text, by the document's answer.
-/
import Derived.Lib.SlicesCompact
import Derived.Test.YtffmomgmkpmpkaaGreatDoorProg
import Derived.Test.YtffmomgmkpmpkaaGreatDoorKu22
namespace Go.Proofs.YtffmomgmkpmpkaaGreatDoor
open Go.RowKit
set_option linter.unusedVariables false
attribute [local go_sem] vwp vUpon_value vUpon_skip vUpon_enter vUpon_row
set_option linter.unusedSimpArgs false
set_option linter.unusedVariables false
theorem encode_eq (r : Int) : Utf8.encode r = strL (Lib.encodeRune r) := by
  by_cases hv : Utf8.valid r = true
  · have hv' := hv
    simp only [Utf8.valid, Bool.or_eq_true, Bool.and_eq_true, decide_eq_true_eq] at hv'
    obtain ⟨k, rfl⟩ : ∃ k : Nat, r = k := ⟨r.toNat, by omega⟩
    simp only [Utf8.encode, hv, if_true, Int.toNat_natCast]
    unfold strL Lib.encodeRune
    by_cases h1 : k < 0x80
    · rw [if_pos h1, Lib.encodeRuneZ_one (by omega) (by omega)]
      rfl
    · rw [if_neg h1]
      by_cases h2 : k < 0x800
      · rw [if_pos h2, Lib.encodeRuneZ_two (by omega) (by omega)]
        rfl
      · rw [if_neg h2]
        by_cases h3 : k < 0x10000
        · rw [if_pos h3, Lib.encodeRuneZ_three (by omega)]
          rfl
        · rw [if_neg h3, Lib.encodeRuneZ_four (by omega) (by omega)]
          rfl
  · have hv' : Utf8.valid r = false := by simpa using hv
    have hb : r < 0 ∨ (55296 ≤ r ∧ r ≤ 57343) ∨ 1114111 < r := by
      simp only [Utf8.valid, Bool.or_eq_false_iff, Bool.and_eq_false_iff, decide_eq_false_iff_not] at hv'
      omega
    unfold Lib.encodeRune
    rw [Lib.encodeRuneZ_bad hb]
    simp only [Utf8.encode, hv', Bool.false_eq_true, if_false]
    rfl
theorem strL_sz {o : List UInt8} {S : ByteArray} (h : strL o = S) : S.size = o.length := by subst h; rfl
theorem encode_small (r : Int) : (Utf8.encode r).size ≤ 4 := by rw [strL_sz (encode_eq r).symm]; exact enc_len4 r
end Go.Proofs.YtffmomgmkpmpkaaGreatDoor
