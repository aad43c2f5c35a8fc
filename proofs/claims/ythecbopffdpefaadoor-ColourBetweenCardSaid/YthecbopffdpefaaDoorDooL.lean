/-
  Plain: the nearest one, by what it is; 'wrong' of the laws; the closed calls of ColourNames.
-/
import Derived.Test.YthecbopffdpefaaDoorDooK
namespace Go.Proofs.YthecbopffdpefaaDoor
open Go.RowKit
set_option linter.unusedVariables false
attribute [local go_sem] vwp vUpon_value vUpon_skip vUpon_enter vUpon_row
set_option linter.unusedSimpArgs false
set_option linter.unusedVariables false
/-- The best is as near as any, and nearer than those ahead of it. -/
theorem bestN_is (d : Nat → Int) : ∀ k, 0 < k → ∀ j, j < k → d (bestN d k) ≤ d j ∧ (j < bestN d k → d (bestN d k) < d j)
  | 0, h => by omega
  | k + 1, _ => fun j hj => by
    by_cases hk : k = 0
    · subst hk
      have e0 : bestN d 1 = 0 := by simp [bestN]
      have : j = 0 := by omega
      subst this
      rw [e0]; exact ⟨Int.le_refl _, fun h => by omega⟩
    · have ih := bestN_is d k (by omega)
      have lt := bestN_lt d k (by omega)
      unfold bestN
      split
      · rename_i h
        refine ⟨?_, fun hjk => ?_⟩
        · by_cases e : j = k
          · subst e; exact Int.le_refl _
          · have := (ih j (by omega)).1; omega
        · have := (ih j (by omega)).1; omega
      · rename_i h
        by_cases e : j = k
        · subst e; exact ⟨by omega, fun h' => by omega⟩
        · exact ih j (by omega)
/-- It is the only one. -/
theorem bestN_uniq (d : Nat → Int) (k m : Nat) (hm : m < k) (h : ∀ j, j < k → d m ≤ d j ∧ (j < m → d m < d j)) : bestN d k = m := by
  have lt := bestN_lt d k (by omega)
  have a := bestN_is d k (by omega) m hm
  have b := h (bestN d k) lt
  by_cases c : bestN d k < m
  · have := b.2 c; omega
  · by_cases c' : m < bestN d k
    · have := a.2 c'; omega
    · omega
theorem bestN_chk (d : Nat → Int) (k m : Nat) (h : (decide (m < k) && (List.range k).all fun j => decide (d m ≤ d j) && (decide (m ≤ j) || decide (d m < d j))) = true) : bestN d k = m := by
  rw [Bool.and_eq_true] at h
  refine bestN_uniq d k m (by simpa using h.1) fun j hj => ?_
  have := List.all_eq_true.1 h.2 j (List.mem_range.2 hj)
  simp at this
  exact ⟨this.1, fun h => by omega⟩
theorem cnt_chk (s : ByteArray) (k : Nat) (h : (decide (k ≤ s.size) && (decide (k ≤ 9) && ((List.range k).all (fun j => if j = 0 then byt s 0 == 35 else decide (0 ≤ dg (byt s j))) && !(decide (k < s.size) && (decide (k < 9) && (if k = 0 then byt s 0 == 35 else decide (0 ≤ dg (byt s k)))))))) = true) : Cnt s k := by
  simp only [Bool.and_eq_true, Bool.not_eq_true', Bool.and_eq_false_iff] at h
  obtain ⟨h1, h2, h3, h4⟩ := h
  refine ⟨by simpa using h1, by simpa using h2, fun j hj => ?_, fun ⟨g1, g2, g3⟩ => ?_⟩
  · have := List.all_eq_true.1 h3 j (List.mem_range.2 hj)
    unfold okAt
    by_cases h0 : j = 0
    · rw [if_pos h0] at this ⊢; simpa using this
    · rw [if_neg h0] at this ⊢; simpa using this
  · unfold okAt at g3
    rcases h4 with h | h | h
    · simp at h; omega
    · simp at h; omega
    · by_cases h0 : k = 0
      · rw [if_pos h0] at h g3; simp at h; exact h g3
      · rw [if_neg h0] at h g3; simp at h; omega
attribute [local go_sem high] eql_colour neq_colour
set_option maxHeartbeats 1000000 in
theorem wrong_any (s : ByteArray) (k : Nat) (w : World) (hs : s.size ≤ maxLen) (hC : Cnt s k) (hb : k < s.size ∨ (k ≠ 4 ∧ k ≠ 7 ∧ k ≠ 9)) :
    Calls Tryd.prog 24 #[.string s, .int .i64 k] w fun e w' => e = .returned (.bool true) ∧ Below w.heap.size w w' := by
  have PY := fun w => lparse_bad s k w hs hC hb
  have k9 := hC.nine
  have n0 : (0 : Int) ≤ k := by omega
  have n2 : (k : Int) ≤ 9 := by omega
  have E2 := eq4_refl 0 0 0 0
  replace PY := Lib.hid PY
  unfold maxLen at hs
  clear hC hb k9
  go_enter Tryd.func24, Tryd.ntmps24
  go_wp2_with (first | (go_at_call 9; (with_reducible refine (PY.out _).mono ?_); rintro e w1 ⟨rfl, hb1⟩; obtain ⟨hc1, hf1⟩ := bcell hb1; have z1 := hb1.size; (try simp at z1)) | go_in)
  go_ret
  exact ⟨rfl, (by repeat (first | exact Below.refl _ _ | assumption | refine Below.drew ?_ | refine Below.alloc ?_ (by (try simp) <;> omega) _ | refine Below.setCell ?_ (by (try simp) <;> omega) _ | (refine Below.trans ?_ (Below.mono (by assumption) (by (try simp) <;> omega)))))⟩
theorem wr0 (w : World) : Calls Tryd.prog 24 #[.string ⟨#[]⟩, .int .i64 0] w fun e w' => e = .returned (.bool true) ∧ Below w.heap.size w w' :=
  wrong_any ⟨#[]⟩ 0 w (by decide) (cnt_chk _ _ (by decide +kernel)) (by decide)
theorem wr1 (w : World) : Calls Tryd.prog 24 #[.string ⟨#[35]⟩, .int .i64 1] w fun e w' => e = .returned (.bool true) ∧ Below w.heap.size w w' :=
  wrong_any ⟨#[35]⟩ 1 w (by decide) (cnt_chk _ _ (by decide +kernel)) (by decide)
theorem wr2 (w : World) : Calls Tryd.prog 24 #[.string ⟨#[35, 49, 50]⟩, .int .i64 3] w fun e w' => e = .returned (.bool true) ∧ Below w.heap.size w w' :=
  wrong_any ⟨#[35, 49, 50]⟩ 3 w (by decide) (cnt_chk _ _ (by decide +kernel)) (by decide)
theorem wr3 (w : World) : Calls Tryd.prog 24 #[.string ⟨#[35, 49, 50, 51, 52]⟩, .int .i64 5] w fun e w' => e = .returned (.bool true) ∧ Below w.heap.size w w' :=
  wrong_any ⟨#[35, 49, 50, 51, 52]⟩ 5 w (by decide) (cnt_chk _ _ (by decide +kernel)) (by decide)
theorem wr4 (w : World) : Calls Tryd.prog 24 #[.string ⟨#[35, 49, 50, 103]⟩, .int .i64 3] w fun e w' => e = .returned (.bool true) ∧ Below w.heap.size w w' :=
  wrong_any ⟨#[35, 49, 50, 103]⟩ 3 w (by decide) (cnt_chk _ _ (by decide +kernel)) (by decide)
theorem wr5 (w : World) : Calls Tryd.prog 24 #[.string ⟨#[35, 49, 50, 51, 52, 53, 54, 55, 56, 57]⟩, .int .i64 9] w fun e w' => e = .returned (.bool true) ∧ Below w.heap.size w w' :=
  wrong_any ⟨#[35, 49, 50, 51, 52, 53, 54, 55, 56, 57]⟩ 9 w (by decide) (cnt_chk _ _ (by decide +kernel)) (by decide)
theorem wr6 (w : World) : Calls Tryd.prog 24 #[.string ⟨#[120]⟩, .int .i64 0] w fun e w' => e = .returned (.bool true) ∧ Below w.heap.size w w' :=
  wrong_any ⟨#[120]⟩ 0 w (by decide) (cnt_chk _ _ (by decide +kernel)) (by decide)
theorem wr7 (w : World) : Calls Tryd.prog 24 #[.string ⟨#[35, 49, 50, 51, 52, 53, 54, 55]⟩, .int .i64 8] w fun e w' => e = .returned (.bool true) ∧ Below w.heap.size w w' :=
  wrong_any ⟨#[35, 49, 50, 51, 52, 53, 54, 55]⟩ 8 w (by decide) (cnt_chk _ _ (by decide +kernel)) (by decide)
theorem tx0 (w : World) : Calls Tryd.prog 11 #[.agg #[.int .u8 (17), .int .u8 (170), .int .u8 (255), .int .u8 (255)]] w fun e w' => e = .returned (.string ⟨#[35, 49, 97, 102]⟩) ∧ Below w.heap.size w w' :=
  ltext_any _ _ _ _ ⟨1, 1, 10, 10, 15, 15, 15, 15⟩ w ⟨⟨by decide, by decide, by decide⟩, ⟨by decide, by decide, by decide⟩, ⟨by decide, by decide, by decide⟩, ⟨by decide, by decide, by decide⟩⟩
theorem tx1 (w : World) : Calls Tryd.prog 11 #[.agg #[.int .u8 (1), .int .u8 (2), .int .u8 (3), .int .u8 (255)]] w fun e w' => e = .returned (.string ⟨#[35, 48, 49, 48, 50, 48, 51]⟩) ∧ Below w.heap.size w w' :=
  ltext_any _ _ _ _ ⟨0, 1, 0, 2, 0, 3, 15, 15⟩ w ⟨⟨by decide, by decide, by decide⟩, ⟨by decide, by decide, by decide⟩, ⟨by decide, by decide, by decide⟩, ⟨by decide, by decide, by decide⟩⟩
theorem tx2 (w : World) : Calls Tryd.prog 11 #[.agg #[.int .u8 (255), .int .u8 (255), .int .u8 (255), .int .u8 (0)]] w fun e w' => e = .returned (.string ⟨#[35, 102, 102, 102, 102, 102, 102, 48, 48]⟩) ∧ Below w.heap.size w w' :=
  ltext_any _ _ _ _ ⟨15, 15, 15, 15, 15, 15, 0, 0⟩ w ⟨⟨by decide, by decide, by decide⟩, ⟨by decide, by decide, by decide⟩, ⟨by decide, by decide, by decide⟩, ⟨by decide, by decide, by decide⟩⟩
theorem ov0 (w : World) : Calls Tryd.prog 13 #[.agg #[.int .u8 (9), .int .u8 (9), .int .u8 (9), .int .u8 (0)], .agg #[.int .u8 (1), .int .u8 (2), .int .u8 (3), .int .u8 (4)]] w fun e w' => e = .returned (.agg #[.int .u8 (1), .int .u8 (2), .int .u8 (3), .int .u8 (4)]) ∧ Below w.heap.size w w' :=
  over_any 9 9 9 0 1 2 3 4 w (b8 (by decide)) (b8 (by decide)) (b8 (by decide)) (b8 (by decide)) (b8 (by decide)) (b8 (by decide)) (b8 (by decide)) (b8 (by decide))
theorem ov1 (w : World) : Calls Tryd.prog 13 #[.agg #[.int .u8 (10), .int .u8 (20), .int .u8 (30), .int .u8 (255)], .agg #[.int .u8 (1), .int .u8 (2), .int .u8 (3), .int .u8 (4)]] w fun e w' => e = .returned (.agg #[.int .u8 (10), .int .u8 (20), .int .u8 (30), .int .u8 (255)]) ∧ Below w.heap.size w w' :=
  over_any 10 20 30 255 1 2 3 4 w (b8 (by decide)) (b8 (by decide)) (b8 (by decide)) (b8 (by decide)) (b8 (by decide)) (b8 (by decide)) (b8 (by decide)) (b8 (by decide))
theorem mx0 (w : World) : Calls Tryd.prog 14 #[.agg #[.int .u8 (0), .int .u8 (0), .int .u8 (0), .int .u8 (255)], .agg #[.int .u8 (255), .int .u8 (255), .int .u8 (255), .int .u8 (255)], .int .u8 128] w fun e w' => e = .returned (.agg #[.int .u8 (128), .int .u8 (128), .int .u8 (128), .int .u8 (255)]) ∧ Below w.heap.size w w' :=
  mix_any 0 0 0 255 255 255 255 255 128 w (b8 (by decide)) (b8 (by decide)) (b8 (by decide)) (b8 (by decide)) (b8 (by decide)) (b8 (by decide)) (b8 (by decide)) (b8 (by decide)) (b8 (by decide))
theorem mx1 (w : World) : Calls Tryd.prog 14 #[.agg #[.int .u8 (10), .int .u8 (0), .int .u8 (0), .int .u8 (0)], .agg #[.int .u8 (20), .int .u8 (0), .int .u8 (0), .int .u8 (0)], .int .u8 127] w fun e w' => e = .returned (.agg #[.int .u8 (15), .int .u8 (0), .int .u8 (0), .int .u8 (0)]) ∧ Below w.heap.size w w' :=
  mix_any 10 0 0 0 20 0 0 0 127 w (b8 (by decide)) (b8 (by decide)) (b8 (by decide)) (b8 (by decide)) (b8 (by decide)) (b8 (by decide)) (b8 (by decide)) (b8 (by decide)) (b8 (by decide))
theorem bk0 (w : World) : Calls Tryd.prog 23 #[.int .u8 9, .bool false] w fun e w' => e = .returned (.agg #[.int .u8 (255), .int .u8 (0), .int .u8 (0), .int .u8 (255)]) ∧ Below w.heap.size w w' := back_few 9 w (b8 (by decide))
theorem bk1 (w : World) : Calls Tryd.prog 23 #[.int .u8 25, .bool false] w fun e w' => e = .returned (.agg #[.int .u8 (255), .int .u8 (0), .int .u8 (0), .int .u8 (255)]) ∧ Below w.heap.size w w' := back_few 25 w (b8 (by decide))
theorem bk2 (w : World) : Calls Tryd.prog 23 #[.int .u8 196, .bool true] w fun e w' => e = .returned (.agg #[.int .u8 (255), .int .u8 (0), .int .u8 (0), .int .u8 (255)]) ∧ Below w.heap.size w w' := back_many 196 w (b8 (by decide))
theorem bk3 (w : World) : Calls Tryd.prog 23 #[.int .u8 244, .bool true] w fun e w' => e = .returned (.agg #[.int .u8 (128), .int .u8 (128), .int .u8 (128), .int .u8 (255)]) ∧ Below w.heap.size w w' := back_many 244 w (b8 (by decide))
theorem nm0 (w : World) : Calls Tryd.prog 20 #[.agg #[.int .u8 (254), .int .u8 (1), .int .u8 (1), .int .u8 (255)]] w fun e w' => e = .returned (.int .u8 9) ∧ Below w.heap.size w w' := by
  have h := six_any 254 1 1 255 w (b8 (by decide)) (b8 (by decide)) (b8 (by decide)) (b8 (by decide))
  have e : bestN (dist (ov 255 255 254 0) (ov 255 255 1 0) (ov 255 255 1 0)) 16 = 9 := bestN_chk _ _ _ (by decide +kernel)
  unfold numN at h
  rw [e] at h
  exact h
theorem nm1 (w : World) : Calls Tryd.prog 21 #[.agg #[.int .u8 (95), .int .u8 (0), .int .u8 (0), .int .u8 (255)]] w fun e w' => e = .returned (.int .u8 52) ∧ Below w.heap.size w w' := by
  have h := many_any 95 0 0 255 w (b8 (by decide)) (b8 (by decide)) (b8 (by decide)) (b8 (by decide))
  have e : bestN (dist (ov 255 255 95 0) (ov 255 255 0 0) (ov 255 255 0 0)) 256 = 52 := bestN_chk _ _ _ (by decide +kernel)
  unfold numN at h
  rw [e] at h
  exact h
theorem nm2 (w : World) : Calls Tryd.prog 21 #[.agg #[.int .u8 (0), .int .u8 (0), .int .u8 (0), .int .u8 (255)]] w fun e w' => e = .returned (.int .u8 0) ∧ Below w.heap.size w w' := by
  have h := many_any 0 0 0 255 w (b8 (by decide)) (b8 (by decide)) (b8 (by decide)) (b8 (by decide))
  have e : bestN (dist (ov 255 255 0 0) (ov 255 255 0 0) (ov 255 255 0 0)) 256 = 0 := bestN_chk _ _ _ (by decide +kernel)
  unfold numN at h
  rw [e] at h
  exact h
theorem nm3 (w : World) : Calls Tryd.prog 21 #[.agg #[.int .u8 (0), .int .u8 (0), .int .u8 (0), .int .u8 (0)]] w fun e w' => e = .returned (.int .u8 0) ∧ Below w.heap.size w w' := by
  have h := many_any 0 0 0 0 w (b8 (by decide)) (b8 (by decide)) (b8 (by decide)) (b8 (by decide))
  have e : bestN (dist (ov 0 255 0 0) (ov 0 255 0 0) (ov 0 255 0 0)) 256 = 0 := bestN_chk _ _ _ (by decide +kernel)
  unfold numN at h
  rw [e] at h
  exact h
theorem li0 (w : World) : Calls Tryd.prog 17 #[.agg #[.int .u8 (0), .int .u8 (0), .int .u8 (0), .int .u8 (255)]] w fun e w' => e = .returned (.int .i64 0) ∧ Below w.heap.size w w' := light_any 0 0 0 255 w (b8 (by decide)) (b8 (by decide)) (b8 (by decide)) (b8 (by decide))
theorem li1 (w : World) : Calls Tryd.prog 17 #[.agg #[.int .u8 (128), .int .u8 (128), .int .u8 (128), .int .u8 (255)]] w fun e w' => e = .returned (.int .i64 501960) ∧ Below w.heap.size w w' := light_any 128 128 128 255 w (b8 (by decide)) (b8 (by decide)) (b8 (by decide)) (b8 (by decide))
theorem cl0 (w : World) : Calls Tryd.prog 18 #[.agg #[.int .u8 (255), .int .u8 (255), .int .u8 (255), .int .u8 (255)], .agg #[.int .u8 (0), .int .u8 (0), .int .u8 (0), .int .u8 (255)]] w fun e w' => e = .returned (.bool true) ∧ Below w.heap.size w w' := clear_any 255 255 255 255 0 0 0 255 w (b8 (by decide)) (b8 (by decide)) (b8 (by decide)) (b8 (by decide)) (b8 (by decide)) (b8 (by decide)) (b8 (by decide)) (b8 (by decide))
theorem cl1 (w : World) : Calls Tryd.prog 18 #[.agg #[.int .u8 (119), .int .u8 (119), .int .u8 (119), .int .u8 (255)], .agg #[.int .u8 (128), .int .u8 (128), .int .u8 (128), .int .u8 (255)]] w fun e w' => e = .returned (.bool false) ∧ Below w.heap.size w w' := clear_any 119 119 119 255 128 128 128 255 w (b8 (by decide)) (b8 (by decide)) (b8 (by decide)) (b8 (by decide)) (b8 (by decide)) (b8 (by decide)) (b8 (by decide)) (b8 (by decide))
end Go.Proofs.YthecbopffdpefaaDoor
