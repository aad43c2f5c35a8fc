/-
  'alive': the answers that the document fixes.
-/
import Derived.Test.YtblneabjdbllbaaMotN
namespace Go.Proofs.Ytblneabjdbllbaa
open Go.RowKit
set_option linter.unusedVariables false
attribute [local go_sem] vwp vUpon_value vUpon_skip vUpon_enter vUpon_row
open Go.Maps
def mA : Mo := ⟨0, 0, 100, 10, 4, 0, 2, false⟩
def mB : Mo := ⟨0, 0, 100, 10, 4, 0, 2, true⟩
def mZ : Mo := ⟨0, 0, 0, 0, 0, 0, 0, false⟩
theorem mA_wf : Wf mA := ⟨by unfold I64; decide, by unfold I64; decide, by unfold I64; decide, by unfold I64; decide, by unfold I64; decide, by unfold U8; decide, by unfold I64; decide⟩
theorem mB_wf : Wf mB := ⟨by unfold I64; decide, by unfold I64; decide, by unfold I64; decide, by unfold I64; decide, by unfold I64; decide, by unfold U8; decide, by unfold I64; decide⟩
theorem mZ_wf : Wf mZ := ⟨by unfold I64; decide, by unfold I64; decide, by unfold I64; decide, by unfold I64; decide, by unfold I64; decide, by unfold U8; decide, by unfold I64; decide⟩
theorem next_one (t r : Int) (h : NextP (Counts [mB]) t r) (ht : t = 0) : r = 11 := by
  subst ht
  have hc : Counts [mB] mB := (Counts.snoc [] mB mB).2 (.inl rfl)
  have ho : overB mB (max 0 mB.st) = false := by decide
  have h1 := h.1 mB hc ho
  have e : max 0 mB.st + 1 = 11 := by decide
  rw [e] at h1
  rcases h.2 with rfl | ⟨m, a, b, c⟩
  · omega
  · rcases (Counts.snoc [] mB m).1 a with rfl | ⟨_, h⟩
    · rw [c]; exact e
    · exact absurd h (Counts.nil _)
theorem Lst_new (w : World) (m : Mo) (ty : TypeId) : Lst (w.alloc (.cells #[.int .i64 m.node, .int .i64 m.fr, .int .i64 m.to, .int .i64 m.st, .int .i64 m.ln, .int .u8 m.es, .int .i64 m.ts, .bool m.bk] ty)) (.slice (some ⟨w.heap.size, 0, none⟩) 1 1) [m] := by
  refine .inr ⟨⟨w.heap.size, 0, none⟩, 1, rfl, fun _ => by simp, (show 1 ≤ maxLen by unfold maxLen; decide), fun j x hj => ?_⟩
  cases j with
  | zero =>
    simp at hj; subst hj
    refine ⟨?_, ?_, ?_, ?_, ?_, ?_, ?_, ?_⟩ <;> exact (World.cell?_alloc_at _ _ _ _ rfl).trans rfl
  | succ j => simp at hj
theorem Lst_mB (w : World) (ty : TypeId) : Lst (w.alloc (.cells #[.int .i64 0, .int .i64 0, .int .i64 100, .int .i64 10, .int .i64 4, .int .u8 0, .int .i64 2, .bool true] ty)) (.slice (some ⟨w.heap.size, 0, none⟩) 1 1) [mB] := Lst_new w mB ty
set_option maxHeartbeats 2000000 in
theorem alive_any (w : World) : Calls Try.prog 9 #[] w fun e w' => e = .returned (.bool true) ∧ Below w.heap.size w w' := by
  have A1 : ∀ w, Calls Try.prog 10 #[.agg #[.int .i64 (0), .int .i64 (0), .int .i64 (100), .int .i64 (10), .int .i64 (4), .int .u8 (0), .int .i64 (2), .bool (false)], .int .i64 13] w fun e w' => e = .returned (.tuple #[.int .i64 75, .bool true, .int .i64 0]) ∧ Below w.heap.size w w' := fun w => At_any mA 13 w mA_wf
  have A2 : ∀ w, Calls Try.prog 10 #[.agg #[.int .i64 (0), .int .i64 (0), .int .i64 (100), .int .i64 (10), .int .i64 (4), .int .u8 (0), .int .i64 (2), .bool (false)], .int .i64 18] w fun e w' => e = .returned (.tuple #[.int .i64 100, .bool false, .int .i64 0]) ∧ Below w.heap.size w w' := fun w => At_any mA 18 w mA_wf
  have A3 : ∀ w, Calls Try.prog 10 #[.agg #[.int .i64 (0), .int .i64 (0), .int .i64 (100), .int .i64 (10), .int .i64 (4), .int .u8 (0), .int .i64 (2), .bool (true)], .int .i64 15] w fun e w' => e = .returned (.tuple #[.int .i64 75, .bool true, .int .i64 0]) ∧ Below w.heap.size w w' := fun w => At_any mB 15 w mB_wf
  have A4 : ∀ w, Calls Try.prog 12 #[.int .i64 16384, .int .u8 3] w fun e w' => e = .returned (.tuple #[.int .i64 8192, .int .i64 0]) ∧ Below w.heap.size w w' := fun w => ease_ok 16384 3 w (by unfold Part; decide) (by decide) (by decide)
  have A5 : ∀ w, Calls Try.prog 16 #[.int .i64 (-1)] w fun e w' => e = .returned (.int .i32 92) ∧ w = w' := fun w => wind_any (-1) w (by unfold I64; decide)
  have A6 : ∀ w, Calls Try.prog 14 #[.agg #[.int .i64 (0), .int .i64 (0), .int .i64 (0), .int .i64 (0), .int .i64 (0), .int .u8 (0), .int .i64 (0), .bool (false)]] w fun e w' => e = .returned (.int .i64 230) ∧ Below w.heap.size w w' := fun w => check_any mZ w mZ_wf
  have A7 : ∀ v w, Lst w v [mB] → Calls Try.prog 19 #[v, .int .i64 0] w fun e w' => e = .returned (.tuple #[.int .i64 11, .bool true, .int .i64 0]) ∧ Below w.heap.size w w' := fun v w hl => (next_any [mB] v 0 w hl (by intro m hm; simp at hm; subst hm; exact mB_wf) (by unfold I64; decide)).mono (by
    rintro e w' ⟨hb, h⟩
    have h0 : cntE [mB] 0 = 0 := by decide
    rcases h with ⟨h, _⟩ | ⟨_, r, hr, rfl⟩
    · exact absurd h0 h
    · obtain rfl := next_one 0 r hr rfl
      exact ⟨rfl, hb⟩)
  replace A1 := Lib.hid A1
  replace A2 := Lib.hid A2
  replace A3 := Lib.hid A3
  replace A4 := Lib.hid A4
  replace A5 := Lib.hid A5
  replace A6 := Lib.hid A6
  replace A7 := Lib.hid A7
  go_enter Try.func9, Try.ntmps9
  go_wp2_with (first
    | ((go_at_call 10; (with_reducible refine (A1.out _).mono ?_); rintro e w1 ⟨rfl, hb1⟩; obtain ⟨hc1, hf1⟩ := bcell hb1; have hz1 := hb1.size; (try simp at hz1); (try have lt1 : w.heap.size < w1.heap.size := (by omega))); have q1 : Below w.heap.size w w1 := (by repeat (first | exact Below.refl _ _ | assumption | refine Below.drew ?_ | refine Below.alloc ?_ (by (try simp) <;> omega) _ | refine Below.setCell ?_ (by (try simp) <;> omega) _ | (refine Below.trans ?_ (Below.mono (by assumption) (by (try simp) <;> omega))))))
    | ((go_at_call 10; (with_reducible refine (A2.out _).mono ?_); rintro e w2 ⟨rfl, hb2⟩; obtain ⟨hc2, hf2⟩ := bcell hb2; have hz2 := hb2.size; (try simp at hz2); (try have lt2 : w.heap.size < w2.heap.size := (by omega))); have q2 : Below w.heap.size w w2 := q1.trans (hb2.mono (by omega)))
    | ((go_at_call 10; (with_reducible refine (A3.out _).mono ?_); rintro e w3 ⟨rfl, hb3⟩; obtain ⟨hc3, hf3⟩ := bcell hb3; have hz3 := hb3.size; (try simp at hz3); (try have lt3 : w.heap.size < w3.heap.size := (by omega))); have q3 : Below w.heap.size w w3 := (q2.setCell (Nat.le_refl _) _).trans (hb3.mono (by (try simp) <;> omega)))
    | ((go_at_call 12; (with_reducible refine (A4.out _).mono ?_); rintro e w4 ⟨rfl, hb4⟩; obtain ⟨hc4, hf4⟩ := bcell hb4; have hz4 := hb4.size; (try simp at hz4); (try have lt4 : w.heap.size < w4.heap.size := (by omega))); have q4 : Below w.heap.size w w4 := q3.trans (hb4.mono (by omega)))
    | (go_at_call 19; (with_reducible refine (A7.out _ _ (Lst_mB w4 _)).mono ?_); rintro e w5 ⟨rfl, hb5⟩; obtain ⟨hc5, hf5⟩ := bcell hb5; have hz5 := hb5.size; (try simp at hz5); have q5 : Below w.heap.size w w5 := (q4.alloc (by omega) _).trans (hb5.mono (by (try simp) <;> omega)))
    | (go_at_call 16; (with_reducible refine (A5.out _).mono ?_); rintro e w6 ⟨rfl, rfl⟩)
    | ((go_at_call 14; (with_reducible refine (A6.out _).mono ?_); rintro e w7 ⟨rfl, hb7⟩; obtain ⟨hc7, hf7⟩ := bcell hb7; have hz7 := hb7.size; (try simp at hz7); (try have lt7 : w.heap.size < w7.heap.size := (by omega))); have q7 : Below w.heap.size w w7 := q5.trans (hb7.mono (by omega)))
    | go_in)
  go_ret
  exact ⟨rfl, q7⟩
end Go.Proofs.Ytblneabjdbllbaa
