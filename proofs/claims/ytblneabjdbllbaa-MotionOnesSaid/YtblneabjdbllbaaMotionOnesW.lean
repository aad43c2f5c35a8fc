/-
  The law MotionOnes walked.
-/
import Derived.Test.YtblneabjdbllbaaMotO
namespace Go.Proofs.Ytblneabjdbllbaa
open Go.RowKit
set_option linter.unusedVariables false
attribute [local go_sem] vwp vUpon_value vUpon_skip vUpon_enter vUpon_row
def easE (p e : Int) : Int := if 0 ≤ p ∧ p ≤ 65536 ∧ e ≤ 3 then 0 else 2
def easV (p e : Int) : Int := if 0 ≤ p ∧ p ≤ 65536 ∧ e ≤ 3 then bentN p e else 0
theorem ease_any (p e : Int) (w : World) (he : U8 e) : Calls Try.prog 12 #[.int .i64 p, .int .u8 e] w fun f w' => f = .returned (.tuple #[.int .i64 (easV p e), .int .i64 (easE p e)]) ∧ Below w.heap.size w w' := by
  unfold easV easE
  by_cases h : 0 ≤ p ∧ p ≤ 65536 ∧ e ≤ 3
  · rw [if_pos h, if_pos h]; exact ease_ok p e w ⟨h.1, h.2.1⟩ he.1 h.2.2
  · rw [if_neg h, if_neg h]; exact ease_bad p e w (by omega) he
theorem rease_any (p e : Int) (w : World) (he : U8 e) : Calls Try.prog 13 #[.int .i64 p, .int .u8 e] w fun f w' => f = .returned (.tuple #[.int .i64 (easV p e), .int .i64 (easE p e)]) ∧ Below w.heap.size w w' := by
  unfold easV easE
  by_cases h : 0 ≤ p ∧ p ≤ 65536 ∧ e ≤ 3
  · rw [if_pos h, if_pos h]; exact rease_ok p e w ⟨h.1, h.2.1⟩ he.1 h.2.2
  · rw [if_neg h, if_neg h]; exact rease_bad p e w (by omega) he
set_option maxHeartbeats 2000000 in
theorem walk_MotionOnes (m : Mo) (t p e : Int) (w : World) (hw : Wf m) (ht : I64 t) (hp : I64 p) (he : U8 e) :
    Calls Try.prog 3 #[.agg #[.int .i64 ((m).node), .int .i64 ((m).fr), .int .i64 ((m).to), .int .i64 ((m).st), .int .i64 ((m).ln), .int .u8 ((m).es), .int .i64 ((m).ts), .bool ((m).bk)], .int .i64 t, .int .i64 p, .int .u8 e] w fun e w' => e = .returned (.bool true) ∧ Below w.heap.size w w' := by
  have A1 := fun w => At_any m t w hw
  have A2 := fun w => rAt_any m t w hw
  have A3 := fun w => ease_any p e w he
  have A4 := fun w => rease_any p e w he
  have A5 := fun w => check_any m w hw
  have A6 := fun w => rcheck_any m w hw
  have A7 := fun w => wind_any t w ht
  have A8 := fun w => rwind_any t w ht
  generalize resV m t = x1 at *
  generalize resG m t = x2 at *
  generalize resE m t = x3 at *
  generalize easV p e = x4 at *
  generalize easE p e = x5 at *
  generalize chk m = x6 at *
  generalize windN t = x7 at *
  replace A1 := Lib.hid A1
  replace A2 := Lib.hid A2
  replace A3 := Lib.hid A3
  replace A4 := Lib.hid A4
  replace A5 := Lib.hid A5
  replace A6 := Lib.hid A6
  replace A7 := Lib.hid A7
  replace A8 := Lib.hid A8
  clear hw ht hp he
  obtain ⟨nd, fr, to, st, ln, es, ts, bk⟩ := m
  go_enter Try.func3, Try.ntmps3
  go_wp2_with (first
    | (go_at_call 9; (with_reducible refine (alive_any _).mono ?_); rintro e w1 ⟨rfl, hb1⟩; obtain ⟨hc1, hf1⟩ := bcell hb1; have hz1 := hb1.size; (try simp at hz1); (try have lt1 : w.heap.size < w1.heap.size := (by omega)))
    | (go_at_call 10; (with_reducible refine (A1.out _).mono ?_); rintro e w2 ⟨rfl, hb2⟩; obtain ⟨hc2, hf2⟩ := bcell hb2; have hz2 := hb2.size; (try simp at hz2); (try have lt2 : w.heap.size < w2.heap.size := (by omega)))
    | (go_at_call 11; (with_reducible refine (A2.out _).mono ?_); rintro e w3 ⟨rfl, hb3⟩; obtain ⟨hc3, hf3⟩ := bcell hb3; have hz3 := hb3.size; (try simp at hz3); (try have lt3 : w.heap.size < w3.heap.size := (by omega)))
    | (go_at_call 12; (with_reducible refine (A3.out _).mono ?_); rintro e w4 ⟨rfl, hb4⟩; obtain ⟨hc4, hf4⟩ := bcell hb4; have hz4 := hb4.size; (try simp at hz4); (try have lt4 : w.heap.size < w4.heap.size := (by omega)))
    | (go_at_call 13; (with_reducible refine (A4.out _).mono ?_); rintro e w5 ⟨rfl, hb5⟩; obtain ⟨hc5, hf5⟩ := bcell hb5; have hz5 := hb5.size; (try simp at hz5); (try have lt5 : w.heap.size < w5.heap.size := (by omega))))
  refine wp_region_steady (Held w 1 [(⟨w.heap.size, 0, none⟩, .int .i64 (nd)), (⟨w.heap.size, 1, none⟩, .int .i64 (fr)), (⟨w.heap.size, 2, none⟩, .int .i64 (to)), (⟨w.heap.size, 3, none⟩, .int .i64 (st)), (⟨w.heap.size, 4, none⟩, .int .i64 (ln)), (⟨w.heap.size, 5, none⟩, .int .u8 (es)), (⟨w.heap.size, 6, none⟩, .int .i64 (ts)), (⟨w.heap.size, 7, none⟩, .bool (bk))]) (by kernel_rfl) (by kernel_rfl) ⟨(by repeat (first | exact Below.refl _ _ | assumption | refine Below.drew ?_ | refine Below.alloc ?_ (by (try simp) <;> omega) _ | refine Below.setCell ?_ (by (try simp) <;> omega) _ | (refine Below.trans ?_ (Below.mono (by assumption) (by (try simp) <;> omega))))), (by (try simp) <;> omega), (by simp only [Cells]; go_simp)⟩ ?_
  repeat (first | (refine' wpSteady_do _ _ _; rotate_left; (focus rfl); (focus (intro w1 hS R hR; have hc := hS.cells; simp only [Cells] at hc; go_simp; (try go_bits); first | exact hR _ hS | ((go_at_call 14; (with_reducible refine (A5.out _).mono ?_); rintro e w2 ⟨rfl, hb2⟩; exact ⟨_, rfl, hR _ (hS.below hb2)⟩)) | ((go_at_call 15; (with_reducible refine (A6.out _).mono ?_); rintro e w2 ⟨rfl, hb2⟩; exact ⟨_, rfl, hR _ (hS.below hb2)⟩)) | ((go_at_call 16; (with_reducible refine (A7.out _).mono ?_); rintro e w2 ⟨rfl, rfl⟩; exact ⟨_, rfl, hR _ hS⟩)) | ((go_at_call 17; (with_reducible refine (A8.out _).mono ?_); rintro e w2 ⟨rfl, rfl⟩; exact ⟨_, rfl, hR _ hS⟩)))); simp only [Act.put, List.setIfInBounds_toArray, List.set_cons_zero, List.set_cons_succ]) | (refine wpSteady_pass ?_ ?_; (focus rfl); simp only [Act.put, List.setIfInBounds_toArray, List.set_cons_zero, List.set_cons_succ]))
  refine wpSteady_nil (fun uR hSR => ?_)
  have hcR := hSR.cells; have hbR := hSR.old; have hzR := hSR.size; clear hSR; simp only [Cells] at hcR
  go_wp2
  go_ret
  exact ⟨rfl, hbR⟩
end Go.Proofs.Ytblneabjdbllbaa
