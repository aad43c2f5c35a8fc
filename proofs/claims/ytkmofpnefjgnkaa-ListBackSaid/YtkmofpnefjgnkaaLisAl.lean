/-
  'alive' of the laws: a closed sentence.
-/
import Derived.Test.YtkmofpnefjgnkaaLisNo
namespace Go.Proofs.Ytkmofpnefjgnkaa
open Go.RowKit
set_option linter.unusedVariables false
attribute [local go_sem] vwp vUpon_value vUpon_skip vUpon_enter vUpon_row
set_option linter.unusedSimpArgs false
set_option linter.unusedVariables false
theorem mkr_any (x y a b : Int) (w : World) : Calls Try.prog 29 #[.int .i64 x, .int .i64 y, .int .i64 a, .int .i64 b] w fun e w' => e = .returned (.agg #[.int .i64 x, .int .i64 y, .int .i64 a, .int .i64 b]) ∧ Below w.heap.size w w' := by
  go_enter Try.func29, Try.ntmps29
  go_wp2
  refine bodyPost_ret (v := .agg #[.int .i64 x, .int .i64 y, .int .i64 a, .int .i64 b]) (by simp [results, Try.results29, go_sem]) rfl ⟨rfl, (by repeat (first | exact Below.refl _ _ | assumption | refine Below.drew ?_ | refine Below.alloc ?_ (by (try simp) <;> omega) _ | refine Below.setCell ?_ (by (try simp) <;> omega) _ | (refine Below.trans ?_ (Below.mono (by assumption) (by (try simp) <;> omega)))))⟩
theorem red_any (w : World) : Calls Try.prog 33 #[] w fun e w' => e = .returned (.agg #[.int .u8 (255), .int .u8 (0), .int .u8 (0), .int .u8 (255)]) ∧ Below w.heap.size w w' := by
  go_enter Try.func33, Try.ntmps33
  go_wp2
  refine bodyPost_ret (v := .agg #[.int .u8 (255), .int .u8 (0), .int .u8 (0), .int .u8 (255)]) (by simp [results, Try.results33, go_sem]) rfl ⟨rfl, (by repeat (first | exact Below.refl _ _ | assumption | refine Below.drew ?_ | refine Below.alloc ?_ (by (try simp) <;> omega) _ | refine Below.setCell ?_ (by (try simp) <;> omega) _ | (refine Below.trans ?_ (Below.mono (by assumption) (by (try simp) <;> omega)))))⟩
set_option maxHeartbeats 1000000 in
set_option maxRecDepth 100000 in
theorem fill_any (x y a b : Int) (w : World) : Calls Try.prog 28 #[.agg #[.int .i64 x, .int .i64 y, .int .i64 a, .int .i64 b]] w fun e w' => e = .returned (.agg #[.int .u8 1, .int .i64 (x), .int .i64 (y), .int .i64 (a), .int .i64 (b), .int .u8 255, .int .u8 0, .int .u8 0, .int .u8 255, .int .u8 0, .int .u8 0, .int .u8 0, .int .u8 0, .string ⟨#[]⟩, .int .i64 0]) ∧ Below w.heap.size w w' := by
  go_enter Try.func28, Try.ntmps28
  go_upto_region 1 with fail
  have hB : Blk ((w.alloc (.cells #[.int .i64 x, .int .i64 y, .int .i64 a, .int .i64 b] 41)).alloc (.cells #[.int .u8 0, .int .i64 0, .int .i64 0, .int .i64 0, .int .i64 0, .int .u8 0, .int .u8 0, .int .u8 0, .int .u8 0, .int .u8 0, .int .u8 0, .int .u8 0, .int .u8 0, .string ⟨#[]⟩, .int .i64 0] 45)) (w.heap.size + 1) [.int .u8 0, .int .i64 0, .int .i64 0, .int .i64 0, .int .i64 0, .int .u8 0, .int .u8 0, .int .u8 0, .int .u8 0, .int .u8 0, .int .u8 0, .int .u8 0, .int .u8 0, .string ⟨#[]⟩, .int .i64 0] 45 := Blk.new' (by simp)
  have hQ : Blk ((w.alloc (.cells #[.int .i64 x, .int .i64 y, .int .i64 a, .int .i64 b] 41)).alloc (.cells #[.int .u8 0, .int .i64 0, .int .i64 0, .int .i64 0, .int .i64 0, .int .u8 0, .int .u8 0, .int .u8 0, .int .u8 0, .int .u8 0, .int .u8 0, .int .u8 0, .int .u8 0, .string ⟨#[]⟩, .int .i64 0] 45)) w.heap.size [.int .i64 x, .int .i64 y, .int .i64 a, .int .i64 b] 41 := (Blk.new' rfl).alloc _
  have hb0 : Below w.heap.size w ((w.alloc (.cells #[.int .i64 x, .int .i64 y, .int .i64 a, .int .i64 b] 41)).alloc (.cells #[.int .u8 0, .int .i64 0, .int .i64 0, .int .i64 0, .int .i64 0, .int .u8 0, .int .u8 0, .int .u8 0, .int .u8 0, .int .u8 0, .int .u8 0, .int .u8 0, .int .u8 0, .string ⟨#[]⟩, .int .i64 0] 45)) := (by repeat (first | exact Below.refl _ _ | assumption | refine Below.drew ?_ | refine Below.alloc ?_ (by (try simp) <;> omega) _ | refine Below.setCell ?_ (by (try simp) <;> omega) _ | (refine Below.trans ?_ (Below.mono (by assumption) (by (try simp) <;> omega)))))
  generalize (w.alloc (.cells #[.int .i64 x, .int .i64 y, .int .i64 a, .int .i64 b] 41)).alloc (.cells #[.int .u8 0, .int .i64 0, .int .i64 0, .int .i64 0, .int .i64 0, .int .u8 0, .int .u8 0, .int .u8 0, .int .u8 0, .int .u8 0, .int .u8 0, .int .u8 0, .int .u8 0, .string ⟨#[]⟩, .int .i64 0] 45) = w2 at hB hQ hb0 ⊢
  have q0 := hQ.cell (o := 0) rfl
  have q1 := hQ.cell (o := 1) rfl
  have q2 := hQ.cell (o := 2) rfl
  have q3 := hQ.cell (o := 3) rfl
  have yQ := hQ.lt
  have yB := hB.lt
  replace hB := Lib.hid hB
  clear hQ
  refine wp_region_steady_then (Held w2 0 []) 3 (by kernel_rfl) (by kernel_rfl) (by decide) (by kernel_rfl) (by kernel_rfl) ⟨(by repeat (first | exact Below.refl _ _ | assumption | refine Below.drew ?_ | refine Below.alloc ?_ (by (try simp) <;> omega) _ | refine Below.setCell ?_ (by (try simp) <;> omega) _ | (refine Below.trans ?_ (Below.mono (by assumption) (by (try simp) <;> omega))))), (by (try simp) <;> omega), (by first | exact trivial | (simp only [Cells]; go_simp))⟩ ?_
  simp only [List.take_succ_cons, List.take_zero]
  repeat (first | (refine' wpSteady_do _ _ _; rotate_left; (focus rfl); (focus (intro w1 hS R hR; have hc := hS.cells; simp only [Cells] at hc; obtain ⟨hco, hfo⟩ := bcell hS.old; go_simp; (try go_bits); first | exact hR _ hS | (go_at_call 33; (with_reducible refine (red_any _).mono ?_); rintro e w2 ⟨rfl, hb2⟩; exact ⟨_, rfl, hR _ (hS.below hb2)⟩))); simp only [Act.put, List.setIfInBounds_toArray, List.set_cons_zero, List.set_cons_succ]) | (refine wpSteady_pass ?_ ?_; (focus rfl); simp only [Act.put, List.setIfInBounds_toArray, List.set_cons_zero, List.set_cons_succ]))
  refine wpSteady_nil (fun uA hSA => ?_)
  have hcA := hSA.cells; have hbA := hSA.old; have hzA := hSA.size; clear hSA; simp only [Cells] at hcA; obtain ⟨hcoA, hfoA⟩ := bcell hbA
  simp only [List.drop_succ_cons, List.drop_zero, List.drop_nil]
  have hBA := hB.out.below hbA yB
  have hf := hBA.free
  have c0 := hBA.cell (o := 0) rfl
  have c1 := hBA.cell (o := 1) rfl
  have c2 := hBA.cell (o := 2) rfl
  have c3 := hBA.cell (o := 3) rfl
  have c4 := hBA.cell (o := 4) rfl
  have c5 := hBA.cell (o := 5) rfl
  have c6 := hBA.cell (o := 6) rfl
  have c7 := hBA.cell (o := 7) rfl
  have c8 := hBA.cell (o := 8) rfl
  have c9 := hBA.cell (o := 9) rfl
  have c10 := hBA.cell (o := 10) rfl
  have c11 := hBA.cell (o := 11) rfl
  have c12 := hBA.cell (o := 12) rfl
  have c13 := hBA.cell (o := 13) rfl
  have c14 := hBA.cell (o := 14) rfl
  have hb0A := hb0.trans (hbA.mono hb0.size)
  clear hcA hcoA hfoA
  replace hBA := Lib.hid hBA
  go_wp2
  have hBW : Blk (((((((((((((((uA.setCell ⟨w.heap.size + 1, 0, none⟩ (.int .u8 1)).setCell ⟨w.heap.size + 1, 1, none⟩ (.int .i64 x)).setCell ⟨w.heap.size + 1, 2, none⟩ (.int .i64 y)).setCell ⟨w.heap.size + 1, 3, none⟩ (.int .i64 a)).setCell ⟨w.heap.size + 1, 4, none⟩ (.int .i64 b)).setCell ⟨w.heap.size + 1, 5, none⟩ (.int .u8 255)).setCell ⟨w.heap.size + 1, 6, none⟩ (.int .u8 0)).setCell ⟨w.heap.size + 1, 7, none⟩ (.int .u8 0)).setCell ⟨w.heap.size + 1, 8, none⟩ (.int .u8 255)).setCell ⟨w.heap.size + 1, 9, none⟩ (.int .u8 0)).setCell ⟨w.heap.size + 1, 10, none⟩ (.int .u8 0)).setCell ⟨w.heap.size + 1, 11, none⟩ (.int .u8 0)).setCell ⟨w.heap.size + 1, 12, none⟩ (.int .u8 0)).setCell ⟨w.heap.size + 1, 13, none⟩ (.string ⟨#[]⟩)).setCell ⟨w.heap.size + 1, 14, none⟩ (.int .i64 0)) (w.heap.size + 1) [.int .u8 1, .int .i64 x, .int .i64 y, .int .i64 a, .int .i64 b, .int .u8 255, .int .u8 0, .int .u8 0, .int .u8 255, .int .u8 0, .int .u8 0, .int .u8 0, .int .u8 0, .string ⟨#[]⟩, .int .i64 0] 45 := (((((((((((((((hBA.out.set 0 (.int .u8 1)).set 1 (.int .i64 x)).set 2 (.int .i64 y)).set 3 (.int .i64 a)).set 4 (.int .i64 b)).set 5 (.int .u8 255)).set 6 (.int .u8 0)).set 7 (.int .u8 0)).set 8 (.int .u8 255)).set 9 (.int .u8 0)).set 10 (.int .u8 0)).set 11 (.int .u8 0)).set 12 (.int .u8 0)).set 13 (.string ⟨#[]⟩)).set 14 (.int .i64 0))
  have hbW : Below w.heap.size w (((((((((((((((uA.setCell ⟨w.heap.size + 1, 0, none⟩ (.int .u8 1)).setCell ⟨w.heap.size + 1, 1, none⟩ (.int .i64 x)).setCell ⟨w.heap.size + 1, 2, none⟩ (.int .i64 y)).setCell ⟨w.heap.size + 1, 3, none⟩ (.int .i64 a)).setCell ⟨w.heap.size + 1, 4, none⟩ (.int .i64 b)).setCell ⟨w.heap.size + 1, 5, none⟩ (.int .u8 255)).setCell ⟨w.heap.size + 1, 6, none⟩ (.int .u8 0)).setCell ⟨w.heap.size + 1, 7, none⟩ (.int .u8 0)).setCell ⟨w.heap.size + 1, 8, none⟩ (.int .u8 255)).setCell ⟨w.heap.size + 1, 9, none⟩ (.int .u8 0)).setCell ⟨w.heap.size + 1, 10, none⟩ (.int .u8 0)).setCell ⟨w.heap.size + 1, 11, none⟩ (.int .u8 0)).setCell ⟨w.heap.size + 1, 12, none⟩ (.int .u8 0)).setCell ⟨w.heap.size + 1, 13, none⟩ (.string ⟨#[]⟩)).setCell ⟨w.heap.size + 1, 14, none⟩ (.int .i64 0)) := (((((((((((((((hb0A.setCell (by show w.heap.size ≤ w.heap.size + 1; omega) (.int .u8 1)).setCell (by show w.heap.size ≤ w.heap.size + 1; omega) (.int .i64 x)).setCell (by show w.heap.size ≤ w.heap.size + 1; omega) (.int .i64 y)).setCell (by show w.heap.size ≤ w.heap.size + 1; omega) (.int .i64 a)).setCell (by show w.heap.size ≤ w.heap.size + 1; omega) (.int .i64 b)).setCell (by show w.heap.size ≤ w.heap.size + 1; omega) (.int .u8 255)).setCell (by show w.heap.size ≤ w.heap.size + 1; omega) (.int .u8 0)).setCell (by show w.heap.size ≤ w.heap.size + 1; omega) (.int .u8 0)).setCell (by show w.heap.size ≤ w.heap.size + 1; omega) (.int .u8 255)).setCell (by show w.heap.size ≤ w.heap.size + 1; omega) (.int .u8 0)).setCell (by show w.heap.size ≤ w.heap.size + 1; omega) (.int .u8 0)).setCell (by show w.heap.size ≤ w.heap.size + 1; omega) (.int .u8 0)).setCell (by show w.heap.size ≤ w.heap.size + 1; omega) (.int .u8 0)).setCell (by show w.heap.size ≤ w.heap.size + 1; omega) (.string ⟨#[]⟩)).setCell (by show w.heap.size ≤ w.heap.size + 1; omega) (.int .i64 0))
  clear c0 c1 c2 c3 c4 c5 c6 c7 c8 c9 c10 c11 c12 c13 c14 hf
  generalize ((((((((((((((uA.setCell ⟨w.heap.size + 1, 0, none⟩ (.int .u8 1)).setCell ⟨w.heap.size + 1, 1, none⟩ (.int .i64 x)).setCell ⟨w.heap.size + 1, 2, none⟩ (.int .i64 y)).setCell ⟨w.heap.size + 1, 3, none⟩ (.int .i64 a)).setCell ⟨w.heap.size + 1, 4, none⟩ (.int .i64 b)).setCell ⟨w.heap.size + 1, 5, none⟩ (.int .u8 255)).setCell ⟨w.heap.size + 1, 6, none⟩ (.int .u8 0)).setCell ⟨w.heap.size + 1, 7, none⟩ (.int .u8 0)).setCell ⟨w.heap.size + 1, 8, none⟩ (.int .u8 255)).setCell ⟨w.heap.size + 1, 9, none⟩ (.int .u8 0)).setCell ⟨w.heap.size + 1, 10, none⟩ (.int .u8 0)).setCell ⟨w.heap.size + 1, 11, none⟩ (.int .u8 0)).setCell ⟨w.heap.size + 1, 12, none⟩ (.int .u8 0)).setCell ⟨w.heap.size + 1, 13, none⟩ (.string ⟨#[]⟩)).setCell ⟨w.heap.size + 1, 14, none⟩ (.int .i64 0) = wz at hBW hbW ⊢
  have c0 := hBW.cell (o := 0) rfl
  have c1 := hBW.cell (o := 1) rfl
  have c2 := hBW.cell (o := 2) rfl
  have c3 := hBW.cell (o := 3) rfl
  have c4 := hBW.cell (o := 4) rfl
  have c5 := hBW.cell (o := 5) rfl
  have c6 := hBW.cell (o := 6) rfl
  have c7 := hBW.cell (o := 7) rfl
  have c8 := hBW.cell (o := 8) rfl
  have c9 := hBW.cell (o := 9) rfl
  have c10 := hBW.cell (o := 10) rfl
  have c11 := hBW.cell (o := 11) rfl
  have c12 := hBW.cell (o := 12) rfl
  have c13 := hBW.cell (o := 13) rfl
  have c14 := hBW.cell (o := 14) rfl
  refine bodyPost_ret (v := .agg #[.int .u8 1, .int .i64 (x), .int .i64 (y), .int .i64 (a), .int .i64 (b), .int .u8 255, .int .u8 0, .int .u8 0, .int .u8 255, .int .u8 0, .int .u8 0, .int .u8 0, .int .u8 0, .string ⟨#[]⟩, .int .i64 0]) (by simp [results, Try.results28, go_sem, c0, c1, c2, c3, c4, c5, c6, c7, c8, c9, c10, c11, c12, c13, c14]) rfl ⟨rfl, hbW⟩
theorem clip_any (x y a b : Int) (w : World) : Calls Try.prog 30 #[.agg #[.int .i64 x, .int .i64 y, .int .i64 a, .int .i64 b]] w fun e w' => e = .returned (.agg #[.int .u8 4, .int .i64 (x), .int .i64 (y), .int .i64 (a), .int .i64 (b), .int .u8 0, .int .u8 0, .int .u8 0, .int .u8 0, .int .u8 0, .int .u8 0, .int .u8 0, .int .u8 0, .string ⟨#[]⟩, .int .i64 0]) ∧ Below w.heap.size w w' := by
  go_enter Try.func30, Try.ntmps30
  go_wp2
  refine bodyPost_ret (v := .agg #[.int .u8 4, .int .i64 (x), .int .i64 (y), .int .i64 (a), .int .i64 (b), .int .u8 0, .int .u8 0, .int .u8 0, .int .u8 0, .int .u8 0, .int .u8 0, .int .u8 0, .int .u8 0, .string ⟨#[]⟩, .int .i64 0]) (by simp [results, Try.results30, go_sem]) rfl ⟨rfl, (by repeat (first | exact Below.refl _ _ | assumption | refine Below.drew ?_ | refine Below.alloc ?_ (by (try simp) <;> omega) _ | refine Below.setCell ?_ (by (try simp) <;> omega) _ | (refine Below.trans ?_ (Below.mono (by assumption) (by (try simp) <;> omega)))))⟩
theorem mkopen_any (w : World) : Calls Try.prog 32 #[] w fun e w' => e = .returned (.agg #[.int .u8 5, .int .i64 (0), .int .i64 (0), .int .i64 (0), .int .i64 (0), .int .u8 0, .int .u8 0, .int .u8 0, .int .u8 0, .int .u8 0, .int .u8 0, .int .u8 0, .int .u8 0, .string ⟨#[]⟩, .int .i64 0]) ∧ Below w.heap.size w w' := by
  go_enter Try.func32, Try.ntmps32
  go_wp2
  refine bodyPost_ret (v := .agg #[.int .u8 5, .int .i64 (0), .int .i64 (0), .int .i64 (0), .int .i64 (0), .int .u8 0, .int .u8 0, .int .u8 0, .int .u8 0, .int .u8 0, .int .u8 0, .int .u8 0, .int .u8 0, .string ⟨#[]⟩, .int .i64 0]) (by simp [results, Try.results32, go_sem]) rfl ⟨rfl, (by repeat (first | exact Below.refl _ _ | assumption | refine Below.drew ?_ | refine Below.alloc ?_ (by (try simp) <;> omega) _ | refine Below.setCell ?_ (by (try simp) <;> omega) _ | (refine Below.trans ?_ (Below.mono (by assumption) (by (try simp) <;> omega)))))⟩
theorem of_any (a : Option Addr) (n c : Nat) (w : World) : Calls Try.prog 31 #[.slice a n c] w fun e w' => e = .returned (.slice a n c) ∧ w = w' := by
  go_enter Try.func31, Try.ntmps31
  go_wp2
  go_ret
  exact ⟨rfl, rfl⟩
def sF (x y a b : Int) : St := ⟨1, ⟨x, y, a, b⟩, ⟨255, 0, 0, 255⟩, ⟨0, 0, 0, 0⟩, ⟨#[]⟩, 0⟩
def sC (x y a b : Int) : St := ⟨4, ⟨x, y, a, b⟩, ⟨0, 0, 0, 0⟩, ⟨0, 0, 0, 0⟩, ⟨#[]⟩, 0⟩
def sO : St := ⟨5, ⟨0, 0, 0, 0⟩, ⟨0, 0, 0, 0⟩, ⟨0, 0, 0, 0⟩, ⟨#[]⟩, 0⟩
set_option maxHeartbeats 2000000 in
set_option maxRecDepth 100000 in
theorem al_one : chkL [sC 0 0 2 2, sF 0 0 4 4, sO] = 0 ∧ flS [sC 0 0 2 2, sF 0 0 4 4, sO] = [sF 0 0 4 4] ∧ flR [sC 0 0 2 2, sF 0 0 4 4, sO] = [⟨0, 0, 2, 2⟩] := ⟨by kernel_rfl, by kernel_rfl, by kernel_rfl⟩
set_option maxHeartbeats 2000000 in
set_option maxRecDepth 100000 in
theorem al_two : chkL [sF 1 1 1 1, sF 0 0 4 4] = 0 ∧ normS [sF 1 1 1 1, sF 0 0 4 4] = [sF 0 0 4 4] := ⟨by kernel_rfl, by kernel_rfl⟩
theorem small_i64 {x : Int} (h : -1000 ≤ x ∧ x ≤ 1000) : I64 x := by unfold I64; omega
theorem empty_max : (⟨#[]⟩ : ByteArray).size ≤ maxLen := by unfold maxLen; exact Nat.zero_le _
theorem sF_wf {x y a b : Int} (h1 : -1000 ≤ x ∧ x ≤ 1000) (h2 : -1000 ≤ y ∧ y ≤ 1000) (h3 : -1000 ≤ a ∧ a ≤ 1000) (h4 : -1000 ≤ b ∧ b ≤ 1000) : (sF x y a b).Wf :=
  ⟨(by unfold U8; omega : U8 1), ⟨small_i64 h1, small_i64 h2, small_i64 h3, small_i64 h4⟩, ⟨(by unfold U8; omega : U8 255), (by unfold U8; omega : U8 0), (by unfold U8; omega : U8 0), (by unfold U8; omega : U8 255)⟩, ⟨(by unfold U8; omega : U8 0), (by unfold U8; omega : U8 0), (by unfold U8; omega : U8 0), (by unfold U8; omega : U8 0)⟩, empty_max, small_i64 (by show (-1000 : Int) ≤ 0 ∧ (0 : Int) ≤ 1000; omega)⟩
theorem sC_wf {x y a b : Int} (h1 : -1000 ≤ x ∧ x ≤ 1000) (h2 : -1000 ≤ y ∧ y ≤ 1000) (h3 : -1000 ≤ a ∧ a ≤ 1000) (h4 : -1000 ≤ b ∧ b ≤ 1000) : (sC x y a b).Wf :=
  ⟨(by unfold U8; omega : U8 4), ⟨small_i64 h1, small_i64 h2, small_i64 h3, small_i64 h4⟩, ⟨(by unfold U8; omega : U8 0), (by unfold U8; omega : U8 0), (by unfold U8; omega : U8 0), (by unfold U8; omega : U8 0)⟩, ⟨(by unfold U8; omega : U8 0), (by unfold U8; omega : U8 0), (by unfold U8; omega : U8 0), (by unfold U8; omega : U8 0)⟩, empty_max, small_i64 (by show (-1000 : Int) ≤ 0 ∧ (0 : Int) ≤ 1000; omega)⟩
theorem sO_wf : sO.Wf :=
  ⟨(by unfold U8; omega : U8 5), ⟨(by unfold I64; omega : I64 0), (by unfold I64; omega : I64 0), (by unfold I64; omega : I64 0), (by unfold I64; omega : I64 0)⟩, ⟨(by unfold U8; omega : U8 0), (by unfold U8; omega : U8 0), (by unfold U8; omega : U8 0), (by unfold U8; omega : U8 0)⟩, ⟨(by unfold U8; omega : U8 0), (by unfold U8; omega : U8 0), (by unfold U8; omega : U8 0), (by unfold U8; omega : U8 0)⟩, empty_max, (by unfold I64; omega : I64 0)⟩
end Go.Proofs.Ytkmofpnefjgnkaa
