/-
  XHa: XTmpAl XTmpAv XTmpAk.
-/
import Derived.Test.YtkmofpnefjgnkaaGj
import Derived.Test.YtkmofpnefjgnkaaGp
namespace Go.Proofs.Ytkmofpnefjgnkaa
open Go.RowKit
set_option linter.unusedVariables false
attribute [local go_sem] vwp vUpon_value vUpon_skip vUpon_enter vUpon_row
set_option linter.unusedSimpArgs false
set_option linter.unusedVariables false
section
set_option linter.unusedSimpArgs false
set_option linter.unusedVariables false
theorem mkr_any (x y a b : Int) (w : World) : Calls Try.prog 29 #[.int .i64 x, .int .i64 y, .int .i64 a, .int .i64 b] w fun e w' => e = .returned (.agg #[.int .i64 x, .int .i64 y, .int .i64 a, .int .i64 b]) ∧ Below w.heap.size w w' := by
  go_enter Try.func29, Try.ntmps29
  go_wp2
  refine bodyPost_ret (v := .agg #[.int .i64 x, .int .i64 y, .int .i64 a, .int .i64 b]) (by simp [results, Try.results29, go_sem]) rfl ⟨rfl, (by repeat (first | exact Below.refl _ _ | assumption | refine Below.drew ?_ | refine Below.alloc ?_ (by (try simp) <;> omega) _ | refine Below.setCell ?_ (by (try simp) <;> omega) _ | (refine Below.trans ?_ (Below.mono (by assumption) (by (try simp) <;> omega)))))⟩
theorem red_any (w : World) : Calls Try.prog 33 #[] w fun e w' => e = .returned (.agg #[.int .u8 (255), .int .u8 (0), .int .u8 (0), .int .u8 (255)]) ∧ Below w.heap.size w w' := by
  go_enter Try.func33, Try.ntmps33
  go_wp2
  refine bodyPost_ret (v := .agg #[.int .u8 (255), .int .u8 (0), .int .u8 (0), .int .u8 (255)]) (by simp [results, Try.results33, go_sem]) rfl ⟨rfl, (by repeat (first | exact Below.refl _ _ | assumption | refine Below.drew ?_ | refine Below.alloc ?_ (by (try simp) <;> omega) _ | refine Below.setCell ?_ (by (try simp) <;> omega) _ | (refine Below.trans ?_ (Below.mono (by assumption) (by (try simp) <;> omega)))))⟩
set_option maxHeartbeats 1000000 in
set_option maxRecDepth 100000 in
theorem fill_any (x y a b : Int) (w : World) : Calls Try.prog 28 #[.agg #[.int .i64 x, .int .i64 y, .int .i64 a, .int .i64 b]] w fun e w' => e = .returned (.agg #[.int .u8 1, .int .i64 (x), .int .i64 (y), .int .i64 (a), .int .i64 (b), .int .u8 255, .int .u8 0, .int .u8 0, .int .u8 255, .int .u8 0, .int .u8 0, .int .u8 0, .int .u8 0, .string ⟨#[]⟩, .int .i64 0]) ∧ Below w.heap.size w w' := by
  go_enter Try.func28, Try.ntmps28
  go_upto_region 1 with fail
  have hB : Blk ((w.alloc (.cells #[.int .i64 x, .int .i64 y, .int .i64 a, .int .i64 b] 41)).alloc (.cells #[.int .u8 0, .int .i64 0, .int .i64 0, .int .i64 0, .int .i64 0, .int .u8 0, .int .u8 0, .int .u8 0, .int .u8 0, .int .u8 0, .int .u8 0, .int .u8 0, .int .u8 0, .string ⟨#[]⟩, .int .i64 0] 45)) (w.heap.size + 1) [.int .u8 0, .int .i64 0, .int .i64 0, .int .i64 0, .int .i64 0, .int .u8 0, .int .u8 0, .int .u8 0, .int .u8 0, .int .u8 0, .int .u8 0, .int .u8 0, .int .u8 0, .string ⟨#[]⟩, .int .i64 0] 45 := Blk.new' (by simp)
  have hQ : Blk ((w.alloc (.cells #[.int .i64 x, .int .i64 y, .int .i64 a, .int .i64 b] 41)).alloc (.cells #[.int .u8 0, .int .i64 0, .int .i64 0, .int .i64 0, .int .i64 0, .int .u8 0, .int .u8 0, .int .u8 0, .int .u8 0, .int .u8 0, .int .u8 0, .int .u8 0, .int .u8 0, .string ⟨#[]⟩, .int .i64 0] 45)) w.heap.size [.int .i64 x, .int .i64 y, .int .i64 a, .int .i64 b] 41 := (Blk.new' rfl).alloc _
  have hb0 : Below w.heap.size w ((w.alloc (.cells #[.int .i64 x, .int .i64 y, .int .i64 a, .int .i64 b] 41)).alloc (.cells #[.int .u8 0, .int .i64 0, .int .i64 0, .int .i64 0, .int .i64 0, .int .u8 0, .int .u8 0, .int .u8 0, .int .u8 0, .int .u8 0, .int .u8 0, .int .u8 0, .int .u8 0, .string ⟨#[]⟩, .int .i64 0] 45)) := (by repeat (first | exact Below.refl _ _ | assumption | refine Below.drew ?_ | refine Below.alloc ?_ (by (try simp) <;> omega) _ | refine Below.setCell ?_ (by (try simp) <;> omega) _ | (refine Below.trans ?_ (Below.mono (by assumption) (by (try simp) <;> omega)))))
  generalize (w.alloc (.cells #[.int .i64 x, .int .i64 y, .int .i64 a, .int .i64 b] 41)).alloc (.cells #[.int .u8 0, .int .i64 0, .int .i64 0, .int .i64 0, .int .i64 0, .int .u8 0, .int .u8 0, .int .u8 0, .int .u8 0, .int .u8 0, .int .u8 0, .int .u8 0, .int .u8 0, .string ⟨#[]⟩, .int .i64 0] 45) = w2 at hB hQ hb0 ⊢
  have q0 := hQ.cell (o := 0) rfl
  have q1 := hQ.cell (o := 1) rfl
  have q2 := hQ.cell (o := 2) rfl
  have q3 := hQ.cell (o := 3) rfl
  have yQ := hQ.lt
  have yB := hB.lt
  replace hB := Lib.hid hB
  clear hQ
  refine wp_region_steady_then (Held w2 0 []) 3 (by kernel_rfl) (by kernel_rfl) (by decide) (by kernel_rfl) (by kernel_rfl) ⟨(by repeat (first | exact Below.refl _ _ | assumption | refine Below.drew ?_ | refine Below.alloc ?_ (by (try simp) <;> omega) _ | refine Below.setCell ?_ (by (try simp) <;> omega) _ | (refine Below.trans ?_ (Below.mono (by assumption) (by (try simp) <;> omega))))), (by (try simp) <;> omega), (by first | exact trivial | (simp only [Cells]; go_simp))⟩ ?_
  simp only [List.take_succ_cons, List.take_zero]
  repeat (first | (refine' wpSteady_do _ _ _; rotate_left; (focus rfl); (focus (intro w1 hS R hR; have hc := hS.cells; simp only [Cells] at hc; obtain ⟨hco, hfo⟩ := bcell hS.old; go_simp; (try go_bits); first | exact hR _ hS | (go_at_call 33; (with_reducible refine (red_any _).mono ?_); rintro e w2 ⟨rfl, hb2⟩; exact ⟨_, rfl, hR _ (hS.below hb2)⟩))); simp only [Act.put, List.setIfInBounds_toArray, List.set_cons_zero, List.set_cons_succ]) | (refine wpSteady_pass ?_ ?_; (focus rfl); simp only [Act.put, List.setIfInBounds_toArray, List.set_cons_zero, List.set_cons_succ]))
  refine wpSteady_nil (fun uA hSA => ?_)
  have hcA := hSA.cells; have hbA := hSA.old; have hzA := hSA.size; clear hSA; simp only [Cells] at hcA; obtain ⟨hcoA, hfoA⟩ := bcell hbA
  simp only [List.drop_succ_cons, List.drop_zero, List.drop_nil]
  have hBA := hB.out.below hbA yB
  have hf := hBA.free
  have c0 := hBA.cell (o := 0) rfl
  have c1 := hBA.cell (o := 1) rfl
  have c2 := hBA.cell (o := 2) rfl
  have c3 := hBA.cell (o := 3) rfl
  have c4 := hBA.cell (o := 4) rfl
  have c5 := hBA.cell (o := 5) rfl
  have c6 := hBA.cell (o := 6) rfl
  have c7 := hBA.cell (o := 7) rfl
  have c8 := hBA.cell (o := 8) rfl
  have c9 := hBA.cell (o := 9) rfl
  have c10 := hBA.cell (o := 10) rfl
  have c11 := hBA.cell (o := 11) rfl
  have c12 := hBA.cell (o := 12) rfl
  have c13 := hBA.cell (o := 13) rfl
  have c14 := hBA.cell (o := 14) rfl
  have hb0A := hb0.trans (hbA.mono hb0.size)
  clear hcA hcoA hfoA
  replace hBA := Lib.hid hBA
  go_wp2
  have hBW : Blk (((((((((((((((uA.setCell ⟨w.heap.size + 1, 0, none⟩ (.int .u8 1)).setCell ⟨w.heap.size + 1, 1, none⟩ (.int .i64 x)).setCell ⟨w.heap.size + 1, 2, none⟩ (.int .i64 y)).setCell ⟨w.heap.size + 1, 3, none⟩ (.int .i64 a)).setCell ⟨w.heap.size + 1, 4, none⟩ (.int .i64 b)).setCell ⟨w.heap.size + 1, 5, none⟩ (.int .u8 255)).setCell ⟨w.heap.size + 1, 6, none⟩ (.int .u8 0)).setCell ⟨w.heap.size + 1, 7, none⟩ (.int .u8 0)).setCell ⟨w.heap.size + 1, 8, none⟩ (.int .u8 255)).setCell ⟨w.heap.size + 1, 9, none⟩ (.int .u8 0)).setCell ⟨w.heap.size + 1, 10, none⟩ (.int .u8 0)).setCell ⟨w.heap.size + 1, 11, none⟩ (.int .u8 0)).setCell ⟨w.heap.size + 1, 12, none⟩ (.int .u8 0)).setCell ⟨w.heap.size + 1, 13, none⟩ (.string ⟨#[]⟩)).setCell ⟨w.heap.size + 1, 14, none⟩ (.int .i64 0)) (w.heap.size + 1) [.int .u8 1, .int .i64 x, .int .i64 y, .int .i64 a, .int .i64 b, .int .u8 255, .int .u8 0, .int .u8 0, .int .u8 255, .int .u8 0, .int .u8 0, .int .u8 0, .int .u8 0, .string ⟨#[]⟩, .int .i64 0] 45 := (((((((((((((((hBA.out.set 0 (.int .u8 1)).set 1 (.int .i64 x)).set 2 (.int .i64 y)).set 3 (.int .i64 a)).set 4 (.int .i64 b)).set 5 (.int .u8 255)).set 6 (.int .u8 0)).set 7 (.int .u8 0)).set 8 (.int .u8 255)).set 9 (.int .u8 0)).set 10 (.int .u8 0)).set 11 (.int .u8 0)).set 12 (.int .u8 0)).set 13 (.string ⟨#[]⟩)).set 14 (.int .i64 0))
  have hbW : Below w.heap.size w (((((((((((((((uA.setCell ⟨w.heap.size + 1, 0, none⟩ (.int .u8 1)).setCell ⟨w.heap.size + 1, 1, none⟩ (.int .i64 x)).setCell ⟨w.heap.size + 1, 2, none⟩ (.int .i64 y)).setCell ⟨w.heap.size + 1, 3, none⟩ (.int .i64 a)).setCell ⟨w.heap.size + 1, 4, none⟩ (.int .i64 b)).setCell ⟨w.heap.size + 1, 5, none⟩ (.int .u8 255)).setCell ⟨w.heap.size + 1, 6, none⟩ (.int .u8 0)).setCell ⟨w.heap.size + 1, 7, none⟩ (.int .u8 0)).setCell ⟨w.heap.size + 1, 8, none⟩ (.int .u8 255)).setCell ⟨w.heap.size + 1, 9, none⟩ (.int .u8 0)).setCell ⟨w.heap.size + 1, 10, none⟩ (.int .u8 0)).setCell ⟨w.heap.size + 1, 11, none⟩ (.int .u8 0)).setCell ⟨w.heap.size + 1, 12, none⟩ (.int .u8 0)).setCell ⟨w.heap.size + 1, 13, none⟩ (.string ⟨#[]⟩)).setCell ⟨w.heap.size + 1, 14, none⟩ (.int .i64 0)) := (((((((((((((((hb0A.setCell (by show w.heap.size ≤ w.heap.size + 1; omega) (.int .u8 1)).setCell (by show w.heap.size ≤ w.heap.size + 1; omega) (.int .i64 x)).setCell (by show w.heap.size ≤ w.heap.size + 1; omega) (.int .i64 y)).setCell (by show w.heap.size ≤ w.heap.size + 1; omega) (.int .i64 a)).setCell (by show w.heap.size ≤ w.heap.size + 1; omega) (.int .i64 b)).setCell (by show w.heap.size ≤ w.heap.size + 1; omega) (.int .u8 255)).setCell (by show w.heap.size ≤ w.heap.size + 1; omega) (.int .u8 0)).setCell (by show w.heap.size ≤ w.heap.size + 1; omega) (.int .u8 0)).setCell (by show w.heap.size ≤ w.heap.size + 1; omega) (.int .u8 255)).setCell (by show w.heap.size ≤ w.heap.size + 1; omega) (.int .u8 0)).setCell (by show w.heap.size ≤ w.heap.size + 1; omega) (.int .u8 0)).setCell (by show w.heap.size ≤ w.heap.size + 1; omega) (.int .u8 0)).setCell (by show w.heap.size ≤ w.heap.size + 1; omega) (.int .u8 0)).setCell (by show w.heap.size ≤ w.heap.size + 1; omega) (.string ⟨#[]⟩)).setCell (by show w.heap.size ≤ w.heap.size + 1; omega) (.int .i64 0))
  clear c0 c1 c2 c3 c4 c5 c6 c7 c8 c9 c10 c11 c12 c13 c14 hf
  generalize ((((((((((((((uA.setCell ⟨w.heap.size + 1, 0, none⟩ (.int .u8 1)).setCell ⟨w.heap.size + 1, 1, none⟩ (.int .i64 x)).setCell ⟨w.heap.size + 1, 2, none⟩ (.int .i64 y)).setCell ⟨w.heap.size + 1, 3, none⟩ (.int .i64 a)).setCell ⟨w.heap.size + 1, 4, none⟩ (.int .i64 b)).setCell ⟨w.heap.size + 1, 5, none⟩ (.int .u8 255)).setCell ⟨w.heap.size + 1, 6, none⟩ (.int .u8 0)).setCell ⟨w.heap.size + 1, 7, none⟩ (.int .u8 0)).setCell ⟨w.heap.size + 1, 8, none⟩ (.int .u8 255)).setCell ⟨w.heap.size + 1, 9, none⟩ (.int .u8 0)).setCell ⟨w.heap.size + 1, 10, none⟩ (.int .u8 0)).setCell ⟨w.heap.size + 1, 11, none⟩ (.int .u8 0)).setCell ⟨w.heap.size + 1, 12, none⟩ (.int .u8 0)).setCell ⟨w.heap.size + 1, 13, none⟩ (.string ⟨#[]⟩)).setCell ⟨w.heap.size + 1, 14, none⟩ (.int .i64 0) = wz at hBW hbW ⊢
  have c0 := hBW.cell (o := 0) rfl
  have c1 := hBW.cell (o := 1) rfl
  have c2 := hBW.cell (o := 2) rfl
  have c3 := hBW.cell (o := 3) rfl
  have c4 := hBW.cell (o := 4) rfl
  have c5 := hBW.cell (o := 5) rfl
  have c6 := hBW.cell (o := 6) rfl
  have c7 := hBW.cell (o := 7) rfl
  have c8 := hBW.cell (o := 8) rfl
  have c9 := hBW.cell (o := 9) rfl
  have c10 := hBW.cell (o := 10) rfl
  have c11 := hBW.cell (o := 11) rfl
  have c12 := hBW.cell (o := 12) rfl
  have c13 := hBW.cell (o := 13) rfl
  have c14 := hBW.cell (o := 14) rfl
  refine bodyPost_ret (v := .agg #[.int .u8 1, .int .i64 (x), .int .i64 (y), .int .i64 (a), .int .i64 (b), .int .u8 255, .int .u8 0, .int .u8 0, .int .u8 255, .int .u8 0, .int .u8 0, .int .u8 0, .int .u8 0, .string ⟨#[]⟩, .int .i64 0]) (by simp [results, Try.results28, go_sem, c0, c1, c2, c3, c4, c5, c6, c7, c8, c9, c10, c11, c12, c13, c14]) rfl ⟨rfl, hbW⟩
theorem clip_any (x y a b : Int) (w : World) : Calls Try.prog 30 #[.agg #[.int .i64 x, .int .i64 y, .int .i64 a, .int .i64 b]] w fun e w' => e = .returned (.agg #[.int .u8 4, .int .i64 (x), .int .i64 (y), .int .i64 (a), .int .i64 (b), .int .u8 0, .int .u8 0, .int .u8 0, .int .u8 0, .int .u8 0, .int .u8 0, .int .u8 0, .int .u8 0, .string ⟨#[]⟩, .int .i64 0]) ∧ Below w.heap.size w w' := by
  go_enter Try.func30, Try.ntmps30
  go_wp2
  refine bodyPost_ret (v := .agg #[.int .u8 4, .int .i64 (x), .int .i64 (y), .int .i64 (a), .int .i64 (b), .int .u8 0, .int .u8 0, .int .u8 0, .int .u8 0, .int .u8 0, .int .u8 0, .int .u8 0, .int .u8 0, .string ⟨#[]⟩, .int .i64 0]) (by simp [results, Try.results30, go_sem]) rfl ⟨rfl, (by repeat (first | exact Below.refl _ _ | assumption | refine Below.drew ?_ | refine Below.alloc ?_ (by (try simp) <;> omega) _ | refine Below.setCell ?_ (by (try simp) <;> omega) _ | (refine Below.trans ?_ (Below.mono (by assumption) (by (try simp) <;> omega)))))⟩
theorem mkopen_any (w : World) : Calls Try.prog 32 #[] w fun e w' => e = .returned (.agg #[.int .u8 5, .int .i64 (0), .int .i64 (0), .int .i64 (0), .int .i64 (0), .int .u8 0, .int .u8 0, .int .u8 0, .int .u8 0, .int .u8 0, .int .u8 0, .int .u8 0, .int .u8 0, .string ⟨#[]⟩, .int .i64 0]) ∧ Below w.heap.size w w' := by
  go_enter Try.func32, Try.ntmps32
  go_wp2
  refine bodyPost_ret (v := .agg #[.int .u8 5, .int .i64 (0), .int .i64 (0), .int .i64 (0), .int .i64 (0), .int .u8 0, .int .u8 0, .int .u8 0, .int .u8 0, .int .u8 0, .int .u8 0, .int .u8 0, .int .u8 0, .string ⟨#[]⟩, .int .i64 0]) (by simp [results, Try.results32, go_sem]) rfl ⟨rfl, (by repeat (first | exact Below.refl _ _ | assumption | refine Below.drew ?_ | refine Below.alloc ?_ (by (try simp) <;> omega) _ | refine Below.setCell ?_ (by (try simp) <;> omega) _ | (refine Below.trans ?_ (Below.mono (by assumption) (by (try simp) <;> omega)))))⟩
theorem lof_any (a : Option Addr) (n c : Nat) (w : World) : Calls Try.prog 31 #[.slice a n c] w fun e w' => e = .returned (.slice a n c) ∧ w = w' := by
  go_enter Try.func31, Try.ntmps31
  go_wp2
  go_ret
  exact ⟨rfl, rfl⟩
def sF (x y a b : Int) : St := ⟨1, ⟨x, y, a, b⟩, ⟨255, 0, 0, 255⟩, ⟨0, 0, 0, 0⟩, ⟨#[]⟩, 0⟩
def sC (x y a b : Int) : St := ⟨4, ⟨x, y, a, b⟩, ⟨0, 0, 0, 0⟩, ⟨0, 0, 0, 0⟩, ⟨#[]⟩, 0⟩
def sO : St := ⟨5, ⟨0, 0, 0, 0⟩, ⟨0, 0, 0, 0⟩, ⟨0, 0, 0, 0⟩, ⟨#[]⟩, 0⟩
set_option maxHeartbeats 2000000 in
set_option maxRecDepth 100000 in
theorem al_one : chkL [sC 0 0 2 2, sF 0 0 4 4, sO] = 0 ∧ flS [sC 0 0 2 2, sF 0 0 4 4, sO] = [sF 0 0 4 4] ∧ flR [sC 0 0 2 2, sF 0 0 4 4, sO] = [⟨0, 0, 2, 2⟩] := ⟨by kernel_rfl, by kernel_rfl, by kernel_rfl⟩
set_option maxHeartbeats 2000000 in
set_option maxRecDepth 100000 in
theorem al_two : chkL [sF 1 1 1 1, sF 0 0 4 4] = 0 ∧ normS [sF 1 1 1 1, sF 0 0 4 4] = [sF 0 0 4 4] := ⟨by kernel_rfl, by kernel_rfl⟩
theorem small_i64 {x : Int} (h : -1000 ≤ x ∧ x ≤ 1000) : I64 x := by unfold I64; omega
theorem empty_max : (⟨#[]⟩ : ByteArray).size ≤ maxLen := by unfold maxLen; exact Nat.zero_le _
theorem sF_wf {x y a b : Int} (h1 : -1000 ≤ x ∧ x ≤ 1000) (h2 : -1000 ≤ y ∧ y ≤ 1000) (h3 : -1000 ≤ a ∧ a ≤ 1000) (h4 : -1000 ≤ b ∧ b ≤ 1000) : (sF x y a b).Wf :=
  ⟨(by unfold U8; omega : U8 1), ⟨small_i64 h1, small_i64 h2, small_i64 h3, small_i64 h4⟩, ⟨(by unfold U8; omega : U8 255), (by unfold U8; omega : U8 0), (by unfold U8; omega : U8 0), (by unfold U8; omega : U8 255)⟩, ⟨(by unfold U8; omega : U8 0), (by unfold U8; omega : U8 0), (by unfold U8; omega : U8 0), (by unfold U8; omega : U8 0)⟩, empty_max, small_i64 (by show (-1000 : Int) ≤ 0 ∧ (0 : Int) ≤ 1000; omega)⟩
theorem sC_wf {x y a b : Int} (h1 : -1000 ≤ x ∧ x ≤ 1000) (h2 : -1000 ≤ y ∧ y ≤ 1000) (h3 : -1000 ≤ a ∧ a ≤ 1000) (h4 : -1000 ≤ b ∧ b ≤ 1000) : (sC x y a b).Wf :=
  ⟨(by unfold U8; omega : U8 4), ⟨small_i64 h1, small_i64 h2, small_i64 h3, small_i64 h4⟩, ⟨(by unfold U8; omega : U8 0), (by unfold U8; omega : U8 0), (by unfold U8; omega : U8 0), (by unfold U8; omega : U8 0)⟩, ⟨(by unfold U8; omega : U8 0), (by unfold U8; omega : U8 0), (by unfold U8; omega : U8 0), (by unfold U8; omega : U8 0)⟩, empty_max, small_i64 (by show (-1000 : Int) ≤ 0 ∧ (0 : Int) ≤ 1000; omega)⟩
theorem sO_wf : sO.Wf :=
  ⟨(by unfold U8; omega : U8 5), ⟨(by unfold I64; omega : I64 0), (by unfold I64; omega : I64 0), (by unfold I64; omega : I64 0), (by unfold I64; omega : I64 0)⟩, ⟨(by unfold U8; omega : U8 0), (by unfold U8; omega : U8 0), (by unfold U8; omega : U8 0), (by unfold U8; omega : U8 0)⟩, ⟨(by unfold U8; omega : U8 0), (by unfold U8; omega : U8 0), (by unfold U8; omega : U8 0), (by unfold U8; omega : U8 0)⟩, empty_max, (by unfold I64; omega : I64 0)⟩
end
section
set_option linter.unusedSimpArgs false
set_option linter.unusedVariables false
attribute [local go_sem high] eql_rect neq_rect
theorem al_wf1 : ∀ s ∈ [sC 0 0 2 2, sF 0 0 4 4, sO], s.Wf := by
  intro s hs
  simp only [List.mem_cons, List.not_mem_nil, or_false] at hs
  rcases hs with rfl | rfl | rfl
  · exact sC_wf (by omega) (by omega) (by omega) (by omega)
  · exact sF_wf (by omega) (by omega) (by omega) (by omega)
  · exact sO_wf
theorem al_wf2 : ∀ s ∈ [sF 1 1 1 1, sF 0 0 4 4], s.Wf := by
  intro s hs
  simp only [List.mem_cons, List.not_mem_nil, or_false] at hs
  rcases hs with rfl | rfl
  · exact sF_wf (by omega) (by omega) (by omega) (by omega)
  · exact sF_wf (by omega) (by omega) (by omega) (by omega)
theorem flat_al (v : Value) (w : World) (h : Row w.heap.size 15 St.enc w v [sC 0 0 2 2, sF 0 0 4 4, sO]) : Calls Try.prog 19 #[v] w (OutF w.heap.size [sF 0 0 4 4] [⟨0, 0, 2, 2⟩] 0 w) := by
  have := lflat_any _ v w h al_wf1
  rw [al_one.1, al_one.2.1, al_one.2.2] at this
  exact this
theorem norm_al (v : Value) (w : World) (h : Row w.heap.size 15 St.enc w v [sF 1 1 1 1, sF 0 0 4 4]) : Calls Try.prog 22 #[v] w (OutU w.heap.size [sF 0 0 4 4] 0 w) := by
  have := lnorm_any _ v w h al_wf2
  rw [al_two.1, al_two.2] at this
  exact this
set_option maxHeartbeats 2000000 in
set_option maxRecDepth 100000 in
theorem alive_any (w : World) : Calls Try.prog 16 #[] w fun e w' => e = .returned (.bool true) ∧ Below w.heap.size w w' := by
  have e1 : eq4 0 0 2 2 0 0 2 2 = true := rfl
  have e2 : eq4 0 0 4 4 0 0 4 4 = true := rfl
  go_enter Try.func16, Try.ntmps16
  go_wp2_with fail
  refine (mkr_any _ _ _ _ _).mono ?_
  rintro e w1 ⟨rfl, hb1⟩
  have z1 := hb1.size
  go_wp2_with fail
  refine (clip_any _ _ _ _ _).mono ?_
  rintro e w2 ⟨rfl, hb2⟩
  have z2 := hb2.size
  go_wp2_with fail
  refine (mkr_any _ _ _ _ _).mono ?_
  rintro e w3 ⟨rfl, hb3⟩
  have z3 := hb3.size
  go_wp2_with fail
  refine (fill_any _ _ _ _ _).mono ?_
  rintro e w4 ⟨rfl, hb4⟩
  have z4 := hb4.size
  go_wp2_with fail
  refine (mkopen_any _).mono ?_
  rintro e w5 ⟨rfl, hb5⟩
  have z5 := hb5.size
  have hb05 : Below w.heap.size w w5 := (((hb1.trans (hb2.mono z1)).trans (hb3.mono (by omega))).trans (hb4.mono (by omega))).trans (hb5.mono (by omega))
  clear hb1 hb2 hb3 hb4 hb5
  go_wp2_with fail
  refine (lof_any _ _ _ _).mono ?_
  rintro e w6 ⟨rfl, rfl⟩
  go_wp2_with fail
  refine (flat_al _ _ (Blk.row St.enc_len (Blk.new' rfl) rfl (by decide) (by unfold maxLen; decide) (by simp))).mono ?_
  rintro e w7 ⟨hb7, v1, v2, rfl, own1, own2, ap⟩
  have hb07 : Below w.heap.size w w7 := (hb05.alloc (by have := hb05.size; omega) _).trans (hb7.mono (by have := hb05.size; simp; omega))
  have z07 := hb07.size
  have o1 : w7.ownsRow (w5.alloc (.cells _ _)).heap.size 45 15 v1 1 ([sF 0 0 4 4].flatMap St.enc) := own1
  have o2 : w7.ownsRow (w5.alloc (.cells _ _)).heap.size 41 4 v2 1 (([⟨0, 0, 2, 2⟩] : List Re).flatMap Re.enc) := own2
  obtain ⟨s1, c1, rfl⟩ := own_slice o1
  obtain ⟨s2, c2, rfl⟩ := own_slice o2
  obtain ⟨g2, rfl, _, hg2⟩ := own_addr o2 (by omega)
  obtain ⟨r0, r1, r2, r3⟩ := own_rmem (rs := [⟨0, 0, 2, 2⟩]) (k := 0) (q := ⟨0, 0, 2, 2⟩) own2 rfl
  simp only [Nat.zero_mul, Nat.zero_add] at r0 r1 r2 r3
  have hR := Lib.hid (And.intro r0 (And.intro r1 (And.intro r2 r3)))
  clear hb7 own1 own2 o1 o2 ap r0 r1 r2 r3 hb05
  go_wp2_with fail
  refine (mkr_any _ _ _ _ _).mono ?_
  rintro e w8 ⟨rfl, hb8⟩
  have z8 := hb8.size
  go_wp2_with fail
  refine (fill_any _ _ _ _ _).mono ?_
  rintro e w9 ⟨rfl, hb9⟩
  have z9 := hb9.size
  go_wp2_with fail
  refine (mkr_any _ _ _ _ _).mono ?_
  rintro e w10 ⟨rfl, hb10⟩
  have z10 := hb10.size
  go_wp2_with fail
  refine (fill_any _ _ _ _ _).mono ?_
  rintro e w11 ⟨rfl, hb11⟩
  have z11 := hb11.size
  have hb711 : Below w7.heap.size w7 w11 := ((hb8.trans (hb9.mono z8)).trans (hb10.mono (by omega))).trans (hb11.mono (by omega))
  clear hb8 hb9 hb10 hb11
  go_wp2_with fail
  refine (lof_any _ _ _ _).mono ?_
  rintro e w12 ⟨rfl, rfl⟩
  go_wp2_with fail
  refine (norm_al _ _ (Blk.row St.enc_len (Blk.new' rfl) rfl (by decide) (by unfold maxLen; decide) (by simp))).mono ?_
  rintro e w13 ⟨hb13, v3, rfl, own3⟩
  have hb7n : Below w7.heap.size w7 w13 := (hb711.alloc (by have := hb711.size; omega) _).trans (hb13.mono (by have := hb711.size; simp; omega))
  have o3 : w13.ownsRow (w11.alloc (.cells _ _)).heap.size 45 15 v3 1 ([sF 0 0 4 4].flatMap St.enc) := own3
  obtain ⟨s3, c3, rfl⟩ := own_slice o3
  obtain ⟨g3, rfl, _, hg3⟩ := own_addr o3 (by omega)
  obtain ⟨k0, k1, k2, k3, k4, _⟩ := own_smem (xs := [sF 0 0 4 4]) (k := 0) (s := sF 0 0 4 4) own3 rfl
  simp only [Nat.zero_mul, Nat.zero_add, sF] at k1 k2 k3 k4
  obtain ⟨r0, r1, r2, r3⟩ := hR.out
  have R0 := (hb7n.cell (p := ⟨g2, 0, none⟩) hg2).trans r0
  have R1 := (hb7n.cell (p := ⟨g2, 1, none⟩) hg2).trans r1
  have R2 := (hb7n.cell (p := ⟨g2, 2, none⟩) hg2).trans r2
  have R3 := (hb7n.cell (p := ⟨g2, 3, none⟩) hg2).trans r3
  have yg2 : g2 < w13.heap.size := Nat.lt_of_lt_of_le hg2 hb7n.size
  have hb0n := hb07.trans (hb7n.mono z07)
  have zn := hb0n.size
  clear hR hb13 own3 o3 r0 r1 r2 r3 hb711 hb7n k0
  go_wp2_with fail
  refine wp_region_steady (Held w13 0 []) (by kernel_rfl) (by kernel_rfl) ⟨(by repeat (first | exact Below.refl _ _ | assumption | refine Below.drew ?_ | refine Below.alloc ?_ (by (try simp) <;> omega) _ | refine Below.setCell ?_ (by (try simp) <;> omega) _ | (refine Below.trans ?_ (Below.mono (by assumption) (by (try simp) <;> omega))))), (by (try simp) <;> omega), (by first | exact trivial | (simp only [Cells]; go_simp))⟩ ?_
  repeat (first | (refine' wpSteady_do _ _ _; rotate_left; (focus rfl); (focus (intro w1 hS R hR; have hc := hS.cells; simp only [Cells] at hc; obtain ⟨hco, hfo⟩ := bcell hS.old; go_simp; (try go_bits); first | exact hR _ hS | (go_at_call 29; (with_reducible refine (mkr_any _ _ _ _ _).mono ?_); rintro e w2 ⟨rfl, hb2⟩; exact ⟨_, rfl, hR _ (hS.below hb2)⟩))); simp only [Act.put, List.setIfInBounds_toArray, List.set_cons_zero, List.set_cons_succ]) | (refine wpSteady_pass ?_ ?_; (focus rfl); simp only [Act.put, List.setIfInBounds_toArray, List.set_cons_zero, List.set_cons_succ]))
  refine wpSteady_nil (fun uZ hSZ => ?_)
  have hcZ := hSZ.cells; have hbZ := hSZ.old; have hzZ := hSZ.size; clear hSZ; simp only [Cells] at hcZ; obtain ⟨hcoZ, hfoZ⟩ := bcell hbZ
  have hbz := hb0n.trans (hbZ.mono zn)
  go_wp2
  go_ret
  exact ⟨rfl, hbz⟩
end
section
set_option linter.unusedSimpArgs false
set_option linter.unusedVariables false
attribute [local go_sem high] neq_stroke
set_option maxHeartbeats 2000000 in
set_option maxRecDepth 100000 in
theorem salike_any (xs ys : List St) (v1 v2 : Value) (w : World) (h1 : Row w.heap.size 15 St.enc w v1 xs) (h2 : Row w.heap.size 15 St.enc w v2 ys) (hmany : xs.length ≤ 40000) (hmany2 : ys.length ≤ 40000) : Calls Try.prog 18 #[v1, v2] w fun e w' => e = .returned (.bool (sameL xs ys)) ∧ Below w.heap.size w w' := by
  obtain ⟨s1, c1, rfl, hmax1⟩ := h1.shape
  obtain ⟨s2, c2, rfl, hmax2⟩ := h2.shape
  have o1 := fun h0 => row_st h1 h0
  have o2 := fun h0 => row_st h2 h0
  clear h1 h2
  obtain ⟨n, en⟩ : ∃ n, xs.length = n := ⟨_, rfl⟩
  obtain ⟨m, em⟩ : ∃ m, ys.length = m := ⟨_, rfl⟩
  by_cases hnm : n = m
  · subst hnm
    rw [en] at o1 hmany hmax1 ⊢
    rw [em] at o2 hmany2 hmax2 ⊢
    replace o1 := Lib.hid o1
    replace o2 := Lib.hid o2
    replace en := Lib.hid en
    replace em := Lib.hid em
    obtain ⟨res, hres⟩ : ∃ r, sameL xs ys = r := ⟨_, rfl⟩
    rw [hres]
    go_enter Try.func18, Try.ntmps18
    go_wp2
    go_loopw [5] (fun i wr => ∃ k : Nat, k ≤ n ∧ i = .int .i64 k ∧ sameL (xs.drop k) (ys.drop k) = res ∧ Below w.heap.size w wr) (fun i _ => n - (intOf i).toNat)
    case atStart => exact ⟨0, Nat.zero_le _, rfl, by simpa using hres, (by repeat (first | exact Below.refl _ _ | assumption | refine Below.drew ?_ | refine Below.alloc ?_ (by (try simp) <;> omega) _ | refine Below.setCell ?_ (by (try simp) <;> omega) _))⟩
    case round =>
      obtain ⟨k, hk, rfl, hgo, hbr⟩ := hrel
      clear hres
      have zr := hbr.size
      obtain ⟨hcr, hfr⟩ := bcell hbr
      by_cases hkn : k < n
      · obtain ⟨b, p, cap', e, hb, _, _, hel⟩ := o1.out (by omega)
        simp at e
        obtain ⟨rfl, rfl⟩ := e
        obtain ⟨b', p', cap', e, hb', _, _, hex⟩ := o2.out (by omega)
        simp at e
        obtain ⟨rfl, rfl⟩ := e
        obtain ⟨s, hs⟩ : ∃ s, xs[k]? = some s := ⟨xs[k]'(by have := en.out; omega), List.getElem?_eq_getElem _⟩
        obtain ⟨t, ht⟩ : ∃ s, ys[k]? = some s := ⟨ys[k]'(by have := em.out; omega), List.getElem?_eq_getElem _⟩
        obtain ⟨g0, g1, g2, g3, g4, g5, g6, g7, g8, g9, g10, g11, g12, g13, g14⟩ := hel k s hs
        obtain ⟨j0, j1, j2, j3, j4, j5, j6, j7, j8, j9, j10, j11, j12, j13, j14⟩ := hex k t ht
        rw [same_step hs ht] at hgo
        have hkk : (k : Int) < n := by omega
        have yb : b < wr.heap.size := by omega
        have yb' : b' < wr.heap.size := by omega
        clear hel hex hs ht
        obtain ⟨kd, ⟨x, y, wd, ht⟩, ⟨q0, q1, q2, q3⟩, ⟨r0, r1, r2, r3⟩, tx, nd⟩ := s
        obtain ⟨kd', ⟨x', y', wd', ht'⟩, ⟨q0', q1', q2', q3'⟩, ⟨r0', r1', r2', r3'⟩, tx', nd'⟩ := t
        simp only at g0 g1 g2 g3 g4 g5 g6 g7 g8 g9 g10 g11 g12 g13 g14 j0 j1 j2 j3 j4 j5 j6 j7 j8 j9 j10 j11 j12 j13 j14
        obtain ⟨bb, hc⟩ : ∃ bb, St.eqb ⟨kd, ⟨x, y, wd, ht⟩, ⟨q0, q1, q2, q3⟩, ⟨r0, r1, r2, r3⟩, tx, nd⟩ ⟨kd', ⟨x', y', wd', ht'⟩, ⟨q0', q1', q2', q3'⟩, ⟨r0', r1', r2', r3'⟩, tx', nd'⟩ = bb := ⟨_, rfl⟩
        rw [hc] at hgo
        cases bb
        · rw [Bool.false_and] at hgo
          subst hgo
          go_wp2
          refine wp_region_steady (Held wr 0 []) (by kernel_rfl) (by kernel_rfl) ⟨(by repeat (first | exact Below.refl _ _ | assumption | refine Below.drew ?_ | refine Below.alloc ?_ (by (try simp) <;> omega) _ | refine Below.setCell ?_ (by (try simp) <;> omega) _ | (refine Below.trans ?_ (Below.mono (by assumption) (by (try simp) <;> omega))))), (by (try simp) <;> omega), (by first | exact trivial | (simp only [Cells]; go_simp))⟩ ?_
          repeat (first | (refine' wpSteady_do _ _ _; rotate_left; (focus rfl); (focus (intro w1 hS R hR; have hc := hS.cells; simp only [Cells] at hc; obtain ⟨hco, hfo⟩ := bcell hS.old; go_simp; (try go_bits); first | exact hR _ hS | fail)); simp only [Act.put, List.setIfInBounds_toArray, List.set_cons_zero, List.set_cons_succ]) | (refine wpSteady_pass ?_ ?_; (focus rfl); simp only [Act.put, List.setIfInBounds_toArray, List.set_cons_zero, List.set_cons_succ]))
          refine wpSteady_nil (fun uA hSA => ?_)
          have hcA := hSA.cells; have hbA := hSA.old; have hzA := hSA.size; clear hSA; simp only [Cells] at hcA; obtain ⟨hcoA, hfoA⟩ := bcell hbA
          go_wp2
          go_ret
          exact ⟨rfl, hbr.trans (hbA.mono zr)⟩
        · rw [Bool.true_and] at hgo
          replace hgo := Lib.hid hgo
          go_wp2
          refine wp_region_steady (Held wr 0 []) (by kernel_rfl) (by kernel_rfl) ⟨(by repeat (first | exact Below.refl _ _ | assumption | refine Below.drew ?_ | refine Below.alloc ?_ (by (try simp) <;> omega) _ | refine Below.setCell ?_ (by (try simp) <;> omega) _ | (refine Below.trans ?_ (Below.mono (by assumption) (by (try simp) <;> omega))))), (by (try simp) <;> omega), (by first | exact trivial | (simp only [Cells]; go_simp))⟩ ?_
          repeat (first | (refine' wpSteady_do _ _ _; rotate_left; (focus rfl); (focus (intro w1 hS R hR; have hc := hS.cells; simp only [Cells] at hc; obtain ⟨hco, hfo⟩ := bcell hS.old; go_simp; (try go_bits); first | exact hR _ hS | fail)); simp only [Act.put, List.setIfInBounds_toArray, List.set_cons_zero, List.set_cons_succ]) | (refine wpSteady_pass ?_ ?_; (focus rfl); simp only [Act.put, List.setIfInBounds_toArray, List.set_cons_zero, List.set_cons_succ]))
          refine wpSteady_nil (fun uA hSA => ?_)
          have hcA := hSA.cells; have hbA := hSA.old; have hzA := hSA.size; clear hSA; simp only [Cells] at hcA; obtain ⟨hcoA, hfoA⟩ := bcell hbA
          go_wp2
          go_roundw
          case rel => exact ⟨k + 1, by omega, by go_num, hgo.out, hbr.trans (hbA.mono zr)⟩
          case measure => simp [intOf]; omega
      · obtain rfl : k = n := by omega
        have e1 : xs.drop k = [] := List.drop_eq_nil_of_le (by have := en.out; omega)
        have e2 : ys.drop k = [] := List.drop_eq_nil_of_le (by have := em.out; omega)
        rw [e1, e2] at hgo
        clear e1 e2
        have hgo : true = res := hgo
        subst hgo
        go_wp2
        go_ret
        exact ⟨rfl, hbr⟩
  · rw [sameL_len (by rw [en, em]; exact hnm)]
    rw [en] at hmax1 ⊢
    rw [em] at hmax2 ⊢
    have hni : ¬ (n : Int) = m := by omega
    clear o1 o2
    go_enter Try.func18, Try.ntmps18
    go_wp2
    go_ret
    exact ⟨rfl, (by repeat (first | exact Below.refl _ _ | assumption | refine Below.drew ?_ | refine Below.alloc ?_ (by (try simp) <;> omega) _ | refine Below.setCell ?_ (by (try simp) <;> omega) _))⟩
end
end Go.Proofs.Ytkmofpnefjgnkaa
