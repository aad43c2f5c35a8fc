/-
  Cells: a list drawn on a screen, by the document's answer: plain part and opening. (Under way.)
-/
import Derived.Shelf.SlSortCmp.WholeK
import Derived.Shelf.Slices.CompactI
import Derived.Shelf.Slices.In.SortNone
import Derived.Shelf.Sort.Plain
import Derived.Sort.OwnSortedInts
import Derived.Test.YtffmomgmkpmpkaaGreatDoorProg
import Derived.Test.YtffmomgmkpmpkaaGreatDoorKd30
namespace Go.Proofs.YtffmomgmkpmpkaaGreatDoor
open Go.RowKit
set_option linter.unusedVariables false
attribute [local go_sem] vwp vUpon_value vUpon_skip vUpon_enter vUpon_row
set_option linter.unusedSimpArgs false
set_option linter.unusedVariables false
def WriOk (gf : ByteArray → List (List Gl)) : Prop := ∀ (t : ByteArray) (w : World), t.size ≤ 65536 → Calls Tryz.prog 47 #[.string t] w fun e w' => Below w.heap.size w w' ∧ ∃ v, e = .returned v ∧ GridO w' w.heap.size v (gf t)
/-- The places up to the k-th. -/
def upK (N : Nat) (r : Re) (k : Nat) (j : Nat) : Bool := decide (j < k) && hasR r ((j % N : Nat) : Int) ((j / N : Nat) : Int)
theorem upK_start {N : Nat} {r : Re} (j : Nat) : upK N r 0 j = false := by simp [upK]
theorem upK_yes {N : Nat} {r : Re} {k : Nat} (h : hasR r ((k % N : Nat) : Int) ((k / N : Nat) : Int) = true) (j : Nat) : upK N r (k + 1) j = (upK N r k j || j == k) := by
  unfold upK
  by_cases hj : j = k
  · subst hj
    rw [h]
    simp
  · have h1 : (j == k) = false := by simp [hj]
    have h2 : decide (j < k + 1) = decide (j < k) := by
      by_cases h : j < k
      · rw [decide_eq_true h, decide_eq_true (by omega)]
      · rw [decide_eq_false h, decide_eq_false (by omega)]
    rw [h1, h2, Bool.or_false]
theorem upK_no {N : Nat} {r : Re} {k : Nat} (h : hasR r ((k % N : Nat) : Int) ((k / N : Nat) : Int) = false) (j : Nat) : upK N r (k + 1) j = upK N r k j := by
  unfold upK
  by_cases hj : j = k
  · subst hj; rw [h]; simp
  · have h2 : decide (j < k + 1) = decide (j < k) := by
      by_cases h : j < k
      · rw [decide_eq_true h, decide_eq_true (by omega)]
      · rw [decide_eq_false h, decide_eq_false (by omega)]
    rw [h2]
theorem strokeD_upK {N n : Nat} {s : St} {g : List (List Gl)} {r : Re} {cs : List Ce} (hl : cs.length = n) :
    updP (upK N r n) (fun k c => madeC c s g ((k % N : Nat) : Int) ((k / N : Nat) : Int)) cs = strokeD N s g r cs := by
  unfold strokeD
  refine updP_congr (fun k hk => ?_)
  unfold upK
  rw [decide_eq_true (by omega), Bool.true_and]
set_option maxHeartbeats 4000000 in
set_option maxRecDepth 100000 in
theorem khas1_any (q : Re) (x y : Int) (w : World) (hm : mayR q = true) : Calls Tryz.prog 48 #[.agg #[.int .i64 (q).x, .int .i64 (q).y, .int .i64 (q).wd, .int .i64 (q).ht], .agg #[.int .i64 (x), .int .i64 (y)]] w fun e w' => e = .returned (.bool (hasR q x y)) ∧ Below w.heap.size w w' := by
 obtain ⟨R, hR⟩ : ∃ R, hasR q x y = R := ⟨_, rfl⟩
 rw [hR]
 have hbd := may_bd hm
 have EM := fun w => kempty1_any q w (may_wf hm)
 have RT := fun w => kright_any q w hm
 have BL := fun w => kbelow_any q w hm
 have hex : emptyR q = true → R = false := fun h => by rw [← hR]; exact has_of_empty hm h
 unfold hasR at hR
 obtain ⟨qx, qy, qw, qh⟩ := q
 dsimp only at hR EM RT BL hbd ⊢
 obtain ⟨eb, heb⟩ : ∃ b, emptyR ⟨qx, qy, qw, qh⟩ = b := ⟨_, rfl⟩
 rw [heb] at EM hex
 obtain ⟨RX, hRX⟩ : ∃ RX, qx + qw = RX := ⟨_, rfl⟩
 obtain ⟨RY, hRY⟩ : ∃ RY, qy + qh = RY := ⟨_, rfl⟩
 rw [hRX] at hR RT
 rw [hRY] at hR BL
 clear hRX hRY heb hm
 replace EM := Lib.hid EM
 replace RT := Lib.hid RT
 replace BL := Lib.hid BL
 go_enter Tryz.func48, Tryz.ntmps48
 go_upto_region 1 with fail
 obtain ⟨W1, hW1⟩ : ∃ W1, (w.alloc (.cells #[.int .i64 qx, .int .i64 qy, .int .i64 qw, .int .i64 qh] 42)).alloc (.cells #[.int .i64 x, .int .i64 y] 40) = W1 := ⟨_, rfl⟩
 have B0 : Blk W1 w.heap.size [.int .i64 qx, .int .i64 qy, .int .i64 qw, .int .i64 qh] 42 := by rw [← hW1]; exact (Blk.new' rfl).alloc _
 have B1 : Blk W1 (w.heap.size + 1) [.int .i64 x, .int .i64 y] 40 := by rw [← hW1]; exact Blk.new' (by simp)
 have hbw : Below w.heap.size w W1 := by rw [← hW1]; exact belt
 rw [hW1]
 clear hW1
 have y0 := B0.lt
 have y1 := B1.lt
 have c0 := B0.cell (o := 0) rfl
 have c1 := B0.cell (o := 1) rfl
 have c2 := B0.cell (o := 2) rfl
 have c3 := B0.cell (o := 3) rfl
 have c4 := B1.cell (o := 0) rfl
 have c5 := B1.cell (o := 1) rfl
 cases eb
 ·by_cases a1 : qx ≤ x
  ·by_cases a2 : x < RX
   ·by_cases a3 : qy ≤ y
    ·by_cases a4 : y < RY
     ·have : R = true := by rw [← hR]; simp [a1, a2, a3, a4]
      subst this
      clear hR hex
      refine wp_region_steady (Held W1 0 []) (by kernel_rfl) (by kernel_rfl) ⟨belt, (by (try simp) <;> omega), (by first | exact trivial | (simp only [Cells]; go_simp))⟩ ?_
      repeat (first | (refine' wpSteady_do _ _ _; rotate_left; (focus rfl); (focus (intro w1 hS R hR; have hc := hS.cells; simp only [Cells] at hc; obtain ⟨hco, hfo⟩ := bcell hS.old; go_simp; (try go_bits); first | exact hR _ hS | ((go_at_call 101; (with_reducible refine (RT.out _).mono ?_); rintro e w2 ⟨rfl, hb2⟩; exact ⟨_, rfl, hR _ (hS.below hb2)⟩)) | ((go_at_call 102; (with_reducible refine (BL.out _).mono ?_); rintro e w2 ⟨rfl, hb2⟩; exact ⟨_, rfl, hR _ (hS.below hb2)⟩)) | ((go_at_call 100; (with_reducible refine (EM.out _).mono ?_); rintro e w2 ⟨rfl, hb2⟩; exact ⟨_, rfl, hR _ (hS.below hb2)⟩)))); simp only [pu]) | (refine wpSteady_pass ?_ ?_; (focus rfl); simp only [pu]))
      refine wpSteady_nil (fun uA hSA => ?_)
      have hcA := hSA.cells; have hbA := hSA.old; have hzA := hSA.size; clear hSA; simp only [Cells] at hcA; obtain ⟨hcoA, hfoA⟩ := bcell hbA
      go_wp2
      go_ret
      exact ⟨rfl, hbw.trans (hbA.mono hbw.size)⟩
     ·have : R = false := by rw [← hR]; simp [a4]
      subst this
      clear hR hex
      refine wp_region_steady (Held W1 0 []) (by kernel_rfl) (by kernel_rfl) ⟨belt, (by (try simp) <;> omega), (by first | exact trivial | (simp only [Cells]; go_simp))⟩ ?_
      repeat (first | (refine' wpSteady_do _ _ _; rotate_left; (focus rfl); (focus (intro w1 hS R hR; have hc := hS.cells; simp only [Cells] at hc; obtain ⟨hco, hfo⟩ := bcell hS.old; go_simp; (try go_bits); first | exact hR _ hS | ((go_at_call 101; (with_reducible refine (RT.out _).mono ?_); rintro e w2 ⟨rfl, hb2⟩; exact ⟨_, rfl, hR _ (hS.below hb2)⟩)) | ((go_at_call 102; (with_reducible refine (BL.out _).mono ?_); rintro e w2 ⟨rfl, hb2⟩; exact ⟨_, rfl, hR _ (hS.below hb2)⟩)) | ((go_at_call 100; (with_reducible refine (EM.out _).mono ?_); rintro e w2 ⟨rfl, hb2⟩; exact ⟨_, rfl, hR _ (hS.below hb2)⟩)))); simp only [pu]) | (refine wpSteady_pass ?_ ?_; (focus rfl); simp only [pu]))
      refine wpSteady_nil (fun uA hSA => ?_)
      have hcA := hSA.cells; have hbA := hSA.old; have hzA := hSA.size; clear hSA; simp only [Cells] at hcA; obtain ⟨hcoA, hfoA⟩ := bcell hbA
      go_wp2
      go_ret
      exact ⟨rfl, hbw.trans (hbA.mono hbw.size)⟩
    ·have : R = false := by rw [← hR]; simp [a3]
     subst this
     clear hR hex
     refine wp_region_steady (Held W1 0 []) (by kernel_rfl) (by kernel_rfl) ⟨belt, (by (try simp) <;> omega), (by first | exact trivial | (simp only [Cells]; go_simp))⟩ ?_
     repeat (first | (refine' wpSteady_do _ _ _; rotate_left; (focus rfl); (focus (intro w1 hS R hR; have hc := hS.cells; simp only [Cells] at hc; obtain ⟨hco, hfo⟩ := bcell hS.old; go_simp; (try go_bits); first | exact hR _ hS | ((go_at_call 101; (with_reducible refine (RT.out _).mono ?_); rintro e w2 ⟨rfl, hb2⟩; exact ⟨_, rfl, hR _ (hS.below hb2)⟩)) | ((go_at_call 102; (with_reducible refine (BL.out _).mono ?_); rintro e w2 ⟨rfl, hb2⟩; exact ⟨_, rfl, hR _ (hS.below hb2)⟩)) | ((go_at_call 100; (with_reducible refine (EM.out _).mono ?_); rintro e w2 ⟨rfl, hb2⟩; exact ⟨_, rfl, hR _ (hS.below hb2)⟩)))); simp only [pu]) | (refine wpSteady_pass ?_ ?_; (focus rfl); simp only [pu]))
     refine wpSteady_nil (fun uA hSA => ?_)
     have hcA := hSA.cells; have hbA := hSA.old; have hzA := hSA.size; clear hSA; simp only [Cells] at hcA; obtain ⟨hcoA, hfoA⟩ := bcell hbA
     go_wp2
     go_ret
     exact ⟨rfl, hbw.trans (hbA.mono hbw.size)⟩
   ·have : R = false := by rw [← hR]; simp [a2]
    subst this
    clear hR hex
    refine wp_region_steady (Held W1 0 []) (by kernel_rfl) (by kernel_rfl) ⟨belt, (by (try simp) <;> omega), (by first | exact trivial | (simp only [Cells]; go_simp))⟩ ?_
    repeat (first | (refine' wpSteady_do _ _ _; rotate_left; (focus rfl); (focus (intro w1 hS R hR; have hc := hS.cells; simp only [Cells] at hc; obtain ⟨hco, hfo⟩ := bcell hS.old; go_simp; (try go_bits); first | exact hR _ hS | ((go_at_call 101; (with_reducible refine (RT.out _).mono ?_); rintro e w2 ⟨rfl, hb2⟩; exact ⟨_, rfl, hR _ (hS.below hb2)⟩)) | ((go_at_call 102; (with_reducible refine (BL.out _).mono ?_); rintro e w2 ⟨rfl, hb2⟩; exact ⟨_, rfl, hR _ (hS.below hb2)⟩)) | ((go_at_call 100; (with_reducible refine (EM.out _).mono ?_); rintro e w2 ⟨rfl, hb2⟩; exact ⟨_, rfl, hR _ (hS.below hb2)⟩)))); simp only [pu]) | (refine wpSteady_pass ?_ ?_; (focus rfl); simp only [pu]))
    refine wpSteady_nil (fun uA hSA => ?_)
    have hcA := hSA.cells; have hbA := hSA.old; have hzA := hSA.size; clear hSA; simp only [Cells] at hcA; obtain ⟨hcoA, hfoA⟩ := bcell hbA
    go_wp2
    go_ret
    exact ⟨rfl, hbw.trans (hbA.mono hbw.size)⟩
  ·have : R = false := by rw [← hR]; simp [a1]
   subst this
   clear hR hex
   refine wp_region_steady (Held W1 0 []) (by kernel_rfl) (by kernel_rfl) ⟨belt, (by (try simp) <;> omega), (by first | exact trivial | (simp only [Cells]; go_simp))⟩ ?_
   repeat (first | (refine' wpSteady_do _ _ _; rotate_left; (focus rfl); (focus (intro w1 hS R hR; have hc := hS.cells; simp only [Cells] at hc; obtain ⟨hco, hfo⟩ := bcell hS.old; go_simp; (try go_bits); first | exact hR _ hS | ((go_at_call 101; (with_reducible refine (RT.out _).mono ?_); rintro e w2 ⟨rfl, hb2⟩; exact ⟨_, rfl, hR _ (hS.below hb2)⟩)) | ((go_at_call 102; (with_reducible refine (BL.out _).mono ?_); rintro e w2 ⟨rfl, hb2⟩; exact ⟨_, rfl, hR _ (hS.below hb2)⟩)) | ((go_at_call 100; (with_reducible refine (EM.out _).mono ?_); rintro e w2 ⟨rfl, hb2⟩; exact ⟨_, rfl, hR _ (hS.below hb2)⟩)))); simp only [pu]) | (refine wpSteady_pass ?_ ?_; (focus rfl); simp only [pu]))
   refine wpSteady_nil (fun uA hSA => ?_)
   have hcA := hSA.cells; have hbA := hSA.old; have hzA := hSA.size; clear hSA; simp only [Cells] at hcA; obtain ⟨hcoA, hfoA⟩ := bcell hbA
   go_wp2
   go_ret
   exact ⟨rfl, hbw.trans (hbA.mono hbw.size)⟩
 ·have : R = false := hex rfl
  subst this
  clear hR hex
  refine wp_region_steady (Held W1 0 []) (by kernel_rfl) (by kernel_rfl) ⟨belt, (by (try simp) <;> omega), (by first | exact trivial | (simp only [Cells]; go_simp))⟩ ?_
  repeat (first | (refine' wpSteady_do _ _ _; rotate_left; (focus rfl); (focus (intro w1 hS R hR; have hc := hS.cells; simp only [Cells] at hc; obtain ⟨hco, hfo⟩ := bcell hS.old; go_simp; (try go_bits); first | exact hR _ hS | ((go_at_call 101; (with_reducible refine (RT.out _).mono ?_); rintro e w2 ⟨rfl, hb2⟩; exact ⟨_, rfl, hR _ (hS.below hb2)⟩)) | ((go_at_call 102; (with_reducible refine (BL.out _).mono ?_); rintro e w2 ⟨rfl, hb2⟩; exact ⟨_, rfl, hR _ (hS.below hb2)⟩)) | ((go_at_call 100; (with_reducible refine (EM.out _).mono ?_); rintro e w2 ⟨rfl, hb2⟩; exact ⟨_, rfl, hR _ (hS.below hb2)⟩)))); simp only [pu]) | (refine wpSteady_pass ?_ ?_; (focus rfl); simp only [pu]))
  refine wpSteady_nil (fun uA hSA => ?_)
  have hcA := hSA.cells; have hbA := hSA.old; have hzA := hSA.size; clear hSA; simp only [Cells] at hcA; obtain ⟨hcoA, hfoA⟩ := bcell hbA
  go_wp2
  go_ret
  exact ⟨rfl, hbw.trans (hbA.mono hbw.size)⟩
end Go.Proofs.YtffmomgmkpmpkaaGreatDoor
