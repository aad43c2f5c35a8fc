/-
  Cells: what a frame, a fill make of a cell.
-/
import Derived.Lib.SlicesCompact
import Derived.Test.YtffmomgmkpmpkaaGreatDoorProg
import Derived.Test.YtffmomgmkpmpkaaGreatDoorKu11
namespace Go.Proofs.YtffmomgmkpmpkaaGreatDoor
open Go.RowKit
set_option linter.unusedVariables false
attribute [local go_sem] vwp vUpon_value vUpon_skip vUpon_enter vUpon_row
set_option linter.unusedSimpArgs false
set_option linter.unusedVariables false
def ovC (a b : Co) : Co := ⟨ov a.a b.a a.r b.r, ov a.a b.a a.g b.g, ov a.a b.a a.b b.b, ovA a.a b.a⟩
theorem ovC_wf {a b : Co} (ha : a.Wf) (hb : b.Wf) : (ovC a b).Wf :=
  ⟨ov_bd _ _ _ _ ha.2.2.2 hb.2.2.2 ha.1 hb.1, ov_bd _ _ _ _ ha.2.2.2 hb.2.2.2 ha.2.1 hb.2.1, ov_bd _ _ _ _ ha.2.2.2 hb.2.2.2 ha.2.2.1 hb.2.2.1, ovA_bd _ _ ha.2.2.2 hb.2.2.2⟩
theorem covr_any (a b : Co) (w : World) (ha : a.Wf) (hb : b.Wf) : Calls Tryz.prog 94 #[.agg #[.int .u8 (a).r, .int .u8 (a).g, .int .u8 (a).b, .int .u8 (a).a], .agg #[.int .u8 (b).r, .int .u8 (b).g, .int .u8 (b).b, .int .u8 (b).a]] w fun e w' => e = .returned (.agg #[.int .u8 (ovC a b).r, .int .u8 (ovC a b).g, .int .u8 (ovC a b).b, .int .u8 (ovC a b).a]) ∧ Below w.heap.size w w' :=
  over_any _ _ _ _ _ _ _ _ w ha.1 ha.2.1 ha.2.2.1 ha.2.2.2 hb.1 hb.2.1 hb.2.2.1 hb.2.2.2
def fillC (c : Ce) (k : Co) : Ce := if k.a = 255 then ⟨32, Co.none, k, false, false⟩ else { c with col := ovC k c.col, back := ovC k c.back }
set_option maxHeartbeats 4000000 in
set_option maxRecDepth 100000 in
theorem cfill_any (c : Ce) (k : Co) (w : World) (hc : c.Wf) (hk : k.Wf) : Calls Tryz.prog 92 #[.agg #[.int .i32 (c).rune, .int .u8 (c).col.r, .int .u8 (c).col.g, .int .u8 (c).col.b, .int .u8 (c).col.a, .int .u8 (c).back.r, .int .u8 (c).back.g, .int .u8 (c).back.b, .int .u8 (c).back.a, .bool (c).wide, .bool (c).tail], .agg #[.int .u8 (k).r, .int .u8 (k).g, .int .u8 (k).b, .int .u8 (k).a]] w fun e w' => e = .returned (.agg #[.int .i32 ((fillC c k)).rune, .int .u8 ((fillC c k)).col.r, .int .u8 ((fillC c k)).col.g, .int .u8 ((fillC c k)).col.b, .int .u8 ((fillC c k)).col.a, .int .u8 ((fillC c k)).back.r, .int .u8 ((fillC c k)).back.g, .int .u8 ((fillC c k)).back.b, .int .u8 ((fillC c k)).back.a, .bool ((fillC c k)).wide, .bool ((fillC c k)).tail]) ∧ Below w.heap.size w w' := by
 obtain ⟨R, hR⟩ : ∃ R, fillC c k = R := ⟨_, rfl⟩
 rw [hR]
 unfold fillC at hR
 have O1 := fun w => covr_any k c.col w hk hc.2.1
 have O2 := fun w => covr_any k c.back w hk hc.2.2
 by_cases ka : k.a = 255
 ·rw [if_pos ka] at hR
  subst hR
  clear O1 O2
  obtain ⟨ru, ⟨c0, c1, c2, c3⟩, ⟨d0, d1, d2, d3⟩, wi, ta⟩ := c
  obtain ⟨k0, k1, k2, k3⟩ := k
  dsimp only at ka ⊢
  subst ka
  go_enter Tryz.func92, Tryz.ntmps92
  go_wp2
  refine bodyPost_ret (v := .agg #[.int .i32 32, .int .u8 0, .int .u8 0, .int .u8 0, .int .u8 0, .int .u8 k0, .int .u8 k1, .int .u8 k2, .int .u8 255, .bool false, .bool false]) (by simp [results, Tryz.results92, go_sem]) rfl ⟨rfl, (by repeat (first | exact Below.refl _ _ | assumption | refine Below.drew ?_ | refine Below.alloc ?_ (by (try simp) <;> omega) _ | refine Below.setCell ?_ (by (try simp) <;> omega) _))⟩
 ·rw [if_neg ka] at hR
  generalize ovC k c.col = p at O1 hR
  generalize ovC k c.back = q at O2 hR
  subst hR
  replace O1 := Lib.hid O1
  replace O2 := Lib.hid O2
  obtain ⟨ru, ⟨c0, c1, c2, c3⟩, ⟨d0, d1, d2, d3⟩, wi, ta⟩ := c
  obtain ⟨k0, k1, k2, k3⟩ := k
  dsimp only at ka ⊢
  go_enter Tryz.func92, Tryz.ntmps92
  go_upto_region 3 with fail
  obtain ⟨W3, hW3⟩ : ∃ W3, ((w.alloc (.cells #[.int .i32 ru, .int .u8 c0, .int .u8 c1, .int .u8 c2, .int .u8 c3, .int .u8 d0, .int .u8 d1, .int .u8 d2, .int .u8 d3, .bool wi, .bool ta] 52)).alloc (.cells #[.int .u8 k0, .int .u8 k1, .int .u8 k2, .int .u8 k3] 44)).alloc (.cells #[.int .i32 0, .int .u8 0, .int .u8 0, .int .u8 0, .int .u8 0, .int .u8 0, .int .u8 0, .int .u8 0, .int .u8 0, .bool false, .bool false] 52) = W3 := ⟨_, rfl⟩
  have B0 : Blk W3 w.heap.size [.int .i32 ru, .int .u8 c0, .int .u8 c1, .int .u8 c2, .int .u8 c3, .int .u8 d0, .int .u8 d1, .int .u8 d2, .int .u8 d3, .bool wi, .bool ta] 52 := by rw [← hW3]; exact ((Blk.new' rfl).alloc _).alloc _
  have B1 : Blk W3 (w.heap.size + 1) [.int .u8 k0, .int .u8 k1, .int .u8 k2, .int .u8 k3] 44 := by rw [← hW3]; exact (Blk.new' (by simp)).alloc _
  have B2 : Blk W3 (w.heap.size + 1 + 1) [.int .i32 0, .int .u8 0, .int .u8 0, .int .u8 0, .int .u8 0, .int .u8 0, .int .u8 0, .int .u8 0, .int .u8 0, .bool false, .bool false] 52 := by rw [← hW3]; exact Blk.new' (by simp)
  have hb3 : Below w.heap.size w W3 := by rw [← hW3]; exact belt
  rw [hW3]
  clear hW3
  have y0 := B0.lt
  have y1 := B1.lt
  have y2 := B2.lt
  have q0 := B0.cell (o := 0) rfl
  have q1 := B0.cell (o := 1) rfl
  have q2 := B0.cell (o := 2) rfl
  have q3 := B0.cell (o := 3) rfl
  have q4 := B0.cell (o := 4) rfl
  have q5 := B0.cell (o := 5) rfl
  have q6 := B0.cell (o := 6) rfl
  have q7 := B0.cell (o := 7) rfl
  have q8 := B0.cell (o := 8) rfl
  have r0 := B1.cell (o := 0) rfl
  have r1 := B1.cell (o := 1) rfl
  have r2 := B1.cell (o := 2) rfl
  have r3 := B1.cell (o := 3) rfl
  refine wp_region_steady_then (Held W3 0 []) 9 (by kernel_rfl) (by kernel_rfl) (by decide) (by kernel_rfl) (by kernel_rfl) ⟨belt, (by (try simp) <;> omega), (by first | exact trivial | (simp only [Cells]; go_simp))⟩ ?_
  simp only [List.take_succ_cons, List.take_zero]
  repeat (first | (refine' wpSteady_do _ _ _; rotate_left; (focus rfl); (focus (intro w1 hS R hR; have hc := hS.cells; simp only [Cells] at hc; obtain ⟨hco, hfo⟩ := bcell hS.old; go_simp; (try go_bits); first | exact hR _ hS | ((go_at_call 94; (with_reducible refine (O1.out _).mono ?_); rintro e w2 ⟨rfl, hb2⟩; exact ⟨_, rfl, hR _ (hS.below hb2)⟩)) | ((go_at_call 94; (with_reducible refine (O2.out _).mono ?_); rintro e w2 ⟨rfl, hb2⟩; exact ⟨_, rfl, hR _ (hS.below hb2)⟩)))); simp only [pu]) | (refine wpSteady_pass ?_ ?_; (focus rfl); simp only [pu]))
  refine wpSteady_nil (fun uA hSA => ?_)
  have hcA := hSA.cells; have hbA := hSA.old; have hzA := hSA.size; clear hSA; simp only [Cells] at hcA; obtain ⟨hcoA, hfoA⟩ := bcell hbA
  simp only [List.drop_succ_cons, List.drop_zero, List.drop_nil]
  have E0 := B0.below hbA y0
  have E2 := B2.below hbA y2
  have hbW : Below w.heap.size w uA := hb3.trans (hbA.mono hb3.size)
  clear q0 q1 q2 q3 q4 q5 q6 q7 q8 r0 r1 r2 r3 hcoA hfoA hcA hbA B0 B1 B2 hb3
  have z0 := E0.lt
  have z2 := E2.lt
  have e1 := E0.cell (o := 1) rfl
  have e2 := E0.cell (o := 2) rfl
  have e3 := E0.cell (o := 3) rfl
  have e4 := E0.cell (o := 4) rfl
  have e5 := E0.cell (o := 5) rfl
  have e6 := E0.cell (o := 6) rfl
  have e7 := E0.cell (o := 7) rfl
  have e8 := E0.cell (o := 8) rfl
  have ff := E0.free
  go_upto_region 4 with fail
  have G0 : Blk (((((((((uA).setCell ⟨w.heap.size, 1, none⟩ (.int .u8 p.r)).setCell ⟨w.heap.size, 2, none⟩ (.int .u8 p.g)).setCell ⟨w.heap.size, 3, none⟩ (.int .u8 p.b)).setCell ⟨w.heap.size, 4, none⟩ (.int .u8 p.a)).setCell ⟨w.heap.size, 5, none⟩ (.int .u8 q.r)).setCell ⟨w.heap.size, 6, none⟩ (.int .u8 q.g)).setCell ⟨w.heap.size, 7, none⟩ (.int .u8 q.b)).setCell ⟨w.heap.size, 8, none⟩ (.int .u8 q.a)) w.heap.size [.int .i32 ru, .int .u8 p.r, .int .u8 p.g, .int .u8 p.b, .int .u8 p.a, .int .u8 q.r, .int .u8 q.g, .int .u8 q.b, .int .u8 q.a, .bool wi, .bool ta] 52 := ((((((((E0).set 1 (.int .u8 p.r)).set 2 (.int .u8 p.g)).set 3 (.int .u8 p.b)).set 4 (.int .u8 p.a)).set 5 (.int .u8 q.r)).set 6 (.int .u8 q.g)).set 7 (.int .u8 q.b)).set 8 (.int .u8 q.a)
  have G2 := ((((((((E2).set_ne (a := ⟨w.heap.size, 1, none⟩) (by show w.heap.size + 1 + 1 ≠ w.heap.size; omega) (.int .u8 p.r)).set_ne (a := ⟨w.heap.size, 2, none⟩) (by show w.heap.size + 1 + 1 ≠ w.heap.size; omega) (.int .u8 p.g)).set_ne (a := ⟨w.heap.size, 3, none⟩) (by show w.heap.size + 1 + 1 ≠ w.heap.size; omega) (.int .u8 p.b)).set_ne (a := ⟨w.heap.size, 4, none⟩) (by show w.heap.size + 1 + 1 ≠ w.heap.size; omega) (.int .u8 p.a)).set_ne (a := ⟨w.heap.size, 5, none⟩) (by show w.heap.size + 1 + 1 ≠ w.heap.size; omega) (.int .u8 q.r)).set_ne (a := ⟨w.heap.size, 6, none⟩) (by show w.heap.size + 1 + 1 ≠ w.heap.size; omega) (.int .u8 q.g)).set_ne (a := ⟨w.heap.size, 7, none⟩) (by show w.heap.size + 1 + 1 ≠ w.heap.size; omega) (.int .u8 q.b)).set_ne (a := ⟨w.heap.size, 8, none⟩) (by show w.heap.size + 1 + 1 ≠ w.heap.size; omega) (.int .u8 q.a)
  have hbX : Below w.heap.size w (((((((((uA).setCell ⟨w.heap.size, 1, none⟩ (.int .u8 p.r)).setCell ⟨w.heap.size, 2, none⟩ (.int .u8 p.g)).setCell ⟨w.heap.size, 3, none⟩ (.int .u8 p.b)).setCell ⟨w.heap.size, 4, none⟩ (.int .u8 p.a)).setCell ⟨w.heap.size, 5, none⟩ (.int .u8 q.r)).setCell ⟨w.heap.size, 6, none⟩ (.int .u8 q.g)).setCell ⟨w.heap.size, 7, none⟩ (.int .u8 q.b)).setCell ⟨w.heap.size, 8, none⟩ (.int .u8 q.a)) := ((((((((hbW).setCell (p := ⟨w.heap.size, 1, none⟩) (Nat.le_refl _) (.int .u8 p.r)).setCell (p := ⟨w.heap.size, 2, none⟩) (Nat.le_refl _) (.int .u8 p.g)).setCell (p := ⟨w.heap.size, 3, none⟩) (Nat.le_refl _) (.int .u8 p.b)).setCell (p := ⟨w.heap.size, 4, none⟩) (Nat.le_refl _) (.int .u8 p.a)).setCell (p := ⟨w.heap.size, 5, none⟩) (Nat.le_refl _) (.int .u8 q.r)).setCell (p := ⟨w.heap.size, 6, none⟩) (Nat.le_refl _) (.int .u8 q.g)).setCell (p := ⟨w.heap.size, 7, none⟩) (Nat.le_refl _) (.int .u8 q.b)).setCell (p := ⟨w.heap.size, 8, none⟩) (Nat.le_refl _) (.int .u8 q.a)
  clear e1 e2 e3 e4 e5 e6 e7 e8 ff E0 E2 hbW
  generalize ((((((((uA).setCell ⟨w.heap.size, 1, none⟩ (.int .u8 p.r)).setCell ⟨w.heap.size, 2, none⟩ (.int .u8 p.g)).setCell ⟨w.heap.size, 3, none⟩ (.int .u8 p.b)).setCell ⟨w.heap.size, 4, none⟩ (.int .u8 p.a)).setCell ⟨w.heap.size, 5, none⟩ (.int .u8 q.r)).setCell ⟨w.heap.size, 6, none⟩ (.int .u8 q.g)).setCell ⟨w.heap.size, 7, none⟩ (.int .u8 q.b)).setCell ⟨w.heap.size, 8, none⟩ (.int .u8 q.a) = wB at G0 G2 hbX ⊢
  have e0 := G0.cell (o := 0) rfl
  have e1 := G0.cell (o := 1) rfl
  have e2 := G0.cell (o := 2) rfl
  have e3 := G0.cell (o := 3) rfl
  have e4 := G0.cell (o := 4) rfl
  have e5 := G0.cell (o := 5) rfl
  have e6 := G0.cell (o := 6) rfl
  have e7 := G0.cell (o := 7) rfl
  have e8 := G0.cell (o := 8) rfl
  have e9 := G0.cell (o := 9) rfl
  have e10 := G0.cell (o := 10) rfl
  have ff := G2.free
  have j0 := G2.cell (o := 0) rfl
  have j1 := G2.cell (o := 1) rfl
  have j2 := G2.cell (o := 2) rfl
  have j3 := G2.cell (o := 3) rfl
  have j4 := G2.cell (o := 4) rfl
  have j5 := G2.cell (o := 5) rfl
  have j6 := G2.cell (o := 6) rfl
  have j7 := G2.cell (o := 7) rfl
  have j8 := G2.cell (o := 8) rfl
  have j9 := G2.cell (o := 9) rfl
  have j10 := G2.cell (o := 10) rfl
  have z0 := G0.lt
  have z2 := G2.lt
  go_wp2
  have H2 := Blk.put11 G2 rfl (.int .i32 ru) (.int .u8 p.r) (.int .u8 p.g) (.int .u8 p.b) (.int .u8 p.a) (.int .u8 q.r) (.int .u8 q.g) (.int .u8 q.b) (.int .u8 q.a) (.bool wi) (.bool ta)
  have hbZ := put11_below hbX (b := w.heap.size + 1 + 1) (by omega) (.int .i32 ru) (.int .u8 p.r) (.int .u8 p.g) (.int .u8 p.b) (.int .u8 p.a) (.int .u8 q.r) (.int .u8 q.g) (.int .u8 q.b) (.int .u8 q.a) (.bool wi) (.bool ta)
  clear e0 e1 e2 e3 e4 e5 e6 e7 e8 e9 e10 j0 j1 j2 j3 j4 j5 j6 j7 j8 j9 j10 ff G0 G2 hbX
  generalize (((((((((((wB).setCell ⟨w.heap.size + 1 + 1, 0, none⟩ (.int .i32 ru)).setCell ⟨w.heap.size + 1 + 1, 1, none⟩ (.int .u8 p.r)).setCell ⟨w.heap.size + 1 + 1, 2, none⟩ (.int .u8 p.g)).setCell ⟨w.heap.size + 1 + 1, 3, none⟩ (.int .u8 p.b)).setCell ⟨w.heap.size + 1 + 1, 4, none⟩ (.int .u8 p.a)).setCell ⟨w.heap.size + 1 + 1, 5, none⟩ (.int .u8 q.r)).setCell ⟨w.heap.size + 1 + 1, 6, none⟩ (.int .u8 q.g)).setCell ⟨w.heap.size + 1 + 1, 7, none⟩ (.int .u8 q.b)).setCell ⟨w.heap.size + 1 + 1, 8, none⟩ (.int .u8 q.a)).setCell ⟨w.heap.size + 1 + 1, 9, none⟩ (.bool wi)).setCell ⟨w.heap.size + 1 + 1, 10, none⟩ (.bool ta) = wZ at H2 hbZ ⊢
  have j0 := H2.cell (o := 0) rfl
  have j1 := H2.cell (o := 1) rfl
  have j2 := H2.cell (o := 2) rfl
  have j3 := H2.cell (o := 3) rfl
  have j4 := H2.cell (o := 4) rfl
  have j5 := H2.cell (o := 5) rfl
  have j6 := H2.cell (o := 6) rfl
  have j7 := H2.cell (o := 7) rfl
  have j8 := H2.cell (o := 8) rfl
  have j9 := H2.cell (o := 9) rfl
  have j10 := H2.cell (o := 10) rfl
  refine bodyPost_ret (v := .agg #[.int .i32 ru, .int .u8 p.r, .int .u8 p.g, .int .u8 p.b, .int .u8 p.a, .int .u8 q.r, .int .u8 q.g, .int .u8 q.b, .int .u8 q.a, .bool wi, .bool ta]) (by simp [results, Tryz.results92, go_sem, j0, j1, j2, j3, j4, j5, j6, j7, j8, j9, j10]) rfl ⟨rfl, hbZ⟩
/-! ### frames -/
def frmV (l r a b w h : Bool) : Int := if !l && !r && !a && !b then 0 else if w && h then 9633 else if w then 9474 else if h then 9472 else if l && a then 9484 else if r && a then 9488 else if l && b then 9492 else if r && b then 9496 else if a || b then 9472 else 9474
def frmP (q : Re) (x y : Int) : Int := frmV (x - q.x == 0) (x - q.x == q.wd - 1) (y - q.y == 0) (y - q.y == q.ht - 1) (q.wd - 1 == 0) (q.ht - 1 == 0)
theorem frm_cases {X W : Int} (h0 : 0 ≤ X) (h1 : X ≤ W) : ((X == 0) = true ∧ (X == W) = true ∧ (W == 0) = true ∧ decide (0 < X) = false) ∨ ((X == 0) = true ∧ (X == W) = false ∧ (W == 0) = false ∧ decide (0 < X) = false) ∨ ((X == 0) = false ∧ (X == W) = true ∧ (W == 0) = false ∧ decide (0 < X) = true) ∨ ((X == 0) = false ∧ (X == W) = false ∧ (W == 0) = false ∧ decide (0 < X) = true) := by
  simp only [beq_iff_eq, beq_eq_false_iff_ne, decide_eq_true_eq, decide_eq_false_iff_not]
  omega
def boxV : List Value := [.int .i32 9484, .int .i32 9488, .int .i32 9492, .int .i32 9496, .int .i32 9472, .int .i32 9474, .int .i32 9633]
theorem boxes_any (w : World) : Calls Tryz.prog 131 #[] w fun e w' => e = .returned (.agg #[.int .i32 9484, .int .i32 9488, .int .i32 9492, .int .i32 9496, .int .i32 9472, .int .i32 9474, .int .i32 9633]) ∧ Below w.heap.size w w' := by
  go_enter Tryz.func131, Tryz.ntmps131
  go_wp2
  refine bodyPost_ret (v := .agg #[.int .i32 9484, .int .i32 9488, .int .i32 9492, .int .i32 9496, .int .i32 9472, .int .i32 9474, .int .i32 9633]) (by simp [results, Tryz.results131, go_sem]) rfl ⟨rfl, (by repeat (first | exact Below.refl _ _ | assumption | refine Below.drew ?_ | refine Below.alloc ?_ (by (try simp) <;> omega) _ | refine Below.setCell ?_ (by (try simp) <;> omega) _))⟩
set_option maxHeartbeats 8000000 in
set_option maxRecDepth 100000 in
theorem cframed_any (q : Re) (x y : Int) (w : World) (hm : mayR q = true) (i1 : q.x ≤ x) (i2 : x < q.x + q.wd) (i3 : q.y ≤ y) (i4 : y < q.y + q.ht) : Calls Tryz.prog 93 #[.agg #[.int .i64 (q).x, .int .i64 (q).y, .int .i64 (q).wd, .int .i64 (q).ht], .agg #[.int .i64 (x), .int .i64 (y)]] w fun e w' => e = .returned (.int .i32 (frmP q x y)) ∧ Below w.heap.size w w' := by
 obtain ⟨R, hR⟩ : ∃ R, frmP q x y = R := ⟨_, rfl⟩
 rw [hR]
 have hbd := may_bd hm
 unfold frmP at hR
 obtain ⟨X, hX⟩ : ∃ X, x - q.x = X := ⟨_, rfl⟩
 obtain ⟨Y, hY⟩ : ∃ Y, y - q.y = Y := ⟨_, rfl⟩
 obtain ⟨W, hW⟩ : ∃ W, q.wd - 1 = W := ⟨_, rfl⟩
 obtain ⟨H, hH⟩ : ∃ H, q.ht - 1 = H := ⟨_, rfl⟩
 rw [hX, hY, hW, hH] at hR
 have CX := frm_cases (X := X) (W := W) (by omega) (by omega)
 have CY := frm_cases (X := Y) (W := H) (by omega) (by omega)
 have bW : 0 ≤ W ∧ W ≤ 20000000 := by omega
 have bH : 0 ≤ H ∧ H ≤ 20000000 := by omega
 have bX : 0 ≤ X ∧ X ≤ 20000000 := by omega
 have bY : 0 ≤ Y ∧ Y ≤ 20000000 := by omega
 obtain ⟨qx, qy, qw, qh⟩ := q
 dsimp only at hX hY hW hH hbd i1 i2 i3 i4 ⊢
 go_enter Tryz.func93, Tryz.ntmps93
 go_upto_region 2 with (go_at_call 131; (with_reducible refine (boxes_any _).mono ?_); rintro e w1 ⟨rfl, hb1⟩; obtain ⟨hc1, hf1⟩ := bcell hb1; have hz1 := hb1.size; (try simp at hz1); (try have lt1 : w.heap.size < w1.heap.size := (by omega)))
 have yb0 : w.heap.size < w1.heap.size := by omega
 have yb1 : w.heap.size + 1 < w1.heap.size := by omega
 have hbw : Below w.heap.size w w1 := belt
 have c0 : w1.cell? ⟨w.heap.size, 0, none⟩ = some (.int .i64 qx) := by go_simp
 have c1 : w1.cell? ⟨w.heap.size, 1, none⟩ = some (.int .i64 qy) := by go_simp
 have c2 : w1.cell? ⟨w.heap.size, 2, none⟩ = some (.int .i64 qw) := by go_simp
 have c3 : w1.cell? ⟨w.heap.size, 3, none⟩ = some (.int .i64 qh) := by go_simp
 have c4 : w1.cell? ⟨w.heap.size + 1, 0, none⟩ = some (.int .i64 x) := by go_simp
 have c5 : w1.cell? ⟨w.heap.size + 1, 1, none⟩ = some (.int .i64 y) := by go_simp
 clear hc1 hf1 hb1 hz1
 obtain ⟨W2, hW2⟩ : ∃ W2, w1.alloc (.cells #[.int .i32 9484, .int .i32 9488, .int .i32 9492, .int .i32 9496, .int .i32 9472, .int .i32 9474, .int .i32 9633] 189) = W2 := ⟨_, rfl⟩
 have hB : Blk W2 w1.heap.size boxV 189 := by rw [← hW2]; exact Blk.new' rfl
 have hb12 : Below w1.heap.size w1 W2 := by rw [← hW2]; exact (by repeat (first | exact Below.refl _ _ | assumption | refine Below.drew ?_ | refine Below.alloc ?_ (by (try simp) <;> omega) _ | refine Below.setCell ?_ (by (try simp) <;> omega) _))
 rw [hW2]
 clear hW2
 obtain ⟨hco12, hfo12⟩ := bcell hb12
 replace c0 := (hco12 _ _ yb0).trans c0
 replace c1 := (hco12 _ _ yb0).trans c1
 replace c2 := (hco12 _ _ yb0).trans c2
 replace c3 := (hco12 _ _ yb0).trans c3
 replace c4 := (hco12 _ _ yb1).trans c4
 replace c5 := (hco12 _ _ yb1).trans c5
 clear hco12 hfo12
 have hbW := hbw.trans (hb12.mono hbw.size)
 have yB := hB.lt
 have yz0 : w.heap.size < W2.heap.size := by omega
 have yz1 : w.heap.size + 1 < W2.heap.size := by omega
 clear hbw hb12
 refine wp_region_steady (Held W2 0 []) (by kernel_rfl) (by kernel_rfl) ⟨belt, (by (try simp) <;> omega), (by first | exact trivial | (simp only [Cells]; go_simp))⟩ ?_
 repeat (first | (refine' wpSteady_do _ _ _; rotate_left; (focus rfl); (focus (intro w1 hS R hR; have hc := hS.cells; simp only [Cells] at hc; obtain ⟨hco, hfo⟩ := bcell hS.old; go_simp; (try go_bits); first | exact hR _ hS | fail)); simp only [pu]) | (refine wpSteady_pass ?_ ?_; (focus rfl); simp only [pu]))
 refine wpSteady_nil (fun uA hSA => ?_)
 have hcA := hSA.cells; have hbA := hSA.old; have hzA := hSA.size; clear hSA; simp only [Cells] at hcA; obtain ⟨hcoA, hfoA⟩ := bcell hbA
 go_wp2
 have d2 := (hcoA _ _ yz0).trans c2
 have d3 := (hcoA _ _ yz0).trans c3
 have hBA := hB.below hbA yB
 have hbWA := hbW.trans (hbA.mono hbW.size)
 have yzA : w.heap.size < uA.heap.size := by omega
 have yBA := hBA.lt
 clear c0 c1 c2 c3 c4 c5 hcA hcoA hfoA hbA hB hbW
 refine wp_region_steady (Held uA 0 []) (by kernel_rfl) (by kernel_rfl) ⟨belt, (by (try simp) <;> omega), (by first | exact trivial | (simp only [Cells]; go_simp))⟩ ?_
 repeat (first | (refine' wpSteady_do _ _ _; rotate_left; (focus rfl); (focus (intro w1 hS R hR; have hc := hS.cells; simp only [Cells] at hc; obtain ⟨hco, hfo⟩ := bcell hS.old; go_simp; (try go_bits); first | exact hR _ hS | fail)); simp only [pu]) | (refine wpSteady_pass ?_ ?_; (focus rfl); simp only [pu]))
 refine wpSteady_nil (fun uB hSB => ?_)
 have hcB := hSB.cells; have hbB := hSB.old; have hzB := hSB.size; clear hSB; simp only [Cells] at hcB; obtain ⟨hcoB, hfoB⟩ := bcell hbB
 have hBB := hBA.below hbB yBA
 have hbWB := hbWA.trans (hbB.mono hbWA.size)
 have k0 := hBB.cell (o := 0) rfl
 have k1 := hBB.cell (o := 1) rfl
 have k2 := hBB.cell (o := 2) rfl
 have k3 := hBB.cell (o := 3) rfl
 have k4 := hBB.cell (o := 4) rfl
 have k5 := hBB.cell (o := 5) rfl
 have k6 := hBB.cell (o := 6) rfl
 have yBB := hBB.lt
 clear d2 d3 hcB hcoB hfoB hbB hBA hbWA hX hY hW hH i1 i2 i3 i4 hbd hm hBB
 rcases CX with ⟨e1, e2, e3, e4⟩ | ⟨e1, e2, e3, e4⟩ | ⟨e1, e2, e3, e4⟩ | ⟨e1, e2, e3, e4⟩ <;> rcases CY with ⟨e5, e6, e7, e8⟩ | ⟨e5, e6, e7, e8⟩ | ⟨e5, e6, e7, e8⟩ | ⟨e5, e6, e7, e8⟩ <;> rw [e1, e2, e3, e5, e6, e7] at hR <;> simp only [frmV, Bool.not_true, Bool.not_false, Bool.and_true, Bool.and_false, Bool.true_and, Bool.false_and, Bool.false_eq_true, if_true, if_false, Bool.or_self, Bool.true_or, Bool.or_true] at hR <;> subst hR
 all_goals
  go_wp2
  go_ret
  exact ⟨rfl, hbWB⟩
end Go.Proofs.YtffmomgmkpmpkaaGreatDoor
