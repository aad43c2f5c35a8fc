/-
  The law ListMoves walked.
-/
import Derived.Test.YtkmofpnefjgnkaaLisT
import Derived.Test.YtkmofpnefjgnkaaMid
namespace Go.Proofs.Ytkmofpnefjgnkaa
open Go.RowKit
set_option linter.unusedVariables false
attribute [local go_sem] vwp vUpon_value vUpon_skip vUpon_enter vUpon_row
set_option linter.unusedSimpArgs false
set_option linter.unusedVariables false
theorem joinL_len (xs ys : List St) : (joinL xs ys).length ≤ xs.length + ys.length := by
  unfold joinL; split <;> simp
theorem mvL_len (px py : Int) (xs : List St) : (mvL px py xs).length ≤ xs.length := by
  unfold mvL; split <;> simp
theorem own_keep {w w' : World} {base : Nat} {ob : Option Nat} {v : Value} {xs : List St} (h : Owns base w v xs) (hg : w.grownBy w' ob) (hr : ∀ g, v.ownBlock = some g → ob ≠ some g) : Owns base w' v xs := by
  obtain ⟨h1, h2⟩ := h
  refine ⟨h1, ?_⟩
  rcases h2 with h2 | ⟨g, cap, cur, rfl, hgb, hh, r'⟩
  · exact .inl h2
  · exact .inr ⟨g, cap, cur, rfl, hgb, by rw [hg.block g (Go.lt_of_block hh) (fun e => hr g (by simp [Value.ownBlock]) e.symm)]; exact hh, r'⟩
theorem Owns.lt {w : World} {base : Nat} {v : Value} {xs : List St} (h : Owns base w v xs) (g : Nat) (hg : v.ownBlock = some g) : base ≤ g ∧ g < w.heap.size := by
  rcases h.2 with ⟨rfl, _⟩ | ⟨g', cap, cur, rfl, hb, hh, _⟩
  · cases hg
  · simp [Value.ownBlock] at hg
    subst hg
    exact ⟨hb, Go.lt_of_block hh⟩
set_option maxHeartbeats 4000000 in
set_option maxRecDepth 100000 in
theorem walk_ListMoves (xs ys : List St) (v1 v2 : Value) (px py : Int) (w : World) (h1 : Row w.heap.size 15 St.enc w v1 xs) (h2 : Row w.heap.size 15 St.enc w v2 ys) (k1 : ∀ s ∈ xs, s.Wf) (k2 : ∀ s ∈ ys, s.Wf) (hpx : I64 px) (hpy : I64 py) :
    Calls Try.prog 3 #[v1, v2, .agg #[.int .i64 px, .int .i64 py]] w fun e w' => e = .returned (.bool true) ∧ Below w.heap.size w w' := by
  obtain ⟨s1, c1, rfl, hmax1⟩ := h1.shape
  obtain ⟨s2, c2, rfl, hmax2⟩ := h2.shape
  obtain ⟨n, en⟩ : ∃ n, xs.length = n := ⟨_, rfl⟩
  obtain ⟨m, em⟩ : ∃ m, ys.length = m := ⟨_, rfl⟩
  rw [en] at hmax1 h1 ⊢
  rw [em] at hmax2 h2 ⊢
  by_cases q1 : (17000 : Int) < n
  · have p1 : decide ((17000 : Int) < n) = true := by simpa using q1
    go_enter Try.func3, Try.ntmps3
    go_wp2
    go_ret
    exact ⟨rfl, (by repeat (first | exact Below.refl _ _ | assumption | refine Below.drew ?_ | refine Below.alloc ?_ (by (try simp) <;> omega) _ | refine Below.setCell ?_ (by (try simp) <;> omega) _))⟩
  have p1 : decide ((17000 : Int) < n) = false := by simpa using q1
  by_cases q2 : (17000 : Int) < m
  · have p2 : decide ((17000 : Int) < m) = true := by simpa using q2
    go_enter Try.func3, Try.ntmps3
    go_wp2
    go_ret
    exact ⟨rfl, (by repeat (first | exact Below.refl _ _ | assumption | refine Below.drew ?_ | refine Below.alloc ?_ (by (try simp) <;> omega) _ | refine Below.setCell ?_ (by (try simp) <;> omega) _))⟩
  have p2 : decide ((17000 : Int) < m) = false := by simpa using q2
  have n17 : n ≤ 17000 := by omega
  have m17 : m ≤ 17000 := by omega
  clear q1 q2
  replace h1 := Lib.hid h1
  replace h2 := Lib.hid h2
  replace en := Lib.hid en
  replace em := Lib.hid em
  replace k1 := Lib.hid k1
  replace k2 := Lib.hid k2
  go_enter Try.func3, Try.ntmps3
  go_wp2_with fail
  obtain ⟨W0, hW0⟩ : ∃ W0, w.alloc (.cells #[.int .i64 px, .int .i64 py] 24) = W0 := ⟨_, rfl⟩
  have hb0 : Below w.heap.size w W0 := by rw [← hW0]; exact (Below.refl _ _).alloc (Nat.le_refl _) _
  have z0 : w.heap.size < W0.heap.size := by rw [← hW0]; simp
  have bx0 : W0.cell? ⟨w.heap.size, 0, none⟩ = some (.int .i64 px) := by rw [← hW0]; exact World.cell?_alloc_at _ _ _ _ rfl
  have bx1 : W0.cell? ⟨w.heap.size, 1, none⟩ = some (.int .i64 py) := by rw [← hW0]; exact World.cell?_alloc_at _ _ _ _ rfl
  rw [hW0]
  clear hW0
  have hX0 : Row W0.heap.size 15 St.enc W0 (.slice s1 n c1) xs := (h1.out.below hb0).mono hb0.size
  refine (own_any xs _ W0 hX0 (by rw [en.out]; omega)).mono ?_
  rintro e w1 ⟨v3, rfl, o3, hb1⟩
  have z1 := hb1.size
  clear hX0
  replace o3 := Lib.hid o3
  go_wp2_with fail
  have hY1 : Row w1.heap.size 15 St.enc w1 (.slice s2 m c2) ys := (h2.out.below (hb0.trans (hb1.mono hb0.size))).mono (by omega)
  refine (own_any ys _ w1 hY1 (by rw [em.out]; omega)).mono ?_
  rintro e w2 ⟨v4, rfl, o4, hb2⟩
  clear hY1
  have hb02 : Below w.heap.size w w2 := (hb0.trans (hb1.mono hb0.size)).trans (hb2.mono (by omega))
  have z02 := hb02.size
  have zW2 : W0.heap.size ≤ w2.heap.size := by have := hb2.size; omega
  have hb12 : Below W0.heap.size W0 w2 := hb1.trans (hb2.mono z1)
  have y0 : w2.cell? ⟨w.heap.size, 0, none⟩ = some (.int .i64 px) := (hb12.cell (p := ⟨w.heap.size, 0, none⟩) z0).trans bx0
  have y1 : w2.cell? ⟨w.heap.size, 1, none⟩ = some (.int .i64 py) := (hb12.cell (p := ⟨w.heap.size, 1, none⟩) z0).trans bx1
  have o3' : Owns W0.heap.size w2 v3 (xs ++ [mark]) := o3.out.below hb2 (Nat.le_refl _)
  have rP : Row w2.heap.size 15 St.enc w2 v3 (xs ++ [mark]) := o3'.row (Nat.le_refl _)
  have rQ : Row w2.heap.size 15 St.enc w2 v4 (ys ++ [mark]) := o4.row (Nat.le_refl _)
  have rX : Row w2.heap.size 15 St.enc w2 (.slice s1 n c1) xs := (h1.out.below hb02).mono z02
  have rY : Row w2.heap.size 15 St.enc w2 (.slice s2 m c2) ys := (h2.out.below hb02).mono z02
  clear o3 o3' o4 hb1 hb2 hb0 bx0 bx1 hb12
  obtain ⟨g3, f3, c3, e3, hg3, hc3, hm3, _⟩ := rP.open_ (by simp)
  obtain ⟨g4, f4, c4, e4, hg4, hc4, hm4, _⟩ := rQ.open_ (by simp)
  subst e3
  subst e4
  have rP' : Row w2.heap.size 15 St.enc w2 (.slice (some ⟨g3, f3, none⟩) n c3) xs := row_cut rP en.out
  have rQ' : Row w2.heap.size 15 St.enc w2 (.slice (some ⟨g4, f4, none⟩) m c4) ys := row_cut rQ em.out
  have lP : (xs ++ [mark]).length = n + 1 := by simp [en.out]
  have lQ : (ys ++ [mark]).length = m + 1 := by simp [em.out]
  rw [lP] at hc3 rP ⊢
  rw [lQ] at hc4 rQ ⊢
  unfold maxLen at hm3 hm4
  have i1 : (n : Int) ≤ n + 1 := by omega
  have i2 : (m : Int) ≤ m + 1 := by omega
  have i3 : (n : Int) ≤ c3 := by omega
  have i4 : (m : Int) ≤ c4 := by omega
  have t0 : w.heap.size < w2.heap.size := by omega
  replace rP := Lib.hid rP
  replace rQ := Lib.hid rQ
  replace rX := Lib.hid rX
  replace rY := Lib.hid rY
  replace rP' := Lib.hid rP'
  replace rQ' := Lib.hid rQ'
  go_wp2_with fail
  refine wp_region_call (Held w2 0 []) 8 (by kernel_rfl) (by kernel_rfl) (by decide) (by kernel_rfl) (by kernel_rfl) ⟨(by repeat (first | exact Below.refl _ _ | assumption | refine Below.drew ?_ | refine Below.alloc ?_ (by (try simp) <;> omega) _ | refine Below.setCell ?_ (by (try simp) <;> omega) _ | (refine Below.trans ?_ (Below.mono (by assumption) (by (try simp) <;> omega))))), (by (try simp) <;> omega), trivial⟩ ?_
  simp only [List.take_succ_cons, List.take_zero]
  repeat (first | (refine' wpSteady_do _ _ _; rotate_left; (focus rfl); (focus (intro w1 hS R hR; have hc := hS.cells; simp only [Cells] at hc; obtain ⟨hco, hfo⟩ := bcell hS.old; go_simp; (try go_bits); first | exact hR _ hS | fail)); simp only [Act.put, List.setIfInBounds_toArray, List.set_cons_zero, List.set_cons_succ]) | (refine wpSteady_pass ?_ ?_; (focus rfl); simp only [Act.put, List.setIfInBounds_toArray, List.set_cons_zero, List.set_cons_succ]))
  refine wpSteady_nil (fun uA hSA => ?_)
  have hbA := hSA.old; have hzA := hSA.size; clear hSA; obtain ⟨hcoA, hfoA⟩ := bcell hbA
  intro K hK
  simp only [List.drop_succ_cons, List.drop_zero, List.take_succ_cons, List.take_zero]
  have zA := hbA.size
  go_wp2_with fail
  refine (ljoin_any xs ys _ _ uA ((rP'.out.below hbA).mono zA) ((rQ'.out.below hbA).mono zA) k1.out k2.out).mono ?_
  rintro e w3 ⟨hb3, va, rfl, oA⟩
  have z3 := hb3.size
  replace oA := Lib.hid oA
  go_wp2_with fail
  refine wpFrom_rest (Held w3 0 []) (by kernel_rfl) (by decide) ⟨Below.refl _ _, Nat.le_refl _, trivial⟩ ?_
  simp only [List.drop_succ_cons, List.drop_zero]
  repeat (first | (refine' wpSteady_do _ _ _; rotate_left; (focus rfl); (focus (intro w1 hS R hR; have hc := hS.cells; simp only [Cells] at hc; obtain ⟨hco, hfo⟩ := bcell hS.old; go_simp; (try go_bits); first | exact hR _ hS | fail)); simp only [Act.put, List.setIfInBounds_toArray, List.set_cons_zero, List.set_cons_succ]) | (refine wpSteady_pass ?_ ?_; (focus rfl); simp only [Act.put, List.setIfInBounds_toArray, List.set_cons_zero, List.set_cons_succ]))
  refine wpSteady_nil (fun uB hSB => ?_)
  have hbB := hSB.old; have hzB := hSB.size; clear hSB; obtain ⟨hcoB, hfoB⟩ := bcell hbB
  have hb2B : Below w2.heap.size w2 uB := (hbA.trans (hb3.mono zA)).trans (hbB.mono (by omega))
  have z2B := hb2B.size
  have oA' : Owns uA.heap.size uB va (joinL xs ys) := oA.out.below hbB (Nat.le_refl _)
  have oAlt : Hid (∀ g, va.ownBlock = some g → g < w3.heap.size) := Lib.hid (fun g hg => (oA.out.lt g hg).2)
  have z3B := hbB.size
  clear oA hcoA hfoA hcoB hfoB hb3 hzA hzB
  replace oA' := Lib.hid oA'
  go_wp2_with fail
  refine (rjoin_any xs ys _ _ uB ((rX.out.below hb2B).mono z2B) ((rY.out.below hb2B).mono z2B) k1.out k2.out).mono ?_
  rintro e w4 ⟨hb4, vc, rfl, oC⟩
  have z4 := hb4.size
  have hb24 : Below w2.heap.size w2 w4 := hb2B.trans (hb4.mono z2B)
  have z24 := hb24.size
  replace oC := Lib.hid oC
  have y0' : w4.cell? ⟨w.heap.size, 0, none⟩ = some (.int .i64 px) := (hb24.cell (p := ⟨w.heap.size, 0, none⟩) t0).trans y0
  have y1' : w4.cell? ⟨w.heap.size, 1, none⟩ = some (.int .i64 py) := (hb24.cell (p := ⟨w.heap.size, 1, none⟩) t0).trans y1
  have t0' : w.heap.size < w4.heap.size := by omega
  clear y0 y1
  go_wp2_with fail
  refine wp_region_call (Held w4 0 []) 5 (by kernel_rfl) (by kernel_rfl) (by decide) (by kernel_rfl) (by kernel_rfl) ⟨(by repeat (first | exact Below.refl _ _ | assumption | refine Below.drew ?_ | refine Below.alloc ?_ (by (try simp) <;> omega) _ | refine Below.setCell ?_ (by (try simp) <;> omega) _ | (refine Below.trans ?_ (Below.mono (by assumption) (by (try simp) <;> omega))))), (by (try simp) <;> omega), trivial⟩ ?_
  simp only [List.take_succ_cons, List.take_zero]
  repeat (first | (refine' wpSteady_do _ _ _; rotate_left; (focus rfl); (focus (intro w1 hS R hR; have hc := hS.cells; simp only [Cells] at hc; obtain ⟨hco, hfo⟩ := bcell hS.old; go_simp; (try go_bits); first | exact hR _ hS | fail)); simp only [Act.put, List.setIfInBounds_toArray, List.set_cons_zero, List.set_cons_succ]) | (refine wpSteady_pass ?_ ?_; (focus rfl); simp only [Act.put, List.setIfInBounds_toArray, List.set_cons_zero, List.set_cons_succ]))
  refine wpSteady_nil (fun uD hSD => ?_)
  have hbD := hSD.old; have hzD := hSD.size; clear hSD; obtain ⟨hcoD, hfoD⟩ := bcell hbD
  intro K hK
  simp only [List.drop_succ_cons, List.drop_zero, List.take_succ_cons, List.take_zero]
  have zD := hbD.size
  have hb2D : Below w2.heap.size w2 uD := hb24.trans (hbD.mono z24)
  have z2D := hb2D.size
  go_wp2_with fail
  refine (lmoved_any xs _ px py uD ((rP'.out.below hb2D).mono z2D) k1.out hpx hpy).mono ?_
  rintro e w5 ⟨hb5, vb, rfl, oB⟩
  have z5 := hb5.size
  replace oB := Lib.hid oB
  go_wp2_with fail
  refine wpFrom_rest (Held w5 0 []) (by kernel_rfl) (by decide) ⟨Below.refl _ _, Nat.le_refl _, trivial⟩ ?_
  simp only [List.drop_succ_cons, List.drop_zero]
  repeat (first | (refine' wpSteady_do _ _ _; rotate_left; (focus rfl); (focus (intro w1 hS R hR; have hc := hS.cells; simp only [Cells] at hc; obtain ⟨hco, hfo⟩ := bcell hS.old; go_simp; (try go_bits); first | exact hR _ hS | fail)); simp only [Act.put, List.setIfInBounds_toArray, List.set_cons_zero, List.set_cons_succ]) | (refine wpSteady_pass ?_ ?_; (focus rfl); simp only [Act.put, List.setIfInBounds_toArray, List.set_cons_zero, List.set_cons_succ]))
  refine wpSteady_nil (fun uE hSE => ?_)
  have hbE := hSE.old; have hzE := hSE.size; clear hSE; obtain ⟨hcoE, hfoE⟩ := bcell hbE
  have hb4E : Below w4.heap.size w4 uE := (hbD.trans (hb5.mono zD)).trans (hbE.mono (by omega))
  have hb2E : Below w2.heap.size w2 uE := hb24.trans (hb4E.mono z24)
  have z2E := hb2E.size
  have oB' : Owns uD.heap.size uE vb (mvL px py xs) := oB.out.below hbE (Nat.le_refl _)
  have x0 : uE.cell? ⟨w.heap.size, 0, none⟩ = some (.int .i64 px) := (hb4E.cell (p := ⟨w.heap.size, 0, none⟩) t0').trans y0'
  have x1 : uE.cell? ⟨w.heap.size, 1, none⟩ = some (.int .i64 py) := (hb4E.cell (p := ⟨w.heap.size, 1, none⟩) t0').trans y1'
  clear oB hcoD hfoD hcoE hfoE hb5 hzD hzE y0' y1'
  replace oB' := Lib.hid oB'
  go_wp2_with fail
  refine (rmoved_any xs _ px py uE ((rX.out.below hb2E).mono z2E) k1.out hpx hpy).mono ?_
  rintro e w6 ⟨hb6, vd, rfl, oD⟩
  have z6 := hb6.size
  have hb26 : Below w2.heap.size w2 w6 := hb2E.trans (hb6.mono z2E)
  have z26 := hb26.size
  have z4E := hb4E.size
  have hb46 : Below w4.heap.size w4 w6 := hb4E.trans (hb6.mono z4E)
  have hbB6 : Below uB.heap.size uB w6 := hb4.trans (hb46.mono z4)
  have o1 : Owns uA.heap.size w6 va (joinL xs ys) := oA'.out.below hbB6 (Nat.le_refl _)
  have o2 : Owns uB.heap.size w6 vc (joinL xs ys) := oC.out.below hb46 (Nat.le_refl _)
  have o3 : Owns uD.heap.size w6 vb (mvL px py xs) := oB'.out.below hb6 (Nat.le_refl _)
  have l1 := joinL_len xs ys
  have l2 := mvL_len px py xs
  rw [en.out, em.out] at l1
  rw [en.out] at l2
  have SA : ∀ w1, Below w6.heap.size w6 w1 → Calls Try.prog 12 #[va, vc] w1 fun e w' => e = .returned (.bool true) ∧ Below w1.heap.size w1 w' := fun w1 hb => by
    have := rsame_any (joinL xs ys) (joinL xs ys) va vc w1 (((o1.row (Nat.le_refl _)).below hb).mono hb.size) (((o2.row (Nat.le_refl _)).below hb).mono hb.size) (by omega) (by omega)
    rw [sameL_refl] at this
    exact this
  have SB : ∀ w1, Below w6.heap.size w6 w1 → Calls Try.prog 12 #[vb, vd] w1 fun e w' => e = .returned (.bool true) ∧ Below w1.heap.size w1 w' := fun w1 hb => by
    have := rsame_any (mvL px py xs) (mvL px py xs) vb vd w1 (((o3.row (Nat.le_refl _)).below hb).mono hb.size) (((oD.row (Nat.le_refl _)).below hb).mono hb.size) (by omega) (by omega)
    rw [sameL_refl] at this
    exact this
  have SC : ∀ w1, Below w6.heap.size w6 w1 → Calls Try.prog 13 #[.slice (some ⟨g3, f3, none⟩) n c3, .slice (some ⟨g4, f4, none⟩) m c4] w1 fun e w' => e = .returned (.bool (sameL xs ys)) ∧ Below w1.heap.size w1 w' := fun w1 hb =>
    lsame_any xs ys _ _ w1 (((rP'.out.below hb26).mono z26 |>.below hb).mono hb.size) (((rQ'.out.below hb26).mono z26 |>.below hb).mono hb.size) (by rw [en.out]; omega) (by rw [em.out]; omega)
  have SD : ∀ w1, Below w6.heap.size w6 w1 → Calls Try.prog 12 #[.slice s1 n c1, .slice s2 m c2] w1 fun e w' => e = .returned (.bool (sameL xs ys)) ∧ Below w1.heap.size w1 w' := fun w1 hb =>
    rsame_any xs ys _ _ w1 (((rX.out.below hb26).mono z26 |>.below hb).mono hb.size) (((rY.out.below hb26).mono z26 |>.below hb).mono hb.size) (by rw [en.out]; omega) (by rw [em.out]; omega)
  replace SA := Lib.hid SA
  replace SB := Lib.hid SB
  replace SC := Lib.hid SC
  replace SD := Lib.hid SD
  clear oA' oC oB' o2 oD x0 x1 hb2B hb2D hb2E hb24 hb4 hb6 hb4E hb46 hbB6 hbB hbE
  replace o1 := Lib.hid o1
  replace o3 := Lib.hid o3
  go_wp2_with fail
  refine wp_region_steady (Held w6 0 []) (by kernel_rfl) (by kernel_rfl) ⟨(by repeat (first | exact Below.refl _ _ | assumption | refine Below.drew ?_ | refine Below.alloc ?_ (by (try simp) <;> omega) _ | refine Below.setCell ?_ (by (try simp) <;> omega) _ | (refine Below.trans ?_ (Below.mono (by assumption) (by (try simp) <;> omega))))), (by (try simp) <;> omega), (by first | exact trivial | (simp only [Cells]; go_simp))⟩ ?_
  repeat (first | (refine' wpSteady_do _ _ _; rotate_left; (focus rfl); (focus (intro w1 hS R hR; have hc := hS.cells; simp only [Cells] at hc; obtain ⟨hco, hfo⟩ := bcell hS.old; go_simp; (try go_bits); first | exact hR _ hS | first | (go_at_call 12; (with_reducible refine (SA.out _ hS.old).mono ?_); rintro e w2 ⟨rfl, hb2⟩; exact ⟨_, rfl, hR _ (hS.below hb2)⟩) | (go_at_call 12; (with_reducible refine (SB.out _ hS.old).mono ?_); rintro e w2 ⟨rfl, hb2⟩; exact ⟨_, rfl, hR _ (hS.below hb2)⟩) | (go_at_call 13; (with_reducible refine (SC.out _ hS.old).mono ?_); rintro e w2 ⟨rfl, hb2⟩; exact ⟨_, rfl, hR _ (hS.below hb2)⟩) | (go_at_call 12; (with_reducible refine (SD.out _ hS.old).mono ?_); rintro e w2 ⟨rfl, hb2⟩; exact ⟨_, rfl, hR _ (hS.below hb2)⟩))); simp only [Act.put, List.setIfInBounds_toArray, List.set_cons_zero, List.set_cons_succ]) | (refine wpSteady_pass ?_ ?_; (focus rfl); simp only [Act.put, List.setIfInBounds_toArray, List.set_cons_zero, List.set_cons_succ]))
  refine wpSteady_nil (fun uF hSF => ?_)
  have hcF := hSF.cells; have hbF := hSF.old; have hzF := hSF.size; clear hSF; simp only [Cells] at hcF; obtain ⟨hcoF, hfoF⟩ := bcell hbF
  have hb2F : Below w2.heap.size w2 uF := hb26.trans (hbF.mono z26)
  have o1F : Owns uA.heap.size uF va (joinL xs ys) := o1.out.below hbF (Nat.le_refl _)
  have o3F : Owns uD.heap.size uF vb (mvL px py xs) := o3.out.below hbF (Nat.le_refl _)
  clear SA SB SC SD o1 o3 hcF hcoF hfoF hb26
  replace o3F := Lib.hid o3F
  replace o1F := Lib.hid o1F
  go_wp2_with fail
  refine (spoil_any _ (joinL xs ys) va uF o1F.out (by omega)).mono ?_
  rintro e w7 ⟨rfl, hg7⟩
  have lt1 := fun g hg => o1F.out.lt g hg
  have hb27 : Below w2.heap.size w2 w7 := hb2F.grown hg7 hb2F.size (fun g hg => Nat.le_trans zA (lt1 g hg).1)
  have hown : uA.heap.size ≤ uF.heap.size := by have := hb2F.size; omega
  have o37 : Owns uD.heap.size w7 vb (mvL px py xs) := own_keep o3F.out hg7 (fun g h3 h1 => by
    have a := (oAlt.out g h1)
    have b := (o3F.out.lt g h3).1
    omega)
  clear o1F o3F hg7 lt1 hb2F
  replace o37 := Lib.hid o37
  go_wp2_with fail
  refine (spoil_any _ (mvL px py xs) vb w7 o37.out (by omega)).mono ?_
  rintro e w8 ⟨rfl, hg8⟩
  have hb28 : Below w2.heap.size w2 w8 := hb27.grown hg8 hb27.size (fun g hg => Nat.le_trans z2D (o37.out.lt g hg).1)
  have z28 := hb28.size
  clear hb27 hg8 o37
  go_wp2_with fail
  refine (kept_any xs _ _ w8 ((by have := (rP.out.below hb28).mono z28; exact this)) ((by have := (rX.out.below hb28).mono z28; exact this)) (by rw [en.out]; omega)).mono ?_
  rintro e w9 ⟨rfl, hb9⟩
  have hb29 : Below w2.heap.size w2 w9 := hb28.trans (hb9.mono z28)
  have z29 := hb29.size
  go_wp2_with fail
  refine (kept_any ys _ _ w9 ((by have := (rQ.out.below hb29).mono z29; exact this)) ((by have := (rY.out.below hb29).mono z29; exact this)) (by rw [em.out]; omega)).mono ?_
  rintro e w10 ⟨rfl, hb10⟩
  have hb210 : Below w2.heap.size w2 w10 := hb29.trans (hb10.mono z29)
  go_wp2
  go_ret
  exact ⟨rfl, hb02.trans (hb210.mono z02)⟩
end Go.Proofs.Ytkmofpnefjgnkaa
