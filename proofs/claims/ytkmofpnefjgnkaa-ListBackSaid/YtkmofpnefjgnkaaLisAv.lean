/-
  'alive' of the laws is true.
-/
import Derived.Test.YtkmofpnefjgnkaaLisAl
namespace Go.Proofs.Ytkmofpnefjgnkaa
open Go.RowKit
set_option linter.unusedVariables false
attribute [local go_sem] vwp vUpon_value vUpon_skip vUpon_enter vUpon_row
set_option linter.unusedSimpArgs false
set_option linter.unusedVariables false
attribute [local go_sem high] eql_rect neq_rect
theorem al_wf1 : ∀ s ∈ [sC 0 0 2 2, sF 0 0 4 4, sO], s.Wf := by
  intro s hs
  simp only [List.mem_cons, List.not_mem_nil, or_false] at hs
  rcases hs with rfl | rfl | rfl
  · exact sC_wf (by omega) (by omega) (by omega) (by omega)
  · exact sF_wf (by omega) (by omega) (by omega) (by omega)
  · exact sO_wf
theorem al_wf2 : ∀ s ∈ [sF 1 1 1 1, sF 0 0 4 4], s.Wf := by
  intro s hs
  simp only [List.mem_cons, List.not_mem_nil, or_false] at hs
  rcases hs with rfl | rfl
  · exact sF_wf (by omega) (by omega) (by omega) (by omega)
  · exact sF_wf (by omega) (by omega) (by omega) (by omega)
theorem flat_al (v : Value) (w : World) (h : Row w.heap.size 15 St.enc w v [sC 0 0 2 2, sF 0 0 4 4, sO]) : Calls Try.prog 19 #[v] w (OutF w.heap.size [sF 0 0 4 4] [⟨0, 0, 2, 2⟩] 0 w) := by
  have := lflat_any _ v w h al_wf1
  rw [al_one.1, al_one.2.1, al_one.2.2] at this
  exact this
theorem norm_al (v : Value) (w : World) (h : Row w.heap.size 15 St.enc w v [sF 1 1 1 1, sF 0 0 4 4]) : Calls Try.prog 22 #[v] w (OutU w.heap.size [sF 0 0 4 4] 0 w) := by
  have := lnorm_any _ v w h al_wf2
  rw [al_two.1, al_two.2] at this
  exact this
set_option maxHeartbeats 2000000 in
set_option maxRecDepth 100000 in
theorem alive_any (w : World) : Calls Try.prog 16 #[] w fun e w' => e = .returned (.bool true) ∧ Below w.heap.size w w' := by
  have e1 : eq4 0 0 2 2 0 0 2 2 = true := rfl
  have e2 : eq4 0 0 4 4 0 0 4 4 = true := rfl
  go_enter Try.func16, Try.ntmps16
  go_wp2_with fail
  refine (mkr_any _ _ _ _ _).mono ?_
  rintro e w1 ⟨rfl, hb1⟩
  have z1 := hb1.size
  go_wp2_with fail
  refine (clip_any _ _ _ _ _).mono ?_
  rintro e w2 ⟨rfl, hb2⟩
  have z2 := hb2.size
  go_wp2_with fail
  refine (mkr_any _ _ _ _ _).mono ?_
  rintro e w3 ⟨rfl, hb3⟩
  have z3 := hb3.size
  go_wp2_with fail
  refine (fill_any _ _ _ _ _).mono ?_
  rintro e w4 ⟨rfl, hb4⟩
  have z4 := hb4.size
  go_wp2_with fail
  refine (mkopen_any _).mono ?_
  rintro e w5 ⟨rfl, hb5⟩
  have z5 := hb5.size
  have hb05 : Below w.heap.size w w5 := (((hb1.trans (hb2.mono z1)).trans (hb3.mono (by omega))).trans (hb4.mono (by omega))).trans (hb5.mono (by omega))
  clear hb1 hb2 hb3 hb4 hb5
  go_wp2_with fail
  refine (of_any _ _ _ _).mono ?_
  rintro e w6 ⟨rfl, rfl⟩
  go_wp2_with fail
  refine (flat_al _ _ (Blk.row St.enc_len (Blk.new' rfl) rfl (by decide) (by unfold maxLen; decide) (by simp))).mono ?_
  rintro e w7 ⟨hb7, v1, v2, rfl, own1, own2, ap⟩
  have hb07 : Below w.heap.size w w7 := (hb05.alloc (by have := hb05.size; omega) _).trans (hb7.mono (by have := hb05.size; simp; omega))
  have z07 := hb07.size
  have o1 : w7.ownsRow (w5.alloc (.cells _ _)).heap.size 45 15 v1 1 ([sF 0 0 4 4].flatMap St.enc) := own1
  have o2 : w7.ownsRow (w5.alloc (.cells _ _)).heap.size 41 4 v2 1 (([⟨0, 0, 2, 2⟩] : List Re).flatMap Re.enc) := own2
  obtain ⟨s1, c1, rfl⟩ := own_slice o1
  obtain ⟨s2, c2, rfl⟩ := own_slice o2
  obtain ⟨g2, rfl, _, hg2⟩ := own_addr o2 (by omega)
  obtain ⟨r0, r1, r2, r3⟩ := own_rmem (rs := [⟨0, 0, 2, 2⟩]) (k := 0) (q := ⟨0, 0, 2, 2⟩) own2 rfl
  simp only [Nat.zero_mul, Nat.zero_add] at r0 r1 r2 r3
  have hR := Lib.hid (And.intro r0 (And.intro r1 (And.intro r2 r3)))
  clear hb7 own1 own2 o1 o2 ap r0 r1 r2 r3 hb05
  go_wp2_with fail
  refine (mkr_any _ _ _ _ _).mono ?_
  rintro e w8 ⟨rfl, hb8⟩
  have z8 := hb8.size
  go_wp2_with fail
  refine (fill_any _ _ _ _ _).mono ?_
  rintro e w9 ⟨rfl, hb9⟩
  have z9 := hb9.size
  go_wp2_with fail
  refine (mkr_any _ _ _ _ _).mono ?_
  rintro e w10 ⟨rfl, hb10⟩
  have z10 := hb10.size
  go_wp2_with fail
  refine (fill_any _ _ _ _ _).mono ?_
  rintro e w11 ⟨rfl, hb11⟩
  have z11 := hb11.size
  have hb711 : Below w7.heap.size w7 w11 := ((hb8.trans (hb9.mono z8)).trans (hb10.mono (by omega))).trans (hb11.mono (by omega))
  clear hb8 hb9 hb10 hb11
  go_wp2_with fail
  refine (of_any _ _ _ _).mono ?_
  rintro e w12 ⟨rfl, rfl⟩
  go_wp2_with fail
  refine (norm_al _ _ (Blk.row St.enc_len (Blk.new' rfl) rfl (by decide) (by unfold maxLen; decide) (by simp))).mono ?_
  rintro e w13 ⟨hb13, v3, rfl, own3⟩
  have hb7n : Below w7.heap.size w7 w13 := (hb711.alloc (by have := hb711.size; omega) _).trans (hb13.mono (by have := hb711.size; simp; omega))
  have o3 : w13.ownsRow (w11.alloc (.cells _ _)).heap.size 45 15 v3 1 ([sF 0 0 4 4].flatMap St.enc) := own3
  obtain ⟨s3, c3, rfl⟩ := own_slice o3
  obtain ⟨g3, rfl, _, hg3⟩ := own_addr o3 (by omega)
  obtain ⟨k0, k1, k2, k3, k4, _⟩ := own_smem (xs := [sF 0 0 4 4]) (k := 0) (s := sF 0 0 4 4) own3 rfl
  simp only [Nat.zero_mul, Nat.zero_add, sF] at k1 k2 k3 k4
  obtain ⟨r0, r1, r2, r3⟩ := hR.out
  have R0 := (hb7n.cell (p := ⟨g2, 0, none⟩) hg2).trans r0
  have R1 := (hb7n.cell (p := ⟨g2, 1, none⟩) hg2).trans r1
  have R2 := (hb7n.cell (p := ⟨g2, 2, none⟩) hg2).trans r2
  have R3 := (hb7n.cell (p := ⟨g2, 3, none⟩) hg2).trans r3
  have yg2 : g2 < w13.heap.size := Nat.lt_of_lt_of_le hg2 hb7n.size
  have hb0n := hb07.trans (hb7n.mono z07)
  have zn := hb0n.size
  clear hR hb13 own3 o3 r0 r1 r2 r3 hb711 hb7n k0
  go_wp2_with fail
  refine wp_region_steady (Held w13 0 []) (by kernel_rfl) (by kernel_rfl) ⟨(by repeat (first | exact Below.refl _ _ | assumption | refine Below.drew ?_ | refine Below.alloc ?_ (by (try simp) <;> omega) _ | refine Below.setCell ?_ (by (try simp) <;> omega) _ | (refine Below.trans ?_ (Below.mono (by assumption) (by (try simp) <;> omega))))), (by (try simp) <;> omega), (by first | exact trivial | (simp only [Cells]; go_simp))⟩ ?_
  repeat (first | (refine' wpSteady_do _ _ _; rotate_left; (focus rfl); (focus (intro w1 hS R hR; have hc := hS.cells; simp only [Cells] at hc; obtain ⟨hco, hfo⟩ := bcell hS.old; go_simp; (try go_bits); first | exact hR _ hS | (go_at_call 29; (with_reducible refine (mkr_any _ _ _ _ _).mono ?_); rintro e w2 ⟨rfl, hb2⟩; exact ⟨_, rfl, hR _ (hS.below hb2)⟩))); simp only [Act.put, List.setIfInBounds_toArray, List.set_cons_zero, List.set_cons_succ]) | (refine wpSteady_pass ?_ ?_; (focus rfl); simp only [Act.put, List.setIfInBounds_toArray, List.set_cons_zero, List.set_cons_succ]))
  refine wpSteady_nil (fun uZ hSZ => ?_)
  have hcZ := hSZ.cells; have hbZ := hSZ.old; have hzZ := hSZ.size; clear hSZ; simp only [Cells] at hcZ; obtain ⟨hcoZ, hfoZ⟩ := bcell hbZ
  have hbz := hb0n.trans (hbZ.mono zn)
  go_wp2
  go_ret
  exact ⟨rfl, hbz⟩
end Go.Proofs.Ytkmofpnefjgnkaa
