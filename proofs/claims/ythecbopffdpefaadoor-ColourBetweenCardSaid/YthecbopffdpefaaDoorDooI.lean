/-
  colour.Text walked.
-/
import Derived.Test.YthecbopffdpefaaDoorDooH
namespace Go.Proofs.YthecbopffdpefaaDoor
open Go.RowKit
set_option linter.unusedVariables false
attribute [local go_sem] vwp vUpon_value vUpon_skip vUpon_enter vUpon_row
set_option linter.unusedSimpArgs false
set_option linter.unusedVariables false
theorem nib17 (r : Int) (r1 r2 : Nat) (h : r = 16 * r1 + r2) (h1 : r1 < 16) (h2 : r2 < 16) : decide (r % 17 = 0) = decide (r1 = r2) := by
  by_cases e : r1 = r2
  · subst e; simp; omega
  · simp [e]; omega
theorem and15b (n1 n2 : Nat) (h1 : n1 < 16) (h2 : n2 < 16) : bits .and .u8 (16 * (n1 : Int) + n2) 15 = (n2 : Int) := by
  have e : (16 * (n1 : Int) + n2) = ((16 * n1 + n2 : Nat) : Int) := by omega
  rw [e]
  show bits .and .u8 _ ((15 : Nat) : Int) = _
  rw [u8_and_nat _ 15 (by omega) (by omega)]
  have : (16 * n1 + n2) &&& 15 = (16 * n1 + n2) % 16 := Nat.and_two_pow_sub_one_eq_mod _ 4
  rw [this]
  omega
theorem shortS (x : Nib) : strOfNums [35, dig x.r1, dig x.g1, dig x.b1] = ⟨#[35, hxU x.r1, hxU x.g1, hxU x.b1]⟩ := by
  simp [strOfNums, dig]
set_option maxHeartbeats 2000000 in
theorem ltext_short (r g b : Int) (x : Nib) (w : World) (h : x.Of r g b 255) (hs : x.short = true) : Calls Tryd.prog 11 #[.agg #[.int .u8 (r), .int .u8 (g), .int .u8 (b), .int .u8 (255)]] w fun e w' => e = .returned (.string (⟨#[35, hxU x.r1, hxU x.g1, hxU x.b1]⟩)) ∧ Below w.heap.size w w' := by
  obtain ⟨iB, hi0, hz0, hz1, hz2⟩ := info_parts infoB
  obtain ⟨⟨er, hr1, hr2⟩, ⟨eg, hg1, hg2⟩, ⟨eb, hb1, hb2⟩, ea⟩ := h
  clear ea
  unfold Nib.short at hs
  simp at hs
  obtain ⟨c1, c2, c3⟩ := hs
  have R := fun w => short_any r w ⟨by omega, by omega⟩
  have G := fun w => short_any g w ⟨by omega, by omega⟩
  have B := fun w => short_any b w ⟨by omega, by omega⟩
  rw [nib17 r _ _ er hr1 hr2, decide_eq_true c1] at R
  rw [nib17 g _ _ eg hg1 hg2, decide_eq_true c2] at G
  rw [nib17 b _ _ eb hb1 hb2, decide_eq_true c3] at B
  have q0 : r / 17 = (x.r1 : Int) := by omega
  have q1 : g / 17 = (x.g1 : Int) := by omega
  have q2 : b / 17 = (x.b1 : Int) := by omega
  have D0 := fun w => dig_ix x.r1 hr1 w
  have D1 := fun w => dig_ix x.g1 hg1 w
  have D2 := fun w => dig_ix x.b1 hb1 w
  have fs := shortS x
  have r0 : 0 ≤ r ∧ r ≤ 255 := by omega
  have g0 : 0 ≤ g ∧ g ≤ 255 := by omega
  have b0 : 0 ≤ b ∧ b ≤ 255 := by omega
  have q0 : r.tdiv 17 % 256 = (x.r1 : Int) := by rw [Int.tdiv_eq_ediv_of_nonneg r0.1, q0]; omega
  have q1 : g.tdiv 17 % 256 = (x.g1 : Int) := by rw [Int.tdiv_eq_ediv_of_nonneg g0.1, q1]; omega
  have q2 : b.tdiv 17 % 256 = (x.b1 : Int) := by rw [Int.tdiv_eq_ediv_of_nonneg b0.1, q2]; omega
  clear r0 g0 b0
  generalize dig x.r1 = d0 at *
  generalize dig x.g1 = d1 at *
  generalize dig x.b1 = d2 at *
  replace fs := Lib.hid fs
  replace R := Lib.hid R
  replace G := Lib.hid G
  replace B := Lib.hid B
  clear er eg eb c1 c2 c3
  go_enter Tryd.func11, Tryd.ntmps11
  go_wp2_with (first
    | (go_at_call 29; (with_reducible refine (R.out _).mono ?_); rintro e w1 ⟨rfl, rfl⟩)
    | (go_at_call 29; (with_reducible refine (G.out _).mono ?_); rintro e w1 ⟨rfl, rfl⟩)
    | (go_at_call 29; (with_reducible refine (B.out _).mono ?_); rintro e w1 ⟨rfl, rfl⟩)
    | go_in)
  have k0 : ((w.alloc (.cells #[.int .u8 r, .int .u8 g, .int .u8 b, .int .u8 255] 23)).alloc (.cells #[.int .u8 35] 5)).cell? ⟨w.heap.size, 0, none⟩ = some (.int .u8 r) := by go_simp
  have k1 : ((w.alloc (.cells #[.int .u8 r, .int .u8 g, .int .u8 b, .int .u8 255] 23)).alloc (.cells #[.int .u8 35] 5)).cell? ⟨w.heap.size, 1, none⟩ = some (.int .u8 g) := by go_simp
  have k2 : ((w.alloc (.cells #[.int .u8 r, .int .u8 g, .int .u8 b, .int .u8 255] 23)).alloc (.cells #[.int .u8 35] 5)).cell? ⟨w.heap.size, 2, none⟩ = some (.int .u8 b) := by go_simp
  have kz : w.heap.size < ((w.alloc (.cells #[.int .u8 r, .int .u8 g, .int .u8 b, .int .u8 255] 23)).alloc (.cells #[.int .u8 35] 5)).heap.size := by simp; omega
  have hbv : Below w.heap.size w ((w.alloc (.cells #[.int .u8 r, .int .u8 g, .int .u8 b, .int .u8 255] 23)).alloc (.cells #[.int .u8 35] 5)) := ((Below.refl _ _).alloc (Nat.le_refl _) _).alloc (by simp) _
  have h35 : ((w.alloc (.cells #[.int .u8 r, .int .u8 g, .int .u8 b, .int .u8 255] 23)).alloc (.cells #[.int .u8 35] 5)).ownsRow (w.heap.size + 1) 5 1 (.slice (some ⟨w.heap.size + 1, 0, none⟩) 1 1) 1 (vB [35]) := by
    have := World.ownsRow_lit (base := w.heap.size + 1) (e := 5) (size := 1) (w.alloc (.cells #[.int .u8 r, .int .u8 g, .int .u8 b, .int .u8 255] 23)) #[.int .u8 35] 1 (by simp) (by unfold maxLen; omega) rfl
    simpa [vB] using this
  obtain ⟨wv, hwv⟩ : ∃ wv, (w.alloc (.cells #[.int .u8 r, .int .u8 g, .int .u8 b, .int .u8 255] 23)).alloc (.cells #[.int .u8 35] 5) = wv := ⟨_, rfl⟩
  rw [hwv] at k0 k1 k2 kz hbv h35 ⊢
  clear hwv
  refine held_begin (fun w' => w'.cell? ⟨w.heap.size, 0, none⟩ = some (.int .u8 r) ∧ w'.cell? ⟨w.heap.size, 1, none⟩ = some (.int .u8 g) ∧ w'.cell? ⟨w.heap.size, 2, none⟩ = some (.int .u8 b)) (by kernel_rfl) ⟨by go_simp, by go_simp, by go_simp⟩ (fun hS => ?_)
  (first | (refine' held_do (i := 0) _ (by kernel_rfl) (by kernel_rfl) (by kernel_rfl) _ _ hS _ _; rotate_left 2; (focus (simp only [List.getElem?_toArray, List.getElem?_cons_succ, List.getElem?_cons_zero]; rfl)); (focus exact fun _ _ _ h => h); (focus rfl); (focus (intro w1 hSS R hR; have hc := hSS; (try simp only [Held, Cells] at hc); go_simp; (try go_bits); exact hR)); simp only [Act.put, List.setIfInBounds_toArray, List.set_cons_zero, List.set_cons_succ]) | (refine' held_pass (i := 0) _ (by kernel_rfl) (by kernel_rfl) (by kernel_rfl) _ _ hS _; rotate_left; (focus (simp only [List.getElem?_toArray, List.getElem?_cons_succ, List.getElem?_cons_zero]; rfl)); (focus exact fun _ _ _ h => h); (focus rfl); simp only [Act.put, List.setIfInBounds_toArray, List.set_cons_zero, List.set_cons_succ]))
  (first | (refine' held_do (i := 1) _ (by kernel_rfl) (by kernel_rfl) (by kernel_rfl) _ _ hS _ _; rotate_left 2; (focus (simp only [List.getElem?_toArray, List.getElem?_cons_succ, List.getElem?_cons_zero]; rfl)); (focus exact fun _ _ _ h => h); (focus rfl); (focus (intro w1 hSS R hR; have hc := hSS; (try simp only [Held, Cells] at hc); go_simp; (try go_bits); exact hR)); simp only [Act.put, List.setIfInBounds_toArray, List.set_cons_zero, List.set_cons_succ]) | (refine' held_pass (i := 1) _ (by kernel_rfl) (by kernel_rfl) (by kernel_rfl) _ _ hS _; rotate_left; (focus (simp only [List.getElem?_toArray, List.getElem?_cons_succ, List.getElem?_cons_zero]; rfl)); (focus exact fun _ _ _ h => h); (focus rfl); simp only [Act.put, List.setIfInBounds_toArray, List.set_cons_zero, List.set_cons_succ]))
  (first | (refine' held_do (i := 2) _ (by kernel_rfl) (by kernel_rfl) (by kernel_rfl) _ _ hS _ _; rotate_left 2; (focus (simp only [List.getElem?_toArray, List.getElem?_cons_succ, List.getElem?_cons_zero]; rfl)); (focus exact fun _ _ _ h => h); (focus rfl); (focus (intro w1 hSS R hR; have hc := hSS; (try simp only [Held, Cells] at hc); go_simp; (try go_bits); exact hR)); simp only [Act.put, List.setIfInBounds_toArray, List.set_cons_zero, List.set_cons_succ]) | (refine' held_pass (i := 2) _ (by kernel_rfl) (by kernel_rfl) (by kernel_rfl) _ _ hS _; rotate_left; (focus (simp only [List.getElem?_toArray, List.getElem?_cons_succ, List.getElem?_cons_zero]; rfl)); (focus exact fun _ _ _ h => h); (focus rfl); simp only [Act.put, List.setIfInBounds_toArray, List.set_cons_zero, List.set_cons_succ]))
  (first | (refine' held_do (i := 3) _ (by kernel_rfl) (by kernel_rfl) (by kernel_rfl) _ _ hS _ _; rotate_left 2; (focus (simp only [List.getElem?_toArray, List.getElem?_cons_succ, List.getElem?_cons_zero]; rfl)); (focus exact fun _ _ _ h => h); (focus rfl); (focus (intro w1 hSS R hR; have hc := hSS; (try simp only [Held, Cells] at hc); go_simp; (try go_bits); exact hR)); simp only [Act.put, List.setIfInBounds_toArray, List.set_cons_zero, List.set_cons_succ]) | (refine' held_pass (i := 3) _ (by kernel_rfl) (by kernel_rfl) (by kernel_rfl) _ _ hS _; rotate_left; (focus (simp only [List.getElem?_toArray, List.getElem?_cons_succ, List.getElem?_cons_zero]; rfl)); (focus exact fun _ _ _ h => h); (focus rfl); simp only [Act.put, List.setIfInBounds_toArray, List.set_cons_zero, List.set_cons_succ]))
  (first | (refine' held_do (i := 4) _ (by kernel_rfl) (by kernel_rfl) (by kernel_rfl) _ _ hS _ _; rotate_left 2; (focus (simp only [List.getElem?_toArray, List.getElem?_cons_succ, List.getElem?_cons_zero]; rfl)); (focus exact fun _ _ _ h => h); (focus rfl); (focus (intro w1 hSS R hR; have hc := hSS; (try simp only [Held, Cells] at hc); go_simp; (try go_bits); exact hR)); simp only [Act.put, List.setIfInBounds_toArray, List.set_cons_zero, List.set_cons_succ]) | (refine' held_pass (i := 4) _ (by kernel_rfl) (by kernel_rfl) (by kernel_rfl) _ _ hS _; rotate_left; (focus (simp only [List.getElem?_toArray, List.getElem?_cons_succ, List.getElem?_cons_zero]; rfl)); (focus exact fun _ _ _ h => h); (focus rfl); simp only [Act.put, List.setIfInBounds_toArray, List.set_cons_zero, List.set_cons_succ]))
  (first | (refine' held_do (i := 5) _ (by kernel_rfl) (by kernel_rfl) (by kernel_rfl) _ _ hS _ _; rotate_left 2; (focus (simp only [List.getElem?_toArray, List.getElem?_cons_succ, List.getElem?_cons_zero]; rfl)); (focus exact fun _ _ _ h => h); (focus rfl); (focus (intro w1 hSS R hR; have hc := hSS; (try simp only [Held, Cells] at hc); go_simp; (try go_bits); exact hR)); simp only [Act.put, List.setIfInBounds_toArray, List.set_cons_zero, List.set_cons_succ]) | (refine' held_pass (i := 5) _ (by kernel_rfl) (by kernel_rfl) (by kernel_rfl) _ _ hS _; rotate_left; (focus (simp only [List.getElem?_toArray, List.getElem?_cons_succ, List.getElem?_cons_zero]; rfl)); (focus exact fun _ _ _ h => h); (focus rfl); simp only [Act.put, List.setIfInBounds_toArray, List.set_cons_zero, List.set_cons_succ]))
  (first | (refine' held_do (i := 6) _ (by kernel_rfl) (by kernel_rfl) (by kernel_rfl) _ _ hS _ _; rotate_left 2; (focus (simp only [List.getElem?_toArray, List.getElem?_cons_succ, List.getElem?_cons_zero]; rfl)); (focus exact fun _ _ _ h => h); (focus rfl); (focus (intro w1 hSS R hR; have hc := hSS; (try simp only [Held, Cells] at hc); go_simp; (try go_bits); exact hR)); simp only [Act.put, List.setIfInBounds_toArray, List.set_cons_zero, List.set_cons_succ]) | (refine' held_pass (i := 6) _ (by kernel_rfl) (by kernel_rfl) (by kernel_rfl) _ _ hS _; rotate_left; (focus (simp only [List.getElem?_toArray, List.getElem?_cons_succ, List.getElem?_cons_zero]; rfl)); (focus exact fun _ _ _ h => h); (focus rfl); simp only [Act.put, List.setIfInBounds_toArray, List.set_cons_zero, List.set_cons_succ]))
  (first | (refine' held_do (i := 7) _ (by kernel_rfl) (by kernel_rfl) (by kernel_rfl) _ _ hS _ _; rotate_left 2; (focus (simp only [List.getElem?_toArray, List.getElem?_cons_succ, List.getElem?_cons_zero]; rfl)); (focus exact fun _ _ _ h => h); (focus rfl); (focus (intro w1 hSS R hR; have hc := hSS; (try simp only [Held, Cells] at hc); go_simp; (try go_bits); exact hR)); simp only [Act.put, List.setIfInBounds_toArray, List.set_cons_zero, List.set_cons_succ]) | (refine' held_pass (i := 7) _ (by kernel_rfl) (by kernel_rfl) (by kernel_rfl) _ _ hS _; rotate_left; (focus (simp only [List.getElem?_toArray, List.getElem?_cons_succ, List.getElem?_cons_zero]; rfl)); (focus exact fun _ _ _ h => h); (focus rfl); simp only [Act.put, List.setIfInBounds_toArray, List.set_cons_zero, List.set_cons_succ]))
  (first | (refine' held_do (i := 8) _ (by kernel_rfl) (by kernel_rfl) (by kernel_rfl) _ _ hS _ _; rotate_left 2; (focus (simp only [List.getElem?_toArray, List.getElem?_cons_succ, List.getElem?_cons_zero]; rfl)); (focus exact fun _ _ _ h => h); (focus rfl); (focus (intro w1 hSS R hR; have hc := hSS; (try simp only [Held, Cells] at hc); go_simp; (try go_bits); exact hR)); simp only [Act.put, List.setIfInBounds_toArray, List.set_cons_zero, List.set_cons_succ]) | (refine' held_pass (i := 8) _ (by kernel_rfl) (by kernel_rfl) (by kernel_rfl) _ _ hS _; rotate_left; (focus (simp only [List.getElem?_toArray, List.getElem?_cons_succ, List.getElem?_cons_zero]; rfl)); (focus exact fun _ _ _ h => h); (focus rfl); simp only [Act.put, List.setIfInBounds_toArray, List.set_cons_zero, List.set_cons_succ]))
  (first | (refine' held_do (i := 9) _ (by kernel_rfl) (by kernel_rfl) (by kernel_rfl) _ _ hS _ _; rotate_left 2; (focus (simp only [List.getElem?_toArray, List.getElem?_cons_succ, List.getElem?_cons_zero]; rfl)); (focus exact fun _ _ _ h => h); (focus rfl); (focus (intro w1 hSS R hR; have hc := hSS; (try simp only [Held, Cells] at hc); go_simp; (try go_bits); exact hR)); simp only [Act.put, List.setIfInBounds_toArray, List.set_cons_zero, List.set_cons_succ]) | (refine' held_pass (i := 9) _ (by kernel_rfl) (by kernel_rfl) (by kernel_rfl) _ _ hS _; rotate_left; (focus (simp only [List.getElem?_toArray, List.getElem?_cons_succ, List.getElem?_cons_zero]; rfl)); (focus exact fun _ _ _ h => h); (focus rfl); simp only [Act.put, List.setIfInBounds_toArray, List.set_cons_zero, List.set_cons_succ]))
  (first | (refine' held_do (i := 10) _ (by kernel_rfl) (by kernel_rfl) (by kernel_rfl) _ _ hS _ _; rotate_left 2; (focus (simp only [List.getElem?_toArray, List.getElem?_cons_succ, List.getElem?_cons_zero]; rfl)); (focus exact fun _ _ _ h => h); (focus rfl); (focus (intro w1 hSS R hR; have hc := hSS; (try simp only [Held, Cells] at hc); go_simp; (try go_bits); exact hR)); simp only [Act.put, List.setIfInBounds_toArray, List.set_cons_zero, List.set_cons_succ]) | (refine' held_pass (i := 10) _ (by kernel_rfl) (by kernel_rfl) (by kernel_rfl) _ _ hS _; rotate_left; (focus (simp only [List.getElem?_toArray, List.getElem?_cons_succ, List.getElem?_cons_zero]; rfl)); (focus exact fun _ _ _ h => h); (focus rfl); simp only [Act.put, List.setIfInBounds_toArray, List.set_cons_zero, List.set_cons_succ]))
  (first | (refine' held_do (i := 11) _ (by kernel_rfl) (by kernel_rfl) (by kernel_rfl) _ _ hS _ _; rotate_left 2; (focus (simp only [List.getElem?_toArray, List.getElem?_cons_succ, List.getElem?_cons_zero]; rfl)); (focus exact fun _ _ _ h => h); (focus rfl); (focus (intro w1 hSS R hR; have hc := hSS; (try simp only [Held, Cells] at hc); go_simp; (try go_bits); exact hR)); simp only [Act.put, List.setIfInBounds_toArray, List.set_cons_zero, List.set_cons_succ]) | (refine' held_pass (i := 11) _ (by kernel_rfl) (by kernel_rfl) (by kernel_rfl) _ _ hS _; rotate_left; (focus (simp only [List.getElem?_toArray, List.getElem?_cons_succ, List.getElem?_cons_zero]; rfl)); (focus exact fun _ _ _ h => h); (focus rfl); simp only [Act.put, List.setIfInBounds_toArray, List.set_cons_zero, List.set_cons_succ]))
  (first | (refine' held_do (i := 12) _ (by kernel_rfl) (by kernel_rfl) (by kernel_rfl) _ _ hS _ _; rotate_left 2; (focus (simp only [List.getElem?_toArray, List.getElem?_cons_succ, List.getElem?_cons_zero]; rfl)); (focus exact fun _ _ _ h => h); (focus rfl); (focus (intro w1 hSS R hR; have hc := hSS; (try simp only [Held, Cells] at hc); go_simp; (try go_bits); exact hR)); simp only [Act.put, List.setIfInBounds_toArray, List.set_cons_zero, List.set_cons_succ]) | (refine' held_pass (i := 12) _ (by kernel_rfl) (by kernel_rfl) (by kernel_rfl) _ _ hS _; rotate_left; (focus (simp only [List.getElem?_toArray, List.getElem?_cons_succ, List.getElem?_cons_zero]; rfl)); (focus exact fun _ _ _ h => h); (focus rfl); simp only [Act.put, List.setIfInBounds_toArray, List.set_cons_zero, List.set_cons_succ]))
  (refine' held_one (i := 13) _ (by kernel_rfl) _ _; rotate_left; (focus (simp only [List.getElem?_toArray, List.getElem?_cons_succ, List.getElem?_cons_zero]; rfl)); (focus rfl); intro K hK; go_simp)
  refine hK _ _ ⟨by go_simp, by go_simp, by go_simp⟩ ?_
  clear hK
  (try simp only [Act.put, List.setIfInBounds_toArray, List.set_cons_zero, List.set_cons_succ])
  rw [show (wv.alloc (.cells #[.int .u8 d0, .int .u8 d1, .int .u8 d2] 5)).drew = wv.drew.alloc (.cells [.int .u8 d0, .int .u8 d1, .int .u8 d2].toArray 5) from rfl]
  (refine' held_one (i := 14) _ (by kernel_rfl) _ _; rotate_left; (focus (simp only [List.getElem?_toArray, List.getElem?_cons_succ, List.getElem?_cons_zero]; rfl)); (focus rfl); intro K hK)
  (refine wp_append_two _ _ _ rfl (w.heap.size + 1) 5 iB _ 1 1 Tryd.underlying53 hi0 hz0 hz1 hz2 rfl (by omega) wv.drew 3 _ _ _ _ (by rfl) h35.drew (by rfl) rfl (by simp [Value.oneCell']) (by omega) (by unfold maxLen; omega) (by simp; omega) ?_; intro v4 w4 hown4 hgr4 hat4 hb4)
  obtain ⟨g4, cap4, e4, hcv4⟩ := own_text (l := [35, d0, d1, d2]) hown4 (by omega)
  subst e4
  rw [fs.out] at hcv4
  have j0 : w4.cell? ⟨w.heap.size, 0, none⟩ = some (.int .u8 r) := (hb4.cell (p := ⟨w.heap.size, 0, none⟩) (by simp)).trans k0
  have j1 : w4.cell? ⟨w.heap.size, 1, none⟩ = some (.int .u8 g) := (hb4.cell (p := ⟨w.heap.size, 1, none⟩) (by simp)).trans k1
  have j2 : w4.cell? ⟨w.heap.size, 2, none⟩ = some (.int .u8 b) := (hb4.cell (p := ⟨w.heap.size, 2, none⟩) (by simp)).trans k2
  refine hK _ _ ⟨j0, j1, j2⟩ ?_
  clear hK
  (try simp only [Act.put, List.setIfInBounds_toArray, List.set_cons_zero, List.set_cons_succ])
  (refine' held_one (i := 15) _ (by kernel_rfl) _ _; rotate_left; (focus (simp only [List.getElem?_toArray, List.getElem?_cons_succ, List.getElem?_cons_zero]; rfl)); (focus rfl); intro K hK; go_simp)
  refine hK _ _ ⟨by go_simp, by go_simp, by go_simp⟩ ?_
  clear hK
  (try simp only [Act.put, List.setIfInBounds_toArray, List.set_cons_zero, List.set_cons_succ])
  (refine' held_one (i := 16) _ (by kernel_rfl) _ _; rotate_left; (focus (simp only [List.getElem?_toArray, List.getElem?_cons_succ, List.getElem?_cons_zero]; rfl)); (focus rfl); intro K hK; go_simp)
  refine hK _ _ ⟨by go_simp, by go_simp, by go_simp⟩ ?_
  clear hK
  (try simp only [Act.put, List.setIfInBounds_toArray, List.set_cons_zero, List.set_cons_succ])
  refine wpAnyH_done (by kernel_rfl) ?_ _
  go_wp2
  go_ret
  exact ⟨rfl, hbv.drew.trans (hb4.mono (by omega))⟩
end Go.Proofs.YthecbopffdpefaaDoor
