/-
  The nearest one of so many: both loops.
-/
import Derived.Test.YthecbopffdpefaaDoorColR2
namespace Go.Proofs.YthecbopffdpefaaDoor
open Go.RowKit
set_option linter.unusedVariables false
set_option linter.unusedSimpArgs false
attribute [local go_sem] vwp vUpon_value vUpon_skip vUpon_enter vUpon_row
/-- The number of the nearest of the first k. -/
def bestN (d : Nat → Int) : Nat → Nat
  | 0 => 0
  | k + 1 => if d k < d (bestN d k) then k else bestN d k
theorem bestN_le (d : Nat → Int) : ∀ k, bestN d k ≤ k
  | 0 => Nat.le_refl _
  | k + 1 => by
    have := bestN_le d k
    unfold bestN; split <;> omega
theorem bestN_lt (d : Nat → Int) : ∀ k, 0 < k → bestN d k < k
  | 0, h => by omega
  | k + 1, _ => by
    have := bestN_le d k
    unfold bestN; split <;> omega
def leastV (d : Nat → Int) (k : Nat) : Int := if k = 0 then 1073741824 else d (bestN d k)
def dist (r g b : Int) (k : Nat) : Int := farN r g b (bkR k) (bkG k) (bkB k)
theorem near_step (d : Nat → Int) (k : Nat) (h0 : 0 ≤ d k) (h1 : d k ≤ 585225) :
    (d k < leastV d k → bestN d (k + 1) = k ∧ leastV d (k + 1) = d k) ∧ (¬ d k < leastV d k → bestN d (k + 1) = bestN d k ∧ leastV d (k + 1) = leastV d k) := by
  unfold leastV
  by_cases hk : k = 0
  · subst hk
    simp only [if_true, bestN]
    refine ⟨fun _ => ⟨by simp, by simp⟩, fun h => by omega⟩
  · rw [if_neg hk, if_neg (show k + 1 ≠ 0 by omega)]
    refine ⟨fun h => ?_, fun h => ?_⟩
    · have : bestN d (k + 1) = k := by unfold bestN; rw [if_pos h]
      exact ⟨this, by rw [this]⟩
    · have : bestN d (k + 1) = bestN d k := by
        conv => lhs; unfold bestN
        rw [if_neg h]
      exact ⟨this, by rw [this]⟩
theorem dist_bd (r g b : Int) (k : Nat) (h1 : U8 r) (h2 : U8 g) (h3 : U8 b) (hk : k < 256) : 0 ≤ dist r g b k ∧ dist r g b k ≤ 585225 := by
  obtain ⟨b1, b2, b3⟩ := bk_bd (k : Int) ⟨by omega, by omega⟩
  exact farN_bd r g b _ _ _ h1 h2 h3 b1 b2 b3
theorem leastV_bd (r g b : Int) (k : Nat) (h1 : U8 r) (h2 : U8 g) (h3 : U8 b) (hk : k ≤ 256) : 0 ≤ leastV (dist r g b) k ∧ leastV (dist r g b) k ≤ 1073741824 := by
  unfold leastV
  by_cases h : k = 0
  · rw [if_pos h]; omega
  · rw [if_neg h]
    have := bestN_lt (dist r g b) k (by omega)
    have := dist_bd r g b (bestN (dist r g b) k) h1 h2 h3 (by omega)
    omega

set_option maxHeartbeats 2000000 in
theorem nearest_any (r g b a : Int) (n : Nat) (w : World) (h1 : U8 r) (h2 : U8 g) (h3 : U8 b) (h4 : U8 a) (hn : n ≤ 256) (hn0 : 0 < n) :
    Calls Tryd.prog 34 #[.agg #[.int .u8 (r), .int .u8 (g), .int .u8 (b), .int .u8 (a)], .int .i64 (n : Int)] w fun e w' => e = .returned (.int .u8 (bestN (dist (ov a 255 r 0) (ov a 255 g 0) (ov a 255 b 0)) n : Nat)) ∧ Below w.heap.size w w' := by
  have k1 := ov_bd a 255 r 0 h4 u255 h1 u0
  have k2 := ov_bd a 255 g 0 h4 u255 h2 u0
  have k3 := ov_bd a 255 b 0 h4 u255 h3 u0
  have OV := fun w => over_any r g b a 0 0 0 255 w h1 h2 h3 h4 u0 u0 u0 u255
  replace OV := Lib.hid OV
  have BK := Lib.hid black_any
  generalize ov a 255 r 0 = fr at *
  generalize ov a 255 g 0 = fg at *
  generalize ov a 255 b 0 = fb at *
  generalize ovA a 255 = fA at *
  clear h1 h2 h3 h4
  have LB := fun k hk => leastV_bd fr fg fb k k1 k2 k3 hk
  have DB := fun k hk => dist_bd fr fg fb k k1 k2 k3 hk
  replace LB := Lib.hid LB
  replace DB := Lib.hid DB
  replace hn0 := Lib.hid hn0
  go_enter Tryd.func34, Tryd.ntmps34
  go_wp2
  refine wp_region_steady_then (Held w 1 [(⟨w.heap.size, 0, none⟩, .int .u8 (r)), (⟨w.heap.size, 1, none⟩, .int .u8 (g)), (⟨w.heap.size, 2, none⟩, .int .u8 (b)), (⟨w.heap.size, 3, none⟩, .int .u8 (a))]) 3 (by kernel_rfl) (by kernel_rfl) (by decide) (by kernel_rfl) (by kernel_rfl) ⟨(by repeat (first | exact Below.refl _ _ | assumption | refine Below.drew ?_ | refine Below.alloc ?_ (by (try simp) <;> omega) _ | refine Below.setCell ?_ (by (try simp) <;> omega) _)), (by (try simp) <;> omega), (by simp only [Cells]; go_simp)⟩ ?_
  simp only [List.take_succ_cons, List.take_zero]
  repeat (first | (refine' wpSteady_do _ _ _; rotate_left; (focus rfl); (focus (intro w1 hS R hR; have hc := hS.cells; simp only [Cells] at hc; go_simp; (try go_bits); first | exact hR _ hS | ((go_at_call 33; (with_reducible refine (BK.out _).mono ?_); rintro e w2 ⟨rfl, hb2⟩; exact ⟨_, rfl, hR _ (hS.below hb2)⟩)) | ((go_at_call 13; (with_reducible refine (OV.out _).mono ?_); rintro e w2 ⟨rfl, hb2⟩; exact ⟨_, rfl, hR _ (hS.below hb2)⟩)))); simp only [Act.put, List.setIfInBounds_toArray, List.set_cons_zero, List.set_cons_succ]) | (refine wpSteady_pass ?_ ?_; (focus rfl); simp only [Act.put, List.setIfInBounds_toArray, List.set_cons_zero, List.set_cons_succ]))
  refine wpSteady_nil (fun w1 hS => ?_)
  have hc := hS.cells; have hb := hS.old; have hz := hS.size; clear hS; simp only [Cells] at hc
  simp only [List.drop_succ_cons, List.drop_zero, List.drop_nil]
  go_wp2
  go_loopw [5, 6, 14] (fun best least i wr => ∃ k : Nat, k ≤ n ∧ i = .int .i64 k ∧ best = .int .i64 (bestN (dist fr fg fb) k : Nat) ∧ least = .int .i64 (leastV (dist fr fg fb) k) ∧ Held w 1 [(⟨w.heap.size, 0, none⟩, .int .u8 (fr)), (⟨w.heap.size, 1, none⟩, .int .u8 (fg)), (⟨w.heap.size, 2, none⟩, .int .u8 (fb)), (⟨w.heap.size, 3, none⟩, .int .u8 (fA))] wr) (fun _ _ i _ => n - (intOf i).toNat)
  case atStart => exact ⟨0, Nat.zero_le _, rfl, rfl, rfl, (by repeat (first | exact Below.refl _ _ | assumption | refine Below.drew ?_ | refine Below.alloc ?_ (by (try simp) <;> omega) _ | refine Below.setCell ?_ (by (try simp) <;> omega) _ | (refine Below.trans ?_ (Below.mono (by assumption) (by (try simp) <;> omega))))), (by (try simp) <;> omega), (by simp only [Cells]; go_simp)⟩
  case round =>
    obtain ⟨k, hk, rfl, rfl, rfl, hH⟩ := hrel
    clear hc hb hz
    by_cases hlt : k < n
    · have hk' : k < 256 := by omega
      have lb := LB.out k (by omega)
      have db := DB.out k (by omega)
      have st := near_step (dist fr fg fb) k db.1 db.2
      obtain ⟨lb0, lb1⟩ := lb; obtain ⟨db0, db1⟩ := db
      obtain ⟨b1, b2, b3⟩ := bk_bd (k : Int) ⟨by omega, by omega⟩
      have BA := fun w => back_many (k : Int) w ⟨by omega, by omega⟩
      replace BA := Lib.hid BA
      have s1 := sq_bd fr (bkR k) k1 b1; have s2 := sq_bd fg (bkG k) k2 b2; have s3 := sq_bd fb (bkB k) k3 b3
      have Q1 := fun w => square_any fr (bkR k) w k1 b1
      have Q2 := fun w => square_any fg (bkG k) w k2 b2
      have Q3 := fun w => square_any fb (bkB k) w k3 b3
      replace Q1 := Lib.hid Q1
      replace Q2 := Lib.hid Q2
      replace Q3 := Lib.hid Q3
      have hd : dist fr fg fb k = 2 * sq fr (bkR k) + 4 * sq fg (bkG k) + 3 * sq fb (bkB k) := rfl
      rw [hd] at st
      clear hd
      generalize sq fr (bkR k) = s at *
      generalize sq fg (bkG k) = t at *
      generalize sq fb (bkB k) = u at *
      generalize hL : leastV (dist fr fg fb) k = L at *
      generalize hB : bestN (dist fr fg fb) k = B at *
      replace hL := Lib.hid hL
      replace hB := Lib.hid hB
      replace st := Lib.hid st
      obtain ⟨s10, s11⟩ := s1; obtain ⟨s20, s21⟩ := s2; obtain ⟨s30, s31⟩ := s3
      clear k1 k2 k3 b1 b2 b3 LB DB OV BK db0 db1
      have hc := hH.cells; have hb := hH.old; have hz := hH.size; clear hH; simp only [Cells] at hc
      have lt0 : w.heap.size < wr.heap.size := by omega
      by_cases hd : 2 * s + 4 * t + 3 * u < L
      · obtain ⟨e1, e2⟩ := st.out.1 hd
        replace e1 := Lib.hid e1
        replace e2 := Lib.hid e2
        clear st
        go_wp2_with (go_at_call 23; (with_reducible refine (BA.out _).mono ?_); rintro e w1 ⟨rfl, hb1⟩; obtain ⟨hc1, hf1⟩ := bcell hb1; have hz1 := hb1.size; (try simp at hz1); (try have lt1 : w.heap.size < w1.heap.size := (by omega)))
        refine wp_region_steady (Held w 1 [(⟨w.heap.size, 0, none⟩, .int .u8 (fr)), (⟨w.heap.size, 1, none⟩, .int .u8 (fg)), (⟨w.heap.size, 2, none⟩, .int .u8 (fb)), (⟨w.heap.size, 3, none⟩, .int .u8 (fA)), (⟨w1.heap.size, 0, none⟩, .int .u8 (bkR k)), (⟨w1.heap.size, 1, none⟩, .int .u8 (bkG k)), (⟨w1.heap.size, 2, none⟩, .int .u8 (bkB k)), (⟨w1.heap.size, 3, none⟩, .int .u8 (255))]) (by kernel_rfl) (by kernel_rfl) ⟨(by repeat (first | exact Below.refl _ _ | assumption | refine Below.drew ?_ | refine Below.alloc ?_ (by (try simp) <;> omega) _ | refine Below.setCell ?_ (by (try simp) <;> omega) _ | (refine Below.trans ?_ (Below.mono (by assumption) (by (try simp) <;> omega))))), (by (try simp) <;> omega), (by simp only [Cells]; go_simp)⟩ ?_
        repeat (first | (refine' wpSteady_do _ _ _; rotate_left; (focus rfl); (focus (intro w1 hS R hR; have hc := hS.cells; simp only [Cells] at hc; go_simp; (try go_bits); first | exact hR _ hS | ((go_at_call 40; (with_reducible refine (Q1.out _).mono ?_); rintro e w2 ⟨rfl, rfl⟩; exact ⟨_, rfl, hR _ hS⟩)) | ((go_at_call 40; (with_reducible refine (Q2.out _).mono ?_); rintro e w2 ⟨rfl, rfl⟩; exact ⟨_, rfl, hR _ hS⟩)) | ((go_at_call 40; (with_reducible refine (Q3.out _).mono ?_); rintro e w2 ⟨rfl, rfl⟩; exact ⟨_, rfl, hR _ hS⟩)))); simp only [Act.put, List.setIfInBounds_toArray, List.set_cons_zero, List.set_cons_succ]) | (refine wpSteady_pass ?_ ?_; (focus rfl); simp only [Act.put, List.setIfInBounds_toArray, List.set_cons_zero, List.set_cons_succ]))
        refine wpSteady_nil (fun w8 hS => ?_)
        go_wp2
        go_roundw
        case rel => exact ⟨k + 1, by omega, by go_num, by rw [e1.out], by rw [e2.out], hS.old, hS.size, hS.cells.1, hS.cells.2.1, hS.cells.2.2.1, hS.cells.2.2.2.1, hS.cells.2.2.2.2.1, hS.cells.2.2.2.2.2.1, hS.cells.2.2.2.2.2.2.1, hS.cells.2.2.2.2.2.2.2.1, trivial⟩
        case measure => simp [intOf]; omega
      · obtain ⟨e1, e2⟩ := st.out.2 hd
        replace e1 := Lib.hid e1
        replace e2 := Lib.hid e2
        clear st
        go_wp2_with (go_at_call 23; (with_reducible refine (BA.out _).mono ?_); rintro e w1 ⟨rfl, hb1⟩; obtain ⟨hc1, hf1⟩ := bcell hb1; have hz1 := hb1.size; (try simp at hz1); (try have lt1 : w.heap.size < w1.heap.size := (by omega)))
        refine wp_region_steady (Held w 1 [(⟨w.heap.size, 0, none⟩, .int .u8 (fr)), (⟨w.heap.size, 1, none⟩, .int .u8 (fg)), (⟨w.heap.size, 2, none⟩, .int .u8 (fb)), (⟨w.heap.size, 3, none⟩, .int .u8 (fA)), (⟨w1.heap.size, 0, none⟩, .int .u8 (bkR k)), (⟨w1.heap.size, 1, none⟩, .int .u8 (bkG k)), (⟨w1.heap.size, 2, none⟩, .int .u8 (bkB k)), (⟨w1.heap.size, 3, none⟩, .int .u8 (255))]) (by kernel_rfl) (by kernel_rfl) ⟨(by repeat (first | exact Below.refl _ _ | assumption | refine Below.drew ?_ | refine Below.alloc ?_ (by (try simp) <;> omega) _ | refine Below.setCell ?_ (by (try simp) <;> omega) _ | (refine Below.trans ?_ (Below.mono (by assumption) (by (try simp) <;> omega))))), (by (try simp) <;> omega), (by simp only [Cells]; go_simp)⟩ ?_
        repeat (first | (refine' wpSteady_do _ _ _; rotate_left; (focus rfl); (focus (intro w1 hS R hR; have hc := hS.cells; simp only [Cells] at hc; go_simp; (try go_bits); first | exact hR _ hS | ((go_at_call 40; (with_reducible refine (Q1.out _).mono ?_); rintro e w2 ⟨rfl, rfl⟩; exact ⟨_, rfl, hR _ hS⟩)) | ((go_at_call 40; (with_reducible refine (Q2.out _).mono ?_); rintro e w2 ⟨rfl, rfl⟩; exact ⟨_, rfl, hR _ hS⟩)) | ((go_at_call 40; (with_reducible refine (Q3.out _).mono ?_); rintro e w2 ⟨rfl, rfl⟩; exact ⟨_, rfl, hR _ hS⟩)))); simp only [Act.put, List.setIfInBounds_toArray, List.set_cons_zero, List.set_cons_succ]) | (refine wpSteady_pass ?_ ?_; (focus rfl); simp only [Act.put, List.setIfInBounds_toArray, List.set_cons_zero, List.set_cons_succ]))
        refine wpSteady_nil (fun w8 hS => ?_)
        go_wp2
        go_roundw
        case rel => exact ⟨k + 1, by omega, by go_num, by rw [e1.out], by rw [e2.out], hS.old, hS.size, hS.cells.1, hS.cells.2.1, hS.cells.2.2.1, hS.cells.2.2.2.1, hS.cells.2.2.2.2.1, hS.cells.2.2.2.2.2.1, hS.cells.2.2.2.2.2.2.1, hS.cells.2.2.2.2.2.2.2.1, trivial⟩
        case measure => simp [intOf]; omega
    · obtain rfl : k = n := by omega
      have hbest := bestN_lt (dist fr fg fb) k hn0.out
      clear LB DB OV BK k1 k2 k3
      have hb := hH.old; clear hH
      obtain ⟨B, hB⟩ : ∃ B, bestN (dist fr fg fb) k = B := ⟨_, rfl⟩
      rw [hB] at hbest ⊢
      replace hB := Lib.hid hB
      have hB' : B ≤ 255 := by omega
      go_wp2
      go_ret
      exact ⟨by rw [hB.out]; rfl, hb⟩
end Go.Proofs.YthecbopffdpefaaDoor
