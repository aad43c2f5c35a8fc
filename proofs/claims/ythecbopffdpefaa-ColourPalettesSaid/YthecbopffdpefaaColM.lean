/-
  The document's nearest one; Sixteen, Many of both texts; the law ColourPalettes walked.
-/
import Derived.Test.YthecbopffdpefaaColN
namespace Go.Proofs.Ythecbopffdpefaa
open Go.RowKit
set_option linter.unusedVariables false
attribute [local go_sem] vwp vUpon_value vUpon_skip vUpon_enter vUpon_row
set_option maxHeartbeats 2000000 in
theorem rnearest_any (r g b a : Int) (n : Nat) (w : World) (h1 : U8 r) (h2 : U8 g) (h3 : U8 b) (h4 : U8 a) (hn : n ≤ 256) (hn0 : 0 < n) :
    Calls Try.prog 27 #[.agg #[.int .u8 (r), .int .u8 (g), .int .u8 (b), .int .u8 (a)], .int .i64 (n : Int)] w fun e w' => e = .returned (.int .u8 (bestN (dist (ov a 255 r 0) (ov a 255 g 0) (ov a 255 b 0)) n : Nat)) ∧ Below w.heap.size w w' := by
  have k1 := ov_bd a 255 r 0 h4 u255 h1 u0
  have k2 := ov_bd a 255 g 0 h4 u255 h2 u0
  have k3 := ov_bd a 255 b 0 h4 u255 h3 u0
  have OV := fun w => onBlack_any r g b a w h1 h2 h3 h4
  replace OV := Lib.hid OV
  generalize ov a 255 r 0 = fr at *
  generalize ov a 255 g 0 = fg at *
  generalize ov a 255 b 0 = fb at *
  generalize ovA a 255 = fA at *
  clear h1 h2 h3 h4
  have DB := fun k hk => dist_bd fr fg fb k k1 k2 k3 hk
  replace DB := Lib.hid DB
  go_enter Try.func27, Try.ntmps27
  go_wp2_with (go_at_call 25; (with_reducible refine (OV.out _).mono ?_); rintro e w1 ⟨rfl, hb1⟩; obtain ⟨hc1, hf1⟩ := bcell hb1; have hz1 := hb1.size; (try simp at hz1); (try have lt1 : w.heap.size < w1.heap.size := (by omega)))
  go_loopw [6, 7] (fun best i wr => ∃ k : Nat, 1 ≤ k ∧ k ≤ n ∧ i = .int .i64 k ∧ best = .int .i64 (bestN (dist fr fg fb) k : Nat) ∧ Below w.heap.size w wr ∧ w1.heap.size < wr.heap.size ∧ Cells [(⟨w1.heap.size, 0, none⟩, .int .u8 (fr)), (⟨w1.heap.size, 1, none⟩, .int .u8 (fg)), (⟨w1.heap.size, 2, none⟩, .int .u8 (fb)), (⟨w1.heap.size, 3, none⟩, .int .u8 (fA))] wr) (fun _ i _ => n - (intOf i).toNat)
  case atStart => exact ⟨1, by omega, by omega, rfl, by simp [bestN], (by repeat (first | exact Below.refl _ _ | assumption | refine Below.drew ?_ | refine Below.alloc ?_ (by (try simp) <;> omega) _ | refine Below.setCell ?_ (by (try simp) <;> omega) _ | (refine Below.trans ?_ (Below.mono (by assumption) (by (try simp) <;> omega))))), (by (try simp) <;> omega), (by simp only [Cells]; go_simp)⟩
  case round =>
    obtain ⟨k, hk1, hk, rfl, rfl, hb, hz, hcs⟩ := hrel
    have hc := hcs; simp only [Cells] at hc
    by_cases hlt : k < n
    · have hk' : k < 256 := by omega
      have hbl := bestN_lt (dist fr fg fb) k (by omega)
      have db := DB.out k (by omega)
      have dc := DB.out (bestN (dist fr fg fb) k) (by omega)
      have e1 : bestN (dist fr fg fb) (k + 1) = if dist fr fg fb k < dist fr fg fb (bestN (dist fr fg fb) k) then k else bestN (dist fr fg fb) k := by
        conv => lhs; unfold bestN
      generalize hB : bestN (dist fr fg fb) k = B at *
      replace hB := Lib.hid hB
      have hB' : B ≤ 255 := by omega
      obtain ⟨b1, b2, b3⟩ := bk_bd (k : Int) ⟨by omega, by omega⟩
      obtain ⟨c1, c2, c3⟩ := bk_bd (B : Int) ⟨by omega, by omega⟩
      have BA := fun w => rback_many (k : Int) w ⟨by omega, by omega⟩
      have BB := fun w => rback_many (B : Int) w ⟨by omega, by omega⟩
      have F1 := fun w => far_any fr fg fb fA (bkR k) (bkG k) (bkB k) 255 w k1 k2 k3 b1 b2 b3
      have F2 := fun w => far_any fr fg fb fA (bkR B) (bkG B) (bkB B) 255 w k1 k2 k3 c1 c2 c3
      change ∀ w, Calls _ _ _ _ (fun e w' => e = .returned (.int .i64 (dist fr fg fb k)) ∧ _) at F1
      change ∀ w, Calls _ _ _ _ (fun e w' => e = .returned (.int .i64 (dist fr fg fb B)) ∧ _) at F2
      replace BA := Lib.hid BA
      replace BB := Lib.hid BB
      replace F1 := Lib.hid F1
      replace F2 := Lib.hid F2
      clear k1 k2 k3 b1 b2 b3 c1 c2 c3 DB OV
      generalize dist fr fg fb k = s at *
      generalize dist fr fg fb B = t at *
      obtain ⟨db0, db1⟩ := db; obtain ⟨dc0, dc1⟩ := dc
      by_cases hd : s < t
      · rw [if_pos hd] at e1
        replace e1 := Lib.hid e1
        go_wp2
        refine wp_region_steady (fun w' => Below w.heap.size w w' ∧ w1.heap.size < w'.heap.size ∧ Cells [(⟨w1.heap.size, 0, none⟩, .int .u8 (fr)), (⟨w1.heap.size, 1, none⟩, .int .u8 (fg)), (⟨w1.heap.size, 2, none⟩, .int .u8 (fb)), (⟨w1.heap.size, 3, none⟩, .int .u8 (fA))] w') (by kernel_rfl) (by kernel_rfl) ⟨hb.drew, hz, (by simp only [Cells]; go_simp)⟩ ?_
        repeat (first | (refine' wpSteady_do (by rfl) _ _; rotate_left; (focus (intro w1 hS R hR; have hc := hS.2.2; simp only [Cells] at hc; go_simp; (try go_bits); first | exact hR _ hS | ((go_at_call 18; (with_reducible refine (BA.out _).mono ?_); rintro e w2 ⟨rfl, hb2⟩; exact ⟨_, rfl, hR _ ⟨hS.1.trans (hb2.mono hS.1.size), Nat.lt_of_lt_of_le hS.2.1 hb2.size, hS.2.2.below hb2⟩⟩)) | ((go_at_call 18; (with_reducible refine (BB.out _).mono ?_); rintro e w2 ⟨rfl, hb2⟩; exact ⟨_, rfl, hR _ ⟨hS.1.trans (hb2.mono hS.1.size), Nat.lt_of_lt_of_le hS.2.1 hb2.size, hS.2.2.below hb2⟩⟩)) | ((go_at_call 33; (with_reducible refine (F1.out _).mono ?_); rintro e w2 ⟨rfl, hb2⟩; exact ⟨_, rfl, hR _ ⟨hS.1.trans (hb2.mono hS.1.size), Nat.lt_of_lt_of_le hS.2.1 hb2.size, hS.2.2.below hb2⟩⟩)) | ((go_at_call 33; (with_reducible refine (F2.out _).mono ?_); rintro e w2 ⟨rfl, hb2⟩; exact ⟨_, rfl, hR _ ⟨hS.1.trans (hb2.mono hS.1.size), Nat.lt_of_lt_of_le hS.2.1 hb2.size, hS.2.2.below hb2⟩⟩)))); simp only [Act.put, List.setIfInBounds_toArray, List.set_cons_zero, List.set_cons_succ]) | (refine wpSteady_pass (by rfl) ?_; simp only [Act.put, List.setIfInBounds_toArray, List.set_cons_zero, List.set_cons_succ]))
        refine wpSteady_nil (fun w8 hS => ?_)
        go_wp2
        go_roundw
        case rel => exact ⟨k + 1, by omega, by omega, by go_num, by rw [e1.out], hS.1, hS.2.1, hS.2.2⟩
        case measure => simp [intOf]; omega
      · rw [if_neg hd] at e1
        replace e1 := Lib.hid e1
        go_wp2
        refine wp_region_steady (fun w' => Below w.heap.size w w' ∧ w1.heap.size < w'.heap.size ∧ Cells [(⟨w1.heap.size, 0, none⟩, .int .u8 (fr)), (⟨w1.heap.size, 1, none⟩, .int .u8 (fg)), (⟨w1.heap.size, 2, none⟩, .int .u8 (fb)), (⟨w1.heap.size, 3, none⟩, .int .u8 (fA))] w') (by kernel_rfl) (by kernel_rfl) ⟨hb.drew, hz, (by simp only [Cells]; go_simp)⟩ ?_
        repeat (first | (refine' wpSteady_do (by rfl) _ _; rotate_left; (focus (intro w1 hS R hR; have hc := hS.2.2; simp only [Cells] at hc; go_simp; (try go_bits); first | exact hR _ hS | ((go_at_call 18; (with_reducible refine (BA.out _).mono ?_); rintro e w2 ⟨rfl, hb2⟩; exact ⟨_, rfl, hR _ ⟨hS.1.trans (hb2.mono hS.1.size), Nat.lt_of_lt_of_le hS.2.1 hb2.size, hS.2.2.below hb2⟩⟩)) | ((go_at_call 18; (with_reducible refine (BB.out _).mono ?_); rintro e w2 ⟨rfl, hb2⟩; exact ⟨_, rfl, hR _ ⟨hS.1.trans (hb2.mono hS.1.size), Nat.lt_of_lt_of_le hS.2.1 hb2.size, hS.2.2.below hb2⟩⟩)) | ((go_at_call 33; (with_reducible refine (F1.out _).mono ?_); rintro e w2 ⟨rfl, hb2⟩; exact ⟨_, rfl, hR _ ⟨hS.1.trans (hb2.mono hS.1.size), Nat.lt_of_lt_of_le hS.2.1 hb2.size, hS.2.2.below hb2⟩⟩)) | ((go_at_call 33; (with_reducible refine (F2.out _).mono ?_); rintro e w2 ⟨rfl, hb2⟩; exact ⟨_, rfl, hR _ ⟨hS.1.trans (hb2.mono hS.1.size), Nat.lt_of_lt_of_le hS.2.1 hb2.size, hS.2.2.below hb2⟩⟩)))); simp only [Act.put, List.setIfInBounds_toArray, List.set_cons_zero, List.set_cons_succ]) | (refine wpSteady_pass (by rfl) ?_; simp only [Act.put, List.setIfInBounds_toArray, List.set_cons_zero, List.set_cons_succ]))
        refine wpSteady_nil (fun w8 hS => ?_)
        go_wp2
        go_roundw
        case rel => exact ⟨k + 1, by omega, by omega, by go_num, by rw [e1.out], hS.1, hS.2.1, hS.2.2⟩
        case measure => simp [intOf]; omega
    · obtain rfl : k = n := by omega
      have hbest := bestN_lt (dist fr fg fb) k (by omega)
      clear DB OV k1 k2 k3
      obtain ⟨B, hB⟩ : ∃ B, bestN (dist fr fg fb) k = B := ⟨_, rfl⟩
      rw [hB] at hbest ⊢
      replace hB := Lib.hid hB
      have hB' : B ≤ 255 := by omega
      go_wp2
      go_ret
      exact ⟨by rw [hB.out]; rfl, hb⟩

/-- P4.5's number, of so many. -/
def numN (r g b a : Int) (n : Nat) : Int := (bestN (dist (ov a 255 r 0) (ov a 255 g 0) (ov a 255 b 0)) n : Nat)
theorem numN_bd (r g b a : Int) (n : Nat) (h : 0 < n) : 0 ≤ numN r g b a n ∧ numN r g b a n < n := by
  have := bestN_lt (dist (ov a 255 r 0) (ov a 255 g 0) (ov a 255 b 0)) n h
  unfold numN; omega
set_option maxHeartbeats 400000 in
theorem six_any (r g b a : Int) (w : World) (h1 : U8 r) (h2 : U8 g) (h3 : U8 b) (h4 : U8 a) : Calls Try.prog 13 #[.agg #[.int .u8 (r), .int .u8 (g), .int .u8 (b), .int .u8 (a)]] w fun e w' => e = .returned (.int .u8 (numN r g b a 16)) ∧ Below w.heap.size w w' := by
  have NE := fun w => nearest_any r g b a 16 w h1 h2 h3 h4 (by omega) (by omega)
  change ∀ w, Calls _ _ #[_, .int .i64 16] w (fun e w' => e = .returned (.int .u8 (numN r g b a 16)) ∧ _) at NE
  replace NE := Lib.hid NE
  go_enter Try.func13, Try.ntmps13
  go_wp2_with (go_at_call 26; (with_reducible refine (NE.out _).mono ?_); rintro e w1 ⟨rfl, hb1⟩; obtain ⟨hc1, hf1⟩ := bcell hb1; have hz1 := hb1.size; (try simp at hz1); (try have lt1 : w.heap.size < w1.heap.size := (by omega)))
  go_ret
  exact ⟨rfl, (by repeat (first | exact Below.refl _ _ | assumption | refine Below.drew ?_ | refine Below.alloc ?_ (by (try simp) <;> omega) _ | refine Below.setCell ?_ (by (try simp) <;> omega) _ | (refine Below.trans ?_ (Below.mono (by assumption) (by (try simp) <;> omega)))))⟩
set_option maxHeartbeats 400000 in
theorem rsix_any (r g b a : Int) (w : World) (h1 : U8 r) (h2 : U8 g) (h3 : U8 b) (h4 : U8 a) : Calls Try.prog 14 #[.agg #[.int .u8 (r), .int .u8 (g), .int .u8 (b), .int .u8 (a)]] w fun e w' => e = .returned (.int .u8 (numN r g b a 16)) ∧ Below w.heap.size w w' := by
  have NE := fun w => rnearest_any r g b a 16 w h1 h2 h3 h4 (by omega) (by omega)
  change ∀ w, Calls _ _ #[_, .int .i64 16] w (fun e w' => e = .returned (.int .u8 (numN r g b a 16)) ∧ _) at NE
  replace NE := Lib.hid NE
  go_enter Try.func14, Try.ntmps14
  go_wp2_with (go_at_call 27; (with_reducible refine (NE.out _).mono ?_); rintro e w1 ⟨rfl, hb1⟩; obtain ⟨hc1, hf1⟩ := bcell hb1; have hz1 := hb1.size; (try simp at hz1); (try have lt1 : w.heap.size < w1.heap.size := (by omega)))
  go_ret
  exact ⟨rfl, (by repeat (first | exact Below.refl _ _ | assumption | refine Below.drew ?_ | refine Below.alloc ?_ (by (try simp) <;> omega) _ | refine Below.setCell ?_ (by (try simp) <;> omega) _ | (refine Below.trans ?_ (Below.mono (by assumption) (by (try simp) <;> omega)))))⟩
set_option maxHeartbeats 400000 in
theorem many_any (r g b a : Int) (w : World) (h1 : U8 r) (h2 : U8 g) (h3 : U8 b) (h4 : U8 a) : Calls Try.prog 15 #[.agg #[.int .u8 (r), .int .u8 (g), .int .u8 (b), .int .u8 (a)]] w fun e w' => e = .returned (.int .u8 (numN r g b a 256)) ∧ Below w.heap.size w w' := by
  have NE := fun w => nearest_any r g b a 256 w h1 h2 h3 h4 (by omega) (by omega)
  change ∀ w, Calls _ _ #[_, .int .i64 256] w (fun e w' => e = .returned (.int .u8 (numN r g b a 256)) ∧ _) at NE
  replace NE := Lib.hid NE
  go_enter Try.func15, Try.ntmps15
  go_wp2_with (go_at_call 26; (with_reducible refine (NE.out _).mono ?_); rintro e w1 ⟨rfl, hb1⟩; obtain ⟨hc1, hf1⟩ := bcell hb1; have hz1 := hb1.size; (try simp at hz1); (try have lt1 : w.heap.size < w1.heap.size := (by omega)))
  go_ret
  exact ⟨rfl, (by repeat (first | exact Below.refl _ _ | assumption | refine Below.drew ?_ | refine Below.alloc ?_ (by (try simp) <;> omega) _ | refine Below.setCell ?_ (by (try simp) <;> omega) _ | (refine Below.trans ?_ (Below.mono (by assumption) (by (try simp) <;> omega)))))⟩
set_option maxHeartbeats 400000 in
theorem rmany_any (r g b a : Int) (w : World) (h1 : U8 r) (h2 : U8 g) (h3 : U8 b) (h4 : U8 a) : Calls Try.prog 16 #[.agg #[.int .u8 (r), .int .u8 (g), .int .u8 (b), .int .u8 (a)]] w fun e w' => e = .returned (.int .u8 (numN r g b a 256)) ∧ Below w.heap.size w w' := by
  have NE := fun w => rnearest_any r g b a 256 w h1 h2 h3 h4 (by omega) (by omega)
  change ∀ w, Calls _ _ #[_, .int .i64 256] w (fun e w' => e = .returned (.int .u8 (numN r g b a 256)) ∧ _) at NE
  replace NE := Lib.hid NE
  go_enter Try.func16, Try.ntmps16
  go_wp2_with (go_at_call 27; (with_reducible refine (NE.out _).mono ?_); rintro e w1 ⟨rfl, hb1⟩; obtain ⟨hc1, hf1⟩ := bcell hb1; have hz1 := hb1.size; (try simp at hz1); (try have lt1 : w.heap.size < w1.heap.size := (by omega)))
  go_ret
  exact ⟨rfl, (by repeat (first | exact Below.refl _ _ | assumption | refine Below.drew ?_ | refine Below.alloc ?_ (by (try simp) <;> omega) _ | refine Below.setCell ?_ (by (try simp) <;> omega) _ | (refine Below.trans ?_ (Below.mono (by assumption) (by (try simp) <;> omega)))))⟩
end Go.Proofs.Ythecbopffdpefaa
