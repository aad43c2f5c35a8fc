/-
  The document's Back.
-/
import Derived.Test.YthecbopffdpefaaColR
namespace Go.Proofs.Ythecbopffdpefaa
open Go.RowKit
set_option linter.unusedVariables false
attribute [local go_sem] vwp vUpon_value vUpon_skip vUpon_enter vUpon_row
theorem named_small (n : Nat) (h : n < 16) : (namedS n).size ≤ 9 := by
  obtain ⟨hC, _⟩ := named_read n h
  exact hC.nine
theorem rread_any (n : Nat) (w : World) (h : n < 16) : Calls Try.prog 29 #[.string (namedS n)] w fun e w' => e = .returned (.tuple #[.agg #[.int .u8 (bkR n), .int .u8 (bkG n), .int .u8 (bkB n), .int .u8 (255)], .int .i64 0, .int .i64 0]) ∧ Below w.heap.size w w' := by
  obtain ⟨hC, h4, e0, e1, e2, e3⟩ := named_read n h
  have := rparse_good (namedS n) (namedS n).size w hC rfl h4
  rwa [e0, e1, e2, e3] at this
set_option maxHeartbeats 1000000 in
theorem rback_small (n : Nat) (w : World) (h : n < 16) : Calls Try.prog 18 #[.int .u8 (n : Int), .bool true] w fun e w' => e = .returned (.agg #[.int .u8 (bkR n), .int .u8 (bkG n), .int .u8 (bkB n), .int .u8 (255)]) ∧ Below w.heap.size w w' := by
  have P := fun w => rread_any n w h
  have N := fun w => named_any n w h
  replace P := Lib.hid P
  replace N := Lib.hid N
  have g : (n : Int) < 16 := by omega
  have g0 : (0 : Int) ≤ n := by omega
  go_enter Try.func18, Try.ntmps18
  go_wp2_with (first | (go_at_call 30; (with_reducible refine (N.out _).mono ?_); rintro e w1 ⟨rfl, hb1⟩; obtain ⟨hc1, hf1⟩ := bcell hb1; have hz1 := hb1.size; (try simp at hz1); (try have lt1 : w.heap.size < w1.heap.size := (by omega))) | (go_at_call 29; (with_reducible refine (P.out _).mono ?_); rintro e w2 ⟨rfl, hb2⟩; obtain ⟨hc2, hf2⟩ := bcell hb2; have hz2 := hb2.size; (try simp at hz2); (try have lt2 : w.heap.size < w2.heap.size := (by omega))))
  refine bodyPost_ret (v := .agg #[.int .u8 (bkR n), .int .u8 (bkG n), .int .u8 (bkB n), .int .u8 (255)]) (by simp [results, Try.results18, go_sem, hc1, hc2, hz1, hz2, lt1, lt2]) rfl ⟨rfl, (by repeat (first | exact Below.refl _ _ | assumption | refine Below.drew ?_ | refine Below.alloc ?_ (by (try simp) <;> omega) _ | refine Below.setCell ?_ (by (try simp) <;> omega) _ | (refine Below.trans ?_ (Below.mono (by assumption) (by (try simp) <;> omega)))))⟩
set_option maxHeartbeats 1000000 in
theorem rback_few (n : Int) (w : World) (hn : U8 n) : Calls Try.prog 18 #[.int .u8 n, .bool false] w fun e w' => e = .returned (.agg #[.int .u8 (bkR (n % 16)), .int .u8 (bkG (n % 16)), .int .u8 (bkB (n % 16)), .int .u8 (255)]) ∧ Below w.heap.size w w' := by
  obtain ⟨n0, n1⟩ := hn
  have g : n % 16 < 16 := by omega
  have g0 : (0 : Int) ≤ n % 16 := by omega
  obtain ⟨r, hr⟩ := Int.eq_ofNat_of_zero_le g0
  have h : r < 16 := by omega
  rw [hr]
  rw [hr] at g
  have P := fun w => rread_any r w h
  have N := fun w => named_any r w h
  replace P := Lib.hid P
  replace N := Lib.hid N
  go_enter Try.func18, Try.ntmps18
  go_wp2_with (first | (go_at_call 30; (with_reducible refine (N.out _).mono ?_); rintro e w1 ⟨rfl, hb1⟩; obtain ⟨hc1, hf1⟩ := bcell hb1; have hz1 := hb1.size; (try simp at hz1); (try have lt1 : w.heap.size < w1.heap.size := (by omega))) | (go_at_call 29; (with_reducible refine (P.out _).mono ?_); rintro e w2 ⟨rfl, hb2⟩; obtain ⟨hc2, hf2⟩ := bcell hb2; have hz2 := hb2.size; (try simp at hz2); (try have lt2 : w.heap.size < w2.heap.size := (by omega))))
  refine bodyPost_ret (v := .agg #[.int .u8 (bkR r), .int .u8 (bkG r), .int .u8 (bkB r), .int .u8 (255)]) (by simp [results, Try.results18, go_sem, hc1, hc2, hz1, hz2, lt1, lt2]) rfl ⟨rfl, (by repeat (first | exact Below.refl _ _ | assumption | refine Below.drew ?_ | refine Below.alloc ?_ (by (try simp) <;> omega) _ | refine Below.setCell ?_ (by (try simp) <;> omega) _ | (refine Below.trans ?_ (Below.mono (by assumption) (by (try simp) <;> omega)))))⟩
set_option maxHeartbeats 1000000 in
theorem rback_gray (n : Int) (w : World) (h0 : 232 ≤ n) (h : n ≤ 255) : Calls Try.prog 18 #[.int .u8 n, .bool true] w fun e w' => e = .returned (.agg #[.int .u8 (bkR n), .int .u8 (bkG n), .int .u8 (bkB n), .int .u8 (255)]) ∧ Below w.heap.size w w' := by
  obtain ⟨e1, e2, e3⟩ := bk_gray n h0
  rw [e1, e2, e3]
  clear e1 e2 e3
  go_enter Try.func18, Try.ntmps18
  go_wp2
  refine bodyPost_ret (v := .agg #[.int .u8 (8 + 10 * (n - 232)), .int .u8 (8 + 10 * (n - 232)), .int .u8 (8 + 10 * (n - 232)), .int .u8 (255)]) (by simp [results, Try.results18, go_sem]) rfl ⟨rfl, (by repeat (first | exact Below.refl _ _ | assumption | refine Below.drew ?_ | refine Below.alloc ?_ (by (try simp) <;> omega) _ | refine Below.setCell ?_ (by (try simp) <;> omega) _))⟩
set_option maxHeartbeats 1000000 in
theorem rback_cube (n : Int) (w : World) (h0 : 16 ≤ n) (h : n < 232) : Calls Try.prog 18 #[.int .u8 n, .bool true] w fun e w' => e = .returned (.agg #[.int .u8 (bkR n), .int .u8 (bkG n), .int .u8 (bkB n), .int .u8 (255)]) ∧ Below w.heap.size w w' := by
  obtain ⟨e1, e2, e3⟩ := bk_cube n h0 h
  rw [e1, e2, e3]
  clear e1 e2 e3
  have L1 := fun w => rlevel_any ((n - 16) / 36) w (by omega) (by omega)
  have L2 := fun w => rlevel_any ((n - 16) / 6 % 6) w (by omega) (by omega)
  have L3 := fun w => rlevel_any ((n - 16) % 6) w (by omega) (by omega)
  replace L1 := Lib.hid L1
  replace L2 := Lib.hid L2
  replace L3 := Lib.hid L3
  go_enter Try.func18, Try.ntmps18
  go_wp2_with (first
    | (go_at_call 31; (with_reducible refine (L1.out _).mono ?_); rintro e w1 ⟨rfl, hb1⟩; obtain ⟨hc1, hf1⟩ := bcell hb1; have hz1 := hb1.size; (try simp at hz1); (try have lt1 : w.heap.size < w1.heap.size := (by omega)))
    | (go_at_call 31; (with_reducible refine (L2.out _).mono ?_); rintro e w2 ⟨rfl, hb2⟩; obtain ⟨hc2, hf2⟩ := bcell hb2; have hz2 := hb2.size; (try simp at hz2); (try have lt2 : w.heap.size < w2.heap.size := (by omega)))
    | (go_at_call 31; (with_reducible refine (L3.out _).mono ?_); rintro e w3 ⟨rfl, hb3⟩; obtain ⟨hc3, hf3⟩ := bcell hb3; have hz3 := hb3.size; (try simp at hz3); (try have lt3 : w.heap.size < w3.heap.size := (by omega))))
  refine bodyPost_ret (v := .agg #[.int .u8 (levelN ((n - 16) / 36)), .int .u8 (levelN ((n - 16) / 6 % 6)), .int .u8 (levelN ((n - 16) % 6)), .int .u8 (255)]) (by simp [results, Try.results18, go_sem, hc1, hc2, hc3, hz1, hz2, hz3, lt1, lt2, lt3]) rfl ⟨rfl, (by repeat (first | exact Below.refl _ _ | assumption | refine Below.drew ?_ | refine Below.alloc ?_ (by (try simp) <;> omega) _ | refine Below.setCell ?_ (by (try simp) <;> omega) _ | (refine Below.trans ?_ (Below.mono (by assumption) (by (try simp) <;> omega)))))⟩
theorem rback_many (n : Int) (w : World) (hn : U8 n) : Calls Try.prog 18 #[.int .u8 n, .bool true] w fun e w' => e = .returned (.agg #[.int .u8 (bkR n), .int .u8 (bkG n), .int .u8 (bkB n), .int .u8 (255)]) ∧ Below w.heap.size w w' := by
  obtain ⟨n0, n1⟩ := hn
  by_cases h : n < 16
  · obtain ⟨m, rfl⟩ := Int.eq_ofNat_of_zero_le n0
    exact rback_small m w (by omega)
  · by_cases g : 232 ≤ n
    · exact rback_gray n w g n1
    · exact rback_cube n w (by omega) (by omega)

def sq (x y : Int) : Int := (x - y) * (x - y)
theorem sq_bd (x y : Int) (hx : U8 x) (hy : U8 y) : 0 ≤ sq x y ∧ sq x y ≤ 65025 := by
  unfold U8 at hx hy
  unfold sq
  obtain ⟨d, hd⟩ : ∃ d, x - y = d := ⟨_, rfl⟩
  rw [hd]
  rcases Int.le_total 0 d with h | h
  · exact ⟨Int.mul_nonneg h h, by have := Int.mul_le_mul (show d ≤ 255 by omega) (show d ≤ 255 by omega) h (by omega); simpa using this⟩
  · have e : d * d = (-d) * (-d) := by rw [Int.neg_mul_neg]
    rw [e]
    have h' : 0 ≤ -d := by omega
    exact ⟨Int.mul_nonneg h' h', by have := Int.mul_le_mul (show -d ≤ 255 by omega) (show -d ≤ 255 by omega) h' (by omega); simpa using this⟩
set_option maxHeartbeats 400000 in
theorem square_any (x y : Int) (w : World) (hx : U8 x) (hy : U8 y) : Calls Try.prog 32 #[.int .u8 x, .int .u8 y] w fun e w' => e = .returned (.int .i64 (sq x y)) ∧ w = w' := by
  have hb := sq_bd x y hx hy
  unfold sq at hb ⊢
  obtain ⟨hb0, hb1⟩ := hb; obtain ⟨x0, x1⟩ := hx; obtain ⟨y0, y1⟩ := hy
  go_enter Try.func32, Try.ntmps32
  go_wp2
  go_ret
  exact ⟨rfl, rfl⟩
set_option maxHeartbeats 400000 in
theorem rsquare_any (x y : Int) (w : World) (hx : U8 x) (hy : U8 y) : Calls Try.prog 35 #[.int .u8 x, .int .u8 y] w fun e w' => e = .returned (.int .i64 (sq x y)) ∧ w = w' := by
  have hb := sq_bd x y hx hy
  unfold sq at hb ⊢
  obtain ⟨hb0, hb1⟩ := hb; obtain ⟨x0, x1⟩ := hx; obtain ⟨y0, y1⟩ := hy
  go_enter Try.func35, Try.ntmps35
  go_wp2
  go_ret
  exact ⟨rfl, rfl⟩
def farN (ar ag ab br bg bb : Int) : Int := 2 * sq ar br + 4 * sq ag bg + 3 * sq ab bb
theorem farN_bd (ar ag ab br bg bb : Int) (h1 : U8 ar) (h2 : U8 ag) (h3 : U8 ab) (h5 : U8 br) (h6 : U8 bg) (h7 : U8 bb) : 0 ≤ farN ar ag ab br bg bb ∧ farN ar ag ab br bg bb ≤ 585225 := by
  have := sq_bd ar br h1 h5; have := sq_bd ag bg h2 h6; have := sq_bd ab bb h3 h7
  unfold farN; omega
set_option maxHeartbeats 1000000 in
theorem far_any (ar ag ab aA br bg bb bA : Int) (w : World) (h1 : U8 ar) (h2 : U8 ag) (h3 : U8 ab) (h5 : U8 br) (h6 : U8 bg) (h7 : U8 bb) :
    Calls Try.prog 33 #[.agg #[.int .u8 (ar), .int .u8 (ag), .int .u8 (ab), .int .u8 (aA)], .agg #[.int .u8 (br), .int .u8 (bg), .int .u8 (bb), .int .u8 (bA)]] w fun e w' => e = .returned (.int .i64 (farN ar ag ab br bg bb)) ∧ Below w.heap.size w w' := by
  have s1 := sq_bd ar br h1 h5; have s2 := sq_bd ag bg h2 h6; have s3 := sq_bd ab bb h3 h7
  have Q1 := fun w => rsquare_any ar br w h1 h5
  have Q2 := fun w => rsquare_any ag bg w h2 h6
  have Q3 := fun w => rsquare_any ab bb w h3 h7
  replace Q1 := Lib.hid Q1
  replace Q2 := Lib.hid Q2
  replace Q3 := Lib.hid Q3
  unfold farN
  generalize sq ar br = s at *
  generalize sq ag bg = t at *
  generalize sq ab bb = u at *
  obtain ⟨s10, s11⟩ := s1; obtain ⟨s20, s21⟩ := s2; obtain ⟨s30, s31⟩ := s3
  clear h1 h2 h3 h5 h6 h7
  go_enter Try.func33, Try.ntmps33
  go_wp2
  refine wp_region_steady (Held w 2 [(⟨w.heap.size, 0, none⟩, .int .u8 (ar)), (⟨w.heap.size, 1, none⟩, .int .u8 (ag)), (⟨w.heap.size, 2, none⟩, .int .u8 (ab)), (⟨w.heap.size, 3, none⟩, .int .u8 (aA)), (⟨w.heap.size + 1, 0, none⟩, .int .u8 (br)), (⟨w.heap.size + 1, 1, none⟩, .int .u8 (bg)), (⟨w.heap.size + 1, 2, none⟩, .int .u8 (bb)), (⟨w.heap.size + 1, 3, none⟩, .int .u8 (bA))]) (by kernel_rfl) (by kernel_rfl) ⟨(by repeat (first | exact Below.refl _ _ | assumption | refine Below.drew ?_ | refine Below.alloc ?_ (by (try simp) <;> omega) _ | refine Below.setCell ?_ (by (try simp) <;> omega) _)), (by (try simp) <;> omega), (by simp only [Cells]; go_simp)⟩ ?_
  repeat (first | (refine' wpSteady_do (by rfl) _ _; rotate_left; (focus (intro w1 hS R hR; have hc := hS.cells; simp only [Cells] at hc; go_simp; (try go_bits); first | exact hR _ hS | ((go_at_call 35; (with_reducible refine (Q1.out _).mono ?_); rintro e w2 ⟨rfl, rfl⟩; exact ⟨_, rfl, hR _ hS⟩)) | ((go_at_call 35; (with_reducible refine (Q2.out _).mono ?_); rintro e w2 ⟨rfl, rfl⟩; exact ⟨_, rfl, hR _ hS⟩)) | ((go_at_call 35; (with_reducible refine (Q3.out _).mono ?_); rintro e w2 ⟨rfl, rfl⟩; exact ⟨_, rfl, hR _ hS⟩)))); simp only [Act.put, List.setIfInBounds_toArray, List.set_cons_zero, List.set_cons_succ]) | (refine wpSteady_pass (by rfl) ?_; simp only [Act.put, List.setIfInBounds_toArray, List.set_cons_zero, List.set_cons_succ]))
  refine wpSteady_nil (fun w1 hS => ?_)
  have hc := hS.cells; have hb := hS.old; have hz := hS.size; clear hS; simp only [Cells] at hc
  go_wp2
  go_ret
  exact ⟨rfl, (by repeat (first | exact Below.refl _ _ | assumption | refine Below.drew ?_ | refine Below.alloc ?_ (by (try simp) <;> omega) _ | refine Below.setCell ?_ (by (try simp) <;> omega) _ | (refine Below.trans ?_ (Below.mono (by assumption) (by (try simp) <;> omega)))))⟩
end Go.Proofs.Ythecbopffdpefaa
