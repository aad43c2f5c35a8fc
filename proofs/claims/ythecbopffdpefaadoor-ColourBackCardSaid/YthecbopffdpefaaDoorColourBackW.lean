/-
  The law ColourBack walked.
-/
import Derived.Test.YthecbopffdpefaaDoorDooK
namespace Go.Proofs.YthecbopffdpefaaDoor
open Go.RowKit
set_option linter.unusedVariables false
attribute [local go_sem] vwp vUpon_value vUpon_skip vUpon_enter vUpon_row
set_option linter.unusedSimpArgs false
set_option linter.unusedVariables false
attribute [local go_sem high] eql_colour neq_colour
theorem pr_bd {s : ByteArray} {k : Nat} (hC : Cnt s k) (hk : k = 4 ∨ k = 7 ∨ k = 9) : U8 (pr s k 0) ∧ U8 (pr s k 1) ∧ U8 (pr s k 2) ∧ U8 (pr s k 3) := by
  obtain ⟨a, b, c, d, e, f, g, h, hf, ha, hb, hc, hd, he, hff, hg, hh⟩ := fin_eight hC hk
  unfold Six at ha hb hc hd he hff hg hh
  unfold pr U8
  rw [hf]
  simp only [List.getD, List.getElem?_cons_zero, List.getElem?_cons_succ, Option.getD_some]
  show (0 ≤ 16 * a + b ∧ 16 * a + b ≤ 255) ∧ (0 ≤ 16 * c + d ∧ 16 * c + d ≤ 255) ∧ (0 ≤ 16 * e + f ∧ 16 * e + f ≤ 255) ∧ (0 ≤ 16 * g + h ∧ 16 * g + h ≤ 255)
  omega
set_option maxHeartbeats 4000000 in
theorem walk_ColourBack (r g b a : Int) (s : ByteArray) (w : World) (h1 : U8 r) (h2 : U8 g) (h3 : U8 b) (h4 : U8 a) (hs : s.size ≤ maxLen) :
    Calls Tryd.prog 6 #[.agg #[.int .u8 (r), .int .u8 (g), .int .u8 (b), .int .u8 (a)], .string s] w fun e w' => e = .returned (.bool true) ∧ Below w.heap.size w w' := by
  obtain ⟨x, hx⟩ := nib_of r g b a h1 h2 h3 h4
  have TX := fun w => ltext_any r g b a x w hx
  have PX := fun w => tx_parse x r g b a hx w
  generalize x.tx = t at *
  have E1 := eq4_refl r g b a
  replace TX := Lib.hid TX
  replace PX := Lib.hid PX
  clear hx h1 h2 h3 h4
  obtain ⟨k, hC⟩ := Cnt.exists_ s
  by_cases hb : k < s.size ∨ (k ≠ 4 ∧ k ≠ 7 ∧ k ≠ 9)
  · have PY := fun w => lparse_bad s k w hs hC hb
    have k9 := hC.nine
    have ks := hC.le
    have n0 : (0 : Int) ≤ k := by omega
    have n1 : (k : Int) ≤ s.size := by omega
    have n2 : (k : Int) ≤ 9 := by omega
    have E2 := eq4_refl 0 0 0 0
    replace PY := Lib.hid PY
    unfold maxLen at hs
    clear hC hb ks k9
    go_enter Tryd.func6, Tryd.ntmps6
    go_wp2_with (first | (go_at_call 11; (with_reducible refine (TX.out _).mono ?_); rintro e w1 ⟨rfl, hb1⟩; obtain ⟨hc1, hf1⟩ := bcell hb1; have z1 := hb1.size; (try simp at z1); have lt1 : w.heap.size < w1.heap.size := (by omega)) | (go_at_call 9; (with_reducible refine (PX.out _).mono ?_); rintro e w2 ⟨rfl, hb2⟩; obtain ⟨hc2, hf2⟩ := bcell hb2; have z2 := hb2.size; (try simp at z2); have lt2 : w.heap.size < w2.heap.size := (by omega)) | (go_at_call 16; (with_reducible refine (alive_any _).mono ?_); rintro e w3 ⟨rfl, hb3⟩; obtain ⟨hc3, hf3⟩ := bcell hb3; have z3 := hb3.size; (try simp at z3); have lt3 : w.heap.size < w3.heap.size := (by omega); have lu3 : w2.heap.size < w3.heap.size := (by omega)) | (go_at_call 9; (with_reducible refine (PY.out _).mono ?_); rintro e w4 ⟨rfl, hb4⟩; obtain ⟨hc4, hf4⟩ := bcell hb4; have z4 := hb4.size; (try simp at z4); have lt4 : w.heap.size < w4.heap.size := (by omega)) | go_in)
    go_ret
    exact ⟨rfl, (by repeat (first | exact Below.refl _ _ | assumption | refine Below.drew ?_ | refine Below.alloc ?_ (by (try simp) <;> omega) _ | refine Below.setCell ?_ (by (try simp) <;> omega) _ | (refine Below.trans ?_ (Below.mono (by assumption) (by (try simp) <;> omega)))))⟩
  · have hk : k = s.size := by have := hC.le; omega
    have hk4 : k = 4 ∨ k = 7 ∨ k = 9 := by omega
    have PY := fun w => lparse_good s k w hC hk hk4
    obtain ⟨p0, p1, p2, p3⟩ := pr_bd hC hk4
    have p7 : k = 7 → pr s k 3 = 255 := fun h => by subst h; rfl
    obtain ⟨y, hy⟩ := nib_of (pr s k 0) (pr s k 1) (pr s k 2) (pr s k 3) p0 p1 p2 p3
    have TY := fun w => ltext_any _ _ _ _ y w hy
    have PZ := fun w => tx_parse y _ _ _ _ hy w
    obtain ⟨_, q1, _, _, _, _, q6⟩ := tx_read y _ _ _ _ hy
    have m9 : (y.tx.size : Int) ≤ 9 := by omega
    have ms : y.tx.size ≤ s.size ∨ s.size = 4 := by
      by_cases h : y.tx.size ≤ s.size
      · exact .inl h
      · rcases hk4 with h' | h' | h'
        · omega
        · have := q6 (p7 h'); omega
        · omega
    generalize pr s k 0 = c0 at *
    generalize pr s k 1 = c1 at *
    generalize pr s k 2 = c2 at *
    generalize pr s k 3 = c3 at *
    generalize y.tx = u at *
    have E2 := eq4_refl c0 c1 c2 c3
    replace PY := Lib.hid PY
    replace TY := Lib.hid TY
    replace PZ := Lib.hid PZ
    obtain ⟨n, hn⟩ : ∃ n, u.size = n := ⟨_, rfl⟩
    rw [hn] at m9 ms
    unfold maxLen at hs
    clear hy p0 p1 p2 p3 p7 q1 q6 hC hb
    have hn9 : n ≤ 9 := by omega
    clear hk hk4
    replace ms := Lib.hid ms
    go_enter Tryd.func6, Tryd.ntmps6
    go_wp2_with (first | (go_at_call 11; (with_reducible refine (TX.out _).mono ?_); rintro e w1 ⟨rfl, hb1⟩; obtain ⟨hc1, hf1⟩ := bcell hb1; have z1 := hb1.size; (try simp at z1); have lt1 : w.heap.size < w1.heap.size := (by omega)) | (go_at_call 9; (with_reducible refine (PX.out _).mono ?_); rintro e w2 ⟨rfl, hb2⟩; obtain ⟨hc2, hf2⟩ := bcell hb2; have z2 := hb2.size; (try simp at z2); have lt2 : w.heap.size < w2.heap.size := (by omega)) | (go_at_call 16; (with_reducible refine (alive_any _).mono ?_); rintro e w3 ⟨rfl, hb3⟩; obtain ⟨hc3, hf3⟩ := bcell hb3; have z3 := hb3.size; (try simp at z3); have lt3 : w.heap.size < w3.heap.size := (by omega); have lu3 : w2.heap.size < w3.heap.size := (by omega)) | (go_at_call 9; (with_reducible refine (PY.out _).mono ?_); rintro e w4 ⟨rfl, hb4⟩; obtain ⟨hc4, hf4⟩ := bcell hb4; have z4 := hb4.size; (try simp at z4); have lt4 : w.heap.size < w4.heap.size := (by omega)) | (go_at_call 11; (with_reducible refine (TY.out _).mono ?_); rintro e w5 ⟨rfl, hb5⟩; obtain ⟨hc5, hf5⟩ := bcell hb5; have z5 := hb5.size; (try simp at z5); have lt5 : w4.heap.size < w5.heap.size := (by omega)) | (go_at_call 9; (with_reducible refine (PZ.out _).mono ?_); rintro e w6 ⟨rfl, hb6⟩; obtain ⟨hc6, hf6⟩ := bcell hb6; have z6 := hb6.size; (try simp at z6); have lt6 : w4.heap.size < w6.heap.size := (by omega)) | go_in)
    all_goals replace ms := ms.out
    all_goals first
      | (exfalso; omega)
      | (go_ret; refine ⟨?_, (by repeat (first | exact Below.refl _ _ | assumption | refine Below.drew ?_ | refine Below.alloc ?_ (by (try simp) <;> omega) _ | refine Below.setCell ?_ (by (try simp) <;> omega) _ | (refine Below.trans ?_ (Below.mono (by assumption) (by (try simp) <;> omega)))))⟩; first | rfl | (congr 2; (try simp); done) | (congr 2; (try simp); first | omega | (rcases ms with h | h <;> simp [h] <;> omega)))
end Go.Proofs.YthecbopffdpefaaDoor
