/-
  The colours' functions of numbers: what each call computes.
-/
import Derived.Test.YthecbopffdpefaaDoorSteady
import Derived.Test.YthecbopffdpefaaDoorRows
import Derived.WalkKit
import Derived.WalkSpells
import Derived.WalkLawsBesides
import Derived.Lib.Hide
namespace Go.Proofs.YthecbopffdpefaaDoor
open Go.RowKit
set_option linter.unusedVariables false
set_option linter.unusedSimpArgs false
attribute [local go_sem] vwp vUpon_value vUpon_skip vUpon_enter vUpon_row

def U8 (x : Int) : Prop := 0 ≤ x ∧ x ≤ 255

theorem u8_of {x : Int} (h : (Lit.int .u8 x).wf = true) : U8 x := by
  have : 0 ≤ x ∧ x ≤ 255 := by simpa [Lit.wf, IntKind.min, IntKind.max, IntKind.signed, IntKind.bits] using h
  exact this

/-- A part laid over another one. -/
def part (up down x y : Int) : Int := (up * x + down * y + (up + down) / 2) / (up + down)
theorem part_bd (up down x y : Int) (hx : U8 x) (hy : U8 y) (h1 : 0 ≤ up) (h3 : 0 ≤ down) (h5 : 0 < up + down) : U8 (part up down x y) := by
  obtain ⟨hx0, hx1⟩ := hx; obtain ⟨hy0, hy1⟩ := hy
  unfold part U8
  have m1 : 0 ≤ up * x := Int.mul_nonneg h1 hx0
  have m2 : up * x ≤ up * 255 := Int.mul_le_mul_of_nonneg_left hx1 h1
  have m3 : 0 ≤ down * y := Int.mul_nonneg h3 hy0
  have m4 : down * y ≤ down * 255 := Int.mul_le_mul_of_nonneg_left hy1 h3
  generalize up * x = p at *; generalize down * y = q at *
  refine ⟨Int.ediv_nonneg (by omega) (by omega), ?_⟩
  have : p + q + (up + down) / 2 < 256 * (up + down) := by omega
  have := Int.ediv_lt_of_lt_mul h5 this
  omega

set_option maxHeartbeats 400000 in
theorem overPart (x y up down : Int) (bu bd bn ou od on : Nat) (w : World) (hx : U8 x) (hy : U8 y)
    (h1 : 0 ≤ up) (h2 : up ≤ 65025) (h3 : 0 ≤ down) (h4 : down ≤ 65025) (h5 : 0 < up + down)
    (hu : w.cell? ⟨bu, ou, none⟩ = some (.int .i64 up)) (hd : w.cell? ⟨bd, od, none⟩ = some (.int .i64 down)) (hn : w.cell? ⟨bn, on, none⟩ = some (.int .i64 (up + down))) :
    Calls Tryd.prog 31 #[.int .u8 x, .int .u8 y, .pointer (some ⟨bu, ou, none⟩), .pointer (some ⟨bd, od, none⟩), .pointer (some ⟨bn, on, none⟩)] w fun e w' =>
      e = .returned (.int .u8 (part up down x y)) ∧ w = w' := by
  have hbd := part_bd up down x y hx hy h1 h3 h5
  unfold part at hbd ⊢
  obtain ⟨hx0, hx1⟩ := hx; obtain ⟨hy0, hy1⟩ := hy; obtain ⟨b0, b1⟩ := hbd
  have m1 : 0 ≤ up * x := Int.mul_nonneg h1 hx0
  have m2 : up * x ≤ 65025 * 255 := Int.mul_le_mul h2 hx1 hx0 (by omega)
  have m3 : 0 ≤ down * y := Int.mul_nonneg h3 hy0
  have m4 : down * y ≤ 65025 * 255 := Int.mul_le_mul h4 hy1 hy0 (by omega)
  go_enter Tryd.func31, Tryd.ntmps31
  go_wp2
  go_ret
  exact ⟨rfl, rfl⟩

/-- P4.3, over numbers. -/
def ov (aA bA x y : Int) : Int := if aA = 0 then y else part (255 * aA) ((255 - aA) * bA) x y
def ovA (aA bA : Int) : Int := if aA = 0 then bA else (255 * aA + (255 - aA) * bA + 127) / 255

theorem down_bd (aA bA : Int) (h1 : U8 aA) (h2 : U8 bA) : 0 ≤ (255 - aA) * bA ∧ (255 - aA) * bA ≤ (255 - aA) * 255 ∧ 255 * aA + (255 - aA) * bA ≤ 65025 := by
  obtain ⟨a, b⟩ := h1; obtain ⟨c, d⟩ := h2
  have m1 : 0 ≤ (255 - aA) * bA := Int.mul_nonneg (by omega) c
  have m2 : (255 - aA) * bA ≤ (255 - aA) * 255 := Int.mul_le_mul_of_nonneg_left d (by omega)
  exact ⟨m1, m2, by omega⟩
theorem ov_bd (aA bA x y : Int) (h1 : U8 aA) (h2 : U8 bA) (hx : U8 x) (hy : U8 y) : U8 (ov aA bA x y) := by
  obtain ⟨m1, m2, m3⟩ := down_bd aA bA h1 h2
  unfold ov
  split
  · exact hy
  · have : 0 < aA := by have := h1.1; omega
    exact part_bd _ _ _ _ hx hy (by omega) m1 (by omega)
theorem ovA_bd (aA bA : Int) (h1 : U8 aA) (h2 : U8 bA) : U8 (ovA aA bA) := by
  obtain ⟨m1, m2, m3⟩ := down_bd aA bA h1 h2
  obtain ⟨a, b⟩ := h1
  unfold ovA
  split
  · exact h2
  · exact ⟨by omega, by omega⟩

set_option maxHeartbeats 1000000 in
theorem over_any (ar ag ab aA br bg bb bA : Int) (w : World) (h1 : U8 ar) (h2 : U8 ag) (h3 : U8 ab) (h4 : U8 aA) (h5 : U8 br) (h6 : U8 bg) (h7 : U8 bb) (h8 : U8 bA) :
    Calls Tryd.prog 13 #[.agg #[.int .u8 (ar), .int .u8 (ag), .int .u8 (ab), .int .u8 (aA)], .agg #[.int .u8 (br), .int .u8 (bg), .int .u8 (bb), .int .u8 (bA)]] w fun e w' =>
      e = .returned (.agg #[.int .u8 (ov aA bA ar br), .int .u8 (ov aA bA ag bg), .int .u8 (ov aA bA ab bb), .int .u8 (ovA aA bA)]) ∧ Below w.heap.size w w' := by
  by_cases h0 : aA = 0
  · subst h0
    go_enter Tryd.func13, Tryd.ntmps13
    go_wp2
    refine bodyPost_ret (v := .agg #[.int .u8 (br), .int .u8 (bg), .int .u8 (bb), .int .u8 (bA)]) (by simp [results, Tryd.results13, go_sem]) rfl ⟨by simp [ov, ovA], (by repeat (first | exact Below.refl _ _ | assumption | refine Below.drew ?_ | refine Below.alloc ?_ (by (try simp) <;> omega) _ | refine Below.setCell ?_ (by (try simp) <;> omega) _))⟩
  · obtain ⟨m1, m2, m3⟩ := down_bd aA bA h4 h8
    have a1 := ovA_bd aA bA h4 h8
    obtain ⟨p0, p1⟩ := h4; obtain ⟨q0, q1⟩ := h8
    have hne : (aA == 0) = false := by simp; omega
    have hp : 0 < aA := by omega
    have e1 : ov aA bA ar br = part (255 * aA) ((255 - aA) * bA) ar br := if_neg h0
    have e2 : ov aA bA ag bg = part (255 * aA) ((255 - aA) * bA) ag bg := if_neg h0
    have e3 : ov aA bA ab bb = part (255 * aA) ((255 - aA) * bA) ab bb := if_neg h0
    have e4 : ovA aA bA = (255 * aA + (255 - aA) * bA + 127) / 255 := if_neg h0
    rw [e1, e2, e3, e4]
    rw [e4] at a1
    obtain ⟨a10, a11⟩ := a1
    clear e1 e2 e3 e4 h0
    go_enter Tryd.func13, Tryd.ntmps13
    go_wp2
    refine wp_region_steady_then (Held w 6 [(⟨w.heap.size, 0, none⟩, .int .u8 ar), (⟨w.heap.size, 1, none⟩, .int .u8 ag), (⟨w.heap.size, 2, none⟩, .int .u8 ab), (⟨w.heap.size + 1, 0, none⟩, .int .u8 br), (⟨w.heap.size + 1, 1, none⟩, .int .u8 bg), (⟨w.heap.size + 1, 2, none⟩, .int .u8 bb), (⟨w.heap.size + 1 + 1, 0, none⟩, .int .u8 0), (⟨w.heap.size + 1 + 1, 1, none⟩, .int .u8 0), (⟨w.heap.size + 1 + 1, 2, none⟩, .int .u8 0), (⟨w.heap.size + 1 + 1, 3, none⟩, .int .u8 0), (⟨w.heap.size + 1 + 1 + 1, 0, none⟩, .int .i64 (255 * aA)), (⟨w.heap.size + 1 + 1 + 1 + 1, 0, none⟩, .int .i64 ((255 - aA) * bA)), (⟨w.heap.size + 1 + 1 + 1 + 1 + 1, 0, none⟩, .int .i64 (255 * aA + (255 - aA) * bA))]) 23 (by kernel_rfl) (by kernel_rfl) (by decide) (by kernel_rfl) (by kernel_rfl) ⟨(by repeat (first | exact Below.refl _ _ | assumption | refine Below.drew ?_ | refine Below.alloc ?_ (by (try simp) <;> omega) _ | refine Below.setCell ?_ (by (try simp) <;> omega) _)), (by (try simp) <;> omega), (by simp only [Cells]; go_simp)⟩ ?_
    simp only [List.take_succ_cons, List.take_zero]
    repeat (first | (refine' wpSteady_do _ _ _; rotate_left; (focus rfl); (focus (intro w1 hS R hR; have hc := hS.cells; simp only [Cells] at hc; go_simp; (try go_bits); first | exact hR _ hS | (refine (overPart _ _ (255 * aA) ((255 - aA) * bA) _ _ _ _ _ _ _ ‹_› ‹_› (by omega) (by omega) (by omega) (by omega) (by omega) (by simp only [hc]) (by simp only [hc]) (by simp only [hc])).mono ?_; rintro e w2 ⟨rfl, rfl⟩; exact ⟨_, rfl, hR _ hS⟩))); simp only [Act.put, List.setIfInBounds_toArray, List.set_cons_zero, List.set_cons_succ]) | (refine wpSteady_pass ?_ ?_; (focus rfl); simp only [Act.put, List.setIfInBounds_toArray, List.set_cons_zero, List.set_cons_succ]))
    refine wpSteady_nil (fun w1 hS => ?_)
    have hc := hS.cells; have hb := hS.old; have hz := hS.size; clear hS; simp only [Cells] at hc
    simp only [List.drop_succ_cons, List.drop_zero, List.drop_nil]
    go_wp2
    refine bodyPost_ret (v := .agg #[.int .u8 (part (255 * aA) ((255 - aA) * bA) ar br), .int .u8 (part (255 * aA) ((255 - aA) * bA) ag bg), .int .u8 (part (255 * aA) ((255 - aA) * bA) ab bb), .int .u8 ((255 * aA + (255 - aA) * bA + 127) / 255)]) (by simp [results, Tryd.results13, go_sem, hc]) rfl ⟨rfl, ?_⟩
    exact (by repeat (first | exact Below.refl _ _ | assumption | refine Below.drew ?_ | refine Below.alloc ?_ (by (try simp) <;> omega) _ | refine Below.setCell ?_ (by (try simp) <;> omega) _))
end Go.Proofs.YthecbopffdpefaaDoor
