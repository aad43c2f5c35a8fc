/-
  Lists of integers held against one another.
-/
import Derived.Test.YtblneabjdbllbaaMotU
namespace Go.Proofs.Ytblneabjdbllbaa
open Go.RowKit
set_option linter.unusedVariables false
attribute [local go_sem] vwp vUpon_value vUpon_skip vUpon_enter vUpon_row
set_option linter.unusedSimpArgs false
def Ints (w : World) (v : Value) (xs : List Int) : Prop :=
  ∃ s cap, v = .slice s xs.length cap ∧ xs.length ≤ maxLen ∧ (0 < xs.length → ∃ g, s = some ⟨g, 0, none⟩ ∧ g < w.heap.size ∧ ∀ (k : Nat) (n : Int), xs[k]? = some n → w.cell? ⟨g, k, none⟩ = some (.int .i64 n))
theorem ints_of_own {w : World} {base : Nat} {e : TypeId} {v : Value} {n : Nat} {xs : List Int} (h : w.ownsRow base e 1 v n (xs.map (Value.int .i64))) (hn : n = xs.length) : Ints w v xs := by
  subst hn
  rcases h.2 with ⟨rfl, h0⟩ | ⟨g, cap, cur, rfl, _, hh, hnc, hcm, _⟩
  · exact ⟨none, 0, by rw [h0], by rw [h0]; exact Nat.zero_le _, fun h => by omega⟩
  · refine ⟨_, cap, rfl, by omega, fun h0 => ⟨g, rfl, Go.lt_of_block hh, fun k n hk => ?_⟩⟩
    obtain ⟨g', cap', e, _, _, _, _, hc⟩ := own_open h h0
    simp at e
    obtain ⟨rfl, _⟩ := e
    exact (hc k _ (by simp [hk])).1
theorem Ints.below {w w' : World} {v : Value} {xs : List Int} (h : Ints w v xs) (hb : Below w.heap.size w w') : Ints w' v xs := by
  obtain ⟨s, cap, hv, hm, h⟩ := h
  refine ⟨s, cap, hv, hm, fun h0 => ?_⟩
  obtain ⟨g, hs, hg, hc⟩ := h h0
  exact ⟨g, hs, Nat.lt_of_lt_of_le hg hb.size, fun k n hk => (hb.cell (p := ⟨g, k, none⟩) hg).trans (hc k n hk)⟩
set_option maxHeartbeats 1000000 in
theorem alike_same (xs : List Int) (a b : Value) (w : World) (ha : Ints w a xs) (hb : Ints w b xs) : Calls Try.prog 23 #[a, b] w fun e w' => e = .returned (.bool true) ∧ Below w.heap.size w w' := by
  obtain ⟨s1, cap1, rfl, hm, h1⟩ := ha
  obtain ⟨s2, cap2, rfl, _, h2⟩ := hb
  obtain ⟨n, hn⟩ : ∃ n, xs.length = n := ⟨_, rfl⟩
  rw [hn] at h1 h2 hm ⊢
  replace h1 := Lib.hid h1
  replace h2 := Lib.hid h2
  replace hn := Lib.hid hn
  unfold maxLen at hm
  go_enter Try.func23, Try.ntmps23
  go_wp2
  go_loopw [5] (fun i wr => ∃ k : Nat, k ≤ n ∧ i = .int .i64 k ∧ Below w.heap.size w wr) (fun i _ => n - (intOf i).toNat)
  case atStart => exact ⟨0, Nat.zero_le _, rfl, Below.refl _ _⟩
  case round =>
    obtain ⟨k, hk, rfl, hbr⟩ := hrel
    have zr := hbr.size
    obtain ⟨hcr, hfr⟩ := bcell hbr
    by_cases hkn : k < n
    · obtain ⟨g1, rfl, l1, c1⟩ := h1.out (by omega)
      obtain ⟨g2, rfl, l2, c2⟩ := h2.out (by omega)
      have e : xs[k]? = some (xs[k]'(by have := hn.out; omega)) := List.getElem?_eq_getElem _
      have d1 := c1 k _ e
      have d2 := c2 k _ e
      generalize xs[k]'(by have := hn.out; omega) = y at d1 d2
      have hkk : (k : Int) < n := by omega
      have y1 : g1 < wr.heap.size := by omega
      have y2 : g2 < wr.heap.size := by omega
      clear c1 c2 e
      go_wp2
      refine wp_region_steady (Held wr 0 []) (by kernel_rfl) (by kernel_rfl) ⟨(by repeat (first | exact Below.refl _ _ | assumption | refine Below.drew ?_ | refine Below.alloc ?_ (by (try simp) <;> omega) _ | refine Below.setCell ?_ (by (try simp) <;> omega) _ | (refine Below.trans ?_ (Below.mono (by assumption) (by (try simp) <;> omega))))), (by (try simp) <;> omega), (by first | exact trivial | (simp only [Cells]; go_simp))⟩ ?_
      repeat (first | (refine' wpSteady_do _ _ _; rotate_left; (focus rfl); (focus (intro w1 hS R hR; have hc := hS.cells; simp only [Cells] at hc; obtain ⟨hco, hfo⟩ := bcell hS.old; go_simp; (try go_bits); first | exact hR _ hS | fail)); simp only [Act.put, List.setIfInBounds_toArray, List.set_cons_zero, List.set_cons_succ]) | (refine wpSteady_pass ?_ ?_; (focus rfl); simp only [Act.put, List.setIfInBounds_toArray, List.set_cons_zero, List.set_cons_succ]))
      refine wpSteady_nil (fun uA hSA => ?_)
      have hcA := hSA.cells; have hbA := hSA.old; have hzA := hSA.size; clear hSA; simp only [Cells] at hcA; obtain ⟨hcoA, hfoA⟩ := bcell hbA
      go_wp2
      go_roundw
      case rel => exact ⟨k + 1, by omega, by go_num, hbr.trans (hbA.mono zr)⟩
      case measure => simp [intOf]; omega
    · obtain rfl : k = n := by omega
      go_wp2
      go_ret
      exact ⟨rfl, hbr⟩
end Go.Proofs.Ytblneabjdbllbaa
