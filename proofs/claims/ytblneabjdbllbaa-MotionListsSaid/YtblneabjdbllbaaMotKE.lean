/-
  'kept' of the law.
-/
import Derived.Test.YtblneabjdbllbaaMotLT
namespace Go.Proofs.Ytblneabjdbllbaa
open Go.RowKit
set_option linter.unusedVariables false
attribute [local go_sem] vwp vUpon_value vUpon_skip vUpon_enter vUpon_row
set_option linter.unusedSimpArgs false
set_option maxHeartbeats 2000000 in
theorem kept_any (ms : List Mo) (v : Value) (w : World) (g cap : Nat) (hx : Lent ms w g cap) (hl : Lst w v ms) : Calls Try.prog 24 #[.slice (some ⟨g, 0, none⟩) ms.length cap, v] w fun e w' => e = .returned (.bool true) ∧ Below w.heap.size w w' := by
  obtain ⟨hg, hnc, hcm, hlx, hmk⟩ := hx
  obtain ⟨s, cap2, rfl, hmax⟩ := lst_slice' hl
  have hopen := fun h0 => lst_open hl h0
  have hopex := fun h0 => lst_open hlx h0
  obtain ⟨n, hn⟩ : ∃ n, ms.length = n := ⟨_, rfl⟩
  rw [hn] at hopen hopex hmax hnc hmk ⊢
  clear hl hlx
  replace hopen := Lib.hid hopen
  replace hopex := Lib.hid hopex
  replace hn := Lib.hid hn
  have n1 : (n : Int) + 1 ≤ cap := by omega
  have n2 : (n : Int) < n + 1 := by omega
  unfold maxLen at hmax hcm
  go_enter Try.func24, Try.ntmps24
  go_wp2
  go_loopw [5] (fun i wr => ∃ k : Nat, k ≤ n ∧ i = .int .i64 k ∧ Below w.heap.size w wr) (fun i _ => n - (intOf i).toNat)
  case atStart => exact ⟨0, Nat.zero_le _, rfl, (by repeat (first | exact Below.refl _ _ | assumption | refine Below.drew ?_ | refine Below.alloc ?_ (by (try simp) <;> omega) _ | refine Below.setCell ?_ (by (try simp) <;> omega) _))⟩
  case round =>
    obtain ⟨k, hk, rfl, hbr⟩ := hrel
    have zr := hbr.size
    obtain ⟨hcr, hfr⟩ := bcell hbr
    have yg : g < wr.heap.size := by omega
    by_cases hkn : k < n
    · obtain ⟨b, o, cap', e, hb, hel⟩ := hopen.out (by omega)
      simp at e
      obtain ⟨rfl, rfl⟩ := e
      obtain ⟨b', o', cap', e, _, hex⟩ := hopex.out (by omega)
      simp at e
      obtain ⟨⟨rfl, rfl⟩, rfl⟩ := e
      obtain ⟨m, hm⟩ : ∃ m, ms[k]? = some m := ⟨ms[k]'(by have := hn.out; omega), List.getElem?_eq_getElem _⟩
      obtain ⟨g0, g1, g2, g3, g4, g5, g6, g7⟩ := (hel k m hm).2
      obtain ⟨j0, j1, j2, j3, j4, j5, j6, j7⟩ := (hex k m hm).2
      simp only [Nat.zero_add, Addr.add, if_neg (show ¬ (1:Nat) = 0 by decide), if_neg (show ¬ (2:Nat) = 0 by decide), if_neg (show ¬ (3:Nat) = 0 by decide), if_neg (show ¬ (4:Nat) = 0 by decide), if_neg (show ¬ (5:Nat) = 0 by decide), if_neg (show ¬ (6:Nat) = 0 by decide), if_neg (show ¬ (7:Nat) = 0 by decide)] at g1 g2 g3 g4 g5 g6 g7 j0 j1 j2 j3 j4 j5 j6 j7
      have hkk : (k : Int) < n := by omega
      have yb : b < wr.heap.size := by omega
      clear hel hex hm
      go_wp2
      refine wp_region_steady (Held wr 0 []) (by kernel_rfl) (by kernel_rfl) ⟨(by repeat (first | exact Below.refl _ _ | assumption | refine Below.drew ?_ | refine Below.alloc ?_ (by (try simp) <;> omega) _ | refine Below.setCell ?_ (by (try simp) <;> omega) _ | (refine Below.trans ?_ (Below.mono (by assumption) (by (try simp) <;> omega))))), (by (try simp) <;> omega), (by first | exact trivial | (simp only [Cells]; go_simp))⟩ ?_
      repeat (first | (refine' wpSteady_do _ _ _; rotate_left; (focus rfl); (focus (intro w1 hS R hR; have hc := hS.cells; simp only [Cells] at hc; obtain ⟨hco, hfo⟩ := bcell hS.old; go_simp; (try go_bits); first | exact hR _ hS | fail)); simp only [Act.put, List.setIfInBounds_toArray, List.set_cons_zero, List.set_cons_succ]) | (refine wpSteady_pass ?_ ?_; (focus rfl); simp only [Act.put, List.setIfInBounds_toArray, List.set_cons_zero, List.set_cons_succ]))
      refine wpSteady_nil (fun uA hSA => ?_)
      have hcA := hSA.cells; have hbA := hSA.old; have hzA := hSA.size; clear hSA; simp only [Cells] at hcA; obtain ⟨hcoA, hfoA⟩ := bcell hbA
      go_wp2
      go_roundw
      case rel => exact ⟨k + 1, by omega, by go_num, hbr.trans (hbA.mono zr)⟩
      case measure => simp [intOf]; omega
    · obtain rfl : k = n := by omega
      go_wp2
      go_ret
      exact ⟨rfl, hbr⟩
end Go.Proofs.Ytblneabjdbllbaa
