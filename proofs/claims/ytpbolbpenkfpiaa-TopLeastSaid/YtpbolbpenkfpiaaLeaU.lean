/-
  The least numbers, and the loop of bounds where there are none.
-/
import Derived.Test.YtpbolbpenkfpiaaLeaS
namespace Go.Proofs.Ytpbolbpenkfpiaa
open Go.RowKit
set_option linter.unusedVariables false
attribute [local go_sem] vwp vUpon_value vUpon_skip vUpon_enter vUpon_row
set_option linter.unusedSimpArgs false
/-- A list of integers in one block of the memory. -/
theorem blk_row {w : World} {g N B : Nat} {x : List Int} {e : TypeId} (h : Blk w g (x.map (Value.int .i64)) e) (hx : x.length = N) (hN : N ≤ 4096) (hB : g < B) : Row B 1 encI w (.slice (some ⟨g, 0, none⟩) N N) x := by
  subst hx
  refine h.row (cap := x.length) (enc := encI) (sz := 1) (fun _ => rfl) ?_ (Nat.le_refl _) (by unfold maxLen; omega) hB
  rw [Nat.mul_one, List.take_of_length_le (by simp)]
  clear hN h
  induction x with
  | nil => rfl
  | cons a x ih => rw [List.map_cons, List.flatMap_cons, ih]; rfl
set_option maxHeartbeats 1000000 in
theorem solve_any (N : Nat) (bs : List Bd) (v : Value) (w : World) (hr : Row w.heap.size 3 encB w v bs) (hv : Valid N bs) :
    Calls Try.prog 4 #[.int .i64 N, v] w fun e w' => Below w.heap.size w w' ∧
      ((∃ x g, e = .returned (.tuple #[.slice (some ⟨g, 0, none⟩) N N, .int .i64 0]) ∧ w.heap.size ≤ g ∧ Blk w' g (x.map (Value.int .i64)) 3 ∧ Sol N bs x ∧ (∀ at_, Sol N bs at_ → ∀ v, v < N → X x v ≤ X at_ v) ∧ ∀ v, v < N → X x v ≤ 1125899906842624) ∨
       (e = .returned (.tuple #[.slice none 0 0, .int .i64 90]) ∧ ∀ at_, ¬ Sol N bs at_)) := by
  have CK := fun w' (hb : Below w.heap.size w w') => check_ok N bs v w' ((hr.below hb).mono hb.size) hv
  have RD := fun w' (hb : Below w.heap.size w w') => rounds_any N bs v w' ((hr.below hb).mono hb.size) hv
  obtain ⟨s, cap, hv', hmax⟩ := hr.shape
  replace CK := Lib.hid CK
  replace RD := Lib.hid RD
  subst hv'
  have n1 := hv.n1
  clear hr
  go_enter Try.func4, Try.ntmps4
  go_wp2_with (first
    | (go_at_call 9; (with_reducible refine (CK.out _ (by repeat (first | exact Below.refl _ _ | assumption | refine Below.drew ?_ | refine Below.alloc ?_ (by (try simp) <;> omega) _ | refine Below.setCell ?_ (by (try simp) <;> omega) _ | (refine Below.trans ?_ (Below.mono (by assumption) (by (try simp) <;> omega)))))).mono ?_); rintro e w1 ⟨rfl, hb1⟩; obtain ⟨hc1, hf1⟩ := bcell hb1; have hz1 := hb1.size; (try simp at hz1); (try have lt1 : w.heap.size < w1.heap.size := (by omega)))
    | (go_at_call 10; (with_reducible refine (RD.out _ (by repeat (first | exact Below.refl _ _ | assumption | refine Below.drew ?_ | refine Below.alloc ?_ (by (try simp) <;> omega) _ | refine Below.setCell ?_ (by (try simp) <;> omega) _ | (refine Below.trans ?_ (Below.mono (by assumption) (by (try simp) <;> omega)))))).mono ?_); rintro e w2 ⟨hb2, x, made, last, g1, g2, rfl, l1, l2, lx, lm, k1, k2, hF⟩; have hz2 := hb2.size))
  · have hlt : 0 < last := by assumption
    go_ret2
    refine ⟨(by repeat (first | exact Below.refl _ _ | assumption | refine Below.drew ?_ | refine Below.alloc ?_ (by (try simp) <;> omega) _ | refine Below.setCell ?_ (by (try simp) <;> omega) _ | (refine Below.trans ?_ (Below.mono (by assumption) (by (try simp) <;> omega))))), .inr ⟨rfl, ?_⟩⟩
    rcases hF with ⟨h, _⟩ | ⟨h, hR⟩
    · omega
    · exact fun at_ => hR.none at_
  · have hlt : ¬ 0 < last := by omega
    go_ret2
    rcases hF with ⟨h, a, b, c⟩ | ⟨h, _⟩
    · exact ⟨(by repeat (first | exact Below.refl _ _ | assumption | refine Below.drew ?_ | refine Below.alloc ?_ (by (try simp) <;> omega) _ | refine Below.setCell ?_ (by (try simp) <;> omega) _ | (refine Below.trans ?_ (Below.mono (by assumption) (by (try simp) <;> omega))))), .inl ⟨x, g1, rfl, by omega, (by repeat (first | (with_reducible assumption) | (with_reducible refine Blk.drew ?_) | ((with_reducible refine Blk.new' ?_); (simp; done)) | (with_reducible refine Blk.alloc ?_ _) | ((with_reducible refine Blk.set_ne ?_ ?_ _); rotate_left; (focus (first | (simp; omega) | omega))))), a, b, c⟩⟩
    · omega
set_option maxHeartbeats 1000000 in
theorem behind_any (bs : List Bd) (made : List Int) (B bl bw g2 N v j : Nat) (b : Bd) (vl : Value) (w : World) (hr : Row B 3 encB w vl bs) (h1 : w.cell? ⟨bl, 0, none⟩ = some vl) (h2 : w.cell? ⟨bw, 1, none⟩ = some (.slice (some ⟨g2, 0, none⟩) N N))
    (h3 : w.cell? ⟨g2, v, none⟩ = some (.int .i64 (X made v))) (hv : v < N) (hN : N ≤ 4096) (hj : bs[j]? = some b) (hm : X made v = j + 1) (hb : b.a.toNat = src bs made v) (ha : 0 ≤ b.a) (hB : B ≤ w.heap.size) :
    Calls Try.prog 11 #[.int .i64 v, .pointer (some ⟨bl, 0, none⟩), .pointer (some ⟨bw, 0, none⟩)] w fun e w' => e = .returned (.int .i64 (src bs made v)) ∧ Below w.heap.size w w' := by
  have hjl := (List.getElem?_eq_some_iff.1 hj).1
  obtain ⟨bb, o, cap, rfl, hbl, hlc, hcm, hcell⟩ := hr.open_ (by omega)
  obtain ⟨c0, c1, c2⟩ := enc3 (hcell j b hj)
  have ea : (src bs made v : Int) = b.a := by rw [← hb]; omega
  rw [ea]
  rw [hm] at h3
  have l1 := World.block_lt_of_cell? _ _ h1
  have l2 := World.block_lt_of_cell? _ _ h2
  have l3 := World.block_lt_of_cell? _ _ h3
  have l4 := World.block_lt_of_cell? _ _ c0
  simp only at l1 l2 l3 l4
  obtain ⟨L, hL⟩ : ∃ L, bs.length = L := ⟨_, rfl⟩
  rw [hL] at hjl h1 hlc
  have hvv : (v : Int) < N := by omega
  have hjj : (j : Int) < L := by omega
  clear hcell hr hj hm hb ea
  unfold maxLen at hcm
  go_enter Try.func11, Try.ntmps11
  go_wp2
  refine wp_region_steady (Held w 0 []) (by kernel_rfl) (by kernel_rfl) ⟨(by repeat (first | exact Below.refl _ _ | assumption | refine Below.drew ?_ | refine Below.alloc ?_ (by (try simp) <;> omega) _ | refine Below.setCell ?_ (by (try simp) <;> omega) _ | (refine Below.trans ?_ (Below.mono (by assumption) (by (try simp) <;> omega))))), (by (try simp) <;> omega), (by first | exact trivial | (simp only [Cells]; go_simp))⟩ ?_
  repeat (first | (refine' wpSteady_do _ _ _; rotate_left; (focus rfl); (focus (intro w1 hS R hR; have hc := hS.cells; simp only [Cells] at hc; obtain ⟨hco, hfo⟩ := bcell hS.old; go_simp; (try go_bits); first | exact hR _ hS | fail)); simp only [Act.put, List.setIfInBounds_toArray, List.set_cons_zero, List.set_cons_succ]) | (refine wpSteady_pass ?_ ?_; (focus rfl); simp only [Act.put, List.setIfInBounds_toArray, List.set_cons_zero, List.set_cons_succ]))
  refine wpSteady_nil (fun uA hSA => ?_)
  have hcA := hSA.cells; have hbA := hSA.old; have hzA := hSA.size; clear hSA; simp only [Cells] at hcA; obtain ⟨hcoA, hfoA⟩ := bcell hbA
  go_wp2
  go_ret
  exact ⟨rfl, hbA⟩
end Go.Proofs.Ytpbolbpenkfpiaa
