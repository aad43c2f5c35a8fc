/-
  Same of both texts.
-/
import Derived.Test.YtkmofpnefjgnkaaLisN
namespace Go.Proofs.Ytkmofpnefjgnkaa
open Go.RowKit
set_option linter.unusedVariables false
attribute [local go_sem] vwp vUpon_value vUpon_skip vUpon_enter vUpon_row
set_option linter.unusedSimpArgs false
set_option linter.unusedVariables false
def sameL : List St → List St → Bool
  | [], [] => true
  | x :: xs, y :: ys => x.eqb y && sameL xs ys
  | _, _ => false
theorem sameL_len : ∀ {xs ys : List St}, xs.length ≠ ys.length → sameL xs ys = false
  | [], [], h => absurd rfl h
  | [], _ :: _, _ => rfl
  | _ :: _, [], _ => rfl
  | x :: xs, y :: ys, h => by
    unfold sameL
    rw [sameL_len (by simpa using h), Bool.and_false]
theorem St.eqb_refl (s : St) : s.eqb s = true := by simp [St.eqb, Re.eqb, Co.eqb, eq4]
theorem sameL_refl : ∀ xs : List St, sameL xs xs = true
  | [] => rfl
  | x :: xs => by unfold sameL; rw [x.eqb_refl, sameL_refl xs]; rfl
theorem same_step {xs ys : List St} {k : Nat} {x y : St} (hx : xs[k]? = some x) (hy : ys[k]? = some y) : sameL (xs.drop k) (ys.drop k) = (x.eqb y && sameL (xs.drop (k + 1)) (ys.drop (k + 1))) := by
  obtain ⟨hk, e⟩ := List.getElem?_eq_some_iff.1 hx
  obtain ⟨hk', e'⟩ := List.getElem?_eq_some_iff.1 hy
  rw [List.drop_eq_getElem_cons hk, e, List.drop_eq_getElem_cons hk', e']
  rfl
theorem neq_stroke (w : World) (k x y wd ht c0 c1 c2 c3 b0 b1 b2 b3 n k' x' y' wd' ht' c0' c1' c2' c3' b0' b1' b2' b3' n' : Int) (t t' : ByteArray) :
    (binOp .neq 45 (.agg #[.int .u8 k, .int .i64 x, .int .i64 y, .int .i64 wd, .int .i64 ht, .int .u8 c0, .int .u8 c1, .int .u8 c2, .int .u8 c3, .int .u8 b0, .int .u8 b1, .int .u8 b2, .int .u8 b3, .string t, .int .i64 n]) (.agg #[.int .u8 k', .int .i64 x', .int .i64 y', .int .i64 wd', .int .i64 ht', .int .u8 c0', .int .u8 c1', .int .u8 c2', .int .u8 c3', .int .u8 b0', .int .u8 b1', .int .u8 b2', .int .u8 b3', .string t', .int .i64 n'])).run Try.prog w
      = .ok (.bool (!St.eqb ⟨k, ⟨x, y, wd, ht⟩, ⟨c0, c1, c2, c3⟩, ⟨b0, b1, b2, b3⟩, t, n⟩ ⟨k', ⟨x', y', wd', ht'⟩, ⟨c0', c1', c2', c3'⟩, ⟨b0', b1', b2', b3'⟩, t', n'⟩)) w := by
  rw [run_neq_struct]
  have h := eq_stroke 9996 w ⟨k, ⟨x, y, wd, ht⟩, ⟨c0, c1, c2, c3⟩, ⟨b0, b1, b2, b3⟩, t, n⟩ ⟨k', ⟨x', y', wd', ht'⟩, ⟨c0', c1', c2', c3'⟩, ⟨b0', b1', b2', b3'⟩, t', n'⟩
  simp only at h
  rw [h]
  rfl
attribute [local go_sem high] neq_stroke
set_option maxHeartbeats 2000000 in
set_option maxRecDepth 100000 in
theorem rsame_any (xs ys : List St) (v1 v2 : Value) (w : World) (h1 : Row w.heap.size 15 St.enc w v1 xs) (h2 : Row w.heap.size 15 St.enc w v2 ys) (hmany : xs.length ≤ 40000) (hmany2 : ys.length ≤ 40000) : Calls Try.prog 12 #[v1, v2] w fun e w' => e = .returned (.bool (sameL xs ys)) ∧ Below w.heap.size w w' := by
  obtain ⟨s1, c1, rfl, hmax1⟩ := h1.shape
  obtain ⟨s2, c2, rfl, hmax2⟩ := h2.shape
  have o1 := fun h0 => row_st h1 h0
  have o2 := fun h0 => row_st h2 h0
  clear h1 h2
  obtain ⟨n, en⟩ : ∃ n, xs.length = n := ⟨_, rfl⟩
  obtain ⟨m, em⟩ : ∃ m, ys.length = m := ⟨_, rfl⟩
  by_cases hnm : n = m
  · subst hnm
    rw [en] at o1 hmany hmax1 ⊢
    rw [em] at o2 hmany2 hmax2 ⊢
    replace o1 := Lib.hid o1
    replace o2 := Lib.hid o2
    replace en := Lib.hid en
    replace em := Lib.hid em
    obtain ⟨res, hres⟩ : ∃ r, sameL xs ys = r := ⟨_, rfl⟩
    rw [hres]
    go_enter Try.func12, Try.ntmps12
    go_wp2
    go_loopw [5] (fun i wr => ∃ k : Nat, k ≤ n ∧ i = .int .i64 k ∧ sameL (xs.drop k) (ys.drop k) = res ∧ Below w.heap.size w wr) (fun i _ => n - (intOf i).toNat)
    case atStart => exact ⟨0, Nat.zero_le _, rfl, by simpa using hres, (by repeat (first | exact Below.refl _ _ | assumption | refine Below.drew ?_ | refine Below.alloc ?_ (by (try simp) <;> omega) _ | refine Below.setCell ?_ (by (try simp) <;> omega) _))⟩
    case round =>
      obtain ⟨k, hk, rfl, hgo, hbr⟩ := hrel
      clear hres
      have zr := hbr.size
      obtain ⟨hcr, hfr⟩ := bcell hbr
      by_cases hkn : k < n
      · obtain ⟨b, p, cap', e, hb, _, _, hel⟩ := o1.out (by omega)
        simp at e
        obtain ⟨rfl, rfl⟩ := e
        obtain ⟨b', p', cap', e, hb', _, _, hex⟩ := o2.out (by omega)
        simp at e
        obtain ⟨rfl, rfl⟩ := e
        obtain ⟨s, hs⟩ : ∃ s, xs[k]? = some s := ⟨xs[k]'(by have := en.out; omega), List.getElem?_eq_getElem _⟩
        obtain ⟨t, ht⟩ : ∃ s, ys[k]? = some s := ⟨ys[k]'(by have := em.out; omega), List.getElem?_eq_getElem _⟩
        obtain ⟨g0, g1, g2, g3, g4, g5, g6, g7, g8, g9, g10, g11, g12, g13, g14⟩ := hel k s hs
        obtain ⟨j0, j1, j2, j3, j4, j5, j6, j7, j8, j9, j10, j11, j12, j13, j14⟩ := hex k t ht
        rw [same_step hs ht] at hgo
        have hkk : (k : Int) < n := by omega
        have yb : b < wr.heap.size := by omega
        have yb' : b' < wr.heap.size := by omega
        clear hel hex hs ht
        obtain ⟨kd, ⟨x, y, wd, ht⟩, ⟨q0, q1, q2, q3⟩, ⟨r0, r1, r2, r3⟩, tx, nd⟩ := s
        obtain ⟨kd', ⟨x', y', wd', ht'⟩, ⟨q0', q1', q2', q3'⟩, ⟨r0', r1', r2', r3'⟩, tx', nd'⟩ := t
        simp only at g0 g1 g2 g3 g4 g5 g6 g7 g8 g9 g10 g11 g12 g13 g14 j0 j1 j2 j3 j4 j5 j6 j7 j8 j9 j10 j11 j12 j13 j14
        obtain ⟨bb, hc⟩ : ∃ bb, St.eqb ⟨kd, ⟨x, y, wd, ht⟩, ⟨q0, q1, q2, q3⟩, ⟨r0, r1, r2, r3⟩, tx, nd⟩ ⟨kd', ⟨x', y', wd', ht'⟩, ⟨q0', q1', q2', q3'⟩, ⟨r0', r1', r2', r3'⟩, tx', nd'⟩ = bb := ⟨_, rfl⟩
        rw [hc] at hgo
        cases bb
        · rw [Bool.false_and] at hgo
          subst hgo
          go_wp2
          refine wp_region_steady (Held wr 0 []) (by kernel_rfl) (by kernel_rfl) ⟨(by repeat (first | exact Below.refl _ _ | assumption | refine Below.drew ?_ | refine Below.alloc ?_ (by (try simp) <;> omega) _ | refine Below.setCell ?_ (by (try simp) <;> omega) _ | (refine Below.trans ?_ (Below.mono (by assumption) (by (try simp) <;> omega))))), (by (try simp) <;> omega), (by first | exact trivial | (simp only [Cells]; go_simp))⟩ ?_
          repeat (first | (refine' wpSteady_do _ _ _; rotate_left; (focus rfl); (focus (intro w1 hS R hR; have hc := hS.cells; simp only [Cells] at hc; obtain ⟨hco, hfo⟩ := bcell hS.old; go_simp; (try go_bits); first | exact hR _ hS | fail)); simp only [Act.put, List.setIfInBounds_toArray, List.set_cons_zero, List.set_cons_succ]) | (refine wpSteady_pass ?_ ?_; (focus rfl); simp only [Act.put, List.setIfInBounds_toArray, List.set_cons_zero, List.set_cons_succ]))
          refine wpSteady_nil (fun uA hSA => ?_)
          have hcA := hSA.cells; have hbA := hSA.old; have hzA := hSA.size; clear hSA; simp only [Cells] at hcA; obtain ⟨hcoA, hfoA⟩ := bcell hbA
          go_wp2
          go_ret
          exact ⟨rfl, hbr.trans (hbA.mono zr)⟩
        · rw [Bool.true_and] at hgo
          replace hgo := Lib.hid hgo
          go_wp2
          refine wp_region_steady (Held wr 0 []) (by kernel_rfl) (by kernel_rfl) ⟨(by repeat (first | exact Below.refl _ _ | assumption | refine Below.drew ?_ | refine Below.alloc ?_ (by (try simp) <;> omega) _ | refine Below.setCell ?_ (by (try simp) <;> omega) _ | (refine Below.trans ?_ (Below.mono (by assumption) (by (try simp) <;> omega))))), (by (try simp) <;> omega), (by first | exact trivial | (simp only [Cells]; go_simp))⟩ ?_
          repeat (first | (refine' wpSteady_do _ _ _; rotate_left; (focus rfl); (focus (intro w1 hS R hR; have hc := hS.cells; simp only [Cells] at hc; obtain ⟨hco, hfo⟩ := bcell hS.old; go_simp; (try go_bits); first | exact hR _ hS | fail)); simp only [Act.put, List.setIfInBounds_toArray, List.set_cons_zero, List.set_cons_succ]) | (refine wpSteady_pass ?_ ?_; (focus rfl); simp only [Act.put, List.setIfInBounds_toArray, List.set_cons_zero, List.set_cons_succ]))
          refine wpSteady_nil (fun uA hSA => ?_)
          have hcA := hSA.cells; have hbA := hSA.old; have hzA := hSA.size; clear hSA; simp only [Cells] at hcA; obtain ⟨hcoA, hfoA⟩ := bcell hbA
          go_wp2
          go_roundw
          case rel => exact ⟨k + 1, by omega, by go_num, hgo.out, hbr.trans (hbA.mono zr)⟩
          case measure => simp [intOf]; omega
      · obtain rfl : k = n := by omega
        have e1 : xs.drop k = [] := List.drop_eq_nil_of_le (by have := en.out; omega)
        have e2 : ys.drop k = [] := List.drop_eq_nil_of_le (by have := em.out; omega)
        rw [e1, e2] at hgo
        clear e1 e2
        have hgo : true = res := hgo
        subst hgo
        go_wp2
        go_ret
        exact ⟨rfl, hbr⟩
  · rw [sameL_len (by rw [en, em]; exact hnm)]
    rw [en] at hmax1 ⊢
    rw [em] at hmax2 ⊢
    have hni : ¬ (n : Int) = m := by omega
    clear o1 o2
    go_enter Try.func12, Try.ntmps12
    go_wp2
    go_ret
    exact ⟨rfl, (by repeat (first | exact Below.refl _ _ | assumption | refine Below.drew ?_ | refine Below.alloc ?_ (by (try simp) <;> omega) _ | refine Below.setCell ?_ (by (try simp) <;> omega) _))⟩
set_option maxHeartbeats 2000000 in
set_option maxRecDepth 100000 in
theorem equal_any (xs ys : List St) (v1 v2 : Value) (w : World) (h1 : Row w.heap.size 15 St.enc w v1 xs) (h2 : Row w.heap.size 15 St.enc w v2 ys) (hmany : xs.length ≤ 40000) (hmany2 : ys.length ≤ 40000) : Calls Try.prog 40 #[v1, v2] w fun e w' => e = .returned (.bool (sameL xs ys)) ∧ Below w.heap.size w w' := by
  obtain ⟨s1, c1, rfl, hmax1⟩ := h1.shape
  obtain ⟨s2, c2, rfl, hmax2⟩ := h2.shape
  have o1 := fun h0 => row_st h1 h0
  have o2 := fun h0 => row_st h2 h0
  clear h1 h2
  obtain ⟨n, en⟩ : ∃ n, xs.length = n := ⟨_, rfl⟩
  obtain ⟨m, em⟩ : ∃ m, ys.length = m := ⟨_, rfl⟩
  by_cases hnm : n = m
  · subst hnm
    rw [en] at o1 hmany hmax1 ⊢
    rw [em] at o2 hmany2 hmax2 ⊢
    replace o1 := Lib.hid o1
    replace o2 := Lib.hid o2
    replace en := Lib.hid en
    replace em := Lib.hid em
    obtain ⟨res, hres⟩ : ∃ r, sameL xs ys = r := ⟨_, rfl⟩
    rw [hres]
    go_enter Try.func40, Try.ntmps40
    go_wp2
    go_loopw [13] (fun i wr => ∃ k : Nat, k ≤ n ∧ i = .int .i64 k ∧ sameL (xs.drop k) (ys.drop k) = res ∧ Below w.heap.size w wr) (fun i _ => n - (intOf i).toNat)
    case atStart => exact ⟨0, Nat.zero_le _, rfl, by simpa using hres, (by repeat (first | exact Below.refl _ _ | assumption | refine Below.drew ?_ | refine Below.alloc ?_ (by (try simp) <;> omega) _ | refine Below.setCell ?_ (by (try simp) <;> omega) _))⟩
    case round =>
      obtain ⟨k, hk, rfl, hgo, hbr⟩ := hrel
      clear hres
      have zr := hbr.size
      obtain ⟨hcr, hfr⟩ := bcell hbr
      by_cases hkn : k < n
      · obtain ⟨b, p, cap', e, hb, _, _, hel⟩ := o1.out (by omega)
        simp at e
        obtain ⟨rfl, rfl⟩ := e
        obtain ⟨b', p', cap', e, hb', _, _, hex⟩ := o2.out (by omega)
        simp at e
        obtain ⟨rfl, rfl⟩ := e
        obtain ⟨s, hs⟩ : ∃ s, xs[k]? = some s := ⟨xs[k]'(by have := en.out; omega), List.getElem?_eq_getElem _⟩
        obtain ⟨t, ht⟩ : ∃ s, ys[k]? = some s := ⟨ys[k]'(by have := em.out; omega), List.getElem?_eq_getElem _⟩
        obtain ⟨g0, g1, g2, g3, g4, g5, g6, g7, g8, g9, g10, g11, g12, g13, g14⟩ := hel k s hs
        obtain ⟨j0, j1, j2, j3, j4, j5, j6, j7, j8, j9, j10, j11, j12, j13, j14⟩ := hex k t ht
        rw [same_step hs ht] at hgo
        have hkk : (k : Int) < n := by omega
        have yb : b < wr.heap.size := by omega
        have yb' : b' < wr.heap.size := by omega
        clear hel hex hs ht
        obtain ⟨kd, ⟨x, y, wd, ht⟩, ⟨q0, q1, q2, q3⟩, ⟨r0, r1, r2, r3⟩, tx, nd⟩ := s
        obtain ⟨kd', ⟨x', y', wd', ht'⟩, ⟨q0', q1', q2', q3'⟩, ⟨r0', r1', r2', r3'⟩, tx', nd'⟩ := t
        simp only at g0 g1 g2 g3 g4 g5 g6 g7 g8 g9 g10 g11 g12 g13 g14 j0 j1 j2 j3 j4 j5 j6 j7 j8 j9 j10 j11 j12 j13 j14
        obtain ⟨bb, hc⟩ : ∃ bb, St.eqb ⟨kd, ⟨x, y, wd, ht⟩, ⟨q0, q1, q2, q3⟩, ⟨r0, r1, r2, r3⟩, tx, nd⟩ ⟨kd', ⟨x', y', wd', ht'⟩, ⟨q0', q1', q2', q3'⟩, ⟨r0', r1', r2', r3'⟩, tx', nd'⟩ = bb := ⟨_, rfl⟩
        rw [hc] at hgo
        cases bb
        · rw [Bool.false_and] at hgo
          subst hgo
          go_wp2
          refine wp_region_steady (Held wr 0 []) (by kernel_rfl) (by kernel_rfl) ⟨(by repeat (first | exact Below.refl _ _ | assumption | refine Below.drew ?_ | refine Below.alloc ?_ (by (try simp) <;> omega) _ | refine Below.setCell ?_ (by (try simp) <;> omega) _ | (refine Below.trans ?_ (Below.mono (by assumption) (by (try simp) <;> omega))))), (by (try simp) <;> omega), (by first | exact trivial | (simp only [Cells]; go_simp))⟩ ?_
          repeat (first | (refine' wpSteady_do _ _ _; rotate_left; (focus rfl); (focus (intro w1 hS R hR; have hc := hS.cells; simp only [Cells] at hc; obtain ⟨hco, hfo⟩ := bcell hS.old; go_simp; (try go_bits); first | exact hR _ hS | fail)); simp only [Act.put, List.setIfInBounds_toArray, List.set_cons_zero, List.set_cons_succ]) | (refine wpSteady_pass ?_ ?_; (focus rfl); simp only [Act.put, List.setIfInBounds_toArray, List.set_cons_zero, List.set_cons_succ]))
          refine wpSteady_nil (fun uA hSA => ?_)
          have hcA := hSA.cells; have hbA := hSA.old; have hzA := hSA.size; clear hSA; simp only [Cells] at hcA; obtain ⟨hcoA, hfoA⟩ := bcell hbA
          go_wp2
          go_ret
          exact ⟨rfl, hbr.trans (hbA.mono zr)⟩
        · rw [Bool.true_and] at hgo
          replace hgo := Lib.hid hgo
          go_wp2
          refine wp_region_steady (Held wr 0 []) (by kernel_rfl) (by kernel_rfl) ⟨(by repeat (first | exact Below.refl _ _ | assumption | refine Below.drew ?_ | refine Below.alloc ?_ (by (try simp) <;> omega) _ | refine Below.setCell ?_ (by (try simp) <;> omega) _ | (refine Below.trans ?_ (Below.mono (by assumption) (by (try simp) <;> omega))))), (by (try simp) <;> omega), (by first | exact trivial | (simp only [Cells]; go_simp))⟩ ?_
          repeat (first | (refine' wpSteady_do _ _ _; rotate_left; (focus rfl); (focus (intro w1 hS R hR; have hc := hS.cells; simp only [Cells] at hc; obtain ⟨hco, hfo⟩ := bcell hS.old; go_simp; (try go_bits); first | exact hR _ hS | fail)); simp only [Act.put, List.setIfInBounds_toArray, List.set_cons_zero, List.set_cons_succ]) | (refine wpSteady_pass ?_ ?_; (focus rfl); simp only [Act.put, List.setIfInBounds_toArray, List.set_cons_zero, List.set_cons_succ]))
          refine wpSteady_nil (fun uA hSA => ?_)
          have hcA := hSA.cells; have hbA := hSA.old; have hzA := hSA.size; clear hSA; simp only [Cells] at hcA; obtain ⟨hcoA, hfoA⟩ := bcell hbA
          go_wp2
          go_roundw
          case rel => exact ⟨k + 1, by omega, by go_num, hgo.out, hbr.trans (hbA.mono zr)⟩
          case measure => simp [intOf]; omega
      · obtain rfl : k = n := by omega
        have e1 : xs.drop k = [] := List.drop_eq_nil_of_le (by have := en.out; omega)
        have e2 : ys.drop k = [] := List.drop_eq_nil_of_le (by have := em.out; omega)
        rw [e1, e2] at hgo
        clear e1 e2
        have hgo : true = res := hgo
        subst hgo
        go_wp2
        go_ret
        exact ⟨rfl, hbr⟩
  · rw [sameL_len (by rw [en, em]; exact hnm)]
    rw [en] at hmax1 ⊢
    rw [em] at hmax2 ⊢
    have hni : ¬ (n : Int) = m := by omega
    clear o1 o2
    go_enter Try.func40, Try.ntmps40
    go_wp2
    go_ret
    exact ⟨rfl, (by repeat (first | exact Below.refl _ _ | assumption | refine Below.drew ?_ | refine Below.alloc ?_ (by (try simp) <;> omega) _ | refine Below.setCell ?_ (by (try simp) <;> omega) _))⟩
theorem lsame_any (xs ys : List St) (v1 v2 : Value) (w : World) (h1 : Row w.heap.size 15 St.enc w v1 xs) (h2 : Row w.heap.size 15 St.enc w v2 ys) (hmany : xs.length ≤ 40000) (hmany2 : ys.length ≤ 40000) : Calls Try.prog 13 #[v1, v2] w fun e w' => e = .returned (.bool (sameL xs ys)) ∧ Below w.heap.size w w' := by
  have A := equal_any xs ys v1 v2 w h1 h2 hmany hmany2
  replace A := Lib.hid A
  clear h1 h2
  go_enter Try.func13, Try.ntmps13
  go_wp2_with (first
    | (go_at_call 40; (with_reducible refine (A.out).mono ?_); rintro e w3 ⟨rfl, hb3⟩)
    | go_in)
  go_ret
  exact ⟨rfl, hb3⟩
end Go.Proofs.Ytkmofpnefjgnkaa
