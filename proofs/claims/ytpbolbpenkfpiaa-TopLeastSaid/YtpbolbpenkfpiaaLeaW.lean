/-
  Do numbers keep all bounds; are bounds a way round.
-/
import Derived.Test.YtpbolbpenkfpiaaLeaV
namespace Go.Proofs.Ytpbolbpenkfpiaa
open Go.RowKit
set_option linter.unusedVariables false
attribute [local go_sem] vwp vUpon_value vUpon_skip vUpon_enter vUpon_row
set_option linter.unusedSimpArgs false
def GoodX (N : Nat) (bs : List Bd) (x : List Int) : Prop := (∀ v, v < N → 0 ≤ X x v ∧ X x v ≤ 1125899906842624) ∧ ∀ (j : Nat) (b : Bd), bs[j]? = some b → X x b.a.toNat + b.f ≤ X x b.b.toNat
def KeepsPost (N : Nat) (bs : List Bd) (x : List Int) (w : World) (e : Ending) (w' : World) : Prop := Below w.heap.size w w' ∧ ∃ r, e = .returned (.bool r) ∧ (r = true → GoodX N bs x) ∧ (GoodX N bs x → r = true)
theorem encI_at {b o : Nat} {w : World} {x : List Int} (h : ∀ (j : Nat) (n : Int), x[j]? = some n → ∀ i u, (encI n)[i]? = some u → w.cell? ⟨b, o + j * 1 + i, none⟩ = some u) (k : Nat) (hk : k < x.length) : w.cell? ⟨b, o + k, none⟩ = some (.int .i64 (X x k)) := by
  have := h k (x[k]) (List.getElem?_eq_getElem hk) 0 _ rfl
  rw [Nat.mul_one, Nat.add_zero] at this
  rw [this]
  unfold X
  rw [List.getD_eq_getElem?_getD, List.getElem?_eq_getElem hk]; rfl
set_option maxHeartbeats 2000000 in
theorem keeps_any (N : Nat) (bs : List Bd) (x : List Int) (v u : Value) (w : World) (hx : Row w.heap.size 1 encI w u x) (hw : ∀ n ∈ x, I64 n) (hr : Row w.heap.size 3 encB w v bs) (hv : Valid N bs) (hN : x.length = N) :
    Calls Try.prog 7 #[u, v] w (KeepsPost N bs x w) := by
  obtain ⟨L, hL⟩ : ∃ L, bs.length = L := ⟨_, rfl⟩
  obtain ⟨s, cap, hv', hmax⟩ := hr.shape
  obtain ⟨s2, cap2, hu', hmax2⟩ := hx.shape
  have n1 := hv.n1
  have n2 := hv.l1
  rw [hL] at hv' hmax n2
  rw [hN] at hu' hmax2
  have hopen := fun h0 => hr.open_ h0
  have hopen2 := fun h0 => hx.open_ h0
  rw [hL] at hopen
  rw [hN] at hopen2
  replace hopen := Lib.hid hopen
  replace hopen2 := Lib.hid hopen2
  subst hv' hu'
  clear hr hx
  replace hN := Lib.hid hN
  replace hL := Lib.hid hL
  replace hw := Lib.hid hw
  go_enter Try.func7, Try.ntmps7
  go_wp2
  go_loopw [5] (fun i wr => ∃ k : Nat, k ≤ N ∧ i = .int .i64 k ∧ (∀ v, v < k → 0 ≤ X x v ∧ X x v ≤ 1125899906842624) ∧ Below w.heap.size w wr) (fun i _ => N - (intOf i).toNat)
  case atStart => exact ⟨0, Nat.zero_le _, rfl, fun _ h => absurd h (Nat.not_lt_zero _), (by repeat (first | exact Below.refl _ _ | assumption | refine Below.drew ?_ | refine Below.alloc ?_ (by (try simp) <;> omega) _ | refine Below.setCell ?_ (by (try simp) <;> omega) _))⟩
  case round =>
    obtain ⟨k, hk, rfl, hpre, hbr⟩ := hrel
    obtain ⟨hcr, hfr⟩ := bcell hbr
    have zr := hbr.size
    by_cases hkN : k < N
    · obtain ⟨b2, o2, cap2', e, hbl, _, hcm, hcell⟩ := hopen2.out (by omega)
      simp at e
      obtain ⟨rfl, rfl⟩ := e
      have c1 := encI_at hcell k (by have := hN.out; omega)
      have hkk : (k : Int) < N := by omega
      have hi : I64 (X x k) := hw.out _ (by unfold X; rw [List.getD_eq_getElem?_getD, List.getElem?_eq_getElem (by have := hN.out; omega)]; exact List.getElem_mem _)
      obtain ⟨i0, i1⟩ := hi
      replace hpre := Lib.hid hpre
      clear hcell
      by_cases h0 : X x k < 0
      · go_wp2
        go_ret
        unfold KeepsPost
        exact ⟨(by repeat (first | exact Below.refl _ _ | assumption | refine Below.drew ?_ | refine Below.alloc ?_ (by (try simp) <;> omega) _ | refine Below.setCell ?_ (by (try simp) <;> omega) _ | (refine Below.trans ?_ (Below.mono (by assumption) (by (try simp) <;> omega))))), false, rfl, fun h => by simp at h, fun h => by have := (h.1 k hkN).1; omega⟩
      · have h0' : 0 ≤ X x k := by omega
        by_cases h1 : 1125899906842624 < X x k
        · go_wp2
          go_ret
          unfold KeepsPost
          exact ⟨(by repeat (first | exact Below.refl _ _ | assumption | refine Below.drew ?_ | refine Below.alloc ?_ (by (try simp) <;> omega) _ | refine Below.setCell ?_ (by (try simp) <;> omega) _ | (refine Below.trans ?_ (Below.mono (by assumption) (by (try simp) <;> omega))))), false, rfl, fun h => by simp at h, fun h => by have := (h.1 k hkN).2; omega⟩
        · have h1' : X x k ≤ 1125899906842624 := by omega
          go_wp2
          go_roundw
          case rel =>
            refine ⟨k + 1, by omega, by go_num, fun v hv => ?_, (by repeat (first | exact Below.refl _ _ | assumption | refine Below.drew ?_ | refine Below.alloc ?_ (by (try simp) <;> omega) _ | refine Below.setCell ?_ (by (try simp) <;> omega) _ | (refine Below.trans ?_ (Below.mono (by assumption) (by (try simp) <;> omega)))))⟩
            rcases Nat.lt_succ_iff_lt_or_eq.1 hv with h | rfl
            · exact hpre.out v h
            · exact ⟨h0', h1'⟩
          case measure => simp [intOf]; omega
    · obtain rfl : k = N := by omega
      have hpre' := hpre
      replace hpre := Lib.hid hpre
      clear hpre'
      go_wp2
      go_loopw [6] (fun i wr => ∃ j : Nat, j ≤ L ∧ i = .int .i64 j ∧ (∀ (i : Nat) (b : Bd), i < j → bs[i]? = some b → X x b.a.toNat + b.f ≤ X x b.b.toNat) ∧ Below w.heap.size w wr) (fun i _ => L - (intOf i).toNat)
      case atStart => exact ⟨0, Nat.zero_le _, rfl, fun _ _ h => absurd h (Nat.not_lt_zero _), hbr⟩
      case round =>
        clear hcr hfr hbr zr
        obtain ⟨j, hj, rfl, hpr, hbr⟩ := hrel
        obtain ⟨hcr, hfr⟩ := bcell hbr
        have zr := hbr.size
        by_cases hjL : j < L
        · obtain ⟨b, o, cap', e, hbl, _, hcm, hcell⟩ := hopen.out (by omega)
          simp at e
          obtain ⟨rfl, rfl⟩ := e
          obtain ⟨y, hy⟩ : ∃ y, bs[j]? = some y := ⟨bs[j]'(by have := hL.out; omega), by have := hL.out; simp [hjL, this]⟩
          obtain ⟨c0, c1, c2⟩ := enc3 (hcell j y hy)
          obtain ⟨q1, q2, q3, q4, q5, q6⟩ := hv.each j y hy
          obtain ⟨b2, o2, cap2', e, hbl2, _, hcm2, hcell2⟩ := hopen2.out (by omega)
          simp at e
          obtain ⟨rfl, rfl⟩ := e
          have c3 := encI_at hcell2 y.a.toNat (by have := hN.out; omega)
          have c4 := encI_at hcell2 y.b.toNat (by have := hN.out; omega)
          obtain ⟨a0, a1⟩ := hpre.out y.a.toNat (by omega)
          obtain ⟨b0, b1⟩ := hpre.out y.b.toNat (by omega)
          have hjj : (j : Int) < L := by omega
          have y1 : b < wr.heap.size := by omega
          have y2 : b2 < wr.heap.size := by omega
          replace hpr := Lib.hid hpr
          replace hy := Lib.hid hy
          clear hcell hcell2
          obtain ⟨A, hA⟩ : ∃ A, X x y.a.toNat = A := ⟨_, rfl⟩
          obtain ⟨B, hB⟩ : ∃ B, X x y.b.toNat = B := ⟨_, rfl⟩
          rw [hA] at c3 a0 a1
          rw [hB] at c4 b0 b1
          replace hA := Lib.hid hA
          replace hB := Lib.hid hB
          by_cases hlt : B - A < y.f
          · go_wp2
            refine wp_region_steady (Held wr 0 []) (by kernel_rfl) (by kernel_rfl) ⟨(by repeat (first | exact Below.refl _ _ | assumption | refine Below.drew ?_ | refine Below.alloc ?_ (by (try simp) <;> omega) _ | refine Below.setCell ?_ (by (try simp) <;> omega) _ | (refine Below.trans ?_ (Below.mono (by assumption) (by (try simp) <;> omega))))), (by (try simp) <;> omega), (by first | exact trivial | (simp only [Cells]; go_simp))⟩ ?_
            repeat (first | (refine' wpSteady_do _ _ _; rotate_left; (focus rfl); (focus (intro w1 hS R hR; have hc := hS.cells; simp only [Cells] at hc; obtain ⟨hco, hfo⟩ := bcell hS.old; go_simp; (try go_bits); first | exact hR _ hS | fail)); simp only [Act.put, List.setIfInBounds_toArray, List.set_cons_zero, List.set_cons_succ]) | (refine wpSteady_pass ?_ ?_; (focus rfl); simp only [Act.put, List.setIfInBounds_toArray, List.set_cons_zero, List.set_cons_succ]))
            refine wpSteady_nil (fun uA hSA => ?_)
            have hcA := hSA.cells; have hbA := hSA.old; have hzA := hSA.size; clear hSA; simp only [Cells] at hcA; obtain ⟨hcoA, hfoA⟩ := bcell hbA
            go_wp2
            go_ret
            unfold KeepsPost
            exact ⟨(by repeat (first | exact Below.refl _ _ | assumption | refine Below.drew ?_ | refine Below.alloc ?_ (by (try simp) <;> omega) _ | refine Below.setCell ?_ (by (try simp) <;> omega) _ | (refine Below.trans ?_ (Below.mono (by assumption) (by (try simp) <;> omega))))), false, rfl, fun h => by simp at h, fun h => by have := h.2 j y hy.out; rw [hA.out, hB.out] at this; omega⟩
          · have hge : y.f ≤ B - A := by omega
            go_wp2
            refine wp_region_steady (Held wr 0 []) (by kernel_rfl) (by kernel_rfl) ⟨(by repeat (first | exact Below.refl _ _ | assumption | refine Below.drew ?_ | refine Below.alloc ?_ (by (try simp) <;> omega) _ | refine Below.setCell ?_ (by (try simp) <;> omega) _ | (refine Below.trans ?_ (Below.mono (by assumption) (by (try simp) <;> omega))))), (by (try simp) <;> omega), (by first | exact trivial | (simp only [Cells]; go_simp))⟩ ?_
            repeat (first | (refine' wpSteady_do _ _ _; rotate_left; (focus rfl); (focus (intro w1 hS R hR; have hc := hS.cells; simp only [Cells] at hc; obtain ⟨hco, hfo⟩ := bcell hS.old; go_simp; (try go_bits); first | exact hR _ hS | fail)); simp only [Act.put, List.setIfInBounds_toArray, List.set_cons_zero, List.set_cons_succ]) | (refine wpSteady_pass ?_ ?_; (focus rfl); simp only [Act.put, List.setIfInBounds_toArray, List.set_cons_zero, List.set_cons_succ]))
            refine wpSteady_nil (fun uA hSA => ?_)
            have hcA := hSA.cells; have hbA := hSA.old; have hzA := hSA.size; clear hSA; simp only [Cells] at hcA; obtain ⟨hcoA, hfoA⟩ := bcell hbA
            go_wp2
            go_roundw
            case rel =>
              refine ⟨j + 1, by omega, by go_num, fun i b hi hb => ?_, hbr.trans (hbA.mono zr)⟩
              rcases Nat.lt_succ_iff_lt_or_eq.1 hi with h | rfl
              · exact hpr.out i b h hb
              · rw [hy.out] at hb; obtain rfl := Option.some.inj hb
                rw [hA.out, hB.out]; omega
            case measure => simp [intOf]; omega
        · obtain rfl : j = L := by omega
          replace hpr := Lib.hid hpr
          go_wp2
          go_ret
          unfold KeepsPost
          exact ⟨hbr, true, rfl, fun _ => ⟨hpre.out, fun i b hb => hpr.out i b (by have := (List.getElem?_eq_some_iff.1 hb).1; have := hL.out; omega) hb⟩, fun _ => rfl⟩
end Go.Proofs.Ytpbolbpenkfpiaa
