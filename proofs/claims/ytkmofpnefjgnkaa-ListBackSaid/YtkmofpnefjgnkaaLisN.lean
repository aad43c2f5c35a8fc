/-
  list.Join.
-/
import Derived.Test.YtkmofpnefjgnkaaLisM
namespace Go.Proofs.Ytkmofpnefjgnkaa
open Go.RowKit
set_option linter.unusedVariables false
attribute [local go_sem] vwp vUpon_value vUpon_skip vUpon_enter vUpon_row
set_option linter.unusedSimpArgs false
set_option linter.unusedVariables false
theorem Owns.less {B base : Nat} {w : World} {v : Value} {xs : List St} (h : Owns base w v xs) (hB : B ≤ base) : Owns B w v xs := by
  obtain ⟨h1, h2⟩ := h
  refine ⟨h1, ?_⟩
  rcases h2 with h2 | ⟨g, cap, cur, hv, hg, r⟩
  · exact .inl h2
  · exact .inr ⟨g, cap, cur, hv, by omega, r⟩
theorem idx_zero (a b : Value) (w : World) : (Instr.index 62 (.agg #[a, b]) (.int .i64 0)).run Try.prog w = .ok a w := by
  have A := Try.underlying62
  have B := Try.underlying22
  have C := Try.sizeOf22 w
  simp [Instr.index, asIntOf, run_underlying A, part, isAgg, run_underlying B, C]
theorem idx_one (a b : Value) (w : World) : (Instr.index 62 (.agg #[a, b]) (.int .i64 1)).run Try.prog w = .ok b w := by
  have A := Try.underlying62
  have B := Try.underlying22
  have C := Try.sizeOf22 w
  simp [Instr.index, asIntOf, run_underlying A, part, isAgg, run_underlying B, C]
set_option maxHeartbeats 1000000 in
set_option maxRecDepth 100000 in
theorem ljoin_any (xs ys : List St) (v1 v2 : Value) (w : World) (h1 : Row w.heap.size 15 St.enc w v1 xs) (h2 : Row w.heap.size 15 St.enc w v2 ys) (k1 : ∀ s ∈ xs, s.Wf) (k2 : ∀ s ∈ ys, s.Wf) : Calls Try.prog 8 #[v1, v2] w (OutU w.heap.size (joinL xs ys) (joinE xs ys) w) := by
  obtain ⟨iM, hi0, hm0, hm1, hm2⟩ := info_parts infoSt
  have C1 := fun w' (hb : Below w.heap.size w w') => lcheck_any xs v1 w' ((h1.below hb).mono hb.size) k1
  have C2 := fun w' (hb : Below w.heap.size w w') => lcheck_any ys v2 w' ((h2.below hb).mono hb.size) k2
  obtain ⟨s1, cc1, rfl, hmax1⟩ := h1.shape
  obtain ⟨s2, cc2, rfl, hmax2⟩ := h2.shape
  replace h1 := Lib.hid h1
  replace h2 := Lib.hid h2
  clear k1 k2
  obtain ⟨n, en⟩ : ∃ n, xs.length = n := ⟨_, rfl⟩
  obtain ⟨m, em⟩ : ∃ n, ys.length = n := ⟨_, rfl⟩
  obtain ⟨eR, hR1⟩ : ∃ e, joinE xs ys = e := ⟨_, rfl⟩
  obtain ⟨lR, hR2⟩ : ∃ l, joinL xs ys = l := ⟨_, rfl⟩
  rw [hR1, hR2]
  rw [en] at C1 hmax1 ⊢
  rw [em] at C2 hmax2 ⊢
  replace C1 := Lib.hid C1
  replace C2 := Lib.hid C2
  replace en := Lib.hid en
  replace em := Lib.hid em
  have I0 := idx_zero (.slice s1 n cc1) (.slice s2 m cc2)
  have I1 := idx_one (.slice s1 n cc1) (.slice s2 m cc2)
  go_enter Try.func8, Try.ntmps8
  go_wp2
  go_loopw [12] (fun i wr => (i = .int .i64 0 ∨ (i = .int .i64 1 ∧ chkL xs = 0) ∨ (i = .int .i64 2 ∧ chkL xs = 0 ∧ chkL ys = 0)) ∧ Below w.heap.size w wr) (fun i _ => 2 - (intOf i).toNat)
  case atStart => exact ⟨.inl rfl, (by repeat (first | exact Below.refl _ _ | assumption | refine Below.drew ?_ | refine Below.alloc ?_ (by (try simp) <;> omega) _ | refine Below.setCell ?_ (by (try simp) <;> omega) _))⟩
  case round =>
    obtain ⟨hk, hbr⟩ := hrel
    have zr := hbr.size
    rcases hk with rfl | ⟨rfl, c1⟩ | ⟨rfl, c1, c2⟩
    · by_cases c1 : chkL xs = 0
      · have c1' := Lib.hid c1
        replace C1 := C1.out
        rw [c1] at C1
        replace C1 := Lib.hid C1
        clear c1
        go_wp2_with (first
          | (go_at_call 17; (with_reducible refine (C1.out _ (by repeat (first | exact Below.refl _ _ | assumption | refine Below.drew ?_ | refine Below.alloc ?_ (by (try simp) <;> omega) _ | refine Below.setCell ?_ (by (try simp) <;> omega) _ | (refine Below.trans ?_ (Below.mono (by assumption) (by (try simp) <;> omega)))))).mono ?_); rintro e w3 ⟨rfl, hb3⟩; have z3 := hb3.size)
          | (go_at_call 17; (with_reducible refine (C2.out _ (by repeat (first | exact Below.refl _ _ | assumption | refine Below.drew ?_ | refine Below.alloc ?_ (by (try simp) <;> omega) _ | refine Below.setCell ?_ (by (try simp) <;> omega) _ | (refine Below.trans ?_ (Below.mono (by assumption) (by (try simp) <;> omega)))))).mono ?_); rintro e w3 ⟨rfl, hb3⟩; have z3 := hb3.size)
          | go_in)
        go_roundw
        case rel => exact ⟨.inr (.inl ⟨rfl, c1'.out⟩), hbr.trans (hb3.mono zr)⟩
        case measure => simp [intOf]
      · have hcb : (chkL xs == 0) = false := by simp [c1]
        obtain ⟨e1, e2⟩ := join_a (ys := ys) c1
        rw [hR1] at e1
        rw [hR2] at e2
        subst e1
        subst e2
        clear c1 hR1 hR2
        go_wp2_with (first
          | (go_at_call 17; (with_reducible refine (C1.out _ (by repeat (first | exact Below.refl _ _ | assumption | refine Below.drew ?_ | refine Below.alloc ?_ (by (try simp) <;> omega) _ | refine Below.setCell ?_ (by (try simp) <;> omega) _ | (refine Below.trans ?_ (Below.mono (by assumption) (by (try simp) <;> omega)))))).mono ?_); rintro e w3 ⟨rfl, hb3⟩; have z3 := hb3.size)
          | (go_at_call 17; (with_reducible refine (C2.out _ (by repeat (first | exact Below.refl _ _ | assumption | refine Below.drew ?_ | refine Below.alloc ?_ (by (try simp) <;> omega) _ | refine Below.setCell ?_ (by (try simp) <;> omega) _ | (refine Below.trans ?_ (Below.mono (by assumption) (by (try simp) <;> omega)))))).mono ?_); rintro e w3 ⟨rfl, hb3⟩; have z3 := hb3.size)
          | go_in)
        go_ret2
        exact ⟨hbr.trans (hb3.mono zr), _, rfl, Owns.nil _ _⟩
    · by_cases c2 : chkL ys = 0
      · have c1' := Lib.hid c1
        have c2' := Lib.hid c2
        replace C2 := C2.out
        rw [c2] at C2
        replace C2 := Lib.hid C2
        clear c1 c2
        go_wp2_with (first
          | (go_at_call 17; (with_reducible refine (C1.out _ (by repeat (first | exact Below.refl _ _ | assumption | refine Below.drew ?_ | refine Below.alloc ?_ (by (try simp) <;> omega) _ | refine Below.setCell ?_ (by (try simp) <;> omega) _ | (refine Below.trans ?_ (Below.mono (by assumption) (by (try simp) <;> omega)))))).mono ?_); rintro e w3 ⟨rfl, hb3⟩; have z3 := hb3.size)
          | (go_at_call 17; (with_reducible refine (C2.out _ (by repeat (first | exact Below.refl _ _ | assumption | refine Below.drew ?_ | refine Below.alloc ?_ (by (try simp) <;> omega) _ | refine Below.setCell ?_ (by (try simp) <;> omega) _ | (refine Below.trans ?_ (Below.mono (by assumption) (by (try simp) <;> omega)))))).mono ?_); rintro e w3 ⟨rfl, hb3⟩; have z3 := hb3.size)
          | go_in)
        go_roundw
        case rel => exact ⟨.inr (.inr ⟨rfl, c1'.out, c2'.out⟩), hbr.trans (hb3.mono zr)⟩
        case measure => simp [intOf]
      · have hcb : (chkL ys == 0) = false := by simp [c2]
        obtain ⟨e1, e2⟩ := join_b c1 c2
        rw [hR1] at e1
        rw [hR2] at e2
        subst e1
        subst e2
        clear c1 c2 hR1 hR2
        go_wp2_with (first
          | (go_at_call 17; (with_reducible refine (C1.out _ (by repeat (first | exact Below.refl _ _ | assumption | refine Below.drew ?_ | refine Below.alloc ?_ (by (try simp) <;> omega) _ | refine Below.setCell ?_ (by (try simp) <;> omega) _ | (refine Below.trans ?_ (Below.mono (by assumption) (by (try simp) <;> omega)))))).mono ?_); rintro e w3 ⟨rfl, hb3⟩; have z3 := hb3.size)
          | (go_at_call 17; (with_reducible refine (C2.out _ (by repeat (first | exact Below.refl _ _ | assumption | refine Below.drew ?_ | refine Below.alloc ?_ (by (try simp) <;> omega) _ | refine Below.setCell ?_ (by (try simp) <;> omega) _ | (refine Below.trans ?_ (Below.mono (by assumption) (by (try simp) <;> omega)))))).mono ?_); rintro e w3 ⟨rfl, hb3⟩; have z3 := hb3.size)
          | go_in)
        go_ret2
        exact ⟨hbr.trans (hb3.mono zr), _, rfl, Owns.nil _ _⟩
    · have l1 := chk_len c1
      have l2 := chk_len c2
      rw [en.out] at l1
      rw [em.out] at l2
      by_cases c3 : n + m > 16384
      · obtain ⟨e1, e2⟩ := join_c c1 c2 (by rw [en.out, em.out]; exact c3)
        rw [hR1] at e1
        rw [hR2] at e2
        subst e1
        subst e2
        clear c1 c2 hR1 hR2
        go_wp2
        go_ret2
        exact ⟨hbr, _, rfl, Owns.nil _ _⟩
      · obtain ⟨e1, e2⟩ := join_d c1 c2 (by rw [en.out, em.out]; exact c3)
        rw [hR1] at e1
        rw [hR2] at e2
        subst e1
        subst e2
        clear c1 c2 hR1 hR2
        have CAT : ∀ (w1 : World), w1 = wr.alloc (.cells #[.slice s1 n cc1, .slice s2 m cc2] 22) → Calls Try.prog 35 #[.slice (some ⟨wr.heap.size, 0, none⟩) 2 2] w1 fun e w' => ∃ v', e = .returned v' ∧ Owns w1.heap.size w' v' (xs ++ ys) ∧ Below w1.heap.size w1 w' := by
          rintro w1 rfl
          have hbw : Below w.heap.size w (wr.alloc (.cells #[.slice s1 n cc1, .slice s2 m cc2] 22)) := hbr.alloc zr _
          refine concat_any xs ys (.slice s1 n cc1) (.slice s2 m cc2) _ _ ?_ ?_ (by rw [en.out]; omega) (by rw [em.out]; omega) (by simp) ?_ ?_
          · have := (h1.out.below hbw).mono hbw.size
            rw [en.out] at this
            exact this
          · have := (h2.out.below hbw).mono hbw.size
            rw [em.out] at this
            exact this
          · rw [World.cell?_alloc_at _ _ _ _ rfl]; rfl
          · rw [World.cell?_alloc_at _ _ _ _ rfl]; rfl
        replace CAT := Lib.hid CAT
        go_wp2_with (first
          | (go_at_call 35; (with_reducible refine (CAT.out _ ?_).mono ?_); (first | rfl | exact rfl); rintro e w4 ⟨v4, rfl, hown4, hb4⟩)
          | go_in)
        have hb04 : Below w.heap.size w w4 := hbr.trans ((Below.alloc (Below.refl _ _) (Nat.le_refl _) _).trans (hb4.mono (by simp)) |>.mono zr)
        replace hown4 := Lib.hid hown4
        go_wp2
        go_ret2
        exact ⟨hb04, _, rfl, hown4.out.less (by simp; omega)⟩
end Go.Proofs.Ytkmofpnefjgnkaa
