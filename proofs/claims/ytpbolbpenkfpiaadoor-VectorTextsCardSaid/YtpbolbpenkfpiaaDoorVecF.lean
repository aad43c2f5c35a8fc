/-
  What an escape is, by both.
-/
import Derived.Test.YtpbolbpenkfpiaaDoorVecE
namespace Go.Proofs.YtpbolbpenkfpiaaDoor
open Go.RowKit
set_option linter.unusedVariables false
attribute [local go_sem] vwp vUpon_value vUpon_skip vUpon_enter vUpon_row
set_option linter.unusedSimpArgs false
set_option linter.unusedVariables false
def smlI (b : Int) : Int := if 48 ≤ b ∧ b ≤ 57 then b - 48 else if 97 ≤ b ∧ b ≤ 102 then b - 97 + 10 else -1
theorem sml_bd (b : Int) : -1 ≤ smlI b ∧ smlI b < 16 := by unfold smlI; split; omega; split <;> omega
/-- The byte that four bytes are; -1: none. -/
def escV (c a b d : Int) : Int := if c = 38 ∧ d = 59 ∧ 0 ≤ smlI a ∧ 0 ≤ smlI b ∧ stB (16 * smlI a + smlI b) = false then 16 * smlI a + smlI b else -1
theorem escV_bd (c a b d : Int) : -1 ≤ escV c a b d ∧ escV c a b d < 256 := by
  have := sml_bd a
  have := sml_bd b
  unfold escV
  split <;> omega
theorem ksml_any (b : Int) (w : World) (h : U8 b) : Calls Tryd.prog 38 #[.int .u8 b] w fun e w' => e = .returned (.int .i64 (smlI b)) ∧ w = w' := by
  obtain ⟨h0, h1⟩ := h
  by_cases c1 : 48 ≤ b
  · by_cases c2 : b ≤ 57
    · have e : smlI b = b - 48 := by unfold smlI; rw [if_pos ⟨c1, c2⟩]
      rw [e]
      clear e
      go_enter Tryd.func38, Tryd.ntmps38
      go_wp2
      go_ret
      exact ⟨rfl, rfl⟩
    · by_cases c3 : 97 ≤ b
      · by_cases c4 : b ≤ 102
        · have e : smlI b = b - 97 + 10 := by unfold smlI; rw [if_neg (by omega), if_pos ⟨c3, c4⟩]
          rw [e]
          clear e
          go_enter Tryd.func38, Tryd.ntmps38
          go_wp2
          go_ret
          exact ⟨rfl, rfl⟩
        · have e : smlI b = -1 := by unfold smlI; rw [if_neg (by omega), if_neg (by omega)]
          rw [e]
          clear e
          go_enter Tryd.func38, Tryd.ntmps38
          go_wp2
          go_ret
          exact ⟨rfl, rfl⟩
      · have e : smlI b = -1 := by unfold smlI; rw [if_neg (by omega), if_neg (by omega)]
        rw [e]
        clear e
        go_enter Tryd.func38, Tryd.ntmps38
        go_wp2
        go_ret
        exact ⟨rfl, rfl⟩
  · have e : smlI b = -1 := by unfold smlI; rw [if_neg (by omega), if_neg (by omega)]
    have c3 : ¬ 97 ≤ b := by omega
    rw [e]
    clear e
    go_enter Tryd.func38, Tryd.ntmps38
    go_wp2
    go_ret
    exact ⟨rfl, rfl⟩
theorem ix_at (s : ByteArray) (i : Int) (j : Nat) (hj : j < s.size) (hi : i = j) (D : Int) (hD : (s[j].toNat : Int) = D) (w : World) : (Instr.index 9 (.string s) (.int .i64 i)).run Tryd.prog w = .ok (.int .u8 D) w := by
  subst hi
  go_simp
theorem kesc_short (s : ByteArray) (k : Nat) (w : World) (hs : s.size ≤ 100000) (hk : k < s.size) (h4 : s.size < k + 4) : Calls Tryd.prog 26 #[.string s, .int .i64 k] w fun e w' => e = .returned (.int .i64 (-1)) ∧ Below w.heap.size w w' := by
  have f1 : decide ((s.size : Int) < (k : Int) + 4) = true := by simp; omega
  have f2 : (k : Int) + 4 ≤ 1000000 := by omega
  have f3 : (0 : Int) ≤ k := by omega
  go_enter Tryd.func26, Tryd.ntmps26
  go_wp2
  go_ret
  exact ⟨rfl, (by repeat (first | exact Below.refl _ _ | assumption | refine Below.drew ?_ | refine Below.alloc ?_ (by (try simp) <;> omega) _ | refine Below.setCell ?_ (by (try simp) <;> omega) _))⟩
set_option maxHeartbeats 1000000 in
set_option maxRecDepth 100000 in
theorem kesc_any (s : ByteArray) (k : Nat) (w : World) (hs : s.size ≤ 100000) (h4 : k + 4 ≤ s.size) : Calls Tryd.prog 26 #[.string s, .int .i64 k] w fun e w' => e = .returned (.int .i64 (escV (s[k]'(by omega)).toNat (s[k+1]'(by omega)).toNat (s[k+2]'(by omega)).toNat (s[k+3]'(by omega)).toNat)) ∧ Below w.heap.size w w' := by
  have hk : k < s.size := by omega
  have k1 : k + 1 < s.size := by omega
  have k2 : k + 2 < s.size := by omega
  have k3 : k + 3 < s.size := by omega
  obtain ⟨C, hC⟩ : ∃ C : Int, (s[k].toNat : Int) = C := ⟨_, rfl⟩
  obtain ⟨D, hD⟩ : ∃ C : Int, (s[k+3].toNat : Int) = C := ⟨_, rfl⟩
  obtain ⟨A, hA⟩ : ∃ C : Int, (s[k+1].toNat : Int) = C := ⟨_, rfl⟩
  obtain ⟨B, hB⟩ : ∃ C : Int, (s[k+2].toNat : Int) = C := ⟨_, rfl⟩
  have uA : U8 A := ⟨by omega, by have := s[k+1].toNat_lt; omega⟩
  have uB : U8 B := ⟨by omega, by have := s[k+2].toNat_lt; omega⟩
  have SA := fun w => ksml_any A w uA
  have SB := fun w => ksml_any B w uB
  have bA := sml_bd A
  have bB := sml_bd B
  obtain ⟨x, hx⟩ : ∃ x, smlI A = x := ⟨_, rfl⟩
  obtain ⟨y, hy⟩ : ∃ x, smlI B = x := ⟨_, rfl⟩
  have ev : escV C A B D = if C = 38 ∧ D = 59 ∧ 0 ≤ x ∧ 0 ≤ y ∧ stB (16 * x + y) = false then 16 * x + y else -1 := by unfold escV; rw [hx, hy]
  rw [hC, hD, hA, hB, ev]
  rw [hx] at SA bA
  rw [hy] at SB bB
  have f1 : decide ((s.size : Int) < (k : Int) + 4) = false := by simp; omega
  have f2 : (k : Int) + 4 ≤ 1000000 := by omega
  have f3 : (0 : Int) ≤ k := by omega
  have X0 := fun w => ix_at s k k hk rfl C hC w
  have X1 := fun w => ix_at s ((k : Int) + 1) (k + 1) k1 rfl A hA w
  have X2 := fun w => ix_at s ((k : Int) + 2) (k + 2) k2 rfl B hB w
  have X3 := fun w => ix_at s ((k : Int) + 3) (k + 3) k3 rfl D hD w
  clear ev hx hy uA uB hC hD hA hB
  replace SA := Lib.hid SA
  replace SB := Lib.hid SB
  by_cases c1 : C = 38
  · subst c1
    by_cases c2 : D = 59
    · subst c2
      by_cases c3 : 0 ≤ x
      · have d3 : decide (x < 0) = false := by simp; omega
        by_cases c4 : 0 ≤ y
        · have d4 : decide (y < 0) = false := by simp; omega
          obtain ⟨V, hV⟩ : ∃ V, 16 * x + y = V := ⟨_, rfl⟩
          have v0 : 0 ≤ V := by omega
          have v1 : V ≤ 255 := by omega
          have uV : U8 V := ⟨v0, v1⟩
          have T := fun w => stands_any V w uV
          rw [hV]
          obtain ⟨bb, hbb⟩ : ∃ b, stB V = b := ⟨_, rfl⟩
          rw [hbb] at T ⊢
          clear hbb uV
          have er : (if (38 : Int) = 38 ∧ (59 : Int) = 59 ∧ 0 ≤ x ∧ 0 ≤ y ∧ bb = false then V else -1) = (match bb with | true => -1 | false => V) := by
            cases bb
            · rw [if_pos ⟨rfl, rfl, c3, c4, rfl⟩]
            · rw [if_neg (by intro h; cases h.2.2.2.2)]
          rw [er]
          clear er
          replace T := Lib.hid T
          go_enter Tryd.func26, Tryd.ntmps26
          go_wp2_with (first
            | (go_at_call 38; (with_reducible refine (SA.out _).mono ?_); rintro e w1 ⟨rfl, rfl⟩)
            | (go_at_call 38; (with_reducible refine (SB.out _).mono ?_); rintro e w1 ⟨rfl, rfl⟩)
            | go_in)
          refine wp_region_steady (Held w 0 []) (by kernel_rfl) (by kernel_rfl) ⟨(by repeat (first | exact Below.refl _ _ | assumption | refine Below.drew ?_ | refine Below.alloc ?_ (by (try simp) <;> omega) _ | refine Below.setCell ?_ (by (try simp) <;> omega) _ | (refine Below.trans ?_ (Below.mono (by assumption) (by (try simp) <;> omega))))), (by (try simp) <;> omega), (by first | exact trivial | (simp only [Cells]; go_simp))⟩ ?_
          repeat (first | (refine' wpSteady_do _ _ _; rotate_left; (focus rfl); (focus (intro w1 hS R hR; have hc := hS.cells; simp only [Cells] at hc; obtain ⟨hco, hfo⟩ := bcell hS.old; go_simp; (try go_bits); (try (rw [if_neg (by omega)]; go_simp)); first | exact hR _ hS | (go_at_call 38; (with_reducible refine (SA.out _).mono ?_); rintro e w2 ⟨rfl, rfl⟩; exact ⟨_, rfl, hR _ hS⟩) | (go_at_call 38; (with_reducible refine (SB.out _).mono ?_); rintro e w2 ⟨rfl, rfl⟩; exact ⟨_, rfl, hR _ hS⟩))); simp only [Act.put, List.setIfInBounds_toArray, List.set_cons_zero, List.set_cons_succ]) | (refine wpSteady_pass ?_ ?_; (focus rfl); simp only [Act.put, List.setIfInBounds_toArray, List.set_cons_zero, List.set_cons_succ]))
          refine wpSteady_nil (fun uE hSE => ?_)
          have hcE := hSE.cells; have hbE := hSE.old; have hzE := hSE.size; clear hSE; simp only [Cells] at hcE; obtain ⟨hcoE, hfoE⟩ := bcell hbE
          replace hV := Lib.hid hV
          clear X0 X1 X2 X3 bA bB c3 d3 c4 d4 f1 f2
          cases bb
          · go_wp2_with (first
              | (go_at_call 25; (with_reducible refine (T.out _).mono ?_); rintro e w1 ⟨rfl, rfl⟩)
              | go_in)
            go_ret
            exact ⟨rfl, hbE⟩
          · go_wp2_with (first
              | (go_at_call 25; (with_reducible refine (T.out _).mono ?_); rintro e w1 ⟨rfl, rfl⟩)
              | go_in)
            go_ret
            exact ⟨rfl, hbE⟩
        · have d4 : decide (y < 0) = true := by simp; omega
          rw [if_neg (by intro h; exact c4 h.2.2.2.1)]
          go_enter Tryd.func26, Tryd.ntmps26
          go_wp2_with (first
            | (go_at_call 38; (with_reducible refine (SA.out _).mono ?_); rintro e w1 ⟨rfl, rfl⟩)
            | (go_at_call 38; (with_reducible refine (SB.out _).mono ?_); rintro e w1 ⟨rfl, rfl⟩)
            | go_in)
          go_ret
          exact ⟨rfl, (by repeat (first | exact Below.refl _ _ | assumption | refine Below.drew ?_ | refine Below.alloc ?_ (by (try simp) <;> omega) _ | refine Below.setCell ?_ (by (try simp) <;> omega) _))⟩
      · have d3 : decide (x < 0) = true := by simp; omega
        rw [if_neg (by intro h; exact c3 h.2.2.1)]
        go_enter Tryd.func26, Tryd.ntmps26
        go_wp2_with (first
          | (go_at_call 38; (with_reducible refine (SA.out _).mono ?_); rintro e w1 ⟨rfl, rfl⟩)
          | go_in)
        go_ret
        exact ⟨rfl, (by repeat (first | exact Below.refl _ _ | assumption | refine Below.drew ?_ | refine Below.alloc ?_ (by (try simp) <;> omega) _ | refine Below.setCell ?_ (by (try simp) <;> omega) _))⟩
    · rw [if_neg (by intro h; exact c2 h.2.1)]
      have d2 : (D != 59) = true := by simpa using c2
      go_enter Tryd.func26, Tryd.ntmps26
      go_wp2
      go_ret
      exact ⟨rfl, (by repeat (first | exact Below.refl _ _ | assumption | refine Below.drew ?_ | refine Below.alloc ?_ (by (try simp) <;> omega) _ | refine Below.setCell ?_ (by (try simp) <;> omega) _))⟩
  · rw [if_neg (by intro h; exact c1 h.1)]
    have d1 : (C != 38) = true := by simpa using c1
    go_enter Tryd.func26, Tryd.ntmps26
    go_wp2
    go_ret
    exact ⟨rfl, (by repeat (first | exact Below.refl _ _ | assumption | refine Below.drew ?_ | refine Below.alloc ?_ (by (try simp) <;> omega) _ | refine Below.setCell ?_ (by (try simp) <;> omega) _))⟩
end Go.Proofs.YtpbolbpenkfpiaaDoor
