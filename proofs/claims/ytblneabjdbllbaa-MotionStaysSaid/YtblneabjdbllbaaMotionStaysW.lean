/-
  The law MotionStays walked.
-/
import Derived.Test.YtblneabjdbllbaaMotV
namespace Go.Proofs.Ytblneabjdbllbaa
open Go.RowKit
set_option linter.unusedVariables false
attribute [local go_sem] vwp vUpon_value vUpon_skip vUpon_enter vUpon_row
set_option linter.unusedSimpArgs false
theorem cntE_at {ms : List Mo} {t u : Int} (h : cntE ms t = 0) (h0 : 0 ≤ u) (h1 : u ≤ 1048576) : cntE ms u = 0 := by
  unfold cntE at *
  split at h
  · omega
  · split at h
    · rename_i h2; exact absurd h h2
    · rename_i h2 h3; rw [if_neg h2, if_neg h3, if_neg (by omega)]
theorem lst_slice {w : World} {v : Value} {ms : List Mo} (h : Lst w v ms) : ∃ s cap, v = .slice s ms.length cap ∧ ms.length ≤ maxLen := by
  rcases h with ⟨rfl, rfl⟩ | ⟨a, cap, rfl, _, h, _⟩
  · exact ⟨none, 0, rfl, Nat.zero_le _⟩
  · exact ⟨some a, cap, rfl, h⟩
set_option maxHeartbeats 4000000 in
set_option maxRecDepth 100000 in
theorem walk_MotionStays (ms : List Mo) (v : Value) (t : Int) (w : World) (hl : Lst w v ms) (hw : ∀ m ∈ ms, Wf m) (ht : I64 t) :
    Calls Try.prog 8 #[v, .int .i64 t] w fun e w' => e = .returned (.bool true) ∧ Below w.heap.size w w' := by
  have ALL := fun (u : Int) (hu : I64 u) w' (hb : Below w.heap.size w w') => all_any ms v u w' (hl.below hb) hw hu
  have NX := fun w' (hb : Below w.heap.size w w') => next_any ms v t w' (hl.below hb) hw ht
  have hlh := Lib.hid hl
  obtain ⟨s, cap, rfl, hmax⟩ := lst_slice hl
  clear hl
  replace ALL := Lib.hid ALL
  replace NX := Lib.hid NX
  obtain ⟨n, hn⟩ : ∃ n, ms.length = n := ⟨_, rfl⟩
  rw [hn] at ALL NX hmax hlh ⊢
  replace hn := Lib.hid hn
  by_cases h60 : (60 : Int) < n
  · go_enter Try.func8, Try.ntmps8
    go_wp2_with (go_at_call 9; (with_reducible refine (alive_any _).mono ?_); rintro e w1 ⟨rfl, hb1⟩; obtain ⟨hc1, hf1⟩ := bcell hb1; have hz1 := hb1.size; (try simp at hz1); (try have lt1 : w.heap.size < w1.heap.size := (by omega)))
    go_ret
    exact ⟨rfl, hb1⟩
  have h60b : decide ((60 : Int) < n) = false := by simpa using h60
  have n60 : n ≤ 60 := by omega
  clear h60
  go_enter Try.func8, Try.ntmps8
  go_wp2_with (go_at_call 9; (with_reducible refine (alive_any _).mono ?_); rintro e w1 ⟨rfl, hb1⟩; obtain ⟨hc1, hf1⟩ := bcell hb1; have hz1 := hb1.size; (try simp at hz1); (try have lt1 : w.heap.size < w1.heap.size := (by omega)))
  go_at_call 18
  refine (ALL.out t ht _ hb1).mono ?_
  rintro e w2 ⟨hb2, hr2⟩
  have hB2 : Below w.heap.size w w2 := hb1.trans (hb2.mono hb1.size)
  rcases hr2 with ⟨hne, rfl⟩ | ⟨h0, v1, v2, b1, b2, rfl, l1, l2, l3, hv, o1, o2⟩
  · have hne' := hne
    obtain ⟨c, hc⟩ : ∃ c, cntE ms t = c := ⟨_, rfl⟩
    rw [hc] at hne ⊢
    have hnb : (c != 0) = true := by simpa using hne
    replace hc := Lib.hid hc
    replace hne' := Lib.hid hne'
    clear hne
    go_wp2_with fail
    go_at_call 19
    refine (NX.out _ hB2).mono ?_
    rintro e w3 ⟨hb3, hr3⟩
    rcases hr3 with ⟨_, rfl⟩ | ⟨h0, _⟩
    · rw [hc.out]
      go_wp2
      go_ret
      exact ⟨rfl, hB2.trans (hb3.mono hB2.size)⟩
    · exact absurd h0 hne'.out
  · have hI1 := ints_of_own o1 (by simp [nodesN])
    have hI2 := ints_of_own o2 (by simp [placesN])
    obtain ⟨⟨t0, t1⟩, hok⟩ := cntE_zero hw h0
    clear o1 o2 hv l1 l2 l3
    replace hI1 := Lib.hid hI1
    replace hI2 := Lib.hid hI2
    replace h0 := Lib.hid h0
    replace hok := Lib.hid hok
    go_wp2_with fail
    go_at_call 19
    refine (NX.out _ hB2).mono ?_
    rintro e w3 ⟨hb3, hr3⟩
    rcases hr3 with ⟨hne, _⟩ | ⟨_, r, hP, rfl⟩
    · exact absurd h0.out hne
    have hB3 : Below w.heap.size w w3 := hB2.trans (hb3.mono hB2.size)
    have hB3z := hB3.size
    replace hI1 := Lib.hid (hI1.out.below hb3)
    replace hI2 := Lib.hid (hI2.out.below hb3)
    have hup : ∀ k, k + 1 < (srt ms).length → ∃ x y, (nodesN ms)[k]? = some x ∧ (nodesN ms)[k + 1]? = some y ∧ x < y := by
      intro k hk
      have hk' : k + 1 < (nodesN ms).length := by simpa [nodesN] using hk
      exact ⟨_, _, List.getElem?_eq_getElem (by omega), List.getElem?_eq_getElem hk', List.pairwise_iff_getElem.1 (nodes_up ms) k (k + 1) (by omega) hk' (by omega)⟩
    have hrb : r ≤ 1048577 ∧ t < r := by
      rcases hP.2 with rfl | ⟨m, hm, _, rfl⟩
      · omega
      · have := (hok.out m hm.mem).st; omega
    obtain ⟨r1, r0⟩ := hrb
    have hI1' := hI1.out
    have hI2' := hI2.out
    obtain ⟨s1, cap1, rfl, m1, hI1⟩ := hI1'
    obtain ⟨s2, cap2, e2, m2, _⟩ := hI2'
    obtain ⟨N, hN⟩ : ∃ N, (srt ms).length = N := ⟨_, rfl⟩
    rw [show (nodesN ms).length = N by simp [nodesN, hN]] at *
    rw [show (placesN ms t).length = N by simp [placesN, hN]] at *
    rw [hN] at hup
    subst e2
    replace hI1 := Lib.hid hI1
    replace hup := Lib.hid hup
    replace hN := Lib.hid hN
    replace hP := Lib.hid hP
    clear hb3 hb2 hB2 hb1 hc1 hf1 hz1
    unfold maxLen at m1 m2
    by_cases hr : r ≤ 1048576
    · have e : nextV r = .tuple #[.int .i64 r, .bool true, .int .i64 0] := by unfold nextV; rw [if_neg (by omega), decide_eq_true hr]
      rw [e]
      clear e
      obtain ⟨i0, m0, e0, g0, g1, g2⟩ := next_goes hok.out hP.out hr
      replace e0 := Lib.hid e0
      replace g0 := Lib.hid g0
      have B1 : decide (r ≤ t) = false := by simp; omega
      have B2 : decide (1048576 < r) = false := by simp; omega
      go_wp2
      go_loopw [12] (fun i wr => ∃ k : Nat, (k < N ∨ k = 0) ∧ i = .int .i64 ((k : Int) + 1) ∧ Below w3.heap.size w3 wr) (fun i _ => N + 1 - (intOf i).toNat)
      case atStart => exact ⟨0, .inr rfl, rfl, Below.refl _ _⟩
      case round =>
        obtain ⟨k, hk, rfl, hbr⟩ := hrel
        have zr := hbr.size
        by_cases hkN : k + 1 < N
        · obtain ⟨hcr, hfr⟩ := bcell hbr
          obtain ⟨g1, rfl, l1', c1⟩ := hI1.out (by omega)
          obtain ⟨x, y, ex, ey, hxy⟩ := hup.out k hkN
          have d1 := c1 k x ex
          have d2 := c1 (k + 1) y ey
          have hkk : (k : Int) + 1 < N := by omega
          have hkk2 : (k : Int) < N := by omega
          have y1 : g1 < wr.heap.size := by omega
          clear c1 ex ey
          go_wp2
          refine wp_region_steady (Held wr 0 []) (by kernel_rfl) (by kernel_rfl) ⟨(by repeat (first | exact Below.refl _ _ | assumption | refine Below.drew ?_ | refine Below.alloc ?_ (by (try simp) <;> omega) _ | refine Below.setCell ?_ (by (try simp) <;> omega) _ | (refine Below.trans ?_ (Below.mono (by assumption) (by (try simp) <;> omega))))), (by (try simp) <;> omega), (by first | exact trivial | (simp only [Cells]; go_simp))⟩ ?_
          repeat (first | (refine' wpSteady_do _ _ _; rotate_left; (focus rfl); (focus (intro w1 hS R hR; have hc := hS.cells; simp only [Cells] at hc; obtain ⟨hco, hfo⟩ := bcell hS.old; go_simp; (try go_bits); first | exact hR _ hS | fail)); simp only [Act.put, List.setIfInBounds_toArray, List.set_cons_zero, List.set_cons_succ]) | (refine wpSteady_pass ?_ ?_; (focus rfl); simp only [Act.put, List.setIfInBounds_toArray, List.set_cons_zero, List.set_cons_succ]))
          refine wpSteady_nil (fun uA hSA => ?_)
          have hcA := hSA.cells; have hbA := hSA.old; have hzA := hSA.size; clear hSA; simp only [Cells] at hcA; obtain ⟨hcoA, hfoA⟩ := bcell hbA
          go_wp2
          go_roundw
          case rel => exact ⟨k + 1, by omega, by go_num, hbr.trans (hbA.mono zr)⟩
          case measure => simp [intOf]; omega
        · have B3 : decide ((k : Int) + 1 < N) = false := by simp; omega
          go_wp2
          go_loopw [14] (fun i wr => ∃ k : Nat, k ≤ 200 ∧ i = .int .i64 k ∧ Below w3.heap.size w3 wr) (fun i _ => 200 - (intOf i).toNat)
          case atStart => exact ⟨0, by omega, rfl, hbr⟩
          case round =>
            clear hbr zr hk hkN
            obtain ⟨k, hk, rfl, hbr⟩ := hrel
            have zr := hbr.size
            by_cases hk2 : k < 200
            · have hkk : (k : Int) < 200 := by omega
              by_cases hk1 : k < 100
              · have hk1' : (k : Int) < 100 := by omega
                by_cases q1 : t + k ≤ t
                · go_wp2
                  go_roundw
                  case rel => exact ⟨k + 1, by omega, by go_num, hbr⟩
                  case measure => simp [intOf]; omega
                · by_cases q2 : r - 1 < t + k
                  · go_wp2
                    go_roundw
                    case rel => exact ⟨k + 1, by omega, by go_num, hbr⟩
                    case measure => simp [intOf]; omega
                  · have hu0 : 0 ≤ t + k := by omega
                    have hu1 : t + k ≤ 1048576 := by omega
                    have hcu := cntE_at h0.out hu0 hu1
                    have hpl := stay_all hok.out hP.out (show t < t + k by omega) (show t + k < r by omega)
                    replace hcu := Lib.hid hcu
                    replace hpl := Lib.hid hpl
                    go_wp2_with fail
                    go_at_call 18
                    refine (ALL.out (t + k) ⟨by omega, by omega⟩ _ (hB3.trans (hbr.mono hB3z))).mono ?_
                    rintro e w4 ⟨hb4, hr4⟩
                    rcases hr4 with ⟨hne, _⟩ | ⟨_, v3, v4, b3, b4, rfl, _, _, _, _, _, o4⟩
                    · exact absurd hcu.out hne
                    rw [hpl.out] at o4
                    have hI4 := ints_of_own o4 (by simp [placesN])
                    clear o4
                    have hbr4 := hbr.trans (hb4.mono zr)
                    go_wp2_with fail
                    go_at_call 23
                    refine (alike_same _ _ _ _ hI4 (hI2.out.below hbr4)).mono ?_
                    rintro e w5 ⟨rfl, hb5⟩
                    have hbr5 := hbr4.trans (hb5.mono hbr4.size)
                    go_wp2
                    go_roundw
                    case rel => exact ⟨k + 1, by omega, by go_num, hbr5⟩
                    case measure => simp [intOf]; omega
              · have hk1' : 100 ≤ (k : Int) := by omega
                by_cases q1 : r - 1 - ((k : Int) - 100) ≤ t
                · go_wp2
                  go_roundw
                  case rel => exact ⟨k + 1, by omega, by go_num, hbr⟩
                  case measure => simp [intOf]; omega
                · by_cases q2 : r - 1 < r - 1 - ((k : Int) - 100)
                  · go_wp2
                    go_roundw
                    case rel => exact ⟨k + 1, by omega, by go_num, hbr⟩
                    case measure => simp [intOf]; omega
                  · have hu0 : 0 ≤ r - 1 - ((k : Int) - 100) := by omega
                    have hu1 : r - 1 - ((k : Int) - 100) ≤ 1048576 := by omega
                    have hcu := cntE_at h0.out hu0 hu1
                    have hpl := stay_all hok.out hP.out (show t < r - 1 - ((k : Int) - 100) by omega) (show r - 1 - ((k : Int) - 100) < r by omega)
                    replace hcu := Lib.hid hcu
                    replace hpl := Lib.hid hpl
                    go_wp2_with fail
                    go_at_call 18
                    refine (ALL.out (r - 1 - ((k : Int) - 100)) ⟨by omega, by omega⟩ _ (hB3.trans (hbr.mono hB3z))).mono ?_
                    rintro e w4 ⟨hb4, hr4⟩
                    rcases hr4 with ⟨hne, _⟩ | ⟨_, v3, v4, b3, b4, rfl, _, _, _, _, _, o4⟩
                    · exact absurd hcu.out hne
                    rw [hpl.out] at o4
                    have hI4 := ints_of_own o4 (by simp [placesN])
                    clear o4
                    have hbr4 := hbr.trans (hb4.mono zr)
                    go_wp2_with fail
                    go_at_call 23
                    refine (alike_same _ _ _ _ hI4 (hI2.out.below hbr4)).mono ?_
                    rintro e w5 ⟨rfl, hb5⟩
                    have hbr5 := hbr4.trans (hb5.mono hbr4.size)
                    go_wp2
                    go_roundw
                    case rel => exact ⟨k + 1, by omega, by go_num, hbr5⟩
                    case measure => simp [intOf]; omega
            · rw [show (k : Int) = 200 by omega]
              go_wp2
              go_loopw [19] (fun i wr => ∃ k : Nat, k ≤ i0 ∧ i = .int .i64 k ∧ Below w3.heap.size w3 wr) (fun i _ => i0 + 1 - (intOf i).toNat)
              case atStart => exact ⟨0, Nat.zero_le _, rfl, hbr⟩
              case round =>
                clear hbr zr hk hk2
                obtain ⟨k, hk, rfl, hbr⟩ := hrel
                have zr := hbr.size
                have hin : i0 < n := by rw [← hn.out]; exact (List.getElem?_eq_some_iff.1 e0.out).1
                have hkn : k < n := by omega
                have hkk : (k : Int) < n := by omega
                obtain ⟨m, hm⟩ : ∃ m, ms[k]? = some m := ⟨ms[k]'(by have := hn.out; omega), List.getElem?_eq_getElem _⟩
                have hBr : Below w.heap.size w wr := hB3.trans (hbr.mono hB3z)
                have hlst := hlh.out
                rcases hlst with ⟨e, hnil⟩ | ⟨a, cap', e, hab, _, hel⟩
                · exfalso; rw [hnil] at hm; simp at hm
                simp at e
                obtain ⟨rfl, -, -⟩ := e
                have hM := (hel k m hm).below hBr (by rw [add_block]; exact hab (by have := hn.out; omega))
                obtain ⟨b, o, rr, hp⟩ : ∃ b o rr, a.add (k * 8) = ⟨b, o, rr⟩ := ⟨_, _, _, rfl⟩
                rw [hp] at hM
                obtain ⟨x0, x1, x2, x3, x4, x5, x6, x7⟩ := hM
                simp only [Addr.add, if_neg (show ¬ (1:Nat) = 0 by decide), if_neg (show ¬ (2:Nat) = 0 by decide), if_neg (show ¬ (3:Nat) = 0 by decide), if_neg (show ¬ (4:Nat) = 0 by decide), if_neg (show ¬ (5:Nat) = 0 by decide), if_neg (show ¬ (6:Nat) = 0 by decide), if_neg (show ¬ (7:Nat) = 0 by decide)] at x1 x2 x3 x4 x5 x6 x7
                have hmm := List.mem_of_getElem? hm
                have AT := fun w => At_ok m (r - 1) w (hw m hmm) (hok.out m hmm) (by omega) (by omega)
                have hk0 : (atG m (r - 1) = false ∨ r ≤ m.st) → k ≠ i0 := by
                  rintro h rfl
                  rw [e0.out] at hm; obtain rfl := Option.some.inj hm
                  rcases h with h | h
                  · rw [g0.out] at h; cases h
                  · omega
                replace hk0 := Lib.hid hk0
                have yb := World.block_lt_of_cell? _ _ x0
                simp only at yb
                clear hel hab hm
                obtain ⟨y, hy⟩ : ∃ y, atV m (r - 1) = y := ⟨_, rfl⟩
                rw [hy] at AT
                replace hy := Lib.hid hy
                cases hg : atG m (r - 1)
                · have hk1 : k + 1 ≤ i0 := Nat.lt_of_le_of_ne hk (hk0.out (.inl hg))
                  rw [hg] at AT
                  replace AT := Lib.hid AT
                  clear hg
                  go_wp2_with (go_at_call 10; (with_reducible refine (AT.out _).mono ?_); rintro e w4 ⟨rfl, hb4⟩; obtain ⟨hc4, hf4⟩ := bcell hb4; have hz4 := hb4.size; (try simp at hz4); (try have lt4 : w.heap.size < w4.heap.size := (by omega)))
                  go_roundw
                  case rel => exact ⟨k + 1, hk1, by go_num, hbr.trans (hb4.mono zr)⟩
                  case measure => simp [intOf]; omega
                · rw [hg] at AT
                  replace AT := Lib.hid AT
                  clear hg
                  by_cases hs : m.st < r
                  · go_wp2_with (go_at_call 10; (with_reducible refine (AT.out _).mono ?_); rintro e w4 ⟨rfl, hb4⟩; obtain ⟨hc4, hf4⟩ := bcell hb4; have hz4 := hb4.size; (try simp at hz4); (try have lt4 : w.heap.size < w4.heap.size := (by omega)))
                    go_ret
                    exact ⟨rfl, hBr.trans (hb4.mono hBr.size)⟩
                  · have hk1 : k + 1 ≤ i0 := Nat.lt_of_le_of_ne hk (hk0.out (.inr (by omega)))
                    have hsb : decide (m.st < r) = false := by simpa using hs
                    go_wp2_with (go_at_call 10; (with_reducible refine (AT.out _).mono ?_); rintro e w4 ⟨rfl, hb4⟩; obtain ⟨hc4, hf4⟩ := bcell hb4; have hz4 := hb4.size; (try simp at hz4); (try have lt4 : w.heap.size < w4.heap.size := (by omega)))
                    go_roundw
                    case rel => exact ⟨k + 1, hk1, by go_num, hbr.trans (hb4.mono zr)⟩
                    case measure => simp [intOf]; omega
    · obtain rfl : r = 1048577 := by omega
      have e : nextV 1048577 = .tuple #[.int .i64 0, .bool false, .int .i64 0] := rfl
      rw [e]
      clear e
      go_wp2
      go_loopw [12] (fun i wr => ∃ k : Nat, (k < N ∨ k = 0) ∧ i = .int .i64 ((k : Int) + 1) ∧ Below w3.heap.size w3 wr) (fun i _ => N + 1 - (intOf i).toNat)
      case atStart => exact ⟨0, .inr rfl, rfl, Below.refl _ _⟩
      case round =>
        obtain ⟨k, hk, rfl, hbr⟩ := hrel
        have zr := hbr.size
        by_cases hkN : k + 1 < N
        · obtain ⟨hcr, hfr⟩ := bcell hbr
          obtain ⟨g1, rfl, l1', c1⟩ := hI1.out (by omega)
          obtain ⟨x, y, ex, ey, hxy⟩ := hup.out k hkN
          have d1 := c1 k x ex
          have d2 := c1 (k + 1) y ey
          have hkk : (k : Int) + 1 < N := by omega
          have hkk2 : (k : Int) < N := by omega
          have y1 : g1 < wr.heap.size := by omega
          clear c1 ex ey
          go_wp2
          refine wp_region_steady (Held wr 0 []) (by kernel_rfl) (by kernel_rfl) ⟨(by repeat (first | exact Below.refl _ _ | assumption | refine Below.drew ?_ | refine Below.alloc ?_ (by (try simp) <;> omega) _ | refine Below.setCell ?_ (by (try simp) <;> omega) _ | (refine Below.trans ?_ (Below.mono (by assumption) (by (try simp) <;> omega))))), (by (try simp) <;> omega), (by first | exact trivial | (simp only [Cells]; go_simp))⟩ ?_
          repeat (first | (refine' wpSteady_do _ _ _; rotate_left; (focus rfl); (focus (intro w1 hS R hR; have hc := hS.cells; simp only [Cells] at hc; obtain ⟨hco, hfo⟩ := bcell hS.old; go_simp; (try go_bits); first | exact hR _ hS | fail)); simp only [Act.put, List.setIfInBounds_toArray, List.set_cons_zero, List.set_cons_succ]) | (refine wpSteady_pass ?_ ?_; (focus rfl); simp only [Act.put, List.setIfInBounds_toArray, List.set_cons_zero, List.set_cons_succ]))
          refine wpSteady_nil (fun uA hSA => ?_)
          have hcA := hSA.cells; have hbA := hSA.old; have hzA := hSA.size; clear hSA; simp only [Cells] at hcA; obtain ⟨hcoA, hfoA⟩ := bcell hbA
          go_wp2
          go_roundw
          case rel => exact ⟨k + 1, by omega, by go_num, hbr.trans (hbA.mono zr)⟩
          case measure => simp [intOf]; omega
        · have B3 : decide ((k : Int) + 1 < N) = false := by simp; omega
          go_wp2
          go_loopw [14] (fun i wr => ∃ k : Nat, k ≤ 200 ∧ i = .int .i64 k ∧ Below w3.heap.size w3 wr) (fun i _ => 200 - (intOf i).toNat)
          case atStart => exact ⟨0, by omega, rfl, hbr⟩
          case round =>
            clear hbr zr hk hkN
            obtain ⟨k, hk, rfl, hbr⟩ := hrel
            have zr := hbr.size
            by_cases hk2 : k < 200
            · have hkk : (k : Int) < 200 := by omega
              by_cases hk1 : k < 100
              · have hk1' : (k : Int) < 100 := by omega
                by_cases q1 : t + k ≤ t
                · go_wp2
                  go_roundw
                  case rel => exact ⟨k + 1, by omega, by go_num, hbr⟩
                  case measure => simp [intOf]; omega
                · by_cases q2 : 1048576 < t + k
                  · go_wp2
                    go_roundw
                    case rel => exact ⟨k + 1, by omega, by go_num, hbr⟩
                    case measure => simp [intOf]; omega
                  · have hu0 : 0 ≤ t + k := by omega
                    have hu1 : t + k ≤ 1048576 := by omega
                    have hcu := cntE_at h0.out hu0 hu1
                    have hpl := stay_all hok.out hP.out (show t < t + k by omega) (show t + k < 1048577 by omega)
                    replace hcu := Lib.hid hcu
                    replace hpl := Lib.hid hpl
                    go_wp2_with fail
                    go_at_call 18
                    refine (ALL.out (t + k) ⟨by omega, by omega⟩ _ (hB3.trans (hbr.mono hB3z))).mono ?_
                    rintro e w4 ⟨hb4, hr4⟩
                    rcases hr4 with ⟨hne, _⟩ | ⟨_, v3, v4, b3, b4, rfl, _, _, _, _, _, o4⟩
                    · exact absurd hcu.out hne
                    rw [hpl.out] at o4
                    have hI4 := ints_of_own o4 (by simp [placesN])
                    clear o4
                    have hbr4 := hbr.trans (hb4.mono zr)
                    go_wp2_with fail
                    go_at_call 23
                    refine (alike_same _ _ _ _ hI4 (hI2.out.below hbr4)).mono ?_
                    rintro e w5 ⟨rfl, hb5⟩
                    have hbr5 := hbr4.trans (hb5.mono hbr4.size)
                    go_wp2
                    go_roundw
                    case rel => exact ⟨k + 1, by omega, by go_num, hbr5⟩
                    case measure => simp [intOf]; omega
              · have hk1' : 100 ≤ (k : Int) := by omega
                by_cases q1 : 1048576 - ((k : Int) - 100) ≤ t
                · go_wp2
                  go_roundw
                  case rel => exact ⟨k + 1, by omega, by go_num, hbr⟩
                  case measure => simp [intOf]; omega
                · by_cases q2 : 1048576 < 1048576 - ((k : Int) - 100)
                  · go_wp2
                    go_roundw
                    case rel => exact ⟨k + 1, by omega, by go_num, hbr⟩
                    case measure => simp [intOf]; omega
                  · have hu0 : 0 ≤ 1048576 - ((k : Int) - 100) := by omega
                    have hu1 : 1048576 - ((k : Int) - 100) ≤ 1048576 := by omega
                    have hcu := cntE_at h0.out hu0 hu1
                    have hpl := stay_all hok.out hP.out (show t < 1048576 - ((k : Int) - 100) by omega) (show 1048576 - ((k : Int) - 100) < 1048577 by omega)
                    replace hcu := Lib.hid hcu
                    replace hpl := Lib.hid hpl
                    go_wp2_with fail
                    go_at_call 18
                    refine (ALL.out (1048576 - ((k : Int) - 100)) ⟨by omega, by omega⟩ _ (hB3.trans (hbr.mono hB3z))).mono ?_
                    rintro e w4 ⟨hb4, hr4⟩
                    rcases hr4 with ⟨hne, _⟩ | ⟨_, v3, v4, b3, b4, rfl, _, _, _, _, _, o4⟩
                    · exact absurd hcu.out hne
                    rw [hpl.out] at o4
                    have hI4 := ints_of_own o4 (by simp [placesN])
                    clear o4
                    have hbr4 := hbr.trans (hb4.mono zr)
                    go_wp2_with fail
                    go_at_call 23
                    refine (alike_same _ _ _ _ hI4 (hI2.out.below hbr4)).mono ?_
                    rintro e w5 ⟨rfl, hb5⟩
                    have hbr5 := hbr4.trans (hb5.mono hbr4.size)
                    go_wp2
                    go_roundw
                    case rel => exact ⟨k + 1, by omega, by go_num, hbr5⟩
                    case measure => simp [intOf]; omega
            · rw [show (k : Int) = 200 by omega]
              go_wp2
              go_ret
              exact ⟨rfl, hB3.trans (hbr.mono hB3z)⟩
end Go.Proofs.Ytblneabjdbllbaa
