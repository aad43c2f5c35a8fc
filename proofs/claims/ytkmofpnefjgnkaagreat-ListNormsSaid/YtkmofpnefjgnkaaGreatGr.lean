/-
  XGr: XLisRf.
-/
import Derived.Test.YtkmofpnefjgnkaaGreatGq
namespace Go.Proofs.YtkmofpnefjgnkaaGreat
open Go.RowKit
set_option linter.unusedVariables false
attribute [local go_sem] vwp vUpon_value vUpon_skip vUpon_enter vUpon_row
set_option linter.unusedSimpArgs false
set_option linter.unusedVariables false
section
set_option linter.unusedSimpArgs false
set_option linter.unusedVariables false
section
attribute [local go_sem high] neq_rect
set_option maxHeartbeats 2000000 in
set_option maxRecDepth 100000 in
theorem ksameR_any (xs ys : List Re) (v1 v2 : Value) (w : World) (h1 : Row w.heap.size 4 Re.enc w v1 xs) (h2 : Row w.heap.size 4 Re.enc w v2 ys) (hmany : xs.length ≤ 2000000) (hmany2 : ys.length ≤ 2000000) : Calls Tryz.prog 14 #[v1, v2] w fun e w' => e = .returned (.bool (eqRs xs ys)) ∧ Below w.heap.size w w' := by
  obtain ⟨s1, c1, rfl, hmax1⟩ := h1.shape
  obtain ⟨s2, c2, rfl, hmax2⟩ := h2.shape
  have o1 := fun h0 => row_re h1 h0
  have o2 := fun h0 => row_re h2 h0
  clear h1 h2
  obtain ⟨n, en⟩ : ∃ n, xs.length = n := ⟨_, rfl⟩
  obtain ⟨m, em⟩ : ∃ m, ys.length = m := ⟨_, rfl⟩
  by_cases hnm : n = m
  · subst hnm
    rw [en] at o1 hmany hmax1 ⊢
    rw [em] at o2 hmany2 hmax2 ⊢
    replace o1 := Lib.hid o1
    replace o2 := Lib.hid o2
    replace en := Lib.hid en
    replace em := Lib.hid em
    obtain ⟨res, hres⟩ : ∃ r, eqRs xs ys = r := ⟨_, rfl⟩
    rw [hres]
    go_enter Tryz.func14, Tryz.ntmps14
    go_wp2
    go_loopw [5] (fun i wr => ∃ k : Nat, k ≤ n ∧ i = .int .i64 k ∧ eqRs (xs.drop k) (ys.drop k) = res ∧ Below w.heap.size w wr) (fun i _ => n - (intOf i).toNat)
    case atStart => exact ⟨0, Nat.zero_le _, rfl, by simpa using hres, (by repeat (first | exact Below.refl _ _ | assumption | refine Below.drew ?_ | refine Below.alloc ?_ (by (try simp) <;> omega) _ | refine Below.setCell ?_ (by (try simp) <;> omega) _))⟩
    case round =>
      obtain ⟨k, hk, rfl, hgo, hbr⟩ := hrel
      clear hres
      have zr := hbr.size
      obtain ⟨hcr, hfr⟩ := bcell hbr
      by_cases hkn : k < n
      · obtain ⟨b, p, cap', e, hb, _, _, hel⟩ := o1.out (by omega)
        simp at e
        obtain ⟨rfl, rfl⟩ := e
        obtain ⟨b', p', cap', e, hb', _, _, hex⟩ := o2.out (by omega)
        simp at e
        obtain ⟨rfl, rfl⟩ := e
        obtain ⟨s, hs⟩ := get_at en.out hkn
        obtain ⟨t, ht⟩ := get_at em.out hkn
        have g := hel k s hs
        have j := hex k t ht
        rw [eqRs_step hs ht] at hgo
        have hkk : (k : Int) < n := by omega
        have yb : b < wr.heap.size := by omega
        have yb' : b' < wr.heap.size := by omega
        clear hel hex hs ht
        obtain ⟨x, y, wd, ht⟩ := s
        obtain ⟨x', y', wd', ht'⟩ := t
        obtain ⟨g0, g1, g2, g3⟩ := g
        obtain ⟨j0, j1, j2, j3⟩ := j
        simp only at g0 g1 g2 g3 j0 j1 j2 j3
        obtain ⟨bb, hc⟩ : ∃ bb, Re.eqb ⟨x, y, wd, ht⟩ ⟨x', y', wd', ht'⟩ = bb := ⟨_, rfl⟩
        rw [hc] at hgo
        replace hc : eq4 x y wd ht x' y' wd' ht' = bb := hc
        cases bb
        · rw [Bool.false_and] at hgo
          subst hgo
          go_wp2
          refine wp_region_steady (Held wr 0 []) (by kernel_rfl) (by kernel_rfl) ⟨(by repeat (first | exact Below.refl _ _ | assumption | refine Below.drew ?_ | refine Below.alloc ?_ (by (try simp) <;> omega) _ | refine Below.setCell ?_ (by (try simp) <;> omega) _ | (refine Below.trans ?_ (Below.mono (by assumption) (by (try simp) <;> omega))))), (by (try simp) <;> omega), (by first | exact trivial | (simp only [Cells]; go_simp))⟩ ?_
          repeat (first | (refine' wpSteady_do _ _ _; rotate_left; (focus rfl); (focus (intro w1 hS R hR; have hc := hS.cells; simp only [Cells] at hc; obtain ⟨hco, hfo⟩ := bcell hS.old; go_simp; (try go_bits); first | exact hR _ hS | fail)); simp only [Act.put, List.setIfInBounds_toArray, List.set_cons_zero, List.set_cons_succ]) | (refine wpSteady_pass ?_ ?_; (focus rfl); simp only [Act.put, List.setIfInBounds_toArray, List.set_cons_zero, List.set_cons_succ]))
          refine wpSteady_nil (fun uA hSA => ?_)
          have hcA := hSA.cells; have hbA := hSA.old; have hzA := hSA.size; clear hSA; simp only [Cells] at hcA; obtain ⟨hcoA, hfoA⟩ := bcell hbA
          go_wp2
          go_ret
          exact ⟨rfl, hbr.trans (hbA.mono zr)⟩
        · rw [Bool.true_and] at hgo
          replace hgo := Lib.hid hgo
          go_wp2
          refine wp_region_steady (Held wr 0 []) (by kernel_rfl) (by kernel_rfl) ⟨(by repeat (first | exact Below.refl _ _ | assumption | refine Below.drew ?_ | refine Below.alloc ?_ (by (try simp) <;> omega) _ | refine Below.setCell ?_ (by (try simp) <;> omega) _ | (refine Below.trans ?_ (Below.mono (by assumption) (by (try simp) <;> omega))))), (by (try simp) <;> omega), (by first | exact trivial | (simp only [Cells]; go_simp))⟩ ?_
          repeat (first | (refine' wpSteady_do _ _ _; rotate_left; (focus rfl); (focus (intro w1 hS R hR; have hc := hS.cells; simp only [Cells] at hc; obtain ⟨hco, hfo⟩ := bcell hS.old; go_simp; (try go_bits); first | exact hR _ hS | fail)); simp only [Act.put, List.setIfInBounds_toArray, List.set_cons_zero, List.set_cons_succ]) | (refine wpSteady_pass ?_ ?_; (focus rfl); simp only [Act.put, List.setIfInBounds_toArray, List.set_cons_zero, List.set_cons_succ]))
          refine wpSteady_nil (fun uA hSA => ?_)
          have hcA := hSA.cells; have hbA := hSA.old; have hzA := hSA.size; clear hSA; simp only [Cells] at hcA; obtain ⟨hcoA, hfoA⟩ := bcell hbA
          go_wp2
          go_roundw
          case rel => exact ⟨k + 1, by omega, by go_num, hgo.out, hbr.trans (hbA.mono zr)⟩
          case measure => simp [intOf]; omega
      · obtain rfl : k = n := by omega
        have e1 : xs.drop k = [] := List.drop_eq_nil_of_le (by have := en.out; omega)
        have e2 : ys.drop k = [] := List.drop_eq_nil_of_le (by have := em.out; omega)
        rw [e1, e2] at hgo
        clear e1 e2
        have hgo : true = res := hgo
        subst hgo
        go_wp2
        go_ret
        exact ⟨rfl, hbr⟩
  · rw [eqRs_len (by rw [en, em]; exact hnm)]
    rw [en] at hmax1 ⊢
    rw [em] at hmax2 ⊢
    have hni : ¬ (n : Int) = m := by omega
    clear o1 o2
    go_enter Tryz.func14, Tryz.ntmps14
    go_wp2
    go_ret
    exact ⟨rfl, (by repeat (first | exact Below.refl _ _ | assumption | refine Below.drew ?_ | refine Below.alloc ?_ (by (try simp) <;> omega) _ | refine Below.setCell ?_ (by (try simp) <;> omega) _))⟩
end
def longB (n : Nat) : Bool := (decide (200 < n) && decide (n ≤ 16384)) || decide (17000 < n)
theorem long_any (xs : List St) (v : Value) (w : World) (hl : Row w.heap.size 15 St.enc w v xs) : Calls Tryz.prog 5 #[v] w fun e w' => e = .returned (.bool (longB xs.length)) ∧ Below w.heap.size w w' := by
  obtain ⟨s0, cap, rfl, hmax⟩ := hl.shape
  obtain ⟨n, en⟩ : ∃ n, xs.length = n := ⟨_, rfl⟩
  rw [en] at hmax ⊢
  clear hl en
  by_cases c1 : n ≤ 200
  · rw [show longB n = false by unfold longB; simp; omega]
    have d1 : decide ((200 : Int) < n) = false := by simp; omega
    have d2 : decide ((17000 : Int) < n) = false := by simp; omega
    have d3 : decide ((n : Int) ≤ 16384) = true := by simp; omega
    go_enter Tryz.func5, Tryz.ntmps5
    go_wp2
    go_ret
    exact ⟨rfl, (by repeat (first | exact Below.refl _ _ | assumption | refine Below.drew ?_ | refine Below.alloc ?_ (by (try simp) <;> omega) _ | refine Below.setCell ?_ (by (try simp) <;> omega) _ | (refine Below.trans ?_ (Below.mono (by assumption) (by (try simp) <;> omega)))))⟩
  · by_cases c2 : n ≤ 16384
    · rw [show longB n = true by unfold longB; simp; omega]
      have d1 : decide ((200 : Int) < n) = true := by simp; omega
      have d2 : decide ((n : Int) ≤ 16384) = true := by simp; omega
      go_enter Tryz.func5, Tryz.ntmps5
      go_wp2
      go_ret
      exact ⟨rfl, (by repeat (first | exact Below.refl _ _ | assumption | refine Below.drew ?_ | refine Below.alloc ?_ (by (try simp) <;> omega) _ | refine Below.setCell ?_ (by (try simp) <;> omega) _ | (refine Below.trans ?_ (Below.mono (by assumption) (by (try simp) <;> omega)))))⟩
    · by_cases c3 : n ≤ 17000
      · rw [show longB n = false by unfold longB; simp; omega]
        have d1 : decide ((200 : Int) < n) = true := by simp; omega
        have d3 : decide ((n : Int) ≤ 16384) = false := by simp; omega
        have d2 : decide ((17000 : Int) < n) = false := by simp; omega
        go_enter Tryz.func5, Tryz.ntmps5
        go_wp2
        go_ret
        exact ⟨rfl, (by repeat (first | exact Below.refl _ _ | assumption | refine Below.drew ?_ | refine Below.alloc ?_ (by (try simp) <;> omega) _ | refine Below.setCell ?_ (by (try simp) <;> omega) _ | (refine Below.trans ?_ (Below.mono (by assumption) (by (try simp) <;> omega)))))⟩
      · rw [show longB n = true by unfold longB; simp; omega]
        have d1 : decide ((200 : Int) < n) = true := by simp; omega
        have d3 : decide ((n : Int) ≤ 16384) = false := by simp; omega
        have d2 : decide ((17000 : Int) < n) = true := by simp; omega
        go_enter Tryz.func5, Tryz.ntmps5
        go_wp2
        go_ret
        exact ⟨rfl, (by repeat (first | exact Below.refl _ _ | assumption | refine Below.drew ?_ | refine Below.alloc ?_ (by (try simp) <;> omega) _ | refine Below.setCell ?_ (by (try simp) <;> omega) _ | (refine Below.trans ?_ (Below.mono (by assumption) (by (try simp) <;> omega)))))⟩
set_option maxHeartbeats 4000000 in
set_option maxRecDepth 100000 in
theorem kflat_any (xs : List St) (v : Value) (w : World) (hl : Row w.heap.size 15 St.enc w v xs) (k1 : ∀ s ∈ xs, s.Wf) : Calls Tryz.prog 8 #[v] w (OutF w.heap.size (flS xs) (flR xs) (chkL xs) w) := by
  obtain ⟨iR, hr0, hr1, hr2, hr3⟩ := info_parts infoRe
  obtain ⟨iM, hi0, hm0, hm1, hm2⟩ := info_parts infoSt
  have C1 := fun w' (hb : Below w.heap.size w w') => rcheck_any xs v w' ((hl.below hb).mono hb.size) k1
  have K1 := fun w' (hb : Below w.heap.size w w') hc => kshown_any xs v w' ((hl.below hb).mono hb.size) k1 hc
  obtain ⟨s0, cap, rfl, hmax⟩ := hl.shape
  have hopen := fun h0 => row_st hl h0
  obtain ⟨n, en⟩ : ∃ n, xs.length = n := ⟨_, rfl⟩
  clear hl
  by_cases c1 : chkL xs = 0
  · have l1 := chk_len c1
    have hfS : flS xs = fltS xs := if_pos c1
    have hfR : flR xs = fltR xs (shL xs) := if_pos c1
    have hRl := shL_len xs
    obtain ⟨R, hR⟩ : ∃ R, shL xs = R := ⟨_, rfl⟩
    have K1 := fun w' hb => K1 w' hb c1
    rw [hfS, hfR]
    rw [hR] at K1 hRl ⊢
    rw [c1] at C1 ⊢
    rw [en] at l1 hmax hopen C1 K1 hRl ⊢
    replace C1 := Lib.hid C1
    replace K1 := Lib.hid K1
    replace hopen := Lib.hid hopen
    replace en := Lib.hid en
    replace hRl := Lib.hid hRl
    replace k1 := Lib.hid k1
    clear c1 hR hfS hfR
    go_enter Tryz.func8, Tryz.ntmps8
    go_wp2_with (first
      | (go_at_call 12; (with_reducible refine (C1.out _ (by repeat (first | exact Below.refl _ _ | assumption | refine Below.drew ?_ | refine Below.alloc ?_ (by (try simp) <;> omega) _ | refine Below.setCell ?_ (by (try simp) <;> omega) _ | (refine Below.trans ?_ (Below.mono (by assumption) (by (try simp) <;> omega)))))).mono ?_); rintro e w3 ⟨rfl, hb3⟩; have z3 := hb3.size)
      | (go_at_call 24; (with_reducible refine (K1.out _ hb3).mono ?_); rintro e w2 ⟨v2, rfl, hown2, hb2⟩; obtain ⟨s2, cap2, rfl⟩ := own_slice hown2; rw [hRl.out])
      | go_in)
    have hb02 : Below w.heap.size w w2 := hb3.trans (hb2.mono z3)
    have z02 := hb02.size
    have hrow := hown2.row (Nat.le_refl w2.heap.size)
    have hopR := fun h0 => row_re hrow h0
    rw [hRl.out] at hopR
    replace hopR := Lib.hid hopR
    clear hrow hown2 hb2 hb3 z3
    go_loopw [7, 8, 9] (fun va vb i wr => ∃ k : Nat, k ≤ n ∧ i = .int .i64 k ∧ FlCut w2 (fltS (xs.take k)) (fltR (xs.take k) (R.take k)) va vb wr) (fun _ _ i _ => n - (intOf i).toNat)
    case atStart => exact ⟨0, Nat.zero_le _, rfl, World.ownsRow_nil _ _ _ _, World.ownsRow_nil _ _ _ _, Apart.none _ _ _, Below.refl _ _⟩
    case round =>
      obtain ⟨k, hk, rfl, hown, hownR, hap, hbr⟩ := hrel
      have zr := hbr.size
      obtain ⟨hcr, hfr⟩ := bcell hbr
      by_cases hkn : k < n
      · obtain ⟨b, p, cap', e, hb, _, _, hel⟩ := hopen.out (by omega)
        simp at e
        obtain ⟨rfl, rfl⟩ := e
        obtain ⟨b2, p2, cap2', e, hb2, _, _, hel2⟩ := hopR.out (by omega)
        simp at e
        obtain ⟨rfl, rfl⟩ := e
        obtain ⟨s, hs⟩ := get_at en.out hkn
        obtain ⟨q, hq⟩ := get_at hRl.out hkn
        obtain ⟨hcw, hfw⟩ := bcell hb02
        obtain ⟨g0, g1, g2, g3, g4, g5, g6, g7, g8, g9, g10, g11, g12, g13, g14⟩ := hel k s hs
        obtain ⟨j0, j1, j2, j3⟩ := hel2 k q hq
        have eS := fltS_snoc hs
        have eR := fltR_snoc hs hq
        have D := fun w => kdraws_any s w ((k1.out s (List.mem_of_getElem? hs)).1)
        have hkk : (k : Int) < n := by omega
        have yb : b < wr.heap.size := by omega
        have ybw : b < w2.heap.size := by omega
        have yb2 : b2 < wr.heap.size := by omega
        have hln1 : (fltS (xs.take k)).length ≤ n := by have := fltS_le (xs.take k); simp at this; omega
        have hln2 : (fltR (xs.take k) (R.take k)).length ≤ n := by rw [fltS_len _ _ (by have := hRl.out; have := en.out; simp; omega)]; omega
        clear hel hel2 hs hq
        replace hown := Lib.hid hown
        replace hownR := Lib.hid hownR
        replace hap := Lib.hid hap
        cases hd : drB s
        · rw [show decide (s.kind ≤ 3) = false from hd] at D
          rw [hd] at eS eR
          simp only [Bool.false_eq_true, if_false, List.append_nil] at eS eR
          replace eS := Lib.hid eS
          replace eR := Lib.hid eR
          replace D := Lib.hid D
          clear hd
          go_wp2_with (first
            | (go_at_call 25; (with_reducible refine (D.out _).mono ?_); rintro e w4 ⟨rfl, hb4⟩)
            | go_in)
          have hb4r : Below wr.heap.size wr w4 := (by repeat (first | exact Below.refl _ _ | assumption | refine Below.drew ?_ | refine Below.alloc ?_ (by (try simp) <;> omega) _ | refine Below.setCell ?_ (by (try simp) <;> omega) _ | (refine Below.trans ?_ (Below.mono (by assumption) (by (try simp) <;> omega)))))
          go_roundw
          case measure => simp [intOf]; omega
          case rel =>
            refine ⟨k + 1, by omega, by go_num, ?_, ?_, hap.out, hbr.trans (hb4r.mono zr)⟩
            · rw [eS.out]; exact hown.out.below hb4r (Nat.le_refl _)
            · rw [eR.out]; exact hownR.out.below hb4r (Nat.le_refl _)
        · rw [show decide (s.kind ≤ 3) = true from hd] at D
          rw [hd] at eS eR
          simp only [if_true] at eS eR
          replace eS := Lib.hid eS
          replace eR := Lib.hid eR
          replace D := Lib.hid D
          have lo1 := Lib.hid (fun g hg => (own_in hown.out g hg).2)
          have lo2 := Lib.hid (fun g hg => (own_in hownR.out g hg).2)
          clear hd
          go_upto_region 11 with (first
            | (go_at_call 25; (with_reducible refine (D.out _).mono ?_); rintro e w4 ⟨rfl, hb4⟩; have hb4r : Below wr.heap.size wr w4 := (by repeat (first | exact Below.refl _ _ | assumption | refine Below.drew ?_ | refine Below.alloc ?_ (by (try simp) <;> omega) _ | refine Below.setCell ?_ (by (try simp) <;> omega) _ | (refine Below.trans ?_ (Below.mono (by assumption) (by (try simp) <;> omega))))); have z4 := hb4r.size; obtain ⟨hc4, hf4⟩ := bcell hb4r; have own4 := hown.out.below hb4r (Nat.le_refl _); have ownR4 := Lib.hid (hownR.out.below hb4r (Nat.le_refl _)); unfold Owns at own4)
            | go_in)
          have h24 : Below w2.heap.size w2 w4 := hbr.trans (hb4r.mono zr)
          have z24 := h24.size
          go_wp2_with (first
            | (at_builtin; refine wpList_append_two rfl _ _ _ rfl w2.heap.size 48 iM _ 15 72 Tryz.underlying22 hi0 hm0 hm1 hm2 rfl (by omega) w4 1 _ _ _ _ (by rfl) own4 (by rfl) rfl (by simp [Value.oneCell']) (by omega) (by unfold maxLen; omega) (by omega) ?_; intro v5 w5 hown5 hgr5 hat5 hb5; obtain ⟨hc5, hf5⟩ := bcell (h24.trans hb5); have z5 := hgr5.size; have ownR5 := Lib.hid (own_keep ownR4.out hgr5 (fun g h1 h2 => hap.out g h2 h1)); have hown5 := Lib.hid hown5)
            | (at_builtin; refine wpList_append_two rfl _ _ _ rfl w2.heap.size 44 iR _ 4 32 Tryz.underlying25 hr0 hr1 hr2 hr3 rfl (by omega) w5 1 _ _ _ _ (by rfl) ownR5.out (by rfl) rfl (by simp [Value.oneCell']) (by omega) (by unfold maxLen; omega) (by omega) ?_; intro v6 w6 hown6 hgr6 hat6 hb6)
            | go_in)
          have ap5 : Apart v5 _ := apart_next (C := w5.heap.size) hap.out lo1.out lo2.out (fun g h => (hat5 g h).imp id (fun h => by omega)) (fun g h => (own_in hown5.out g h).2) (fun g h => .inl h)
          have own5' := own_keep hown5.out hgr6 (fun g h1 h2 => ap5 g h1 h2)
          have ap6 : Apart v5 v6 := apart_next (C := w5.heap.size) hap.out lo1.out lo2.out (fun g h => (hat5 g h).imp id (fun h => by omega)) (fun g h => (own_in hown5.out g h).2) (fun g h => (hat6 g h).imp id (fun h => by omega))
          have h26 : Below w2.heap.size w2 w6 := (h24.trans hb5).trans hb6
          replace own5' := Lib.hid own5'
          replace hown6 := Lib.hid hown6
          replace ap6 := Lib.hid ap6
          go_roundw
          case measure => simp [intOf]; omega
          case rel =>
            refine ⟨k + 1, by omega, by go_num, ?_, ?_, ap6.out, h26⟩
            · rw [eS.out]
              unfold Owns
              rw [List.length_append, List.flatMap_append]
              exact own5'.out
            · rw [eR.out]
              unfold OwnsR
              rw [List.length_append, List.flatMap_append]
              exact hown6.out
      · obtain rfl : k = n := by omega
        rw [List.take_of_length_le (by have := en.out; omega), List.take_of_length_le (by have := hRl.out; omega)] at hownR
        rw [List.take_of_length_le (by have := en.out; omega)] at hown
        replace hown := Lib.hid hown
        replace hownR := Lib.hid hownR
        replace hap := Lib.hid hap
        go_wp2
        go_ret3
        exact ⟨hb02.trans (hbr.mono z02), _, _, rfl, own_less hown.out z02, own_less hownR.out z02, hap.out⟩
  · have hfS : flS xs = [] := if_neg c1
    have hfR : flR xs = [] := if_neg c1
    have hcb : (chkL xs == 0) = false := by simp [c1]
    have hcn : (chkL xs != 0) = true := by simp [c1]
    rw [hfS, hfR]
    rw [en] at C1 ⊢
    replace C1 := Lib.hid C1
    clear c1 K1
    go_enter Tryz.func8, Tryz.ntmps8
    go_wp2_with (first
      | (go_at_call 12; (with_reducible refine (C1.out _ (by repeat (first | exact Below.refl _ _ | assumption | refine Below.drew ?_ | refine Below.alloc ?_ (by (try simp) <;> omega) _ | refine Below.setCell ?_ (by (try simp) <;> omega) _ | (refine Below.trans ?_ (Below.mono (by assumption) (by (try simp) <;> omega)))))).mono ?_); rintro e w3 ⟨rfl, hb3⟩)
      | go_in)
    go_ret3
    exact ⟨hb3, _, _, rfl, Owns.nil _ _, World.ownsRow_nil _ _ _ _, Apart.none _ _ _⟩
end
end Go.Proofs.YtkmofpnefjgnkaaGreat
