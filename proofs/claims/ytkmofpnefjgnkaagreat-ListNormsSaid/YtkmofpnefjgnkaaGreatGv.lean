/-
  XGv: XLisSc.
-/
import Derived.Test.YtkmofpnefjgnkaaGreatGu
namespace Go.Proofs.YtkmofpnefjgnkaaGreat
open Go.RowKit
set_option linter.unusedVariables false
attribute [local go_sem] vwp vUpon_value vUpon_skip vUpon_enter vUpon_row
set_option linter.unusedSimpArgs false
set_option linter.unusedVariables false
section
set_option linter.unusedSimpArgs false
set_option linter.unusedVariables false
set_option maxHeartbeats 4000000 in
set_option maxRecDepth 100000 in
theorem knorm_any (xs : List St) (v : Value) (w : World) (hl : Row w.heap.size 15 St.enc w v xs) (k1 : ∀ s ∈ xs, s.Wf) : Calls Tryz.prog 19 #[v] w (OutU w.heap.size (normS xs) (chkL xs) w) := by
  obtain ⟨iM, hi0, hm0, hm1, hm2⟩ := info_parts infoSt
  have C1 := fun w' (hb : Below w.heap.size w w') => rcheck_any xs v w' ((hl.below hb).mono hb.size) k1
  have K1 := fun w' (hb : Below w.heap.size w w') hc => kshown_any xs v w' ((hl.below hb).mono hb.size) k1 hc
  obtain ⟨s0, cap, rfl, hmax⟩ := hl.shape
  have hopen := fun h0 => row_st hl h0
  obtain ⟨n, en⟩ : ∃ n, xs.length = n := ⟨_, rfl⟩
  clear hl
  by_cases c1 : chkL xs = 0
  · have l1 := chk_len c1
    have hz := fun s hs => chk_mem c1 s hs
    have hfS : normS xs = busyL (nrmGo xs (shL xs)) := if_pos c1
    have hRl := shL_len xs
    have hRm := shL_may c1
    have K1 := fun w' hb => K1 w' hb c1
    have hFull := fun k s q (hs : xs[k]? = some s) (hq : (shL xs)[k]? = some q) => shGo_full xs [] k s q hs hq
    obtain ⟨R, hR⟩ : ∃ R, shL xs = R := ⟨_, rfl⟩
    rw [hfS]
    rw [hR] at K1 hRl hRm hFull ⊢
    obtain ⟨N, hN⟩ : ∃ N, nrmGo xs R = N := ⟨_, rfl⟩
    have hNl := nrm_le xs R
    rw [hN] at hNl ⊢
    rw [c1] at C1 ⊢
    rw [en] at l1 hmax hopen C1 K1 hRl hNl ⊢
    replace C1 := Lib.hid C1
    replace K1 := Lib.hid K1
    replace hopen := Lib.hid hopen
    replace en := Lib.hid en
    replace hRl := Lib.hid hRl
    replace hRm := Lib.hid hRm
    replace hFull := Lib.hid hFull
    replace k1 := Lib.hid k1
    replace hz := Lib.hid hz
    replace hN := Lib.hid hN
    clear c1 hR hfS
    go_enter Tryz.func19, Tryz.ntmps19
    go_wp2_with (first
      | (go_at_call 12; (with_reducible refine (C1.out _ (by repeat (first | exact Below.refl _ _ | assumption | refine Below.drew ?_ | refine Below.alloc ?_ (by (try simp) <;> omega) _ | refine Below.setCell ?_ (by (try simp) <;> omega) _ | (refine Below.trans ?_ (Below.mono (by assumption) (by (try simp) <;> omega)))))).mono ?_); rintro e w3 ⟨rfl, hb3⟩; have z3 := hb3.size)
      | (go_at_call 24; (with_reducible refine (K1.out _ hb3).mono ?_); rintro e w2 ⟨v2, rfl, hown2, hb2⟩; obtain ⟨s2, cap2, rfl⟩ := own_slice hown2; rw [hRl.out])
      | go_in)
    have hb02 : Below w.heap.size w w2 := hb3.trans (hb2.mono z3)
    have z02 := hb02.size
    have hrow := hown2.row (Nat.le_refl w2.heap.size)
    have hopR := fun h0 => row_re hrow h0
    rw [hRl.out] at hopR
    replace hopR := Lib.hid hopR
    clear hrow hown2 hb2 hb3 z3
    go_loopg [6, 7] n (fun gg vo i wr => ∃ (k : Nat), k ≤ n ∧ n - k ≤ gg ∧ i = .int .i64 k ∧ NoRel w2 xs R N k vo wr)
    case atStart => exact ⟨0, Nat.zero_le _, by omega, rfl, [], World.ownsRow_nil _ _ _ _, by simpa using hN.out, by simp, Below.refl _ _⟩
    case round =>
      obtain ⟨k, hk, hgg, rfl, O, hown, hNO, hOk, hbr⟩ := hrel
      have zr := hbr.size
      by_cases hkn : k < n
      · obtain ⟨b, p, cap', e, hb, _, _, hel⟩ := hopen.out (by omega)
        simp at e
        obtain ⟨rfl, rfl⟩ := e
        obtain ⟨b2, p2, cap2', e, hb2, hn2, hm2', hel2⟩ := hopR.out (by omega)
        simp at e
        obtain ⟨rfl, rfl⟩ := e
        obtain ⟨s, hs⟩ := get_at en.out hkn
        obtain ⟨q, hq⟩ := get_at hRl.out hkn
        have hstep := nrm_step hs hq
        have hsw := k1.out s (List.mem_of_getElem? hs)
        have hes := hz.out s (List.mem_of_getElem? hs)
        have hsm := err_may hes
        have hqm := hRm.out q (List.mem_of_getElem? hq)
        have D := fun w => kdraws_any s w hsw.1
        have hPL := fun w => kplaces_any s q w hsw hsm hqm (err_kind hes hsw) (hFull.out k s q hs hq)
        have hple := plc_le s q
        have hpm := plc_may (s := s) hqm
        have hkk : (k : Int) < n := by omega
        have hO16 : O.length ≤ 16384 := by omega
        have h0r : Below w.heap.size w wr := hb02.trans (hbr.mono z02)
        have SM : SMem wr b (p + k * 15) s := SMem.below (hel k s hs) h0r hb
        have RQ : RMem wr b2 (p2 + k * 4) q := RMem.below (hel2 k q hq) hbr hb2
        obtain ⟨st0, cap0, rfl⟩ := own_slice hown
        rw [hstep] at hNO
        obtain ⟨HB, hHB⟩ : ∃ HB, hidB s q (xs.drop (k + 1)) (R.drop (k + 1)) = HB := ⟨_, rfl⟩
        rw [hHB] at hNO
        unfold hidB at hHB
        obtain ⟨P, hP⟩ : ∃ P, plcL s q = P := ⟨_, rfl⟩
        rw [hP] at hPL hple hpm hHB
        obtain ⟨pl, hpl⟩ : ∃ pl, P.length = pl := ⟨_, rfl⟩
        obtain ⟨pb, hpb⟩ : ∃ pb, ((pl : Int) == 0) = pb := ⟨_, rfl⟩
        rw [hpl] at hple hHB
        rw [show decide (pl = 0) = pb by rw [← hpb, Bool.eq_iff_iff]; simp] at hHB
        have hpw : ∀ m ∈ P, m.Wf := fun m hm => may_wf (hpm m hm)
        obtain ⟨d, hd⟩ : ∃ d, drB s = d := ⟨_, rfl⟩
        have D : ∀ w, Calls Tryz.prog 25 #[.agg #[.int .u8 (s).kind, .int .i64 (s).rect.x, .int .i64 (s).rect.y, .int .i64 (s).rect.wd, .int .i64 (s).rect.ht, .int .u8 (s).col.r, .int .u8 (s).col.g, .int .u8 (s).col.b, .int .u8 (s).col.a, .int .u8 (s).back.r, .int .u8 (s).back.g, .int .u8 (s).back.b, .int .u8 (s).back.a, .string (s).text, .int .i64 (s).node]] w fun e w' => e = .returned (.bool d) ∧ Below w.heap.size w w' := fun w => by have := D w; rw [show decide (s.kind ≤ 3) = d from hd] at this; exact this
        rw [hd] at hHB
        have yb : b < wr.heap.size := by omega
        have yb2 : b2 < wr.heap.size := by omega
        have SMh := Lib.hid SM
        obtain ⟨r0, r1, r2, r3⟩ := RQ
        obtain ⟨k0, k1', k2, k3, k4, k5, k6, k7, k8, k9, k10, k11, k12, k13, k14⟩ := SM
        replace hel := Lib.hid hel
        replace hel2 := Lib.hid hel2
        replace hown := Lib.hid hown
        replace hNO := Lib.hid hNO
        replace hHB := Lib.hid hHB
        replace hpl := Lib.hid hpl
        replace hpw := Lib.hid hpw
        replace hPL := Lib.hid hPL
        replace D := Lib.hid D
        replace hpb := Lib.hid hpb
        clear hs hq hstep hd hpm hP hes hsm hqm hsw
        obtain ⟨wo, hwo⟩ : ∃ wo : World, wo = wr := ⟨_, rfl⟩
        subst hwo
        go_upto_region 9 with fail
        refine wp_region_steady_then (Held wo 0 []) 8 (by kernel_rfl) (by kernel_rfl) (by decide) (by kernel_rfl) (by kernel_rfl) ⟨(by repeat (first | exact Below.refl _ _ | assumption | refine Below.drew ?_ | refine Below.alloc ?_ (by (try simp) <;> omega) _ | refine Below.setCell ?_ (by (try simp) <;> omega) _ | (refine Below.trans ?_ (Below.mono (by assumption) (by (try simp) <;> omega))))), (by (try simp) <;> omega), (by first | exact trivial | (simp only [Cells]; go_simp))⟩ ?_
        simp only [List.take_succ_cons, List.take_zero]
        repeat (first | (refine' wpSteady_do _ _ _; rotate_left; (focus rfl); (focus (intro w1 hS R hR; have hc := hS.cells; simp only [Cells] at hc; obtain ⟨hco, hfo⟩ := bcell hS.old; go_simp; (try go_bits); first | exact hR _ hS | fail)); simp only [Act.put, List.setIfInBounds_toArray, List.set_cons_zero, List.set_cons_succ]) | (refine wpSteady_pass ?_ ?_; (focus rfl); simp only [Act.put, List.setIfInBounds_toArray, List.set_cons_zero, List.set_cons_succ]))
        refine wpSteady_nil (fun uA hSA => ?_)
        have hcA := hSA.cells; have hbA := hSA.old; have hzA := hSA.size; clear hSA; simp only [Cells] at hcA; obtain ⟨hcoA, hfoA⟩ := bcell hbA
        simp only [List.drop_succ_cons, List.drop_zero, List.drop_nil]
        go_upto_region 10 with (first
          | (go_at_call 28; (with_reducible refine (hPL.out _).mono ?_); rintro e w5 ⟨pv, rfl, hownP, hb5⟩; obtain ⟨sp, cp, rfl⟩ := own_slice hownP; rw [hpl.out])
          | go_in)
        have hbo5 : Below wo.heap.size wo w5 := hbA.trans (hb5.mono hbA.size)
        have zo5 := hbo5.size
        have hrowP := hownP.row (Nat.le_refl w5.heap.size)
        rw [hpl.out] at hrowP
        replace hrowP := Lib.hid hrowP
        clear hcA hcoA hfoA hbA hzA hb5 hownP r0 r1 r2 r3 k0 k1' k2 k3 k4 k5 k6 k7 k8 k9 k10 k11 k12 k13 k14
        obtain ⟨k0, k1', k2, k3, k4, k5, k6, k7, k8, k9, k10, k11, k12, k13, k14⟩ := SMh.out.below hbo5 yb
        have yb5 : b < w5.heap.size := by omega
        cases d
        · rw [Bool.false_and] at hHB
          have hNO2 := hNO.out
          rw [← hHB.out] at hNO2
          replace hNO2 := Lib.hid hNO2
          clear hHB hNO
          go_upto_region 12 with (first
            | (go_at_call 25; (with_reducible refine (D.out _).mono ?_); rintro e w6 ⟨rfl, hb6⟩)
            | go_in)
          have hbo6 : Below wo.heap.size wo w6 := hbo5.trans (hb6.mono zo5)
          have zo6 := hbo6.size
          clear k0 k1' k2 k3 k4 k5 k6 k7 k8 k9 k10 k11 k12 k13 k14
          go_loopw [9, 10] (fun h i wr => h = .bool false ∧ i = .int .i64 (k + 1 : Nat) ∧ Below w6.heap.size w6 wr) (fun _ _ _ => 0)
          case atStart => exact ⟨rfl, by go_num, Below.refl _ _⟩
          case round =>
            obtain ⟨rfl, rfl, hbi⟩ := hrel
            have hboi : Below wo.heap.size wo wr := hbo6.trans (hbi.mono zo6)
            have zoi := hboi.size
            have ybi : b < wr.heap.size := by omega
            obtain ⟨k0, k1', k2, k3, k4, k5, k6, k7, k8, k9, k10, k11, k12, k13, k14⟩ := SMh.out.below hboi yb
            by_cases hk2 : k + 1 < n
            · have hki : ((k + 1 : Nat) : Int) < n := by omega
              go_upto_region 16 with (first
                | (go_at_call 25; (with_reducible refine (D.out _).mono ?_); rintro e w7 ⟨rfl, hb7⟩)
                | go_in)
              have hbo7 : Below wo.heap.size wo w7 := hboi.trans (hb7.mono zoi)
              have zo7 := hbo7.size
              have yb7 : b < w7.heap.size := by omega
              clear k0 k1' k2 k3 k4 k5 k6 k7 k8 k9 k10 k11 k12 k13 k14
              obtain ⟨k0, k1', k2, k3, k4, k5, k6, k7, k8, k9, k10, k11, k12, k13, k14⟩ := (SMh.out.below hbo7 yb)
              have hownX := (hown.out.below hbo7 (Nat.le_refl _))
              unfold Owns at hownX
              go_wp2_with (first
                | (at_builtin; refine wpList_append_new rfl _ _ _ rfl w2.heap.size 48 iM _ 15 72 Tryz.underlying22 hi0 hm0 hm1 hm2 rfl (by omega) w7 1 _ _ _ _ (by rfl) hownX (by rfl) rfl (by simp [Value.oneCell']) (by omega) (by unfold maxLen; omega) (by omega) ?_; intro v9 w9 hown9 hb9)
                | go_in)
              have hcs : [.int .u8 (s).kind, .int .i64 (s).rect.x, .int .i64 (s).rect.y, .int .i64 (s).rect.wd, .int .i64 (s).rect.ht, .int .u8 (s).col.r, .int .u8 (s).col.g, .int .u8 (s).col.b, .int .u8 (s).col.a, .int .u8 (s).back.r, .int .u8 (s).back.g, .int .u8 (s).back.b, .int .u8 (s).back.a, .string (s).text, .int .i64 (s).node] = s.enc := rfl
              rw [flat_snoc hcs] at hown9
              have hbX : Below w2.heap.size w2 w9 := ((hbr.trans (hbo7.mono zr))).trans hb9
              replace hown9 := Lib.hid hown9
              go_roundg (n - (k + 1))
              case measure => omega
              case rel =>
                refine ⟨k + 1, by omega, by omega, by go_num, O ++ [s], ?_, ?_, by simp; omega, hbX⟩
                · unfold Owns; rw [List.length_append]; exact hown9.out
                · have := hNO2.out; simpa using this
            · have hki : ¬ ((k + 1 : Nat) : Int) < n := by omega
              go_upto_region 16 with fail
              clear k0 k1' k2 k3 k4 k5 k6 k7 k8 k9 k10 k11 k12 k13 k14
              obtain ⟨k0, k1', k2, k3, k4, k5, k6, k7, k8, k9, k10, k11, k12, k13, k14⟩ := (SMh.out.below hboi yb)
              have hownX := (hown.out.below hboi (Nat.le_refl _))
              unfold Owns at hownX
              go_wp2_with (first
                | (at_builtin; refine wpList_append_new rfl _ _ _ rfl w2.heap.size 48 iM _ 15 72 Tryz.underlying22 hi0 hm0 hm1 hm2 rfl (by omega) wr 1 _ _ _ _ (by rfl) hownX (by rfl) rfl (by simp [Value.oneCell']) (by omega) (by unfold maxLen; omega) (by omega) ?_; intro v9 w9 hown9 hb9)
                | go_in)
              have hcs : [.int .u8 (s).kind, .int .i64 (s).rect.x, .int .i64 (s).rect.y, .int .i64 (s).rect.wd, .int .i64 (s).rect.ht, .int .u8 (s).col.r, .int .u8 (s).col.g, .int .u8 (s).col.b, .int .u8 (s).col.a, .int .u8 (s).back.r, .int .u8 (s).back.g, .int .u8 (s).back.b, .int .u8 (s).back.a, .string (s).text, .int .i64 (s).node] = s.enc := rfl
              rw [flat_snoc hcs] at hown9
              have hbX : Below w2.heap.size w2 w9 := ((hbr.trans (hboi.mono zr))).trans hb9
              replace hown9 := Lib.hid hown9
              go_roundg (n - (k + 1))
              case measure => omega
              case rel =>
                refine ⟨k + 1, by omega, by omega, by go_num, O ++ [s], ?_, ?_, by simp; omega, hbX⟩
                · unfold Owns; rw [List.length_append]; exact hown9.out
                · have := hNO2.out; simpa using this
        · rw [Bool.true_and] at hHB
          go_upto_region 12 with (first
            | (go_at_call 25; (with_reducible refine (D.out _).mono ?_); rintro e w6 ⟨rfl, hb6⟩)
            | go_in)
          have hbo6 : Below wo.heap.size wo w6 := hbo5.trans (hb6.mono zo5)
          have zo6 := hbo6.size
          have hrowP := Lib.hid ((hrowP.out.below hb6).mono hb6.size)
          clear k0 k1' k2 k3 k4 k5 k6 k7 k8 k9 k10 k11 k12 k13 k14
          go_loopw [9, 10] (fun h i wr => ∃ (kk : Nat) (hb : Bool), kk ≤ n ∧ k + 1 ≤ kk ∧ i = .int .i64 kk ∧ h = .bool hb ∧ Hid ((hb || anyCov P (xs.drop kk) (R.drop kk)) = HB) ∧ Below w6.heap.size w6 wr) (fun _ i _ => n - (intOf i).toNat)
          case atStart => exact ⟨k + 1, pb, by omega, Nat.le_refl _, by go_num, by first | rfl | rw [hpb.out], hHB, Below.refl _ _⟩
          case round =>
            obtain ⟨kk, hb, hkk1, hkk2, rfl, rfl, hcov, hbi⟩ := hrel
            have hboi : Below wo.heap.size wo wr := hbo6.trans (hbi.mono zo6)
            have zoi := hboi.size
            have zi := hbi.size
            have ybi : b < wr.heap.size := by omega
            clear hpb hHB
            obtain ⟨k0, k1', k2, k3, k4, k5, k6, k7, k8, k9, k10, k11, k12, k13, k14⟩ := SMh.out.below hboi yb
            cases hb
            · by_cases hkn2 : kk < n
              · obtain ⟨t, ht⟩ := get_at en.out hkn2
                obtain ⟨r, hr⟩ := get_at hRl.out hkn2
                have hcs := cov_step (P := P) ht hr
                have hcv := hcov.out
                rw [hcs, Bool.false_or] at hcv
                have hki : (kk : Int) < n := by omega
                have hrm := may_wf (hRm.out r (List.mem_of_getElem? hr))
                have ST := hel.out kk t ht
                have SR := hel2.out kk r hr
                go_upto_region 14 with (first
                  | (go_at_call 25; (with_reducible refine (D.out _).mono ?_); rintro e w7 ⟨rfl, hb7⟩)
                  | go_in)
                have hbo7 : Below wo.heap.size wo w7 := hboi.trans (hb7.mono zoi)
                have zo7 := hbo7.size
                have z7 := hb7.size
                have yb7 : b < w7.heap.size := by omega
                have yb27 : b2 < w7.heap.size := by omega
                have h27 : Below w2.heap.size w2 w7 := hbr.trans (hbo7.mono zr)
                have h07 : Below w.heap.size w w7 := hb02.trans (h27.mono z02)
                have hb67 : Below w6.heap.size w6 w7 := hbi.trans (hb7.mono zi)
                clear k0 k1' k2 k3 k4 k5 k6 k7 k8 k9 k10 k11 k12 k13 k14
                obtain ⟨r0, r1, r2, r3⟩ := RMem.below SR h27 hb2
                obtain ⟨g0, g1, g2, g3, g4, g5, g6, g7, g8, g9, g10, g11, g12, g13, g14⟩ := SMem.below ST h07 hb
                have W := kwth_any P r (.slice sp pl cp) w7 ((hrowP.out.below hb67).mono hb67.size) (by rw [hpl.out]; omega) hpw.out hrm
                clear hcs ht hr g1 g2 g3 g4 g5 g6 g7 g9 g10 g11 g12 g13 g14 ST SR hcov
                by_cases q1 : t.kind = 1
                · by_cases q2 : t.col.a = 255
                  · have e : covB P t r = wthB P r := by unfold covB; simp [q1, q2]
                    rw [e] at hcv
                    generalize wthB P r = rb at W hcv
                    rw [q1] at g0
                    rw [q2] at g8
                    replace W := Lib.hid W
                    replace hcv := Lib.hid hcv
                    clear e q1 q2
                    go_wp2_with (first
                      | (go_at_call 35; (with_reducible refine (W.out).mono ?_); rintro e w8 ⟨rfl, hb8⟩)
                      | go_in)
                    go_roundw
                    case rel => exact ⟨kk + 1, rb, by omega, by omega, by go_num, rfl, hcv, hb67.trans (hb8.mono hb67.size)⟩
                    case measure => simp [intOf]; omega
                  · have e : covB P t r = false := by unfold covB; simp [q2]
                    rw [e] at hcv
                    have q2b : (t.col.a == 255) = false := by simp [q2]
                    rw [q1] at g0
                    replace hcv := Lib.hid hcv
                    clear e q1 W
                    go_wp2
                    go_roundw
                    case rel => exact ⟨kk + 1, false, by omega, by omega, by go_num, rfl, hcv, hb67⟩
                    case measure => simp [intOf]; omega
                · have e : covB P t r = false := by unfold covB; simp [q1]
                  rw [e] at hcv
                  have q1b : (t.kind == 1) = false := by simp [q1]
                  replace hcv := Lib.hid hcv
                  clear e W
                  go_wp2
                  go_roundw
                  case rel => exact ⟨kk + 1, false, by omega, by omega, by go_num, rfl, hcv, hb67⟩
                  case measure => simp [intOf]; omega
              · have hend := cov_end (P := P) (xs := xs) (rs := R) (k := kk) (by have := en.out; omega)
                have hcv := hcov.out
                rw [hend, Bool.or_false] at hcv
                have hNO2 := hNO.out
                rw [← hcv] at hNO2
                replace hNO2 := Lib.hid hNO2
                have hki : ¬ (kk : Int) < n := by omega
                clear hcv hend hcov
                go_upto_region 16 with fail
                clear k0 k1' k2 k3 k4 k5 k6 k7 k8 k9 k10 k11 k12 k13 k14
                obtain ⟨k0, k1', k2, k3, k4, k5, k6, k7, k8, k9, k10, k11, k12, k13, k14⟩ := (SMh.out.below hboi yb)
                have hownX := (hown.out.below hboi (Nat.le_refl _))
                unfold Owns at hownX
                go_wp2_with (first
                  | (at_builtin; refine wpList_append_new rfl _ _ _ rfl w2.heap.size 48 iM _ 15 72 Tryz.underlying22 hi0 hm0 hm1 hm2 rfl (by omega) wr 1 _ _ _ _ (by rfl) hownX (by rfl) rfl (by simp [Value.oneCell']) (by omega) (by unfold maxLen; omega) (by omega) ?_; intro v9 w9 hown9 hb9)
                  | go_in)
                have hcs : [.int .u8 (s).kind, .int .i64 (s).rect.x, .int .i64 (s).rect.y, .int .i64 (s).rect.wd, .int .i64 (s).rect.ht, .int .u8 (s).col.r, .int .u8 (s).col.g, .int .u8 (s).col.b, .int .u8 (s).col.a, .int .u8 (s).back.r, .int .u8 (s).back.g, .int .u8 (s).back.b, .int .u8 (s).back.a, .string (s).text, .int .i64 (s).node] = s.enc := rfl
                rw [flat_snoc hcs] at hown9
                have hbX : Below w2.heap.size w2 w9 := ((hbr.trans (hboi.mono zr))).trans hb9
                replace hown9 := Lib.hid hown9
                go_roundg (n - (k + 1))
                case measure => omega
                case rel =>
                  refine ⟨k + 1, by omega, by omega, by go_num, O ++ [s], ?_, ?_, by simp; omega, hbX⟩
                  · unfold Owns; rw [List.length_append]; exact hown9.out
                  · have := hNO2.out; simpa using this
            · have hcv := hcov.out
              rw [Bool.true_or] at hcv
              have hNO2 := hNO.out
              rw [← hcv] at hNO2
              replace hNO2 := Lib.hid hNO2
              have ho9 := Lib.hid (hown.out.below hboi (Nat.le_refl _))
              have h2i : Below w2.heap.size w2 wr := hbr.trans (hboi.mono zr)
              clear hcv hcov
              by_cases hkn2 : kk < n
              · have hki : (kk : Int) < n := by omega
                go_wp2_with (first
                  | (go_at_call 25; (with_reducible refine (D.out _).mono ?_); rintro e w7 ⟨rfl, hb7⟩)
                  | go_in)
                go_roundg (n - (k + 1))
                case measure => omega
                case rel =>
                  refine ⟨k + 1, by omega, by omega, by go_num, O, ho9.out.below hb7 (Nat.le_refl _), ?_, by omega, h2i.trans (hb7.mono h2i.size)⟩
                  have := hNO2.out; simpa using this
              · have hki : ¬ (kk : Int) < n := by omega
                go_wp2
                go_roundg (n - (k + 1))
                case measure => omega
                case rel =>
                  refine ⟨k + 1, by omega, by omega, by go_num, O, ho9.out, ?_, by omega, h2i⟩
                  have := hNO2.out; simpa using this
      · obtain rfl : k = n := by omega
        obtain rfl : O = N := by
          have := hNO
          rw [List.drop_eq_nil_of_le (by have := en.out; omega)] at this
          simpa [nrmGo] using this
        have B := kbusy_any O _ wr (hown.row (Nat.le_refl _)) (by omega)
        obtain ⟨st0, cap0, rfl⟩ := own_slice hown
        replace B := Lib.hid B
        clear hNO hown
        go_wp2_with (first
          | (go_at_call 36; (with_reducible refine (B.out).mono ?_); rintro e w6 ⟨v6, rfl, hown6, hb6⟩)
          | go_in)
        replace hown6 := Lib.hid hown6
        go_ret2
        exact ⟨hb02.trans ((hbr.trans (hb6.mono zr)).mono z02), _, rfl, own_less hown6.out (by omega)⟩
  · have hfS : normS xs = [] := if_neg c1
    have hcb : (chkL xs == 0) = false := by simp [c1]
    have hcn : (chkL xs != 0) = true := by simp [c1]
    rw [hfS]
    rw [en] at C1 ⊢
    replace C1 := Lib.hid C1
    clear c1 K1
    go_enter Tryz.func19, Tryz.ntmps19
    go_wp2_with (first
      | (go_at_call 12; (with_reducible refine (C1.out _ (by repeat (first | exact Below.refl _ _ | assumption | refine Below.drew ?_ | refine Below.alloc ?_ (by (try simp) <;> omega) _ | refine Below.setCell ?_ (by (try simp) <;> omega) _ | (refine Below.trans ?_ (Below.mono (by assumption) (by (try simp) <;> omega)))))).mono ?_); rintro e w3 ⟨rfl, hb3⟩)
      | go_in)
    go_ret2
    exact ⟨hb3, _, rfl, Owns.nil _ _⟩
end
end Go.Proofs.YtkmofpnefjgnkaaGreat
