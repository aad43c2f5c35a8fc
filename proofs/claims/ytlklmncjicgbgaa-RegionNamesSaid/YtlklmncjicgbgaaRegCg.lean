/-
  The document's answer: Area, Same.
-/
import Derived.Test.YtlklmncjicgbgaaRegCf
namespace Go.Proofs.Ytlklmncjicgbgaa
open Go.RowKit
set_option linter.unusedVariables false
attribute [local go_sem] vwp vUpon_value vUpon_skip vUpon_enter vUpon_row
set_option linter.unusedSimpArgs false
set_option linter.unusedVariables false
theorem refA_step {now : Int → List Sp} {X : List Int} {i : Nat} {y z : Int} (h1 : X[i]? = some y) (h2 : X[i + 1]? = some z) : refArea now (X.drop i) = widS (now y) * (z - y) + refArea now (X.drop (i + 1)) := by
  rw [drop_get h1, drop_get h2]; rfl
theorem refA_end {now : Int → List Sp} {X : List Int} {i : Nat} (h : X.length ≤ i + 1) : refArea now (X.drop i) = 0 := by
  have : (X.drop i).length ≤ 1 := by rw [List.length_drop]; omega
  match hX : X.drop i, this with
  | [], _ => rfl
  | [_], _ => rfl
theorem refA_pos {now : Int → List Sp} (hc : ∀ y, CanS (now y)) : ∀ {X : List Int}, Rise X → 0 ≤ refArea now X
  | [], _ => Int.le_refl _
  | [_], _ => Int.le_refl _
  | y :: z :: r, h => by
    have h1 := refA_pos hc (X := z :: r) h.tail
    have h2 := widS_pos (fun s hs => (hc y).all_pos s hs)
    have h3 := h.above z (by simp)
    have h4 : 0 ≤ widS (now y) * (z - y) := Int.mul_nonneg h2 (by omega)
    show 0 ≤ widS (now y) * (z - y) + refArea now (z :: r)
    omega
theorem rise_drop {X : List Int} (h : Rise X) (i : Nat) : Rise (X.drop i) := by
  induction i generalizing X with
  | zero => simpa using h
  | succ k ih =>
    cases X with
    | nil => simpa using h
    | cons a r => exact ih h.tail
set_option maxHeartbeats 4000000 in
set_option maxRecDepth 100000 in
theorem karea_any (a : List Re) (va : Value) (w : World) (ha : Row w.heap.size 4 Re.enc w va a) (wa : WfL a) :
    Calls Try.prog 33 #[va] w fun e w' => e = .returned (.tuple #[.int .i64 (areaE a), .int .i64 (chkR a)]) ∧ Below w.heap.size w w' := by
  have AS := kasked_any a va w ha wa
  unfold areaE
  by_cases h0 : chkR a = 0
  · rw [if_pos h0]
    rw [h0] at AS ⊢
    obtain ⟨ma, la⟩ := chkR_may h0
    have E1 := fun W (h : Below w.heap.size w W) => kedges_any [] a (.slice none 0 0) va true 0 W.heap.size W (OwnsI.nil _ _) ((ha.below h).mono h.size) ma (Nat.le_refl _) (by simp) (by omega)
    obtain ⟨X, hX⟩ : ∃ X, a.foldl (edgF true 0) [] = X := ⟨_, rfl⟩
    have hXY : edgesY a [] = X := by rw [← hX, edgF_true]; rfl
    have hXl : X.length ≤ 400000 := by rw [← hXY]; have := edgesY_len a []; simp at this; omega
    have hXr : Rise X := by rw [← hXY]; exact edgesY_rise a []
    have hXin : ∀ x ∈ X, InM x := fun x hx => by rw [← hXY] at hx; exact edgesY_in ma mayL_nil x hx
    rw [hX] at E1
    obtain ⟨now, hnow⟩ : ∃ now, (fun y => spansP a [] 1 y) = now := ⟨_, rfl⟩
    have hnl : ∀ y, (now y).length ≤ 200000 := fun y => by rw [← hnow]; have := spans_len2 ma.sane sane_nil 1 y; simp only; simp at this; omega
    have hnin : ∀ y, ∀ s ∈ now y, InM s.1 ∧ InM s.2 := fun y => by rw [← hnow]; exact spans_in ma mayL_nil 1 y
    have hnc : ∀ y, CanS (now y) := fun y => by rw [← hnow]; exact spans_can ma.sane sane_nil 1 y
    obtain ⟨T, hT⟩ : ∃ T, areaM (formR a [] 1) = T := ⟨_, rfl⟩
    have hTle : T ≤ 1073741824 := by rw [← hT]; exact area_le ma mayL_nil 1
    have hgo : refArea now (X.drop 0) = T := by rw [List.drop_zero, ← hT, ← hnow, ← hXY]; exact (form_area _ _).symm
    have SP := fun y W (h : Below w.heap.size w W) => kspans_any a [] va (.slice none 0 0) 1 y W ((ha.below h).mono h.size) (nilRow _ _) ma mayL_nil (by omega) (by simp) (.inl rfl)
    have SP' : ∀ y W, Below w.heap.size w W → Calls Try.prog 49 #[va, .slice none 0 0, .int .i64 1, .int .i64 y] W (SpansPost (now y) W) := by rw [← hnow]; exact SP
    rw [hT]
    obtain ⟨s1, c1, rfl, hmax1⟩ := ha.shape
    replace AS := Lib.hid AS
    replace E1 := Lib.hid E1
    replace SP := Lib.hid SP'
    have hst : Hid ((0 : Int) + refArea now (X.drop 0) = T) := Lib.hid (by omega)
    replace hXin := Lib.hid hXin
    replace hXr := Lib.hid hXr
    replace hnl := Lib.hid hnl
    replace hnin := Lib.hid hnin
    replace hnc := Lib.hid hnc
    clear ha hX hXY hT hnow SP' hgo h0
    go_enter Try.func33, Try.ntmps33
    go_wp2_with (first
      | (go_at_call 62; (with_reducible refine (AS.out).mono ?_); rintro e w1 ⟨rfl, hb1⟩)
      | (go_at_call 48; (with_reducible refine (E1.out _ hb1).mono ?_); rintro e w4 ⟨gr4, v4, rfl, ow4, _⟩; have hb04 : Below w.heap.size w w4 := hb1.trans (grown_below gr4 hb1.size (fun g h => by cases h)))
      | go_in)
    clear hb1 gr4 E1 AS
    obtain ⟨s4, c4, rfl⟩ := own_slice ow4
    have hX4 := fun h0 => row_in (ow4.row (Nat.le_refl _)) h0
    have z04 := hb04.size
    obtain ⟨N, hN⟩ : ∃ N, X.length = N := ⟨_, rfl⟩
    rw [hN] at hX4 hXl ⊢
    replace hX4 := Lib.hid hX4
    replace hN := Lib.hid hN
    clear ow4
    go_loopw [6, 7] (fun nv iv wr => ∃ (i : Nat) (A : Int), i ≤ N ∧ iv = .int .i64 i ∧ nv = .int .i64 A ∧ 0 ≤ A ∧ Hid (A + refArea now (X.drop i) = T) ∧ Below w4.heap.size w4 wr) (fun _ iv _ => N - (intOf iv).toNat)
    case atStart => exact ⟨0, 0, Nat.zero_le _, rfl, rfl, Int.le_refl _, hst, Below.refl _ _⟩
    case round =>
      clear hst
      obtain ⟨i, A, hi, rfl, rfl, hA, hgo, hb4r⟩ := hrel
      obtain ⟨wo, rfl⟩ : ∃ wo : World, wo = wr := ⟨_, rfl⟩
      have hbr := hb04.trans (hb4r.mono z04)
      have zr := hbr.size
      have z4r := hb4r.size
      by_cases hiN : i + 1 < N
      · obtain ⟨bb, o, cap', e, yb, _, _, hel⟩ := hX4.out (by omega)
        simp at e
        obtain ⟨rfl, rfl⟩ := e
        obtain ⟨y, hy⟩ := get_at hN.out (show i < N by omega)
        obtain ⟨z, hz⟩ := get_at hN.out hiN
        have g0 := hel i y hy
        have g1 := hel (i + 1) z hz
        obtain ⟨hcr, hfr⟩ := bcell hb4r
        obtain ⟨y0, y1⟩ := hXin.out y (List.mem_of_getElem? hy)
        obtain ⟨z0, z1⟩ := hXin.out z (List.mem_of_getElem? hz)
        have hyz := rise_le hXr.out hy hz
        have hgo := hgo.out
        rw [refA_step hy hz] at hgo
        have hrp := refA_pos hnc.out (rise_drop hXr.out (i + 1))
        have SP := SP.out y wo hbr
        have hnl := hnl.out y
        have hnin := hnin.out y
        have hcan := hnc.out y
        obtain ⟨nw, hnw⟩ : ∃ nw, now y = nw := ⟨_, rfl⟩
        rw [hnw] at SP hgo hnl hnin hcan
        have hp := hcan.all_pos
        obtain ⟨h, hh⟩ : ∃ h, z - y = h := ⟨_, rfl⟩
        rw [hh] at hgo
        have hh0 : 0 ≤ h := by omega
        have hh1 : h ≤ 32768 := by omega
        have hmono : ∀ k, widS (nw.take k) * h ≤ widS nw * h := fun k => by
          have e := widS_split nw k
          have h2 := widS_pos (l := nw.drop k) (fun s hs => hp s (List.mem_of_mem_drop hs))
          exact Int.mul_le_mul_of_nonneg_right (by omega) (by omega)
        have hnon : ∀ k, 0 ≤ widS (nw.take k) * h := fun k => Int.mul_nonneg (widS_pos (fun s hs => hp s (List.mem_of_mem_take hs))) (by omega)
        have hpart : ∀ k, A + widS (nw.take k) * h ≤ 1073741824 := fun k => by have := hmono k; omega
        have hii : (i : Int) < N := by omega
        have hii2 : (i : Int) + 1 < N := by omega
        have ybr : bb < wo.heap.size := by omega
        clear hel hy hz hnw hmono hcan hrp
        obtain ⟨NL, hNL⟩ : ∃ NL, (endsS nw).length = NL := ⟨_, rfl⟩
        obtain ⟨J, hJ⟩ : ∃ J, nw.length = J := ⟨_, rfl⟩
        have hNJ : NL = 2 * J := by rw [← hNL, endsS_len, hJ]; omega
        have hNLb : NL ≤ 400000 := by omega
        replace SP := Lib.hid SP
        replace hp := Lib.hid hp
        replace hnin := Lib.hid hnin
        replace hnon := Lib.hid hnon
        replace hpart := Lib.hid hpart
        replace hJ := Lib.hid hJ
        replace hNJ := Lib.hid hNJ
        replace hgo := Lib.hid hgo
        go_wp2_with (first | (go_at_call 49; (with_reducible refine (SP.out).mono ?_); rintro e w5 ⟨hb5, v5, rfl, ow5⟩; obtain ⟨s5, c5, rfl⟩ := own_slice ow5; rw [hNL] at ow5; rw [hNL]; have ow5 := Lib.hid ow5) | go_in)
        have hst5 : Hid (A = A + widS (nw.take 0) * h) := Lib.hid (by simp [widS, sumI])
        go_loopw [6, 9] (fun nv kv wq => ∃ (j m : Nat) (Q : Int), j ≤ J ∧ Hid (m = 2 * j) ∧ kv = .int .i64 m ∧ nv = .int .i64 Q ∧ 0 ≤ Q ∧ Hid (Q = A + widS (nw.take j) * h) ∧ Below w5.heap.size w5 wq) (fun _ kv _ => NL - (intOf kv).toNat)
        case atStart => exact ⟨0, 0, A, Nat.zero_le _, Lib.hid rfl, rfl, rfl, hA, hst5, Below.refl _ _⟩
        case round =>
          clear hst5
          obtain ⟨j, m, Q, hj, hm, rfl, rfl, hQ0, hQ, hb5r⟩ := hrel
          have hb4q : Below w4.heap.size w4 wr := (hb4r.trans (hb5.mono z4r)).trans (hb5r.mono (by have := hb5.size; omega))
          have z5 := hb5r.size
          have z45 := hb5.size
          obtain ⟨hcq, hfq⟩ := bcell hb4q
          by_cases hjJ : j < J
          · obtain ⟨s, hs⟩ := get_at hJ.out hjJ
            have e1 := endsS_fst hs
            have e2 := endsS_last hs
            rw [← hm.out] at e1 e2
            have hnow' := ow5.out
            have hnowr := OwnsI.below hnow' hb5r (Nat.le_refl _)
            unfold OwnsI at hnow'
            rw [hNL] at hnow'
            obtain ⟨gn, rfl, hg1, hg2⟩ := own_addr hnow' (by have := hNJ.out; omega)
            have n0 := own_int hnowr e1
            have n1 := own_int hnowr e2
            obtain ⟨⟨p0, p1⟩, ⟨p2, p3⟩⟩ := hnin.out s (List.mem_of_getElem? hs)
            have hps := hp.out s (List.mem_of_getElem? hs)
            have hws := widS_snoc hs
            have m1 := hpart.out (j + 1)
            have m2 := hnon.out j
            have hQe := hQ.out
            obtain ⟨sa, sb⟩ := s
            simp only at n0 n1 p0 p1 p2 p3 hps hws
            have hws' : widS (nw.take (j + 1)) * h = widS (nw.take j) * h + (sb - sa) * h := by rw [hws, Int.add_mul]
            rw [hws'] at m1
            have m4 : 0 ≤ (sb - sa) * h := Int.mul_nonneg (by omega) (by omega)
            have m6 : Q + (sb - sa) * h ≤ 1073741824 := by omega
            have m5 : (sb - sa) * h ≤ 1073741824 := by omega
            have hQn : Hid (Q + (sb - sa) * h = A + widS (nw.take (j + 1)) * h) := Lib.hid (by rw [hws', hQe, Int.add_assoc])
            have hmN : (m : Int) < NL := by have := hNJ.out; have := hm.out; omega
            have hmN2 : (m : Int) + 1 < NL := by have := hNJ.out; have := hm.out; omega
            have ybq : bb < wr.heap.size := by omega
            have ygq : gn < wr.heap.size := by omega
            clear hnow' hnowr e1 e2 hs hws hws' m1 m2 hQe hcr hfr
            go_wp2
            refine wp_region_steady (Held wr 0 []) (by kernel_rfl) (by kernel_rfl) ⟨(by repeat (first | exact Below.refl _ _ | assumption | refine Below.drew ?_ | refine Below.alloc ?_ (by (try simp) <;> omega) _ | refine Below.setCell ?_ (by (try simp) <;> omega) _ | (refine Below.trans ?_ (Below.mono (by assumption) (by (try simp) <;> omega))))), (by (try simp) <;> omega), (by first | exact trivial | (simp only [Cells]; go_simp))⟩ ?_
            repeat (first | (refine' wpSteady_do _ _ _; rotate_left; (focus rfl); (focus (intro w1 hS R hR; have hc := hS.cells; simp only [Cells] at hc; obtain ⟨hco, hfo⟩ := bcell hS.old; go_simp; (try go_bits); first | exact hR _ hS | fail)); simp only [Act.put, List.setIfInBounds_toArray, List.set_cons_zero, List.set_cons_succ]) | (refine wpSteady_pass ?_ ?_; (focus rfl); simp only [Act.put, List.setIfInBounds_toArray, List.set_cons_zero, List.set_cons_succ]))
            refine wpSteady_nil (fun uA hSA => ?_)
            have hcA := hSA.cells; have hbA := hSA.old; have hzA := hSA.size; clear hSA; simp only [Cells] at hcA; obtain ⟨hcoA, hfoA⟩ := bcell hbA
            go_wp2
            go_roundw
            case rel => exact ⟨j + 1, m + 2, _, by omega, Lib.hid (by have := hm.out; omega), by go_num, rfl, by omega, hQn, hb5r.trans (hbA.mono z5)⟩
            case measure => simp [intOf]; omega
          · obtain rfl : j = J := by omega
            have hmN : ¬ (m : Int) < NL := by have := hNJ.out; have := hm.out; omega
            have hQe := hQ.out
            rw [List.take_of_length_le (by have := hJ.out; omega)] at hQe
            have hgo' : Hid (Q + refArea now (X.drop (i + 1)) = T) := Lib.hid (by have := hgo.out; omega)
            replace hQe := Lib.hid hQe
            go_wp2
            go_roundw
            case rel => exact ⟨i + 1, Q, by omega, by go_num, rfl, hQ0, hgo', hb4q⟩
            case measure => simp [intOf]; omega
      · have hgo := hgo.out
        rw [refA_end (by have := hN.out; omega), Int.add_zero] at hgo
        subst hgo
        have hii2 : ¬ (i : Int) + 1 < N := by omega
        go_wp2
        go_ret2
        exact ⟨rfl, hbr⟩
  · rw [if_neg h0]
    have h0' : (chkR a == 0) = false := by simp [h0]
    have h0n : (chkR a != 0) = true := by simp [h0]
    generalize chkR a = E at *
    replace AS := Lib.hid AS
    clear ha
    go_enter Try.func33, Try.ntmps33
    go_wp2_with (first
      | (go_at_call 62; (with_reducible refine (AS.out).mono ?_); rintro e w1 ⟨rfl, hb1⟩)
      | go_in)
    go_ret2
    exact ⟨rfl, hb1⟩
theorem dropLast_step {X : List Int} {i : Nat} {y z : Int} (p : Int → Bool) (h1 : X[i]? = some y) (h2 : X[i + 1]? = some z) : (X.drop i).dropLast.all p = (p y && (X.drop (i + 1)).dropLast.all p) := by
  rw [drop_get h1, drop_get h2, List.dropLast_cons_cons, List.all_cons]
theorem dropLast_end {X : List Int} {i : Nat} (p : Int → Bool) (h : X.length ≤ i + 1) : (X.drop i).dropLast.all p = true := by
  have : (X.drop i).length ≤ 1 := by rw [List.length_drop]; omega
  match hX : X.drop i, this with
  | [], _ => rfl
  | [_], _ => rfl
set_option maxHeartbeats 4000000 in
set_option maxRecDepth 100000 in
theorem ksame_any (a b : List Re) (va vb : Value) (w : World) (ha : Row w.heap.size 4 Re.enc w va a) (hb : Row w.heap.size 4 Re.enc w vb b) (wa : WfL a) (wb : WfL b) :
    Calls Try.prog 18 #[va, vb] w fun e w' => e = .returned (.tuple #[.bool (samE a b), .int .i64 (askR a b)]) ∧ Below w.heap.size w w' := by
  have TW := ktwo_any a b va vb w ha hb wa wb
  unfold samE
  by_cases h0 : askR a b = 0
  · rw [if_pos h0]
    rw [h0] at TW ⊢
    have hca : chkR a = 0 := by unfold askR at h0; by_cases h : chkR a = 0; exact h; rw [if_neg h] at h0; exact h0
    have hcb : chkR b = 0 := by unfold askR at h0; rw [if_pos hca] at h0; exact h0
    obtain ⟨ma, la⟩ := chkR_may hca
    obtain ⟨mb, lb⟩ := chkR_may hcb
    have E1 := fun W (h : Below w.heap.size w W) => kedges_any [] a (.slice none 0 0) va true 0 W.heap.size W (OwnsI.nil _ _) ((ha.below h).mono h.size) ma (Nat.le_refl _) (by simp) (by omega)
    obtain ⟨X1, hX1⟩ : ∃ X, a.foldl (edgF true 0) [] = X := ⟨_, rfl⟩
    have E2 := fun B w1 v1 (h : OwnsI B w1 v1 X1) (hB : w.heap.size ≤ B) (hB2 : B ≤ w1.heap.size) (h2 : Below w.heap.size w w1) => kedges_any X1 b v1 vb true 0 B w1 h ((hb.below h2).mono hB) mb hB2 (by have := edgF_fold true 0 a []; rw [hX1] at this; simp at this; omega) (by omega)
    obtain ⟨X, hX⟩ : ∃ X, edgesY a b = X := ⟨_, rfl⟩
    have hXe : b.foldl (edgF true 0) X1 = X := by rw [← hX, ← hX1, edgF_true]; rfl
    have hXl : X.length ≤ 400000 := by rw [← hX]; have := edgesY_len a b; omega
    rw [hX1] at E1
    rw [hXe] at E2
    obtain ⟨R, hR⟩ : ∃ R, sameR a b = R := ⟨_, rfl⟩
    obtain ⟨p, hp⟩ : ∃ p : Int → Bool, (fun y => decide (spansP a [] 1 y = spansP b [] 1 y)) = p := ⟨_, rfl⟩
    have hgo : (X.drop 0).dropLast.all p = R := by rw [List.drop_zero, ← hR, same_dropLast (sane_append ma.sane mb.sane), ← hX, ← hp]
    have hpy : ∀ y, p y = decide (spansP a [] 1 y = spansP b [] 1 y) := fun y => by rw [← hp]
    have SA := fun y W (h : Below w.heap.size w W) => kspans_any a [] va (.slice none 0 0) 1 y W ((ha.below h).mono h.size) (nilRow _ _) ma mayL_nil (by omega) (by simp) (.inl rfl)
    have SB := fun y W (h : Below w.heap.size w W) => kspans_any b [] vb (.slice none 0 0) 1 y W ((hb.below h).mono h.size) (nilRow _ _) mb mayL_nil (by omega) (by simp) (.inl rfl)
    have hSA : ∀ y, (spansP a [] 1 y).length ≤ 200000 := fun y => by have := spans_len2 ma.sane sane_nil 1 y; simp at this; omega
    have hSB : ∀ y, (spansP b [] 1 y).length ≤ 200000 := fun y => by have := spans_len2 mb.sane sane_nil 1 y; simp at this; omega
    rw [hR]
    obtain ⟨s1, c1, rfl, hmax1⟩ := ha.shape
    obtain ⟨s2, c2, rfl, hmax2⟩ := hb.shape
    replace TW := Lib.hid TW
    replace E1 := Lib.hid E1
    replace E2 := Lib.hid E2
    replace SA := Lib.hid SA
    replace SB := Lib.hid SB
    replace hSA := Lib.hid hSA
    replace hSB := Lib.hid hSB
    replace hpy := Lib.hid hpy
    replace hgo := Lib.hid hgo
    clear ha hb hX1 hX hXe hR hp h0 hca hcb
    go_enter Try.func18, Try.ntmps18
    go_wp2_with (first
      | (go_at_call 47; (with_reducible refine (TW.out).mono ?_); rintro e w1 ⟨rfl, hb1⟩)
      | (go_at_call 48; (with_reducible refine (E1.out _ hb1).mono ?_); rintro e w2 ⟨gr2, v2, rfl, ow2, _⟩; have hb02 : Below w.heap.size w w2 := hb1.trans (grown_below gr2 hb1.size (fun g h => by cases h)); have zz2 := gr2.size; have ow2 := Lib.hid ow2)
      | (go_at_call 48; (with_reducible refine (E2.out _ _ _ ow2.out hb1.size zz2 hb02).mono ?_); rintro e w4 ⟨gr4, v4, rfl, ow4, _⟩; have hb04 : Below w.heap.size w w4 := hb02.trans (grown_below gr4 hb02.size (fun g h => Nat.le_trans hb1.size (own_block_lt ow2.out g h).1)))
      | go_in)
    clear hb1 gr2 gr4 hb02 ow2 zz2 E1 E2 TW
    obtain ⟨s4, c4, rfl⟩ := own_slice ow4
    have hX4 := fun h0 => row_in (ow4.row (Nat.le_refl _)) h0
    have z04 := hb04.size
    obtain ⟨N, hN⟩ : ∃ N, X.length = N := ⟨_, rfl⟩
    rw [hN] at hX4 hXl ⊢
    replace hX4 := Lib.hid hX4
    replace hN := Lib.hid hN
    clear ow4
    go_loopw [8] (fun iv wr => ∃ (i : Nat), i ≤ N ∧ iv = .int .i64 i ∧ Hid ((X.drop i).dropLast.all p = R) ∧ Below w4.heap.size w4 wr) (fun iv _ => N - (intOf iv).toNat)
    case atStart => exact ⟨0, Nat.zero_le _, rfl, hgo, Below.refl _ _⟩
    case round =>
      clear hgo
      obtain ⟨i, hi, rfl, hgo, hb4r⟩ := hrel
      have hbr := hb04.trans (hb4r.mono z04)
      have zr := hbr.size
      have z4r := hb4r.size
      by_cases hiN : i + 1 < N
      · obtain ⟨bb, o, cap', e, yb, _, _, hel⟩ := hX4.out (by omega)
        simp at e
        obtain ⟨rfl, rfl⟩ := e
        obtain ⟨y, hy⟩ := get_at hN.out (show i < N by omega)
        obtain ⟨z, hz⟩ := get_at hN.out hiN
        have g0 := hel i y hy
        obtain ⟨hcr, hfr⟩ := bcell hb4r
        have hgo := hgo.out
        rw [dropLast_step p hy hz, hpy.out] at hgo
        have SA := SA.out y wr hbr
        have SB := fun W (h : Below wr.heap.size wr W) => SB.out y W (hbr.trans (h.mono zr))
        have hSA := hSA.out y
        have hSB := hSB.out y
        obtain ⟨sa, hsa⟩ : ∃ nw, spansP a [] 1 y = nw := ⟨_, rfl⟩
        obtain ⟨sb, hsb⟩ : ∃ nw, spansP b [] 1 y = nw := ⟨_, rfl⟩
        rw [hsa] at SA hgo hSA
        simp only [hsb] at SB
        rw [hsb] at hgo hSB
        have AK : ∀ w5 v5 v6 B C, OwnsI B w5 v5 (endsS sa) → OwnsI C w5 v6 (endsS sb) → Calls Try.prog 50 #[v5, v6] w5 fun e w' => e = .returned (.bool (decide (sa = sb))) ∧ Below w5.heap.size w5 w' := fun w5 v5 v6 B C h1 h2 => by
          have := alike_any (endsS sa) (endsS sb) v5 v6 w5 (h1.row (Nat.le_refl _)) (h2.row (Nat.le_refl _)) (by rw [endsS_len]; omega) (by rw [endsS_len]; omega)
          rw [alike_ends] at this
          exact this
        have hii : (i : Int) < N := by omega
        have hii2 : (i : Int) + 1 < N := by omega
        have ybr : bb < wr.heap.size := by omega
        clear hel hy hz hsa hsb
        generalize decide (sa = sb) = t at AK hgo
        replace SA := Lib.hid SA
        replace SB := Lib.hid SB
        replace AK := Lib.hid AK
        have R1 := hgo
        cases t
        · have hgo : false = R := by simpa using hgo
          subst hgo
          clear R1
          go_wp2_with (first
            | (go_at_call 49; (with_reducible refine (SA.out).mono ?_); rintro e w5 ⟨hb5, v5, rfl, ow5⟩; have ow5 := Lib.hid ow5; obtain ⟨hc5, hf5⟩ := bcell hb5)
            | (go_at_call 49; (with_reducible refine (SB.out _ hb5).mono ?_); rintro e w6 ⟨hb6, v6, rfl, ow6⟩; have ow56 := Lib.hid (OwnsI.below ow5.out hb6 (Nat.le_refl _)); have ow6 := Lib.hid ow6)
            | (go_at_call 50; (with_reducible refine (AK.out _ _ _ _ _ ow56.out ow6.out).mono ?_); rintro e w7 ⟨rfl, hb7⟩)
            | go_in)
          go_ret2
          exact ⟨rfl, ((hbr.trans (hb5.mono zr)).trans (hb6.mono (by have := hb5.size; omega))).trans (hb7.mono (by have := hb5.size; have := hb6.size; omega))⟩
        · have hgo : (X.drop (i + 1)).dropLast.all p = R := by simpa using hgo
          replace hgo := Lib.hid hgo
          clear R1
          go_wp2_with (first
            | (go_at_call 49; (with_reducible refine (SA.out).mono ?_); rintro e w5 ⟨hb5, v5, rfl, ow5⟩; have ow5 := Lib.hid ow5; obtain ⟨hc5, hf5⟩ := bcell hb5)
            | (go_at_call 49; (with_reducible refine (SB.out _ hb5).mono ?_); rintro e w6 ⟨hb6, v6, rfl, ow6⟩; have ow56 := Lib.hid (OwnsI.below ow5.out hb6 (Nat.le_refl _)); have ow6 := Lib.hid ow6)
            | (go_at_call 50; (with_reducible refine (AK.out _ _ _ _ _ ow56.out ow6.out).mono ?_); rintro e w7 ⟨rfl, hb7⟩)
            | go_in)
          go_roundw
          case rel => exact ⟨i + 1, by omega, by go_num, hgo, ((hb4r.trans (hb5.mono z4r)).trans (hb6.mono (by have := hb5.size; omega))).trans (hb7.mono (by have := hb5.size; have := hb6.size; omega))⟩
          case measure => simp [intOf]; omega
      · have hgo := hgo.out
        rw [dropLast_end p (by have := hN.out; omega)] at hgo
        subst hgo
        have hii2 : ¬ (i : Int) + 1 < N := by omega
        go_wp2
        go_ret2
        exact ⟨rfl, hbr⟩
  · rw [if_neg h0]
    have h0' : (askR a b == 0) = false := by simp [h0]
    have h0n : (askR a b != 0) = true := by simp [h0]
    generalize askR a b = E at *
    replace TW := Lib.hid TW
    clear ha hb
    go_enter Try.func18, Try.ntmps18
    go_wp2_with (first
      | (go_at_call 47; (with_reducible refine (TW.out).mono ?_); rintro e w1 ⟨rfl, hb1⟩)
      | go_in)
    go_ret2
    exact ⟨rfl, hb1⟩
end Go.Proofs.Ytlklmncjicgbgaa
