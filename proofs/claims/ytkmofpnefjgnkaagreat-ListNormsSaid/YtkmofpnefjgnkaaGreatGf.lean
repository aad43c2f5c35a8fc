/-
  XGf: XRegCe XRegCf.
-/
import Derived.Test.YtkmofpnefjgnkaaGreatGe
namespace Go.Proofs.YtkmofpnefjgnkaaGreat
open Go.RowKit
set_option linter.unusedVariables false
attribute [local go_sem] vwp vUpon_value vUpon_skip vUpon_enter vUpon_row
set_option linter.unusedSimpArgs false
set_option linter.unusedVariables false
section
set_option linter.unusedSimpArgs false
set_option linter.unusedVariables false
def HtB (out : List Re) (c : Int) : Prop := ∀ q ∈ out, 0 ≤ q.ht ∧ q.ht ≤ c + 16384
theorem endsS_inj : ∀ {l m : List Sp}, endsS l = endsS m → l = m
  | [], [], _ => rfl
  | [], t :: m, h => by simp [endsS] at h
  | s :: l, [], h => by simp [endsS] at h
  | s :: l, t :: m, h => by
    rw [show endsS (s :: l) = s.1 :: s.2 :: endsS l from rfl, show endsS (t :: m) = t.1 :: t.2 :: endsS m from rfl] at h
    injection h with h1 h
    injection h with h2 h
    rw [endsS_inj h, Prod.ext h1 h2]
theorem alike_ends (l m : List Sp) : eqIs (endsS l) (endsS m) = decide (l = m) := by
  rw [Bool.eq_iff_iff, eqIs_iff, decide_eq_true_eq]
  exact ⟨endsS_inj, fun h => by rw [h]⟩
theorem growL_zero (out : List Re) (d : Int) : growL out 0 d = out := by unfold growL; simp
theorem growL_at {out : List Re} {k m : Nat} {d : Int} (hn : out.length = k + m + 1) : (growL out k d)[m]? = out[m]? := by
  unfold growL
  rw [List.getElem?_append_left (by rw [List.length_take]; omega), List.getElem?_take_of_lt (by omega)]
theorem growL_step {out : List Re} {k m : Nat} {d : Int} {q : Re} (hn : out.length = k + m + 1) (hq : out[m]? = some q) : growL out (k + 1) d = (growL out k d).set m ⟨q.x, q.y, q.wd, q.ht + d⟩ := by
  unfold growL
  rw [show out.length - (k + 1) = m by omega, show out.length - k = m + 1 by omega, List.set_append_left _ _ (by rw [List.length_take]; omega)]
  rw [drop_get hq, List.map_cons]
  have : out.take (m + 1) = out.take m ++ [q] := by rw [List.take_add_one, hq]; rfl
  rw [this, List.set_append_right _ _ (by rw [List.length_take]; omega)]
  have : m - (out.take m).length = 0 := by rw [List.length_take]; omega
  rw [this]
  simp
theorem growL_bd {out : List Re} {k : Nat} {y z : Int} (h : HtB out y) (hyz : y ≤ z) : HtB (growL out k (z - y)) z := by
  intro q hq
  unfold growL at hq
  rcases List.mem_append.1 hq with hq | hq
  · have := h q (List.mem_of_mem_take hq)
    omega
  · obtain ⟨p, hp, rfl⟩ := List.mem_map.1 hq
    have := h p (List.mem_of_mem_drop hp)
    simp only
    omega
theorem rects_bd {out : List Re} {l : List Sp} {y z : Int} (h : HtB out y) (hyz : y ≤ z) (hy : InM y) : HtB (out ++ rectsOf y (z - y) l) z := by
  intro q hq
  rcases List.mem_append.1 hq with hq | hq
  · have := h q hq
    omega
  · obtain ⟨p, hp, rfl⟩ := List.mem_map.1 hq
    unfold InM at hy
    simp only
    omega
theorem ref_step {now : Int → List Sp} {out : List Re} {last : List Sp} {X : List Int} {i : Nat} {y z : Int} (h1 : X[i]? = some y) (h2 : X[i + 1]? = some z) :
    refGo now out last (X.drop i) = if now y = last then refGo now (growL out last.length (z - y)) last (X.drop (i + 1)) else refGo now (out ++ rectsOf y (z - y) (now y)) (now y) (X.drop (i + 1)) := by
  rw [drop_get h1, drop_get h2]
  rfl
theorem ref_end {now : Int → List Sp} {out : List Re} {last : List Sp} {X : List Int} {i : Nat} (h : X.length ≤ i + 1) : refGo now out last (X.drop i) = out := by
  have : (X.drop i).length ≤ 1 := by rw [List.length_drop]; omega
  match hX : X.drop i, this with
  | [], _ => rfl
  | [_], _ => rfl
theorem rise_le {X : List Int} (h : Rise X) {i : Nat} {y z : Int} (h1 : X[i]? = some y) (h2 : X[i + 1]? = some z) : y ≤ z := by
  have hd := drop_get h1
  rw [drop_get h2] at hd
  have : ∀ (l : List Int) (k : Nat), Rise l → Rise (l.drop k) := by
    intro l k
    induction k generalizing l with
    | zero => intro h; simpa using h
    | succ k ih =>
      intro h
      cases l with
      | nil => simpa using h
      | cons a r => exact ih r h.tail
  have hr := this X i h
  rw [hd] at hr
  exact Int.le_of_lt (hr.above z (by simp))
theorem endsS_fst : ∀ {M : List Sp} {p : Nat} {t : Sp}, M[p]? = some t → (endsS M)[2 * p]? = some t.1
  | [], p, t, h => by simp at h
  | s :: M, 0, t, h => by simp at h; subst h; rfl
  | s :: M, p + 1, t, h => by
    have := endsS_fst (M := M) (p := p) (t := t) (by simpa using h)
    rw [show endsS (s :: M) = s.1 :: s.2 :: endsS M from rfl, show 2 * (p + 1) = (2 * p) + 1 + 1 by omega, List.getElem?_cons_succ, List.getElem?_cons_succ]
    exact this
theorem grown_set {w w' : World} {r : Option Nat} {g : Nat} (h : w.grownBy w' r) (hr : r = some g) (o : Nat) (u : Value) : w.grownBy (w'.setCell ⟨g, o, none⟩ u) r := by
  subst hr
  refine ⟨h.os, h.tape, h.output, ?_, fun k hk hne => ?_⟩
  · have e : (w'.setCell ⟨g, o, none⟩ u).heap.size = w'.heap.size := by simp
    rw [e]; exact h.size
  · rw [heap_setCell_other _ _ _ _ (by rintro rfl; exact hne rfl)]
    exact h.block k hk hne
theorem grown_stay {w w1 w2 : World} {r : Option Nat} (h : w.grownBy w1 r) (hb : Below w1.heap.size w1 w2) : w.grownBy w2 r :=
  ⟨hb.os.trans h.os, hb.tape.trans h.tape, hb.output.trans h.output, Nat.le_trans h.size hb.size, fun k hk hne => (hb.block k (Nat.lt_of_lt_of_le hk h.size)).trans (h.block k hk hne)⟩
theorem own_putR {w : World} {base g n cap k : Nat} {C : List Re} {q : Re} (h : OwnsR base w (.slice (some ⟨g, 0, none⟩) n cap) C) (hn : C.length = n) (hq : C[k]? = some q) (u : Int) : OwnsR base (w.setCell ⟨g, k * 4 + 3, none⟩ (.int .i64 u)) (.slice (some ⟨g, 0, none⟩) n cap) (C.set k ⟨q.x, q.y, q.wd, u⟩) := by
  have hk := (List.getElem?_eq_some_iff.1 hq).1
  unfold OwnsR at *
  rw [List.length_set, hn]
  rw [hn] at h
  have := own_put h (k := k * 4 + 3) (by omega) (.int .i64 u)
  rw [flat_set Re.enc_len 3 (.int .i64 u) q ⟨q.x, q.y, q.wd, u⟩ (by omega) rfl C k hq] at this
  exact this
theorem own_unfzR {w : World} {base g n cap : Nat} {C : List Re} (h : OwnsR base w (.slice (some ⟨g, 0, none⟩) n cap) C) (o : Nat) : w.frozen? ⟨g, o, none⟩ = false := by
  rcases h.2 with ⟨h0, _⟩ | ⟨g', cap', cur, hv, hg, hh, _⟩
  · cases h0
  · injection hv with hv _ _
    injection hv with hv
    injection hv with hv _ _
    subst hv
    simp [World.frozen?, hh]
theorem edgesY_len (a b : List Re) : (edgesY a b).length ≤ a.length * 2 + b.length * 2 := by
  unfold edgesY
  have h1 := edgF_fold true 0 a []
  have h2 := edgF_fold true 0 b (a.foldl edgY [])
  rw [edgF_true] at h1 h2
  simp at h1
  omega
def MadePost (E : Int) (L : List Re) (w : World) (e : Ending) (w' : World) : Prop := Below w.heap.size w w' ∧ ∃ v, e = .returned (.tuple #[v, .int .i64 E]) ∧ OwnsR w.heap.size w' v L
set_option maxHeartbeats 8000000 in
set_option maxRecDepth 100000 in
theorem kmade_any (a b : List Re) (va vb : Value) (what : Int) (w : World) (ha : Row w.heap.size 4 Re.enc w va a) (hb : Row w.heap.size 4 Re.enc w vb b) (ma : MayL a) (mb : MayL b) (la : a.length ≤ 100000) (lb : b.length ≤ 100000) (hw : what = 1 ∨ what = 2 ∨ what = 3) :
    Calls Tryz.prog 51 #[va, vb, .int .i64 what] w (MadePost (madeE a b what) (madeL a b what) w) := by
  obtain ⟨iR, hi0, hm0, hm1, hm2⟩ := info_parts infoRe
  have E1 := kedges_any [] a (.slice none 0 0) va true 0 w.heap.size w (OwnsI.nil _ _) ha ma (Nat.le_refl _) (by simp) la
  have E2 := fun w1 v1 (h : OwnsI w.heap.size w1 v1 (a.foldl (edgF true 0) [])) (h2 : Below w.heap.size w w1) => kedges_any (a.foldl (edgF true 0) []) b v1 vb true 0 w.heap.size w1 h (hb.below h2) mb h2.size (by have := edgF_fold true 0 a []; simp at this; omega) lb
  obtain ⟨X1, hX1⟩ : ∃ X, a.foldl (edgF true 0) [] = X := ⟨_, rfl⟩
  obtain ⟨X, hX⟩ : ∃ X, edgesY a b = X := ⟨_, rfl⟩
  have hXe : b.foldl (edgF true 0) X1 = X := by rw [← hX, ← hX1, edgF_true]; rfl
  have hXl : X.length ≤ 400000 := by rw [← hX]; have := edgesY_len a b; omega
  have hXr : Rise X := by rw [← hX]; exact edgesY_rise a b
  have hXin : ∀ x ∈ X, InM x := fun x hx => by rw [← hX] at hx; exact edgesY_in ma mb x hx
  rw [hX1] at E1 E2
  rw [hXe] at E2
  obtain ⟨now, hnow⟩ : ∃ now, (fun y => spansP a b what y) = now := ⟨_, rfl⟩
  have hnl : ∀ y, (now y).length ≤ 200000 := fun y => by rw [← hnow]; have := spans_len2 ma.sane mb.sane what y; simp only; omega
  have hnin : ∀ y, ∀ s ∈ now y, InM s.1 ∧ InM s.2 := fun y => by rw [← hnow]; exact spans_in ma mb what y
  obtain ⟨R, hR⟩ : ∃ R, formR a b what = R := ⟨_, rfl⟩
  have hgo : refGo now [] [] (X.drop 0) = R := by rw [List.drop_zero, refGo_form, ← hnow, ← hX]; exact hR
  have SP := fun y W (h : Below w.heap.size w W) => kspans_any a b va vb what y W ((ha.below h).mono h.size) ((hb.below h).mono h.size) ma mb la lb hw
  have SP' : ∀ y W, Below w.heap.size w W → Calls Tryz.prog 67 #[va, vb, .int .i64 what, .int .i64 y] W (SpansPost (now y) W) := by rw [← hnow]; exact SP
  obtain ⟨E, hE⟩ : ∃ E, madeE a b what = E := ⟨_, rfl⟩
  obtain ⟨ML, hML⟩ : ∃ ML, madeL a b what = ML := ⟨_, rfl⟩
  have out4 : 1024 < R.length → E = 4 ∧ ML = [] := fun h => by rw [← hE, ← hML]; unfold madeE madeL; rw [hR, if_pos h, if_pos h]; exact ⟨rfl, rfl⟩
  have out0 : R.length ≤ 1024 → E = 0 ∧ ML = R := fun h => by rw [← hE, ← hML]; unfold madeE madeL; rw [hR, if_neg (by omega), if_neg (by omega)]; exact ⟨rfl, rfl⟩
  rw [hE, hML]
  obtain ⟨s1, c1, rfl, hmax1⟩ := ha.shape
  obtain ⟨s2, c2, rfl, hmax2⟩ := hb.shape
  unfold MadePost
  replace E1 := Lib.hid E1
  replace E2 := Lib.hid E2
  replace SP := Lib.hid SP'
  replace hgo := Lib.hid hgo
  replace hXin := Lib.hid hXin
  replace hXr := Lib.hid hXr
  replace hnl := Lib.hid hnl
  replace hnin := Lib.hid hnin
  replace out4 := Lib.hid out4
  replace out0 := Lib.hid out0
  clear ha hb hX1 hX hXe hR hw hE hML hnow SP'
  go_enter Tryz.func51, Tryz.ntmps51
  go_wp2_with (first
    | (go_at_call 66; (with_reducible refine (E1.out).mono ?_); rintro e w1 ⟨gr1, v1, rfl, ow1, _⟩; have hb1 : Below w.heap.size w w1 := grown_below gr1 (Nat.le_refl _) (fun g h => by cases h); replace ow1 := Lib.hid ow1)
    | (go_at_call 66; (with_reducible refine (E2.out _ _ ow1.out hb1).mono ?_); rintro e w4 ⟨gr4, v4, rfl, ow4, _⟩; have hb04 : Below w.heap.size w w4 := hb1.trans (grown_below gr4 hb1.size (fun g h => (own_block_lt ow1.out g h).1)))
    | go_in)
  clear hb1 gr1 gr4 ow1 E1 E2
  obtain ⟨s4, c4, rfl⟩ := own_slice ow4
  have hX4 := fun h0 => row_in (ow4.row (Nat.le_refl _)) h0
  have z04 := hb04.size
  obtain ⟨N, hN⟩ : ∃ N, X.length = N := ⟨_, rfl⟩
  rw [hN] at hX4 hXl ⊢
  replace hX4 := Lib.hid hX4
  replace hN := Lib.hid hN
  clear ow4
  go_loopw [9, 10, 11] (fun ov lv iv wr => ∃ (i : Nat) (out : List Re) (last : List Sp), i ≤ N ∧ iv = .int .i64 i ∧ OwnsR w4.heap.size wr ov out ∧ OwnsI w4.heap.size wr lv (endsS last) ∧ Apart ov lv ∧ Hid (refGo now out last (X.drop i) = R) ∧ Hid (out.length ≤ 1024 ∧ last.length ≤ out.length ∧ ∀ c, X[i]? = some c → HtB out c) ∧ Below w4.heap.size w4 wr) (fun _ _ iv _ => N - (intOf iv).toNat)
  case atStart => exact ⟨0, [], [], Nat.zero_le _, rfl, OwnsR.nil _ _, OwnsI.nil _ _, Apart.none _ _ _, hgo, Lib.hid ⟨by simp, by simp, fun c _ q hq => by simp at hq⟩, Below.refl _ _⟩
  case round =>
    obtain ⟨wo, rfl⟩ : ∃ wo : World, wo = wr := ⟨_, rfl⟩
    obtain ⟨i, out, last, hi, rfl, hown, hlast, hap, hgo, hbd, hb4r⟩ := hrel
    have hbr := hb04.trans (hb4r.mono z04)
    have zr := hbr.size
    have z4r := hb4r.size
    obtain ⟨so, co, rfl⟩ := own_slice hown
    obtain ⟨sl, cl, rfl⟩ := own_slice hlast
    by_cases hiN : i + 1 < N
    · obtain ⟨bb, o, cap', e, yb, _, _, hel⟩ := hX4.out (by omega)
      simp at e
      obtain ⟨rfl, rfl⟩ := e
      obtain ⟨y, hy⟩ := get_at hN.out (show i < N by omega)
      obtain ⟨z, hz⟩ := get_at hN.out hiN
      have g0 := hel i y hy
      have g1 := hel (i + 1) z hz
      obtain ⟨hcr, hfr⟩ := bcell hb4r
      have iny := hXin.out y (List.mem_of_getElem? hy)
      obtain ⟨y0, y1⟩ := id iny
      obtain ⟨z0, z1⟩ := id (hXin.out z (List.mem_of_getElem? hz))
      have hyz := rise_le hXr.out hy hz
      have hgo := hgo.out
      rw [ref_step hy hz] at hgo
      obtain ⟨b1, b2, b3⟩ := hbd.out
      have b3 := b3 y hy
      have hznext : ∀ c, X[i + 1]? = some c → c = z := fun c h => Option.some.inj (h.symm.trans hz)
      have SP := SP.out y wo hbr
      have hnl := hnl.out y
      have hnin := hnin.out y
      obtain ⟨nw, hnw⟩ : ∃ nw, now y = nw := ⟨_, rfl⟩
      rw [hnw] at SP hgo hnl hnin
      have AK : ∀ w5 v5, Below wo.heap.size wo w5 → OwnsI wo.heap.size w5 v5 (endsS nw) → Calls Tryz.prog 68 #[v5, .slice sl (endsS last).length cl] w5 fun e w' => e = .returned (.bool (decide (nw = last))) ∧ Below w5.heap.size w5 w' := fun w5 v5 h1 h2 => by
        have := alike_any (endsS nw) (endsS last) v5 _ w5 (h2.row (Nat.le_refl _)) ((OwnsI.below hlast h1 (Nat.le_refl _)).row (Nat.le_refl _)) (by rw [endsS_len]; omega) (by rw [endsS_len]; omega)
        rw [alike_ends] at this
        exact this
      have hii : (i : Int) < N := by omega
      have hii2 : (i : Int) + 1 < N := by omega
      have ybr : bb < wo.heap.size := by omega
      clear hel hy hz hnw hbd
      replace SP := Lib.hid SP
      obtain ⟨NL, hNL⟩ : ∃ NL, (endsS nw).length = NL := ⟨_, rfl⟩
      obtain ⟨J, hJ⟩ : ∃ J, nw.length = J := ⟨_, rfl⟩
      have hNJ : NL = 2 * J := by rw [← hNL, endsS_len, hJ]; omega
      obtain ⟨n, hn⟩ : ∃ n, out.length = n := ⟨_, rfl⟩
      rw [hn] at b1 b2
      rw [hn] at hown hap ⊢
      have hq : (NL : Int) / 2 = J := by omega
      have hNLb : NL ≤ 400000 := by omega
      obtain ⟨t, ht⟩ : ∃ t, decide (nw = last) = t := ⟨_, rfl⟩
      simp only [ht] at AK
      replace AK := Lib.hid AK
      replace hlast := Lib.hid hlast
      replace hown := Lib.hid hown
      replace hap := Lib.hid hap
      replace hznext := Lib.hid hznext
      replace hn := Lib.hid hn
      replace b3 := Lib.hid b3
      replace hnin := Lib.hid hnin
      replace hJ := Lib.hid hJ
      cases t
      · have hne : ¬ nw = last := of_decide_eq_false ht
        rw [if_neg hne] at hgo
        replace hgo := Lib.hid hgo
        clear hne ht
        replace hq := Lib.hid hq
        replace hNJ := Lib.hid hNJ
        go_wp2_with (first | (go_at_call 67; (with_reducible refine (SP.out).mono ?_); rintro e w5 ⟨hb5, v5, rfl, ow5⟩; obtain ⟨s5, c5, rfl⟩ := own_slice ow5; rw [hNL] at ow5; rw [hNL]; have ow5 := Lib.hid ow5; obtain ⟨hc5, hf5⟩ := bcell hb5) | (go_at_call 68; (with_reducible refine (AK.out _ _ hb5 ow5.out).mono ?_); rintro e w6 ⟨rfl, hb6⟩; have hb56 := hb5.trans (hb6.mono hb5.size); have ow6 := Lib.hid (OwnsI.below ow5.out hb6 (Nat.le_refl _))) | go_in)
        replace AK := ow5
        clear AK ow5
        have hb46 := hb4r.trans (hb56.mono z4r)
        have z6 := hb46.size
        have hap0 : Apart (.slice so n co) (.slice s5 NL c5) := fun g h1 h2 => by
          have h3 := (own_in hown.out g h1).2
          have h4 := (own_in ow6.out g h2).1
          omega
        have hown6 := Lib.hid (OwnsR.below hown.out hb56 (Nat.le_refl _))
        replace hap0 := Lib.hid hap0
        go_loopw [9, 15] (fun ov kv wr => ∃ (j m : Nat), j ≤ J ∧ Hid (m = 2 * j) ∧ kv = .int .i64 m ∧ OwnsR w4.heap.size wr ov (out ++ rectsOf y (z - y) (nw.take j)) ∧ OwnsI wo.heap.size wr (.slice s5 NL c5) (endsS nw) ∧ Apart ov (.slice s5 NL c5) ∧ Below w4.heap.size w4 wr) (fun _ kv _ => NL - (intOf kv).toNat)
        case atStart => exact ⟨0, 0, Nat.zero_le _, Lib.hid rfl, rfl, by simpa [rectsOf] using hown6.out, ow6.out, hap0.out, hb46⟩
        case round =>
          clear hown6 hap0
          obtain ⟨j, m, hj, hm, rfl, hownq, hnow, hapq, hb4q⟩ := hrel
          have z4q := hb4q.size
          obtain ⟨sq, cq, rfl⟩ := own_slice hownq
          obtain ⟨kk, hkk⟩ : ∃ kk, (out ++ rectsOf y (z - y) (nw.take j)).length = kk := ⟨_, rfl⟩
          have hkb : kk ≤ 300000 := by rw [← hkk, List.length_append, rectsOf_len, List.length_take, hn.out]; omega
          rw [hkk] at hownq hapq ⊢
          obtain ⟨hcq, hfq⟩ := bcell hb4q
          by_cases hjJ : j < J
          · obtain ⟨s, hs⟩ := get_at hJ.out hjJ
            have e1 := endsS_fst hs
            have e2 := endsS_last hs
            rw [← hm.out] at e1 e2
            have hnow' := hnow
            unfold OwnsI at hnow'
            rw [hNL] at hnow'
            obtain ⟨gn, rfl, hg1, hg2⟩ := own_addr hnow' (by have := hNJ.out; omega)
            have n0 := own_int hnow e1
            have n1 := own_int hnow e2
            have f0 := own_unfzI hnow m
            have f1 := own_unfzI hnow (m + 1)
            obtain ⟨⟨p0, p1⟩, ⟨p2, p3⟩⟩ := id (hnin.out s (List.mem_of_getElem? hs))
            have hsnoc := rectsOf_snoc y (z - y) hs
            obtain ⟨sa, sb⟩ := s
            simp only at n0 n1 p0 p1 p2 p3 hsnoc
            have hmN : (m : Int) < NL := by have := hNJ.out; have := hm.out; omega
            have hmN2 : (m : Int) + 1 < NL := by have := hNJ.out; have := hm.out; omega
            have ybq : bb < wr.heap.size := by omega
            clear hnow' e1 e2 hs
            replace hownq := Lib.hid hownq
            replace hnow := Lib.hid hnow
            replace hapq := Lib.hid hapq
            replace hsnoc := Lib.hid hsnoc
            replace hkk := Lib.hid hkk
            go_wp2
            refine held_begin (Held w4 0 [(⟨gn, m, none⟩, .int .i64 sa), (⟨gn, m + 1, none⟩, .int .i64 sb)]) (by kernel_rfl) ⟨Below.drew hb4q, by simp; omega, by simp only [Cells]; go_simp⟩ (fun hS => ?_)
            (first | (refine' held_do (i := 0) _ (by kernel_rfl) (by kernel_rfl) (by kernel_rfl) _ _ hS _ _; rotate_left 2; (focus (simp only [List.getElem?_toArray, List.getElem?_cons_succ, List.getElem?_cons_zero]; rfl)); (focus exact fun _ _ _ h => h); (focus rfl); (focus (intro w1 hSS R hR; have hc := hSS.2.2; (try simp only [Cells] at hc); obtain ⟨hco, hfo⟩ := bcell hSS.1; go_simp; (try go_bits); exact hR)); simp only [Act.put, List.setIfInBounds_toArray, List.set_cons_zero, List.set_cons_succ]) | (refine' held_pass (i := 0) _ (by kernel_rfl) (by kernel_rfl) (by kernel_rfl) _ _ hS _; rotate_left; (focus (simp only [List.getElem?_toArray, List.getElem?_cons_succ, List.getElem?_cons_zero]; rfl)); (focus exact fun _ _ _ h => h); (focus rfl); simp only [Act.put, List.setIfInBounds_toArray, List.set_cons_zero, List.set_cons_succ]))
            (first | (refine' held_do (i := 1) _ (by kernel_rfl) (by kernel_rfl) (by kernel_rfl) _ _ hS _ _; rotate_left 2; (focus (simp only [List.getElem?_toArray, List.getElem?_cons_succ, List.getElem?_cons_zero]; rfl)); (focus exact fun _ _ _ h => h); (focus rfl); (focus (intro w1 hSS R hR; have hc := hSS.2.2; (try simp only [Cells] at hc); obtain ⟨hco, hfo⟩ := bcell hSS.1; go_simp; (try go_bits); exact hR)); simp only [Act.put, List.setIfInBounds_toArray, List.set_cons_zero, List.set_cons_succ]) | (refine' held_pass (i := 1) _ (by kernel_rfl) (by kernel_rfl) (by kernel_rfl) _ _ hS _; rotate_left; (focus (simp only [List.getElem?_toArray, List.getElem?_cons_succ, List.getElem?_cons_zero]; rfl)); (focus exact fun _ _ _ h => h); (focus rfl); simp only [Act.put, List.setIfInBounds_toArray, List.set_cons_zero, List.set_cons_succ]))
            (first | (refine' held_do (i := 2) _ (by kernel_rfl) (by kernel_rfl) (by kernel_rfl) _ _ hS _ _; rotate_left 2; (focus (simp only [List.getElem?_toArray, List.getElem?_cons_succ, List.getElem?_cons_zero]; rfl)); (focus exact fun _ _ _ h => h); (focus rfl); (focus (intro w1 hSS R hR; have hc := hSS.2.2; (try simp only [Cells] at hc); obtain ⟨hco, hfo⟩ := bcell hSS.1; go_simp; (try go_bits); exact hR)); simp only [Act.put, List.setIfInBounds_toArray, List.set_cons_zero, List.set_cons_succ]) | (refine' held_pass (i := 2) _ (by kernel_rfl) (by kernel_rfl) (by kernel_rfl) _ _ hS _; rotate_left; (focus (simp only [List.getElem?_toArray, List.getElem?_cons_succ, List.getElem?_cons_zero]; rfl)); (focus exact fun _ _ _ h => h); (focus rfl); simp only [Act.put, List.setIfInBounds_toArray, List.set_cons_zero, List.set_cons_succ]))
            (first | (refine' held_do (i := 3) _ (by kernel_rfl) (by kernel_rfl) (by kernel_rfl) _ _ hS _ _; rotate_left 2; (focus (simp only [List.getElem?_toArray, List.getElem?_cons_succ, List.getElem?_cons_zero]; rfl)); (focus exact fun _ _ _ h => h); (focus rfl); (focus (intro w1 hSS R hR; have hc := hSS.2.2; (try simp only [Cells] at hc); obtain ⟨hco, hfo⟩ := bcell hSS.1; go_simp; (try go_bits); exact hR)); simp only [Act.put, List.setIfInBounds_toArray, List.set_cons_zero, List.set_cons_succ]) | (refine' held_pass (i := 3) _ (by kernel_rfl) (by kernel_rfl) (by kernel_rfl) _ _ hS _; rotate_left; (focus (simp only [List.getElem?_toArray, List.getElem?_cons_succ, List.getElem?_cons_zero]; rfl)); (focus exact fun _ _ _ h => h); (focus rfl); simp only [Act.put, List.setIfInBounds_toArray, List.set_cons_zero, List.set_cons_succ]))
            (first | (refine' held_do (i := 4) _ (by kernel_rfl) (by kernel_rfl) (by kernel_rfl) _ _ hS _ _; rotate_left 2; (focus (simp only [List.getElem?_toArray, List.getElem?_cons_succ, List.getElem?_cons_zero]; rfl)); (focus exact fun _ _ _ h => h); (focus rfl); (focus (intro w1 hSS R hR; have hc := hSS.2.2; (try simp only [Cells] at hc); obtain ⟨hco, hfo⟩ := bcell hSS.1; go_simp; (try go_bits); exact hR)); simp only [Act.put, List.setIfInBounds_toArray, List.set_cons_zero, List.set_cons_succ]) | (refine' held_pass (i := 4) _ (by kernel_rfl) (by kernel_rfl) (by kernel_rfl) _ _ hS _; rotate_left; (focus (simp only [List.getElem?_toArray, List.getElem?_cons_succ, List.getElem?_cons_zero]; rfl)); (focus exact fun _ _ _ h => h); (focus rfl); simp only [Act.put, List.setIfInBounds_toArray, List.set_cons_zero, List.set_cons_succ]))
            (first | (refine' held_do (i := 5) _ (by kernel_rfl) (by kernel_rfl) (by kernel_rfl) _ _ hS _ _; rotate_left 2; (focus (simp only [List.getElem?_toArray, List.getElem?_cons_succ, List.getElem?_cons_zero]; rfl)); (focus exact fun _ _ _ h => h); (focus rfl); (focus (intro w1 hSS R hR; have hc := hSS.2.2; (try simp only [Cells] at hc); obtain ⟨hco, hfo⟩ := bcell hSS.1; go_simp; (try go_bits); exact hR)); simp only [Act.put, List.setIfInBounds_toArray, List.set_cons_zero, List.set_cons_succ]) | (refine' held_pass (i := 5) _ (by kernel_rfl) (by kernel_rfl) (by kernel_rfl) _ _ hS _; rotate_left; (focus (simp only [List.getElem?_toArray, List.getElem?_cons_succ, List.getElem?_cons_zero]; rfl)); (focus exact fun _ _ _ h => h); (focus rfl); simp only [Act.put, List.setIfInBounds_toArray, List.set_cons_zero, List.set_cons_succ]))
            (first | (refine' held_do (i := 6) _ (by kernel_rfl) (by kernel_rfl) (by kernel_rfl) _ _ hS _ _; rotate_left 2; (focus (simp only [List.getElem?_toArray, List.getElem?_cons_succ, List.getElem?_cons_zero]; rfl)); (focus exact fun _ _ _ h => h); (focus rfl); (focus (intro w1 hSS R hR; have hc := hSS.2.2; (try simp only [Cells] at hc); obtain ⟨hco, hfo⟩ := bcell hSS.1; go_simp; (try go_bits); exact hR)); simp only [Act.put, List.setIfInBounds_toArray, List.set_cons_zero, List.set_cons_succ]) | (refine' held_pass (i := 6) _ (by kernel_rfl) (by kernel_rfl) (by kernel_rfl) _ _ hS _; rotate_left; (focus (simp only [List.getElem?_toArray, List.getElem?_cons_succ, List.getElem?_cons_zero]; rfl)); (focus exact fun _ _ _ h => h); (focus rfl); simp only [Act.put, List.setIfInBounds_toArray, List.set_cons_zero, List.set_cons_succ]))
            (first | (refine' held_do (i := 7) _ (by kernel_rfl) (by kernel_rfl) (by kernel_rfl) _ _ hS _ _; rotate_left 2; (focus (simp only [List.getElem?_toArray, List.getElem?_cons_succ, List.getElem?_cons_zero]; rfl)); (focus exact fun _ _ _ h => h); (focus rfl); (focus (intro w1 hSS R hR; have hc := hSS.2.2; (try simp only [Cells] at hc); obtain ⟨hco, hfo⟩ := bcell hSS.1; go_simp; (try go_bits); exact hR)); simp only [Act.put, List.setIfInBounds_toArray, List.set_cons_zero, List.set_cons_succ]) | (refine' held_pass (i := 7) _ (by kernel_rfl) (by kernel_rfl) (by kernel_rfl) _ _ hS _; rotate_left; (focus (simp only [List.getElem?_toArray, List.getElem?_cons_succ, List.getElem?_cons_zero]; rfl)); (focus exact fun _ _ _ h => h); (focus rfl); simp only [Act.put, List.setIfInBounds_toArray, List.set_cons_zero, List.set_cons_succ]))
            (first | (refine' held_do (i := 8) _ (by kernel_rfl) (by kernel_rfl) (by kernel_rfl) _ _ hS _ _; rotate_left 2; (focus (simp only [List.getElem?_toArray, List.getElem?_cons_succ, List.getElem?_cons_zero]; rfl)); (focus exact fun _ _ _ h => h); (focus rfl); (focus (intro w1 hSS R hR; have hc := hSS.2.2; (try simp only [Cells] at hc); obtain ⟨hco, hfo⟩ := bcell hSS.1; go_simp; (try go_bits); exact hR)); simp only [Act.put, List.setIfInBounds_toArray, List.set_cons_zero, List.set_cons_succ]) | (refine' held_pass (i := 8) _ (by kernel_rfl) (by kernel_rfl) (by kernel_rfl) _ _ hS _; rotate_left; (focus (simp only [List.getElem?_toArray, List.getElem?_cons_succ, List.getElem?_cons_zero]; rfl)); (focus exact fun _ _ _ h => h); (focus rfl); simp only [Act.put, List.setIfInBounds_toArray, List.set_cons_zero, List.set_cons_succ]))
            (first | (refine' held_do (i := 9) _ (by kernel_rfl) (by kernel_rfl) (by kernel_rfl) _ _ hS _ _; rotate_left 2; (focus (simp only [List.getElem?_toArray, List.getElem?_cons_succ, List.getElem?_cons_zero]; rfl)); (focus exact fun _ _ _ h => h); (focus rfl); (focus (intro w1 hSS R hR; have hc := hSS.2.2; (try simp only [Cells] at hc); obtain ⟨hco, hfo⟩ := bcell hSS.1; go_simp; (try go_bits); exact hR)); simp only [Act.put, List.setIfInBounds_toArray, List.set_cons_zero, List.set_cons_succ]) | (refine' held_pass (i := 9) _ (by kernel_rfl) (by kernel_rfl) (by kernel_rfl) _ _ hS _; rotate_left; (focus (simp only [List.getElem?_toArray, List.getElem?_cons_succ, List.getElem?_cons_zero]; rfl)); (focus exact fun _ _ _ h => h); (focus rfl); simp only [Act.put, List.setIfInBounds_toArray, List.set_cons_zero, List.set_cons_succ]))
            (first | (refine' held_do (i := 10) _ (by kernel_rfl) (by kernel_rfl) (by kernel_rfl) _ _ hS _ _; rotate_left 2; (focus (simp only [List.getElem?_toArray, List.getElem?_cons_succ, List.getElem?_cons_zero]; rfl)); (focus exact fun _ _ _ h => h); (focus rfl); (focus (intro w1 hSS R hR; have hc := hSS.2.2; (try simp only [Cells] at hc); obtain ⟨hco, hfo⟩ := bcell hSS.1; go_simp; (try go_bits); exact hR)); simp only [Act.put, List.setIfInBounds_toArray, List.set_cons_zero, List.set_cons_succ]) | (refine' held_pass (i := 10) _ (by kernel_rfl) (by kernel_rfl) (by kernel_rfl) _ _ hS _; rotate_left; (focus (simp only [List.getElem?_toArray, List.getElem?_cons_succ, List.getElem?_cons_zero]; rfl)); (focus exact fun _ _ _ h => h); (focus rfl); simp only [Act.put, List.setIfInBounds_toArray, List.set_cons_zero, List.set_cons_succ]))
            (first | (refine' held_do (i := 11) _ (by kernel_rfl) (by kernel_rfl) (by kernel_rfl) _ _ hS _ _; rotate_left 2; (focus (simp only [List.getElem?_toArray, List.getElem?_cons_succ, List.getElem?_cons_zero]; rfl)); (focus exact fun _ _ _ h => h); (focus rfl); (focus (intro w1 hSS R hR; have hc := hSS.2.2; (try simp only [Cells] at hc); obtain ⟨hco, hfo⟩ := bcell hSS.1; go_simp; (try go_bits); exact hR)); simp only [Act.put, List.setIfInBounds_toArray, List.set_cons_zero, List.set_cons_succ]) | (refine' held_pass (i := 11) _ (by kernel_rfl) (by kernel_rfl) (by kernel_rfl) _ _ hS _; rotate_left; (focus (simp only [List.getElem?_toArray, List.getElem?_cons_succ, List.getElem?_cons_zero]; rfl)); (focus exact fun _ _ _ h => h); (focus rfl); simp only [Act.put, List.setIfInBounds_toArray, List.set_cons_zero, List.set_cons_succ]))
            (first | (refine' held_do (i := 12) _ (by kernel_rfl) (by kernel_rfl) (by kernel_rfl) _ _ hS _ _; rotate_left 2; (focus (simp only [List.getElem?_toArray, List.getElem?_cons_succ, List.getElem?_cons_zero]; rfl)); (focus exact fun _ _ _ h => h); (focus rfl); (focus (intro w1 hSS R hR; have hc := hSS.2.2; (try simp only [Cells] at hc); obtain ⟨hco, hfo⟩ := bcell hSS.1; go_simp; (try go_bits); exact hR)); simp only [Act.put, List.setIfInBounds_toArray, List.set_cons_zero, List.set_cons_succ]) | (refine' held_pass (i := 12) _ (by kernel_rfl) (by kernel_rfl) (by kernel_rfl) _ _ hS _; rotate_left; (focus (simp only [List.getElem?_toArray, List.getElem?_cons_succ, List.getElem?_cons_zero]; rfl)); (focus exact fun _ _ _ h => h); (focus rfl); simp only [Act.put, List.setIfInBounds_toArray, List.set_cons_zero, List.set_cons_succ]))
            (first | (refine' held_do (i := 13) _ (by kernel_rfl) (by kernel_rfl) (by kernel_rfl) _ _ hS _ _; rotate_left 2; (focus (simp only [List.getElem?_toArray, List.getElem?_cons_succ, List.getElem?_cons_zero]; rfl)); (focus exact fun _ _ _ h => h); (focus rfl); (focus (intro w1 hSS R hR; have hc := hSS.2.2; (try simp only [Cells] at hc); obtain ⟨hco, hfo⟩ := bcell hSS.1; go_simp; (try go_bits); exact hR)); simp only [Act.put, List.setIfInBounds_toArray, List.set_cons_zero, List.set_cons_succ]) | (refine' held_pass (i := 13) _ (by kernel_rfl) (by kernel_rfl) (by kernel_rfl) _ _ hS _; rotate_left; (focus (simp only [List.getElem?_toArray, List.getElem?_cons_succ, List.getElem?_cons_zero]; rfl)); (focus exact fun _ _ _ h => h); (focus rfl); simp only [Act.put, List.setIfInBounds_toArray, List.set_cons_zero, List.set_cons_succ]))
            (first | (refine' held_do (i := 14) _ (by kernel_rfl) (by kernel_rfl) (by kernel_rfl) _ _ hS _ _; rotate_left 2; (focus (simp only [List.getElem?_toArray, List.getElem?_cons_succ, List.getElem?_cons_zero]; rfl)); (focus exact fun _ _ _ h => h); (focus rfl); (focus (intro w1 hSS R hR; have hc := hSS.2.2; (try simp only [Cells] at hc); obtain ⟨hco, hfo⟩ := bcell hSS.1; go_simp; (try go_bits); exact hR)); simp only [Act.put, List.setIfInBounds_toArray, List.set_cons_zero, List.set_cons_succ]) | (refine' held_pass (i := 14) _ (by kernel_rfl) (by kernel_rfl) (by kernel_rfl) _ _ hS _; rotate_left; (focus (simp only [List.getElem?_toArray, List.getElem?_cons_succ, List.getElem?_cons_zero]; rfl)); (focus exact fun _ _ _ h => h); (focus rfl); simp only [Act.put, List.setIfInBounds_toArray, List.set_cons_zero, List.set_cons_succ]))
            (first | (refine' held_do (i := 15) _ (by kernel_rfl) (by kernel_rfl) (by kernel_rfl) _ _ hS _ _; rotate_left 2; (focus (simp only [List.getElem?_toArray, List.getElem?_cons_succ, List.getElem?_cons_zero]; rfl)); (focus exact fun _ _ _ h => h); (focus rfl); (focus (intro w1 hSS R hR; have hc := hSS.2.2; (try simp only [Cells] at hc); obtain ⟨hco, hfo⟩ := bcell hSS.1; go_simp; (try go_bits); exact hR)); simp only [Act.put, List.setIfInBounds_toArray, List.set_cons_zero, List.set_cons_succ]) | (refine' held_pass (i := 15) _ (by kernel_rfl) (by kernel_rfl) (by kernel_rfl) _ _ hS _; rotate_left; (focus (simp only [List.getElem?_toArray, List.getElem?_cons_succ, List.getElem?_cons_zero]; rfl)); (focus exact fun _ _ _ h => h); (focus rfl); simp only [Act.put, List.setIfInBounds_toArray, List.set_cons_zero, List.set_cons_succ]))
            (first | (refine' held_do (i := 16) _ (by kernel_rfl) (by kernel_rfl) (by kernel_rfl) _ _ hS _ _; rotate_left 2; (focus (simp only [List.getElem?_toArray, List.getElem?_cons_succ, List.getElem?_cons_zero]; rfl)); (focus exact fun _ _ _ h => h); (focus rfl); (focus (intro w1 hSS R hR; have hc := hSS.2.2; (try simp only [Cells] at hc); obtain ⟨hco, hfo⟩ := bcell hSS.1; go_simp; (try go_bits); exact hR)); simp only [Act.put, List.setIfInBounds_toArray, List.set_cons_zero, List.set_cons_succ]) | (refine' held_pass (i := 16) _ (by kernel_rfl) (by kernel_rfl) (by kernel_rfl) _ _ hS _; rotate_left; (focus (simp only [List.getElem?_toArray, List.getElem?_cons_succ, List.getElem?_cons_zero]; rfl)); (focus exact fun _ _ _ h => h); (focus rfl); simp only [Act.put, List.setIfInBounds_toArray, List.set_cons_zero, List.set_cons_succ]))
            (first | (refine' held_do (i := 17) _ (by kernel_rfl) (by kernel_rfl) (by kernel_rfl) _ _ hS _ _; rotate_left 2; (focus (simp only [List.getElem?_toArray, List.getElem?_cons_succ, List.getElem?_cons_zero]; rfl)); (focus exact fun _ _ _ h => h); (focus rfl); (focus (intro w1 hSS R hR; have hc := hSS.2.2; (try simp only [Cells] at hc); obtain ⟨hco, hfo⟩ := bcell hSS.1; go_simp; (try go_bits); exact hR)); simp only [Act.put, List.setIfInBounds_toArray, List.set_cons_zero, List.set_cons_succ]) | (refine' held_pass (i := 17) _ (by kernel_rfl) (by kernel_rfl) (by kernel_rfl) _ _ hS _; rotate_left; (focus (simp only [List.getElem?_toArray, List.getElem?_cons_succ, List.getElem?_cons_zero]; rfl)); (focus exact fun _ _ _ h => h); (focus rfl); simp only [Act.put, List.setIfInBounds_toArray, List.set_cons_zero, List.set_cons_succ]))
            (first | (refine' held_do (i := 18) _ (by kernel_rfl) (by kernel_rfl) (by kernel_rfl) _ _ hS _ _; rotate_left 2; (focus (simp only [List.getElem?_toArray, List.getElem?_cons_succ, List.getElem?_cons_zero]; rfl)); (focus exact fun _ _ _ h => h); (focus rfl); (focus (intro w1 hSS R hR; have hc := hSS.2.2; (try simp only [Cells] at hc); obtain ⟨hco, hfo⟩ := bcell hSS.1; go_simp; (try go_bits); exact hR)); simp only [Act.put, List.setIfInBounds_toArray, List.set_cons_zero, List.set_cons_succ]) | (refine' held_pass (i := 18) _ (by kernel_rfl) (by kernel_rfl) (by kernel_rfl) _ _ hS _; rotate_left; (focus (simp only [List.getElem?_toArray, List.getElem?_cons_succ, List.getElem?_cons_zero]; rfl)); (focus exact fun _ _ _ h => h); (focus rfl); simp only [Act.put, List.setIfInBounds_toArray, List.set_cons_zero, List.set_cons_succ]))
            (first | (refine' held_do (i := 19) _ (by kernel_rfl) (by kernel_rfl) (by kernel_rfl) _ _ hS _ _; rotate_left 2; (focus (simp only [List.getElem?_toArray, List.getElem?_cons_succ, List.getElem?_cons_zero]; rfl)); (focus exact fun _ _ _ h => h); (focus rfl); (focus (intro w1 hSS R hR; have hc := hSS.2.2; (try simp only [Cells] at hc); obtain ⟨hco, hfo⟩ := bcell hSS.1; go_simp; (try go_bits); exact hR)); simp only [Act.put, List.setIfInBounds_toArray, List.set_cons_zero, List.set_cons_succ]) | (refine' held_pass (i := 19) _ (by kernel_rfl) (by kernel_rfl) (by kernel_rfl) _ _ hS _; rotate_left; (focus (simp only [List.getElem?_toArray, List.getElem?_cons_succ, List.getElem?_cons_zero]; rfl)); (focus exact fun _ _ _ h => h); (focus rfl); simp only [Act.put, List.setIfInBounds_toArray, List.set_cons_zero, List.set_cons_succ]))
            (first | (refine' held_do (i := 20) _ (by kernel_rfl) (by kernel_rfl) (by kernel_rfl) _ _ hS _ _; rotate_left 2; (focus (simp only [List.getElem?_toArray, List.getElem?_cons_succ, List.getElem?_cons_zero]; rfl)); (focus exact fun _ _ _ h => h); (focus rfl); (focus (intro w1 hSS R hR; have hc := hSS.2.2; (try simp only [Cells] at hc); obtain ⟨hco, hfo⟩ := bcell hSS.1; go_simp; (try go_bits); exact hR)); simp only [Act.put, List.setIfInBounds_toArray, List.set_cons_zero, List.set_cons_succ]) | (refine' held_pass (i := 20) _ (by kernel_rfl) (by kernel_rfl) (by kernel_rfl) _ _ hS _; rotate_left; (focus (simp only [List.getElem?_toArray, List.getElem?_cons_succ, List.getElem?_cons_zero]; rfl)); (focus exact fun _ _ _ h => h); (focus rfl); simp only [Act.put, List.setIfInBounds_toArray, List.set_cons_zero, List.set_cons_succ]))
            (first | (refine' held_do (i := 21) _ (by kernel_rfl) (by kernel_rfl) (by kernel_rfl) _ _ hS _ _; rotate_left 2; (focus (simp only [List.getElem?_toArray, List.getElem?_cons_succ, List.getElem?_cons_zero]; rfl)); (focus exact fun _ _ _ h => h); (focus rfl); (focus (intro w1 hSS R hR; have hc := hSS.2.2; (try simp only [Cells] at hc); obtain ⟨hco, hfo⟩ := bcell hSS.1; go_simp; (try go_bits); exact hR)); simp only [Act.put, List.setIfInBounds_toArray, List.set_cons_zero, List.set_cons_succ]) | (refine' held_pass (i := 21) _ (by kernel_rfl) (by kernel_rfl) (by kernel_rfl) _ _ hS _; rotate_left; (focus (simp only [List.getElem?_toArray, List.getElem?_cons_succ, List.getElem?_cons_zero]; rfl)); (focus exact fun _ _ _ h => h); (focus rfl); simp only [Act.put, List.setIfInBounds_toArray, List.set_cons_zero, List.set_cons_succ]))
            (first | (refine' held_do (i := 22) _ (by kernel_rfl) (by kernel_rfl) (by kernel_rfl) _ _ hS _ _; rotate_left 2; (focus (simp only [List.getElem?_toArray, List.getElem?_cons_succ, List.getElem?_cons_zero]; rfl)); (focus exact fun _ _ _ h => h); (focus rfl); (focus (intro w1 hSS R hR; have hc := hSS.2.2; (try simp only [Cells] at hc); obtain ⟨hco, hfo⟩ := bcell hSS.1; go_simp; (try go_bits); exact hR)); simp only [Act.put, List.setIfInBounds_toArray, List.set_cons_zero, List.set_cons_succ]) | (refine' held_pass (i := 22) _ (by kernel_rfl) (by kernel_rfl) (by kernel_rfl) _ _ hS _; rotate_left; (focus (simp only [List.getElem?_toArray, List.getElem?_cons_succ, List.getElem?_cons_zero]; rfl)); (focus exact fun _ _ _ h => h); (focus rfl); simp only [Act.put, List.setIfInBounds_toArray, List.set_cons_zero, List.set_cons_succ]))
            (first | (refine' held_do (i := 23) _ (by kernel_rfl) (by kernel_rfl) (by kernel_rfl) _ _ hS _ _; rotate_left 2; (focus (simp only [List.getElem?_toArray, List.getElem?_cons_succ, List.getElem?_cons_zero]; rfl)); (focus exact fun _ _ _ h => h); (focus rfl); (focus (intro w1 hSS R hR; have hc := hSS.2.2; (try simp only [Cells] at hc); obtain ⟨hco, hfo⟩ := bcell hSS.1; go_simp; (try go_bits); exact hR)); simp only [Act.put, List.setIfInBounds_toArray, List.set_cons_zero, List.set_cons_succ]) | (refine' held_pass (i := 23) _ (by kernel_rfl) (by kernel_rfl) (by kernel_rfl) _ _ hS _; rotate_left; (focus (simp only [List.getElem?_toArray, List.getElem?_cons_succ, List.getElem?_cons_zero]; rfl)); (focus exact fun _ _ _ h => h); (focus rfl); simp only [Act.put, List.setIfInBounds_toArray, List.set_cons_zero, List.set_cons_succ]))
            (first | (refine' held_do (i := 24) _ (by kernel_rfl) (by kernel_rfl) (by kernel_rfl) _ _ hS _ _; rotate_left 2; (focus (simp only [List.getElem?_toArray, List.getElem?_cons_succ, List.getElem?_cons_zero]; rfl)); (focus exact fun _ _ _ h => h); (focus rfl); (focus (intro w1 hSS R hR; have hc := hSS.2.2; (try simp only [Cells] at hc); obtain ⟨hco, hfo⟩ := bcell hSS.1; go_simp; (try go_bits); exact hR)); simp only [Act.put, List.setIfInBounds_toArray, List.set_cons_zero, List.set_cons_succ]) | (refine' held_pass (i := 24) _ (by kernel_rfl) (by kernel_rfl) (by kernel_rfl) _ _ hS _; rotate_left; (focus (simp only [List.getElem?_toArray, List.getElem?_cons_succ, List.getElem?_cons_zero]; rfl)); (focus exact fun _ _ _ h => h); (focus rfl); simp only [Act.put, List.setIfInBounds_toArray, List.set_cons_zero, List.set_cons_succ]))
            (first | (refine' held_do (i := 25) _ (by kernel_rfl) (by kernel_rfl) (by kernel_rfl) _ _ hS _ _; rotate_left 2; (focus (simp only [List.getElem?_toArray, List.getElem?_cons_succ, List.getElem?_cons_zero]; rfl)); (focus exact fun _ _ _ h => h); (focus rfl); (focus (intro w1 hSS R hR; have hc := hSS.2.2; (try simp only [Cells] at hc); obtain ⟨hco, hfo⟩ := bcell hSS.1; go_simp; (try go_bits); exact hR)); simp only [Act.put, List.setIfInBounds_toArray, List.set_cons_zero, List.set_cons_succ]) | (refine' held_pass (i := 25) _ (by kernel_rfl) (by kernel_rfl) (by kernel_rfl) _ _ hS _; rotate_left; (focus (simp only [List.getElem?_toArray, List.getElem?_cons_succ, List.getElem?_cons_zero]; rfl)); (focus exact fun _ _ _ h => h); (focus rfl); simp only [Act.put, List.setIfInBounds_toArray, List.set_cons_zero, List.set_cons_succ]))
            (first | (refine' held_do (i := 26) _ (by kernel_rfl) (by kernel_rfl) (by kernel_rfl) _ _ hS _ _; rotate_left 2; (focus (simp only [List.getElem?_toArray, List.getElem?_cons_succ, List.getElem?_cons_zero]; rfl)); (focus exact fun _ _ _ h => h); (focus rfl); (focus (intro w1 hSS R hR; have hc := hSS.2.2; (try simp only [Cells] at hc); obtain ⟨hco, hfo⟩ := bcell hSS.1; go_simp; (try go_bits); exact hR)); simp only [Act.put, List.setIfInBounds_toArray, List.set_cons_zero, List.set_cons_succ]) | (refine' held_pass (i := 26) _ (by kernel_rfl) (by kernel_rfl) (by kernel_rfl) _ _ hS _; rotate_left; (focus (simp only [List.getElem?_toArray, List.getElem?_cons_succ, List.getElem?_cons_zero]; rfl)); (focus exact fun _ _ _ h => h); (focus rfl); simp only [Act.put, List.setIfInBounds_toArray, List.set_cons_zero, List.set_cons_succ]))
            (first | (refine' held_do (i := 27) _ (by kernel_rfl) (by kernel_rfl) (by kernel_rfl) _ _ hS _ _; rotate_left 2; (focus (simp only [List.getElem?_toArray, List.getElem?_cons_succ, List.getElem?_cons_zero]; rfl)); (focus exact fun _ _ _ h => h); (focus rfl); (focus (intro w1 hSS R hR; have hc := hSS.2.2; (try simp only [Cells] at hc); obtain ⟨hco, hfo⟩ := bcell hSS.1; go_simp; (try go_bits); exact hR)); simp only [Act.put, List.setIfInBounds_toArray, List.set_cons_zero, List.set_cons_succ]) | (refine' held_pass (i := 27) _ (by kernel_rfl) (by kernel_rfl) (by kernel_rfl) _ _ hS _; rotate_left; (focus (simp only [List.getElem?_toArray, List.getElem?_cons_succ, List.getElem?_cons_zero]; rfl)); (focus exact fun _ _ _ h => h); (focus rfl); simp only [Act.put, List.setIfInBounds_toArray, List.set_cons_zero, List.set_cons_succ]))
            (first | (refine' held_do (i := 28) _ (by kernel_rfl) (by kernel_rfl) (by kernel_rfl) _ _ hS _ _; rotate_left 2; (focus (simp only [List.getElem?_toArray, List.getElem?_cons_succ, List.getElem?_cons_zero]; rfl)); (focus exact fun _ _ _ h => h); (focus rfl); (focus (intro w1 hSS R hR; have hc := hSS.2.2; (try simp only [Cells] at hc); obtain ⟨hco, hfo⟩ := bcell hSS.1; go_simp; (try go_bits); exact hR)); simp only [Act.put, List.setIfInBounds_toArray, List.set_cons_zero, List.set_cons_succ]) | (refine' held_pass (i := 28) _ (by kernel_rfl) (by kernel_rfl) (by kernel_rfl) _ _ hS _; rotate_left; (focus (simp only [List.getElem?_toArray, List.getElem?_cons_succ, List.getElem?_cons_zero]; rfl)); (focus exact fun _ _ _ h => h); (focus rfl); simp only [Act.put, List.setIfInBounds_toArray, List.set_cons_zero, List.set_cons_succ]))
            (first | (refine' held_do (i := 29) _ (by kernel_rfl) (by kernel_rfl) (by kernel_rfl) _ _ hS _ _; rotate_left 2; (focus (simp only [List.getElem?_toArray, List.getElem?_cons_succ, List.getElem?_cons_zero]; rfl)); (focus exact fun _ _ _ h => h); (focus rfl); (focus (intro w1 hSS R hR; have hc := hSS.2.2; (try simp only [Cells] at hc); obtain ⟨hco, hfo⟩ := bcell hSS.1; go_simp; (try go_bits); exact hR)); simp only [Act.put, List.setIfInBounds_toArray, List.set_cons_zero, List.set_cons_succ]) | (refine' held_pass (i := 29) _ (by kernel_rfl) (by kernel_rfl) (by kernel_rfl) _ _ hS _; rotate_left; (focus (simp only [List.getElem?_toArray, List.getElem?_cons_succ, List.getElem?_cons_zero]; rfl)); (focus exact fun _ _ _ h => h); (focus rfl); simp only [Act.put, List.setIfInBounds_toArray, List.set_cons_zero, List.set_cons_succ]))
            (first | (refine' held_do (i := 30) _ (by kernel_rfl) (by kernel_rfl) (by kernel_rfl) _ _ hS _ _; rotate_left 2; (focus (simp only [List.getElem?_toArray, List.getElem?_cons_succ, List.getElem?_cons_zero]; rfl)); (focus exact fun _ _ _ h => h); (focus rfl); (focus (intro w1 hSS R hR; have hc := hSS.2.2; (try simp only [Cells] at hc); obtain ⟨hco, hfo⟩ := bcell hSS.1; go_simp; (try go_bits); exact hR)); simp only [Act.put, List.setIfInBounds_toArray, List.set_cons_zero, List.set_cons_succ]) | (refine' held_pass (i := 30) _ (by kernel_rfl) (by kernel_rfl) (by kernel_rfl) _ _ hS _; rotate_left; (focus (simp only [List.getElem?_toArray, List.getElem?_cons_succ, List.getElem?_cons_zero]; rfl)); (focus exact fun _ _ _ h => h); (focus rfl); simp only [Act.put, List.setIfInBounds_toArray, List.set_cons_zero, List.set_cons_succ]))
            (first | (refine' held_do (i := 31) _ (by kernel_rfl) (by kernel_rfl) (by kernel_rfl) _ _ hS _ _; rotate_left 2; (focus (simp only [List.getElem?_toArray, List.getElem?_cons_succ, List.getElem?_cons_zero]; rfl)); (focus exact fun _ _ _ h => h); (focus rfl); (focus (intro w1 hSS R hR; have hc := hSS.2.2; (try simp only [Cells] at hc); obtain ⟨hco, hfo⟩ := bcell hSS.1; go_simp; (try go_bits); exact hR)); simp only [Act.put, List.setIfInBounds_toArray, List.set_cons_zero, List.set_cons_succ]) | (refine' held_pass (i := 31) _ (by kernel_rfl) (by kernel_rfl) (by kernel_rfl) _ _ hS _; rotate_left; (focus (simp only [List.getElem?_toArray, List.getElem?_cons_succ, List.getElem?_cons_zero]; rfl)); (focus exact fun _ _ _ h => h); (focus rfl); simp only [Act.put, List.setIfInBounds_toArray, List.set_cons_zero, List.set_cons_succ]))
            (refine' held_one (i := 32) _ (by kernel_rfl) _ _; rotate_left; (focus (simp only [List.getElem?_toArray, List.getElem?_cons_succ, List.getElem?_cons_zero]; rfl)); (focus rfl); intro K hK; go_simp)
            have hS1 := hS.below ((Below.refl _ _).alloc (Nat.le_refl _) (.cells #[.int .i64 sa, .int .i64 y, .int .i64 (sb - sa), .int .i64 (z - y)] 44))
            refine hK _ _ hS1 ?_
            clear hK
            (try simp only [Act.put, List.setIfInBounds_toArray, List.set_cons_zero, List.set_cons_succ])
            (refine' held_one (i := 33) _ (by kernel_rfl) _ _; rotate_left; (focus (simp only [List.getElem?_toArray, List.getElem?_cons_succ, List.getElem?_cons_zero]; rfl)); (focus rfl); intro K hK)
            have hownq' := hownq.out
            unfold OwnsR at hownq'
            rw [hkk.out] at hownq'
            refine wp_append_blk _ _ _ rfl w4.heap.size 44 iR _ 4 32 Tryz.underlying25 hi0 hm0 hm1 hm2 rfl (by omega) _ 1 _ _ _ _ _ _ (by rfl) (hownq'.drew.alloc _) (Blk.new' rfl) (by rfl) (by rfl) (by simp [Value.oneCell']) (by omega) (by unfold maxLen; omega) (by simp; omega) ?_
            intro v6 w7 own7 gr7 at7 hb7
            have hS2 := held_grown hS1 gr7 (fun p hp he => by
              simp only [List.mem_cons, List.not_mem_nil, or_false] at hp
              rcases hp with rfl | rfl
              · exact hapq.out _ he rfl
              · exact hapq.out _ he rfl) (hS1.1.trans hb7)
            refine hK _ _ hS2 ?_
            clear hK
            (try simp only [Act.put, List.setIfInBounds_toArray, List.set_cons_zero, List.set_cons_succ])
            rw [flatR_snoc (t := ⟨sa, y, sb - sa, z - y⟩) (cs := [.int .i64 sa, .int .i64 y, .int .i64 (sb - sa), .int .i64 (z - y)]) rfl] at own7
            replace own7 := Lib.hid own7
            (refine' held_one (i := 34) _ (by kernel_rfl) _ _; rotate_left; (focus (simp only [List.getElem?_toArray, List.getElem?_cons_succ, List.getElem?_cons_zero]; rfl)); (focus rfl); intro K hK; go_simp)
            refine hK _ _ hS2 ?_
            clear hK
            (try simp only [Act.put, List.setIfInBounds_toArray, List.set_cons_zero, List.set_cons_succ])
            refine wpAnyH_done (by kernel_rfl) ?_ _
            go_wp2
            go_roundw
            case rel =>
              refine ⟨j + 1, m + 2, by omega, Lib.hid (by have := hm.out; omega), by go_num, ?_, ?_, ?_, hS2.1⟩
              · rw [hsnoc.out, ← List.append_assoc]
                unfold OwnsR
                rw [List.length_append, hkk.out]
                exact own7.out
              · exact own_keep ((hnow.out.drew).alloc _) gr7 (fun g h1 h2 => hapq.out g h2 h1)
              · intro g h1 h2
                rcases at7 g h1 with h | h
                · exact hapq.out g h h2
                · have h3 := (own_in hnow.out g h2).2
                  simp at h
                  omega
            case measure => simp [intOf]; omega
          · obtain rfl : j = J := by omega
            have hmN : ¬ (m : Int) < NL := by have := hNJ.out; have := hm.out; omega
            have htk : nw.take j = nw := by rw [List.take_of_length_le (by have := hJ.out; omega)]
            rw [htk] at hownq hkk
            clear htk
            obtain ⟨out', hout⟩ : ∃ o, out ++ rectsOf y (z - y) nw = o := ⟨_, rfl⟩
            rw [hout] at hownq hkk
            have hgo := hgo.out
            rw [hout] at hgo
            have hle := refGo_le now (X.drop (i + 1)) out' nw
            rw [hgo, hkk] at hle
            have hbd := rects_bd (l := nw) b3.out hyz iny
            rw [hout] at hbd
            have hnk : nw.length ≤ kk := by rw [← hkk, ← hout, List.length_append, rectsOf_len]; omega
            replace hownq := Lib.hid hownq
            replace hnow := Lib.hid hnow
            replace hapq := Lib.hid hapq
            replace hkk := Lib.hid hkk
            replace hgo := Lib.hid hgo
            replace hbd := Lib.hid hbd
            by_cases hbig : 1024 < kk
            · obtain ⟨rfl, rfl⟩ := out4.out (by omega)
              have hbig' : (1024 : Int) < kk := by omega
              clear hout hle hnk
              go_wp2
              refine bodyPost_ret (v := .tuple #[.slice none 0 0, .int .i64 4]) (by simp [results, Tryz.results51, go_sem]) rfl ⟨hb04.trans (hb4q.mono z04), _, rfl, OwnsR.nil _ _⟩
            · have hbig' : ¬ (1024 : Int) < kk := by omega
              replace hout := Lib.hid hout
              replace hle := Lib.hid hle
              replace hnk := Lib.hid hnk
              go_wp2
              go_roundw
              case rel => exact ⟨i + 1, out', nw, by omega, by go_num, hownq.out, own_lessI hnow.out z4r, hapq.out, hgo, Lib.hid ⟨by have := hkk.out; omega, by have := hkk.out; have := hnk.out; omega, fun c hc => by rw [hznext.out c hc]; exact hbd.out⟩, hb4q⟩
              case measure => simp [intOf]; omega
      · have hs : nw = last := of_decide_eq_true ht
        subst hs
        rw [if_pos rfl, hJ.out] at hgo
        rw [hJ.out] at b2
        replace hgo := Lib.hid hgo
        clear ht
        have AK := AK.out
        have hlast := hlast.out
        have hap := hap.out
        simp only [hNL] at AK
        rw [hNL] at hlast hap ⊢
        replace AK := Lib.hid AK
        replace hlast := Lib.hid hlast
        replace hap := Lib.hid hap
        replace hNJ := Lib.hid hNJ
        go_wp2_with (first | (go_at_call 67; (with_reducible refine (SP.out).mono ?_); rintro e w5 ⟨hb5, v5, rfl, ow5⟩; obtain ⟨s5, c5, rfl⟩ := own_slice ow5; rw [hNL] at ow5; rw [hNL]; have ow5 := Lib.hid ow5; obtain ⟨hc5, hf5⟩ := bcell hb5) | (go_at_call 68; (with_reducible refine (AK.out _ _ hb5 ow5.out).mono ?_); rintro e w6 ⟨rfl, hb6⟩; have hb56 := hb5.trans (hb6.mono hb5.size); have ow6 := Lib.hid (OwnsI.below ow5.out hb6 (Nat.le_refl _))) | go_in)
        replace AK := ow5
        clear AK ow5
        have hb46 := hb4r.trans (hb56.mono z4r)
        have z6 := hb46.size
        have hown6 := Lib.hid (OwnsR.below hown.out hb56 (Nat.le_refl _))
        have hlast6 := Lib.hid (OwnsI.below hlast.out hb56 (Nat.le_refl _))
        go_loopw [14] (fun kv wq => ∃ k : Nat, k ≤ J ∧ kv = .int .i64 k ∧ OwnsR w4.heap.size wq (.slice so n co) (growL out k (z - y)) ∧ w6.grownBy wq (Value.slice so n co).ownBlock) (fun kv _ => J - (intOf kv).toNat)
        case atStart => exact ⟨0, Nat.zero_le _, rfl, by rw [growL_zero]; exact hown6.out, grown_refl _ _⟩
        case round =>
          obtain ⟨k, hk, rfl, hownq, hgr⟩ := hrel
          have hb4q : Below w4.heap.size w4 wr := hb46.trans (grown_below hgr z6 (fun g h => (own_in hown6.out g h).1))
          have z4q := hb4q.size
          obtain ⟨hcq, hfq⟩ := bcell hb4q
          by_cases hkJ : k < J
          · have hown' := hownq
            unfold OwnsR at hown'
            rw [growL_len, hn.out] at hown'
            obtain ⟨g, rfl, hg1, hg2⟩ := own_addr hown' (by omega)
            obtain ⟨m, hm⟩ : ∃ m, n = k + m + 1 := ⟨n - k - 1, by omega⟩
            obtain ⟨q, hqm⟩ := get_at (k := m) hn.out (by omega)
            have hgm : (growL out k (z - y))[m]? = some q := (growL_at (hn.out.trans hm)).trans hqm
            have hstep := growL_step (d := z - y) (hn.out.trans hm) hqm
            obtain ⟨r0, r1, r2, r3⟩ := own_rmem hownq hgm
            obtain ⟨t0, t1⟩ := b3.out q (List.mem_of_getElem? hqm)
            have hfz := own_unfzR hownq
            have hidx : (n : Int) - 1 - k = m := by omega
            have hmn : (m : Int) < n := by omega
            have hkJi : (k : Int) < J := by omega
            have ybq : bb < wr.heap.size := by omega
            obtain ⟨qx, qy, qa, qb⟩ := q
            simp only at r0 r1 r2 r3 t0 t1 hstep
            clear hown'
            replace hownq := Lib.hid hownq
            replace hgm := Lib.hid hgm
            replace hqm := Lib.hid hqm
            replace hstep := Lib.hid hstep
            replace hm := Lib.hid hm
            replace hgr := Lib.hid hgr
            go_wp2
            refine wp_region_steady_then (Held wr 0 []) 24 (by kernel_rfl) (by kernel_rfl) (by decide) (by kernel_rfl) (by kernel_rfl) ⟨(by repeat (first | exact Below.refl _ _ | assumption | refine Below.drew ?_ | refine Below.alloc ?_ (by (try simp) <;> omega) _ | refine Below.setCell ?_ (by (try simp) <;> omega) _ | (refine Below.trans ?_ (Below.mono (by assumption) (by (try simp) <;> omega))))), (by (try simp) <;> omega), (by first | exact trivial | (simp only [Cells]; go_simp))⟩ ?_
            simp only [List.take_succ_cons, List.take_zero]
            repeat (first | (refine' wpSteady_do _ _ _; rotate_left; (focus rfl); (focus (intro w1 hS R hR; have hc := hS.cells; simp only [Cells] at hc; obtain ⟨hco, hfo⟩ := bcell hS.old; go_simp; (try go_bits); first | exact hR _ hS | fail)); simp only [Act.put, List.setIfInBounds_toArray, List.set_cons_zero, List.set_cons_succ]) | (refine wpSteady_pass ?_ ?_; (focus rfl); simp only [Act.put, List.setIfInBounds_toArray, List.set_cons_zero, List.set_cons_succ]))
            refine wpSteady_nil (fun uA hSA => ?_)
            have hcA := hSA.cells; have hbA := hSA.old; have hzA := hSA.size; clear hSA; simp only [Cells] at hcA; obtain ⟨hcoA, hfoA⟩ := bcell hbA
            simp only [List.drop_succ_cons, List.drop_zero, List.drop_nil]
            have yA : g < uA.heap.size := by omega
            have hfzA : ∀ o, uA.frozen? ⟨g, o, none⟩ = false := fun o => (hfoA g o hg2).trans (hfz o)
            go_wp2
            go_roundw
            case rel =>
              refine ⟨k + 1, by omega, by go_num, ?_, grown_set (grown_stay hgr.out hbA) rfl _ _⟩
              rw [hstep.out]
              exact own_putR (OwnsR.below hownq.out hbA (Nat.le_refl _)) (by rw [growL_len, hn.out]) hgm.out (qb + (z - y))
            case measure => simp [intOf]; omega
          · obtain rfl : k = J := by omega
            have hkJi : ¬ (k : Int) < k := by omega
            have hbd := growL_bd (k := k) b3.out hyz
            replace hbd := Lib.hid hbd
            replace hownq := Lib.hid hownq
            replace hgr := Lib.hid hgr
            go_wp2
            go_roundw
            case rel => exact ⟨i + 1, growL out k (z - y), nw, by omega, by go_num, hownq.out, own_keep hlast6.out hgr.out (fun g h1 h2 => hap.out g h2 h1), hap.out, hgo, Lib.hid ⟨by rw [growL_len, hn.out]; exact b1, by rw [growL_len, hn.out, hJ.out]; exact b2, fun c hc => by rw [hznext.out c hc]; exact hbd.out⟩, hb4q⟩
            case measure => simp [intOf]; omega
    · have hgo := hgo.out
      rw [ref_end (by have := hN.out; omega)] at hgo
      obtain ⟨b1, _, _⟩ := hbd.out
      subst hgo
      obtain ⟨rfl, rfl⟩ := out0.out b1
      replace hown := Lib.hid hown
      replace hlast := Lib.hid hlast
      replace hap := Lib.hid hap
      have hii2 : ¬ (i : Int) + 1 < N := by omega
      clear b1
      go_wp2
      refine bodyPost_ret (v := .tuple #[.slice so ML.length co, .int .i64 0]) (by simp [results, Tryz.results51, go_sem]) rfl ⟨hbr, _, rfl, ?_⟩
      exact own_less hown.out z04
end
section
set_option linter.unusedSimpArgs false
set_option linter.unusedVariables false
theorem MadePost.mono {E : Int} {L : List Re} {w w1 : World} {e : Ending} {w' : World} (hb : Below w.heap.size w w1) (h : MadePost E L w1 e w') : MadePost E L w e w' := by
  obtain ⟨h1, v, h2, h3⟩ := h
  exact ⟨hb.trans (h1.mono hb.size), v, h2, own_less h3 hb.size⟩
theorem kof_any (a : List Re) (va : Value) (w : World) (ha : Row w.heap.size 4 Re.enc w va a) (wa : WfL a) :
    Calls Tryz.prog 29 #[va] w (MadePost (bothE a [] 1) (bothL a [] 1) w) := by
  have AS := kasked_any a va w ha wa
  have e1 : askR a [] = chkR a := by unfold askR; split <;> simp_all [chkR]
  unfold bothE bothL
  rw [e1]
  by_cases h0 : chkR a = 0
  · rw [if_pos h0, if_pos h0]
    rw [h0] at AS
    obtain ⟨ma, la⟩ := chkR_may h0
    have MD := fun w1 (h : Below w.heap.size w w1) => kmade_any a [] va (.slice none 0 0) 1 w1 ((ha.below h).mono h.size) (nilRow _ _) ma mayL_nil (by omega) (by simp) (.inl rfl)
    generalize madeE a [] 1 = E at *
    generalize madeL a [] 1 = L at *
    replace AS := Lib.hid AS
    replace MD := Lib.hid MD
    clear ha e1 h0
    go_enter Tryz.func29, Tryz.ntmps29
    go_wp2_with (first
      | (go_at_call 50; (with_reducible refine (AS.out).mono ?_); rintro e w1 ⟨rfl, hb1⟩)
      | (go_at_call 51; (with_reducible refine (MD.out _ hb1).mono ?_); rintro e w2 ⟨hb2, v, rfl, hcut⟩)
      | go_in)
    go_ret2
    exact ⟨hb1.trans (hb2.mono hb1.size), v, rfl, own_less hcut hb1.size⟩
  · rw [if_neg h0, if_neg h0]
    have h0' : (chkR a == 0) = false := by simp [h0]
    have h0n : (chkR a != 0) = true := by simp [h0]
    generalize chkR a = E at *
    replace AS := Lib.hid AS
    clear ha e1
    go_enter Tryz.func29, Tryz.ntmps29
    go_wp2_with (first
      | (go_at_call 50; (with_reducible refine (AS.out).mono ?_); rintro e w1 ⟨rfl, hb1⟩)
      | go_in)
    go_ret2
    exact ⟨hb1, _, rfl, OwnsR.nil _ _⟩
end
end Go.Proofs.YtkmofpnefjgnkaaGreat
