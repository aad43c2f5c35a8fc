/-
  XGf: XRegCe XRegCf.
-/
import Derived.Test.YtfcphagmjijmkaaGreatDoorDt15
import Derived.Test.YtfcphagmjijmkaaGreatDoorDt18
namespace Go.Proofs.YtfcphagmjijmkaaGreatDoor
open Go.RowKit
set_option linter.unusedVariables false
set_option linter.unusedSimpArgs false
attribute [local go_sem] vwp vUpon_value vUpon_skip vUpon_enter vUpon_row
set_option maxHeartbeats 16000000
section
def HtB (out : List Re) (c : Int) : Prop := ∀ q ∈ out, 0 ≤ q.ht ∧ q.ht ≤ c + 16384
theorem endsS_inj : ∀ {l m : List Sp}, endsS l = endsS m → l = m
 | [], [], _ => rfl
 | [], t :: m, h => by simp [endsS] at h
 | s :: l, [], h => by simp [endsS] at h
 | s :: l, t :: m, h => by
  rw [show endsS (s :: l) = s.1 :: s.2 :: endsS l from rfl, show endsS (t :: m) = t.1 :: t.2 :: endsS m from rfl] at h
  injection h with h1 h
  injection h with h2 h
  rw [endsS_inj h, Prod.ext h1 h2]
theorem alike_ends (l m : List Sp) : eqIs (endsS l) (endsS m) = decide (l = m) := by
 rw [Bool.eq_iff_iff, eqIs_iff, decide_eq_true_eq]; exact ⟨endsS_inj, fun h => by rw [h]⟩
theorem growL_zero (out : List Re) (d : Int) : growL out 0 d = out := by unfold growL; simp
theorem growL_at {out : List Re} {k m : Nat} {d : Int} (hn : out.length = k + m + 1) : (growL out k d)[m]? = out[m]? := by
 unfold growL; rw [List.getElem?_append_left (by rw [List.length_take]; omega), List.getElem?_take_of_lt (by omega)]
theorem growL_step {out : List Re} {k m : Nat} {d : Int} {q : Re} (hn : out.length = k + m + 1) (hq : out[m]? = some q) : growL out (k + 1) d = (growL out k d).set m ⟨q.x, q.y, q.wd, q.ht + d⟩ := by
 unfold growL; rw [show out.length - (k + 1) = m by omega, show out.length - k = m + 1 by omega, List.set_append_left _ _ (by rw [List.length_take]; omega)]; rw [drop_get hq, List.map_cons]
 have : out.take (m + 1) = out.take m ++ [q] := by rw [List.take_add_one, hq]; rfl
 rw [this, List.set_append_right _ _ (by rw [List.length_take]; omega)]
 have : m - (out.take m).length = 0 := by rw [List.length_take]; omega
 rw [this]
 simp
theorem growL_bd {out : List Re} {k : Nat} {y z : Int} (h : HtB out y) (hyz : y ≤ z) : HtB (growL out k (z - y)) z := by
 intro q hq
 unfold growL at hq
 rcases List.mem_append.1 hq with hq | hq
 ·have := h q (List.mem_of_mem_take hq)
  omega
 ·obtain ⟨p, hp, rfl⟩ := List.mem_map.1 hq
  have := h p (List.mem_of_mem_drop hp); simp only; omega
theorem rects_bd {out : List Re} {l : List Sp} {y z : Int} (h : HtB out y) (hyz : y ≤ z) (hy : InM y) : HtB (out ++ rectsOf y (z - y) l) z := by
 intro q hq
 rcases List.mem_append.1 hq with hq | hq
 ·have := h q hq
  omega
 ·obtain ⟨p, hp, rfl⟩ := List.mem_map.1 hq
  unfold InM at hy; simp only; omega
theorem ref_step {now : Int → List Sp} {out : List Re} {last : List Sp} {X : List Int} {i : Nat} {y z : Int} (h1 : X[i]? = some y) (h2 : X[i + 1]? = some z) :
  refGo now out last (X.drop i) = if now y = last then refGo now (growL out last.length (z - y)) last (X.drop (i + 1)) else refGo now (out ++ rectsOf y (z - y) (now y)) (now y) (X.drop (i + 1)) := by
 rw [drop_get h1, drop_get h2]
 rfl
theorem ref_end {now : Int → List Sp} {out : List Re} {last : List Sp} {X : List Int} {i : Nat} (h : X.length ≤ i + 1) : refGo now out last (X.drop i) = out := by
 have : (X.drop i).length ≤ 1 := by rw [List.length_drop]; omega
 match hX : X.drop i, this with
 | [], _ => rfl
 | [_], _ => rfl
theorem rise_le {X : List Int} (h : Rise X) {i : Nat} {y z : Int} (h1 : X[i]? = some y) (h2 : X[i + 1]? = some z) : y ≤ z := by
 have hd := drop_get h1; rw [drop_get h2] at hd
 have : ∀ (l : List Int) (k : Nat), Rise l → Rise (l.drop k) := by
  intro l k
  induction k generalizing l with
  | zero => intro h; simpa using h
  | succ k ih =>
   intro h
   cases l with
   | nil => simpa using h
   | cons a r => exact ih r h.tail
 have hr := this X i h; rw [hd] at hr; exact Int.le_of_lt (hr.above z (by simp))
theorem endsS_fst : ∀ {M : List Sp} {p : Nat} {t : Sp}, M[p]? = some t → (endsS M)[2 * p]? = some t.1
 | [], p, t, h => by simp at h
 | s :: M, 0, t, h => by simp at h; subst h; rfl
 | s :: M, p + 1, t, h => by
  have := endsS_fst (M := M) (p := p) (t := t) (by simpa using h); rw [show endsS (s :: M) = s.1 :: s.2 :: endsS M from rfl, show 2 * (p + 1) = (2 * p) + 1 + 1 by omega, List.getElem?_cons_succ, List.getElem?_cons_succ]; exact this
theorem grown_set {w w' : World} {r : Option Nat} {g : Nat} (h : w.grownBy w' r) (hr : r = some g) (o : Nat) (u : Value) : w.grownBy (w'.setCell ⟨g, o, none⟩ u) r := by
 subst hr; refine ⟨h.os, h.tape, h.output, ?_, fun k hk hne => ?_⟩
 ·have e : (w'.setCell ⟨g, o, none⟩ u).heap.size = w'.heap.size := by simp
  rw [e]; exact h.size
 ·rw [heap_setCell_other _ _ _ _ (by rintro rfl; exact hne rfl)]
  exact h.block k hk hne
theorem grown_stay {w w1 w2 : World} {r : Option Nat} (h : w.grownBy w1 r) (hb : Below w1.heap.size w1 w2) : w.grownBy w2 r :=
 ⟨hb.os.trans h.os, hb.tape.trans h.tape, hb.output.trans h.output, Nat.le_trans h.size hb.size, fun k hk hne => (hb.block k (Nat.lt_of_lt_of_le hk h.size)).trans (h.block k hk hne)⟩
theorem own_putR {w : World} {base g n cap k : Nat} {C : List Re} {q : Re} (h : OwnsR base w (.slice (some ⟨g, 0, none⟩) n cap) C) (hn : C.length = n) (hq : C[k]? = some q) (u : Int) : OwnsR base (w.setCell ⟨g, k * 4 + 3, none⟩ (.int .i64 u)) (.slice (some ⟨g, 0, none⟩) n cap) (C.set k ⟨q.x, q.y, q.wd, u⟩) := by
 have hk := (List.getElem?_eq_some_iff.1 hq).1; unfold OwnsR at *; rw [List.length_set, hn]; rw [hn] at h; have := own_put h (k := k * 4 + 3) (by omega) (.int .i64 u); rw [flat_set Re.enc_len 3 (.int .i64 u) q ⟨q.x, q.y, q.wd, u⟩ (by omega) rfl C k hq] at this; exact this
theorem own_unfzR {w : World} {base g n cap : Nat} {C : List Re} (h : OwnsR base w (.slice (some ⟨g, 0, none⟩) n cap) C) (o : Nat) : w.frozen? ⟨g, o, none⟩ = false := by
 rcases h.2 with ⟨h0, _⟩ | ⟨g', cap', cur, hv, hg, hh, _⟩
 ·cases h0
 ·injection hv with hv _ _
  injection hv with hv
  injection hv with hv _ _
  subst hv
  simp [World.frozen?, hh]
theorem edgesY_len (a b : List Re) : (edgesY a b).length ≤ a.length * 2 + b.length * 2 := by
 unfold edgesY; have h1 := edgF_fold true 0 a []; have h2 := edgF_fold true 0 b (a.foldl edgY []); rw [edgF_true] at h1 h2
 simp at h1
 omega
def MadePost (E : Int) (L : List Re) (w : World) (e : Ending) (w' : World) : Prop := Below w.heap.size w w' ∧ ∃ v, e = .returned (.tuple #[v, .int .i64 E]) ∧ OwnsR w.heap.size w' v L
set_option maxRecDepth 100000 in
theorem kmade_any (a b : List Re) (va vb : Value) (what : Int) (w : World) (ha : Row w.heap.size 4 Re.enc w va a) (hb : Row w.heap.size 4 Re.enc w vb b) (ma : MayL a) (mb : MayL b) (la : a.length ≤ 100000) (lb : b.length ≤ 100000) (hw : what = 1 ∨ what = 2 ∨ what = 3) :
  Calls Tryz.prog 123 #[va, vb, .int .i64 what] w (MadePost (madeE a b what) (madeL a b what) w) := by
 obtain ⟨iR, hi0, hm0, hm1, hm2⟩ := info_parts infoRe; have E1 := kedges_any [] a (.slice none 0 0) va true 0 w.heap.size w (OwnsI.nil _ _) ha ma lrr (by simp) la
 have E2 := fun w1 v1 (h : OwnsI w.heap.size w1 v1 (a.foldl (edgF true 0) [])) (h2 : Below w.heap.size w w1) => kedges_any (a.foldl (edgF true 0) []) b v1 vb true 0 w.heap.size w1 h (hb.below h2) mb h2.size (by have := edgF_fold true 0 a []; simp at this; omega) lb
 obtain ⟨X1, hX1⟩ := exx (a.foldl (edgF true 0) []); obtain ⟨X, hX⟩ := exx (edgesY a b)
 have hXe : b.foldl (edgF true 0) X1 = X := by rw [← hX, ← hX1, edgF_true]; rfl
 have hXl : X.length ≤ 400000 := by rw [← hX]; have := edgesY_len a b; omega
 have hXr : Rise X := by rw [← hX]; exact edgesY_rise a b
 have hXin : ∀ x ∈ X, InM x := fun x hx => by rw [← hX] at hx; exact edgesY_in ma mb x hx
 rw [hX1] at E1 E2; rw [hXe] at E2; obtain ⟨now, hnow⟩ := exx ((fun y => spansP a b what y))
 have hnl : ∀ y, (now y).length ≤ 200000 := fun y => by rw [← hnow]; have := spans_len2 ma.sane mb.sane what y; simp only; omega
 have hnin : ∀ y, ∀ s ∈ now y, InM s.1 ∧ InM s.2 := fun y => by rw [← hnow]; exact spans_in ma mb what y
 obtain ⟨R, hR⟩ := exx (formR a b what)
 have hgo : refGo now [] [] (X.drop 0) = R := by rw [List.drop_zero, refGo_form, ← hnow, ← hX]; exact hR
 have SP := fun y W (h : Below w.heap.size w W) => kspans_any a b va vb what y W ((ha.below h).mono h.size) ((hb.below h).mono h.size) ma mb la lb hw
 have SP' : ∀ y W, Below w.heap.size w W → Calls Tryz.prog 172 #[va, vb, .int .i64 what, .int .i64 y] W (SpansPost (now y) W) := by rw [← hnow]; exact SP
 obtain ⟨E, hE⟩ := exx (madeE a b what); obtain ⟨ML, hML⟩ := exx (madeL a b what)
 have out4 : 1024 < R.length → E = 4 ∧ ML = [] := fun h => by rw [← hE, ← hML]; unfold madeE madeL; rw [hR, if_pos h, if_pos h]; exact ⟨rfl, rfl⟩
 have out0 : R.length ≤ 1024 → E = 0 ∧ ML = R := fun h => by rw [← hE, ← hML]; unfold madeE madeL; rw [hR, if_neg (by omega), if_neg (by omega)]; exact ⟨rfl, rfl⟩
 rw [hE, hML]; obtain ⟨s1, c1, rfl, hmax1⟩ := ha.shape; obtain ⟨s2, c2, rfl, hmax2⟩ := hb.shape; unfold MadePost; replace E1 := hdh E1; replace E2 := hdh E2; replace SP := hdh SP'; replace hgo := hdh hgo; replace hXin := hdh hXin; replace hXr := hdh hXr; replace hnl := hdh hnl; replace hnin := hdh hnin; replace out4 := hdh out4; replace out0 := hdh out0; clear ha hb hX1 hX hXe hR hw hE hML hnow SP'
 go_enter Tryz.func123, Tryz.ntmps123
 go_wp2_with (first
  | (go_at_call 171; (with_reducible refine (E1.out).mono ?_); rintro e w1 ⟨gr1, v1, rfl, ow1, _⟩; have hb1 : Below w.heap.size w w1 := grown_below gr1 lrr (fun g h => by cases h); replace ow1 := hdh ow1)
  | (go_at_call 171; (with_reducible refine (E2.out _ _ ow1.out hb1).mono ?_); rintro e w4 ⟨gr4, v4, rfl, ow4, _⟩; have hb04 : Below w.heap.size w w4 := hb1.trans (grown_below gr4 hb1.size (fun g h => (own_block_lt ow1.out g h).1)))
  | go_in)
 clear hb1 gr1 gr4 ow1 E1 E2; obtain ⟨s4, c4, rfl⟩ := own_slice ow4
 have hX4 := fun h0 => row_in (ow4.row lrr) h0
 have z04 := hb04.size; obtain ⟨N, hN⟩ := exx (X.length); rw [hN] at hX4 hXl ⊢; replace hX4 := hdh hX4; replace hN := hdh hN; clear ow4
 go_loopw [9, 10, 11] (fun ov lv iv wr => ∃ (i : Nat) (out : List Re) (last : List Sp), i ≤ N ∧ iv = .int .i64 i ∧ OwnsR w4.heap.size wr ov out ∧ OwnsI w4.heap.size wr lv (endsS last) ∧ Apart ov lv ∧ Hid (refGo now out last (X.drop i) = R) ∧ Hid (out.length ≤ 1024 ∧ last.length ≤ out.length ∧ ∀ c, X[i]? = some c → HtB out c) ∧ Below w4.heap.size w4 wr) (fun _ _ iv _ => N - (intOf iv).toNat)
 case atStart => exact ⟨0, [], [], Nat.zero_le _, rfl, OwnsR.nil _ _, OwnsI.nil _ _, Apart.none _ _ _, hgo, hdh ⟨by simp, by simp, fun c _ q hq => by simp at hq⟩, Below.refl _ _⟩
 case round =>
  obtain ⟨wo, rfl⟩ : ∃ wo : World, wo = wr := ⟨_, rfl⟩; obtain ⟨i, out, last, hi, rfl, hown, hlast, hap, hgo, hbd, hb4r⟩ := hrel; have hbr := hb04.trans (hb4r.mono z04); have zr := hbr.size; have z4r := hb4r.size; obtain ⟨so, co, rfl⟩ := own_slice hown; obtain ⟨sl, cl, rfl⟩ := own_slice hlast
  by_cases hiN : i + 1 < N
  ·obtain ⟨bb, o, cap', e, yb, _, _, hel⟩ := hX4.out (by omega)
   simp at e
   obtain ⟨rfl, rfl⟩ := e; obtain ⟨y, hy⟩ := get_at hN.out (show i < N by omega); obtain ⟨z, hz⟩ := get_at hN.out hiN; have g0 := hel i y hy; have g1 := hel (i + 1) z hz; obtain ⟨hcr, hfr⟩ := bcell hb4r; have iny := hXin.out y (List.mem_of_getElem? hy); obtain ⟨y0, y1⟩ := id iny; obtain ⟨z0, z1⟩ := id (hXin.out z (List.mem_of_getElem? hz)); have hyz := rise_le hXr.out hy hz; have hgo := hgo.out; rw [ref_step hy hz] at hgo; obtain ⟨b1, b2, b3⟩ := hbd.out; have b3 := b3 y hy
   have hznext : ∀ c, X[i + 1]? = some c → c = z := fun c h => Option.some.inj (h.symm.trans hz)
   have SP := SP.out y wo hbr; have hnl := hnl.out y; have hnin := hnin.out y; obtain ⟨nw, hnw⟩ := exx (now y); rw [hnw] at SP hgo hnl hnin
   have AK : ∀ w5 v5, Below wo.heap.size wo w5 → OwnsI wo.heap.size w5 v5 (endsS nw) → Calls Tryz.prog 173 #[v5, .slice sl (endsS last).length cl] w5 fun e w' => e = .returned (.bool (decide (nw = last))) ∧ Below w5.heap.size w5 w' := fun w5 v5 h1 h2 => by
    have := alike_any (endsS nw) (endsS last) v5 _ w5 (h2.row lrr) ((OwnsI.below hlast h1 lrr).row lrr) (by rw [endsS_len]; omega) (by rw [endsS_len]; omega); rw [alike_ends] at this; exact this
   have hii : (i : Int) < N := by omega
   have hii2 : (i : Int) + 1 < N := by omega
   have ybr : bb < wo.heap.size := by omega
   clear hel hy hz hnw hbd; replace SP := hdh SP; obtain ⟨NL, hNL⟩ := exx ((endsS nw).length); obtain ⟨J, hJ⟩ := exx (nw.length)
   have hNJ : NL = 2 * J := by rw [← hNL, endsS_len, hJ]; omega
   obtain ⟨n, hn⟩ := exx (out.length); rw [hn] at b1 b2; rw [hn] at hown hap ⊢
   have hq : (NL : Int) / 2 = J := by omega
   have hNLb : NL ≤ 400000 := by omega
   obtain ⟨t, ht⟩ : ∃ t, decide (nw = last) = t := ⟨_, rfl⟩; simp only [ht] at AK; replace AK := hdh AK; replace hlast := hdh hlast; replace hown := hdh hown; replace hap := hdh hap; replace hznext := hdh hznext; replace hn := hdh hn; replace b3 := hdh b3; replace hnin := hdh hnin; replace hJ := hdh hJ
   cases t
   ·have hne : ¬ nw = last := of_decide_eq_false ht
    rw [if_neg hne] at hgo; replace hgo := hdh hgo; clear hne ht; replace hq := hdh hq; replace hNJ := hdh hNJ
    go_wp2_with (first | (go_at_call 172; (with_reducible refine (SP.out).mono ?_); rintro e w5 ⟨hb5, v5, rfl, ow5⟩; obtain ⟨s5, c5, rfl⟩ := own_slice ow5; rw [hNL] at ow5; rw [hNL]; have ow5 := hdh ow5; obtain ⟨hc5, hf5⟩ := bcell hb5) | (go_at_call 173; (with_reducible refine cmm (AK.out _ _ hb5 ow5.out) fun w6 hb6 => ?_); have hb56 := hb5.trans (hb6.mono hb5.size); have ow6 := hdh (OwnsI.below ow5.out hb6 lrr)) | go_in)
    replace AK := ow5; clear AK ow5; have hb46 := hb4r.trans (hb56.mono z4r); have z6 := hb46.size
    have hap0 : Apart (.slice so n co) (.slice s5 NL c5) := fun g h1 h2 => by
     have h3 := (own_in hown.out g h1).2; have h4 := (own_in ow6.out g h2).1; omega
    have hown6 := hdh (OwnsR.below hown.out hb56 lrr); replace hap0 := hdh hap0
    go_loopw [9, 15] (fun ov kv wr => ∃ (j m : Nat), j ≤ J ∧ Hid (m = 2 * j) ∧ kv = .int .i64 m ∧ OwnsR w4.heap.size wr ov (out ++ rectsOf y (z - y) (nw.take j)) ∧ OwnsI wo.heap.size wr (.slice s5 NL c5) (endsS nw) ∧ Apart ov (.slice s5 NL c5) ∧ Below w4.heap.size w4 wr) (fun _ kv _ => NL - (intOf kv).toNat)
    case atStart => exact ⟨0, 0, Nat.zero_le _, hdh rfl, rfl, by simpa [rectsOf] using hown6.out, ow6.out, hap0.out, hb46⟩
    case round =>
     clear hown6 hap0; obtain ⟨j, m, hj, hm, rfl, hownq, hnow, hapq, hb4q⟩ := hrel; have z4q := hb4q.size; obtain ⟨sq, cq, rfl⟩ := own_slice hownq; obtain ⟨kk, hkk⟩ := exx ((out ++ rectsOf y (z - y) (nw.take j)).length)
     have hkb : kk ≤ 300000 := by rw [← hkk, List.length_append, rectsOf_len, List.length_take, hn.out]; omega
     rw [hkk] at hownq hapq ⊢; obtain ⟨hcq, hfq⟩ := bcell hb4q
     by_cases hjJ : j < J
     ·obtain ⟨s, hs⟩ := get_at hJ.out hjJ
      have e1 := endsS_fst hs; have e2 := endsS_last hs; rw [← hm.out] at e1 e2; have hnow' := hnow; unfold OwnsI at hnow'; rw [hNL] at hnow'; obtain ⟨gn, rfl, hg1, hg2⟩ := own_addr hnow' (by have := hNJ.out; omega); have n0 := own_int hnow e1; have n1 := own_int hnow e2; have f0 := own_unfzI hnow m; have f1 := own_unfzI hnow (m + 1); obtain ⟨⟨p0, p1⟩, ⟨p2, p3⟩⟩ := id (hnin.out s (List.mem_of_getElem? hs)); have hsnoc := rectsOf_snoc y (z - y) hs; obtain ⟨sa, sb⟩ := s; simp only at n0 n1 p0 p1 p2 p3 hsnoc
      have hmN : (m : Int) < NL := by have := hNJ.out; have := hm.out; omega
      have hmN2 : (m : Int) + 1 < NL := by have := hNJ.out; have := hm.out; omega
      have ybq : bb < wr.heap.size := by omega
      clear hnow' e1 e2 hs; replace hownq := hdh hownq; replace hnow := hdh hnow; replace hapq := hdh hapq; replace hsnoc := hdh hsnoc; replace hkk := hdh hkk; go_wp2; refine held_begin (Held w4 0 [(⟨gn, m, none⟩, .int .i64 sa), (⟨gn, m + 1, none⟩, .int .i64 sb)]) (by kernel_rfl) ⟨Below.drew hb4q, by simp; omega, by simp only [Cells]; go_simp⟩ (fun hS => ?_)
      (refine' hdo 0 hS ?_; simp only [pu])
      (refine' hdo 1 hS ?_; simp only [pu])
      (refine' hdo 2 hS ?_; simp only [pu])
      (refine' hdo 3 hS ?_; simp only [pu])
      (refine' hdo 4 hS ?_; simp only [pu])
      (refine' hdo 5 hS ?_; simp only [pu])
      (refine' hdo 6 hS ?_; simp only [pu])
      (refine' hdo 7 hS ?_; simp only [pu])
      (refine' hdo 8 hS ?_; simp only [pu])
      (refine' hdo 9 hS ?_; simp only [pu])
      (refine' hdo 10 hS ?_; simp only [pu])
      (refine' hdo 11 hS ?_; simp only [pu])
      (refine' hdo 12 hS ?_; simp only [pu])
      (refine' hdo 13 hS ?_; simp only [pu])
      (refine' hdo 14 hS ?_; simp only [pu])
      (refine' hdo 15 hS ?_; simp only [pu])
      (refine' hdo 16 hS ?_; simp only [pu])
      (refine' hdo 17 hS ?_; simp only [pu])
      (refine' hdo 18 hS ?_; simp only [pu])
      (refine' hdo 19 hS ?_; simp only [pu])
      (refine' hdo 20 hS ?_; simp only [pu])
      (refine' hdo 21 hS ?_; simp only [pu])
      (refine' hdo 22 hS ?_; simp only [pu])
      (refine' hdo 23 hS ?_; simp only [pu])
      (refine' hdo 24 hS ?_; simp only [pu])
      (refine' hdo 25 hS ?_; simp only [pu])
      (refine' hdo 26 hS ?_; simp only [pu])
      (refine' hdo 27 hS ?_; simp only [pu])
      (refine' hdo 28 hS ?_; simp only [pu])
      (refine' hdo 29 hS ?_; simp only [pu])
      (refine' hdo 30 hS ?_; simp only [pu])
      (refine' hdo 31 hS ?_; simp only [pu])
      (refine honn 32 fun K hK => ?_; go_simp)
      have hS1 := hS.below ((Below.refl _ _).alloc lrr (.cells #[.int .i64 sa, .int .i64 y, .int .i64 (sb - sa), .int .i64 (z - y)] 32)); refine hK _ _ hS1 ?_; clear hK
      (try simp only [pu])
      (refine' held_one (i := 33) _ (by kernel_rfl) _ _; rotate_left; (focus exact geti); (focus rfl); intro K hK)
      have hownq' := hownq.out; unfold OwnsR at hownq'; rw [hkk.out] at hownq'; refine wp_append_blk _ _ _ rfl w4.heap.size 32 iR _ 4 32 Tryz.underlying25 hi0 hm0 hm1 hm2 rfl (by omega) _ 1 _ _ _ _ _ _ (by rfl) (hownq'.drew.alloc _) (Blk.new' rfl) (by rfl) (by rfl) (by simp [Value.oneCell']) (by omega) (by unfold maxLen; omega) (by simp; omega) ?_
      intro v6 w7 own7 gr7 at7 hb7
      have hS2 := held_grown hS1 gr7 (fun p hp he => by
       simp only [List.mem_cons, List.not_mem_nil, or_false] at hp
       rcases hp with rfl | rfl
       ·exact hapq.out _ he rfl
       ·exact hapq.out _ he rfl) (hS1.1.trans hb7)
      refine hK _ _ hS2 ?_; clear hK
      (try simp only [pu])
      rw [flatR_snoc (t := ⟨sa, y, sb - sa, z - y⟩) (cs := [.int .i64 sa, .int .i64 y, .int .i64 (sb - sa), .int .i64 (z - y)]) rfl] at own7; replace own7 := hdh own7
      (refine honn 34 fun K hK => ?_; go_simp)
      refine hK _ _ hS2 ?_; clear hK
      (try simp only [pu])
      refine wpAnyH_done (by kernel_rfl) ?_ _; go_wp2; go_roundw
      case rel =>
       refine ⟨j + 1, m + 2, by omega, hdh (by have := hm.out; omega), by go_num, ?_, ?_, ?_, hS2.1⟩
       ·rw [hsnoc.out, ← List.append_assoc]
        unfold OwnsR; rw [List.length_append, hkk.out]; exact own7.out
       ·exact own_keep ((hnow.out.drew).alloc _) gr7 (fun g h1 h2 => hapq.out g h2 h1)
       ·intro g h1 h2
        rcases at7 g h1 with h | h
        ·exact hapq.out g h h2
        ·have h3 := (own_in hnow.out g h2).2
         simp at h
         omega
      case measure => simp [intOf]; omega
     ·obtain rfl : j = J := by omega
      have hmN : ¬ (m : Int) < NL := by have := hNJ.out; have := hm.out; omega
      have htk : nw.take j = nw := by rw [List.take_of_length_le (by have := hJ.out; omega)]
      rw [htk] at hownq hkk; clear htk; obtain ⟨out', hout⟩ := exx (out ++ rectsOf y (z - y) nw); rw [hout] at hownq hkk; have hgo := hgo.out; rw [hout] at hgo; have hle := refGo_le now (X.drop (i + 1)) out' nw; rw [hgo, hkk] at hle; have hbd := rects_bd (l := nw) b3.out hyz iny; rw [hout] at hbd
      have hnk : nw.length ≤ kk := by rw [← hkk, ← hout, List.length_append, rectsOf_len]; omega
      replace hownq := hdh hownq; replace hnow := hdh hnow; replace hapq := hdh hapq; replace hkk := hdh hkk; replace hgo := hdh hgo; replace hbd := hdh hbd
      by_cases hbig : 1024 < kk
      ·obtain ⟨rfl, rfl⟩ := out4.out (by omega)
       have hbig' : (1024 : Int) < kk := by omega
       clear hout hle hnk; go_wp2; refine bodyPost_ret (v := .tuple #[.slice none 0 0, .int .i64 4]) (by simp [results, Tryz.results123, go_sem]) rfl ⟨hb04.trans (hb4q.mono z04), _, rfl, OwnsR.nil _ _⟩
      ·have hbig' : ¬ (1024 : Int) < kk := by omega
       replace hout := hdh hout; replace hle := hdh hle; replace hnk := hdh hnk; go_wp2; go_roundw
       case rel => exact ⟨i + 1, out', nw, by omega, by go_num, hownq.out, own_lessI hnow.out z4r, hapq.out, hgo, hdh ⟨by have := hkk.out; omega, by have := hkk.out; have := hnk.out; omega, fun c hc => by rw [hznext.out c hc]; exact hbd.out⟩, hb4q⟩
       case measure => simp [intOf]; omega
   ·have hs : nw = last := of_decide_eq_true ht
    subst hs; rw [if_pos rfl, hJ.out] at hgo; rw [hJ.out] at b2; replace hgo := hdh hgo; clear ht; have AK := AK.out; have hlast := hlast.out; have hap := hap.out; simp only [hNL] at AK; rw [hNL] at hlast hap ⊢; replace AK := hdh AK; replace hlast := hdh hlast; replace hap := hdh hap; replace hNJ := hdh hNJ
    go_wp2_with (first | (go_at_call 172; (with_reducible refine (SP.out).mono ?_); rintro e w5 ⟨hb5, v5, rfl, ow5⟩; obtain ⟨s5, c5, rfl⟩ := own_slice ow5; rw [hNL] at ow5; rw [hNL]; have ow5 := hdh ow5; obtain ⟨hc5, hf5⟩ := bcell hb5) | (go_at_call 173; (with_reducible refine cmm (AK.out _ _ hb5 ow5.out) fun w6 hb6 => ?_); have hb56 := hb5.trans (hb6.mono hb5.size); have ow6 := hdh (OwnsI.below ow5.out hb6 lrr)) | go_in)
    replace AK := ow5; clear AK ow5; have hb46 := hb4r.trans (hb56.mono z4r); have z6 := hb46.size; have hown6 := hdh (OwnsR.below hown.out hb56 lrr); have hlast6 := hdh (OwnsI.below hlast.out hb56 lrr)
    go_loopw [14] (fun kv wq => ∃ k : Nat, k ≤ J ∧ kv = .int .i64 k ∧ OwnsR w4.heap.size wq (.slice so n co) (growL out k (z - y)) ∧ w6.grownBy wq (Value.slice so n co).ownBlock) (fun kv _ => J - (intOf kv).toNat)
    case atStart => exact ⟨0, Nat.zero_le _, rfl, by rw [growL_zero]; exact hown6.out, grown_refl _ _⟩
    case round =>
     obtain ⟨k, hk, rfl, hownq, hgr⟩ := hrel; have hb4q : Below w4.heap.size w4 wr := hb46.trans (grown_below hgr z6 (fun g h => (own_in hown6.out g h).1)); have z4q := hb4q.size; obtain ⟨hcq, hfq⟩ := bcell hb4q
     by_cases hkJ : k < J
     ·have hown' := hownq
      unfold OwnsR at hown'; rw [growL_len, hn.out] at hown'; obtain ⟨g, rfl, hg1, hg2⟩ := own_addr hown' (by omega); obtain ⟨m, hm⟩ : ∃ m, n = k + m + 1 := ⟨n - k - 1, by omega⟩; obtain ⟨q, hqm⟩ := get_at (k := m) hn.out (by omega); have hgm : (growL out k (z - y))[m]? = some q := (growL_at (hn.out.trans hm)).trans hqm; have hstep := growL_step (d := z - y) (hn.out.trans hm) hqm; obtain ⟨r0, r1, r2, r3⟩ := own_rmem hownq hgm; obtain ⟨t0, t1⟩ := b3.out q (List.mem_of_getElem? hqm); have hfz := own_unfzR hownq
      have hidx : (n : Int) - 1 - k = m := by omega
      have hmn : (m : Int) < n := by omega
      have hkJi : (k : Int) < J := by omega
      have ybq : bb < wr.heap.size := by omega
      obtain ⟨qx, qy, qa, qb⟩ := q; simp only at r0 r1 r2 r3 t0 t1 hstep; clear hown'; replace hownq := hdh hownq; replace hgm := hdh hgm; replace hqm := hdh hqm; replace hstep := hdh hstep; replace hm := hdh hm; replace hgr := hdh hgr; go_wp2; refine wp_region_steady_then (Held wr 0 []) 24 (by kernel_rfl) (by kernel_rfl) (by decide) (by kernel_rfl) (by kernel_rfl) ⟨belt, (by (try simp) <;> omega), (by first | exact trivial | (simp only [Cells]; go_simp))⟩ ?_; simp only [List.take_succ_cons, List.take_zero]
      repeat (first | (refine' sdo ?_; simp only [pu]) | (refine spa ?_; simp only [pu]))
      refine wpSteady_nil (fun uA hSA => ?_); obtain ⟨hcA, hbA, hzA, hcoA, hfoA⟩ := hall hSA; clear hSA; simp only [Cells] at hcA; simp only [List.drop_succ_cons, List.drop_zero, List.drop_nil]
      have yA : g < uA.heap.size := by omega
      have hfzA : ∀ o, uA.frozen? ⟨g, o, none⟩ = false := fun o => (hfoA g o hg2).trans (hfz o)
      go_wp2; go_roundw
      case rel =>
       refine ⟨k + 1, by omega, by go_num, ?_, grown_set (grown_stay hgr.out hbA) rfl _ _⟩; rw [hstep.out]; exact own_putR (OwnsR.below hownq.out hbA lrr) (by rw [growL_len, hn.out]) hgm.out (qb + (z - y))
      case measure => simp [intOf]; omega
     ·obtain rfl : k = J := by omega
      have hkJi : ¬ (k : Int) < k := by omega
      have hbd := growL_bd (k := k) b3.out hyz; replace hbd := hdh hbd; replace hownq := hdh hownq; replace hgr := hdh hgr; go_wp2; go_roundw
      case rel => exact ⟨i + 1, growL out k (z - y), nw, by omega, by go_num, hownq.out, own_keep hlast6.out hgr.out (fun g h1 h2 => hap.out g h2 h1), hap.out, hgo, hdh ⟨by rw [growL_len, hn.out]; exact b1, by rw [growL_len, hn.out, hJ.out]; exact b2, fun c hc => by rw [hznext.out c hc]; exact hbd.out⟩, hb4q⟩
      case measure => simp [intOf]; omega
  ·have hgo := hgo.out
   rw [ref_end (by have := hN.out; omega)] at hgo; obtain ⟨b1, _, _⟩ := hbd.out; subst hgo; obtain ⟨rfl, rfl⟩ := out0.out b1; replace hown := hdh hown; replace hlast := hdh hlast; replace hap := hdh hap
   have hii2 : ¬ (i : Int) + 1 < N := by omega
   clear b1; go_wp2; refine bodyPost_ret (v := .tuple #[.slice so ML.length co, .int .i64 0]) (by simp [results, Tryz.results123, go_sem]) rfl ⟨hbr, _, rfl, ?_⟩; exact own_less hown.out z04
end
section
theorem kof_any (a : List Re) (va : Value) (w : World) (ha : Row w.heap.size 4 Re.enc w va a) (wa : WfL a) :
  Calls Tryz.prog 72 #[va] w (MadePost (bothE a [] 1) (bothL a [] 1) w) := by
 have AS := kasked_any a va w ha wa
 have e1 : askR a [] = chkR a := by unfold askR; split <;> simp_all [chkR]
 unfold bothE bothL; rw [e1]
 by_cases h0 : chkR a = 0
 ·rw [if_pos h0, if_pos h0]
  rw [h0] at AS; obtain ⟨ma, la⟩ := chkR_may h0
  have MD := fun w1 (h : Below w.heap.size w w1) => kmade_any a [] va (.slice none 0 0) 1 w1 ((ha.below h).mono h.size) (nilRow _ _) ma mayL_nil (by omega) (by simp) (.inl rfl)
  generalize madeE a [] 1 = E at *; generalize madeL a [] 1 = L at *; replace AS := hdh AS; replace MD := hdh MD; clear ha e1 h0
  go_enter Tryz.func72, Tryz.ntmps72
  go_wp2_with (first
   | (go_at_call 77; (with_reducible refine cmm (AS.out) fun w1 hb1 => ?_))
   | (go_at_call 123; (with_reducible refine (MD.out _ hb1).mono ?_); rintro e w2 ⟨hb2, v, rfl, hcut⟩)
   | go_in)
  go_ret2; exact ⟨hb1.trans (hb2.mono hb1.size), v, rfl, own_less hcut hb1.size⟩
 ·rw [if_neg h0, if_neg h0]
  have h0' : (chkR a == 0) = false := by simp [h0]
  have h0n : (chkR a != 0) = true := by simp [h0]
  generalize chkR a = E at *; replace AS := hdh AS; clear ha e1
  go_enter Tryz.func72, Tryz.ntmps72
  go_wp2_with (first
   | (go_at_call 77; (with_reducible refine cmm (AS.out) fun w1 hb1 => ?_))
   | go_in)
  go_ret2; exact ⟨hb1, _, rfl, OwnsR.nil _ _⟩
end
section
def ShC (wr : World) (q : Re) (wx : World) : Prop := RBox wx wr.heap.size q ∧ wr.heap.size + 1 ≤ wx.heap.size ∧ Below wr.heap.size wr wx
def Sh2 (w : World) (R : List Re) (xs : List St) (k : Nat) (M : List Re) (ov cv : Value) (wr : World) : Prop :=
 OwnsR w.heap.size wr ov (R.take k) ∧ OwnsR w.heap.size wr cv M ∧ Apart ov cv ∧ shGo M (xs.drop k) = R.drop k ∧ chkGo M.length (xs.drop k) = 0 ∧ (∀ q ∈ M, mayR q = true) ∧ M.length ≤ k ∧ Below w.heap.size w wr
theorem take_next {R : List Re} {k : Nat} {q : Re} (h : R[k]? = some q) : R.take (k + 1) = R.take k ++ [q] := by rw [List.take_add_one, h]; rfl
set_option maxRecDepth 100000 in
theorem kshown_any (xs : List St) (v : Value) (w : World) (hl : Row w.heap.size 15 St.enc w v xs) (k1 : ∀ s ∈ xs, s.Wf) (hc : chkL xs = 0) : Calls Tryz.prog 167 #[v] w fun e w' => ∃ v', e = .returned v' ∧ OwnsR w.heap.size w' v' (shL xs) ∧ Below w.heap.size w w' := by
 obtain ⟨iR, hr0, hr1, hr2, hr3⟩ := info_parts infoRe; obtain ⟨s0, cap, rfl, hmax⟩ := hl.shape
 have hopen := fun h0 => row_st hl h0
 have l1 := chk_len hc; have hg0 := chk_go hc; obtain ⟨n, hn⟩ := exx (xs.length); obtain ⟨R, hR⟩ := exx (shL xs)
 have hRl : R.length = n := by rw [← hR, shL_len, hn]
 have hRg : shGo [] xs = R := hR; rw [hn] at hopen hmax l1 ⊢; rw [hR]; clear hl hc hR; replace hopen := hdh hopen; replace k1 := hdh k1; replace hn := hdh hn; replace hRl := hdh hRl; replace hRg := hdh hRg; replace hg0 := hdh hg0
 go_enter Tryz.func167, Tryz.ntmps167
 go_wp2
 go_loopg [3, 4, 5] n (fun gg ov cv i wr => ∃ (k : Nat) (M : List Re), k ≤ n ∧ n - k ≤ gg ∧ i = .int .i64 k ∧ Sh2 w R xs k M ov cv wr)
 case atStart => exact ⟨0, [], Nat.zero_le _, by omega, rfl, World.ownsRow_nil _ _ _ _, World.ownsRow_nil _ _ _ _, Apart.none _ _ _, by simpa using hRg.out, hg0.out, by simp, Nat.le_refl _, Below.refl _ _⟩
 case round =>
  obtain ⟨k, M, hk, hgg, rfl, hrel⟩ := hrel; obtain ⟨hown, hclp, hap, hgo, hch, hM, hMk, hbr⟩ := hrel; have zr := hbr.size; obtain ⟨st0, cap0, rfl⟩ := own_slice hclp; obtain ⟨so, co, rfl⟩ := own_slice hown
  by_cases hkn : k < n
  ·obtain ⟨b, p, cap', e, hb, _, _, hel⟩ := hopen.out (by omega)
   simp at e
   obtain ⟨rfl, rfl⟩ := e; obtain ⟨s, hs⟩ := get_at hn.out hkn; obtain ⟨g0, g1, g2, g3, g4, g5, g6, g7, g8, g9, g10, g11, g12, g13, g14⟩ := hel k s hs; obtain ⟨hcr, hfr⟩ := bcell hbr; obtain ⟨he0, hop, hch'⟩ := chk_cons hs hch; rw [shGo_drop hs] at hgo; obtain ⟨hRk, hgo'⟩ := drop_head hgo.symm; obtain ⟨hlen, hpos⟩ := opn_len hop; have hmr := err_may he0; have hQ := shQ_may hM hmr; have hN := shN_may (s := s) hM hmr; have hle := shN_le M s
   have hkk : (k : Int) < n := by omega
   have yb : b < wr.heap.size := by omega
   have hto : (R.take k).length = k := by rw [List.length_take]; have := hRl.out; omega
   obtain ⟨m, hm⟩ := exx (M.length); clear hel hgo hch g6 g7 g8 g9 g10 g11 g12 g13 g14; rw [hto] at hown hap ⊢; rw [hm] at hle hMk hclp hap ⊢; replace hown := hdh hown; replace hclp := hdh hclp; replace hap := hdh hap; replace hRk := hdh hRk; replace hgo' := hdh hgo'; replace hch' := hdh hch'; replace hlen := hdh hlen; replace hpos := hdh hpos; replace he0 := hdh he0; replace hs := hdh hs; replace hM := hdh hM; replace hN := hdh hN; replace hQ := hdh hQ; replace hmr := hdh hmr; replace hm := hdh hm; replace hto := hdh hto
   go_upto_if 20 with fail
   go_cut [] (fun wx => ShC wr (shQ M s) wx)
   case first =>
    by_cases hm0 : 0 < m
    ·obtain ⟨t, ht, eQ⟩ := shQ_last (M := M) (s := s) (by have := hm.out; omega)
     have hmt := hM.out t (List.mem_of_getElem? ht)
     have A := fun w => kmeet1_any s.rect t w (may_wf hmr.out) (may_wf hmt)
     have hown' := hclp.out; unfold OwnsR at hown'; rw [hm.out] at hown'; obtain ⟨g, rfl, hg, hgl⟩ := own_addr hown' hm0; obtain ⟨r0, r1, r2, r3⟩ := own_rmem hclp.out ht; rw [hm.out] at r0 r1 r2 r3
     have hm1 : (0 : Int) < m := by omega
     have hm2 : (0 : Int) ≤ (m : Int) - 1 := by omega
     have hm3 : ((m : Int) - 1).toNat = m - 1 := by omega
     have hm4 : (m : Int) - 1 < m := by omega
     have hm5 : (1 : Int) ≤ m := by omega
     generalize meetR s.rect t = q at A eQ; replace A := hdh A; replace eQ := hdh eQ; clear ht hmt hown'; go_wp2; refine wp_region_steady_then (Held wr 1 [(⟨wr.heap.size, 0, none⟩, .int .i64 (s.rect).x), (⟨wr.heap.size, 1, none⟩, .int .i64 (s.rect).y), (⟨wr.heap.size, 2, none⟩, .int .i64 (s.rect).wd), (⟨wr.heap.size, 3, none⟩, .int .i64 (s.rect).ht)]) 8 (by kernel_rfl) (by kernel_rfl) (by decide) (by kernel_rfl) (by kernel_rfl) ⟨belt, (by (try simp) <;> omega), (by first | exact trivial | (simp only [Cells]; go_simp))⟩ ?_; simp only [List.take_succ_cons, List.take_zero]
     repeat (first | (refine' wpSteady_do _ _ _; rotate_left; (focus rfl); (focus (intro w1 hS R hR; have hc := hS.cells; simp only [Cells] at hc; obtain ⟨hco, hfo⟩ := bcell hS.old; go_simp; (try go_bits); first | exact hR _ hS | (go_at_call 121; (with_reducible refine cmm (A.out _) fun w2 hb2 => ?_); exact ⟨_, rfl, hR _ (hS.below hb2)⟩))); simp only [pu]) | (refine spa ?_; simp only [pu]))
     refine wpSteady_nil (fun u9 hS9 => ?_); obtain ⟨hc9, hb9, hz9, hco9, hfo9⟩ := hall hS9; clear hS9; simp only [Cells] at hc9; simp only [List.drop_succ_cons, List.drop_zero, List.drop_nil]; go_wp2; go_meet
     case rel =>
      rw [eQ.out]; exact ⟨⟨⟨by go_simp, by go_simp, by go_simp, by go_simp⟩, ⟨by go_simp, by go_simp, by go_simp, by go_simp⟩⟩, by simp; omega, belt⟩
    ·have e : M = [] := List.length_eq_zero_iff.1 (by have := hm.out; omega)
     have hm1 : m = 0 := by omega
     subst e; subst hm1; go_wp2; go_meet
     case rel =>
      rw [shQ_none]; exact ⟨⟨⟨by go_simp, by go_simp, by go_simp, by go_simp⟩, ⟨by go_simp, by go_simp, by go_simp, by go_simp⟩⟩, by simp, belt⟩
   case rest =>
    obtain ⟨⟨⟨x1, x2, x3, x4⟩, ⟨z1, z2, z3, z4⟩⟩, zc, hbc⟩ := hcut
    have E := fun w => kempty1_any (shQ M s) w (may_wf hQ.out)
    obtain ⟨q, hq⟩ := exx (shQ M s); obtain ⟨eb, heb⟩ := exx (emptyR q); rw [hq] at x1 x2 x3 x4 E; rw [heb] at E; replace E := hdh E
    have heb' : emptyR (shQ M s) = eb := by rw [hq]; exact heb
    replace hq := hdh hq; replace heb' := hdh heb'; clear heb
    have yl0 : wr.heap.size < wc.heap.size := by omega
    go_upto_if 30 with (first
     | (go_at_call 105; (with_reducible refine cmm (E.out _) fun w2 hb2 => ?_); obtain ⟨hc2, hf2⟩ := bcell hb2; have z2 := hb2.size)
     | go_in)
    have y20 : wr.heap.size < w2.heap.size := by omega
    have hbc2 : Below wr.heap.size wr w2 := hbc.trans (hb2.mono hbc.size)
    go_cut [] (fun wx => ShC wr (shR M s) wx)
    case first =>
     cases eb
     ·go_wp2
      go_meet
      case rel =>
       rw [shR_f heb'.out, hq.out]; exact ⟨⟨⟨by go_simp, by go_simp, by go_simp, by go_simp⟩, ⟨by go_simp, by go_simp, by go_simp, by go_simp⟩⟩, by omega, hbc2⟩
     ·go_wp2
      go_meet
      case rel =>
       rw [shR_t heb'.out]; exact ⟨⟨⟨by go_simp; rfl, by go_simp; rfl, by go_simp; rfl, by go_simp; rfl⟩, ⟨by go_simp, by go_simp, by go_simp, by go_simp⟩⟩, by simp; omega, belt⟩
    case rest =>
     (try clear hb2); (try clear hc2); (try clear hf2); (try clear hbc2); (try clear x1 x2 x3 x4); (try clear z1 z2 z3 z4); (try clear E); (try clear heb'); (try clear hq)
     obtain ⟨⟨⟨x1, x2, x3, x4⟩, ⟨z1, z2, z3, z4⟩⟩, zc, hbc⟩ := hcut; have hown2 := OwnsR.below hown.out hbc lrr; have hclp2 := OwnsR.below hclp.out hbc lrr; have hbrc := hbr.trans (hbc.mono zr); have zrc := hbrc.size; obtain ⟨hcc, hfc⟩ := bcell hbrc; obtain ⟨q, hq⟩ := exx (shR M s); rw [hq] at x1 x2 x3 x4 hRk
     have yl0 : wr.heap.size < wc.heap.size := by omega
     have lo := fun g h => (own_block_lt hown.out g h).2
     have lc := fun g h => (own_block_lt hclp.out g h).2
     have hcs : [.int .i64 q.x, .int .i64 q.y, .int .i64 q.wd, .int .i64 q.ht] = q.enc := rfl; replace hcs := hdh hcs; replace lo := hdh lo; replace lc := hdh lc; replace hclp2 := hdh hclp2; unfold OwnsR at hown2; rw [hto.out] at hown2; clear z1 z2 z3 z4 hcr hfr
     go_upto_region 11 with (first
      | (at_builtin; refine wpList_append_two rfl _ _ _ rfl w.heap.size 32 iR _ 4 32 Tryz.underlying25 hr0 hr1 hr2 hr3 rfl (by omega) wc 1 _ _ _ _ (by rfl) hown2 (by rfl) rfl (by simp [Value.oneCell']) (by omega) (by unfold maxLen; omega) (by omega) ?_; intro v6 w6 hown6 hgr6 htw6 hb6)
      | go_in)
     rw [flatR_snoc hcs.out, ← take_next hRk.out] at hown6
     have hown6 : OwnsR w.heap.size w6 v6 (R.take (k + 1)) := by
      unfold OwnsR; rw [List.length_take, Nat.min_eq_left (by have := hRl.out; omega)]; exact hown6
     have hclp6 : OwnsR w.heap.size w6 (.slice st0 m cap0) M := own_keep hclp2.out hgr6 (fun g h1 h2 => hap.out g h2 h1)
     have hap6 : Apart v6 (.slice st0 m cap0) := fun g h1 h2 => by
      rcases htw6 g h1 with h | h
      ·exact hap.out g h h2
      ·have := lc.out g h2; omega
     have far6 := fun o => grown_far hgr6 yl0 (fun g h => by have := lo.out g h; omega) o
     have x1 := (far6 0).trans x1; have x2 := (far6 1).trans x2; have x3 := (far6 2).trans x3; have x4 := (far6 3).trans x4; have hb06 : Below w.heap.size w w6 := hbrc.trans hb6; have z06 := hb06.size; have zc6 := hgr6.size
     have yl6 : wr.heap.size < w6.heap.size := by omega
     have lc6 : ∀ g, (Value.slice st0 m cap0).ownBlock = some g → g < wr.heap.size := lc.out; obtain ⟨so6, co6, rfl⟩ := own_slice hown6
     have lo6 := fun g h => (own_block_lt hown6 g h).2
     have hl6 : (R.take (k + 1)).length = k + 1 := by rw [List.length_take]; have := hRl.out; omega
     rw [hl6] at hown6 hap6 lo6 ⊢; clear far6 hown2 hgr6 htw6 hb6 hbc; replace hown6 := hdh hown6; replace hap6 := hdh hap6; replace lo6 := hdh lo6; replace lc6 := hdh lc6; replace hl6 := hdh hl6; obtain ⟨hcc6, hfc6⟩ := bcell hb06; have yb6 : b < w.heap.size := hb
     by_cases q4 : s.kind = 4
     ·have eN := shN_4 (M := M) q4
      rw [hq] at eN; rw [q4] at g0; have hclp7 := hclp6; unfold OwnsR at hclp7; rw [hm.out] at hclp7; replace eN := hdh eN; replace hclp6 := hdh hclp6; clear q4 hq
      go_wp2_with (first
       | ((at_builtin; refine wpList_append_two rfl _ _ _ rfl w.heap.size 32 iR _ 4 32 Tryz.underlying25 hr0 hr1 hr2 hr3 rfl (by omega) w6 1 _ _ _ _ (by rfl) hclp7 (by rfl) rfl (by simp [Value.oneCell']) (by omega) (by unfold maxLen; omega) (by omega) ?_; intro v7 w7 hown7 hgr7 htw7 hb7); obtain ⟨hcc7, hfc7⟩ := bcell (hb06.trans hb7))
       | go_in)
      rw [flatR_snoc hcs.out, ← eN.out] at hown7; have hb7' : Below w.heap.size w w7 := hb06.trans hb7; have hown8 : OwnsR w.heap.size w7 (.slice so6 (k + 1) co6) (R.take (k + 1)) := own_keep hown6.out hgr7 (fun g h1 h2 => hap6.out g h1 h2)
      have hap7 : Apart (.slice so6 (k + 1) co6) v7 := fun g h1 h2 => by
       rcases htw7 g h2 with h | h
       ·exact hap6.out g h1 h
       ·have := lo6.out g h1; omega
      replace hown7 := hdh hown7; replace hown8 := hdh hown8; replace hap7 := hdh hap7; clear hgr7 htw7 hclp7; go_wp2
      go_roundg (n - (k + 1))
      case measure => omega
      case rel =>
       refine ⟨k + 1, shN M s, by omega, by omega, by go_num, hown8.out, ?_, hap7.out, hgo'.out.symm, ?_, hN.out, by rw [eN.out]; simp; have := hm.out; omega, hb7'⟩
       ·unfold OwnsR
        rw [show (shN M s).length = m + 1 by rw [eN.out]; simp [hm.out]]; exact hown7.out
       ·rw [hlen.out]; exact hch'.out
     ·by_cases q5 : s.kind = 5
      ·have eN := shN_5 (M := M) q5
       have hp := hpos.out q5; rw [q5] at g0; have hpop : OwnsR w.heap.size w6 (.slice st0 (M.length - 1) cap0) M.dropLast := own_pop (by rw [hm.out]; exact hclp6) hp; rw [← eN, hm.out] at hpop; rw [hm.out] at hp; have hclp7 := hclp6; unfold OwnsR at hclp7; rw [hm.out] at hclp7; obtain ⟨g, rfl, hg, hgl⟩ := own_addr hclp7 hp; have hcap : m ≤ cap0 := (own_len hclp7).1
       have hap8 : Apart (.slice so6 (k + 1) co6) (.slice (some ⟨g, 0, none⟩) (m - 1) cap0) := fun g' h1 h2 => hap6.out g' h1 h2
       replace hpop := hdh hpop; replace eN := hdh eN; replace hap8 := hdh hap8
       have p1 : (0 : Int) ≤ (m : Int) - 1 := by omega
       have p2 : (1 : Int) ≤ m := by omega
       have p3 : (m : Int) - 1 ≤ cap0 := by omega
       have p4 : ((m : Int) - 1).toNat = m - 1 := by omega
       clear q4 q5 hclp6 hclp7 hq; go_wp2
       go_roundg (n - (k + 1))
       case measure => omega
       case rel =>
        refine ⟨k + 1, shN M s, by omega, by omega, by go_num, hown6.out, hpop.out, hap8.out, hgo'.out.symm, ?_, hN.out, by rw [eN.out, List.length_dropLast]; have := hm.out; omega, hb06⟩; rw [hlen.out]; exact hch'.out
      ·have eN := shN_o (M := M) q4 q5
       replace hclp6 := hdh hclp6; replace eN := hdh eN; clear hq; go_wp2
       go_roundg (n - (k + 1))
       case measure => omega
       case rel =>
        refine ⟨k + 1, shN M s, by omega, by omega, by go_num, hown6.out, by rw [eN.out]; exact hclp6.out, hap6.out, hgo'.out.symm, ?_, hN.out, by rw [eN.out]; have := hm.out; omega, hb06⟩; rw [hlen.out]; exact hch'.out
  ·obtain rfl : k = n := by omega
   rw [List.take_of_length_le (by have := hRl.out; omega)] at hown ⊢; replace hown := hdh hown; replace hclp := hdh hclp; replace hap := hdh hap; replace hgo := hdh hgo; replace hch := hdh hch; go_wp2; go_ret; exact ⟨_, rfl, hown.out, hbr⟩
end
end Go.Proofs.YtfcphagmjijmkaaGreatDoor
