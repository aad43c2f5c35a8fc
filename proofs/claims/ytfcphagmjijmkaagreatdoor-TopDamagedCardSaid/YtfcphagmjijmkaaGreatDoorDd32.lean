/-
  Damage: middles.
-/
import Derived.Test.YtfcphagmjijmkaaGreatDoorDd31
namespace Go.Proofs.YtfcphagmjijmkaaGreatDoor
open Go.RowKit
set_option linter.unusedVariables false
set_option linter.unusedSimpArgs false
attribute [local go_sem] vwp vUpon_value vUpon_skip vUpon_enter vUpon_row
set_option maxHeartbeats 16000000
section
def stepB : List Fl → List Fl → Bool
 | x :: _, y :: _ => x.eqb y
 | _, _ => false
theorem cut_step {X Y : List Fl} (h : stepB X Y = true) : cutPre X Y = cutPre X.tail Y.tail := by
 cases X with
 | nil => cases h
 | cons x X =>
  cases Y with
  | nil => cases h
  | cons y Y =>
   have h : x.eqb y = true := h; rw [cutPre, if_pos h]
   rfl
theorem cut_stop {X Y : List Fl} (h : stepB X Y = false) : cutPre X Y = (X, Y) := by
 cases X with
 | nil => rw [cutPre_nil_left]
 | cons x X =>
  cases Y with
  | nil => rw [cutPre_nil_right]
  | cons y Y =>
   have h : x.eqb y = false := h; rw [cutPre, if_neg (by rw [h]; decide)]
theorem step_at {A B : List Fl} {k : Nat} {x y : Fl} (h1 : A[k]? = some x) (h2 : B[k]? = some y) : stepB (A.drop k) (B.drop k) = x.eqb y := by
 rw [drop_get h1, drop_get h2]; rfl
theorem step_left {A B : List Fl} {k : Nat} (h : A.length ≤ k) : stepB (A.drop k) (B.drop k) = false := by
 rw [List.drop_eq_nil_of_le h]; rfl
theorem step_right {A B : List Fl} {k : Nat} (h : B.length ≤ k) : stepB (A.drop k) (B.drop k) = false := by
 rw [List.drop_eq_nil_of_le h]
 cases A.drop k <;> rfl
theorem rev_at {A : List Fl} {j : Nat} (h : j < A.length) : A.reverse[j]? = A[A.length - 1 - j]? := List.getElem?_reverse h
theorem rev_take (A : List Fl) (j : Nat) : (A.reverse.drop j).reverse = A.take (A.length - j) := by
 rw [List.drop_reverse, List.reverse_reverse]
theorem Row.front {α : Type} {B sz : Nat} {enc : α → List Value} {w : World} {s : Option Addr} {n cap m : Nat} {xs : List α} (h : Row B sz enc w (.slice s n cap) xs) (hn : xs.length = n) (hm : m ≤ n) : Row B sz enc w (.slice s m cap) (xs.take m) := by
 obtain ⟨s', c, e, hlc, hcm, hx⟩ := h
 have hl : (xs.take m).length = m := by rw [List.length_take]; omega
 injection e with e1 e2 e3
 subst e1 e3; refine ⟨_, _, by rw [hl], by rw [hl]; omega, hcm, fun h0 => ?_⟩; rw [hl] at h0; obtain ⟨b, o, e, hb, hc⟩ := hx (by omega); refine ⟨b, o, e, hb, fun j x hj i u hi => hc j x ?_ i u hi⟩; have hjl := (List.getElem?_eq_some_iff.1 hj).1; rw [hl] at hjl; rw [List.getElem?_take, if_pos hjl] at hj; exact hj
theorem Row.back {α : Type} {B sz : Nat} {enc : α → List Value} {w : World} {g o n cap p : Nat} {xs : List α} (he : ∀ x, (enc x).length = sz) (h : Row B sz enc w (.slice (some ⟨g, o, none⟩) n cap) xs) (hn : xs.length = n) (hp : p ≤ n) : Row B sz enc w (.slice (some ⟨g, o + p * sz, none⟩) (n - p) (cap - p)) (xs.drop p) := by
 have := h.piece he hn p (n - p) (by omega); rw [List.take_of_length_le (by rw [List.length_drop, hn]; exact Nat.le_refl _)] at this; exact this
theorem Row.empty {α : Type} {B sz : Nat} {enc : α → List Value} {w : World} (s : Option Addr) {cap : Nat} (hc : cap ≤ maxLen) : Row B sz enc w (.slice s 0 cap) ([] : List α) := ⟨s, cap, rfl, Nat.zero_le _, hc, fun h => by cases h⟩
/-! ### slices of a row, each as one step -/
noncomputable def slF (v : Value) (lo hi mx : Option Value) : Sem Value := Instr.sliceAt 75 v lo hi mx
theorem slF_is (v : Value) (lo hi mx : Option Value) : Instr.sliceAt 75 v lo hi mx = slF v lo hi mx := rfl
theorem row_from {B : Nat} {w : World} {va : Value} {A : List Fl} (h : Row B 19 Fl.enc w va A) {k : Nat} (hk : k ≤ A.length) :
  ∃ s c, (∀ W, (slF va (some (.int .i64 k)) none none).run Tryz.prog W = .ok (.slice s (A.length - k) c) W) ∧ Row B 19 Fl.enc w (.slice s (A.length - k) c) (A.drop k) := by
 have h0 := h; obtain ⟨s, cap, rfl, hl, hc, hx⟩ := h; have hcm := hc; unfold maxLen at hc; obtain ⟨n, hn⟩ := exx (A.length); rw [hn] at h0 hl hk hx ⊢
 cases s with
 | none =>
  have e : n = 0 := by
   rcases Nat.eq_zero_or_pos n with h | h
   ·exact h
   ·obtain ⟨_, _, e, _⟩ := hx h; cases e
  subst e; have eA : A = [] := List.length_eq_zero_iff.1 hn; subst eA
  obtain rfl : k = 0 := by omega
  refine ⟨none, cap, fun W => by clear hx h0; unfold slF; go_simp, ?_⟩; rw [List.drop_nil]; exact Row.empty _ hcm
 | some a =>
  by_cases hn0 : n = 0
  ·subst hn0
   have eA : A = [] := List.length_eq_zero_iff.1 hn; subst eA
   obtain rfl : k = 0 := by omega
   refine ⟨some a, cap, fun W => by clear hx h0; unfold slF; go_simp, ?_⟩; rw [List.drop_nil]; exact Row.empty _ hcm
  ·obtain ⟨b, o, e, hb, hcl⟩ := hx (by omega)
   injection e with e
   subst e
   by_cases hck : cap = k
   ·refine ⟨some ⟨b, o, none⟩, cap - k, fun W => by clear hx h0 hcl; unfold slF; go_simp, ?_⟩
    have e0 : n - k = 0 := by omega
    rw [e0, List.drop_eq_nil_of_le (by omega)]; exact Row.empty _ (by omega)
   ·refine ⟨some ⟨b, o + k * 19, none⟩, cap - k, fun W => by clear hx h0 hcl; unfold slF; go_simp, ?_⟩
    exact Row.back Fl.enc_len h0 hn hk
theorem row_upto {B : Nat} {w : World} {va : Value} {A : List Fl} (h : Row B 19 Fl.enc w va A) {k : Nat} (hk : k ≤ A.length) :
  ∃ s c, (∀ W, (slF va none (some (.int .i64 k)) none).run Tryz.prog W = .ok (.slice s k c) W) ∧ Row B 19 Fl.enc w (.slice s k c) (A.take k) := by
 have h0 := h; obtain ⟨s, cap, rfl, hl, hc, hx⟩ := h; unfold maxLen at hc; obtain ⟨n, hn⟩ := exx (A.length); rw [hn] at h0 hl hk
 have hkc : k ≤ cap := by omega
 refine ⟨s, cap, fun W => by clear hx h0 hn; unfold slF; go_simp, Row.front h0 hn hk⟩
def OutTwo (base : Nat) (er : Int) (l m : List Fl) (w : World) (e : Ending) (w' : World) : Prop := Below base w w' ∧ ∃ v u, e = .returned (.tuple #[v, u, .int .i64 er]) ∧ OwnsF base w' v l ∧ OwnsF base w' u m
def twoL (xs ys : List St) (l : List Fl) : List Fl := if dmgE xs ys = 0 then l else []
theorem two_any (xs ys : List St) (v u : Value) (w : World) (hx : Row w.heap.size 15 St.enc w v xs) (hy : Row w.heap.size 15 St.enc w u ys) (k1 : ∀ s ∈ xs, s.Wf) (k2 : ∀ s ∈ ys, s.Wf) : Calls Tryz.prog 41 #[v, u] w (OutTwo w.heap.size (dmgE xs ys) (twoL xs ys (flts xs)) (twoL xs ys (flts ys)) w) := by
 have F1 := hdh (flats_any xs v w hx k1); have F2 := hdh (fun W (h : Below w.heap.size w W) => flats_any ys u W ((hy.below h).mono h.size) k2); obtain ⟨s1, c1, rfl, m1⟩ := hx.shape; obtain ⟨s2, c2, rfl, m2⟩ := hy.shape; clear hx hy
 by_cases e1 : chkL xs = 0
 ·by_cases e2 : chkL ys = 0
  ·have hd : dmgE xs ys = 0 := by unfold dmgE; rw [if_pos e1, e2]
   have t1 : ∀ l, twoL xs ys l = l := fun l => if_pos hd
   rw [hd, t1, t1]; rw [e1] at F1; rw [e2] at F2; clear hd t1 e1 e2
   go_enter Tryz.func41, Tryz.ntmps41
   go_wp2_with (first
    | (go_at_call 89; (with_reducible refine F1.out.mono ?_); rintro e w3 ⟨hb3, v3, rfl, O3⟩)
    | (go_at_call 89; (with_reducible refine (F2.out _ hb3).mono ?_); rintro e w4 ⟨hb4, v4, rfl, O4⟩)
    | go_in)
   have z3 := hb3.size; have O3' := O3.below hb4 lrr; have O4' : OwnsF w.heap.size w4 v4 (flts ys) := own_less O4 z3; go_ret3; exact ⟨hb3.trans (hb4.mono z3), _, _, rfl, O3', O4'⟩
  ·have hd : dmgE xs ys = chkL ys := by unfold dmgE; rw [if_pos e1]
   have t1 : ∀ l, twoL xs ys l = [] := fun l => if_neg (by rw [hd]; exact e2)
   rw [hd, t1, t1]; rw [e1] at F1; obtain ⟨E, hE⟩ := exx (chkL ys); rw [hE] at F2 e2 ⊢
   have e2' : (E != 0) = true := by simpa using e2
   clear hd t1 e1 hE
   go_enter Tryz.func41, Tryz.ntmps41
   go_wp2_with (first
    | (go_at_call 89; (with_reducible refine F1.out.mono ?_); rintro e w3 ⟨hb3, v3, rfl, O3⟩)
    | (go_at_call 89; (with_reducible refine (F2.out _ hb3).mono ?_); rintro e w4 ⟨hb4, v4, rfl, O4⟩)
    | go_in)
   go_ret3; exact ⟨hb3.trans (hb4.mono hb3.size), _, _, rfl, OwnsF.nil _ _, OwnsF.nil _ _⟩
 ·have hd : dmgE xs ys = chkL xs := by unfold dmgE; rw [if_neg e1]
  have t1 : ∀ l, twoL xs ys l = [] := fun l => if_neg (by rw [hd]; exact e1)
  rw [hd, t1, t1]; obtain ⟨E, hE⟩ := exx (chkL xs); rw [hE] at F1 e1 ⊢
  have e2' : (E != 0) = true := by simpa using e1
  clear hd t1 hE F2
  go_enter Tryz.func41, Tryz.ntmps41
  go_wp2_with (first
   | (go_at_call 89; (with_reducible refine F1.out.mono ?_); rintro e w3 ⟨hb3, v3, rfl, O3⟩)
   | go_in)
  go_ret3; exact ⟨hb3, _, _, rfl, OwnsF.nil _ _, OwnsF.nil _ _⟩
attribute [local go_sem ↓ high] ldF_is slF_is
set_option maxRecDepth 100000 in
theorem middles_any (A B : List Fl) (va vb : Value) (w : World) (hA : Row w.heap.size 19 Fl.enc w va A) (hB : Row w.heap.size 19 Fl.enc w vb B) :
  Calls Tryz.prog 42 #[va, vb] w fun e w' => Below w.heap.size w w' ∧ ∃ v u, e = .returned (.tuple #[v, u]) ∧ Row w.heap.size 19 Fl.enc w v (midP A B).1 ∧ Row w.heap.size 19 Fl.enc w u (midP A B).2 := by
 obtain ⟨sA, cA, rfl, lA, mA, xA⟩ := hA; obtain ⟨sB, cB, rfl, lB, mB, xB⟩ := hB; have rA : Row w.heap.size 19 Fl.enc w (.slice sA A.length cA) A := ⟨_, _, rfl, lA, mA, xA⟩; have rB : Row w.heap.size 19 Fl.enc w (.slice sB B.length cB) B := ⟨_, _, rfl, lB, mB, xB⟩; obtain ⟨nA, enA⟩ := exx (A.length); obtain ⟨nB, enB⟩ := exx (B.length); rw [enA] at rA lA ⊢; rw [enB] at rB lB ⊢; unfold maxLen at mA mB; clear xA xB; obtain ⟨X, hX⟩ := exx ((cutPre A B).1); obtain ⟨Y, hY⟩ := exx ((cutPre A B).2)
 have hM : midP A B = ((cutPre X.reverse Y.reverse).1.reverse, (cutPre X.reverse Y.reverse).2.reverse) := by unfold midP; rw [hX, hY]
 have hXY : cutPre A B = (X, Y) := by rw [← hX, ← hY]
 rw [hM]; clear hM hX hY; obtain ⟨P, hP⟩ := exx ((cutPre X.reverse Y.reverse).1); obtain ⟨Q, hQ⟩ := exx ((cutPre X.reverse Y.reverse).2)
 have hPQ : cutPre (X.reverse.drop 0) (Y.reverse.drop 0) = (P, Q) := by rw [List.drop_zero, List.drop_zero, ← hP, ← hQ]
 rw [hP, hQ]; clear hP hQ; replace hPQ := hdh hPQ; replace rA := hdh rA; replace rB := hdh rB; replace enA := hdh enA; replace enB := hdh enB; replace hXY := hdh hXY
 go_enter Tryz.func42, Tryz.ntmps42
 go_wp2
 go_loopg [6] nA (fun gg i wr => ∃ k : Nat, i = .int .i64 k ∧ nA - k ≤ gg ∧ k ≤ nA ∧ k ≤ nB ∧ Hid (cutPre (A.drop k) (B.drop k) = (X, Y)) ∧ Below w.heap.size w wr)
 case atStart => exact ⟨0, rfl, by omega, Nat.zero_le _, Nat.zero_le _, hXY, belt⟩
 case round =>
  obtain ⟨k, rfl, kg, ka, kb, hc, hbr⟩ := hrel; have zr := hbr.size; obtain ⟨C, hC⟩ := exx (stepB (A.drop k) (B.drop k)); have hCs := hdh hC
  go_upto_region 2 with fail
  go_cut [27] from 7 to 29 (fun ev wx => ev = .bool C ∧ Below w.heap.size w wx)
  case first =>
   by_cases ca : k < nA
   ·have ca1 : (k : Int) < nA := by omega
    by_cases cb : k < nB
    ·have cb1 : (k : Int) < nB := by omega
     obtain ⟨x, hx⟩ := get_at enA.out ca; obtain ⟨y, hy⟩ := get_at enB.out cb; rw [step_at hx hy] at hC; obtain ⟨bA, oA, cA', e, hbA, _, _, hlA⟩ := row_ld (rA.out.below hbr) zr (by rw [enA.out]; omega); rw [enA.out] at e
     simp at e
     obtain ⟨rfl, rfl⟩ := e; obtain ⟨bB, oB, cB', e, hbB, _, _, hlB⟩ := row_ld (rB.out.below hbr) zr (by rw [enB.out]; omega); rw [enB.out] at e
     simp at e
     obtain ⟨rfl, rfl⟩ := e; have LX := hlA k x hx; have LY := hlB k y hy
     have EQ := fun w => eql_val x y w
     have EG := fun p q w => eqg_val x y p q w
     rw [hC] at EQ; generalize x.val = VX at LX EQ EG; generalize y.val = VY at LY EQ EG; replace LX := hdh LX; replace LY := hdh LY; clear hlA hlB hx hy hC; refine rst (Held wr 0 []) ?_
     repeat (first | (refine' wpSteady_do _ _ _; rotate_left; (focus rfl); (focus (intro w1 hS R hR; have hc := hS.cells; simp only [Cells] at hc; obtain ⟨hco, hfo⟩ := bcell hS.old; have hLx := LX.out _ hS.old; have hLy := LY.out _ hS.old; go_simp; (try go_bits); first | exact hR _ hS | fail)); simp only [pu]) | (refine spa ?_; simp only [pu]))
     refine wpSteady_nil (fun uZ hSZ => ?_); obtain ⟨hcZ, hbZ, hzZ, hcoZ, hfoZ⟩ := hall hSZ; clear hSZ; simp only [Cells] at hcZ; go_wp2; go_meet
     case rel => exact ⟨rfl, hbr.trans (hbZ.mono zr)⟩
    ·have cb1 : ¬ (k : Int) < nB := by omega
     rw [step_right (by rw [enB.out]; omega)] at hC; subst hC; refine rst (Held wr 0 []) ?_
     repeat (first | (refine' sdo ?_; simp only [pu]) | (refine spa ?_; simp only [pu]))
     refine wpSteady_nil (fun uZ hSZ => ?_); obtain ⟨hcZ, hbZ, hzZ, hcoZ, hfoZ⟩ := hall hSZ; clear hSZ; simp only [Cells] at hcZ; go_wp2; go_meet
     case rel => exact ⟨rfl, hbr.trans (hbZ.mono zr)⟩
   ·have ca1 : ¬ (k : Int) < nA := by omega
    rw [step_left (by rw [enA.out]; omega)] at hC; subst hC; refine rst (Held wr 0 []) ?_
    repeat (first | (refine' sdo ?_; simp only [pu]) | (refine spa ?_; simp only [pu]))
    refine wpSteady_nil (fun uZ hSZ => ?_); obtain ⟨hcZ, hbZ, hzZ, hcoZ, hfoZ⟩ := hall hSZ; clear hSZ; simp only [Cells] at hcZ; go_wp2; go_meet
    case rel => exact ⟨rfl, hbr.trans (hbZ.mono zr)⟩
  case rest =>
   obtain ⟨rfl, hb1⟩ := hcut
   cases C
   ·have h3 := hc.out
    rw [cut_stop hCs.out] at h3
    injection h3 with h4 h5
    obtain ⟨s1, c1, SL1, R1⟩ := row_from rA.out (k := k) (by rw [enA.out]; exact ka); obtain ⟨s2, c2, SL2, R2⟩ := row_from rB.out (k := k) (by rw [enB.out]; exact kb); rw [enA.out] at SL1 R1; rw [enB.out] at SL2 R2; rw [h4] at R1; rw [h5] at R2; obtain ⟨n1, en1⟩ := exx (nA - k); obtain ⟨n2, en2⟩ := exx (nB - k); rw [en1] at SL1 R1; rw [en2] at SL2 R2
    have lX : X.length = n1 := by rw [← h4, List.length_drop, enA.out]; exact en1
    have lY : Y.length = n2 := by rw [← h5, List.length_drop, enB.out]; exact en2
    replace R1 := hdh R1; replace R2 := hdh R2; replace lX := hdh lX; replace lY := hdh lY; have z1 := hb1.size
    have bn1 : n1 ≤ 2 ^ 63 - 1 := by omega
    have bn2 : n2 ≤ 2 ^ 63 - 1 := by omega
    clear hc hCs h4 h5 hbr zr kg en1 en2 rA rB enA enB
    go_upto_region 4 with fail
    refine rst (Held wc 0 []) ?_
    repeat (first | (refine' sdo ?_; simp only [pu]) | (refine spa ?_; simp only [pu]))
    refine wpSteady_nil (fun uZ hSZ => ?_); obtain ⟨hcZ, hbZ, hzZ, hcoZ, hfoZ⟩ := hall hSZ; clear hSZ; simp only [Cells] at hcZ; have hb2 := hb1.trans (hbZ.mono z1); have z2 := hb2.size; clear hcZ hcoZ hfoZ hbZ hzZ SL1 SL2 hb1 z1; go_wp2
    go_loopg [6] n1 (fun gg i wr => ∃ j : Nat, i = .int .i64 j ∧ n1 - j ≤ gg ∧ j ≤ n1 ∧ j ≤ n2 ∧ Hid (cutPre (X.reverse.drop j) (Y.reverse.drop j) = (P, Q)) ∧ Below w.heap.size w wr)
    case atStart => exact ⟨0, rfl, by omega, Nat.zero_le _, Nat.zero_le _, hPQ, hb2⟩
    case round =>
     obtain ⟨j, rfl, jg, ja, jb, hc, hbr⟩ := hrel; have zr := hbr.size; clear hb2 z2; obtain ⟨C, hC⟩ := exx (stepB (X.reverse.drop j) (Y.reverse.drop j)); have hCs := hdh hC
     go_upto_region 6 with fail
     go_cut [64] from 36 to 66 (fun ev wx => ev = .bool C ∧ Below w.heap.size w wx)
     case first =>
      by_cases ca : j < n1
      ·have ca1 : (j : Int) < n1 := by omega
       obtain ⟨p, hp⟩ := exx (n1 - 1 - j)
       have ip : (n1 : Int) - 1 - j = p := by omega
       by_cases cb : j < n2
       ·have cb1 : (j : Int) < n2 := by omega
        obtain ⟨q, hq⟩ := exx (n2 - 1 - j)
        have iq : (n2 : Int) - 1 - j = q := by omega
        have pl : (p : Int) < n1 := by omega
        have ql : (q : Int) < n2 := by omega
        obtain ⟨x, hx⟩ := get_at lX.out (show p < n1 by omega); obtain ⟨y, hy⟩ := get_at lY.out (show q < n2 by omega); rw [step_at (x := x) (y := y) (by rw [rev_at (by rw [lX.out]; exact ca), lX.out, hp]; exact hx) (by rw [rev_at (by rw [lY.out]; exact cb), lY.out, hq]; exact hy)] at hC; obtain ⟨bA, oA, cA', e, hbA, _, _, hlA⟩ := row_ld (R1.out.below hbr) zr (by rw [lX.out]; omega); rw [lX.out] at e
        simp at e
        obtain ⟨rfl, rfl⟩ := e; obtain ⟨bB, oB, cB', e, hbB, _, _, hlB⟩ := row_ld (R2.out.below hbr) zr (by rw [lY.out]; omega); rw [lY.out] at e
        simp at e
        obtain ⟨rfl, rfl⟩ := e; have LX := hlA p x hx; have LY := hlB q y hy
        have EQ := fun w => eql_val x y w
        have EG := fun p q w => eqg_val x y p q w
        rw [hC] at EQ; generalize x.val = VX at LX EQ EG; generalize y.val = VY at LY EQ EG; replace LX := hdh LX; replace LY := hdh LY; clear hlA hlB hx hy hC hp hq; refine rst (Held wr 0 []) ?_
        repeat (first | (refine' wpSteady_do _ _ _; rotate_left; (focus rfl); (focus (intro w1 hS R hR; have hc := hS.cells; simp only [Cells] at hc; obtain ⟨hco, hfo⟩ := bcell hS.old; have hLx := LX.out _ hS.old; have hLy := LY.out _ hS.old; go_simp; (try go_bits); first | exact hR _ hS | fail)); simp only [pu]) | (refine spa ?_; simp only [pu]))
        refine wpSteady_nil (fun uZ hSZ => ?_); obtain ⟨hcZ, hbZ, hzZ, hcoZ, hfoZ⟩ := hall hSZ; clear hSZ; simp only [Cells] at hcZ; go_wp2; go_meet
        case rel => exact ⟨rfl, hbr.trans (hbZ.mono zr)⟩
       ·have cb1 : ¬ (j : Int) < n2 := by omega
        rw [step_right (by rw [List.length_reverse, lY.out]; omega)] at hC; subst hC; refine rst (Held wr 0 []) ?_
        repeat (first | (refine' sdo ?_; simp only [pu]) | (refine spa ?_; simp only [pu]))
        refine wpSteady_nil (fun uZ hSZ => ?_); obtain ⟨hcZ, hbZ, hzZ, hcoZ, hfoZ⟩ := hall hSZ; clear hSZ; simp only [Cells] at hcZ; go_wp2; go_meet
        case rel => exact ⟨rfl, hbr.trans (hbZ.mono zr)⟩
      ·have ca1 : ¬ (j : Int) < n1 := by omega
       rw [step_left (by rw [List.length_reverse, lX.out]; omega)] at hC; subst hC; refine rst (Held wr 0 []) ?_
       repeat (first | (refine' sdo ?_; simp only [pu]) | (refine spa ?_; simp only [pu]))
       refine wpSteady_nil (fun uZ hSZ => ?_); obtain ⟨hcZ, hbZ, hzZ, hcoZ, hfoZ⟩ := hall hSZ; clear hSZ; simp only [Cells] at hcZ; go_wp2; go_meet
       case rel => exact ⟨rfl, hbr.trans (hbZ.mono zr)⟩
     case rest =>
      obtain ⟨rfl, hb3⟩ := hcut
      cases C
      ·have h3 := hc.out
       rw [cut_stop hCs.out] at h3
       injection h3 with h4 h5
       obtain ⟨m1, hm1⟩ := exx (n1 - j); obtain ⟨m2, hm2⟩ := exx (n2 - j)
       have im1 : (n1 : Int) - j = m1 := by omega
       have im2 : (n2 : Int) - j = m2 := by omega
       obtain ⟨s3, c3, SL3, R3⟩ := row_upto R1.out (k := m1) (by rw [lX.out]; omega); obtain ⟨s4, c4, SL4, R4⟩ := row_upto R2.out (k := m2) (by rw [lY.out]; omega)
       have e3 : X.take m1 = P.reverse := by rw [← h4, rev_take, lX.out, hm1]
       have e4 : Y.take m2 = Q.reverse := by rw [← h5, rev_take, lY.out, hm2]
       rw [e3] at R3; rw [e4] at R4; replace R3 := hdh R3; replace R4 := hdh R4; have z3 := hb3.size
       have bm1 : m1 ≤ n1 := by omega
       have bm2 : m2 ≤ n2 := by omega
       clear hc hCs h4 h5 hbr zr jg e3 e4 hm1 hm2 R1 R2
       go_upto_region 8 with fail
       refine rst (Held wc 0 []) ?_
       repeat (first | (refine' sdo ?_; simp only [pu]) | (refine spa ?_; simp only [pu]))
       refine wpSteady_nil (fun uZ hSZ => ?_); obtain ⟨hcZ, hbZ, hzZ, hcoZ, hfoZ⟩ := hall hSZ; clear hSZ; simp only [Cells] at hcZ; have hb4 := hb3.trans (hbZ.mono z3); go_wp2; go_ret2; exact ⟨hb4, _, _, rfl, R3.out, R4.out⟩
      ·have h3 := hc.out
       rw [cut_step hCs.out, List.tail_drop, List.tail_drop] at h3
       have kk : j < n1 ∧ j < n2 := by
        have h2 := hCs.out
        constructor
        ·refine Nat.lt_of_not_le fun h => ?_
         rw [step_left (by rw [List.length_reverse, lX.out]; exact h)] at h2
         cases h2
        ·refine Nat.lt_of_not_le fun h => ?_
         rw [step_right (by rw [List.length_reverse, lY.out]; exact h)] at h2
         cases h2
       replace h3 := hdh h3; go_wp2
       go_roundg (n1 - (j + 1))
       case measure => omega
       case rel => exact ⟨j + 1, by go_num, Nat.le_refl _, by omega, by omega, h3, hb3⟩
   ·have h3 := hc.out
    rw [cut_step hCs.out, List.tail_drop, List.tail_drop] at h3
    have kk : k < nA ∧ k < nB := by
     have h2 := hCs.out
     constructor
     ·refine Nat.lt_of_not_le fun h => ?_
      rw [step_left (by rw [enA.out]; exact h)] at h2
      cases h2
     ·refine Nat.lt_of_not_le fun h => ?_
      rw [step_right (by rw [enB.out]; exact h)] at h2
      cases h2
    replace h3 := hdh h3; go_wp2
    go_roundg (nA - (k + 1))
    case measure => omega
    case rel => exact ⟨k + 1, by go_num, Nat.le_refl _, by omega, by omega, h3, hb1⟩
end
section
theorem gjoin_any (p q : Re) (w : World) (hp : p.Wf) (hq : q.Wf) : Calls Tryz.prog 119 #[.agg #[.int .i64 (p).x, .int .i64 (p).y, .int .i64 (p).wd, .int .i64 (p).ht], .agg #[.int .i64 (q).x, .int .i64 (q).y, .int .i64 (q).wd, .int .i64 (q).ht]] w fun e w' => e = .returned (.agg #[.int .i64 (joinR p q).x, .int .i64 (joinR p q).y, .int .i64 (joinR p q).wd, .int .i64 (joinR p q).ht]) ∧ Below w.heap.size w w' := by
 have A := fun w => empty_any p w hp
 have B := fun w => empty_any q w hq
 clear hp hq; unfold joinR plainR
 cases h1 : emptyR p
 ·cases h2 : emptyR q
  ·rw [h1] at A
   rw [h2] at B; obtain ⟨mp, p1, p2⟩ := full_bd h1; obtain ⟨mq, q1, q2⟩ := full_bd h2
   have C := fun w => ends_any p w mp
   have D := fun w => ends_any q w mq
   have := may_bd mp; have := may_bd mq; have := may_sum mp; have := may_sum mq
   have E := fun w => from_any (min p.x q.x) (min p.y q.y) (max (p.x + p.wd) (q.x + q.wd)) (max (p.y + p.ht) (q.y + q.ht)) w (by omega) (by omega) (by omega) (by omega)
   simp only [Bool.false_eq_true, if_false]; obtain ⟨x, y, a, b⟩ := p; obtain ⟨u, v, c, d⟩ := q; simp only at A B C D E ⊢; generalize fromR (min x u) (min y v) (max (x + a) (u + c)) (max (y + b) (v + d)) = r at *; obtain ⟨r1, r2, r3, r4⟩ := r; replace A := hdh A; replace B := hdh B; have A2 := A; have B2 := B; replace C := hdh C; replace D := hdh D; replace E := hdh E; clear h1 h2 mp mq
   go_enter Tryz.func119, Tryz.ntmps119
   go_wp2_with (first | (go_at_call 52; (with_reducible refine cmm (A.out _) fun w1 hb1 => ?_); obtain ⟨hc1, hf1, z1⟩ := bzz hb1; (try simp at z1); have lx1 : w.heap.size < w1.heap.size := (by omega); have ly1 : w.heap.size + 1 < w1.heap.size := (by omega); have lz1 : w.heap.size + 1 + 1 < w1.heap.size := (by omega); clear A) | (go_at_call 52; (with_reducible refine cmm (B.out _) fun w2 hb2 => ?_); obtain ⟨hc2, hf2, z2⟩ := bzz hb2; (try simp at z2); have lx2 : w.heap.size < w2.heap.size := (by omega); have ly2 : w.heap.size + 1 < w2.heap.size := (by omega); have lz2 : w.heap.size + 1 + 1 < w2.heap.size := (by omega); clear B) | (go_at_call 52; (with_reducible refine cmm (A2.out _) fun w6 hb6 => ?_); obtain ⟨hc6, hf6, z6⟩ := bzz hb6; (try simp at z6); have lx6 : w.heap.size < w6.heap.size := (by omega); have ly6 : w.heap.size + 1 < w6.heap.size := (by omega); have lz6 : w.heap.size + 1 + 1 < w6.heap.size := (by omega)) | (go_at_call 52; (with_reducible refine cmm (B2.out _) fun w7 hb7 => ?_); obtain ⟨hc7, hf7, z7⟩ := bzz hb7; (try simp at z7); have lx7 : w.heap.size < w7.heap.size := (by omega); have ly7 : w.heap.size + 1 < w7.heap.size := (by omega); have lz7 : w.heap.size + 1 + 1 < w7.heap.size := (by omega)) | (go_at_call 95; (with_reducible refine cmm (C.out _) fun w3 hb3 => ?_); obtain ⟨hc3, hf3, z3⟩ := bzz hb3; (try simp at z3); have lx3 : w.heap.size < w3.heap.size := (by omega); have ly3 : w.heap.size + 1 < w3.heap.size := (by omega); have lz3 : w.heap.size + 1 + 1 < w3.heap.size := (by omega)) | (go_at_call 95; (with_reducible refine cmm (D.out _) fun w4 hb4 => ?_); obtain ⟨hc4, hf4, z4⟩ := bzz hb4; (try simp at z4); have lx4 : w.heap.size < w4.heap.size := (by omega); have ly4 : w.heap.size + 1 < w4.heap.size := (by omega); have lz4 : w.heap.size + 1 + 1 < w4.heap.size := (by omega)) | (go_at_call 96; (with_reducible refine cmm (E.out _) fun w5 hb5 => ?_); obtain ⟨hc5, hf5, z5⟩ := bzz hb5; (try simp at z5); have lx5 : w.heap.size < w5.heap.size := (by omega); have ly5 : w.heap.size + 1 < w5.heap.size := (by omega); have lz5 : w.heap.size + 1 + 1 < w5.heap.size := (by omega)) | go_in)
   refine bodyPost_ret (v := .agg #[.int .i64 r1, .int .i64 r2, .int .i64 r3, .int .i64 r4]) (by simp [results, Tryz.results119, go_sem, hc1, hc6, hc2, hc3, hc4, hc5, hf1, hf6, hf2, hf3, hf4, hf5, lz1, lz6, lz2, lz3, lz4, lz5]) rfl ⟨rfl, belt⟩
  ·rw [h1] at A
   rw [h2] at B; simp only [Bool.false_eq_true, if_false, if_true]; obtain ⟨x, y, a, b⟩ := p; obtain ⟨u, v, c, d⟩ := q; simp only at A B ⊢; replace A := hdh A; replace B := hdh B; have A2 := A; have B2 := B; clear h1 h2
   go_enter Tryz.func119, Tryz.ntmps119
   go_wp2_with (first | (go_at_call 52; (with_reducible refine cmm (A.out _) fun w1 hb1 => ?_); obtain ⟨hc1, hf1, z1⟩ := bzz hb1; (try simp at z1); have lx1 : w.heap.size < w1.heap.size := (by omega); have ly1 : w.heap.size + 1 < w1.heap.size := (by omega); have lz1 : w.heap.size + 1 + 1 < w1.heap.size := (by omega); clear A) | (go_at_call 52; (with_reducible refine cmm (B.out _) fun w2 hb2 => ?_); obtain ⟨hc2, hf2, z2⟩ := bzz hb2; (try simp at z2); have lx2 : w.heap.size < w2.heap.size := (by omega); have ly2 : w.heap.size + 1 < w2.heap.size := (by omega); have lz2 : w.heap.size + 1 + 1 < w2.heap.size := (by omega); clear B) | (go_at_call 52; (with_reducible refine cmm (A2.out _) fun w6 hb6 => ?_); obtain ⟨hc6, hf6, z6⟩ := bzz hb6; (try simp at z6); have lx6 : w.heap.size < w6.heap.size := (by omega); have ly6 : w.heap.size + 1 < w6.heap.size := (by omega); have lz6 : w.heap.size + 1 + 1 < w6.heap.size := (by omega)) | (go_at_call 52; (with_reducible refine cmm (B2.out _) fun w7 hb7 => ?_); obtain ⟨hc7, hf7, z7⟩ := bzz hb7; (try simp at z7); have lx7 : w.heap.size < w7.heap.size := (by omega); have ly7 : w.heap.size + 1 < w7.heap.size := (by omega); have lz7 : w.heap.size + 1 + 1 < w7.heap.size := (by omega)) | go_in)
   refine bodyPost_ret (v := .agg #[.int .i64 x, .int .i64 y, .int .i64 a, .int .i64 b]) (by simp [results, Tryz.results119, go_sem, hc1, hc6, hc2, hf1, hf6, hf2, lz1, lz6, lz2]) rfl ⟨rfl, belt⟩
 ·cases h2 : emptyR q
  ·rw [h1] at A
   rw [h2] at B; simp only [Bool.false_eq_true, if_false, if_true]; obtain ⟨x, y, a, b⟩ := p; obtain ⟨u, v, c, d⟩ := q; simp only at A B ⊢; replace A := hdh A; replace B := hdh B; have A2 := A; have B2 := B; clear h1 h2
   go_enter Tryz.func119, Tryz.ntmps119
   go_wp2_with (first | (go_at_call 52; (with_reducible refine cmm (A.out _) fun w1 hb1 => ?_); obtain ⟨hc1, hf1, z1⟩ := bzz hb1; (try simp at z1); have lx1 : w.heap.size < w1.heap.size := (by omega); have ly1 : w.heap.size + 1 < w1.heap.size := (by omega); have lz1 : w.heap.size + 1 + 1 < w1.heap.size := (by omega); clear A) | (go_at_call 52; (with_reducible refine cmm (B.out _) fun w2 hb2 => ?_); obtain ⟨hc2, hf2, z2⟩ := bzz hb2; (try simp at z2); have lx2 : w.heap.size < w2.heap.size := (by omega); have ly2 : w.heap.size + 1 < w2.heap.size := (by omega); have lz2 : w.heap.size + 1 + 1 < w2.heap.size := (by omega); clear B) | (go_at_call 52; (with_reducible refine cmm (A2.out _) fun w6 hb6 => ?_); obtain ⟨hc6, hf6, z6⟩ := bzz hb6; (try simp at z6); have lx6 : w.heap.size < w6.heap.size := (by omega); have ly6 : w.heap.size + 1 < w6.heap.size := (by omega); have lz6 : w.heap.size + 1 + 1 < w6.heap.size := (by omega)) | (go_at_call 52; (with_reducible refine cmm (B2.out _) fun w7 hb7 => ?_); obtain ⟨hc7, hf7, z7⟩ := bzz hb7; (try simp at z7); have lx7 : w.heap.size < w7.heap.size := (by omega); have ly7 : w.heap.size + 1 < w7.heap.size := (by omega); have lz7 : w.heap.size + 1 + 1 < w7.heap.size := (by omega)) | go_in)
   refine bodyPost_ret (v := .agg #[.int .i64 u, .int .i64 v, .int .i64 c, .int .i64 d]) (by simp [results, Tryz.results119, go_sem, hc1, hc2, hc6, hf1, hf2, hf6, lz1, lz2, lz6]) rfl ⟨rfl, belt⟩
  ·rw [h1] at A
   rw [h2] at B; simp only [if_true]; replace A := hdh A; replace B := hdh B; have A2 := A; have B2 := B; clear h1 h2
   go_enter Tryz.func119, Tryz.ntmps119
   go_wp2_with (first | (go_at_call 52; (with_reducible refine cmm (A.out _) fun w1 hb1 => ?_); obtain ⟨hc1, hf1, z1⟩ := bzz hb1; (try simp at z1); have lx1 : w.heap.size < w1.heap.size := (by omega); have ly1 : w.heap.size + 1 < w1.heap.size := (by omega); have lz1 : w.heap.size + 1 + 1 < w1.heap.size := (by omega); clear A) | (go_at_call 52; (with_reducible refine cmm (B.out _) fun w2 hb2 => ?_); obtain ⟨hc2, hf2, z2⟩ := bzz hb2; (try simp at z2); have lx2 : w.heap.size < w2.heap.size := (by omega); have ly2 : w.heap.size + 1 < w2.heap.size := (by omega); have lz2 : w.heap.size + 1 + 1 < w2.heap.size := (by omega); clear B) | (go_at_call 52; (with_reducible refine cmm (A2.out _) fun w6 hb6 => ?_); obtain ⟨hc6, hf6, z6⟩ := bzz hb6; (try simp at z6); have lx6 : w.heap.size < w6.heap.size := (by omega); have ly6 : w.heap.size + 1 < w6.heap.size := (by omega); have lz6 : w.heap.size + 1 + 1 < w6.heap.size := (by omega)) | (go_at_call 52; (with_reducible refine cmm (B2.out _) fun w7 hb7 => ?_); obtain ⟨hc7, hf7, z7⟩ := bzz hb7; (try simp at z7); have lx7 : w.heap.size < w7.heap.size := (by omega); have ly7 : w.heap.size + 1 < w7.heap.size := (by omega); have lz7 : w.heap.size + 1 + 1 < w7.heap.size := (by omega)) | go_in)
   refine bodyPost_ret (v := .agg #[.int .i64 (Re.none).x, .int .i64 (Re.none).y, .int .i64 (Re.none).wd, .int .i64 (Re.none).ht]) (by simp [results, Tryz.results119, go_sem, hc1, hc2, hf1, hf2, lz1, lz2, Re.none]) rfl ⟨rfl, belt⟩
end
section
theorem abt_from (q : Re) (l : List Re) (h : emptyR q = false) : (q :: l).foldl joinR q = abtR (q :: l) := by
 unfold abtR; rw [List.foldl_cons, List.foldl_cons, join_self h, join_none q h]
theorem joinR_may {a b : Re} (ha : mayR a = true) (hb : mayR b = true) : mayR (joinR a b) = true := by
 unfold joinR plainR
 cases h1 : emptyR a
 ·cases h2 : emptyR b
  ·have := (join_full h1 h2).2
   unfold joinR at this; rw [h1, h2] at this; exact (full_bd this).1
  ·simp only [Bool.false_eq_true, if_false, if_true]; exact ha
 ·simp only [if_true]
  split
  ·exact Re.none_may
  ·exact hb
set_option maxRecDepth 100000 in
theorem about_any (l : List Re) (v : Value) (w : World) (hl : Row w.heap.size 4 Re.enc w v l) (hm : MayL l) (he : ∀ q ∈ l, emptyR q = false) (h0 : 0 < l.length) :
  Calls Tryz.prog 66 #[v] w fun e w' => Below w.heap.size w w' ∧ ∃ v', e = .returned v' ∧ CutR w.heap.size w' v' [abtR l] := by
 obtain ⟨b, o, cap, rfl, hb, hlc, hcm, hel⟩ := row_re hl h0; unfold maxLen at hcm; obtain ⟨n, hn⟩ := exx (l.length); obtain ⟨q0, hq0⟩ := get_at hn (show 0 < n by omega); obtain ⟨g0, g1, g2, g3⟩ := hel 0 q0 hq0; rw [Nat.zero_mul, Nat.add_zero] at g0 g1 g2 g3; have hq0e := he q0 (List.mem_of_getElem? hq0); have hq0m := hm q0 (List.mem_of_getElem? hq0)
 have hfin : l.foldl joinR q0 = abtR l := by
  cases l with
  | nil => simp at h0
  | cons q l =>
   simp at hq0
   subst hq0; exact abt_from q l hq0e
 rw [hn] at hlc h0 ⊢; rw [← hfin]; replace hel := hdh hel; replace hn := hdh hn; replace hm := hdh hm; clear hfin he hl hq0 hq0e; obtain ⟨RES, hRES⟩ := exx (l.foldl joinR q0); rw [hRES]; replace hRES := hdh hRES
 go_enter Tryz.func66, Tryz.ntmps66
 go_upto_region 2 with fail
 obtain ⟨W, hW⟩ := exx (w.alloc (.cells #[.int .i64 q0.x, .int .i64 q0.y, .int .i64 q0.wd, .int .i64 q0.ht] 32)); obtain ⟨b3, hb3⟩ := exx (w.heap.size)
 have B3 : Blk W b3 (Re.enc q0) 32 := by rw [← hW]; exact Blk.new' (cs := Re.enc q0) hb3.symm
 have hbW : Below w.heap.size w W := by rw [← hW]; exact belt
 rw [hW, hb3]; clear hW g0 g1 g2 g3; replace hb3 := hdh hb3; go_wp2
 go_loopw [11] (fun i wr => ∃ (k : Nat) (o : Re), k ≤ n ∧ i = .int .i64 k ∧ Blk wr b3 (Re.enc o) 32 ∧ mayR o = true ∧ Hid ((l.take k).foldl joinR q0 = o) ∧ Below w.heap.size w wr) (fun i _ => n - (intOf i).toNat)
 case atStart => exact ⟨0, q0, Nat.zero_le _, rfl, B3, hq0m, hdh rfl, hbW⟩
 case round =>
  obtain ⟨k, o', hk, rfl, BO, hom, hfo, hbr⟩ := hrel; have zr := hbr.size
  by_cases hkn : k < n
  ·obtain ⟨q, hq⟩ := get_at hn.out hkn
   obtain ⟨g0, g1, g2, g3⟩ := hel.out k q hq; have hqm := hm.out q (List.mem_of_getElem? hq)
   have hkk : (k : Int) < n := by omega
   have J := hdh (fun w => gjoin_any o' q w (may_wf hom) (may_wf hqm)); have hjm := joinR_may hom hqm
   have hfo' : (l.take (k + 1)).foldl joinR q0 = joinR o' q := by rw [List.take_add_one, hq, List.foldl_append, hfo.out]; rfl
   replace hfo' := hdh hfo'; replace hjm := hdh hjm; obtain ⟨hcr, hfr⟩ := bcell hbr; clear hq
   go_upto_region 5 with fail
   clear hcr hfr; obtain ⟨W5, hW5⟩ := exx (wr.alloc (.cells #[.int .i64 q.x, .int .i64 q.y, .int .i64 q.wd, .int .i64 q.ht] 32)); obtain ⟨b5, hb5⟩ := exx (wr.heap.size)
   have B5 : Blk W5 b5 [.int .i64 q.x, .int .i64 q.y, .int .i64 q.wd, .int .i64 q.ht] 32 := by rw [← hW5]; exact Blk.new' hb5.symm
   have hbr5 : Below wr.heap.size wr W5 := by rw [← hW5]; exact (Below.refl _ _).alloc lrr _
   have BO5 := BO.below hbr5 BO.lt; rw [hW5, hb5]; clear hW5 hb5 g0 g1 g2 g3; have c0 := BO5.cell (o := 0) rfl; have c1 := BO5.cell (o := 1) rfl; have c2 := BO5.cell (o := 2) rfl; have c3 := BO5.cell (o := 3) rfl; have d0 := B5.cell (o := 0) rfl; have d1 := B5.cell (o := 1) rfl; have d2 := B5.cell (o := 2) rfl; have d3 := B5.cell (o := 3) rfl
   go_upto_region 6 with (go_at_call 119; (with_reducible refine cmm (J.out _) fun w6 hb6 => ?_); have BO6 := BO5.below hb6 BO5.lt; have e0 := BO6.cell (o := 0) rfl; have e1 := BO6.cell (o := 1) rfl; have e2 := BO6.cell (o := 2) rfl; have e3 := BO6.cell (o := 3) rfl; have fz := BO6.free)
   have HZ : Blk _ b3 (Re.enc (joinR o' q)) 32 := (((BO6.set 0 (.int .i64 (joinR o' q).x)).set 1 (.int .i64 (joinR o' q).y)).set 2 (.int .i64 (joinR o' q).wd)).set 3 (.int .i64 (joinR o' q).ht); have hb06 : Below w.heap.size w w6 := (hbr.trans (hbr5.mono zr)).trans (hb6.mono (by have := hbr5.size; omega)); have hbZ := (((hb06.setCell (p := ⟨b3, 0, none⟩) (by have := hb3.out; show w.heap.size ≤ b3; omega) (.int .i64 (joinR o' q).x)).setCell (p := ⟨b3, 1, none⟩) (by have := hb3.out; show w.heap.size ≤ b3; omega) (.int .i64 (joinR o' q).y)).setCell (p := ⟨b3, 2, none⟩) (by have := hb3.out; show w.heap.size ≤ b3; omega) (.int .i64 (joinR o' q).wd)).setCell (p := ⟨b3, 3, none⟩) (by have := hb3.out; show w.heap.size ≤ b3; omega) (.int .i64 (joinR o' q).ht)
   generalize (((w6.setCell ⟨b3, 0, none⟩ (.int .i64 (joinR o' q).x)).setCell ⟨b3, 1, none⟩ (.int .i64 (joinR o' q).y)).setCell ⟨b3, 2, none⟩ (.int .i64 (joinR o' q).wd)).setCell ⟨b3, 3, none⟩ (.int .i64 (joinR o' q).ht) = wZ at HZ hbZ ⊢; clear c0 c1 c2 c3 d0 d1 d2 d3 e0 e1 e2 e3 fz; replace HZ := hdh HZ; go_wp2; go_roundw
   case rel => exact ⟨k + 1, _, by omega, by go_num, HZ.out, hjm.out, hfo', hbZ⟩
   case measure => simp [intOf]; omega
  ·obtain rfl : k = n := by omega
   have e1 : o' = RES := by rw [← hfo.out, ← hRES.out, List.take_of_length_le (by rw [hn.out]; exact Nat.le_refl _)]
   subst e1; have c0 := BO.cell (o := 0) rfl; have c1 := BO.cell (o := 1) rfl; have c2 := BO.cell (o := 2) rfl; have c3 := BO.cell (o := 3) rfl; go_wp2; go_ret; refine ⟨hbr.alloc zr _, _, rfl, ?_⟩; exact CutR.of (Blk.ownsR (rs := [o']) (show Blk _ _ _ _ from Blk.new' (cs := [.int .i64 o'.x, .int .i64 o'.y, .int .i64 o'.wd, .int .i64 o'.ht]) rfl) rfl zr (by unfold maxLen; omega)) rfl
theorem told_any (l : List Re) (v : Value) (w : World) (hl : Row w.heap.size 4 Re.enc w v l) (hm : MayL l) (he : ∀ q ∈ l, emptyR q = false) :
  Calls Tryz.prog 45 #[v] w fun e w' => Below w.heap.size w w' ∧ ∃ v', e = .returned v' ∧ CutR w.heap.size w' v' (tldL l) := by
 have O1 := of_any l v w hl (wf_of_may hm)
 have A1 := fun (h0 : 0 < l.length) W (h : Below w.heap.size w W) => about_any l v W ((hl.below h).mono h.size) hm he h0
 have hE : bothE l [] 1 ≠ 0 → 0 < l.length := fun h => by
  cases l with
  | nil => exact absurd (by rw [bothE_of mayL_nil]; rfl) h
  | cons _ _ => simp
 have T0 : bothE l [] 1 = 0 → tldL l = bothL l [] 1 := fun h => if_pos h
 have T1 : bothE l [] 1 ≠ 0 → tldL l = [abtR l] := fun h => if_neg h
 obtain ⟨s0, c0, rfl, m0⟩ := hl.shape; clear hl hm he; generalize bothE l [] 1 = E at O1 hE T0 T1; generalize bothL l [] 1 = L at O1 T0; generalize tldL l = T at T0 T1 ⊢
 by_cases e0 : E = 0
 ·subst e0
  obtain rfl := T0 rfl; replace O1 := hdh O1; clear A1 hE T1 T0
  go_enter Tryz.func45, Tryz.ntmps45
  go_wp2_with (first
   | (go_at_call 91; (with_reducible refine O1.out.mono ?_); rintro e w1 ⟨hb1, v1, rfl, C1⟩)
   | go_in)
  go_ret; exact ⟨hb1, _, rfl, C1⟩
 ·obtain rfl := T1 e0
  have e1 : (E == 0) = false := by simpa using e0
  have A2 := A1 (hE e0); replace O1 := hdh O1; replace A2 := hdh A2; clear A1 hE T1 T0
  go_enter Tryz.func45, Tryz.ntmps45
  go_wp2_with (first
   | (go_at_call 91; (with_reducible refine O1.out.mono ?_); rintro e w1 ⟨hb1, v1, rfl, C1⟩; have z1 := hb1.size; clear C1)
   | (go_at_call 66; (with_reducible refine (A2.out _ hb1).mono ?_); rintro e w2 ⟨hb2, v2, rfl, C2⟩)
   | go_in)
  go_ret; exact ⟨hb1.trans (hb2.mono z1), _, rfl, C2.less z1⟩
end
def goneB (s : St) : Bool := if s.kind = 1 ∨ s.kind = 2 then decide (s.col.a = 0) else if s.kind = 3 then decide (s.text.toList = []) else false
def allSd (s : St) : List Re := if s.kind = 2 ∧ emptyR s.rect = false then sidesR s.rect else [s.rect]
def pieP (f : Fl) : List Re := if goneB f.s then [] else meets (allSd f.s) f.r
theorem meets_none (l : List Re) : meets l Re.none = [] := by
 unfold meets; rw [List.filter_eq_nil_iff]
 intro m hm
 obtain ⟨p, _, rfl⟩ := List.mem_map.1 hm
 have e : meetR p Re.none = Re.none := by unfold meetR; rw [Re.none_empty, Bool.or_true, if_pos rfl]
 rw [e, _root_.Go.Proofs.YtfcphagmjijmkaaGreatDoor.eqb_iff.2 rfl]
 decide
theorem meet_inside {f : Fl} (h : f.Ok) (hr : emptyR f.r = false) : emptyR f.s.rect = false ∧ meetR f.s.rect f.r = f.r := by
 obtain ⟨hw, hm, hk, hmr, hf, hin⟩ := h; obtain ⟨_, w0, h0⟩ := full_bd hr; have c1 := has_bd.1 (hin f.r.x f.r.y (has_bd.2 (by omega))); have c2 := has_bd.1 (hin (f.r.x + f.r.wd - 1) (f.r.y + f.r.ht - 1) (has_bd.2 (by omega))); have hs : emptyR f.s.rect = false := full_mk hm (by omega) (by omega); refine ⟨hs, ?_⟩; unfold meetR; rw [hs, hr]; simp only [Bool.or_self, Bool.false_eq_true, if_false]; unfold fromR; rw [if_neg (by omega)]; obtain ⟨⟨k, p, c, b, t, n⟩, ⟨x, y, w, u⟩⟩ := f; simp only at *; simp only [Re.mk.injEq]; omega
theorem pieP_is {f : Fl} (h : f.Ok) : pieP f = pieL f := by
 have hk := h.2.2.1
 have hd : drB f.s = true := by unfold drB; simp; omega
 rcases h.2.2.2.2.1 with e | e
 ·have e1 : pieL f = [] := by
   unfold pieL plcL; rw [e, _root_.Go.Proofs.YtfcphagmjijmkaaGreatDoor.eqb_iff.2 rfl]
   rfl
  rw [e1]; unfold pieP; rw [e, meets_none]
  split <;> rfl
 ·obtain ⟨m1, m2⟩ := meet_inside h e
  have hn : f.r.eqb Re.none = false := by
   cases hh : f.r.eqb Re.none
   ·rfl
   ·rw [_root_.Go.Proofs.YtfcphagmjijmkaaGreatDoor.eqb_iff.1 hh, Re.none_empty] at e
    cases e
  have one : meets [f.s.rect] f.r = [f.r] := by
   unfold meets
   simp [m2, hn]
  unfold pieP pieL plcL; rw [hn, hd]; simp only [Bool.not_true, Bool.or_self, Bool.false_eq_true, if_false]
  rcases hk with hk | hk | hk
  ·have g1 : goneB f.s = decide (f.s.col.a = 0) := by unfold goneB; rw [if_pos (by omega)]
   have g2 : allSd f.s = [f.s.rect] := by unfold allSd; rw [if_neg (by omega)]
   rw [g1, g2, one, if_neg (show ¬ f.s.kind = 3 by omega), if_pos hk]
   by_cases c : f.s.col.a = 0
   ·rw [if_pos c, decide_eq_true c, if_pos rfl]
   ·rw [if_neg c, decide_eq_false c, if_neg (by decide)]
  ·have g1 : goneB f.s = decide (f.s.col.a = 0) := by unfold goneB; rw [if_pos (by omega)]
   have g2 : allSd f.s = sidesR f.s.rect := by unfold allSd; rw [if_pos ⟨hk, m1⟩]
   rw [g1, g2, if_neg (show ¬ f.s.kind = 3 by omega), if_neg (show ¬ f.s.kind = 1 by omega)]
   by_cases c : f.s.col.a = 0
   ·rw [if_pos c, decide_eq_true c, if_pos rfl]
   ·rw [if_neg c, decide_eq_false c, if_neg (by decide)]
  ·have g1 : goneB f.s = decide (f.s.text.toList = []) := by unfold goneB; rw [if_neg (by omega), if_pos hk]
   have g2 : allSd f.s = [f.s.rect] := by unfold allSd; rw [if_neg (by omega)]
   rw [g1, g2, one, if_pos hk]
   by_cases c : f.s.text.toList = []
   ·rw [if_pos c, decide_eq_true c, if_pos rfl]
   ·rw [if_neg c, decide_eq_false c, if_neg (by decide)]
end Go.Proofs.YtfcphagmjijmkaaGreatDoor
