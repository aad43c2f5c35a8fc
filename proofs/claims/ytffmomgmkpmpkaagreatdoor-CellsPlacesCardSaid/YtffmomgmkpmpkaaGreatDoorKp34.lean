/-
  XHb: XRegBg.
-/
import Derived.Test.YtffmomgmkpmpkaaGreatDoorProg
import Derived.Test.YtffmomgmkpmpkaaGreatDoorKp13
namespace Go.Proofs.YtffmomgmkpmpkaaGreatDoor
open Go.RowKit
set_option linter.unusedVariables false
attribute [local go_sem] vwp vUpon_value vUpon_skip vUpon_enter vUpon_row
set_option linter.unusedSimpArgs false
set_option linter.unusedVariables false
section
set_option linter.unusedSimpArgs false
set_option linter.unusedVariables false
/-- The first that a predicate holds of. -/
def rIdx (p : Re → Bool) : List Re → Int
  | [] => -1
  | q :: l => if p q then 0 else let i := rIdx p l; if i < 0 then -1 else i + 1
theorem rIdx_any (p : Re → Bool) : ∀ l : List Re, decide (0 ≤ rIdx p l) = l.any p
  | [] => by simp [rIdx]
  | q :: l => by
    have ih := rIdx_any p l
    unfold rIdx
    cases h : p q
    · simp only [Bool.false_eq_true, if_false, List.any_cons, h, Bool.false_or]
      rw [← ih]
      by_cases hi : rIdx p l < 0
      · rw [if_pos hi]; simp; omega
      · rw [if_neg hi]; simp; omega
    · simp [h]
theorem rIdx_hit {p : Re → Bool} {l : List Re} {k : Nat} {q : Re} (hq : l[k]? = some q) (hp : p q = true) (hb : ∀ j x, j < k → l[j]? = some x → p x = false) : rIdx p l = k := by
  induction l generalizing k with
  | nil => simp at hq
  | cons a l ih =>
    cases k with
    | zero => simp at hq; subst hq; unfold rIdx; rw [if_pos hp]; rfl
    | succ k =>
      have ha := hb 0 a (by omega) rfl
      have := ih (k := k) (by simpa using hq) (fun j x hj hx => hb (j + 1) x (by omega) (by simpa using hx))
      unfold rIdx
      rw [if_neg (by simp [ha]), this]
      simp only
      rw [if_neg (by omega)]; omega
theorem rIdx_miss {p : Re → Bool} {l : List Re} (hb : ∀ (j : Nat) x, l[j]? = some x → p x = false) : rIdx p l = -1 := by
  induction l with
  | nil => rfl
  | cons a l ih =>
    have ha := hb 0 a rfl
    have := ih (fun j x hx => hb (j + 1) x (by simpa using hx))
    unfold rIdx
    rw [if_neg (by simp [ha]), this]
    rfl
set_option maxHeartbeats 1000000 in
set_option maxRecDepth 100000 in
theorem idx_has (ps : List Re) (v : Value) (pred : Re → Bool) (b0 : Nat) (w : World) (hl : Row w.heap.size 4 Re.enc w v ps) (hm : ps.length ≤ 100000)
  (hp : ∀ (W : World) (x : Re), x ∈ ps → Below w.heap.size w W → Calls Tryz.prog 85 #[.agg #[.int .i64 (x).x, .int .i64 (x).y, .int .i64 (x).wd, .int .i64 (x).ht], .pointer (some ⟨b0, 0, none⟩)] W fun e w' => e = .returned (.bool (pred x)) ∧ Below W.heap.size W w') :
  Calls Tryz.prog 123 #[v, .func (.func 85) #[] #[.pointer (some ⟨b0, 0, none⟩)]] w fun e w' => e = .returned (.int .i64 (rIdx pred ps)) ∧ Below w.heap.size w w' := by
 obtain ⟨s0, cap, rfl, hmax⟩ := hl.shape
 have hopen := fun h0 => row_re hl h0
 clear hl
 obtain ⟨n, hn⟩ : ∃ n, ps.length = n := ⟨_, rfl⟩
 rw [hn] at hopen hm hmax ⊢
 replace hopen := Lib.hid hopen
 replace hn := Lib.hid hn
 replace hp := Lib.hid hp
 obtain ⟨R, hR⟩ : ∃ R, rIdx pred ps = R := ⟨_, rfl⟩
 rw [hR]
 replace hR := Lib.hid hR
 go_enter Tryz.func123, Tryz.ntmps123
 go_wp2
 go_loopw [8] (fun i wr => ∃ k : Nat, k ≤ n ∧ i = .int .i64 k ∧ Hid (∀ j x, j < k → ps[j]? = some x → pred x = false) ∧ Below w.heap.size w wr) (fun i _ => n - (intOf i).toNat)
 case atStart => exact ⟨0, Nat.zero_le _, rfl, Lib.hid (fun j x hj => absurd hj (Nat.not_lt_zero _)), Below.refl _ _⟩
 case round =>
  obtain ⟨k, hk, rfl, hno, hbr⟩ := hrel
  have zr := hbr.size
  obtain ⟨hcr, hfr⟩ := bcell hbr
  by_cases hkn : k < n
  ·obtain ⟨b, p, cap', e, hb, _, _, hel⟩ := hopen.out (by omega)
   simp at e
   obtain ⟨rfl, rfl⟩ := e
   obtain ⟨q, hq⟩ : ∃ s, ps[k]? = some s := ⟨ps[k]'(by have := hn.out; omega), List.getElem?_eq_getElem _⟩
   obtain ⟨g0, g1, g2, g3⟩ := hel k q hq
   have hkk : (k : Int) < n := by omega
   have yb : b < wr.heap.size := by omega
   have C := hp.out wr q (List.mem_of_getElem? hq) hbr
   cases hc : pred q
   ·have hno' : Hid (∀ j x, j < k + 1 → ps[j]? = some x → pred x = false) := Lib.hid (fun j x hj hx => by
     rcases Nat.lt_succ_iff_lt_or_eq.1 hj with hj | rfl
     ·exact hno.out j x hj hx
     ·rw [hq] at hx; injection hx with hx; rw [← hx]; exact hc)
    rw [hc] at C
    replace C := Lib.hid C
    clear hel hq hc
    go_wp2_with (first
     | (go_at_call 85; (with_reducible refine (C.out).mono ?_); rintro e w2 ⟨rfl, hb2⟩)
     | go_in)
    go_roundw
    case rel => exact ⟨k + 1, by omega, by go_num, hno', hbr.trans (hb2.mono zr)⟩
    case measure => simp [intOf]; omega
   ·have hit := rIdx_hit hq hc (fun j x hj hx => hno.out j x hj hx)
    rw [hR.out] at hit
    subst hit
    rw [hc] at C
    replace C := Lib.hid C
    clear hel hq hc
    go_wp2_with (first
     | (go_at_call 85; (with_reducible refine (C.out).mono ?_); rintro e w2 ⟨rfl, hb2⟩)
     | go_in)
    go_ret
    exact ⟨rfl, hbr.trans (hb2.mono zr)⟩
  ·obtain rfl : k = n := by omega
   have miss : rIdx pred ps = -1 := rIdx_miss (fun j x hx => hno.out j x (by have := (List.getElem?_eq_some_iff.1 hx).1; have := hn.out; omega) hx)
   rw [hR.out] at miss
   subst miss
   go_wp2
   go_ret
   exact ⟨rfl, hbr⟩
set_option maxHeartbeats 1000000 in
set_option maxRecDepth 100000 in
theorem contains_has (ps : List Re) (v : Value) (pred : Re → Bool) (b0 : Nat) (w : World) (hl : Row w.heap.size 4 Re.enc w v ps) (hm : ps.length ≤ 100000)
    (hp : ∀ (W : World) (x : Re), x ∈ ps → Below w.heap.size w W → Calls Tryz.prog 85 #[.agg #[.int .i64 (x).x, .int .i64 (x).y, .int .i64 (x).wd, .int .i64 (x).ht], .pointer (some ⟨b0, 0, none⟩)] W fun e w' => e = .returned (.bool (pred x)) ∧ Below W.heap.size W w') :
    Calls Tryz.prog 81 #[v, .func (.func 85) #[] #[.pointer (some ⟨b0, 0, none⟩)]] w fun e w' => e = .returned (.bool (ps.any pred)) ∧ Below w.heap.size w w' := by
  have I := idx_has ps v pred b0 w hl hm hp
  have hA := rIdx_any pred ps
  obtain ⟨s0, cap, rfl, hmax⟩ := hl.shape
  clear hl hp
  generalize rIdx pred ps = i at I hA
  generalize ps.any pred = r at hA
  replace I := Lib.hid I
  subst hA
  go_enter Tryz.func81, Tryz.ntmps81
  go_wp2_with (first
    | (go_at_call 123; (with_reducible refine (I.out).mono ?_); rintro e w2 ⟨rfl, hb2⟩)
    | go_in)
  go_ret
  exact ⟨rfl, hb2⟩
theorem has1_any (q : Re) (px py : Int) (b : Nat) (w : World) (hq : mayR q = true) (h1 : I64 px) (h2 : I64 py) (hb : b < w.heap.size) (g0 : w.cell? ⟨b, 0, none⟩ = some (.int .i64 px)) (g1 : w.cell? ⟨b, 1, none⟩ = some (.int .i64 py)) :
    Calls Tryz.prog 85 #[.agg #[.int .i64 (q).x, .int .i64 (q).y, .int .i64 (q).wd, .int .i64 (q).ht], .pointer (some ⟨b, 0, none⟩)] w fun e w' => e = .returned (.bool (hasR q px py)) ∧ Below w.heap.size w w' := by
  have H := fun w => ghas_any q px py w hq h1 h2
  generalize hasR q px py = r at H ⊢
  replace H := Lib.hid H
  go_enter Tryz.func85, Tryz.ntmps85
  go_wp2_with (first
    | (go_at_call 86; (with_reducible refine (H.out _).mono ?_); rintro e w2 ⟨rfl, hb2⟩)
    | go_in)
  go_ret
  exact ⟨rfl, belt⟩
set_option maxHeartbeats 1000000 in
theorem rhas_any (a : List Re) (va : Value) (px py : Int) (w : World) (ha : Row w.heap.size 4 Re.enc w va a) (wa : WfL a) (h1 : I64 px) (h2 : I64 py) :
  Calls Tryz.prog 38 #[va, .agg #[.int .i64 px, .int .i64 py]] w fun e w' => e = .returned (.tuple #[.bool (hasE a px py), .int .i64 (chkR a)]) ∧ Below w.heap.size w w' := by
 obtain ⟨s1, c1, rfl, hmax⟩ := ha.shape
 obtain ⟨wb, hwb⟩ : ∃ wb, wb = w.alloc (.cells #[.int .i64 px, .int .i64 py] 40) := ⟨_, rfl⟩
 have hwal : Below w.heap.size w wb := by rw [hwb]; exact (Below.refl _ _).alloc (Nat.le_refl _) _
 have hsz : w.heap.size < wb.heap.size := by rw [hwb]; simp
 have p0 : wb.cell? ⟨w.heap.size, 0, none⟩ = some (.int .i64 px) := by rw [hwb]; exact World.cell?_alloc_at _ _ _ _ rfl
 have p1 : wb.cell? ⟨w.heap.size, 1, none⟩ = some (.int .i64 py) := by rw [hwb]; exact World.cell?_alloc_at _ _ _ _ rfl
 have AS := asked1 a s1 c1 wb ((ha.below hwal).mono hwal.size) wa
 have hs1 : wb.heap.size = w.heap.size + 1 := by rw [hwb]; simp
 rw [hs1] at AS
 have hal : Below wb.heap.size wb (wb.alloc (.cells #[.slice s1 a.length c1] 69)) := (Below.refl _ _).alloc (Nat.le_refl _) _
 unfold hasE
 by_cases h0 : chkR a = 0
 ·rw [if_pos h0]
  rw [h0] at AS ⊢
  obtain ⟨ma, la⟩ := chkR_may h0
  have CF : ∀ w1, Below wb.heap.size wb w1 → Calls Tryz.prog 81 #[.slice s1 a.length c1, .func (.func 85) #[] #[.pointer (some ⟨w.heap.size, 0, none⟩)]] w1 fun e w' => e = .returned (.bool (hasL a px py)) ∧ Below w1.heap.size w1 w' := fun w1 h => by
   refine contains_has a _ (fun q => hasR q px py) w.heap.size w1 ((((ha.below hwal).mono hwal.size).below h).mono h.size) (by omega) (fun W q hq hb => ?_)
   have z1 := h.size
   have z2 := hb.size
   have hbW : Below wb.heap.size wb W := h.trans (hb.mono h.size)
   exact has1_any q px py w.heap.size W (ma q hq) h1 h2 (by omega) ((hbW.cell (p := ⟨w.heap.size, 0, none⟩) hsz).trans p0) ((hbW.cell (p := ⟨w.heap.size, 1, none⟩) hsz).trans p1)
  generalize hasL a px py = r at CF ⊢
  rw [hwb] at AS CF hal hwal
  replace AS := Lib.hid AS
  replace CF := Lib.hid CF
  clear ha p0 p1 hsz hwb hs1
  go_enter Tryz.func38, Tryz.ntmps38
  go_wp2_with (first
   | (go_at_call 84; (with_reducible refine (AS.out).mono ?_); rintro e w1 ⟨rfl, hb1⟩; have hb01 := hal.trans (hb1.mono hal.size))
   | (go_at_call 81; (with_reducible refine (CF.out _ hb01).mono ?_); rintro e w2 ⟨rfl, hb2⟩)
   | go_in)
  go_ret2
  exact ⟨rfl, hwal.trans ((hb01.trans (hb2.mono hb01.size)).mono hwal.size)⟩
 ·rw [if_neg h0]
  have h0' : (chkR a == 0) = false := by simp [h0]
  have h0n : (chkR a != 0) = true := by simp [h0]
  generalize chkR a = E at *
  rw [hwb] at AS hal hwal
  replace AS := Lib.hid AS
  clear ha p0 p1 hsz hwb hs1
  go_enter Tryz.func38, Tryz.ntmps38
  go_wp2_with (first
   | (go_at_call 84; (with_reducible refine (AS.out).mono ?_); rintro e w1 ⟨rfl, hb1⟩; have hb01 := hal.trans (hb1.mono hal.size))
   | go_in)
  go_ret2
  exact ⟨rfl, hwal.trans (hb01.mono hwal.size)⟩
end
end Go.Proofs.YtffmomgmkpmpkaaGreatDoor
