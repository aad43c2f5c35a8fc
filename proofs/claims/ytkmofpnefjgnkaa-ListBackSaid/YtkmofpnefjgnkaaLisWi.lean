/-
  Whether all places are in a rectangle: list.within, with slices.ContainsFunc and slices.IndexFunc at its predicate.
-/
import Derived.Test.YtkmofpnefjgnkaaLisPm
namespace Go.Proofs.Ytkmofpnefjgnkaa
open Go.RowKit
set_option linter.unusedVariables false
attribute [local go_sem] vwp vUpon_value vUpon_skip vUpon_enter vUpon_row
set_option linter.unusedSimpArgs false
set_option linter.unusedVariables false
/-- The first that a predicate holds of. -/
def fIdx (p : Re → Bool) : List Re → Int
  | [] => -1
  | q :: l => if p q then 0 else let i := fIdx p l; if i < 0 then -1 else i + 1
theorem fIdx_any (p : Re → Bool) : ∀ l : List Re, decide (0 ≤ fIdx p l) = l.any p
  | [] => by simp [fIdx]
  | q :: l => by
    have ih := fIdx_any p l
    unfold fIdx
    cases h : p q
    · simp only [Bool.false_eq_true, if_false, List.any_cons, h, Bool.false_or]
      rw [← ih]
      by_cases hi : fIdx p l < 0
      · rw [if_pos hi]; simp; omega
      · rw [if_neg hi]; simp; omega
    · simp [h]
theorem fIdx_hit {p : Re → Bool} {l : List Re} {k : Nat} {q : Re} (hq : l[k]? = some q) (hp : p q = true) (hb : ∀ j x, j < k → l[j]? = some x → p x = false) : fIdx p l = k := by
  induction l generalizing k with
  | nil => simp at hq
  | cons a l ih =>
    cases k with
    | zero => simp at hq; subst hq; unfold fIdx; rw [if_pos hp]; rfl
    | succ k =>
      have ha := hb 0 a (by omega) rfl
      have := ih (k := k) (by simpa using hq) (fun j x hj hx => hb (j + 1) x (by omega) (by simpa using hx))
      unfold fIdx
      rw [if_neg (by simp [ha]), this]
      simp only
      rw [if_neg (by omega)]; omega
theorem fIdx_miss {p : Re → Bool} {l : List Re} (hb : ∀ (j : Nat) x, l[j]? = some x → p x = false) : fIdx p l = -1 := by
  induction l with
  | nil => rfl
  | cons a l ih =>
    have ha := hb 0 a rfl
    have := ih (fun j x hx => hb (j + 1) x (by simpa using hx))
    unfold fIdx
    rw [if_neg (by simp [ha]), this]
    rfl
set_option maxHeartbeats 1000000 in
set_option maxRecDepth 100000 in
theorem idx_in (ps : List Re) (v : Value) (pred : Re → Bool) (b0 : Nat) (w : World) (hl : Row w.heap.size 4 Re.enc w v ps) (hm : ps.length ≤ 100000)
    (hp : ∀ (W : World) (x : Re), x ∈ ps → Below w.heap.size w W → Calls Try.prog 63 #[.agg #[.int .i64 (x).x, .int .i64 (x).y, .int .i64 (x).wd, .int .i64 (x).ht], .pointer (some ⟨b0, 0, none⟩)] W fun e w' => e = .returned (.bool (pred x)) ∧ Below W.heap.size W w') :
    Calls Try.prog 67 #[v, .func (.func 63) #[] #[.pointer (some ⟨b0, 0, none⟩)]] w fun e w' => e = .returned (.int .i64 (fIdx pred ps)) ∧ Below w.heap.size w w' := by
  obtain ⟨s0, cap, rfl, hmax⟩ := hl.shape
  have hopen := fun h0 => row_re hl h0
  clear hl
  obtain ⟨n, hn⟩ : ∃ n, ps.length = n := ⟨_, rfl⟩
  rw [hn] at hopen hm hmax ⊢
  replace hopen := Lib.hid hopen
  replace hn := Lib.hid hn
  replace hp := Lib.hid hp
  obtain ⟨R, hR⟩ : ∃ R, fIdx pred ps = R := ⟨_, rfl⟩
  rw [hR]
  replace hR := Lib.hid hR
  go_enter Try.func67, Try.ntmps67
  go_wp2
  go_loopw [8] (fun i wr => ∃ k : Nat, k ≤ n ∧ i = .int .i64 k ∧ Hid (∀ j x, j < k → ps[j]? = some x → pred x = false) ∧ Below w.heap.size w wr) (fun i _ => n - (intOf i).toNat)
  case atStart => exact ⟨0, Nat.zero_le _, rfl, Lib.hid (fun j x hj => absurd hj (Nat.not_lt_zero _)), Below.refl _ _⟩
  case round =>
    obtain ⟨k, hk, rfl, hno, hbr⟩ := hrel
    have zr := hbr.size
    obtain ⟨hcr, hfr⟩ := bcell hbr
    by_cases hkn : k < n
    · obtain ⟨b, p, cap', e, hb, _, _, hel⟩ := hopen.out (by omega)
      simp at e
      obtain ⟨rfl, rfl⟩ := e
      obtain ⟨q, hq⟩ : ∃ s, ps[k]? = some s := ⟨ps[k]'(by have := hn.out; omega), List.getElem?_eq_getElem _⟩
      obtain ⟨g0, g1, g2, g3⟩ := hel k q hq
      have hkk : (k : Int) < n := by omega
      have yb : b < wr.heap.size := by omega
      have C := hp.out wr q (List.mem_of_getElem? hq) hbr
      cases hc : pred q
      · have hno' : Hid (∀ j x, j < k + 1 → ps[j]? = some x → pred x = false) := Lib.hid (fun j x hj hx => by
          rcases Nat.lt_succ_iff_lt_or_eq.1 hj with hj | rfl
          · exact hno.out j x hj hx
          · rw [hq] at hx; injection hx with hx; rw [← hx]; exact hc)
        rw [hc] at C
        replace C := Lib.hid C
        clear hel hq hc
        go_wp2_with (first
          | (go_at_call 63; (with_reducible refine (C.out).mono ?_); rintro e w2 ⟨rfl, hb2⟩)
          | go_in)
        go_roundw
        case rel => exact ⟨k + 1, by omega, by go_num, hno', hbr.trans (hb2.mono zr)⟩
        case measure => simp [intOf]; omega
      · have hit := fIdx_hit hq hc (fun j x hj hx => hno.out j x hj hx)
        rw [hR.out] at hit
        subst hit
        rw [hc] at C
        replace C := Lib.hid C
        clear hel hq hc
        go_wp2_with (first
          | (go_at_call 63; (with_reducible refine (C.out).mono ?_); rintro e w2 ⟨rfl, hb2⟩)
          | go_in)
        go_ret
        exact ⟨rfl, hbr.trans (hb2.mono zr)⟩
    · obtain rfl : k = n := by omega
      have miss : fIdx pred ps = -1 := fIdx_miss (fun j x hx => hno.out j x (by have := (List.getElem?_eq_some_iff.1 hx).1; have := hn.out; omega) hx)
      rw [hR.out] at miss
      subst miss
      go_wp2
      go_ret
      exact ⟨rfl, hbr⟩
set_option maxHeartbeats 1000000 in
set_option maxRecDepth 100000 in
theorem contains_in (ps : List Re) (v : Value) (pred : Re → Bool) (b0 : Nat) (w : World) (hl : Row w.heap.size 4 Re.enc w v ps) (hm : ps.length ≤ 100000)
    (hp : ∀ (W : World) (x : Re), x ∈ ps → Below w.heap.size w W → Calls Try.prog 63 #[.agg #[.int .i64 (x).x, .int .i64 (x).y, .int .i64 (x).wd, .int .i64 (x).ht], .pointer (some ⟨b0, 0, none⟩)] W fun e w' => e = .returned (.bool (pred x)) ∧ Below W.heap.size W w') :
    Calls Try.prog 50 #[v, .func (.func 63) #[] #[.pointer (some ⟨b0, 0, none⟩)]] w fun e w' => e = .returned (.bool (ps.any pred)) ∧ Below w.heap.size w w' := by
  have I := idx_in ps v pred b0 w hl hm hp
  have hA := fIdx_any pred ps
  obtain ⟨s0, cap, rfl, hmax⟩ := hl.shape
  clear hl hp
  generalize fIdx pred ps = i at I hA
  generalize ps.any pred = r at hA
  replace I := Lib.hid I
  subst hA
  go_enter Try.func50, Try.ntmps50
  go_wp2_with (first
    | (go_at_call 67; (with_reducible refine (I.out).mono ?_); rintro e w2 ⟨rfl, hb2⟩)
    | go_in)
  go_ret
  exact ⟨rfl, hb2⟩
theorem within1_any (p q : Re) (b : Nat) (w : World) (hp : p.Wf) (hq : q.Wf) (hb : b < w.heap.size) (h0 : RMem w b 0 q) : Calls Try.prog 63 #[.agg #[.int .i64 (p).x, .int .i64 (p).y, .int .i64 (p).wd, .int .i64 (p).ht], .pointer (some ⟨b, 0, none⟩)] w fun e w' => e = .returned (.bool (!inR p q)) ∧ Below w.heap.size w w' := by
  have I := fun w => in_any p q w hp hq
  obtain ⟨g0, g1, g2, g3⟩ := h0
  simp only [Nat.zero_add] at g1 g2 g3
  generalize inR p q = r at I
  replace I := Lib.hid I
  go_enter Try.func63, Try.ntmps63
  go_wp2_with (first
    | (go_at_call 20; (with_reducible refine (I.out _).mono ?_); rintro e w2 ⟨rfl, hb2⟩)
    | go_in)
  go_ret
  exact ⟨rfl, (by repeat (first | exact Below.refl _ _ | assumption | refine Below.drew ?_ | refine Below.alloc ?_ (by (try simp) <;> omega) _ | refine Below.setCell ?_ (by (try simp) <;> omega) _ | (refine Below.trans ?_ (Below.mono (by assumption) (by (try simp) <;> omega)))))⟩
/-- All of them in it. -/
def wthB (ps : List Re) (q : Re) : Bool := ps.all fun p => inR p q
theorem wth_not (ps : List Re) (q : Re) : (!(ps.any fun p => !inR p q)) = wthB ps q := by
  unfold wthB
  induction ps with
  | nil => rfl
  | cons p ps ih => simp only [List.any_cons, List.all_cons, Bool.not_or, Bool.not_not, ih]
set_option maxRecDepth 100000 in
theorem within_any (ps : List Re) (q : Re) (v : Value) (w : World) (hl : Row w.heap.size 4 Re.enc w v ps) (hm : ps.length ≤ 100000) (hp : ∀ p ∈ ps, p.Wf) (hq : q.Wf) : Calls Try.prog 47 #[v, .agg #[.int .i64 (q).x, .int .i64 (q).y, .int .i64 (q).wd, .int .i64 (q).ht]] w fun e w' => e = .returned (.bool (wthB ps q)) ∧ Below w.heap.size w w' := by
  have hw := wth_not ps q
  obtain ⟨s0, cap, rfl, hmax⟩ := hl.shape
  have C : ∀ w1 : World, w1 = w.alloc (.cells #[.int .i64 q.x, .int .i64 q.y, .int .i64 q.wd, .int .i64 q.ht] 41) → Calls Try.prog 50 #[.slice s0 ps.length cap, .func (.func 63) #[] #[.pointer (some ⟨w.heap.size, 0, none⟩)]] w1 fun e w' => e = .returned (.bool (ps.any fun p => !inR p q)) ∧ Below w1.heap.size w1 w' := by
    rintro w1 rfl
    have hb1 : Below w.heap.size w (w.alloc (.cells #[.int .i64 q.x, .int .i64 q.y, .int .i64 q.wd, .int .i64 q.ht] 41)) := (Below.refl _ _).alloc (Nat.le_refl _) _
    refine contains_in ps _ (fun p => !inR p q) w.heap.size _ ((hl.below hb1).mono hb1.size) hm (fun W x hx hb => ?_)
    have hs : w.heap.size < (w.alloc (.cells #[.int .i64 q.x, .int .i64 q.y, .int .i64 q.wd, .int .i64 q.ht] 41)).heap.size := by simp
    refine within1_any x q w.heap.size W (hp x hx) hq (Nat.lt_of_lt_of_le hs hb.size) ⟨?_, ?_, ?_, ?_⟩
    · rw [hb.cell (p := ⟨w.heap.size, 0, none⟩) hs, World.cell?_alloc_at _ _ _ _ rfl]; rfl
    · rw [hb.cell (p := ⟨w.heap.size, 1, none⟩) hs, World.cell?_alloc_at _ _ _ _ rfl]; rfl
    · rw [hb.cell (p := ⟨w.heap.size, 2, none⟩) hs, World.cell?_alloc_at _ _ _ _ rfl]; rfl
    · rw [hb.cell (p := ⟨w.heap.size, 3, none⟩) hs, World.cell?_alloc_at _ _ _ _ rfl]; rfl
  generalize wthB ps q = r at hw ⊢
  generalize (ps.any fun p => !inR p q) = r' at C hw
  subst hw
  clear hl hp
  replace C := Lib.hid C
  go_enter Try.func47, Try.ntmps47
  go_wp2_with (first
    | (go_at_call 50; (with_reducible refine (C.out _ ?_).mono ?_); (first | rfl | exact rfl); rintro e w2 ⟨rfl, hb2⟩)
    | go_in)
  go_ret
  exact ⟨rfl, (Below.alloc (Below.refl _ _) (Nat.le_refl _) _).trans (hb2.mono (by simp))⟩
end Go.Proofs.Ytkmofpnefjgnkaa
