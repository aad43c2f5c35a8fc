/-
  Whether a column is in one of a row's spans: slices.BinarySearchFunc, region.within.
-/
import Derived.Test.YtlklmncjicgbgaaRegD
namespace Go.Proofs.Ytlklmncjicgbgaa
open Go.RowKit
set_option linter.unusedVariables false
attribute [local go_sem] vwp vUpon_value vUpon_skip vUpon_enter vUpon_row
set_option linter.unusedSimpArgs false
set_option linter.unusedVariables false
theorem canS_mono {l : List Sp} (h : CanS l) : ∀ (i j : Nat) (s t : Sp), i < j → l[i]? = some s → l[j]? = some t → s.2 < t.1 := by
  induction l with
  | nil => intro i j s t _ hs; simp at hs
  | cons u l ih =>
    intro i j s t hij hs ht
    cases i with
    | zero =>
      obtain ⟨j, rfl⟩ : ∃ k, j = k + 1 := ⟨j - 1, by omega⟩
      simp at hs ht
      subst hs
      exact (h.above t (List.mem_of_getElem? ht)).1
    | succ i =>
      obtain ⟨j, rfl⟩ : ∃ k, j = k + 1 := ⟨j - 1, by omega⟩
      simp at hs ht
      exact ih h.tail i j s t (by omega) hs ht
theorem canS_lt {l : List Sp} (h : CanS l) {i j : Nat} {s t : Sp} (hij : i ≤ j) (hs : l[i]? = some s) (ht : l[j]? = some t) : s.1 ≤ t.1 := by
  rcases Nat.lt_or_ge i j with hlt | hge
  · have := canS_mono h i j s t hlt hs ht
    have := h.all_pos s (List.mem_of_getElem? hs)
    omega
  · obtain rfl : i = j := by omega
    rw [hs] at ht
    injection ht with ht
    subst ht
    exact Int.le_refl _
/-- Where a column would stand. -/
def Cut (l : List Sp) (x : Int) (lo hi : Nat) : Prop := (∀ (j : Nat) s, j < lo → l[j]? = some s → s.1 < x) ∧ (∀ (j : Nat) s, hi ≤ j → l[j]? = some s → x ≤ s.1)
def BsPost (l : List Sp) (x : Int) (n : Nat) (w : World) (e : Ending) (w' : World) : Prop := ∃ (i : Nat) (fb : Bool), e = .returned (.tuple #[.int .i64 i, .bool fb]) ∧ Below w.heap.size w w' ∧ i ≤ n ∧ Cut l x i i ∧ (fb = true ↔ ∃ s, l[i]? = some s ∧ s.1 = x)
set_option maxHeartbeats 1000000 in
set_option maxRecDepth 100000 in
theorem bsearch_any (l : List Sp) (x : Int) (v : Value) (w : World) (hl : Row w.heap.size 2 encS w v l) (hc : CanS l) (hin : ∀ s ∈ l, InM s.1) (hx : InM x) (h2 : l.length ≤ 100000) :
    Calls Try.prog 105 #[v, .int .i64 x, .func (.func 106) #[] #[]] w (BsPost l x l.length w) := by
  obtain ⟨s0, cap, rfl, hmax⟩ := hl.shape
  have hopen := fun h0 => row_sp hl h0
  have C := fun (s : Sp) (hs : s ∈ l) W => wcmp_any s x W (hin s hs) hx
  have X := fun (s : Sp) (hs : s ∈ l) => hin s hs
  have hlt := fun {i j : Nat} {s t : Sp} => canS_lt hc (i := i) (j := j) (s := s) (t := t)
  obtain ⟨n, en⟩ : ∃ n, l.length = n := ⟨_, rfl⟩
  rw [en] at hopen hmax h2 ⊢
  obtain ⟨x0, x1⟩ := id hx
  clear hl hin
  replace hopen := Lib.hid hopen
  replace en := Lib.hid en
  replace C := Lib.hid C
  replace X := Lib.hid X
  replace hlt := Lib.hid (show ∀ (i j : Nat) (s t : Sp), i ≤ j → l[i]? = some s → l[j]? = some t → s.1 ≤ t.1 from fun i j s t => hlt)
  go_enter Try.func105, Try.ntmps105
  go_wp2
  go_loopw [9, 10] (fun a b wr => ∃ lo hi : Nat, lo ≤ hi ∧ hi ≤ n ∧ a = .int .i64 lo ∧ b = .int .i64 hi ∧ Hid (Cut l x lo hi) ∧ Below w.heap.size w wr) (fun a b _ => (intOf b).toNat - (intOf a).toNat)
  case atStart => exact ⟨0, n, Nat.zero_le _, Nat.le_refl _, rfl, rfl, Lib.hid ⟨fun j s hj => absurd hj (Nat.not_lt_zero _), fun j s hj hs => absurd ((List.getElem?_eq_some_iff.1 hs).1) (by have := en.out; omega)⟩, Below.refl _ _⟩
  case round =>
    obtain ⟨lo, hi, h01, h1n, rfl, rfl, hcut, hbr⟩ := hrel
    have zr := hbr.size
    obtain ⟨hcr, hfr⟩ := bcell hbr
    by_cases hlh : lo < hi
    · obtain ⟨b, o, cap', e, hb, _, _, hel⟩ := hopen.out (by omega)
      simp at e
      obtain ⟨rfl, rfl⟩ := e
      obtain ⟨s, hs⟩ := get_at (k := (lo + hi) / 2) en.out (by omega)
      obtain ⟨g0, g1⟩ := hel _ s hs
      have C1 := C.out s (List.mem_of_getElem? hs)
      obtain ⟨q0, q1⟩ := X.out s (List.mem_of_getElem? hs)
      have yb : b < wr.heap.size := by omega
      have hsh := Lib.hid hs
      clear hel hs
      obtain ⟨s1, s2⟩ := s
      simp only at g0 g1 C1 q0 q1
      by_cases hsx : s1 < x
      · replace C1 := Lib.hid C1
        have hsx' : s1 - x < 0 := by omega
        go_wp2_with (first
          | (go_at_call 106; (with_reducible refine (C1.out _).mono ?_); rintro e w3 ⟨rfl, hb3⟩)
          | go_in)
        go_roundw
        case rel =>
          refine ⟨(lo + hi) / 2 + 1, hi, by omega, h1n, by rw [show ((lo : Int) + (hi : Int)) / 2 + 1 = (((lo + hi) / 2 + 1 : Nat) : Int) by omega], rfl, Lib.hid ⟨fun j t hj ht => ?_, hcut.out.2⟩, hbr.trans (hb3.mono zr)⟩
          have := hlt.out j _ t _ (by omega) ht hsh.out
          simp only at this
          omega
        case measure => simp [intOf]; omega
      · replace C1 := Lib.hid C1
        have hsx' : ¬ s1 - x < 0 := by omega
        go_wp2_with (first
          | (go_at_call 106; (with_reducible refine (C1.out _).mono ?_); rintro e w3 ⟨rfl, hb3⟩)
          | go_in)
        go_roundw
        case rel =>
          refine ⟨lo, (lo + hi) / 2, by omega, by omega, rfl, by rw [show ((lo : Int) + (hi : Int)) / 2 = (((lo + hi) / 2 : Nat) : Int) by omega], Lib.hid ⟨hcut.out.1, fun j t hj ht => ?_⟩, hbr.trans (hb3.mono zr)⟩
          have := hlt.out _ j _ t hj hsh.out ht
          simp only at this
          omega
        case measure => simp [intOf]; omega
    · obtain rfl : hi = lo := by omega
      by_cases hn : hi < n
      · obtain ⟨b, o, cap', e, hb, _, _, hel⟩ := hopen.out (by omega)
        simp at e
        obtain ⟨rfl, rfl⟩ := e
        obtain ⟨s, hs⟩ := get_at (k := hi) en.out (by omega)
        obtain ⟨g0, g1⟩ := hel _ s hs
        have C1 := C.out s (List.mem_of_getElem? hs)
        obtain ⟨q0, q1⟩ := X.out s (List.mem_of_getElem? hs)
        have yb : b < wr.heap.size := by omega
        have hni : (hi : Int) < n := by omega
        have hsh := Lib.hid hs
        clear hel hs
        obtain ⟨s1, s2⟩ := s
        simp only at g0 g1 C1 q0 q1
        replace C1 := Lib.hid C1
        by_cases hsx : s1 = x
        · subst hsx
          have hsx' : s1 - s1 = 0 := by omega
          go_wp2_with (first
            | (go_at_call 106; (with_reducible refine (C1.out _).mono ?_); rintro e w3 ⟨rfl, hb3⟩)
            | go_in)
          go_ret2
          exact ⟨hi, true, rfl, hbr.trans (hb3.mono zr), h1n, hcut.out, by simp [hsh.out]⟩
        · have hsx' : (s1 - x == 0) = false := by simp; omega
          have hsx2 : decide (s1 - x = 0) = false := by simp; omega
          go_wp2_with (first
            | (go_at_call 106; (with_reducible refine (C1.out _).mono ?_); rintro e w3 ⟨rfl, hb3⟩)
            | go_in)
          go_ret2
          exact ⟨hi, false, rfl, hbr.trans (hb3.mono zr), h1n, hcut.out, by simp [hsh.out, hsx]⟩
      · have hni : ¬ (hi : Int) < n := by omega
        have hno : l[hi]? = none := List.getElem?_eq_none (by have := en.out; omega)
        replace hno := Lib.hid hno
        go_wp2
        go_ret2
        exact ⟨hi, false, rfl, hbr, h1n, hcut.out, by simp [hno.out]⟩
set_option maxHeartbeats 1000000 in
theorem swithin_any (l : List Sp) (x : Int) (v : Value) (w : World) (hl : Row w.heap.size 2 encS w v l) (hc : CanS l) (hin : ∀ s ∈ l, InM s.1) (hx : InM x) (h2 : l.length ≤ 100000) :
    Calls Try.prog 85 #[v, .int .i64 x] w fun e w' => e = .returned (.bool (inSB l x)) ∧ Below w.heap.size w w' := by
  have B := bsearch_any l x v w hl hc hin hx h2
  obtain ⟨s0, cap, rfl, hmax⟩ := hl.shape
  have hopen := fun (wr : World) (hb : Below w.heap.size w wr) h0 => row_sp (hl.below hb) h0
  obtain ⟨n, en⟩ : ∃ n, l.length = n := ⟨_, rfl⟩
  have key : ∀ (i : Nat) (fb : Bool), i ≤ l.length → Cut l x i i → (fb = true ↔ ∃ s, l[i]? = some s ∧ s.1 = x) → (fb = true → inSB l x = true) ∧ (fb = false → i = 0 → inSB l x = false) ∧ (fb = false → ∀ s, 0 < i → l[i - 1]? = some s → inSB l x = decide (x < s.2)) := by
    intro i fb hi hcut hfb
    refine ⟨fun h => ?_, fun h h0 => ?_, fun h s h0 hs => ?_⟩
    · obtain ⟨s, hs, e⟩ := hfb.1 h
      exact inSB_iff.2 ⟨s, List.mem_of_getElem? hs, by omega, by have := hc.all_pos s (List.mem_of_getElem? hs); omega⟩
    · subst h0
      rw [Bool.eq_false_iff]
      intro hh
      obtain ⟨s, hs, a1, a2⟩ := inSB_iff.1 hh
      obtain ⟨j, hj⟩ := List.mem_iff_getElem?.1 hs
      have := hcut.2 j s (Nat.zero_le _) hj
      have e : s.1 = x := by omega
      have := canS_mono hc
      rcases Nat.eq_zero_or_pos j with rfl | hj0
      · rw [hfb.2 ⟨s, hj, e⟩] at h; cases h
      · obtain ⟨t, ht⟩ := get_at (l := l) (k := 0) rfl (by have := (List.getElem?_eq_some_iff.1 hj).1; omega)
        have h1 := canS_mono hc 0 j t s hj0 ht hj
        have h2 := hcut.2 0 t (Nat.le_refl _) ht
        have h3 := hc.all_pos t (List.mem_of_getElem? ht)
        omega
    · rw [Bool.eq_iff_iff, inSB_iff, decide_eq_true_eq]
      constructor
      · rintro ⟨t, ht, a1, a2⟩
        obtain ⟨j, hj⟩ := List.mem_iff_getElem?.1 ht
        by_cases hji : j < i
        · rcases Nat.lt_or_ge j (i - 1) with hlt | hge
          · have h1 := canS_mono hc j (i - 1) t s hlt hj hs
            have h2 := hcut.1 (i - 1) s (by omega) hs
            omega
          · obtain rfl : j = i - 1 := by omega
            rw [hs] at hj
            injection hj with hj
            subst hj
            exact a2
        · have h1 := hcut.2 j t (by omega) hj
          have e : t.1 = x := by omega
          exfalso
          rcases Nat.lt_or_ge i j with hlt | hge
          · obtain ⟨u, hu⟩ := get_at (l := l) (k := i) rfl (by have := (List.getElem?_eq_some_iff.1 hj).1; omega)
            have h1 := canS_mono hc i j u t hlt hu hj
            have h2 := hcut.2 i u (Nat.le_refl _) hu
            have h3 := hc.all_pos u (List.mem_of_getElem? hu)
            omega
          · obtain rfl : j = i := by omega
            rw [hfb.2 ⟨t, hj, e⟩] at h; cases h
      · intro hx2
        have := hcut.1 (i - 1) s (by omega) hs
        exact ⟨s, List.mem_of_getElem? hs, by omega, hx2⟩
  rw [en] at B key hopen hmax h2 ⊢
  obtain ⟨R, hR⟩ : ∃ R, inSB l x = R := ⟨_, rfl⟩
  rw [hR] at key ⊢
  clear hl hR
  replace B := Lib.hid B
  replace key := Lib.hid key
  replace hopen := Lib.hid hopen
  replace en := Lib.hid en
  go_enter Try.func85, Try.ntmps85
  go_upto_region 2 with (first
    | (go_at_call 105; (with_reducible refine (B.out).mono ?_); rintro e w3 ⟨i, fb, rfl, hb3, hi, hcut, hfb⟩)
    | go_in)
  obtain ⟨k1, k2, k3⟩ := key.out i fb hi hcut hfb
  clear key hcut hfb
  cases fb
  · have k2 := k2 rfl
    have k3 := k3 rfl
    clear k1
    rcases Nat.eq_zero_or_pos i with rfl | h0
    · have hR := k2 rfl
      clear k2 k3
      subst hR
      go_wp2
      go_ret
      exact ⟨rfl, hb3⟩
    · obtain ⟨k, rfl⟩ : ∃ k, i = k + 1 := ⟨i - 1, by omega⟩
      obtain ⟨b, o, cap', e, hb, _, _, hel⟩ := hopen.out w3 hb3 (by omega)
      simp at e
      obtain ⟨rfl, rfl⟩ := e
      obtain ⟨s, hs⟩ := get_at (k := k) en.out (by omega)
      obtain ⟨g0, g1⟩ := hel _ s hs
      have hR := k3 s h0 hs
      subst hR
      have hi0 : (0 : Int) < (k : Int) + 1 := by omega
      have hi3 : (k : Int) < n := by omega
      clear k2 k3 hel hs
      obtain ⟨s1, s2⟩ := s
      simp only at g0 g1 ⊢
      go_wp2
      go_ret
      exact ⟨rfl, hb3⟩
  · have hR := k1 rfl
    clear k1 k2 k3
    subst hR
    go_wp2
    go_ret
    exact ⟨rfl, hb3⟩
end Go.Proofs.Ytlklmncjicgbgaa
