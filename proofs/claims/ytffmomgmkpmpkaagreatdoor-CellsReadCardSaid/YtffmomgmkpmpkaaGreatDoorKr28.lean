/-
  Cells: the document's way to read a screen: figures.
-/
import Derived.Test.YtffmomgmkpmpkaaGreatDoorProg
import Derived.Test.YtffmomgmkpmpkaaGreatDoorKr7
namespace Go.Proofs.YtffmomgmkpmpkaaGreatDoor
open Go.RowKit
set_option linter.unusedVariables false
attribute [local go_sem] vwp vUpon_value vUpon_skip vUpon_enter vUpon_row
set_option linter.unusedSimpArgs false
set_option linter.unusedVariables false
theorem valL_take {l : List UInt8} {i : Nat} {c : UInt8} (hc : l[i]? = some c) : valL 0 (l.take (i + 1)) = valL 0 (l.take i) * 10 + ((c.toNat : Int) - 48) := by
  rw [List.take_add_one, hc]
  exact valL_snoc 0 (l.take i) c
set_option maxHeartbeats 4000000 in
set_option maxRecDepth 100000 in
theorem figures_any (l : List UInt8) (hd : ∀ c ∈ l, digB c = true) (hl : l.length ≤ 2000000) (w : World) :
  Calls Tryz.prog 147 #[.string (strL l)] w fun e w' => e = .returned (.int .i64 ((figP l).getD (-1))) ∧ Below w.heap.size w w' := by
 obtain ⟨s, hs⟩ : ∃ s, strL l = s := ⟨_, rfl⟩
 have hsz : s.size = l.length := by rw [← hs]; simp [strL, ByteArray.size]
 obtain ⟨N, hN⟩ : ∃ N, s.size = N := ⟨_, rfl⟩
 rw [hs]
 rw [hN] at hsz
 have hby := Lib.hid (fun (j : Nat) (c : UInt8) (hj : l[j]? = some c) => (show bAt s j = c.toNat by
  have hjl := (List.getElem?_eq_some_iff.1 hj).1
  rw [← bAt_eq (s := s) (i := j) (by omega)]
  subst hs
  have := (List.getElem?_eq_some_iff.1 hj).2
  rw [← this]
  simp [strL]
  rfl))
 obtain ⟨RV, hRV⟩ : ∃ v, (figP l).getD (-1) = v := ⟨_, rfl⟩
 rw [hRV]
 have hE : s.toList.isEmpty = l.isEmpty := by rw [Lib.toList_data, ← hs]; rfl
 have hS0 : s.toList = l := by rw [Lib.toList_data, ← hs]; rfl
 replace hRV := Lib.hid hRV
 replace hs := Lib.hid hs
 cases l with
 | nil =>
  have hE' : s.toList.isEmpty = true := hE
  have hv : RV = -1 := by rw [← hRV.out]; rfl
  subst hv
  clear hE hS0
  go_enter Tryz.func147, Tryz.ntmps147
  go_wp2
  go_ret
  exact ⟨rfl, Below.refl _ _⟩
 | cons c0 r =>
  obtain ⟨M, hM⟩ : ∃ M, (c0 :: r).length = M := ⟨_, rfl⟩
  rw [hM] at hsz hl
  have hM0 : 0 < M := by rw [← hM]; simp
  have hE' : s.toList.isEmpty = false := hE
  have hS1 : ¬ s.toList = [] := by rw [hS0]; exact List.cons_ne_nil _ _
  clear hE hS0
  have X1 := bAt_eq (s := s) (i := 0) (by rw [hN, hsz]; exact hM0)
  have hq := hby.out 0 c0 rfl
  have hfg : figP (c0 :: r) = if 9 < (c0 :: r).length ∨ (1 < (c0 :: r).length ∧ c0 = 48) then none else some (valL 0 (c0 :: r)) := by
   unfold figP
   simp
  rw [hM] at hfg
  have hv := hRV.out
  rw [hfg] at hv
  clear hfg hRV
  replace hM := Lib.hid hM
  by_cases e9 : 9 < M
  ·rw [if_pos (.inl e9)] at hv
   have hv' : RV = -1 := hv.symm
   subst hv'
   clear hv
   have e9i : (9 : Int) < M := by omega
   have e2i : (1 : Int) < M := by omega
   go_enter Tryz.func147, Tryz.ntmps147
   go_wp2
   go_ret
   exact ⟨rfl, Below.refl _ _⟩
  ·have e9i : ¬ (9 : Int) < M := by omega
   by_cases e2 : 1 < M ∧ c0 = 48
   ·rw [if_pos (.inr e2)] at hv
    have hv' : RV = -1 := hv.symm
    subst hv'
    clear hv
    have e2i : (1 : Int) < M := by omega
    have hq2 : bAt s 0 = 48 := by rw [hq, e2.2]; rfl
    clear hq
    go_enter Tryz.func147, Tryz.ntmps147
    go_wp2
    go_ret
    exact ⟨rfl, Below.refl _ _⟩
   ·rw [if_neg (fun h => h.elim e9 e2)] at hv
    have hgo := Lib.hid (show valL 0 (c0 :: r) = RV from hv)
    clear hv
    go_enter Tryz.func147, Tryz.ntmps147
    go_upto_region 1 with fail
    go_cut [21] (fun u wx => u = .bool false ∧ w = wx)
    case first =>
     by_cases e3 : 1 < M
     ·have e3i : (1 : Int) < M := by omega
      have hq2 : ¬ bAt s 0 = 48 := fun h => e2 ⟨e3, by
       have h' : c0.toNat = 48 := by rw [← hq]; exact h
       exact UInt8.toNat.inj h'⟩
      clear hq
      go_wp2
      go_meet
      case rel => exact ⟨congrArg Value.bool (by simp; omega), rfl⟩
     ·have e3i : ¬ (1 : Int) < M := by omega
      go_wp2
      go_meet
      case rel => exact ⟨rfl, rfl⟩
    case rest =>
     obtain ⟨rfl, rfl⟩ := hcut
     go_upto_region 5 with fail
     replace hgo := Lib.hid (show valL 0 (c0 :: r) = RV from hgo.out)
     clear hq X1
     go_loopw [3, 4] (fun nv iv wr => ∃ (i : Nat) (n : Int), i ≤ M ∧ iv = .int .i64 i ∧ nv = .int .i64 n ∧ 0 ≤ n ∧ n < ((10 ^ i : Nat) : Int) ∧ wr = w ∧ Hid (valL 0 ((c0 :: r).take i) = n)) (fun _ iv _ => M - (intOf iv).toNat)
     case atStart => exact ⟨0, 0, Nat.zero_le _, rfl, rfl, by omega, by simp, rfl, Lib.hid rfl⟩
     case round =>
      obtain ⟨i, n, hi, rfl, rfl, hn0, hn1, rfl, hv⟩ := hrel
      by_cases hiM : i < M
      ·have hii : (i : Int) < M := by omega
       obtain ⟨c, hc⟩ : ∃ c, (c0 :: r)[i]? = some c := ⟨(c0 :: r)[i]'(by rw [hM.out]; exact hiM), List.getElem?_eq_getElem _⟩
       have X1 := bAt_eq (s := s) (i := i) (by omega)
       have hq := hby.out i c hc
       have hdc := hd c (List.mem_of_getElem? hc)
       unfold digB at hdc
       simp only [Bool.and_eq_true, decide_eq_true_eq] at hdc
       obtain ⟨q, hbq⟩ : ∃ q, bAt s i = q := ⟨_, rfl⟩
       rw [hbq] at X1 hq
       have y1i : 48 ≤ q := by omega
       have y2i : q ≤ 57 := by omega
       have hP8 : 10 ^ i ≤ 10 ^ 8 := Nat.pow_le_pow_right (by decide) (by omega)
       have hP1 : 10 ^ (i + 1) = 10 ^ i * 10 := Nat.pow_succ 10 i
       obtain ⟨P, hP⟩ : ∃ P, 10 ^ i = P := ⟨_, rfl⟩
       rw [hP] at hn1 hP8 hP1
       have hvn := valL_take hc
       rw [hv.out, ← hq] at hvn
       replace hvn := Lib.hid hvn
       replace hP1 := Lib.hid hP1
       replace hq := Lib.hid hq
       clear hdc hv hP
       go_wp2
       exact ⟨⟨i + 1, _, by omega, rfl, rfl, by omega, by rw [hP1.out]; omega, trivial, hvn⟩, by simp [intOf]; omega⟩
      ·obtain rfl : i = M := by omega
       have hii : ¬ (i : Int) < i := by omega
       have hnv : n = RV := by rw [← hv.out, ← hgo.out, ← hM.out, List.take_length]
       subst hnv
       go_wp2
       go_ret
       exact ⟨rfl, Below.refl _ _⟩
end Go.Proofs.YtffmomgmkpmpkaaGreatDoor

namespace Go.Proofs.YtffmomgmkpmpkaaGreatDoor
open Go.RowKit
set_option linter.unusedVariables false
attribute [local go_sem] vwp vUpon_value vUpon_skip vUpon_enter vUpon_row
set_option linter.unusedSimpArgs false
set_option linter.unusedVariables false
/-- The numbers of an escape, its last byte, how many bytes it has. -/
def numR (l : List UInt8) : Option (List Int × UInt8 × Nat) := if l[0]? = some 27 ∧ l[1]? = some 91 then (docG 38 [] (l.drop 2)).map (fun x => (x.1, x.2.1, l.length - x.2.2.length)) else none
def escD (t : Tm) (l : List UInt8) : Option (Tm × Nat) := match numR l with
  | none => none
  | some (ns, e, k) => match ns with
    | [y, x] => if e = 72 ∧ 1 ≤ y ∧ 1 ≤ x ∧ y ≤ 16384 ∧ x ≤ 16384 then some ({ t with x := x - 1, y := y - 1 }, k) else none
    | [a, b, c0, c1, c2, c3] => if e = 109 ∧ (a = 38 ∨ a = 48) ∧ b = 2 ∧ c0 ≤ 255 ∧ c1 ≤ 255 ∧ c2 ≤ 255 ∧ c3 ≤ 255 then some (if a = 38 then { t with col := ⟨c0, c1, c2, c3⟩ } else { t with back := ⟨c0, c1, c2, c3⟩ }, k) else none
    | _ => none
theorem numR_esc (r : List UInt8) : numR (27 :: 91 :: r) = (docG 38 [] r).map (fun x => (x.1, x.2.1, r.length + 2 - x.2.2.length)) := by
  unfold numR
  rw [if_pos ⟨rfl, rfl⟩]
  rfl
theorem two_of {ns : List Int} (h : ns.length = 2) : ∃ y x, ns = [y, x] := by
  match ns, h with
  | [y, x], _ => exact ⟨y, x, rfl⟩
theorem six_of {ns : List Int} (h : ns.length = 6) : ∃ a b c0 c1 c2 c3, ns = [a, b, c0, c1, c2, c3] := by
  match ns, h with
  | [a, b, c0, c1, c2, c3], _ => exact ⟨a, b, c0, c1, c2, c3, rfl⟩
theorem escD_two {t : Tm} {l : List UInt8} {y x : Int} {e : UInt8} {k : Nat} (h : numR l = some ([y, x], e, k)) : escD t l = if e = 72 ∧ 1 ≤ y ∧ 1 ≤ x ∧ y ≤ 16384 ∧ x ≤ 16384 then some ({ t with x := x - 1, y := y - 1 }, k) else none := by
  unfold escD; rw [h]
theorem escD_six {t : Tm} {l : List UInt8} {a b c0 c1 c2 c3 : Int} {e : UInt8} {k : Nat} (h : numR l = some ([a, b, c0, c1, c2, c3], e, k)) : escD t l = if e = 109 ∧ (a = 38 ∨ a = 48) ∧ b = 2 ∧ c0 ≤ 255 ∧ c1 ≤ 255 ∧ c2 ≤ 255 ∧ c3 ≤ 255 then some (if a = 38 then { t with col := ⟨c0, c1, c2, c3⟩ } else { t with back := ⟨c0, c1, c2, c3⟩ }, k) else none := by
  unfold escD; rw [h]
theorem escD_no {t : Tm} {l : List UInt8} {ns : List Int} {e : UInt8} {k : Nat} (h : numR l = some (ns, e, k)) (h2 : ns.length ≠ 2) (h6 : ns.length ≠ 6) : escD t l = none := by
  unfold escD; rw [h]
  dsimp only
  split
  · exact absurd rfl h2
  · exact absurd rfl h6
  · rfl
theorem escD_none {t : Tm} {l : List UInt8} (h : numR l = none) : escD t l = none := by
  unfold escD; rw [h]
theorem esc_eq (t : Tm) (l : List UInt8) : escP t l = escD t l := by
 by_cases hl : l[0]? = some 27 ∧ l[1]? = some 91
 ·obtain ⟨r, rfl⟩ : ∃ r, l = 27 :: 91 :: r := by
   match l, hl with
   | a :: b :: r, h =>
    refine ⟨r, ?_⟩
    have h1 : a = 27 := by simpa using h.1
    have h2 : b = 91 := by simpa using h.2
    rw [h1, h2]
   | [], h => exact absurd h.1 (by simp)
   | [a], h => exact absurd h.2 (by simp)
  have hE : escP t (27 :: 91 :: r) = match numsP 16384 72 2 r with
   | some ([y, x], r') => if x < 1 ∨ y < 1 then none else some ({ t with x := x - 1, y := y - 1 }, r.length + 2 - r'.length)
   | _ => match numsP 255 109 6 r with
    | some ([a, b, c0, c1, c2, c3], r') => if b = 2 then (if a = 38 then some ({ t with col := ⟨c0, c1, c2, c3⟩ }, r.length + 2 - r'.length) else if a = 48 then some ({ t with back := ⟨c0, c1, c2, c3⟩ }, r.length + 2 - r'.length) else none) else none
    | _ => none := rfl
  have hN := numR_esc r
  cases h1 : numsP 16384 72 2 r with
  | some q =>
   obtain ⟨ns, r'⟩ := q
   obtain ⟨d1, d2, d3⟩ := nums_doc (D := 5) (by decide) (by decide) (by decide) (by decide) 1 r 38 ns r' h1 (by decide)
   obtain ⟨y, x, rfl⟩ := two_of d2
   rw [d1] at hN
   rw [hE, h1, escD_two hN]
   have b1 := d3 y (by simp)
   have b2 := d3 x (by simp)
   dsimp only
   by_cases c : x < 1 ∨ y < 1
   ·rw [if_pos c, if_neg (by intro h; omega)]
   ·rw [if_neg c, if_pos ⟨rfl, by omega, by omega, b1, b2⟩]
  | none =>
   rw [h1] at hE
   dsimp only at hE
   rw [hE]
   clear hE
   cases h2 : numsP 255 109 6 r with
   | some q =>
    obtain ⟨ns, r'⟩ := q
    obtain ⟨d1, d2, d3⟩ := nums_doc (D := 3) (by decide) (by decide) (by decide) (by decide) 5 r 38 ns r' h2 (by decide)
    obtain ⟨a, b, c0, c1, c2, c3, rfl⟩ := six_of d2
    rw [d1] at hN
    rw [escD_six hN]
    have b0 := d3 c0 (by simp)
    have b1 := d3 c1 (by simp)
    have b2 := d3 c2 (by simp)
    have b3 := d3 c3 (by simp)
    dsimp only
    by_cases hb : b = 2
    ·rw [if_pos hb]
     by_cases ha : a = 38
     ·rw [if_pos ha, if_pos ⟨rfl, .inl ha, hb, b0, b1, b2, b3⟩, if_pos ha]
     ·rw [if_neg ha]
      by_cases ha2 : a = 48
      ·rw [if_pos ha2, if_pos ⟨rfl, .inr ha2, hb, b0, b1, b2, b3⟩, if_neg ha]
      ·rw [if_neg ha2, if_neg (fun h => h.2.1.elim ha ha2)]
    ·rw [if_neg hb, if_neg (fun h => hb h.2.2.1)]
   | none =>
    dsimp only
    cases hd : docG 38 [] r with
    | none =>
     rw [hd] at hN
     exact (escD_none hN).symm
    | some q =>
     obtain ⟨ns, e, r'⟩ := q
     rw [hd] at hN
     have hN' : numR (27 :: 91 :: r) = some (ns, e, r.length + 2 - r'.length) := hN
     by_cases l2 : ns.length = 2
     ·obtain ⟨y, x, rfl⟩ := two_of l2
      rw [escD_two hN', if_neg]
      rintro ⟨rfl, _, _, g1, g2⟩
      have := doc_nums (most := 16384) (e := 72) (by decide) 1 r 38 [y, x] r' hd rfl (by intro n hn; simp at hn; rcases hn with rfl | rfl <;> assumption)
      rw [h1] at this
      cases this
     ·by_cases l6 : ns.length = 6
      ·obtain ⟨a, b, c0, c1, c2, c3, rfl⟩ := six_of l6
       rw [escD_six hN', if_neg]
       rintro ⟨rfl, g0, g1, g2, g3, g4, g5⟩
       have := doc_nums (most := 255) (e := 109) (by decide) 5 r 38 [a, b, c0, c1, c2, c3] r' hd rfl (by
        intro n hn
        simp at hn
        rcases hn with rfl | rfl | rfl | rfl | rfl | rfl
        ·omega
        ·omega
        ·assumption
        ·assumption
        ·assumption
        ·assumption)
       rw [h2] at this
       cases this
      ·exact (escD_no hN' l2 l6).symm
 ·have hN : numR l = none := if_neg hl
  rw [escD_none hN]
  unfold escP
  split
  ·exact absurd ⟨rfl, rfl⟩ hl
  ·rfl
end Go.Proofs.YtffmomgmkpmpkaaGreatDoor
