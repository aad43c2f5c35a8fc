/-
  Cells: the document's way with a text: one rune, pieces, lines, what is written.
-/
import Derived.Laws.BitsLemmas
import Derived.Test.YtffmomgmkpmpkaaGreatDoorProg
import Derived.Test.YtffmomgmkpmpkaaGreatDoorKp6
namespace Go.Proofs.YtffmomgmkpmpkaaGreatDoor
open Go.RowKit
set_option linter.unusedVariables false
attribute [local go_sem] vwp vUpon_value vUpon_skip vUpon_enter vUpon_row
set_option linter.unusedSimpArgs false
set_option linter.unusedVariables false
/-! ### one rune, plain -/
def bAt (s : ByteArray) (i : Nat) : Nat := (s.get! i).toNat
theorem bAt_eq {s : ByteArray} {i : Nat} (h : i < s.size) : (s[i]'h).toNat = bAt s i := by
  unfold bAt
  cases s with
  | mk d => exact congrArg UInt8.toNat (getElem!_pos d i h).symm
def contN (b : Nat) : Prop := 128 ≤ b ∧ b ≤ 191
instance (b : Nat) : Decidable (contN b) := by unfold contN; exact inferInstance
/-! ### one rune, walked -/
end Go.Proofs.YtffmomgmkpmpkaaGreatDoor

namespace Go.Proofs.YtffmomgmkpmpkaaGreatDoor
open Go.RowKit
set_option linter.unusedVariables false
attribute [local go_sem] vwp vUpon_value vUpon_skip vUpon_enter vUpon_row
set_option linter.unusedSimpArgs false
set_option linter.unusedVariables false
/-- From byte i of the text on, n read: where the number ends, what it is. -/
def numGo (most : Int) : List UInt8 → Nat → Int → Nat × Int
  | [], i, n => (i, n)
  | c :: r, i, n => if 48 ≤ c.toNat ∧ c.toNat ≤ 57 ∧ n ≤ most then numGo most r (i + 1) (n * 10 + ((c.toNat : Int) - 48)) else (i, n)
theorem numGo_bd (most : Int) : ∀ (l : List UInt8) (i : Nat) (n : Int), i ≤ (numGo most l i n).1 ∧ (numGo most l i n).1 ≤ i + l.length
  | [], i, n => by simp [numGo]
  | c :: r, i, n => by
    rw [numGo]
    split
    · have := numGo_bd most r (i + 1) (n * 10 + ((c.toNat : Int) - 48))
      rw [List.length_cons]
      omega
    · simp
/-- The number's value and length; none: it is none. -/
def numP (most : Int) (l : List UInt8) : Option (Int × Nat) :=
  if (numGo most l 0 0).1 = 0 ∨ most < (numGo most l 0 0).2 ∨ (1 < (numGo most l 0 0).1 ∧ l[0]? = some 48) then none else some ((numGo most l 0 0).2, (numGo most l 0 0).1)
def strL (l : List UInt8) : ByteArray := ⟨l.toArray⟩
theorem strL_from (l : List UInt8) (i : Nat) {s : ByteArray} (hs : strL l = s) : s.extract i l.length = strL (l.drop i) := by
  subst hs
  unfold strL
  apply ByteArray.ext
  rw [ByteArray.data_extract]
  simp [List.extract_toArray, List.extract]
  exact List.take_of_length_le (by rw [List.length_drop]; exact Nat.le_refl _)
def outNum (r : Option (Int × Nat)) (l : List UInt8) : Value := match r with
  | none => .tuple #[.int .i64 0, .string ⟨#[]⟩, .bool false]
  | some (n, i) => .tuple #[.int .i64 n, .string (strL (l.drop i)), .bool true]
set_option maxHeartbeats 4000000 in
set_option maxRecDepth 100000 in
theorem number_any (l : List UInt8) (most : Int) (w : World) (hl : l.length ≤ 2000000) (hm0 : 0 ≤ most) (hm1 : most ≤ 1000000) :
  Calls Tryz.prog 146 #[.string (strL l), .int .i64 most] w fun e w' => e = .returned (outNum (numP most l) l) ∧ Below w.heap.size w w' := by
 obtain ⟨s, hs⟩ : ∃ s, strL l = s := ⟨_, rfl⟩
 have hsz : s.size = l.length := by rw [← hs]; simp [strL, ByteArray.size]
 obtain ⟨N, hN⟩ : ∃ N, s.size = N := ⟨_, rfl⟩
 rw [hs]
 rw [hN] at hsz
 have hgo := Lib.hid (show numGo most (l.drop 0) 0 0 = numGo most l 0 0 from rfl)
 have hby := Lib.hid (fun (j : Nat) (c : UInt8) (hj : l[j]? = some c) => (show bAt s j = c.toNat by
  have hjl := (List.getElem?_eq_some_iff.1 hj).1
  rw [← bAt_eq (s := s) (i := j) (by omega)]
  subst hs
  have := (List.getElem?_eq_some_iff.1 hj).2
  rw [← this]
  simp [strL]
  rfl))
 obtain ⟨RV, hRV⟩ : ∃ v, outNum (numP most l) l = v := ⟨_, rfl⟩
 rw [hRV]
 replace hRV := Lib.hid hRV
 replace hs := Lib.hid hs
 go_enter Tryz.func146, Tryz.ntmps146
 go_upto_region 2 with fail
 go_loopw [7, 8] (fun iv nv wr => ∃ (i : Nat) (n : Int), i ≤ N ∧ iv = .int .i64 i ∧ nv = .int .i64 n ∧ 0 ≤ n ∧ n ≤ most * 10 + 10 ∧ wr = w ∧ Hid (numGo most (l.drop i) i n = numGo most l 0 0)) (fun iv _ _ => N - (intOf iv).toNat)
 case atStart => exact ⟨0, 0, Nat.zero_le _, rfl, rfl, by omega, by omega, rfl, hgo⟩
 case round =>
  clear hgo
  obtain ⟨i, n, hi, rfl, rfl, hn0, hn1, rfl, hgo⟩ := hrel
  by_cases hiN : i < N
  ·have hii : (i : Int) < N := by omega
   obtain ⟨c, hc⟩ : ∃ c, l[i]? = some c := ⟨l[i]'(by omega), List.getElem?_eq_getElem _⟩
   have X1 := bAt_eq (s := s) (i := i) (by omega)
   have hq := hby.out i c hc
   have hgo1 := hgo.out
   rw [drop_get hc, numGo] at hgo1
   by_cases y1 : 48 ≤ c.toNat
   ·have y1i : 48 ≤ bAt s i := by omega
    by_cases y2 : c.toNat ≤ 57
    ·have y2i : bAt s i ≤ 57 := by omega
     by_cases y3 : n ≤ most
     ·rw [if_pos ⟨y1, y2, y3⟩, ← hq] at hgo1
      obtain ⟨q, hbq⟩ : ∃ q, bAt s i = q := ⟨_, rfl⟩
      rw [hbq] at hgo1 y1i y2i X1
      clear hq hgo
      replace hgo1 := Lib.hid hgo1
      replace hbq := Lib.hid hbq
      go_wp2
      go_roundw
      case rel => exact ⟨i + 1, n * 10 + ((q : Int) - 48), by omega, by go_num, by go_num, by omega, by omega, by simp, hgo1⟩
      case measure => (simp [intOf]) <;> omega
     ·rw [if_neg (fun h => y3 h.2.2)] at hgo1
      have hE := hgo1.symm
      have x1 : most < n := by omega
      by_cases x0 : i = 0
      ·subst x0
       have hv : RV = .tuple #[.int .i64 0, .string ⟨#[]⟩, .bool false] := by rw [← hRV.out]; unfold numP; rw [hE]; dsimp only; rw [if_pos (.inl rfl)]; rfl
       subst hv
       clear hgo
       simp only [Int.natCast_zero] at *
       go_wp2
       go_ret3
       exact ⟨rfl, belt⟩
      ·have x0i : ¬ (i : Int) = 0 := by omega
       have x0q : ((i : Int) == 0) = false := by simpa using x0i
       have hv : RV = .tuple #[.int .i64 0, .string ⟨#[]⟩, .bool false] := by rw [← hRV.out]; unfold numP; rw [hE]; dsimp only; rw [if_pos (.inr (.inl x1))]; rfl
       subst hv
       go_wp2
       go_ret3
       exact ⟨rfl, belt⟩
    ·rw [if_neg (fun h => y2 h.2.1)] at hgo1
     have y2i : ¬ bAt s i ≤ 57 := by omega
     have hE := hgo1.symm
     by_cases x0 : i = 0
     ·subst x0
      have hv : RV = .tuple #[.int .i64 0, .string ⟨#[]⟩, .bool false] := by rw [← hRV.out]; unfold numP; rw [hE]; dsimp only; rw [if_pos (.inl rfl)]; rfl
      subst hv
      clear hgo
      simp only [Int.natCast_zero] at *
      go_wp2
      go_ret3
      exact ⟨rfl, belt⟩
     ·have x0i : ¬ (i : Int) = 0 := by omega
      have x0q : ((i : Int) == 0) = false := by simpa using x0i
      by_cases x1 : most < n
      ·have hv : RV = .tuple #[.int .i64 0, .string ⟨#[]⟩, .bool false] := by rw [← hRV.out]; unfold numP; rw [hE]; dsimp only; rw [if_pos (.inr (.inl x1))]; rfl
       subst hv
       go_wp2
       go_ret3
       exact ⟨rfl, belt⟩
      ·by_cases x2 : 1 < i
       ·have x2i : (1 : Int) < i := by omega
        have Y0 := bAt_eq (s := s) (i := 0) (by omega)
        obtain ⟨c0, hc0⟩ : ∃ c, l[0]? = some c := ⟨l[0]'(by omega), List.getElem?_eq_getElem _⟩
        have hq0 := hby.out 0 c0 hc0
        by_cases x3 : c0 = 48
        ·subst x3
         have x3i : bAt s 0 = 48 := by rw [hq0]; rfl
         have hv : RV = .tuple #[.int .i64 0, .string ⟨#[]⟩, .bool false] := by rw [← hRV.out]; unfold numP; rw [hE]; dsimp only; rw [if_pos (.inr (.inr ⟨x2, hc0⟩))]; rfl
         subst hv
         go_wp2
         go_ret3
         exact ⟨rfl, belt⟩
        ·have x3i : ¬ bAt s 0 = 48 := by rw [hq0]; intro h; exact x3 (UInt8.toNat_inj.1 h)
         have x3j : ¬ ((bAt s 0 : Nat) : Int) = 48 := by omega
         have x3k : (((bAt s 0 : Nat) : Int) == 48) = false := by simpa using x3j
         have x4 : ¬ l[0]? = some 48 := by rw [hc0]; intro h; exact x3 (Option.some.inj h)
         have hv : RV = .tuple #[.int .i64 n, .string (strL (l.drop i)), .bool true] := by rw [← hRV.out]; unfold numP; rw [hE]; dsimp only; rw [if_neg (fun h => h.elim x0 (fun h => h.elim x1 (fun h => x4 h.2)))]; rfl
         subst hv
         have hil : i ≤ l.length := by omega
         have hili : (i : Int) ≤ (l.length : Int) := by omega
         have hxx := strL_from l i hs.out
         go_upto_region 7 with fail
         refine rst (Held wr 0 []) ?_
         repeat (first | (refine' sdo ?_; simp only [pu]) | (refine spa ?_; simp only [pu]))
         refine wpSteady_nil (fun uA hSA => ?_)
         obtain ⟨hcA, hbA, hzA, hcoA, hfoA⟩ := hall hSA; clear hSA; simp only [Cells] at hcA
         go_wp2
         go_ret3
         exact ⟨by first | rfl | (rw [← hxx]), belt⟩
       ·have x2i : ¬ (1 : Int) < i := by omega
        have hv : RV = .tuple #[.int .i64 n, .string (strL (l.drop i)), .bool true] := by rw [← hRV.out]; unfold numP; rw [hE]; dsimp only; rw [if_neg (fun h => h.elim x0 (fun h => h.elim x1 (fun h => x2 h.1)))]; rfl
        subst hv
        have hil : i ≤ l.length := by omega
        have hili : (i : Int) ≤ (l.length : Int) := by omega
        have hxx := strL_from l i hs.out
        go_upto_region 7 with fail
        refine rst (Held wr 0 []) ?_
        repeat (first | (refine' sdo ?_; simp only [pu]) | (refine spa ?_; simp only [pu]))
        refine wpSteady_nil (fun uA hSA => ?_)
        obtain ⟨hcA, hbA, hzA, hcoA, hfoA⟩ := hall hSA; clear hSA; simp only [Cells] at hcA
        go_wp2
        go_ret3
        exact ⟨by first | rfl | (rw [← hxx]), belt⟩
   ·rw [if_neg (fun h => y1 h.1)] at hgo1
    have y1i : ¬ 48 ≤ bAt s i := by omega
    have hE := hgo1.symm
    by_cases x0 : i = 0
    ·subst x0
     have hv : RV = .tuple #[.int .i64 0, .string ⟨#[]⟩, .bool false] := by rw [← hRV.out]; unfold numP; rw [hE]; dsimp only; rw [if_pos (.inl rfl)]; rfl
     subst hv
     clear hgo
     simp only [Int.natCast_zero] at *
     go_wp2
     go_ret3
     exact ⟨rfl, belt⟩
    ·have x0i : ¬ (i : Int) = 0 := by omega
     have x0q : ((i : Int) == 0) = false := by simpa using x0i
     by_cases x1 : most < n
     ·have hv : RV = .tuple #[.int .i64 0, .string ⟨#[]⟩, .bool false] := by rw [← hRV.out]; unfold numP; rw [hE]; dsimp only; rw [if_pos (.inr (.inl x1))]; rfl
      subst hv
      go_wp2
      go_ret3
      exact ⟨rfl, belt⟩
     ·by_cases x2 : 1 < i
      ·have x2i : (1 : Int) < i := by omega
       have Y0 := bAt_eq (s := s) (i := 0) (by omega)
       obtain ⟨c0, hc0⟩ : ∃ c, l[0]? = some c := ⟨l[0]'(by omega), List.getElem?_eq_getElem _⟩
       have hq0 := hby.out 0 c0 hc0
       by_cases x3 : c0 = 48
       ·subst x3
        have x3i : bAt s 0 = 48 := by rw [hq0]; rfl
        have hv : RV = .tuple #[.int .i64 0, .string ⟨#[]⟩, .bool false] := by rw [← hRV.out]; unfold numP; rw [hE]; dsimp only; rw [if_pos (.inr (.inr ⟨x2, hc0⟩))]; rfl
        subst hv
        go_wp2
        go_ret3
        exact ⟨rfl, belt⟩
       ·have x3i : ¬ bAt s 0 = 48 := by rw [hq0]; intro h; exact x3 (UInt8.toNat_inj.1 h)
        have x3j : ¬ ((bAt s 0 : Nat) : Int) = 48 := by omega
        have x3k : (((bAt s 0 : Nat) : Int) == 48) = false := by simpa using x3j
        have x4 : ¬ l[0]? = some 48 := by rw [hc0]; intro h; exact x3 (Option.some.inj h)
        have hv : RV = .tuple #[.int .i64 n, .string (strL (l.drop i)), .bool true] := by rw [← hRV.out]; unfold numP; rw [hE]; dsimp only; rw [if_neg (fun h => h.elim x0 (fun h => h.elim x1 (fun h => x4 h.2)))]; rfl
        subst hv
        have hil : i ≤ l.length := by omega
        have hili : (i : Int) ≤ (l.length : Int) := by omega
        have hxx := strL_from l i hs.out
        go_upto_region 7 with fail
        refine rst (Held wr 0 []) ?_
        repeat (first | (refine' sdo ?_; simp only [pu]) | (refine spa ?_; simp only [pu]))
        refine wpSteady_nil (fun uA hSA => ?_)
        obtain ⟨hcA, hbA, hzA, hcoA, hfoA⟩ := hall hSA; clear hSA; simp only [Cells] at hcA
        go_wp2
        go_ret3
        exact ⟨by first | rfl | (rw [← hxx]), belt⟩
      ·have x2i : ¬ (1 : Int) < i := by omega
       have hv : RV = .tuple #[.int .i64 n, .string (strL (l.drop i)), .bool true] := by rw [← hRV.out]; unfold numP; rw [hE]; dsimp only; rw [if_neg (fun h => h.elim x0 (fun h => h.elim x1 (fun h => x2 h.1)))]; rfl
       subst hv
       have hil : i ≤ l.length := by omega
       have hili : (i : Int) ≤ (l.length : Int) := by omega
       have hxx := strL_from l i hs.out
       go_upto_region 7 with fail
       refine rst (Held wr 0 []) ?_
       repeat (first | (refine' sdo ?_; simp only [pu]) | (refine spa ?_; simp only [pu]))
       refine wpSteady_nil (fun uA hSA => ?_)
       obtain ⟨hcA, hbA, hzA, hcoA, hfoA⟩ := hall hSA; clear hSA; simp only [Cells] at hcA
       go_wp2
       go_ret3
       exact ⟨by first | rfl | (rw [← hxx]), belt⟩
  ·have hii : ¬ (i : Int) < N := by omega
   have hE : numGo most l 0 0 = (i, n) := by
    have h := hgo.out
    rw [List.drop_of_length_le (by omega), numGo] at h
    exact h.symm
   by_cases x0 : i = 0
   ·subst x0
    have hv : RV = .tuple #[.int .i64 0, .string ⟨#[]⟩, .bool false] := by rw [← hRV.out]; unfold numP; rw [hE]; dsimp only; rw [if_pos (.inl rfl)]; rfl
    subst hv
    clear hgo
    simp only [Int.natCast_zero] at *
    go_wp2
    go_ret3
    exact ⟨rfl, belt⟩
   ·have x0i : ¬ (i : Int) = 0 := by omega
    have x0q : ((i : Int) == 0) = false := by simpa using x0i
    by_cases x1 : most < n
    ·have hv : RV = .tuple #[.int .i64 0, .string ⟨#[]⟩, .bool false] := by rw [← hRV.out]; unfold numP; rw [hE]; dsimp only; rw [if_pos (.inr (.inl x1))]; rfl
     subst hv
     go_wp2
     go_ret3
     exact ⟨rfl, belt⟩
    ·by_cases x2 : 1 < i
     ·have x2i : (1 : Int) < i := by omega
      have Y0 := bAt_eq (s := s) (i := 0) (by omega)
      obtain ⟨c0, hc0⟩ : ∃ c, l[0]? = some c := ⟨l[0]'(by omega), List.getElem?_eq_getElem _⟩
      have hq0 := hby.out 0 c0 hc0
      by_cases x3 : c0 = 48
      ·subst x3
       have x3i : bAt s 0 = 48 := by rw [hq0]; rfl
       have hv : RV = .tuple #[.int .i64 0, .string ⟨#[]⟩, .bool false] := by rw [← hRV.out]; unfold numP; rw [hE]; dsimp only; rw [if_pos (.inr (.inr ⟨x2, hc0⟩))]; rfl
       subst hv
       go_wp2
       go_ret3
       exact ⟨rfl, belt⟩
      ·have x3i : ¬ bAt s 0 = 48 := by rw [hq0]; intro h; exact x3 (UInt8.toNat_inj.1 h)
       have x3j : ¬ ((bAt s 0 : Nat) : Int) = 48 := by omega
       have x3k : (((bAt s 0 : Nat) : Int) == 48) = false := by simpa using x3j
       have x4 : ¬ l[0]? = some 48 := by rw [hc0]; intro h; exact x3 (Option.some.inj h)
       have hv : RV = .tuple #[.int .i64 n, .string (strL (l.drop i)), .bool true] := by rw [← hRV.out]; unfold numP; rw [hE]; dsimp only; rw [if_neg (fun h => h.elim x0 (fun h => h.elim x1 (fun h => x4 h.2)))]; rfl
       subst hv
       have hil : i ≤ l.length := by omega
       have hili : (i : Int) ≤ (l.length : Int) := by omega
       have hxx := strL_from l i hs.out
       go_upto_region 7 with fail
       refine rst (Held wr 0 []) ?_
       repeat (first | (refine' sdo ?_; simp only [pu]) | (refine spa ?_; simp only [pu]))
       refine wpSteady_nil (fun uA hSA => ?_)
       obtain ⟨hcA, hbA, hzA, hcoA, hfoA⟩ := hall hSA; clear hSA; simp only [Cells] at hcA
       go_wp2
       go_ret3
       exact ⟨by first | rfl | (rw [← hxx]), belt⟩
     ·have x2i : ¬ (1 : Int) < i := by omega
      have hv : RV = .tuple #[.int .i64 n, .string (strL (l.drop i)), .bool true] := by rw [← hRV.out]; unfold numP; rw [hE]; dsimp only; rw [if_neg (fun h => h.elim x0 (fun h => h.elim x1 (fun h => x2 h.1)))]; rfl
      subst hv
      have hil : i ≤ l.length := by omega
      have hili : (i : Int) ≤ (l.length : Int) := by omega
      have hxx := strL_from l i hs.out
      go_upto_region 7 with fail
      refine rst (Held wr 0 []) ?_
      repeat (first | (refine' sdo ?_; simp only [pu]) | (refine spa ?_; simp only [pu]))
      refine wpSteady_nil (fun uA hSA => ?_)
      obtain ⟨hcA, hbA, hzA, hcoA, hfoA⟩ := hall hSA; clear hSA; simp only [Cells] at hcA
      go_wp2
      go_ret3
      exact ⟨by first | rfl | (rw [← hxx]), belt⟩
end Go.Proofs.YtffmomgmkpmpkaaGreatDoor

namespace Go.Proofs.YtffmomgmkpmpkaaGreatDoor
open Go.RowKit
set_option linter.unusedVariables false
attribute [local go_sem] vwp vUpon_value vUpon_skip vUpon_enter vUpon_row
set_option linter.unusedSimpArgs false
set_option linter.unusedVariables false
structure Ce where
  rune : Int
  col : Co
  back : Co
  wide : Bool
  tail : Bool
instance : Inhabited Ce := ⟨⟨0, ⟨0, 0, 0, 0⟩, ⟨0, 0, 0, 0⟩, false, false⟩⟩
def Ce.enc (c : Ce) : List Value := [.int .i32 c.rune] ++ c.col.enc ++ c.back.enc ++ [.bool c.wide, .bool c.tail]
theorem Ce.enc_len (c : Ce) : c.enc.length = 11 := rfl
def Ce.Wf (c : Ce) : Prop := True ∧ c.col.Wf ∧ c.back.Wf
def CeL (l : List Ce) : Prop := ∀ c ∈ l, c.Wf
def mayC (c : Ce) : Bool := validR c.rune && (if widR c.rune = 1 then !c.wide && !c.tail else if widR c.rune = 2 then c.wide != c.tail else false)
def CMem (w : World) (b p : Nat) (c : Ce) : Prop :=
  w.cell? ⟨b, p, none⟩ = some (.int .i32 c.rune) ∧ w.cell? ⟨b, p + 1, none⟩ = some (.int .u8 c.col.r) ∧ w.cell? ⟨b, p + 2, none⟩ = some (.int .u8 c.col.g) ∧ w.cell? ⟨b, p + 3, none⟩ = some (.int .u8 c.col.b) ∧ w.cell? ⟨b, p + 4, none⟩ = some (.int .u8 c.col.a) ∧ w.cell? ⟨b, p + 5, none⟩ = some (.int .u8 c.back.r) ∧ w.cell? ⟨b, p + 6, none⟩ = some (.int .u8 c.back.g) ∧ w.cell? ⟨b, p + 7, none⟩ = some (.int .u8 c.back.b) ∧ w.cell? ⟨b, p + 8, none⟩ = some (.int .u8 c.back.a) ∧ w.cell? ⟨b, p + 9, none⟩ = some (.bool c.wide) ∧ w.cell? ⟨b, p + 10, none⟩ = some (.bool c.tail)
theorem cmem_of {w : World} {b p : Nat} {c : Ce} (h : ∀ i u, c.enc[i]? = some u → w.cell? ⟨b, p + i, none⟩ = some u) : CMem w b p c :=
  ⟨h 0 _ rfl, h 1 _ rfl, h 2 _ rfl, h 3 _ rfl, h 4 _ rfl, h 5 _ rfl, h 6 _ rfl, h 7 _ rfl, h 8 _ rfl, h 9 _ rfl, h 10 _ rfl⟩
theorem CMem.below {w w' : World} {b p B : Nat} {c : Ce} (h : CMem w b p c) (hb : Below B w w') (hB : b < B) : CMem w' b p c := by
  obtain ⟨h0, h1, h2, h3, h4, h5, h6, h7, h8, h9, h10⟩ := h
  have k : ∀ o v, w.cell? ⟨b, o, none⟩ = some v → w'.cell? ⟨b, o, none⟩ = some v := fun o v e => (hb.cell (p := ⟨b, o, none⟩) hB).trans e
  exact ⟨k _ _ h0, k _ _ h1, k _ _ h2, k _ _ h3, k _ _ h4, k _ _ h5, k _ _ h6, k _ _ h7, k _ _ h8, k _ _ h9, k _ _ h10⟩
theorem row_ce {B : Nat} {w : World} {v : Value} {l : List Ce} (h : Row B 11 Ce.enc w v l) (h0 : 0 < l.length) :
    ∃ b o cap, v = .slice (some ⟨b, o, none⟩) l.length cap ∧ b < B ∧ l.length ≤ cap ∧ cap ≤ maxLen ∧ ∀ (j : Nat) c, l[j]? = some c → CMem w b (o + j * 11) c := by
  obtain ⟨b, o, cap, hv, hb, hc, hm, hx⟩ := h.open_ h0
  exact ⟨b, o, cap, hv, hb, hc, hm, fun j c hj => cmem_of (fun i u hu => hx j c hj i u hu)⟩
set_option maxHeartbeats 4000000 in
theorem cmay_any (c : Ce) (w : World) : Calls Tryz.prog 105 #[.agg #[.int .i32 (c).rune, .int .u8 (c).col.r, .int .u8 (c).col.g, .int .u8 (c).col.b, .int .u8 (c).col.a, .int .u8 (c).back.r, .int .u8 (c).back.g, .int .u8 (c).back.b, .int .u8 (c).back.a, .bool (c).wide, .bool (c).tail]] w fun e w' => e = .returned (.bool (mayC c)) ∧ Below w.heap.size w w' := by
 obtain ⟨R, hR⟩ : ∃ R, mayC c = R := ⟨_, rfl⟩
 rw [hR]
 obtain ⟨ru, ⟨c1, c2, c3, c4⟩, ⟨d1, d2, d3, d4⟩, wi, ta⟩ := c
 unfold mayC at hR
 dsimp only at hR ⊢
 have V := validRune_any ru
 have D := width_any ru
 have bd := widR_bd ru
 go_enter Tryz.func105, Tryz.ntmps105
 cases hv : validR ru
 ·rw [hv] at V hR
  simp only [Bool.false_and] at hR
  subst hR
  replace V := Lib.hid V
  go_wp2_with (go_at_call 126; (with_reducible refine (V.out _).mono ?_); rintro e w1 ⟨rfl, hb1⟩; obtain ⟨hc1, hf1⟩ := bcell hb1; have hz1 := hb1.size; (try simp at hz1); (try have lt1 : w.heap.size < w1.heap.size := (by omega)))
  go_ret
  exact ⟨rfl, belt⟩
 ·rw [hv] at V hR
  simp only [Bool.true_and] at hR
  obtain ⟨W, hW⟩ : ∃ W, widR ru = W := ⟨_, rfl⟩
  rw [hW] at D hR bd
  clear hW
  replace V := Lib.hid V
  replace D := Lib.hid D
  obtain rfl | rfl | rfl : W = 0 ∨ W = 1 ∨ W = 2 := by omega
  ·simp at hR; subst hR
   go_wp2_with (first | (go_at_call 126; (with_reducible refine (V.out _).mono ?_); rintro e w1 ⟨rfl, hb1⟩; obtain ⟨hc1, hf1⟩ := bcell hb1; have hz1 := hb1.size; (try simp at hz1); (try have lt1 : w.heap.size < w1.heap.size := (by omega))) | (go_at_call 91; (with_reducible refine (D.out _).mono ?_); rintro e w2 ⟨rfl, hb2⟩; obtain ⟨hc2, hf2⟩ := bcell hb2; have hz2 := hb2.size; (try simp at hz2); (try have lt2 : w.heap.size < w2.heap.size := (by omega))))
   go_ret
   exact ⟨rfl, belt⟩
  ·cases wi
   ·cases ta
    ·simp at hR; subst hR
     go_wp2_with (first | (go_at_call 126; (with_reducible refine (V.out _).mono ?_); rintro e w1 ⟨rfl, hb1⟩; obtain ⟨hc1, hf1⟩ := bcell hb1; have hz1 := hb1.size; (try simp at hz1); (try have lt1 : w.heap.size < w1.heap.size := (by omega))) | (go_at_call 91; (with_reducible refine (D.out _).mono ?_); rintro e w2 ⟨rfl, hb2⟩; obtain ⟨hc2, hf2⟩ := bcell hb2; have hz2 := hb2.size; (try simp at hz2); (try have lt2 : w.heap.size < w2.heap.size := (by omega))))
     go_ret
     exact ⟨rfl, belt⟩
    ·simp at hR; subst hR
     go_wp2_with (first | (go_at_call 126; (with_reducible refine (V.out _).mono ?_); rintro e w1 ⟨rfl, hb1⟩; obtain ⟨hc1, hf1⟩ := bcell hb1; have hz1 := hb1.size; (try simp at hz1); (try have lt1 : w.heap.size < w1.heap.size := (by omega))) | (go_at_call 91; (with_reducible refine (D.out _).mono ?_); rintro e w2 ⟨rfl, hb2⟩; obtain ⟨hc2, hf2⟩ := bcell hb2; have hz2 := hb2.size; (try simp at hz2); (try have lt2 : w.heap.size < w2.heap.size := (by omega))))
     go_ret
     exact ⟨rfl, belt⟩
   ·simp at hR; subst hR
    go_wp2_with (first | (go_at_call 126; (with_reducible refine (V.out _).mono ?_); rintro e w1 ⟨rfl, hb1⟩; obtain ⟨hc1, hf1⟩ := bcell hb1; have hz1 := hb1.size; (try simp at hz1); (try have lt1 : w.heap.size < w1.heap.size := (by omega))) | (go_at_call 91; (with_reducible refine (D.out _).mono ?_); rintro e w2 ⟨rfl, hb2⟩; obtain ⟨hc2, hf2⟩ := bcell hb2; have hz2 := hb2.size; (try simp at hz2); (try have lt2 : w.heap.size < w2.heap.size := (by omega))))
    go_ret
    exact ⟨rfl, belt⟩
  ·have e : (wi != ta) = R := by simpa using hR
   clear hR
   cases wi <;> cases ta <;> simp at e <;> subst e
   ·go_wp2_with (first | (go_at_call 126; (with_reducible refine (V.out _).mono ?_); rintro e w1 ⟨rfl, hb1⟩; obtain ⟨hc1, hf1⟩ := bcell hb1; have hz1 := hb1.size; (try simp at hz1); (try have lt1 : w.heap.size < w1.heap.size := (by omega))) | (go_at_call 91; (with_reducible refine (D.out _).mono ?_); rintro e w2 ⟨rfl, hb2⟩; obtain ⟨hc2, hf2⟩ := bcell hb2; have hz2 := hb2.size; (try simp at hz2); (try have lt2 : w.heap.size < w2.heap.size := (by omega))))
    go_ret
    exact ⟨rfl, belt⟩
   ·go_wp2_with (first | (go_at_call 126; (with_reducible refine (V.out _).mono ?_); rintro e w1 ⟨rfl, hb1⟩; obtain ⟨hc1, hf1⟩ := bcell hb1; have hz1 := hb1.size; (try simp at hz1); (try have lt1 : w.heap.size < w1.heap.size := (by omega))) | (go_at_call 91; (with_reducible refine (D.out _).mono ?_); rintro e w2 ⟨rfl, hb2⟩; obtain ⟨hc2, hf2⟩ := bcell hb2; have hz2 := hb2.size; (try simp at hz2); (try have lt2 : w.heap.size < w2.heap.size := (by omega))))
    go_ret
    exact ⟨rfl, belt⟩
   ·go_wp2_with (first | (go_at_call 126; (with_reducible refine (V.out _).mono ?_); rintro e w1 ⟨rfl, hb1⟩; obtain ⟨hc1, hf1⟩ := bcell hb1; have hz1 := hb1.size; (try simp at hz1); (try have lt1 : w.heap.size < w1.heap.size := (by omega))) | (go_at_call 91; (with_reducible refine (D.out _).mono ?_); rintro e w2 ⟨rfl, hb2⟩; obtain ⟨hc2, hf2⟩ := bcell hb2; have hz2 := hb2.size; (try simp at hz2); (try have lt2 : w.heap.size < w2.heap.size := (by omega))))
    go_ret
    exact ⟨rfl, belt⟩
   ·go_wp2_with (first | (go_at_call 126; (with_reducible refine (V.out _).mono ?_); rintro e w1 ⟨rfl, hb1⟩; obtain ⟨hc1, hf1⟩ := bcell hb1; have hz1 := hb1.size; (try simp at hz1); (try have lt1 : w.heap.size < w1.heap.size := (by omega))) | (go_at_call 91; (with_reducible refine (D.out _).mono ?_); rintro e w2 ⟨rfl, hb2⟩; obtain ⟨hc2, hf2⟩ := bcell hb2; have hz2 := hb2.size; (try simp at hz2); (try have lt2 : w.heap.size < w2.heap.size := (by omega))))
    go_ret
    exact ⟨rfl, belt⟩
/-! ### rows of cells -/
theorem allC_step {l : List Ce} {k : Nat} {c : Ce} (h : l[k]? = some c) : (l.drop k).all mayC = (mayC c && (l.drop (k + 1)).all mayC) := by
  rw [drop_get h]; rfl
set_option maxHeartbeats 2000000 in
theorem call_any (l : List Ce) (v : Value) (w : World) (hl : Row w.heap.size 11 Ce.enc w v l) :
  Calls Tryz.prog 51 #[v] w fun e w' => e = .returned (.bool (l.all mayC)) ∧ Below w.heap.size w w' := by
 obtain ⟨s0, cap, rfl, hmax⟩ := hl.shape
 have hopen := fun h0 => row_ce hl h0
 obtain ⟨n, en⟩ : ∃ n, l.length = n := ⟨_, rfl⟩
 rw [en] at hopen hmax ⊢
 obtain ⟨R, hR⟩ : ∃ R, l.all mayC = R := ⟨_, rfl⟩
 rw [hR]
 have hgo := Lib.hid (show (l.drop 0).all mayC = R from hR)
 replace hopen := Lib.hid hopen
 replace en := Lib.hid en
 unfold maxLen at hmax
 clear hl hR
 go_enter Tryz.func51, Tryz.ntmps51
 go_wp2
 go_loopw [7] (fun iv wr => ∃ k : Nat, k ≤ n ∧ iv = .int .i64 k ∧ Hid ((l.drop k).all mayC = R) ∧ Below w.heap.size w wr) (fun iv _ => n - (intOf iv).toNat)
 case atStart => exact ⟨0, Nat.zero_le _, rfl, hgo, Below.refl _ _⟩
 case round =>
  obtain ⟨k, hk, rfl, hgo, hbr⟩ := hrel
  have zr := hbr.size
  by_cases hkn : k < n
  ·obtain ⟨b, o, cap', e, hb, _, _, hel⟩ := hopen.out (by omega)
   simp at e
   obtain ⟨rfl, rfl⟩ := e
   obtain ⟨s, hs⟩ := get_at en.out hkn
   obtain ⟨g0, g1, g2, g3, g4, g5, g6, g7, g8, g9, g10⟩ := CMem.below (hel k s hs) hbr hb
   have A := cmay_any s
   have hg := hgo.out
   rw [allC_step hs] at hg
   have hkk : (k : Int) < n := by omega
   have yb : b < wr.heap.size := by omega
   clear hel hs
   generalize mayC s = r at A hg
   replace A := Lib.hid A
   cases r
   ·rw [Bool.false_and] at hg
    subst hg
    go_wp2_with (go_at_call 105; (with_reducible refine (A.out _).mono ?_); rintro e w1 ⟨rfl, hb1⟩; obtain ⟨hc1, hf1⟩ := bcell hb1; have hz1 := hb1.size; (try simp at hz1); (try have lt1 : w.heap.size < w1.heap.size := (by omega)))
    go_ret
    exact ⟨rfl, belt⟩
   ·rw [Bool.true_and] at hg
    replace hg := Lib.hid hg
    go_wp2_with (go_at_call 105; (with_reducible refine (A.out _).mono ?_); rintro e w1 ⟨rfl, hb1⟩; obtain ⟨hc1, hf1⟩ := bcell hb1; have hz1 := hb1.size; (try simp at hz1); (try have lt1 : w.heap.size < w1.heap.size := (by omega)))
    go_roundw
    case rel => exact ⟨k + 1, by omega, by go_num, hg, belt⟩
    case measure => simp [intOf]; omega
  ·obtain rfl : k = n := by omega
   have hg := hgo.out
   rw [List.drop_eq_nil_of_le (by have := en.out; omega)] at hg
   have hg : true = R := hg
   subst hg
   go_wp2
   go_ret
   exact ⟨rfl, hbr⟩
end Go.Proofs.YtffmomgmkpmpkaaGreatDoor

namespace Go.Proofs.YtffmomgmkpmpkaaGreatDoor
open Go.RowKit
set_option linter.unusedVariables false
attribute [local go_sem] vwp vUpon_value vUpon_skip vUpon_enter vUpon_row
set_option linter.unusedSimpArgs false
set_option linter.unusedVariables false
def fitsS (wd ht : Int) : Bool := decide (0 ≤ wd) && decide (0 ≤ ht) && decide (wd ≤ 16384) && decide (ht ≤ 16384) && decide (wd * ht ≤ 262144)
theorem fitsS_true {wd ht : Int} : fitsS wd ht = true ↔ (0 ≤ wd ∧ 0 ≤ ht ∧ wd ≤ 16384 ∧ ht ≤ 16384 ∧ wd * ht ≤ 262144) := by
  unfold fitsS
  simp only [Bool.and_eq_true, decide_eq_true_eq]
  constructor
  · rintro ⟨⟨⟨⟨a, b⟩, c⟩, d⟩, e⟩; exact ⟨a, b, c, d, e⟩
  · rintro ⟨a, b, c, d, e⟩; exact ⟨⟨⟨⟨a, b⟩, c⟩, d⟩, e⟩
theorem mul_bd {wd ht : Int} (h0 : 0 ≤ wd) (h1 : 0 ≤ ht) (h2 : wd ≤ 16384) (h3 : ht ≤ 16384) : 0 ≤ wd * ht ∧ wd * ht ≤ 268435456 :=
  ⟨Int.mul_nonneg h0 h1, Int.le_trans (Int.mul_le_mul h2 h3 h1 (by omega)) (by decide)⟩
set_option maxHeartbeats 4000000 in
theorem cfits_any (wd ht : Int) (w : World) (h1 : I64 wd) (h2 : I64 ht) : Calls Tryz.prog 50 #[.agg #[.int .i64 (wd), .int .i64 (ht)]] w fun e w' => e = .returned (.bool (fitsS wd ht)) ∧ Below w.heap.size w w' := by
 obtain ⟨R, hR⟩ : ∃ R, fitsS wd ht = R := ⟨_, rfl⟩
 rw [hR]
 obtain ⟨P, hP⟩ : ∃ P, wd * ht = P := ⟨_, rfl⟩
 have bd : 0 ≤ wd → 0 ≤ ht → wd ≤ 16384 → ht ≤ 16384 → 0 ≤ P ∧ P ≤ 268435456 := fun a b c d => hP ▸ mul_bd a b c d
 unfold fitsS at hR
 rw [hP] at hR
 go_enter Tryz.func50, Tryz.ntmps50
 by_cases q : wd < ht
 ·have q2 : wd ≤ ht := by omega
  have q3 : max wd ht = ht := by omega
  have q4 : min wd ht = wd := by omega
  by_cases c1 : 0 ≤ wd
  ·by_cases c2 : ht ≤ 16384
   ·have a1 : 0 ≤ wd := by omega
    have a2 : 0 ≤ ht := by omega
    have a3 : wd ≤ 16384 := by omega
    have a4 : ht ≤ 16384 := by omega
    have bd := bd a1 a2 a3 a4
    by_cases c3 : P ≤ 262144
    ·have : R = true := by rw [← hR]; simp [a1, a2, a3, a4, c3]
     subst this
     clear hR
     go_wp2
     go_ret
     exact ⟨rfl, belt⟩
    ·have : R = false := by rw [← hR]; simp [c3]
     subst this
     clear hR
     go_wp2
     go_ret
     exact ⟨rfl, belt⟩
   ·have : R = false := by rw [← hR]; simp [c2]
    subst this
    clear hR bd
    go_wp2
    go_ret
    exact ⟨rfl, belt⟩
  ·have : R = false := by rw [← hR]; simp [c1]
   subst this
   clear hR bd
   go_wp2
   go_ret
   exact ⟨rfl, belt⟩
 ·by_cases qq : wd = ht
  ·have q2 : ht ≤ wd := by omega
   have q5 : wd ≤ ht := by omega
   clear qq
   have q3 : max wd ht = wd := by omega
   have q4 : min wd ht = ht := by omega
   by_cases c1 : 0 ≤ ht
   ·by_cases c2 : wd ≤ 16384
    ·have a1 : 0 ≤ wd := by omega
     have a2 : 0 ≤ ht := by omega
     have a3 : wd ≤ 16384 := by omega
     have a4 : ht ≤ 16384 := by omega
     have bd := bd a1 a2 a3 a4
     by_cases c3 : P ≤ 262144
     ·have : R = true := by rw [← hR]; simp [a1, a2, a3, a4, c3]
      subst this
      clear hR
      go_wp2
      go_ret
      exact ⟨rfl, belt⟩
     ·have : R = false := by rw [← hR]; simp [c3]
      subst this
      clear hR
      go_wp2
      go_ret
      exact ⟨rfl, belt⟩
    ·have : R = false := by rw [← hR]; simp [c2]
     subst this
     clear hR bd
     go_wp2
     go_ret
     exact ⟨rfl, belt⟩
   ·have : R = false := by rw [← hR]; simp [c1]
    subst this
    clear hR bd
    go_wp2
    go_ret
    exact ⟨rfl, belt⟩
  ·have q2 : ht ≤ wd := by omega
   have q5 : ht < wd := by omega
   have q6 : ¬ wd ≤ ht := by omega
   have q3 : max wd ht = wd := by omega
   have q4 : min wd ht = ht := by omega
   by_cases c1 : 0 ≤ ht
   ·by_cases c2 : wd ≤ 16384
    ·have a1 : 0 ≤ wd := by omega
     have a2 : 0 ≤ ht := by omega
     have a3 : wd ≤ 16384 := by omega
     have a4 : ht ≤ 16384 := by omega
     have bd := bd a1 a2 a3 a4
     by_cases c3 : P ≤ 262144
     ·have : R = true := by rw [← hR]; simp [a1, a2, a3, a4, c3]
      subst this
      clear hR
      go_wp2
      go_ret
      exact ⟨rfl, belt⟩
     ·have : R = false := by rw [← hR]; simp [c3]
      subst this
      clear hR
      go_wp2
      go_ret
      exact ⟨rfl, belt⟩
    ·have : R = false := by rw [← hR]; simp [c2]
     subst this
     clear hR bd
     go_wp2
     go_ret
     exact ⟨rfl, belt⟩
   ·have : R = false := by rw [← hR]; simp [c1]
    subst this
    clear hR bd
    go_wp2
    go_ret
    exact ⟨rfl, belt⟩
def chkS (wd ht : Int) (l : List Ce) : Int := if fitsS wd ht && decide ((l.length : Int) = wd * ht) && l.all mayC then 0 else 150
set_option maxHeartbeats 4000000 in
theorem ccheck_any (wd ht : Int) (l : List Ce) (v : Value) (w : World) (h1 : I64 wd) (h2 : I64 ht) (hl : Row w.heap.size 11 Ce.enc w v l) : Calls Tryz.prog 15 #[.agg #[.int .i64 (wd), .int .i64 (ht), v]] w fun e w' => e = .returned (.int .i64 (chkS wd ht l)) ∧ Below w.heap.size w w' := by
 obtain ⟨R, hR⟩ : ∃ R, chkS wd ht l = R := ⟨_, rfl⟩
 rw [hR]
 unfold chkS at hR
 have X := cfits_any wd ht
 obtain ⟨P, hP⟩ : ∃ P, wd * ht = P := ⟨_, rfl⟩
 rw [hP] at hR
 obtain ⟨s0, cap, rfl, hmax⟩ := hl.shape
 obtain ⟨n, en⟩ : ∃ n, l.length = n := ⟨_, rfl⟩
 rw [en] at hR hmax
 unfold maxLen at hmax
 have A := fun (w1 : World) (hb : Below w.heap.size w w1) => call_any l _ w1 ((hl.below hb).mono hb.size)
 rw [en] at A
 go_enter Tryz.func15, Tryz.ntmps15
 rw [en]
 cases hf : fitsS wd ht
 ·rw [hf] at X hR
  have : R = 150 := by rw [← hR]; simp
  subst this
  replace X := Lib.hid X
  replace A := Lib.hid A
  go_wp2_with (go_at_call 50; (with_reducible refine (X.out _ ‹_› ‹_›).mono ?_); rintro e w1 ⟨rfl, hb1⟩; obtain ⟨hc1, hf1⟩ := bcell hb1; have hz1 := hb1.size; (try simp at hz1); (try have lt1 : w.heap.size < w1.heap.size := (by omega)))
  go_ret
  exact ⟨rfl, belt⟩
 ·rw [hf] at X hR
  obtain ⟨a1, a2, a3, a4, a5⟩ := fitsS_true.1 hf
  have bd := mul_bd a1 a2 a3 a4
  rw [hP] at bd a5
  replace X := Lib.hid X
  by_cases c : (n : Int) = P
  ·cases ha : l.all mayC
   ·rw [ha] at A hR
    have : R = 150 := by rw [← hR]; simp
    subst this
    replace A := Lib.hid A
    have cb : ((n : Int) != P) = false := by simp [c]
    go_wp2_with (first | (go_at_call 50; (with_reducible refine (X.out _ ‹_› ‹_›).mono ?_); rintro e w1 ⟨rfl, hb1⟩; obtain ⟨hc1, hf1⟩ := bcell hb1; have hz1 := hb1.size; (try simp at hz1); (try have lt1 : w.heap.size < w1.heap.size := (by omega))) | (go_at_call 51; (with_reducible refine (A.out _ belt).mono ?_); rintro e w2 ⟨rfl, hb2⟩; obtain ⟨hc2, hf2⟩ := bcell hb2; have hz2 := hb2.size; (try simp at hz2); (try have lt2 : w.heap.size < w2.heap.size := (by omega))))
    go_ret
    exact ⟨rfl, belt⟩
   ·rw [ha] at A hR
    have : R = 0 := by rw [← hR]; simp [c]
    subst this
    replace A := Lib.hid A
    have cb : ((n : Int) != P) = false := by simp [c]
    go_wp2_with (first | (go_at_call 50; (with_reducible refine (X.out _ ‹_› ‹_›).mono ?_); rintro e w1 ⟨rfl, hb1⟩; obtain ⟨hc1, hf1⟩ := bcell hb1; have hz1 := hb1.size; (try simp at hz1); (try have lt1 : w.heap.size < w1.heap.size := (by omega))) | (go_at_call 51; (with_reducible refine (A.out _ belt).mono ?_); rintro e w2 ⟨rfl, hb2⟩; obtain ⟨hc2, hf2⟩ := bcell hb2; have hz2 := hb2.size; (try simp at hz2); (try have lt2 : w.heap.size < w2.heap.size := (by omega))))
    go_ret
    exact ⟨rfl, belt⟩
  ·have : R = 150 := by rw [← hR]; simp [c]
   subst this
   replace A := Lib.hid A
   have cb : ((n : Int) != P) = true := by simp [c]
   have cb2 : ((n : Int) == P) = false := by simp [c]
   go_wp2_with (first | (go_at_call 50; (with_reducible refine (X.out _ ‹_› ‹_›).mono ?_); rintro e w1 ⟨rfl, hb1⟩; obtain ⟨hc1, hf1⟩ := bcell hb1; have hz1 := hb1.size; (try simp at hz1); (try have lt1 : w.heap.size < w1.heap.size := (by omega))) | (go_at_call 51; (with_reducible refine (A.out _ belt).mono ?_); rintro e w2 ⟨rfl, hb2⟩; obtain ⟨hc2, hf2⟩ := bcell hb2; have hz2 := hb2.size; (try simp at hz2); (try have lt2 : w.heap.size < w2.heap.size := (by omega))))
   go_ret
   exact ⟨rfl, belt⟩
end Go.Proofs.YtffmomgmkpmpkaaGreatDoor

namespace Go.Proofs.YtffmomgmkpmpkaaGreatDoor
open Go.RowKit
set_option linter.unusedVariables false
attribute [local go_sem] vwp vUpon_value vUpon_skip vUpon_enter vUpon_row
set_option linter.unusedSimpArgs false
set_option linter.unusedVariables false
theorem Ce.enc_one (c : Ce) : ∀ u ∈ c.enc, u.oneCell' = true := by
  intro u hu
  simp only [Ce.enc, Co.enc, List.mem_append, List.mem_cons, List.not_mem_nil, or_false] at hu
  rcases hu with ((rfl | rfl | rfl | rfl | rfl) | rfl | rfl | rfl | rfl) | rfl | rfl <;> rfl
def OwnsC (base : Nat) (w : World) (v : Value) (l : List Ce) : Prop := w.ownsRow base 52 11 v l.length (l.flatMap Ce.enc)
theorem OwnsC.row {base B : Nat} {w : World} {v : Value} {l : List Ce} (h : OwnsC base w v l) (hB : w.heap.size ≤ B) : Row B 11 Ce.enc w v l := Row.own Ce.enc_len h hB (by omega)
theorem OwnsC.below {base B : Nat} {w w' : World} {v : Value} {l : List Ce} (h : OwnsC base w v l) (hb : Below B w w') (hB : w.heap.size ≤ B) : OwnsC base w' v l := ownsRow_below h hb hB
theorem OwnsC.nil (base : Nat) (w : World) : OwnsC base w (.slice none 0 0) [] := World.ownsRow_nil _ _ _ _
theorem infoCe : (Tryz.prog.info? 52).map (fun i => (i.zero, i.size, i.bytes)) = some (some (.agg #[.int .i32 0, .int .u8 0, .int .u8 0, .int .u8 0, .int .u8 0, .int .u8 0, .int .u8 0, .int .u8 0, .int .u8 0, .bool false, .bool false]), 11, 16) := by kernel_rfl
/-- A store of a whole cell. -/
theorem Blk.put11 {w : World} {b : Nat} {cs : List Value} {e : TypeId} (h : Blk w b cs e) (hl : cs.length = 11) (v0 v1 v2 v3 v4 v5 v6 v7 v8 v9 v10 : Value) :
    Blk ((((((((((((w).setCell ⟨b, 0, none⟩ v0).setCell ⟨b, 1, none⟩ v1).setCell ⟨b, 2, none⟩ v2).setCell ⟨b, 3, none⟩ v3).setCell ⟨b, 4, none⟩ v4).setCell ⟨b, 5, none⟩ v5).setCell ⟨b, 6, none⟩ v6).setCell ⟨b, 7, none⟩ v7).setCell ⟨b, 8, none⟩ v8).setCell ⟨b, 9, none⟩ v9).setCell ⟨b, 10, none⟩ v10) b [v0, v1, v2, v3, v4, v5, v6, v7, v8, v9, v10] e := by
  have h2 := ((((((((((h.set 0 v0).set 1 v1).set 2 v2).set 3 v3).set 4 v4).set 5 v5).set 6 v6).set 7 v7).set 8 v8).set 9 v9).set 10 v10
  match cs, hl with
  | [a0, a1, a2, a3, a4, a5, a6, a7, a8, a9, a10], _ => exact h2
theorem put11_below {w0 w : World} {B b : Nat} (h : Below B w0 w) (hb : B ≤ b) (v0 v1 v2 v3 v4 v5 v6 v7 v8 v9 v10 : Value) : Below B w0 ((((((((((((w).setCell ⟨b, 0, none⟩ v0).setCell ⟨b, 1, none⟩ v1).setCell ⟨b, 2, none⟩ v2).setCell ⟨b, 3, none⟩ v3).setCell ⟨b, 4, none⟩ v4).setCell ⟨b, 5, none⟩ v5).setCell ⟨b, 6, none⟩ v6).setCell ⟨b, 7, none⟩ v7).setCell ⟨b, 8, none⟩ v8).setCell ⟨b, 9, none⟩ v9).setCell ⟨b, 10, none⟩ v10) :=
  ((((((((((h.setCell hb v0).setCell hb v1).setCell hb v2).setCell hb v3).setCell hb v4).setCell hb v5).setCell hb v6).setCell hb v7).setCell hb v8).setCell hb v9).setCell hb v10
/-! ### places -/
def plcS (wd ht x y : Int) : Bool := decide (0 ≤ x) && decide (0 ≤ y) && decide (x < wd) && decide (y < ht)
theorem plcS_true {wd ht x y : Int} : plcS wd ht x y = true ↔ (0 ≤ x ∧ 0 ≤ y ∧ x < wd ∧ y < ht) := by
  unfold plcS
  simp only [Bool.and_eq_true, decide_eq_true_eq]
  constructor
  · rintro ⟨⟨⟨a, b⟩, c⟩, d⟩; exact ⟨a, b, c, d⟩
  · rintro ⟨a, b, c, d⟩; exact ⟨⟨⟨a, b⟩, c⟩, d⟩
def idxS (wd ht x y : Int) : Int := if plcS wd ht x y then y * wd + x else -1
theorem row_end {wd ht y : Int} (h0 : 0 ≤ wd) (h1 : 0 ≤ y) (h2 : y < ht) : 0 ≤ y * wd ∧ y * wd + wd ≤ wd * ht := by
  have : (y + 1) * wd ≤ ht * wd := Int.mul_le_mul_of_nonneg_right (by omega) h0
  rw [Int.add_mul, Int.one_mul, Int.mul_comm ht] at this
  exact ⟨Int.mul_nonneg h1 h0, this⟩
set_option maxHeartbeats 4000000 in
theorem cindex_any (wd ht x y : Int) (v : Value) (w : World) (hfit : fitsS wd ht = true) : Calls Tryz.prog 58 #[.agg #[.int .i64 (wd), .int .i64 (ht), v], .agg #[.int .i64 (x), .int .i64 (y)]] w fun e w' => e = .returned (.int .i64 (idxS wd ht x y)) ∧ Below w.heap.size w w' := by
 obtain ⟨R, hR⟩ : ∃ R, idxS wd ht x y = R := ⟨_, rfl⟩
 rw [hR]
 unfold idxS plcS at hR
 obtain ⟨f1, f2, f3, f4, f5⟩ := fitsS_true.1 hfit
 clear hfit
 go_enter Tryz.func58, Tryz.ntmps58
 by_cases a1 : x < 0
 ·have : R = -1 := by rw [← hR]; simp; omega
  subst this
  clear hR
  go_wp2
  go_ret
  exact ⟨rfl, belt⟩
 ·by_cases a3 : x ≥ wd
  ·have : R = -1 := by rw [← hR]; simp; omega
   subst this
   clear hR
   go_wp2
   go_ret
   exact ⟨rfl, belt⟩
  ·by_cases a2 : y < 0
   ·have : R = -1 := by rw [← hR]; simp; omega
    subst this
    clear hR
    go_wp2
    go_ret
    exact ⟨rfl, belt⟩
   ·by_cases a4 : y ≥ ht
    ·have : R = -1 := by rw [← hR]; simp; omega
     subst this
     clear hR
     go_wp2
     go_ret
     exact ⟨rfl, belt⟩
    ·have hR : y * wd + x = R := by rw [← hR]; simp; omega
     obtain ⟨e1, e2⟩ := row_end (wd := wd) (ht := ht) (y := y) f1 (by omega) (by omega)
     obtain ⟨P, hP⟩ : ∃ P, y * wd = P := ⟨_, rfl⟩
     rw [hP] at hR e1 e2
     obtain ⟨Z, hZ⟩ : ∃ Z, wd * ht = Z := ⟨_, rfl⟩
     rw [hZ] at e2 f5
     clear hZ
     go_wp2
     go_ret
     exact ⟨rfl, belt⟩
end Go.Proofs.YtffmomgmkpmpkaaGreatDoor
