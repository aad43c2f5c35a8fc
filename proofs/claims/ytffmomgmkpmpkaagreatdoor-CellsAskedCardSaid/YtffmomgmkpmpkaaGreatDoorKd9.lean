/-
  Cells: a terminal reads a number.
-/
import Derived.Test.YtffmomgmkpmpkaaGreatDoorProg
import Derived.Test.YtffmomgmkpmpkaaGreatDoorKd8
namespace Go.Proofs.YtffmomgmkpmpkaaGreatDoor
open Go.RowKit
set_option linter.unusedVariables false
attribute [local go_sem] vwp vUpon_value vUpon_skip vUpon_enter vUpon_row
set_option linter.unusedSimpArgs false
set_option linter.unusedVariables false
/-- From byte i of the text on, n read: where the number ends, what it is. -/
def numGo (most : Int) : List UInt8 → Nat → Int → Nat × Int
  | [], i, n => (i, n)
  | c :: r, i, n => if 48 ≤ c.toNat ∧ c.toNat ≤ 57 ∧ n ≤ most then numGo most r (i + 1) (n * 10 + ((c.toNat : Int) - 48)) else (i, n)
theorem numGo_bd (most : Int) : ∀ (l : List UInt8) (i : Nat) (n : Int), i ≤ (numGo most l i n).1 ∧ (numGo most l i n).1 ≤ i + l.length
  | [], i, n => by simp [numGo]
  | c :: r, i, n => by
    rw [numGo]
    split
    · have := numGo_bd most r (i + 1) (n * 10 + ((c.toNat : Int) - 48))
      rw [List.length_cons]
      omega
    · simp
/-- The number's value and length; none: it is none. -/
def numP (most : Int) (l : List UInt8) : Option (Int × Nat) :=
  if (numGo most l 0 0).1 = 0 ∨ most < (numGo most l 0 0).2 ∨ (1 < (numGo most l 0 0).1 ∧ l[0]? = some 48) then none else some ((numGo most l 0 0).2, (numGo most l 0 0).1)
def strL (l : List UInt8) : ByteArray := ⟨l.toArray⟩
theorem strL_from (l : List UInt8) (i : Nat) {s : ByteArray} (hs : strL l = s) : s.extract i l.length = strL (l.drop i) := by
  subst hs
  unfold strL
  apply ByteArray.ext
  rw [ByteArray.data_extract]
  simp [List.extract_toArray, List.extract]
  exact List.take_of_length_le (by rw [List.length_drop]; exact Nat.le_refl _)
def outNum (r : Option (Int × Nat)) (l : List UInt8) : Value := match r with
  | none => .tuple #[.int .i64 0, .string ⟨#[]⟩, .bool false]
  | some (n, i) => .tuple #[.int .i64 n, .string (strL (l.drop i)), .bool true]
set_option maxHeartbeats 4000000 in
set_option maxRecDepth 100000 in
theorem number_any (l : List UInt8) (most : Int) (w : World) (hl : l.length ≤ 2000000) (hm0 : 0 ≤ most) (hm1 : most ≤ 1000000) :
  Calls Tryz.prog 146 #[.string (strL l), .int .i64 most] w fun e w' => e = .returned (outNum (numP most l) l) ∧ Below w.heap.size w w' := by
 obtain ⟨s, hs⟩ : ∃ s, strL l = s := ⟨_, rfl⟩
 have hsz : s.size = l.length := by rw [← hs]; simp [strL, ByteArray.size]
 obtain ⟨N, hN⟩ : ∃ N, s.size = N := ⟨_, rfl⟩
 rw [hs]
 rw [hN] at hsz
 have hgo := Lib.hid (show numGo most (l.drop 0) 0 0 = numGo most l 0 0 from rfl)
 have hby := Lib.hid (fun (j : Nat) (c : UInt8) (hj : l[j]? = some c) => (show bAt s j = c.toNat by
  have hjl := (List.getElem?_eq_some_iff.1 hj).1
  rw [← bAt_eq (s := s) (i := j) (by omega)]
  subst hs
  have := (List.getElem?_eq_some_iff.1 hj).2
  rw [← this]
  simp [strL]
  rfl))
 obtain ⟨RV, hRV⟩ : ∃ v, outNum (numP most l) l = v := ⟨_, rfl⟩
 rw [hRV]
 replace hRV := Lib.hid hRV
 replace hs := Lib.hid hs
 go_enter Tryz.func146, Tryz.ntmps146
 go_upto_region 2 with fail
 go_loopw [7, 8] (fun iv nv wr => ∃ (i : Nat) (n : Int), i ≤ N ∧ iv = .int .i64 i ∧ nv = .int .i64 n ∧ 0 ≤ n ∧ n ≤ most * 10 + 10 ∧ wr = w ∧ Hid (numGo most (l.drop i) i n = numGo most l 0 0)) (fun iv _ _ => N - (intOf iv).toNat)
 case atStart => exact ⟨0, 0, Nat.zero_le _, rfl, rfl, by omega, by omega, rfl, hgo⟩
 case round =>
  clear hgo
  obtain ⟨i, n, hi, rfl, rfl, hn0, hn1, rfl, hgo⟩ := hrel
  by_cases hiN : i < N
  ·have hii : (i : Int) < N := by omega
   obtain ⟨c, hc⟩ : ∃ c, l[i]? = some c := ⟨l[i]'(by omega), List.getElem?_eq_getElem _⟩
   have X1 := bAt_eq (s := s) (i := i) (by omega)
   have hq := hby.out i c hc
   have hgo1 := hgo.out
   rw [drop_get hc, numGo] at hgo1
   by_cases y1 : 48 ≤ c.toNat
   ·have y1i : 48 ≤ bAt s i := by omega
    by_cases y2 : c.toNat ≤ 57
    ·have y2i : bAt s i ≤ 57 := by omega
     by_cases y3 : n ≤ most
     ·rw [if_pos ⟨y1, y2, y3⟩, ← hq] at hgo1
      obtain ⟨q, hbq⟩ : ∃ q, bAt s i = q := ⟨_, rfl⟩
      rw [hbq] at hgo1 y1i y2i X1
      clear hq hgo
      replace hgo1 := Lib.hid hgo1
      replace hbq := Lib.hid hbq
      go_wp2
      go_roundw
      case rel => exact ⟨i + 1, n * 10 + ((q : Int) - 48), by omega, by go_num, by go_num, by omega, by omega, by simp, hgo1⟩
      case measure => (simp [intOf]) <;> omega
     ·rw [if_neg (fun h => y3 h.2.2)] at hgo1
      have hE := hgo1.symm
      have x1 : most < n := by omega
      by_cases x0 : i = 0
      ·subst x0
       have hv : RV = .tuple #[.int .i64 0, .string ⟨#[]⟩, .bool false] := by rw [← hRV.out]; unfold numP; rw [hE]; dsimp only; rw [if_pos (.inl rfl)]; rfl
       subst hv
       clear hgo
       simp only [Int.natCast_zero] at *
       go_wp2
       go_ret3
       exact ⟨rfl, belt⟩
      ·have x0i : ¬ (i : Int) = 0 := by omega
       have x0q : ((i : Int) == 0) = false := by simpa using x0i
       have hv : RV = .tuple #[.int .i64 0, .string ⟨#[]⟩, .bool false] := by rw [← hRV.out]; unfold numP; rw [hE]; dsimp only; rw [if_pos (.inr (.inl x1))]; rfl
       subst hv
       go_wp2
       go_ret3
       exact ⟨rfl, belt⟩
    ·rw [if_neg (fun h => y2 h.2.1)] at hgo1
     have y2i : ¬ bAt s i ≤ 57 := by omega
     have hE := hgo1.symm
     by_cases x0 : i = 0
     ·subst x0
      have hv : RV = .tuple #[.int .i64 0, .string ⟨#[]⟩, .bool false] := by rw [← hRV.out]; unfold numP; rw [hE]; dsimp only; rw [if_pos (.inl rfl)]; rfl
      subst hv
      clear hgo
      simp only [Int.natCast_zero] at *
      go_wp2
      go_ret3
      exact ⟨rfl, belt⟩
     ·have x0i : ¬ (i : Int) = 0 := by omega
      have x0q : ((i : Int) == 0) = false := by simpa using x0i
      by_cases x1 : most < n
      ·have hv : RV = .tuple #[.int .i64 0, .string ⟨#[]⟩, .bool false] := by rw [← hRV.out]; unfold numP; rw [hE]; dsimp only; rw [if_pos (.inr (.inl x1))]; rfl
       subst hv
       go_wp2
       go_ret3
       exact ⟨rfl, belt⟩
      ·by_cases x2 : 1 < i
       ·have x2i : (1 : Int) < i := by omega
        have Y0 := bAt_eq (s := s) (i := 0) (by omega)
        obtain ⟨c0, hc0⟩ : ∃ c, l[0]? = some c := ⟨l[0]'(by omega), List.getElem?_eq_getElem _⟩
        have hq0 := hby.out 0 c0 hc0
        by_cases x3 : c0 = 48
        ·subst x3
         have x3i : bAt s 0 = 48 := by rw [hq0]; rfl
         have hv : RV = .tuple #[.int .i64 0, .string ⟨#[]⟩, .bool false] := by rw [← hRV.out]; unfold numP; rw [hE]; dsimp only; rw [if_pos (.inr (.inr ⟨x2, hc0⟩))]; rfl
         subst hv
         go_wp2
         go_ret3
         exact ⟨rfl, belt⟩
        ·have x3i : ¬ bAt s 0 = 48 := by rw [hq0]; intro h; exact x3 (UInt8.toNat_inj.1 h)
         have x3j : ¬ ((bAt s 0 : Nat) : Int) = 48 := by omega
         have x3k : (((bAt s 0 : Nat) : Int) == 48) = false := by simpa using x3j
         have x4 : ¬ l[0]? = some 48 := by rw [hc0]; intro h; exact x3 (Option.some.inj h)
         have hv : RV = .tuple #[.int .i64 n, .string (strL (l.drop i)), .bool true] := by rw [← hRV.out]; unfold numP; rw [hE]; dsimp only; rw [if_neg (fun h => h.elim x0 (fun h => h.elim x1 (fun h => x4 h.2)))]; rfl
         subst hv
         have hil : i ≤ l.length := by omega
         have hili : (i : Int) ≤ (l.length : Int) := by omega
         have hxx := strL_from l i hs.out
         go_upto_region 7 with fail
         refine wp_region_steady (Held wr 0 []) (by kernel_rfl) (by kernel_rfl) ⟨belt, (by (try simp) <;> omega), (by first | exact trivial | (simp only [Cells]; go_simp))⟩ ?_
         repeat (first | (refine' wpSteady_do _ _ _; rotate_left; (focus rfl); (focus (intro w1 hS R hR; have hc := hS.cells; simp only [Cells] at hc; obtain ⟨hco, hfo⟩ := bcell hS.old; go_simp; (try go_bits); first | exact hR _ hS | fail)); simp only [pu]) | (refine wpSteady_pass ?_ ?_; (focus rfl); simp only [pu]))
         refine wpSteady_nil (fun uA hSA => ?_)
         have hcA := hSA.cells; have hbA := hSA.old; have hzA := hSA.size; clear hSA; simp only [Cells] at hcA; obtain ⟨hcoA, hfoA⟩ := bcell hbA
         go_wp2
         go_ret3
         exact ⟨by first | rfl | (rw [← hxx]), belt⟩
       ·have x2i : ¬ (1 : Int) < i := by omega
        have hv : RV = .tuple #[.int .i64 n, .string (strL (l.drop i)), .bool true] := by rw [← hRV.out]; unfold numP; rw [hE]; dsimp only; rw [if_neg (fun h => h.elim x0 (fun h => h.elim x1 (fun h => x2 h.1)))]; rfl
        subst hv
        have hil : i ≤ l.length := by omega
        have hili : (i : Int) ≤ (l.length : Int) := by omega
        have hxx := strL_from l i hs.out
        go_upto_region 7 with fail
        refine wp_region_steady (Held wr 0 []) (by kernel_rfl) (by kernel_rfl) ⟨belt, (by (try simp) <;> omega), (by first | exact trivial | (simp only [Cells]; go_simp))⟩ ?_
        repeat (first | (refine' wpSteady_do _ _ _; rotate_left; (focus rfl); (focus (intro w1 hS R hR; have hc := hS.cells; simp only [Cells] at hc; obtain ⟨hco, hfo⟩ := bcell hS.old; go_simp; (try go_bits); first | exact hR _ hS | fail)); simp only [pu]) | (refine wpSteady_pass ?_ ?_; (focus rfl); simp only [pu]))
        refine wpSteady_nil (fun uA hSA => ?_)
        have hcA := hSA.cells; have hbA := hSA.old; have hzA := hSA.size; clear hSA; simp only [Cells] at hcA; obtain ⟨hcoA, hfoA⟩ := bcell hbA
        go_wp2
        go_ret3
        exact ⟨by first | rfl | (rw [← hxx]), belt⟩
   ·rw [if_neg (fun h => y1 h.1)] at hgo1
    have y1i : ¬ 48 ≤ bAt s i := by omega
    have hE := hgo1.symm
    by_cases x0 : i = 0
    ·subst x0
     have hv : RV = .tuple #[.int .i64 0, .string ⟨#[]⟩, .bool false] := by rw [← hRV.out]; unfold numP; rw [hE]; dsimp only; rw [if_pos (.inl rfl)]; rfl
     subst hv
     clear hgo
     simp only [Int.natCast_zero] at *
     go_wp2
     go_ret3
     exact ⟨rfl, belt⟩
    ·have x0i : ¬ (i : Int) = 0 := by omega
     have x0q : ((i : Int) == 0) = false := by simpa using x0i
     by_cases x1 : most < n
     ·have hv : RV = .tuple #[.int .i64 0, .string ⟨#[]⟩, .bool false] := by rw [← hRV.out]; unfold numP; rw [hE]; dsimp only; rw [if_pos (.inr (.inl x1))]; rfl
      subst hv
      go_wp2
      go_ret3
      exact ⟨rfl, belt⟩
     ·by_cases x2 : 1 < i
      ·have x2i : (1 : Int) < i := by omega
       have Y0 := bAt_eq (s := s) (i := 0) (by omega)
       obtain ⟨c0, hc0⟩ : ∃ c, l[0]? = some c := ⟨l[0]'(by omega), List.getElem?_eq_getElem _⟩
       have hq0 := hby.out 0 c0 hc0
       by_cases x3 : c0 = 48
       ·subst x3
        have x3i : bAt s 0 = 48 := by rw [hq0]; rfl
        have hv : RV = .tuple #[.int .i64 0, .string ⟨#[]⟩, .bool false] := by rw [← hRV.out]; unfold numP; rw [hE]; dsimp only; rw [if_pos (.inr (.inr ⟨x2, hc0⟩))]; rfl
        subst hv
        go_wp2
        go_ret3
        exact ⟨rfl, belt⟩
       ·have x3i : ¬ bAt s 0 = 48 := by rw [hq0]; intro h; exact x3 (UInt8.toNat_inj.1 h)
        have x3j : ¬ ((bAt s 0 : Nat) : Int) = 48 := by omega
        have x3k : (((bAt s 0 : Nat) : Int) == 48) = false := by simpa using x3j
        have x4 : ¬ l[0]? = some 48 := by rw [hc0]; intro h; exact x3 (Option.some.inj h)
        have hv : RV = .tuple #[.int .i64 n, .string (strL (l.drop i)), .bool true] := by rw [← hRV.out]; unfold numP; rw [hE]; dsimp only; rw [if_neg (fun h => h.elim x0 (fun h => h.elim x1 (fun h => x4 h.2)))]; rfl
        subst hv
        have hil : i ≤ l.length := by omega
        have hili : (i : Int) ≤ (l.length : Int) := by omega
        have hxx := strL_from l i hs.out
        go_upto_region 7 with fail
        refine wp_region_steady (Held wr 0 []) (by kernel_rfl) (by kernel_rfl) ⟨belt, (by (try simp) <;> omega), (by first | exact trivial | (simp only [Cells]; go_simp))⟩ ?_
        repeat (first | (refine' wpSteady_do _ _ _; rotate_left; (focus rfl); (focus (intro w1 hS R hR; have hc := hS.cells; simp only [Cells] at hc; obtain ⟨hco, hfo⟩ := bcell hS.old; go_simp; (try go_bits); first | exact hR _ hS | fail)); simp only [pu]) | (refine wpSteady_pass ?_ ?_; (focus rfl); simp only [pu]))
        refine wpSteady_nil (fun uA hSA => ?_)
        have hcA := hSA.cells; have hbA := hSA.old; have hzA := hSA.size; clear hSA; simp only [Cells] at hcA; obtain ⟨hcoA, hfoA⟩ := bcell hbA
        go_wp2
        go_ret3
        exact ⟨by first | rfl | (rw [← hxx]), belt⟩
      ·have x2i : ¬ (1 : Int) < i := by omega
       have hv : RV = .tuple #[.int .i64 n, .string (strL (l.drop i)), .bool true] := by rw [← hRV.out]; unfold numP; rw [hE]; dsimp only; rw [if_neg (fun h => h.elim x0 (fun h => h.elim x1 (fun h => x2 h.1)))]; rfl
       subst hv
       have hil : i ≤ l.length := by omega
       have hili : (i : Int) ≤ (l.length : Int) := by omega
       have hxx := strL_from l i hs.out
       go_upto_region 7 with fail
       refine wp_region_steady (Held wr 0 []) (by kernel_rfl) (by kernel_rfl) ⟨belt, (by (try simp) <;> omega), (by first | exact trivial | (simp only [Cells]; go_simp))⟩ ?_
       repeat (first | (refine' wpSteady_do _ _ _; rotate_left; (focus rfl); (focus (intro w1 hS R hR; have hc := hS.cells; simp only [Cells] at hc; obtain ⟨hco, hfo⟩ := bcell hS.old; go_simp; (try go_bits); first | exact hR _ hS | fail)); simp only [pu]) | (refine wpSteady_pass ?_ ?_; (focus rfl); simp only [pu]))
       refine wpSteady_nil (fun uA hSA => ?_)
       have hcA := hSA.cells; have hbA := hSA.old; have hzA := hSA.size; clear hSA; simp only [Cells] at hcA; obtain ⟨hcoA, hfoA⟩ := bcell hbA
       go_wp2
       go_ret3
       exact ⟨by first | rfl | (rw [← hxx]), belt⟩
  ·have hii : ¬ (i : Int) < N := by omega
   have hE : numGo most l 0 0 = (i, n) := by
    have h := hgo.out
    rw [List.drop_of_length_le (by omega), numGo] at h
    exact h.symm
   by_cases x0 : i = 0
   ·subst x0
    have hv : RV = .tuple #[.int .i64 0, .string ⟨#[]⟩, .bool false] := by rw [← hRV.out]; unfold numP; rw [hE]; dsimp only; rw [if_pos (.inl rfl)]; rfl
    subst hv
    clear hgo
    simp only [Int.natCast_zero] at *
    go_wp2
    go_ret3
    exact ⟨rfl, belt⟩
   ·have x0i : ¬ (i : Int) = 0 := by omega
    have x0q : ((i : Int) == 0) = false := by simpa using x0i
    by_cases x1 : most < n
    ·have hv : RV = .tuple #[.int .i64 0, .string ⟨#[]⟩, .bool false] := by rw [← hRV.out]; unfold numP; rw [hE]; dsimp only; rw [if_pos (.inr (.inl x1))]; rfl
     subst hv
     go_wp2
     go_ret3
     exact ⟨rfl, belt⟩
    ·by_cases x2 : 1 < i
     ·have x2i : (1 : Int) < i := by omega
      have Y0 := bAt_eq (s := s) (i := 0) (by omega)
      obtain ⟨c0, hc0⟩ : ∃ c, l[0]? = some c := ⟨l[0]'(by omega), List.getElem?_eq_getElem _⟩
      have hq0 := hby.out 0 c0 hc0
      by_cases x3 : c0 = 48
      ·subst x3
       have x3i : bAt s 0 = 48 := by rw [hq0]; rfl
       have hv : RV = .tuple #[.int .i64 0, .string ⟨#[]⟩, .bool false] := by rw [← hRV.out]; unfold numP; rw [hE]; dsimp only; rw [if_pos (.inr (.inr ⟨x2, hc0⟩))]; rfl
       subst hv
       go_wp2
       go_ret3
       exact ⟨rfl, belt⟩
      ·have x3i : ¬ bAt s 0 = 48 := by rw [hq0]; intro h; exact x3 (UInt8.toNat_inj.1 h)
       have x3j : ¬ ((bAt s 0 : Nat) : Int) = 48 := by omega
       have x3k : (((bAt s 0 : Nat) : Int) == 48) = false := by simpa using x3j
       have x4 : ¬ l[0]? = some 48 := by rw [hc0]; intro h; exact x3 (Option.some.inj h)
       have hv : RV = .tuple #[.int .i64 n, .string (strL (l.drop i)), .bool true] := by rw [← hRV.out]; unfold numP; rw [hE]; dsimp only; rw [if_neg (fun h => h.elim x0 (fun h => h.elim x1 (fun h => x4 h.2)))]; rfl
       subst hv
       have hil : i ≤ l.length := by omega
       have hili : (i : Int) ≤ (l.length : Int) := by omega
       have hxx := strL_from l i hs.out
       go_upto_region 7 with fail
       refine wp_region_steady (Held wr 0 []) (by kernel_rfl) (by kernel_rfl) ⟨belt, (by (try simp) <;> omega), (by first | exact trivial | (simp only [Cells]; go_simp))⟩ ?_
       repeat (first | (refine' wpSteady_do _ _ _; rotate_left; (focus rfl); (focus (intro w1 hS R hR; have hc := hS.cells; simp only [Cells] at hc; obtain ⟨hco, hfo⟩ := bcell hS.old; go_simp; (try go_bits); first | exact hR _ hS | fail)); simp only [pu]) | (refine wpSteady_pass ?_ ?_; (focus rfl); simp only [pu]))
       refine wpSteady_nil (fun uA hSA => ?_)
       have hcA := hSA.cells; have hbA := hSA.old; have hzA := hSA.size; clear hSA; simp only [Cells] at hcA; obtain ⟨hcoA, hfoA⟩ := bcell hbA
       go_wp2
       go_ret3
       exact ⟨by first | rfl | (rw [← hxx]), belt⟩
     ·have x2i : ¬ (1 : Int) < i := by omega
      have hv : RV = .tuple #[.int .i64 n, .string (strL (l.drop i)), .bool true] := by rw [← hRV.out]; unfold numP; rw [hE]; dsimp only; rw [if_neg (fun h => h.elim x0 (fun h => h.elim x1 (fun h => x2 h.1)))]; rfl
      subst hv
      have hil : i ≤ l.length := by omega
      have hili : (i : Int) ≤ (l.length : Int) := by omega
      have hxx := strL_from l i hs.out
      go_upto_region 7 with fail
      refine wp_region_steady (Held wr 0 []) (by kernel_rfl) (by kernel_rfl) ⟨belt, (by (try simp) <;> omega), (by first | exact trivial | (simp only [Cells]; go_simp))⟩ ?_
      repeat (first | (refine' wpSteady_do _ _ _; rotate_left; (focus rfl); (focus (intro w1 hS R hR; have hc := hS.cells; simp only [Cells] at hc; obtain ⟨hco, hfo⟩ := bcell hS.old; go_simp; (try go_bits); first | exact hR _ hS | fail)); simp only [pu]) | (refine wpSteady_pass ?_ ?_; (focus rfl); simp only [pu]))
      refine wpSteady_nil (fun uA hSA => ?_)
      have hcA := hSA.cells; have hbA := hSA.old; have hzA := hSA.size; clear hSA; simp only [Cells] at hcA; obtain ⟨hcoA, hfoA⟩ := bcell hbA
      go_wp2
      go_ret3
      exact ⟨by first | rfl | (rw [← hxx]), belt⟩
end Go.Proofs.YtffmomgmkpmpkaaGreatDoor
