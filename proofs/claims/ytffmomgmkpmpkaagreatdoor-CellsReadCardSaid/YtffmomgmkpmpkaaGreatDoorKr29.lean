/-
  Cells: the document's way to read a screen: the numbers of an escape.
-/
import Derived.Test.YtffmomgmkpmpkaaGreatDoorProg
import Derived.Test.YtffmomgmkpmpkaaGreatDoorKr28
namespace Go.Proofs.YtffmomgmkpmpkaaGreatDoor
open Go.RowKit
set_option linter.unusedVariables false
attribute [local go_sem] vwp vUpon_value vUpon_skip vUpon_enter vUpon_row
set_option linter.unusedSimpArgs false
set_option linter.unusedVariables false
theorem strL_mid (l : List UInt8) (f i : Nat) {s : ByteArray} (hs : strL l = s) (h : f ≤ i) : s.extract f i = strL ((l.take i).drop f) := by
  subst hs
  unfold strL
  apply ByteArray.ext
  rw [ByteArray.data_extract]
  simp [List.extract_toArray, List.extract]
  rw [List.drop_take]
def docAt (b : Nat) (ns : List Int) (cur r : List UInt8) : Option (List Int × UInt8 × List UInt8) := match docG b cur r with
  | none => none
  | some (ms, e, r') => some (ns ++ ms, e, r')
theorem docAt_digit {b : Nat} {ns : List Int} {cur r : List UInt8} {c : UInt8} (h : digB c = true) : docAt (b + 1) ns cur (c :: r) = docAt b ns (cur ++ [c]) r := by
  unfold docAt; rw [docG, if_pos h]
theorem docAt_bad {b : Nat} {ns : List Int} {cur r : List UInt8} {c : UInt8} (h : digB c = false) (hf : figP cur = none) : docAt (b + 1) ns cur (c :: r) = none := by
  unfold docAt; rw [docG, if_neg (by simp [h]), hf]
theorem docAt_end {b : Nat} {ns : List Int} {cur r : List UInt8} {c : UInt8} {n : Int} (h : digB c = false) (hf : figP cur = some n) (hc : c ≠ 59) : docAt (b + 1) ns cur (c :: r) = some (ns ++ [n], c, r) := by
  unfold docAt; rw [docG, if_neg (by simp [h]), hf]; dsimp only; rw [if_neg hc]
theorem docAt_next {b : Nat} {ns : List Int} {cur r : List UInt8} {n : Int} (hf : figP cur = some n) : docAt (b + 1) ns cur (59 :: r) = docAt b (ns ++ [n]) [] r := by
  unfold docAt; rw [docG, if_neg (by decide), hf]; dsimp only; rw [if_pos rfl]
  cases docG b [] r with
  | none => rfl
  | some q => obtain ⟨ms, e, r'⟩ := q; simp
theorem docAt_zero (ns : List Int) (cur r : List UInt8) : docAt 0 ns cur r = none := by unfold docAt; rw [docG]
theorem docAt_nil (b : Nat) (ns : List Int) (cur : List UInt8) : docAt b ns cur [] = none := by
  cases b with
  | zero => exact docAt_zero _ _ _
  | succ b => unfold docAt; rw [docG]
def numOf (l : List UInt8) (q : Option (List Int × UInt8 × List UInt8)) : Option (List Int × UInt8 × Nat) := q.map (fun x => (x.1, x.2.1, l.length - x.2.2.length))
theorem take_drop_snoc {l : List UInt8} {f i : Nat} {c : UInt8} (h : l[i]? = some c) (hf : f ≤ i) : (l.take (i + 1)).drop f = (l.take i).drop f ++ [c] := by
  rw [List.take_add_one, h, List.drop_append_of_le_length (by rw [List.length_take]; have := (List.getElem?_eq_some_iff.1 h).1; omega)]
  rfl
theorem flatI1 (l : List Int) (a : Int) {cs : List Value} (h : cs = [.int .i64 a]) : l.flatMap encI ++ cs = (l ++ [a]).flatMap encI := by
  rw [h, List.flatMap_append]; rfl
def nNs : Option (List Int × UInt8 × Nat) → List Int
  | none => []
  | some (ns, _, _) => ns
def nEnd : Option (List Int × UInt8 × Nat) → Int
  | none => 0
  | some (_, e, _) => e.toNat
def nCnt : Option (List Int × UInt8 × Nat) → Int
  | none => 0
  | some (_, _, k) => k
set_option maxHeartbeats 8000000 in
set_option maxRecDepth 100000 in
theorem rnumbers_any (l : List UInt8) (hl : l.length ≤ 2000000) (w : World) :
  Calls Tryz.prog 110 #[.string (strL l)] w fun e w' => (∃ v, e = .returned (.tuple #[v, .int .u8 (nEnd (numR l)), .int .i64 (nCnt (numR l))]) ∧ OwnsI w.heap.size w' v (nNs (numR l))) ∧ Below w.heap.size w w' := by
 obtain ⟨iI, hi0, hm0, hm1, hm2⟩ := info_parts infoIn
 obtain ⟨s, hs⟩ : ∃ s, strL l = s := ⟨_, rfl⟩
 have hsz : s.size = l.length := by rw [← hs]; simp [strL, ByteArray.size]
 obtain ⟨N, hN⟩ : ∃ N, s.size = N := ⟨_, rfl⟩
 rw [hs]
 rw [hN] at hsz
 have hby := Lib.hid (fun (j : Nat) (c : UInt8) (hj : l[j]? = some c) => (show bAt s j = c.toNat by
  have hjl := (List.getElem?_eq_some_iff.1 hj).1
  rw [← bAt_eq (s := s) (i := j) (by omega)]
  subst hs
  have := (List.getElem?_eq_some_iff.1 hj).2
  rw [← this]
  simp [strL]
  rfl))
 obtain ⟨RV, hRV⟩ : ∃ v, numR l = v := ⟨_, rfl⟩
 rw [hRV]
 replace hs := Lib.hid hs
 by_cases g0 : N < 2
 ·have hv : RV = none := by
   rw [← hRV]
   unfold numR
   rw [if_neg (fun h => by have := (List.getElem?_eq_some_iff.1 h.2).1; omega)]
  subst hv
  clear hRV
  have g0i : (N : Int) < 2 := by omega
  go_enter Tryz.func110, Tryz.ntmps110
  go_wp2
  go_ret3
  exact ⟨⟨_, rfl, OwnsI.nil _ _⟩, Below.refl _ _⟩
 ·obtain ⟨a0, ha0⟩ : ∃ c, l[0]? = some c := ⟨l[0]'(by omega), List.getElem?_eq_getElem _⟩
  obtain ⟨a1, ha1⟩ : ∃ c, l[1]? = some c := ⟨l[1]'(by omega), List.getElem?_eq_getElem _⟩
  have g0i : ¬ (N : Int) < 2 := by omega
  have X0 := bAt_eq (s := s) (i := 0) (by omega)
  have X1 := bAt_eq (s := s) (i := 1) (by omega)
  have q0 := hby.out 0 a0 ha0
  have q1 := hby.out 1 a1 ha1
  by_cases g1 : a0 = 27 ∧ a1 = 91
  ·have b0 : bAt s 0 = 27 := by rw [q0, g1.1]; rfl
   have b1 : bAt s 1 = 91 := by rw [q1, g1.2]; rfl
   clear q0 q1
   go_enter Tryz.func110, Tryz.ntmps110
   go_upto_region 6 with fail
   have hgo0 : numOf l (docAt (40 - 2) [] ((l.take 2).drop 2) (l.drop 2)) = RV := by
    rw [← hRV]
    unfold numR numOf docAt
    rw [if_pos ⟨by rw [ha0, g1.1], by rw [ha1, g1.2]⟩, show (l.take 2).drop 2 = [] from List.drop_eq_nil_of_le (by rw [List.length_take]; omega)]
    cases docG (40 - 2) [] (l.drop 2) with
    | none => rfl
    | some q => obtain ⟨ms, e, r'⟩ := q; rfl
   have hdg0 : ∀ c ∈ (l.take 2).drop 2, digB c = true := by
    rw [show (l.take 2).drop 2 = [] from List.drop_eq_nil_of_le (by rw [List.length_take]; omega)]
    intro c hc
    cases hc
   replace hgo0 := Lib.hid hgo0
   replace hdg0 := Lib.hid hdg0
   clear hRV X0 X1 b0 b1 ha0 ha1 g1 g0i
   go_loopw [5, 6, 7] (fun lv fv iv wr => ∃ (i f : Nat) (ns : List Int), f ≤ i ∧ 2 ≤ f ∧ i ≤ 40 ∧ i ≤ N ∧ iv = .int .i64 i ∧ fv = .int .i64 f ∧ OwnsI w.heap.size wr lv ns ∧ Below w.heap.size w wr ∧ Hid (∀ c ∈ (l.take i).drop f, digB c = true) ∧ ns.length ≤ i ∧ Hid (numOf l (docAt (40 - i) ns ((l.take i).drop f) (l.drop i)) = RV)) (fun _ _ iv _ => 40 - (intOf iv).toNat)
   case atStart => exact ⟨2, 2, [], Nat.le_refl _, Nat.le_refl _, by omega, by omega, rfl, rfl, OwnsI.nil _ _, Below.refl _ _, hdg0, by simp, hgo0⟩
   case round =>
    clear hgo0 hdg0
    obtain ⟨i, f, ns, hfi, hf2, hi40, hiN, rfl, rfl, hown, hbr, hdg, hns, hgo⟩ := hrel
    obtain ⟨W, rfl⟩ : ∃ W, W = wr := ⟨_, rfl⟩
    have zr := hbr.size
    by_cases c1 : i < N
    ·have c1i : (i : Int) < N := by omega
     by_cases c2 : i < 40
     ·have c2i : (i : Int) < 40 := by omega
      obtain ⟨c, hc⟩ : ∃ c, l[i]? = some c := ⟨l[i]'(by omega), List.getElem?_eq_getElem _⟩
      have X1 := bAt_eq (s := s) (i := i) (by omega)
      have hq := hby.out i c hc
      have hgo2 := hgo.out
      rw [drop_get hc, show 40 - i = (40 - (i + 1)) + 1 by omega] at hgo2
      have hts := take_drop_snoc hc hfi
      obtain ⟨q, hbq⟩ : ∃ q, bAt s i = q := ⟨_, rfl⟩
      rw [hbq] at X1 hq
      clear hgo hbq
      cases hd : digB c
      ·have hnd : ¬ (48 ≤ q ∧ q ≤ 57) := by
        intro h
        rw [hq] at h
        unfold digB at hd
        simp only [Bool.and_eq_false_iff, decide_eq_false_iff_not] at hd
        omega
       obtain ⟨cur, hcur⟩ : ∃ t, (l.take i).drop f = t := ⟨_, rfl⟩
       have hmid := strL_mid l f i hs.out hfi
       rw [hcur] at hmid hdg hgo2
       have hcl : cur.length ≤ 40 := by rw [← hcur, List.length_drop, List.length_take]; omega
       have FG := fun u => figures_any cur hdg.out (by omega) u
       obtain ⟨Sc, hSc⟩ : ∃ t, strL cur = t := ⟨_, rfl⟩
       rw [hSc] at FG hmid
       have hfii : (f : Int) ≤ i := by omega
       have hiNi : (i : Int) ≤ N := by omega
       have hcq : ((q : Int) != 59) = !(c == 59) := by
        rw [hq]
        by_cases h : c = 59
        ·subst h; rfl
        ·have h2 : ¬ c.toNat = 59 := fun h3 => h (UInt8.toNat_inj.1 h3)
         have : (c == 59) = false := by simpa using h
         rw [this]
         simp
         omega
       replace hts := Lib.hid hts
       replace hcur := Lib.hid hcur
       replace hSc := Lib.hid hSc
       replace hdg := Lib.hid hdg
       replace hq := Lib.hid hq
       cases hF : figP cur with
       | none =>
        rw [docAt_bad hd hF] at hgo2
        have hv : RV = none := hgo2.symm
        subst hv
        simp only [hF, Option.getD_none] at FG
        replace FG := Lib.hid FG
        by_cases y1 : 48 ≤ q
        ·have y1i : (48 : Int) ≤ q := by omega
         have y2 : ¬ q ≤ 57 := fun h => hnd ⟨y1, h⟩
         have y2i : ¬ (q : Int) ≤ 57 := by omega
         go_wp2_with (go_at_call 147; (with_reducible refine (FG.out _).mono ?_); rintro e w1 ⟨rfl, hb1⟩)
         go_ret3
         exact ⟨⟨_, rfl, OwnsI.nil _ _⟩, hbr.trans (hb1.mono zr)⟩
        ·have y1i : ¬ (48 : Int) ≤ q := by omega
         go_wp2_with (go_at_call 147; (with_reducible refine (FG.out _).mono ?_); rintro e w1 ⟨rfl, hb1⟩)
         go_ret3
         exact ⟨⟨_, rfl, OwnsI.nil _ _⟩, hbr.trans (hb1.mono zr)⟩
       | some n =>
        have hn0 : 0 ≤ n := by
         obtain ⟨_, _, _, h4⟩ := fig_some.1 hF
         rw [h4]
         exact valL_ge cur 0 (Int.le_refl _) hdg.out
        have hn0i : ¬ n < 0 := by omega
        simp only [hF, Option.getD_some] at FG
        replace FG := Lib.hid FG
        have hiw : i + 1 - (i + 1) = 0 := by omega
        unfold OwnsI at hown
        obtain ⟨st0, cap0, rfl⟩ := own_slice hown
        by_cases h59 : c = 59
        ·have hcq2 : ((q : Int) != 59) = false := by rw [hcq, h59]; rfl
         subst h59
         rw [docAt_next hF] at hgo2
         have hnil : (l.take (i + 1)).drop (i + 1) = [] := List.drop_eq_nil_of_le (by rw [List.length_take]; omega)
         rw [← hnil] at hgo2
         have hdg2 : ∀ c ∈ (l.take (i + 1)).drop (i + 1), digB c = true := by rw [hnil]; intro c h; cases h
         replace hgo2 := Lib.hid hgo2
         replace hdg2 := Lib.hid hdg2
         clear hcq hnil
         by_cases y1 : 48 ≤ q
         ·have y1i : (48 : Int) ≤ q := by omega
          have y2 : ¬ q ≤ 57 := fun h => hnd ⟨y1, h⟩
          have y2i : ¬ (q : Int) ≤ 57 := by omega
          go_upto_region 12 with (go_at_call 147; (with_reducible refine (FG.out _).mono ?_); rintro e w1 ⟨rfl, hb1⟩)
          have hown1 := ownsRow_below hown hb1 (Nat.le_refl _)
          have hbw1 := hbr.trans (hb1.mono zr)
          go_upto_region 13 with (first
           | (at_builtin; refine wpList_append_new rfl _ _ _ rfl w.heap.size 3 iI _ 1 8 Tryz.underlying165 hi0 hm0 hm1 hm2 rfl (by omega) w1 1 _ _ _ _ (by rfl) hown1 (by rfl) rfl (by simp [Value.oneCell']) (by omega) (by unfold maxLen; omega) (by have := hbw1.size; omega) ?_; intro v6 w6 hown6 hb6)
           | go_in)
          have hb6' : Below w.heap.size w w6 := hbw1.trans hb6
          rw [flatI1 ns n rfl] at hown6
          have hown7 : OwnsI w.heap.size w6 v6 (ns ++ [n]) := by unfold OwnsI; rw [List.length_append]; exact hown6
          clear hown6 hb6 hown hown1 hb1 hbw1 FG
          replace hown7 := Lib.hid hown7
          go_wp2
          exact ⟨⟨i + 1, i + 1, ns ++ [n], Nat.le_refl _, by omega, by omega, by omega, by go_num, by go_num, hown7.out, hb6', hdg2, by rw [List.length_append]; simp; omega, hgo2⟩, by simp [intOf]; omega⟩
         ·have y1i : ¬ (48 : Int) ≤ q := by omega
          go_upto_region 12 with (go_at_call 147; (with_reducible refine (FG.out _).mono ?_); rintro e w1 ⟨rfl, hb1⟩)
          have hown1 := ownsRow_below hown hb1 (Nat.le_refl _)
          have hbw1 := hbr.trans (hb1.mono zr)
          go_upto_region 13 with (first
           | (at_builtin; refine wpList_append_new rfl _ _ _ rfl w.heap.size 3 iI _ 1 8 Tryz.underlying165 hi0 hm0 hm1 hm2 rfl (by omega) w1 1 _ _ _ _ (by rfl) hown1 (by rfl) rfl (by simp [Value.oneCell']) (by omega) (by unfold maxLen; omega) (by have := hbw1.size; omega) ?_; intro v6 w6 hown6 hb6)
           | go_in)
          have hb6' : Below w.heap.size w w6 := hbw1.trans hb6
          rw [flatI1 ns n rfl] at hown6
          have hown7 : OwnsI w.heap.size w6 v6 (ns ++ [n]) := by unfold OwnsI; rw [List.length_append]; exact hown6
          clear hown6 hb6 hown hown1 hb1 hbw1 FG
          replace hown7 := Lib.hid hown7
          go_wp2
          exact ⟨⟨i + 1, i + 1, ns ++ [n], Nat.le_refl _, by omega, by omega, by omega, by go_num, by go_num, hown7.out, hb6', hdg2, by rw [List.length_append]; simp; omega, hgo2⟩, by simp [intOf]; omega⟩
        ·have hcq2 : ((q : Int) != 59) = true := by rw [hcq]; simpa using h59
         rw [docAt_end hd hF h59] at hgo2
         have hcnt : l.length - (l.drop (i + 1)).length = i + 1 := by rw [List.length_drop]; omega
         unfold numOf at hgo2
         simp only [Option.map_some, hcnt] at hgo2
         subst hgo2
         clear hcq
         by_cases y1 : 48 ≤ q
         ·have y1i : (48 : Int) ≤ q := by omega
          have y2 : ¬ q ≤ 57 := fun h => hnd ⟨y1, h⟩
          have y2i : ¬ (q : Int) ≤ 57 := by omega
          go_upto_region 12 with (go_at_call 147; (with_reducible refine (FG.out _).mono ?_); rintro e w1 ⟨rfl, hb1⟩)
          have hown1 := ownsRow_below hown hb1 (Nat.le_refl _)
          have hbw1 := hbr.trans (hb1.mono zr)
          go_upto_region 13 with (first
           | (at_builtin; refine wpList_append_new rfl _ _ _ rfl w.heap.size 3 iI _ 1 8 Tryz.underlying165 hi0 hm0 hm1 hm2 rfl (by omega) w1 1 _ _ _ _ (by rfl) hown1 (by rfl) rfl (by simp [Value.oneCell']) (by omega) (by unfold maxLen; omega) (by have := hbw1.size; omega) ?_; intro v6 w6 hown6 hb6)
           | go_in)
          have hb6' : Below w.heap.size w w6 := hbw1.trans hb6
          rw [flatI1 ns n rfl] at hown6
          have hown7 : OwnsI w.heap.size w6 v6 (ns ++ [n]) := by unfold OwnsI; rw [List.length_append]; exact hown6
          clear hown6 hb6 hown hown1 hb1 hbw1 FG
          replace hown7 := Lib.hid hown7
          go_upto_region 14 with fail
          refine wp_region_steady (Held w6 0 []) (by kernel_rfl) (by kernel_rfl) ⟨belt, (by (try simp) <;> omega), (by first | exact trivial | (simp only [Cells]; go_simp))⟩ ?_
          repeat (first | (refine' wpSteady_do _ _ _; rotate_left; (focus rfl); (focus (intro w1 hS R hR; have hc := hS.cells; simp only [Cells] at hc; obtain ⟨hco, hfo⟩ := bcell hS.old; go_simp; (try go_bits); first | exact hR _ hS | fail)); simp only [pu]) | (refine wpSteady_pass ?_ ?_; (focus rfl); simp only [pu]))
          refine wpSteady_nil (fun uA hSA => ?_)
          have hcA := hSA.cells; have hbA := hSA.old; have hzA := hSA.size; clear hSA; simp only [Cells] at hcA; obtain ⟨hcoA, hfoA⟩ := bcell hbA
          go_wp2
          go_ret3
          refine ⟨⟨_, ?_, hown7.out.below hbA (Nat.le_refl _)⟩, hb6'.trans (hbA.mono hb6'.size)⟩
          rw [hq.out]
          rfl
         ·have y1i : ¬ (48 : Int) ≤ q := by omega
          go_upto_region 12 with (go_at_call 147; (with_reducible refine (FG.out _).mono ?_); rintro e w1 ⟨rfl, hb1⟩)
          have hown1 := ownsRow_below hown hb1 (Nat.le_refl _)
          have hbw1 := hbr.trans (hb1.mono zr)
          go_upto_region 13 with (first
           | (at_builtin; refine wpList_append_new rfl _ _ _ rfl w.heap.size 3 iI _ 1 8 Tryz.underlying165 hi0 hm0 hm1 hm2 rfl (by omega) w1 1 _ _ _ _ (by rfl) hown1 (by rfl) rfl (by simp [Value.oneCell']) (by omega) (by unfold maxLen; omega) (by have := hbw1.size; omega) ?_; intro v6 w6 hown6 hb6)
           | go_in)
          have hb6' : Below w.heap.size w w6 := hbw1.trans hb6
          rw [flatI1 ns n rfl] at hown6
          have hown7 : OwnsI w.heap.size w6 v6 (ns ++ [n]) := by unfold OwnsI; rw [List.length_append]; exact hown6
          clear hown6 hb6 hown hown1 hb1 hbw1 FG
          replace hown7 := Lib.hid hown7
          go_upto_region 14 with fail
          refine wp_region_steady (Held w6 0 []) (by kernel_rfl) (by kernel_rfl) ⟨belt, (by (try simp) <;> omega), (by first | exact trivial | (simp only [Cells]; go_simp))⟩ ?_
          repeat (first | (refine' wpSteady_do _ _ _; rotate_left; (focus rfl); (focus (intro w1 hS R hR; have hc := hS.cells; simp only [Cells] at hc; obtain ⟨hco, hfo⟩ := bcell hS.old; go_simp; (try go_bits); first | exact hR _ hS | fail)); simp only [pu]) | (refine wpSteady_pass ?_ ?_; (focus rfl); simp only [pu]))
          refine wpSteady_nil (fun uA hSA => ?_)
          have hcA := hSA.cells; have hbA := hSA.old; have hzA := hSA.size; clear hSA; simp only [Cells] at hcA; obtain ⟨hcoA, hfoA⟩ := bcell hbA
          go_wp2
          go_ret3
          refine ⟨⟨_, ?_, hown7.out.below hbA (Nat.le_refl _)⟩, hb6'.trans (hbA.mono hb6'.size)⟩
          rw [hq.out]
          rfl
      ·have hnd : 48 ≤ q ∧ q ≤ 57 := by
        rw [hq]
        unfold digB at hd
        simpa only [Bool.and_eq_true, decide_eq_true_eq] using hd
       obtain ⟨y1, y2⟩ := hnd
       have y1i : (48 : Int) ≤ q := by omega
       have y2i : (q : Int) ≤ 57 := by omega
       rw [docAt_digit hd, ← hts] at hgo2
       have hdg2 : ∀ c ∈ (l.take (i + 1)).drop f, digB c = true := by
        rw [hts]
        intro d hdm
        rcases List.mem_append.1 hdm with h | h
        ·exact hdg.out d h
        ·simp only [List.mem_singleton] at h
         rw [h]; exact hd
       replace hgo2 := Lib.hid hgo2
       replace hdg2 := Lib.hid hdg2
       replace hq := Lib.hid hq
       clear hts
       go_wp2
       exact ⟨⟨i + 1, f, ns, by omega, hf2, by omega, by omega, by go_num, rfl, hown, hbr, hdg2, by omega, hgo2⟩, by simp [intOf]; omega⟩
     ·have c2i : ¬ (i : Int) < 40 := by omega
      have hv : RV = none := by
       have h := hgo.out
       rw [show 40 - i = 0 by omega, docAt_zero] at h
       exact h.symm
      subst hv
      go_wp2
      go_ret3
      exact ⟨⟨_, rfl, OwnsI.nil _ _⟩, hbr⟩
    ·have c1i : ¬ (i : Int) < N := by omega
     have hv : RV = none := by
      have h := hgo.out
      rw [show l.drop i = [] from List.drop_eq_nil_of_le (by omega), docAt_nil] at h
      exact h.symm
     subst hv
     go_wp2
     go_ret3
     exact ⟨⟨_, rfl, OwnsI.nil _ _⟩, hbr⟩
  ·have hv : RV = none := by
    rw [← hRV]
    unfold numR
    rw [if_neg (fun h => g1 ⟨by have := h.1; rw [ha0] at this; injection this, by have := h.2; rw [ha1] at this; injection this⟩)]
   subst hv
   clear hRV
   by_cases b0 : bAt s 0 = 27
   ·have b1 : ¬ bAt s 1 = 91 := fun h => g1 ⟨UInt8.toNat.inj (q0.symm.trans b0), UInt8.toNat.inj (q1.symm.trans h)⟩
    have b1i : (((bAt s 1 : Nat) : Int) != 91) = true := by rw [bne_iff_ne]; omega
    clear q0 q1
    go_enter Tryz.func110, Tryz.ntmps110
    go_wp2
    go_ret3
    exact ⟨⟨_, rfl, OwnsI.nil _ _⟩, Below.refl _ _⟩
   ·clear q0 q1
    by_cases b1 : bAt s 1 = 91
    ·go_enter Tryz.func110, Tryz.ntmps110
     go_wp2
     go_ret3
     exact ⟨⟨_, rfl, OwnsI.nil _ _⟩, Below.refl _ _⟩
    ·go_enter Tryz.func110, Tryz.ntmps110
     go_wp2
     go_ret3
     exact ⟨⟨_, rfl, OwnsI.nil _ _⟩, Below.refl _ _⟩
end Go.Proofs.YtffmomgmkpmpkaaGreatDoor
