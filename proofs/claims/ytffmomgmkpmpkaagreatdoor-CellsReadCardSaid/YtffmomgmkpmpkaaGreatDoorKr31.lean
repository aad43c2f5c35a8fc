/-
  Cells: the document's terminal reads a cell's rune.
-/
import Derived.Lib.SlicesCompact
import Derived.Test.YtffmomgmkpmpkaaGreatDoorProg
import Derived.Test.YtffmomgmkpmpkaaGreatDoorKr30
namespace Go.Proofs.YtffmomgmkpmpkaaGreatDoor
open Go.RowKit
set_option linter.unusedVariables false
attribute [local go_sem] vwp vUpon_value vUpon_skip vUpon_enter vUpon_row
set_option linter.unusedSimpArgs false
set_option linter.unusedVariables false
/-- The five cells of the terminal's block that places are asked of. -/
theorem splC_pair {cs : List Ce} {a d : Ce} {i : Nat} (h : i + 2 ≤ cs.length) : splC (splC cs i [a]) (i + 1) [d] = splC cs i [a, d] := by
  have e : (cs.take i ++ [a]).length = i + 1 := by rw [List.length_append, List.length_take]; simp; omega
  unfold splC
  have e1 : (cs.take i ++ [a] ++ cs.drop (i + [a].length)).take (i + 1) = cs.take i ++ [a] := by rw [← e, List.take_left]
  have e2 : (cs.take i ++ [a] ++ cs.drop (i + [a].length)).drop (i + 1 + [d].length) = cs.drop (i + [a, d].length) := by
    rw [show i + 1 + [d].length = (cs.take i ++ [a]).length + 1 by rw [e]; rfl, List.drop_append, List.drop_drop]
    simp [e]
  rw [e1, e2]
  simp only [List.append_assoc, List.cons_append, List.nil_append]
set_option maxHeartbeats 8000000 in
set_option maxRecDepth 100000 in
theorem trune_no (wd ht : Int) (cs : List Ce) (v : Value) (t : Tm) (c : UInt8) (r : List UInt8) (b base : Nat) (w : World) (hh : c ≠ 14 ∧ c ≠ 15) (hB : Blk w b (tmC wd ht v t) 101) (hv : OwnsC base w v cs) (hfit : fitsS wd ht = true) (hlen : (cs.length : Int) = wd * ht) (hl : r.length < 1048576) (hD : DecT w) :
  Calls Tryz.prog 57 #[.pointer (some ⟨b, 0, none⟩), .string (strL (c :: r))] w fun e w' => e = .returned (.int .i64 (cellN (cellP wd ht cs t (c :: r)))) ∧
   TmT base b wd ht v (cellC cs (cellP wd ht cs t (c :: r))) (cellT t (cellP wd ht cs t (c :: r))) w' ∧ KeptBut (fun k => k = b ∨ v.ownBlock = some k) w w' := by
 have hc0 := strL_get c r
 have hP := cellP_eq wd ht cs t c r
 have hH : halfP c = 0 := by ((first | (unfold halfP) | (unfold skipP)); rw [if_neg (fun h => h.elim hh.1 hh.2)])
 have hK : skipP c = 0 := by ((first | (unfold halfP) | (unfold skipP)); rw [if_neg (fun h => h.elim hh.1 hh.2)])
 have hdr := strL_from (c :: r) 0 rfl
 rw [hH, hK] at hP
 obtain ⟨S, hS⟩ : ∃ s, strL (c :: r) = s := ⟨_, rfl⟩
 have hz : S.size = r.length + 1 := by rw [← hS]; exact strL_size _
 obtain ⟨S2, hS2⟩ : ∃ s, strL ((c :: r).drop 0) = s := ⟨_, rfl⟩
 rw [hS] at hc0 hdr ⊢
 rw [hS2] at hP hdr
 have hd1 := dec1 S2
 have hdv : Lib.decodeGo S2 = (65533, 0) ∨ validR ((Lib.decodeGo S2).1 : Int) = true := by
  unfold Lib.decodeGo
  split
  ·exact .inl rfl
  ·exact .inr (dec_valid S2 0)
 have DE := YtffmomgmkpmpkaaGreatDoor.decR S2 w hD
 obtain ⟨rn, k, hrk⟩ : ∃ rn k, Lib.decodeGo S2 = (rn, k) := ⟨_, _, rfl⟩
 rw [hrk] at DE hP hd1 hdv
 dsimp only at DE hP hd1 hdv
 have hs2 : S2.size ≤ 1048576 := by rw [← hS2, strL_size, List.length_drop]; simp only [List.length_cons]; omega
 have X1 := bAt_eq (s := S) (i := 0) (by omega)
 rw [List.length_cons] at hdr
 rw [← hdr] at DE
 obtain ⟨N, hN⟩ : ∃ N, r.length = N := ⟨_, rfl⟩
 rw [hN] at hz DE hl
 obtain ⟨RES, hRES⟩ : ∃ q, cellP wd ht cs t (c :: r) = q := ⟨_, rfl⟩
 rw [hRES] at hP ⊢
 obtain ⟨tx, ty, tc, tb⟩ := t
 dsimp only at hP
 (have q14 : ((c.toNat : Int) == 14) = false := (by simp; intro h; exact hh.1 (UInt8.toNat_inj.1 (by show c.toNat = 14; omega))); have q15 : ((c.toNat : Int) == 15) = false := (by simp; intro h; exact hh.2 (UInt8.toNat_inj.1 (by show c.toNat = 15; omega))))
 have yb := hB.lt
 have hk4 : k ≤ 1048576 := by
  rcases hd1 with h | h
  ·omega
  ·omega
 have hrn : rn ≤ 1114111 := by
  rcases hdv with h | h
  ·injection h with h1 h2; omega
  ·unfold validR at h; simp only [Bool.or_eq_true, Bool.and_eq_true, decide_eq_true_eq] at h; omega
 clear hS hRES hrk hH hK hD hdr hS2 hs2 hd1 hdv
 replace hB := Lib.hid hB
 replace hv := Lib.hid hv
 have hrn0 : 0 ≤ (rn : Int) ∧ (rn : Int) ≤ 1114111 := by omega
 have hdi : (rn = 65533 ∧ k < 3) ↔ ((rn : Int) = 65533 ∧ k < 3) := by omega
 simp only [hdi] at hP
 obtain ⟨R, hR⟩ : ∃ R : Int, (rn : Int) = R := ⟨_, rfl⟩
 rw [hR] at hP DE hrn0
 clear hdi hrn hR
 replace DE := Lib.hid DE
 have WD := Lib.hid (fun w => rwidth_any R w)
 go_enter Tryz.func57, Tryz.ntmps57
 by_cases hdead : R = 65533 ∧ k < 3
 ·have hRN : RES = none := by rwa [if_pos hdead] at hP
  subst hRN
  have u1 : (R == 65533) = true := by rw [hdead.1]; rfl
  have u2 : ((k : Nat) : Int) < 3 := by omega
  go_upto_region 7 with (go_at_call 107; (with_reducible refine (DE.out).mono ?_); rintro e w1 ⟨rfl, hb1⟩)
  go_wp2
  go_ret
  exact ⟨rfl, ⟨hB.out.below hb1 yb, hv.out.below hb1 (Nat.le_refl _)⟩, (KeptBut.refl _ _).below hb1⟩
 ·rw [if_neg hdead] at hP
  have hP2 := Lib.hid hP
  clear hP
  by_cases r1 : R = 65533
  ·have u1 : (R == 65533) = true := by rw [r1]; rfl
   have u2 : ¬ ((k : Nat) : Int) < 3 := by omega
   clear r1 hdead
   go_upto_region 9 with (go_at_call 107; (with_reducible refine (DE.out).mono ?_); rintro e w1 ⟨rfl, hb1⟩)
   go_upto_region 10 with (go_at_call 106; (with_reducible refine (WD.out _).mono ?_); rintro e w2 ⟨rfl, hb2⟩)
   have hb12 := hb1.trans (hb2.mono hb1.size)
   clear hb1 hb2 DE WD u1 u2
   -- at region 10, in the world w2; WD told the width
   have BT := Lib.hid (hB.out.below hb12 yb)
   have hv' := Lib.hid (hv.out.below hb12 (Nat.le_refl _))
   have KK := Lib.hid ((KeptBut.refl (fun k => k = b ∨ v.ownBlock = some k) w).below hb12)
   have j0 := BT.out.cell (o := 0) rfl
   have j1 := BT.out.cell (o := 1) rfl
   have j2 := BT.out.cell (o := 2) rfl
   have j3 := BT.out.cell (o := 3) rfl
   have j4 := BT.out.cell (o := 4) rfl
   have yb' := BT.out.lt
   clear hB hv
   rcases wid3 R with hwd | hwd | hwd
   ·-- none
    have hRN : RES = none := by have h := hP2.out; rwa [if_pos (.inl (by unfold putL; rw [hwd]; rfl))] at h
    subst hRN
    rw [hwd]
    refine wp_region_steady (Held w2 0 []) (by kernel_rfl) (by kernel_rfl) ⟨belt, (by (try simp) <;> omega), (by first | exact trivial | (simp only [Cells]; go_simp))⟩ ?_
    repeat (first | (refine' wpSteady_do _ _ _; rotate_left; (focus rfl); (focus (intro w1 hS R hR; have hc := hS.cells; simp only [Cells] at hc; obtain ⟨hco, hfo⟩ := bcell hS.old; go_simp; (try go_bits); first | exact hR _ hS | fail)); simp only [pu]) | (refine wpSteady_pass ?_ ?_; (focus rfl); simp only [pu]))
    refine wpSteady_nil (fun uA hSA => ?_)
    have hcA := hSA.cells; have hbA := hSA.old; have hzA := hSA.size; clear hSA; simp only [Cells] at hcA; obtain ⟨hcoA, hfoA⟩ := bcell hbA
    go_wp2
    go_ret
    exact ⟨rfl, ⟨BT.out.below hbA yb', hv'.out.below hbA (Nat.le_refl _)⟩, KK.out.below hbA⟩
   ·rw [hwd]
    have hPL : putL 0 R tc tb = [⟨R, tc, tb, false, false⟩] := by unfold putL; rw [if_pos hwd, if_pos rfl]
    cases hpl : plcS wd ht tx ty
    ·have hRN : RES = none := by have h := hP2.out; rwa [if_pos (.inr (.inl hpl))] at h
     subst hRN
     have PL := Lib.hid (fun u => rplace_any wd ht tx ty v u)
     have PL2 := PL.out
     rw [hpl] at PL2
     replace PL2 := Lib.hid PL2
     refine wp_region_steady (Held w2 0 []) (by kernel_rfl) (by kernel_rfl) ⟨belt, (by (try simp) <;> omega), (by first | exact trivial | (simp only [Cells]; go_simp))⟩ ?_
     repeat (first | (refine' wpSteady_do _ _ _; rotate_left; (focus rfl); (focus (intro w1 hS R hR; have hc := hS.cells; simp only [Cells] at hc; obtain ⟨hco, hfo⟩ := bcell hS.old; go_simp; (try go_bits); first | exact hR _ hS | (go_at_call 59; (with_reducible refine (PL2.out _).mono ?_); rintro e w2 ⟨rfl, hb2⟩; exact ⟨_, rfl, hR _ (hS.below hb2)⟩))); simp only [pu]) | (refine wpSteady_pass ?_ ?_; (focus rfl); simp only [pu]))
     refine wpSteady_nil (fun uA hSA => ?_)
     have hcA := hSA.cells; have hbA := hSA.old; have hzA := hSA.size; clear hSA; simp only [Cells] at hcA; obtain ⟨hcoA, hfoA⟩ := bcell hbA
     go_wp2
     go_ret
     exact ⟨rfl, ⟨BT.out.below hbA yb', hv'.out.below hbA (Nat.le_refl _)⟩, KK.out.below hbA⟩
    ·have PL2 := fun u => rplace_any wd ht tx ty v u
     rw [hpl] at PL2
     replace PL2 := Lib.hid PL2
     have hroom := (plcS_true.1 hpl).2.2.1
     have hRS : RES = some (splC cs (ty * wd + tx).toNat [⟨R, tc, tb, false, false⟩], ⟨tx + 1, ty, tc, tb⟩, 0 + k) := by
      have h := hP2.out
      rw [hPL, if_neg (by rintro (h | h | h); cases h; rw [hpl] at h; cases h; simp at h; omega)] at h
      exact h
     subst hRS
     refine wp_region_steady (Held w2 0 []) (by kernel_rfl) (by kernel_rfl) ⟨belt, (by (try simp) <;> omega), (by first | exact trivial | (simp only [Cells]; go_simp))⟩ ?_
     repeat (first | (refine' wpSteady_do _ _ _; rotate_left; (focus rfl); (focus (intro w1 hS R hR; have hc := hS.cells; simp only [Cells] at hc; obtain ⟨hco, hfo⟩ := bcell hS.old; go_simp; (try go_bits); first | exact hR _ hS | (go_at_call 59; (with_reducible refine (PL2.out _).mono ?_); rintro e w2 ⟨rfl, hb2⟩; exact ⟨_, rfl, hR _ (hS.below hb2)⟩))); simp only [pu]) | (refine wpSteady_pass ?_ ?_; (focus rfl); simp only [pu]))
     refine wpSteady_nil (fun uA hSA => ?_)
     have hcA := hSA.cells; have hbA := hSA.old; have hzA := hSA.size; clear hSA; simp only [Cells] at hcA; obtain ⟨hcoA, hfoA⟩ := bcell hbA
     go_upto_region 12 with fail
     clear j0 j1 j2 j3 j4
     have BT2 := BT.out.below hbA yb'
     have hv2 := hv'.out.below hbA (Nat.le_refl _)
     have j0 := BT2.cell (o := 0) rfl
     have j1 := BT2.cell (o := 1) rfl
     have j2 := BT2.cell (o := 2) rfl
     have j3 := BT2.cell (o := 3) rfl
     have j4 := BT2.cell (o := 4) rfl
     have yb' := BT2.lt
     refine wp_region_steady (Held uA 0 []) (by kernel_rfl) (by kernel_rfl) ⟨belt, (by (try simp) <;> omega), (by first | exact trivial | (simp only [Cells]; go_simp))⟩ ?_
     repeat (first | (refine' wpSteady_do _ _ _; rotate_left; (focus rfl); (focus (intro w1 hS R hR; have hc := hS.cells; simp only [Cells] at hc; obtain ⟨hco, hfo⟩ := bcell hS.old; go_simp; (try go_bits); first | exact hR _ hS | fail)); simp only [pu]) | (refine wpSteady_pass ?_ ?_; (focus rfl); simp only [pu]))
     refine wpSteady_nil (fun uB hSB => ?_)
     have hcB := hSB.cells; have hbB := hSB.old; have hzB := hSB.size; clear hSB; simp only [Cells] at hcB; obtain ⟨hcoB, hfoB⟩ := bcell hbB
     replace BT2 := BT2.below hbB BT2.lt
     replace hv2 := hv2.below hbB (Nat.le_refl _)
     have KK2 := Lib.hid ((KK.out.below hbA).below hbB)
     have PT := Lib.hid (tput_any wd ht cs v ⟨tx, ty, tc, tb⟩ R false false b base uB BT2 hv2 hfit hlen hpl)
     clear j0 j1 j2 j3 j4
     go_wp2_with (go_at_call 111; (with_reducible refine (PT.out).mono ?_); rintro e w5 ⟨rfl, TT5, KP5⟩)
     go_ret
     exact ⟨by first | rfl | (simp only [cellN, Nat.zero_add]; done) | exact congrArg (fun z : Int => Ending.returned (.int .i64 z)) (by simp only [cellN]; omega), TT5, KK2.out.trans KP5⟩
   ·rw [hwd]
    cases hpl : plcS wd ht tx ty
    ·have hRN : RES = none := by have h := hP2.out; rwa [if_pos (.inr (.inl hpl))] at h
     subst hRN
     have PL2 := fun u => rplace_any wd ht tx ty v u
     rw [hpl] at PL2
     replace PL2 := Lib.hid PL2
     refine wp_region_steady (Held w2 0 []) (by kernel_rfl) (by kernel_rfl) ⟨belt, (by (try simp) <;> omega), (by first | exact trivial | (simp only [Cells]; go_simp))⟩ ?_
     repeat (first | (refine' wpSteady_do _ _ _; rotate_left; (focus rfl); (focus (intro w1 hS R hR; have hc := hS.cells; simp only [Cells] at hc; obtain ⟨hco, hfo⟩ := bcell hS.old; go_simp; (try go_bits); first | exact hR _ hS | (go_at_call 59; (with_reducible refine (PL2.out _).mono ?_); rintro e w2 ⟨rfl, hb2⟩; exact ⟨_, rfl, hR _ (hS.below hb2)⟩))); simp only [pu]) | (refine wpSteady_pass ?_ ?_; (focus rfl); simp only [pu]))
     refine wpSteady_nil (fun uA hSA => ?_)
     have hcA := hSA.cells; have hbA := hSA.old; have hzA := hSA.size; clear hSA; simp only [Cells] at hcA; obtain ⟨hcoA, hfoA⟩ := bcell hbA
     go_wp2
     go_ret
     exact ⟨rfl, ⟨BT.out.below hbA yb', hv'.out.below hbA (Nat.le_refl _)⟩, KK.out.below hbA⟩
    ·have PL2 := fun u => rplace_any wd ht tx ty v u
     rw [hpl] at PL2
     replace PL2 := Lib.hid PL2
     refine wp_region_steady (Held w2 0 []) (by kernel_rfl) (by kernel_rfl) ⟨belt, (by (try simp) <;> omega), (by first | exact trivial | (simp only [Cells]; go_simp))⟩ ?_
     repeat (first | (refine' wpSteady_do _ _ _; rotate_left; (focus rfl); (focus (intro w1 hS R hR; have hc := hS.cells; simp only [Cells] at hc; obtain ⟨hco, hfo⟩ := bcell hS.old; go_simp; (try go_bits); first | exact hR _ hS | (go_at_call 59; (with_reducible refine (PL2.out _).mono ?_); rintro e w2 ⟨rfl, hb2⟩; exact ⟨_, rfl, hR _ (hS.below hb2)⟩))); simp only [pu]) | (refine wpSteady_pass ?_ ?_; (focus rfl); simp only [pu]))
     refine wpSteady_nil (fun uA hSA => ?_)
     have hcA := hSA.cells; have hbA := hSA.old; have hzA := hSA.size; clear hSA; simp only [Cells] at hcA; obtain ⟨hcoA, hfoA⟩ := bcell hbA
     go_upto_region 12 with fail
     clear j0 j1 j2 j3 j4
     have BT2 := BT.out.below hbA yb'
     have hv2 := hv'.out.below hbA (Nat.le_refl _)
     have KK2 := Lib.hid (KK.out.below hbA)
     clear hcA hcoA hfoA
     have j0 := BT2.cell (o := 0) rfl
     have j1 := BT2.cell (o := 1) rfl
     have j2 := BT2.cell (o := 2) rfl
     have j3 := BT2.cell (o := 3) rfl
     have j4 := BT2.cell (o := 4) rfl
     have yb' := BT2.lt
     obtain ⟨hx0, hy0, hroom, hyh⟩ := plcS_true.1 hpl
     have hw16 : wd ≤ 16384 := (fitsS_true.1 hfit).2.2.1
     have hPL : putL 0 R tc tb = [⟨R, tc, tb, true, false⟩, ⟨R, tc, tb, false, true⟩] := by unfold putL; rw [if_neg (by omega), if_pos hwd, if_neg (by decide), if_neg (by decide)]
     have PL3 := fun u => rplace_any wd ht (tx + 1) ty v u
     cases hp2 : plcS wd ht (tx + 1) ty
     ·have hno : wd - tx < 2 := by
       rcases Int.lt_or_le (tx + 1) wd with h | h
       ·have : plcS wd ht (tx + 1) ty = true := plcS_true.2 ⟨by omega, hy0, h, hyh⟩
        rw [this] at hp2
        cases hp2
       ·omega
      have hRN : RES = none := by
       have h := hP2.out
       rw [hPL, if_pos (.inr (.inr (by simp; omega)))] at h
       exact h
      subst hRN
      rw [hp2] at PL3
      replace PL3 := Lib.hid PL3
      refine wp_region_steady (Held uA 0 []) (by kernel_rfl) (by kernel_rfl) ⟨belt, (by (try simp) <;> omega), (by first | exact trivial | (simp only [Cells]; go_simp))⟩ ?_
      repeat (first | (refine' wpSteady_do _ _ _; rotate_left; (focus rfl); (focus (intro w1 hS R hR; have hc := hS.cells; simp only [Cells] at hc; obtain ⟨hco, hfo⟩ := bcell hS.old; go_simp; (try go_bits); first | exact hR _ hS | (go_at_call 59; (with_reducible refine (PL3.out _).mono ?_); rintro e w2 ⟨rfl, hb2⟩; exact ⟨_, rfl, hR _ (hS.below hb2)⟩))); simp only [pu]) | (refine wpSteady_pass ?_ ?_; (focus rfl); simp only [pu]))
      refine wpSteady_nil (fun uB hSB => ?_)
      have hcB := hSB.cells; have hbB := hSB.old; have hzB := hSB.size; clear hSB; simp only [Cells] at hcB; obtain ⟨hcoB, hfoB⟩ := bcell hbB
      go_wp2
      go_ret
      exact ⟨rfl, ⟨BT2.below hbB BT2.lt, hv2.below hbB (Nat.le_refl _)⟩, KK2.out.below hbB⟩
     ·have hr2 := (plcS_true.1 hp2).2.2.1
      have hRS : RES = some (splC cs (ty * wd + tx).toNat [⟨R, tc, tb, true, false⟩, ⟨R, tc, tb, false, true⟩], ⟨tx + 2, ty, tc, tb⟩, 0 + k) := by
       have h := hP2.out
       rw [hPL, if_neg (by rintro (h | h | h); cases h; rw [hpl] at h; cases h; simp at h; omega)] at h
       exact h
      subst hRS
      rw [hp2] at PL3
      replace PL3 := Lib.hid PL3
      refine wp_region_steady (Held uA 0 []) (by kernel_rfl) (by kernel_rfl) ⟨belt, (by (try simp) <;> omega), (by first | exact trivial | (simp only [Cells]; go_simp))⟩ ?_
      repeat (first | (refine' wpSteady_do _ _ _; rotate_left; (focus rfl); (focus (intro w1 hS R hR; have hc := hS.cells; simp only [Cells] at hc; obtain ⟨hco, hfo⟩ := bcell hS.old; go_simp; (try go_bits); first | exact hR _ hS | (go_at_call 59; (with_reducible refine (PL3.out _).mono ?_); rintro e w2 ⟨rfl, hb2⟩; exact ⟨_, rfl, hR _ (hS.below hb2)⟩))); simp only [pu]) | (refine wpSteady_pass ?_ ?_; (focus rfl); simp only [pu]))
      refine wpSteady_nil (fun uB hSB => ?_)
      have hcB := hSB.cells; have hbB := hSB.old; have hzB := hSB.size; clear hSB; simp only [Cells] at hcB; obtain ⟨hcoB, hfoB⟩ := bcell hbB
      replace BT2 := BT2.below hbB BT2.lt
      replace hv2 := hv2.below hbB (Nat.le_refl _)
      have KK3 := Lib.hid (KK2.out.below hbB)
      have PT := Lib.hid (tput_any wd ht cs v ⟨tx, ty, tc, tb⟩ R true false b base uB BT2 hv2 hfit hlen hpl)
      clear j0 j1 j2 j3 j4
      go_upto_region 19 with (go_at_call 111; (with_reducible refine (PT.out).mono ?_); rintro e w5 ⟨rfl, TT5, KP5⟩)
      obtain ⟨BT5, hv5⟩ := TT5
      have hsl : (splC cs (ty * wd + tx).toNat [(⟨R, tc, tb, true, false⟩ : Ce)]).length = cs.length := by
       obtain ⟨z0, z1, z2, z3, z4⟩ := fitsS_true.1 hfit
       obtain ⟨e1, e2⟩ := row_end z0 hy0 hyh
       exact splC_len (by simp; omega)
      have PT6 := Lib.hid (tput_any wd ht (splC cs (ty * wd + tx).toNat [⟨R, tc, tb, true, false⟩]) v ⟨tx + 1, ty, tc, tb⟩ R false true b base w5 BT5 hv5 hfit (by rw [hsl]; exact hlen) hp2)
      go_wp2_with (go_at_call 111; (with_reducible refine (PT6.out).mono ?_); rintro e w6 ⟨rfl, TT6, KP6⟩)
      go_ret
      refine ⟨by first | rfl | (simp only [cellN, Nat.zero_add]; done) | exact congrArg (fun z : Int => Ending.returned (.int .i64 z)) (by simp only [cellN]; omega), ?_, (KK3.out.trans KP5).trans KP6⟩
      have hs2 : splC (splC cs (ty * wd + tx).toNat [⟨R, tc, tb, true, false⟩]) (ty * wd + (tx + 1)).toNat [⟨R, tc, tb, false, true⟩] = splC cs (ty * wd + tx).toNat [⟨R, tc, tb, true, false⟩, ⟨R, tc, tb, false, true⟩] := by
       obtain ⟨z0, z1, z2, z3, z4⟩ := fitsS_true.1 hfit
       obtain ⟨e1, e2⟩ := row_end z0 hy0 hyh
       rw [show (ty * wd + (tx + 1)).toNat = (ty * wd + tx).toNat + 1 by omega]
       exact splC_pair (by omega)
      have e2 : tx + 1 + 1 = tx + 2 := by omega
      (try dsimp only [cellC, cellT])
      (try dsimp only at TT6)
      rw [hs2, e2] at TT6
      exact TT6
  ·have u1 : (R == 65533) = false := by simp; omega
   clear r1 hdead
   go_upto_region 9 with (go_at_call 107; (with_reducible refine (DE.out).mono ?_); rintro e w1 ⟨rfl, hb1⟩)
   go_upto_region 10 with (go_at_call 106; (with_reducible refine (WD.out _).mono ?_); rintro e w2 ⟨rfl, hb2⟩)
   have hb12 := hb1.trans (hb2.mono hb1.size)
   clear hb1 hb2 DE WD u1
   -- at region 10, in the world w2; WD told the width
   have BT := Lib.hid (hB.out.below hb12 yb)
   have hv' := Lib.hid (hv.out.below hb12 (Nat.le_refl _))
   have KK := Lib.hid ((KeptBut.refl (fun k => k = b ∨ v.ownBlock = some k) w).below hb12)
   have j0 := BT.out.cell (o := 0) rfl
   have j1 := BT.out.cell (o := 1) rfl
   have j2 := BT.out.cell (o := 2) rfl
   have j3 := BT.out.cell (o := 3) rfl
   have j4 := BT.out.cell (o := 4) rfl
   have yb' := BT.out.lt
   clear hB hv
   rcases wid3 R with hwd | hwd | hwd
   ·-- none
    have hRN : RES = none := by have h := hP2.out; rwa [if_pos (.inl (by unfold putL; rw [hwd]; rfl))] at h
    subst hRN
    rw [hwd]
    refine wp_region_steady (Held w2 0 []) (by kernel_rfl) (by kernel_rfl) ⟨belt, (by (try simp) <;> omega), (by first | exact trivial | (simp only [Cells]; go_simp))⟩ ?_
    repeat (first | (refine' wpSteady_do _ _ _; rotate_left; (focus rfl); (focus (intro w1 hS R hR; have hc := hS.cells; simp only [Cells] at hc; obtain ⟨hco, hfo⟩ := bcell hS.old; go_simp; (try go_bits); first | exact hR _ hS | fail)); simp only [pu]) | (refine wpSteady_pass ?_ ?_; (focus rfl); simp only [pu]))
    refine wpSteady_nil (fun uA hSA => ?_)
    have hcA := hSA.cells; have hbA := hSA.old; have hzA := hSA.size; clear hSA; simp only [Cells] at hcA; obtain ⟨hcoA, hfoA⟩ := bcell hbA
    go_wp2
    go_ret
    exact ⟨rfl, ⟨BT.out.below hbA yb', hv'.out.below hbA (Nat.le_refl _)⟩, KK.out.below hbA⟩
   ·rw [hwd]
    have hPL : putL 0 R tc tb = [⟨R, tc, tb, false, false⟩] := by unfold putL; rw [if_pos hwd, if_pos rfl]
    cases hpl : plcS wd ht tx ty
    ·have hRN : RES = none := by have h := hP2.out; rwa [if_pos (.inr (.inl hpl))] at h
     subst hRN
     have PL := Lib.hid (fun u => rplace_any wd ht tx ty v u)
     have PL2 := PL.out
     rw [hpl] at PL2
     replace PL2 := Lib.hid PL2
     refine wp_region_steady (Held w2 0 []) (by kernel_rfl) (by kernel_rfl) ⟨belt, (by (try simp) <;> omega), (by first | exact trivial | (simp only [Cells]; go_simp))⟩ ?_
     repeat (first | (refine' wpSteady_do _ _ _; rotate_left; (focus rfl); (focus (intro w1 hS R hR; have hc := hS.cells; simp only [Cells] at hc; obtain ⟨hco, hfo⟩ := bcell hS.old; go_simp; (try go_bits); first | exact hR _ hS | (go_at_call 59; (with_reducible refine (PL2.out _).mono ?_); rintro e w2 ⟨rfl, hb2⟩; exact ⟨_, rfl, hR _ (hS.below hb2)⟩))); simp only [pu]) | (refine wpSteady_pass ?_ ?_; (focus rfl); simp only [pu]))
     refine wpSteady_nil (fun uA hSA => ?_)
     have hcA := hSA.cells; have hbA := hSA.old; have hzA := hSA.size; clear hSA; simp only [Cells] at hcA; obtain ⟨hcoA, hfoA⟩ := bcell hbA
     go_wp2
     go_ret
     exact ⟨rfl, ⟨BT.out.below hbA yb', hv'.out.below hbA (Nat.le_refl _)⟩, KK.out.below hbA⟩
    ·have PL2 := fun u => rplace_any wd ht tx ty v u
     rw [hpl] at PL2
     replace PL2 := Lib.hid PL2
     have hroom := (plcS_true.1 hpl).2.2.1
     have hRS : RES = some (splC cs (ty * wd + tx).toNat [⟨R, tc, tb, false, false⟩], ⟨tx + 1, ty, tc, tb⟩, 0 + k) := by
      have h := hP2.out
      rw [hPL, if_neg (by rintro (h | h | h); cases h; rw [hpl] at h; cases h; simp at h; omega)] at h
      exact h
     subst hRS
     refine wp_region_steady (Held w2 0 []) (by kernel_rfl) (by kernel_rfl) ⟨belt, (by (try simp) <;> omega), (by first | exact trivial | (simp only [Cells]; go_simp))⟩ ?_
     repeat (first | (refine' wpSteady_do _ _ _; rotate_left; (focus rfl); (focus (intro w1 hS R hR; have hc := hS.cells; simp only [Cells] at hc; obtain ⟨hco, hfo⟩ := bcell hS.old; go_simp; (try go_bits); first | exact hR _ hS | (go_at_call 59; (with_reducible refine (PL2.out _).mono ?_); rintro e w2 ⟨rfl, hb2⟩; exact ⟨_, rfl, hR _ (hS.below hb2)⟩))); simp only [pu]) | (refine wpSteady_pass ?_ ?_; (focus rfl); simp only [pu]))
     refine wpSteady_nil (fun uA hSA => ?_)
     have hcA := hSA.cells; have hbA := hSA.old; have hzA := hSA.size; clear hSA; simp only [Cells] at hcA; obtain ⟨hcoA, hfoA⟩ := bcell hbA
     go_upto_region 12 with fail
     clear j0 j1 j2 j3 j4
     have BT2 := BT.out.below hbA yb'
     have hv2 := hv'.out.below hbA (Nat.le_refl _)
     have j0 := BT2.cell (o := 0) rfl
     have j1 := BT2.cell (o := 1) rfl
     have j2 := BT2.cell (o := 2) rfl
     have j3 := BT2.cell (o := 3) rfl
     have j4 := BT2.cell (o := 4) rfl
     have yb' := BT2.lt
     refine wp_region_steady (Held uA 0 []) (by kernel_rfl) (by kernel_rfl) ⟨belt, (by (try simp) <;> omega), (by first | exact trivial | (simp only [Cells]; go_simp))⟩ ?_
     repeat (first | (refine' wpSteady_do _ _ _; rotate_left; (focus rfl); (focus (intro w1 hS R hR; have hc := hS.cells; simp only [Cells] at hc; obtain ⟨hco, hfo⟩ := bcell hS.old; go_simp; (try go_bits); first | exact hR _ hS | fail)); simp only [pu]) | (refine wpSteady_pass ?_ ?_; (focus rfl); simp only [pu]))
     refine wpSteady_nil (fun uB hSB => ?_)
     have hcB := hSB.cells; have hbB := hSB.old; have hzB := hSB.size; clear hSB; simp only [Cells] at hcB; obtain ⟨hcoB, hfoB⟩ := bcell hbB
     replace BT2 := BT2.below hbB BT2.lt
     replace hv2 := hv2.below hbB (Nat.le_refl _)
     have KK2 := Lib.hid ((KK.out.below hbA).below hbB)
     have PT := Lib.hid (tput_any wd ht cs v ⟨tx, ty, tc, tb⟩ R false false b base uB BT2 hv2 hfit hlen hpl)
     clear j0 j1 j2 j3 j4
     go_wp2_with (go_at_call 111; (with_reducible refine (PT.out).mono ?_); rintro e w5 ⟨rfl, TT5, KP5⟩)
     go_ret
     exact ⟨by first | rfl | (simp only [cellN, Nat.zero_add]; done) | exact congrArg (fun z : Int => Ending.returned (.int .i64 z)) (by simp only [cellN]; omega), TT5, KK2.out.trans KP5⟩
   ·rw [hwd]
    cases hpl : plcS wd ht tx ty
    ·have hRN : RES = none := by have h := hP2.out; rwa [if_pos (.inr (.inl hpl))] at h
     subst hRN
     have PL2 := fun u => rplace_any wd ht tx ty v u
     rw [hpl] at PL2
     replace PL2 := Lib.hid PL2
     refine wp_region_steady (Held w2 0 []) (by kernel_rfl) (by kernel_rfl) ⟨belt, (by (try simp) <;> omega), (by first | exact trivial | (simp only [Cells]; go_simp))⟩ ?_
     repeat (first | (refine' wpSteady_do _ _ _; rotate_left; (focus rfl); (focus (intro w1 hS R hR; have hc := hS.cells; simp only [Cells] at hc; obtain ⟨hco, hfo⟩ := bcell hS.old; go_simp; (try go_bits); first | exact hR _ hS | (go_at_call 59; (with_reducible refine (PL2.out _).mono ?_); rintro e w2 ⟨rfl, hb2⟩; exact ⟨_, rfl, hR _ (hS.below hb2)⟩))); simp only [pu]) | (refine wpSteady_pass ?_ ?_; (focus rfl); simp only [pu]))
     refine wpSteady_nil (fun uA hSA => ?_)
     have hcA := hSA.cells; have hbA := hSA.old; have hzA := hSA.size; clear hSA; simp only [Cells] at hcA; obtain ⟨hcoA, hfoA⟩ := bcell hbA
     go_wp2
     go_ret
     exact ⟨rfl, ⟨BT.out.below hbA yb', hv'.out.below hbA (Nat.le_refl _)⟩, KK.out.below hbA⟩
    ·have PL2 := fun u => rplace_any wd ht tx ty v u
     rw [hpl] at PL2
     replace PL2 := Lib.hid PL2
     refine wp_region_steady (Held w2 0 []) (by kernel_rfl) (by kernel_rfl) ⟨belt, (by (try simp) <;> omega), (by first | exact trivial | (simp only [Cells]; go_simp))⟩ ?_
     repeat (first | (refine' wpSteady_do _ _ _; rotate_left; (focus rfl); (focus (intro w1 hS R hR; have hc := hS.cells; simp only [Cells] at hc; obtain ⟨hco, hfo⟩ := bcell hS.old; go_simp; (try go_bits); first | exact hR _ hS | (go_at_call 59; (with_reducible refine (PL2.out _).mono ?_); rintro e w2 ⟨rfl, hb2⟩; exact ⟨_, rfl, hR _ (hS.below hb2)⟩))); simp only [pu]) | (refine wpSteady_pass ?_ ?_; (focus rfl); simp only [pu]))
     refine wpSteady_nil (fun uA hSA => ?_)
     have hcA := hSA.cells; have hbA := hSA.old; have hzA := hSA.size; clear hSA; simp only [Cells] at hcA; obtain ⟨hcoA, hfoA⟩ := bcell hbA
     go_upto_region 12 with fail
     clear j0 j1 j2 j3 j4
     have BT2 := BT.out.below hbA yb'
     have hv2 := hv'.out.below hbA (Nat.le_refl _)
     have KK2 := Lib.hid (KK.out.below hbA)
     clear hcA hcoA hfoA
     have j0 := BT2.cell (o := 0) rfl
     have j1 := BT2.cell (o := 1) rfl
     have j2 := BT2.cell (o := 2) rfl
     have j3 := BT2.cell (o := 3) rfl
     have j4 := BT2.cell (o := 4) rfl
     have yb' := BT2.lt
     obtain ⟨hx0, hy0, hroom, hyh⟩ := plcS_true.1 hpl
     have hw16 : wd ≤ 16384 := (fitsS_true.1 hfit).2.2.1
     have hPL : putL 0 R tc tb = [⟨R, tc, tb, true, false⟩, ⟨R, tc, tb, false, true⟩] := by unfold putL; rw [if_neg (by omega), if_pos hwd, if_neg (by decide), if_neg (by decide)]
     have PL3 := fun u => rplace_any wd ht (tx + 1) ty v u
     cases hp2 : plcS wd ht (tx + 1) ty
     ·have hno : wd - tx < 2 := by
       rcases Int.lt_or_le (tx + 1) wd with h | h
       ·have : plcS wd ht (tx + 1) ty = true := plcS_true.2 ⟨by omega, hy0, h, hyh⟩
        rw [this] at hp2
        cases hp2
       ·omega
      have hRN : RES = none := by
       have h := hP2.out
       rw [hPL, if_pos (.inr (.inr (by simp; omega)))] at h
       exact h
      subst hRN
      rw [hp2] at PL3
      replace PL3 := Lib.hid PL3
      refine wp_region_steady (Held uA 0 []) (by kernel_rfl) (by kernel_rfl) ⟨belt, (by (try simp) <;> omega), (by first | exact trivial | (simp only [Cells]; go_simp))⟩ ?_
      repeat (first | (refine' wpSteady_do _ _ _; rotate_left; (focus rfl); (focus (intro w1 hS R hR; have hc := hS.cells; simp only [Cells] at hc; obtain ⟨hco, hfo⟩ := bcell hS.old; go_simp; (try go_bits); first | exact hR _ hS | (go_at_call 59; (with_reducible refine (PL3.out _).mono ?_); rintro e w2 ⟨rfl, hb2⟩; exact ⟨_, rfl, hR _ (hS.below hb2)⟩))); simp only [pu]) | (refine wpSteady_pass ?_ ?_; (focus rfl); simp only [pu]))
      refine wpSteady_nil (fun uB hSB => ?_)
      have hcB := hSB.cells; have hbB := hSB.old; have hzB := hSB.size; clear hSB; simp only [Cells] at hcB; obtain ⟨hcoB, hfoB⟩ := bcell hbB
      go_wp2
      go_ret
      exact ⟨rfl, ⟨BT2.below hbB BT2.lt, hv2.below hbB (Nat.le_refl _)⟩, KK2.out.below hbB⟩
     ·have hr2 := (plcS_true.1 hp2).2.2.1
      have hRS : RES = some (splC cs (ty * wd + tx).toNat [⟨R, tc, tb, true, false⟩, ⟨R, tc, tb, false, true⟩], ⟨tx + 2, ty, tc, tb⟩, 0 + k) := by
       have h := hP2.out
       rw [hPL, if_neg (by rintro (h | h | h); cases h; rw [hpl] at h; cases h; simp at h; omega)] at h
       exact h
      subst hRS
      rw [hp2] at PL3
      replace PL3 := Lib.hid PL3
      refine wp_region_steady (Held uA 0 []) (by kernel_rfl) (by kernel_rfl) ⟨belt, (by (try simp) <;> omega), (by first | exact trivial | (simp only [Cells]; go_simp))⟩ ?_
      repeat (first | (refine' wpSteady_do _ _ _; rotate_left; (focus rfl); (focus (intro w1 hS R hR; have hc := hS.cells; simp only [Cells] at hc; obtain ⟨hco, hfo⟩ := bcell hS.old; go_simp; (try go_bits); first | exact hR _ hS | (go_at_call 59; (with_reducible refine (PL3.out _).mono ?_); rintro e w2 ⟨rfl, hb2⟩; exact ⟨_, rfl, hR _ (hS.below hb2)⟩))); simp only [pu]) | (refine wpSteady_pass ?_ ?_; (focus rfl); simp only [pu]))
      refine wpSteady_nil (fun uB hSB => ?_)
      have hcB := hSB.cells; have hbB := hSB.old; have hzB := hSB.size; clear hSB; simp only [Cells] at hcB; obtain ⟨hcoB, hfoB⟩ := bcell hbB
      replace BT2 := BT2.below hbB BT2.lt
      replace hv2 := hv2.below hbB (Nat.le_refl _)
      have KK3 := Lib.hid (KK2.out.below hbB)
      have PT := Lib.hid (tput_any wd ht cs v ⟨tx, ty, tc, tb⟩ R true false b base uB BT2 hv2 hfit hlen hpl)
      clear j0 j1 j2 j3 j4
      go_upto_region 19 with (go_at_call 111; (with_reducible refine (PT.out).mono ?_); rintro e w5 ⟨rfl, TT5, KP5⟩)
      obtain ⟨BT5, hv5⟩ := TT5
      have hsl : (splC cs (ty * wd + tx).toNat [(⟨R, tc, tb, true, false⟩ : Ce)]).length = cs.length := by
       obtain ⟨z0, z1, z2, z3, z4⟩ := fitsS_true.1 hfit
       obtain ⟨e1, e2⟩ := row_end z0 hy0 hyh
       exact splC_len (by simp; omega)
      have PT6 := Lib.hid (tput_any wd ht (splC cs (ty * wd + tx).toNat [⟨R, tc, tb, true, false⟩]) v ⟨tx + 1, ty, tc, tb⟩ R false true b base w5 BT5 hv5 hfit (by rw [hsl]; exact hlen) hp2)
      go_wp2_with (go_at_call 111; (with_reducible refine (PT6.out).mono ?_); rintro e w6 ⟨rfl, TT6, KP6⟩)
      go_ret
      refine ⟨by first | rfl | (simp only [cellN, Nat.zero_add]; done) | exact congrArg (fun z : Int => Ending.returned (.int .i64 z)) (by simp only [cellN]; omega), ?_, (KK3.out.trans KP5).trans KP6⟩
      have hs2 : splC (splC cs (ty * wd + tx).toNat [⟨R, tc, tb, true, false⟩]) (ty * wd + (tx + 1)).toNat [⟨R, tc, tb, false, true⟩] = splC cs (ty * wd + tx).toNat [⟨R, tc, tb, true, false⟩, ⟨R, tc, tb, false, true⟩] := by
       obtain ⟨z0, z1, z2, z3, z4⟩ := fitsS_true.1 hfit
       obtain ⟨e1, e2⟩ := row_end z0 hy0 hyh
       rw [show (ty * wd + (tx + 1)).toNat = (ty * wd + tx).toNat + 1 by omega]
       exact splC_pair (by omega)
      have e2 : tx + 1 + 1 = tx + 2 := by omega
      (try dsimp only [cellC, cellT])
      (try dsimp only at TT6)
      rw [hs2, e2] at TT6
      exact TT6
set_option maxHeartbeats 8000000 in
set_option maxRecDepth 100000 in
theorem trune_14 (wd ht : Int) (cs : List Ce) (v : Value) (t : Tm) (c : UInt8) (r : List UInt8) (b base : Nat) (w : World) (hh : c = 14) (hB : Blk w b (tmC wd ht v t) 101) (hv : OwnsC base w v cs) (hfit : fitsS wd ht = true) (hlen : (cs.length : Int) = wd * ht) (hl : r.length < 1048576) (hD : DecT w) :
  Calls Tryz.prog 57 #[.pointer (some ⟨b, 0, none⟩), .string (strL (c :: r))] w fun e w' => e = .returned (.int .i64 (cellN (cellP wd ht cs t (c :: r)))) ∧
   TmT base b wd ht v (cellC cs (cellP wd ht cs t (c :: r))) (cellT t (cellP wd ht cs t (c :: r))) w' ∧ KeptBut (fun k => k = b ∨ v.ownBlock = some k) w w' := by
 have hc0 := strL_get c r
 have hP := cellP_eq wd ht cs t c r
 have hH : halfP c = 14 := by (rw [hh]; rfl)
 have hK : skipP c = 1 := by (rw [hh]; rfl)
 have hdr := strL_from (c :: r) 1 rfl
 rw [hH, hK] at hP
 obtain ⟨S, hS⟩ : ∃ s, strL (c :: r) = s := ⟨_, rfl⟩
 have hz : S.size = r.length + 1 := by rw [← hS]; exact strL_size _
 obtain ⟨S2, hS2⟩ : ∃ s, strL ((c :: r).drop 1) = s := ⟨_, rfl⟩
 rw [hS] at hc0 hdr ⊢
 rw [hS2] at hP hdr
 have hd1 := dec1 S2
 have hdv : Lib.decodeGo S2 = (65533, 0) ∨ validR ((Lib.decodeGo S2).1 : Int) = true := by
  unfold Lib.decodeGo
  split
  ·exact .inl rfl
  ·exact .inr (dec_valid S2 0)
 have DE := YtffmomgmkpmpkaaGreatDoor.decR S2 w hD
 obtain ⟨rn, k, hrk⟩ : ∃ rn k, Lib.decodeGo S2 = (rn, k) := ⟨_, _, rfl⟩
 rw [hrk] at DE hP hd1 hdv
 dsimp only at DE hP hd1 hdv
 have hs2 : S2.size ≤ 1048576 := by rw [← hS2, strL_size, List.length_drop]; simp only [List.length_cons]; omega
 have X1 := bAt_eq (s := S) (i := 0) (by omega)
 rw [List.length_cons] at hdr
 rw [← hdr] at DE
 obtain ⟨N, hN⟩ : ∃ N, r.length = N := ⟨_, rfl⟩
 rw [hN] at hz DE hl
 obtain ⟨RES, hRES⟩ : ∃ q, cellP wd ht cs t (c :: r) = q := ⟨_, rfl⟩
 rw [hRES] at hP ⊢
 obtain ⟨tx, ty, tc, tb⟩ := t
 dsimp only at hP
 (replace hc0 : bAt S 0 = 14 := (by rw [hc0, hh]; rfl))
 have yb := hB.lt
 have hk4 : k ≤ 1048576 := by
  rcases hd1 with h | h
  ·omega
  ·omega
 have hrn : rn ≤ 1114111 := by
  rcases hdv with h | h
  ·injection h with h1 h2; omega
  ·unfold validR at h; simp only [Bool.or_eq_true, Bool.and_eq_true, decide_eq_true_eq] at h; omega
 clear hS hRES hrk hH hK hD hdr hS2 hs2 hd1 hdv
 replace hB := Lib.hid hB
 replace hv := Lib.hid hv
 have hrn0 : 0 ≤ (rn : Int) ∧ (rn : Int) ≤ 1114111 := by omega
 have hdi : (rn = 65533 ∧ k < 3) ↔ ((rn : Int) = 65533 ∧ k < 3) := by omega
 simp only [hdi] at hP
 obtain ⟨R, hR⟩ : ∃ R : Int, (rn : Int) = R := ⟨_, rfl⟩
 rw [hR] at hP DE hrn0
 clear hdi hrn hR
 replace DE := Lib.hid DE
 have WD := Lib.hid (fun w => rwidth_any R w)
 go_enter Tryz.func57, Tryz.ntmps57
 by_cases hdead : R = 65533 ∧ k < 3
 ·have hRN : RES = none := by rwa [if_pos hdead] at hP
  subst hRN
  have u1 : (R == 65533) = true := by rw [hdead.1]; rfl
  have u2 : ((k : Nat) : Int) < 3 := by omega
  go_upto_region 7 with (go_at_call 107; (with_reducible refine (DE.out).mono ?_); rintro e w1 ⟨rfl, hb1⟩)
  go_wp2
  go_ret
  exact ⟨rfl, ⟨hB.out.below hb1 yb, hv.out.below hb1 (Nat.le_refl _)⟩, (KeptBut.refl _ _).below hb1⟩
 ·rw [if_neg hdead] at hP
  have hP2 := Lib.hid hP
  clear hP
  by_cases r1 : R = 65533
  ·have u1 : (R == 65533) = true := by rw [r1]; rfl
   have u2 : ¬ ((k : Nat) : Int) < 3 := by omega
   clear r1 hdead
   go_upto_region 9 with (go_at_call 107; (with_reducible refine (DE.out).mono ?_); rintro e w1 ⟨rfl, hb1⟩)
   go_upto_region 10 with (go_at_call 106; (with_reducible refine (WD.out _).mono ?_); rintro e w2 ⟨rfl, hb2⟩)
   have hb12 := hb1.trans (hb2.mono hb1.size)
   clear hb1 hb2 DE WD u1 u2
   -- at region 10, in the world w2; WD told the width
   have BT := Lib.hid (hB.out.below hb12 yb)
   have hv' := Lib.hid (hv.out.below hb12 (Nat.le_refl _))
   have KK := Lib.hid ((KeptBut.refl (fun k => k = b ∨ v.ownBlock = some k) w).below hb12)
   have j0 := BT.out.cell (o := 0) rfl
   have j1 := BT.out.cell (o := 1) rfl
   have j2 := BT.out.cell (o := 2) rfl
   have j3 := BT.out.cell (o := 3) rfl
   have j4 := BT.out.cell (o := 4) rfl
   have yb' := BT.out.lt
   clear hB hv
   rcases wid3 R with hwd | hwd | hwd
   ·-- none
    have hRN : RES = none := by have h := hP2.out; rwa [if_pos (.inl (by unfold putL; rw [hwd]; rfl))] at h
    subst hRN
    rw [hwd]
    refine wp_region_steady (Held w2 0 []) (by kernel_rfl) (by kernel_rfl) ⟨belt, (by (try simp) <;> omega), (by first | exact trivial | (simp only [Cells]; go_simp))⟩ ?_
    repeat (first | (refine' wpSteady_do _ _ _; rotate_left; (focus rfl); (focus (intro w1 hS R hR; have hc := hS.cells; simp only [Cells] at hc; obtain ⟨hco, hfo⟩ := bcell hS.old; go_simp; (try go_bits); first | exact hR _ hS | fail)); simp only [pu]) | (refine wpSteady_pass ?_ ?_; (focus rfl); simp only [pu]))
    refine wpSteady_nil (fun uA hSA => ?_)
    have hcA := hSA.cells; have hbA := hSA.old; have hzA := hSA.size; clear hSA; simp only [Cells] at hcA; obtain ⟨hcoA, hfoA⟩ := bcell hbA
    go_wp2
    go_ret
    exact ⟨rfl, ⟨BT.out.below hbA yb', hv'.out.below hbA (Nat.le_refl _)⟩, KK.out.below hbA⟩
   ·rw [hwd]
    have hRN : RES = none := by have h := hP2.out; rwa [if_pos (.inl (by unfold putL; rw [hwd]; rfl))] at h
    subst hRN
    refine wp_region_steady (Held w2 0 []) (by kernel_rfl) (by kernel_rfl) ⟨belt, (by (try simp) <;> omega), (by first | exact trivial | (simp only [Cells]; go_simp))⟩ ?_
    repeat (first | (refine' wpSteady_do _ _ _; rotate_left; (focus rfl); (focus (intro w1 hS R hR; have hc := hS.cells; simp only [Cells] at hc; obtain ⟨hco, hfo⟩ := bcell hS.old; go_simp; (try go_bits); first | exact hR _ hS | fail)); simp only [pu]) | (refine wpSteady_pass ?_ ?_; (focus rfl); simp only [pu]))
    refine wpSteady_nil (fun uA hSA => ?_)
    have hcA := hSA.cells; have hbA := hSA.old; have hzA := hSA.size; clear hSA; simp only [Cells] at hcA; obtain ⟨hcoA, hfoA⟩ := bcell hbA
    go_wp2
    go_ret
    exact ⟨rfl, ⟨BT.out.below hbA yb', hv'.out.below hbA (Nat.le_refl _)⟩, KK.out.below hbA⟩
   ·rw [hwd]
    cases hpl : plcS wd ht tx ty
    ·have hRN : RES = none := by have h := hP2.out; rwa [if_pos (.inr (.inl hpl))] at h
     subst hRN
     have PL2 := fun u => rplace_any wd ht tx ty v u
     rw [hpl] at PL2
     replace PL2 := Lib.hid PL2
     refine wp_region_steady (Held w2 0 []) (by kernel_rfl) (by kernel_rfl) ⟨belt, (by (try simp) <;> omega), (by first | exact trivial | (simp only [Cells]; go_simp))⟩ ?_
     repeat (first | (refine' wpSteady_do _ _ _; rotate_left; (focus rfl); (focus (intro w1 hS R hR; have hc := hS.cells; simp only [Cells] at hc; obtain ⟨hco, hfo⟩ := bcell hS.old; go_simp; (try go_bits); first | exact hR _ hS | (go_at_call 59; (with_reducible refine (PL2.out _).mono ?_); rintro e w2 ⟨rfl, hb2⟩; exact ⟨_, rfl, hR _ (hS.below hb2)⟩))); simp only [pu]) | (refine wpSteady_pass ?_ ?_; (focus rfl); simp only [pu]))
     refine wpSteady_nil (fun uA hSA => ?_)
     have hcA := hSA.cells; have hbA := hSA.old; have hzA := hSA.size; clear hSA; simp only [Cells] at hcA; obtain ⟨hcoA, hfoA⟩ := bcell hbA
     go_wp2
     go_ret
     exact ⟨rfl, ⟨BT.out.below hbA yb', hv'.out.below hbA (Nat.le_refl _)⟩, KK.out.below hbA⟩
    ·have PL2 := fun u => rplace_any wd ht tx ty v u
     rw [hpl] at PL2
     replace PL2 := Lib.hid PL2
     refine wp_region_steady (Held w2 0 []) (by kernel_rfl) (by kernel_rfl) ⟨belt, (by (try simp) <;> omega), (by first | exact trivial | (simp only [Cells]; go_simp))⟩ ?_
     repeat (first | (refine' wpSteady_do _ _ _; rotate_left; (focus rfl); (focus (intro w1 hS R hR; have hc := hS.cells; simp only [Cells] at hc; obtain ⟨hco, hfo⟩ := bcell hS.old; go_simp; (try go_bits); first | exact hR _ hS | (go_at_call 59; (with_reducible refine (PL2.out _).mono ?_); rintro e w2 ⟨rfl, hb2⟩; exact ⟨_, rfl, hR _ (hS.below hb2)⟩))); simp only [pu]) | (refine wpSteady_pass ?_ ?_; (focus rfl); simp only [pu]))
     refine wpSteady_nil (fun uA hSA => ?_)
     have hcA := hSA.cells; have hbA := hSA.old; have hzA := hSA.size; clear hSA; simp only [Cells] at hcA; obtain ⟨hcoA, hfoA⟩ := bcell hbA
     go_upto_region 12 with fail
     clear j0 j1 j2 j3 j4
     have BT2 := BT.out.below hbA yb'
     have hv2 := hv'.out.below hbA (Nat.le_refl _)
     have KK2 := Lib.hid (KK.out.below hbA)
     clear hcA hcoA hfoA
     have j0 := BT2.cell (o := 0) rfl
     have j1 := BT2.cell (o := 1) rfl
     have j2 := BT2.cell (o := 2) rfl
     have j3 := BT2.cell (o := 3) rfl
     have j4 := BT2.cell (o := 4) rfl
     have yb' := BT2.lt
     obtain ⟨hx0, hy0, hroom, hyh⟩ := plcS_true.1 hpl
     have hw16 : wd ≤ 16384 := (fitsS_true.1 hfit).2.2.1
     have hPL : putL 14 R tc tb = [⟨R, tc, tb, true, false⟩] := by unfold putL; rw [if_neg (by omega), if_pos hwd]; rfl
     have hRS : RES = some (splC cs (ty * wd + tx).toNat [⟨R, tc, tb, true, false⟩], ⟨tx + 1, ty, tc, tb⟩, 1 + k) := by
      have h := hP2.out
      rw [hPL, if_neg (by rintro (h | h | h); cases h; rw [hpl] at h; cases h; simp at h; omega)] at h
      exact h
     subst hRS
     refine wp_region_steady (Held uA 0 []) (by kernel_rfl) (by kernel_rfl) ⟨belt, (by (try simp) <;> omega), (by first | exact trivial | (simp only [Cells]; go_simp))⟩ ?_
     repeat (first | (refine' wpSteady_do _ _ _; rotate_left; (focus rfl); (focus (intro w1 hS R hR; have hc := hS.cells; simp only [Cells] at hc; obtain ⟨hco, hfo⟩ := bcell hS.old; go_simp; (try go_bits); first | exact hR _ hS | fail)); simp only [pu]) | (refine wpSteady_pass ?_ ?_; (focus rfl); simp only [pu]))
     refine wpSteady_nil (fun uB hSB => ?_)
     have hcB := hSB.cells; have hbB := hSB.old; have hzB := hSB.size; clear hSB; simp only [Cells] at hcB; obtain ⟨hcoB, hfoB⟩ := bcell hbB
     replace BT2 := BT2.below hbB BT2.lt
     replace hv2 := hv2.below hbB (Nat.le_refl _)
     have KK3 := Lib.hid (KK2.out.below hbB)
     have PT := Lib.hid (tput_any wd ht cs v ⟨tx, ty, tc, tb⟩ R true false b base uB BT2 hv2 hfit hlen hpl)
     clear j0 j1 j2 j3 j4
     go_wp2_with (go_at_call 111; (with_reducible refine (PT.out).mono ?_); rintro e w5 ⟨rfl, TT5, KP5⟩)
     go_ret
     exact ⟨by first | rfl | (simp only [cellN]; omega) | exact congrArg (fun z : Int => Ending.returned (.int .i64 z)) (by simp only [cellN]; omega), TT5, KK3.out.trans KP5⟩
  ·have u1 : (R == 65533) = false := by simp; omega
   clear r1 hdead
   go_upto_region 9 with (go_at_call 107; (with_reducible refine (DE.out).mono ?_); rintro e w1 ⟨rfl, hb1⟩)
   go_upto_region 10 with (go_at_call 106; (with_reducible refine (WD.out _).mono ?_); rintro e w2 ⟨rfl, hb2⟩)
   have hb12 := hb1.trans (hb2.mono hb1.size)
   clear hb1 hb2 DE WD u1
   -- at region 10, in the world w2; WD told the width
   have BT := Lib.hid (hB.out.below hb12 yb)
   have hv' := Lib.hid (hv.out.below hb12 (Nat.le_refl _))
   have KK := Lib.hid ((KeptBut.refl (fun k => k = b ∨ v.ownBlock = some k) w).below hb12)
   have j0 := BT.out.cell (o := 0) rfl
   have j1 := BT.out.cell (o := 1) rfl
   have j2 := BT.out.cell (o := 2) rfl
   have j3 := BT.out.cell (o := 3) rfl
   have j4 := BT.out.cell (o := 4) rfl
   have yb' := BT.out.lt
   clear hB hv
   rcases wid3 R with hwd | hwd | hwd
   ·-- none
    have hRN : RES = none := by have h := hP2.out; rwa [if_pos (.inl (by unfold putL; rw [hwd]; rfl))] at h
    subst hRN
    rw [hwd]
    refine wp_region_steady (Held w2 0 []) (by kernel_rfl) (by kernel_rfl) ⟨belt, (by (try simp) <;> omega), (by first | exact trivial | (simp only [Cells]; go_simp))⟩ ?_
    repeat (first | (refine' wpSteady_do _ _ _; rotate_left; (focus rfl); (focus (intro w1 hS R hR; have hc := hS.cells; simp only [Cells] at hc; obtain ⟨hco, hfo⟩ := bcell hS.old; go_simp; (try go_bits); first | exact hR _ hS | fail)); simp only [pu]) | (refine wpSteady_pass ?_ ?_; (focus rfl); simp only [pu]))
    refine wpSteady_nil (fun uA hSA => ?_)
    have hcA := hSA.cells; have hbA := hSA.old; have hzA := hSA.size; clear hSA; simp only [Cells] at hcA; obtain ⟨hcoA, hfoA⟩ := bcell hbA
    go_wp2
    go_ret
    exact ⟨rfl, ⟨BT.out.below hbA yb', hv'.out.below hbA (Nat.le_refl _)⟩, KK.out.below hbA⟩
   ·rw [hwd]
    have hRN : RES = none := by have h := hP2.out; rwa [if_pos (.inl (by unfold putL; rw [hwd]; rfl))] at h
    subst hRN
    refine wp_region_steady (Held w2 0 []) (by kernel_rfl) (by kernel_rfl) ⟨belt, (by (try simp) <;> omega), (by first | exact trivial | (simp only [Cells]; go_simp))⟩ ?_
    repeat (first | (refine' wpSteady_do _ _ _; rotate_left; (focus rfl); (focus (intro w1 hS R hR; have hc := hS.cells; simp only [Cells] at hc; obtain ⟨hco, hfo⟩ := bcell hS.old; go_simp; (try go_bits); first | exact hR _ hS | fail)); simp only [pu]) | (refine wpSteady_pass ?_ ?_; (focus rfl); simp only [pu]))
    refine wpSteady_nil (fun uA hSA => ?_)
    have hcA := hSA.cells; have hbA := hSA.old; have hzA := hSA.size; clear hSA; simp only [Cells] at hcA; obtain ⟨hcoA, hfoA⟩ := bcell hbA
    go_wp2
    go_ret
    exact ⟨rfl, ⟨BT.out.below hbA yb', hv'.out.below hbA (Nat.le_refl _)⟩, KK.out.below hbA⟩
   ·rw [hwd]
    cases hpl : plcS wd ht tx ty
    ·have hRN : RES = none := by have h := hP2.out; rwa [if_pos (.inr (.inl hpl))] at h
     subst hRN
     have PL2 := fun u => rplace_any wd ht tx ty v u
     rw [hpl] at PL2
     replace PL2 := Lib.hid PL2
     refine wp_region_steady (Held w2 0 []) (by kernel_rfl) (by kernel_rfl) ⟨belt, (by (try simp) <;> omega), (by first | exact trivial | (simp only [Cells]; go_simp))⟩ ?_
     repeat (first | (refine' wpSteady_do _ _ _; rotate_left; (focus rfl); (focus (intro w1 hS R hR; have hc := hS.cells; simp only [Cells] at hc; obtain ⟨hco, hfo⟩ := bcell hS.old; go_simp; (try go_bits); first | exact hR _ hS | (go_at_call 59; (with_reducible refine (PL2.out _).mono ?_); rintro e w2 ⟨rfl, hb2⟩; exact ⟨_, rfl, hR _ (hS.below hb2)⟩))); simp only [pu]) | (refine wpSteady_pass ?_ ?_; (focus rfl); simp only [pu]))
     refine wpSteady_nil (fun uA hSA => ?_)
     have hcA := hSA.cells; have hbA := hSA.old; have hzA := hSA.size; clear hSA; simp only [Cells] at hcA; obtain ⟨hcoA, hfoA⟩ := bcell hbA
     go_wp2
     go_ret
     exact ⟨rfl, ⟨BT.out.below hbA yb', hv'.out.below hbA (Nat.le_refl _)⟩, KK.out.below hbA⟩
    ·have PL2 := fun u => rplace_any wd ht tx ty v u
     rw [hpl] at PL2
     replace PL2 := Lib.hid PL2
     refine wp_region_steady (Held w2 0 []) (by kernel_rfl) (by kernel_rfl) ⟨belt, (by (try simp) <;> omega), (by first | exact trivial | (simp only [Cells]; go_simp))⟩ ?_
     repeat (first | (refine' wpSteady_do _ _ _; rotate_left; (focus rfl); (focus (intro w1 hS R hR; have hc := hS.cells; simp only [Cells] at hc; obtain ⟨hco, hfo⟩ := bcell hS.old; go_simp; (try go_bits); first | exact hR _ hS | (go_at_call 59; (with_reducible refine (PL2.out _).mono ?_); rintro e w2 ⟨rfl, hb2⟩; exact ⟨_, rfl, hR _ (hS.below hb2)⟩))); simp only [pu]) | (refine wpSteady_pass ?_ ?_; (focus rfl); simp only [pu]))
     refine wpSteady_nil (fun uA hSA => ?_)
     have hcA := hSA.cells; have hbA := hSA.old; have hzA := hSA.size; clear hSA; simp only [Cells] at hcA; obtain ⟨hcoA, hfoA⟩ := bcell hbA
     go_upto_region 12 with fail
     clear j0 j1 j2 j3 j4
     have BT2 := BT.out.below hbA yb'
     have hv2 := hv'.out.below hbA (Nat.le_refl _)
     have KK2 := Lib.hid (KK.out.below hbA)
     clear hcA hcoA hfoA
     have j0 := BT2.cell (o := 0) rfl
     have j1 := BT2.cell (o := 1) rfl
     have j2 := BT2.cell (o := 2) rfl
     have j3 := BT2.cell (o := 3) rfl
     have j4 := BT2.cell (o := 4) rfl
     have yb' := BT2.lt
     obtain ⟨hx0, hy0, hroom, hyh⟩ := plcS_true.1 hpl
     have hw16 : wd ≤ 16384 := (fitsS_true.1 hfit).2.2.1
     have hPL : putL 14 R tc tb = [⟨R, tc, tb, true, false⟩] := by unfold putL; rw [if_neg (by omega), if_pos hwd]; rfl
     have hRS : RES = some (splC cs (ty * wd + tx).toNat [⟨R, tc, tb, true, false⟩], ⟨tx + 1, ty, tc, tb⟩, 1 + k) := by
      have h := hP2.out
      rw [hPL, if_neg (by rintro (h | h | h); cases h; rw [hpl] at h; cases h; simp at h; omega)] at h
      exact h
     subst hRS
     refine wp_region_steady (Held uA 0 []) (by kernel_rfl) (by kernel_rfl) ⟨belt, (by (try simp) <;> omega), (by first | exact trivial | (simp only [Cells]; go_simp))⟩ ?_
     repeat (first | (refine' wpSteady_do _ _ _; rotate_left; (focus rfl); (focus (intro w1 hS R hR; have hc := hS.cells; simp only [Cells] at hc; obtain ⟨hco, hfo⟩ := bcell hS.old; go_simp; (try go_bits); first | exact hR _ hS | fail)); simp only [pu]) | (refine wpSteady_pass ?_ ?_; (focus rfl); simp only [pu]))
     refine wpSteady_nil (fun uB hSB => ?_)
     have hcB := hSB.cells; have hbB := hSB.old; have hzB := hSB.size; clear hSB; simp only [Cells] at hcB; obtain ⟨hcoB, hfoB⟩ := bcell hbB
     replace BT2 := BT2.below hbB BT2.lt
     replace hv2 := hv2.below hbB (Nat.le_refl _)
     have KK3 := Lib.hid (KK2.out.below hbB)
     have PT := Lib.hid (tput_any wd ht cs v ⟨tx, ty, tc, tb⟩ R true false b base uB BT2 hv2 hfit hlen hpl)
     clear j0 j1 j2 j3 j4
     go_wp2_with (go_at_call 111; (with_reducible refine (PT.out).mono ?_); rintro e w5 ⟨rfl, TT5, KP5⟩)
     go_ret
     exact ⟨by first | rfl | (simp only [cellN]; omega) | exact congrArg (fun z : Int => Ending.returned (.int .i64 z)) (by simp only [cellN]; omega), TT5, KK3.out.trans KP5⟩
set_option maxHeartbeats 8000000 in
set_option maxRecDepth 100000 in
theorem trune_15 (wd ht : Int) (cs : List Ce) (v : Value) (t : Tm) (c : UInt8) (r : List UInt8) (b base : Nat) (w : World) (hh : c = 15) (hB : Blk w b (tmC wd ht v t) 101) (hv : OwnsC base w v cs) (hfit : fitsS wd ht = true) (hlen : (cs.length : Int) = wd * ht) (hl : r.length < 1048576) (hD : DecT w) :
  Calls Tryz.prog 57 #[.pointer (some ⟨b, 0, none⟩), .string (strL (c :: r))] w fun e w' => e = .returned (.int .i64 (cellN (cellP wd ht cs t (c :: r)))) ∧
   TmT base b wd ht v (cellC cs (cellP wd ht cs t (c :: r))) (cellT t (cellP wd ht cs t (c :: r))) w' ∧ KeptBut (fun k => k = b ∨ v.ownBlock = some k) w w' := by
 have hc0 := strL_get c r
 have hP := cellP_eq wd ht cs t c r
 have hH : halfP c = 15 := by (rw [hh]; rfl)
 have hK : skipP c = 1 := by (rw [hh]; rfl)
 have hdr := strL_from (c :: r) 1 rfl
 rw [hH, hK] at hP
 obtain ⟨S, hS⟩ : ∃ s, strL (c :: r) = s := ⟨_, rfl⟩
 have hz : S.size = r.length + 1 := by rw [← hS]; exact strL_size _
 obtain ⟨S2, hS2⟩ : ∃ s, strL ((c :: r).drop 1) = s := ⟨_, rfl⟩
 rw [hS] at hc0 hdr ⊢
 rw [hS2] at hP hdr
 have hd1 := dec1 S2
 have hdv : Lib.decodeGo S2 = (65533, 0) ∨ validR ((Lib.decodeGo S2).1 : Int) = true := by
  unfold Lib.decodeGo
  split
  ·exact .inl rfl
  ·exact .inr (dec_valid S2 0)
 have DE := YtffmomgmkpmpkaaGreatDoor.decR S2 w hD
 obtain ⟨rn, k, hrk⟩ : ∃ rn k, Lib.decodeGo S2 = (rn, k) := ⟨_, _, rfl⟩
 rw [hrk] at DE hP hd1 hdv
 dsimp only at DE hP hd1 hdv
 have hs2 : S2.size ≤ 1048576 := by rw [← hS2, strL_size, List.length_drop]; simp only [List.length_cons]; omega
 have X1 := bAt_eq (s := S) (i := 0) (by omega)
 rw [List.length_cons] at hdr
 rw [← hdr] at DE
 obtain ⟨N, hN⟩ : ∃ N, r.length = N := ⟨_, rfl⟩
 rw [hN] at hz DE hl
 obtain ⟨RES, hRES⟩ : ∃ q, cellP wd ht cs t (c :: r) = q := ⟨_, rfl⟩
 rw [hRES] at hP ⊢
 obtain ⟨tx, ty, tc, tb⟩ := t
 dsimp only at hP
 (replace hc0 : bAt S 0 = 15 := (by rw [hc0, hh]; rfl))
 have yb := hB.lt
 have hk4 : k ≤ 1048576 := by
  rcases hd1 with h | h
  ·omega
  ·omega
 have hrn : rn ≤ 1114111 := by
  rcases hdv with h | h
  ·injection h with h1 h2; omega
  ·unfold validR at h; simp only [Bool.or_eq_true, Bool.and_eq_true, decide_eq_true_eq] at h; omega
 clear hS hRES hrk hH hK hD hdr hS2 hs2 hd1 hdv
 replace hB := Lib.hid hB
 replace hv := Lib.hid hv
 have hrn0 : 0 ≤ (rn : Int) ∧ (rn : Int) ≤ 1114111 := by omega
 have hdi : (rn = 65533 ∧ k < 3) ↔ ((rn : Int) = 65533 ∧ k < 3) := by omega
 simp only [hdi] at hP
 obtain ⟨R, hR⟩ : ∃ R : Int, (rn : Int) = R := ⟨_, rfl⟩
 rw [hR] at hP DE hrn0
 clear hdi hrn hR
 replace DE := Lib.hid DE
 have WD := Lib.hid (fun w => rwidth_any R w)
 go_enter Tryz.func57, Tryz.ntmps57
 by_cases hdead : R = 65533 ∧ k < 3
 ·have hRN : RES = none := by rwa [if_pos hdead] at hP
  subst hRN
  have u1 : (R == 65533) = true := by rw [hdead.1]; rfl
  have u2 : ((k : Nat) : Int) < 3 := by omega
  go_upto_region 7 with (go_at_call 107; (with_reducible refine (DE.out).mono ?_); rintro e w1 ⟨rfl, hb1⟩)
  go_wp2
  go_ret
  exact ⟨rfl, ⟨hB.out.below hb1 yb, hv.out.below hb1 (Nat.le_refl _)⟩, (KeptBut.refl _ _).below hb1⟩
 ·rw [if_neg hdead] at hP
  have hP2 := Lib.hid hP
  clear hP
  by_cases r1 : R = 65533
  ·have u1 : (R == 65533) = true := by rw [r1]; rfl
   have u2 : ¬ ((k : Nat) : Int) < 3 := by omega
   clear r1 hdead
   go_upto_region 9 with (go_at_call 107; (with_reducible refine (DE.out).mono ?_); rintro e w1 ⟨rfl, hb1⟩)
   go_upto_region 10 with (go_at_call 106; (with_reducible refine (WD.out _).mono ?_); rintro e w2 ⟨rfl, hb2⟩)
   have hb12 := hb1.trans (hb2.mono hb1.size)
   clear hb1 hb2 DE WD u1 u2
   -- at region 10, in the world w2; WD told the width
   have BT := Lib.hid (hB.out.below hb12 yb)
   have hv' := Lib.hid (hv.out.below hb12 (Nat.le_refl _))
   have KK := Lib.hid ((KeptBut.refl (fun k => k = b ∨ v.ownBlock = some k) w).below hb12)
   have j0 := BT.out.cell (o := 0) rfl
   have j1 := BT.out.cell (o := 1) rfl
   have j2 := BT.out.cell (o := 2) rfl
   have j3 := BT.out.cell (o := 3) rfl
   have j4 := BT.out.cell (o := 4) rfl
   have yb' := BT.out.lt
   clear hB hv
   rcases wid3 R with hwd | hwd | hwd
   ·-- none
    have hRN : RES = none := by have h := hP2.out; rwa [if_pos (.inl (by unfold putL; rw [hwd]; rfl))] at h
    subst hRN
    rw [hwd]
    refine wp_region_steady (Held w2 0 []) (by kernel_rfl) (by kernel_rfl) ⟨belt, (by (try simp) <;> omega), (by first | exact trivial | (simp only [Cells]; go_simp))⟩ ?_
    repeat (first | (refine' wpSteady_do _ _ _; rotate_left; (focus rfl); (focus (intro w1 hS R hR; have hc := hS.cells; simp only [Cells] at hc; obtain ⟨hco, hfo⟩ := bcell hS.old; go_simp; (try go_bits); first | exact hR _ hS | fail)); simp only [pu]) | (refine wpSteady_pass ?_ ?_; (focus rfl); simp only [pu]))
    refine wpSteady_nil (fun uA hSA => ?_)
    have hcA := hSA.cells; have hbA := hSA.old; have hzA := hSA.size; clear hSA; simp only [Cells] at hcA; obtain ⟨hcoA, hfoA⟩ := bcell hbA
    go_wp2
    go_ret
    exact ⟨rfl, ⟨BT.out.below hbA yb', hv'.out.below hbA (Nat.le_refl _)⟩, KK.out.below hbA⟩
   ·rw [hwd]
    have hRN : RES = none := by have h := hP2.out; rwa [if_pos (.inl (by unfold putL; rw [hwd]; rfl))] at h
    subst hRN
    refine wp_region_steady (Held w2 0 []) (by kernel_rfl) (by kernel_rfl) ⟨belt, (by (try simp) <;> omega), (by first | exact trivial | (simp only [Cells]; go_simp))⟩ ?_
    repeat (first | (refine' wpSteady_do _ _ _; rotate_left; (focus rfl); (focus (intro w1 hS R hR; have hc := hS.cells; simp only [Cells] at hc; obtain ⟨hco, hfo⟩ := bcell hS.old; go_simp; (try go_bits); first | exact hR _ hS | fail)); simp only [pu]) | (refine wpSteady_pass ?_ ?_; (focus rfl); simp only [pu]))
    refine wpSteady_nil (fun uA hSA => ?_)
    have hcA := hSA.cells; have hbA := hSA.old; have hzA := hSA.size; clear hSA; simp only [Cells] at hcA; obtain ⟨hcoA, hfoA⟩ := bcell hbA
    go_wp2
    go_ret
    exact ⟨rfl, ⟨BT.out.below hbA yb', hv'.out.below hbA (Nat.le_refl _)⟩, KK.out.below hbA⟩
   ·rw [hwd]
    cases hpl : plcS wd ht tx ty
    ·have hRN : RES = none := by have h := hP2.out; rwa [if_pos (.inr (.inl hpl))] at h
     subst hRN
     have PL2 := fun u => rplace_any wd ht tx ty v u
     rw [hpl] at PL2
     replace PL2 := Lib.hid PL2
     refine wp_region_steady (Held w2 0 []) (by kernel_rfl) (by kernel_rfl) ⟨belt, (by (try simp) <;> omega), (by first | exact trivial | (simp only [Cells]; go_simp))⟩ ?_
     repeat (first | (refine' wpSteady_do _ _ _; rotate_left; (focus rfl); (focus (intro w1 hS R hR; have hc := hS.cells; simp only [Cells] at hc; obtain ⟨hco, hfo⟩ := bcell hS.old; go_simp; (try go_bits); first | exact hR _ hS | (go_at_call 59; (with_reducible refine (PL2.out _).mono ?_); rintro e w2 ⟨rfl, hb2⟩; exact ⟨_, rfl, hR _ (hS.below hb2)⟩))); simp only [pu]) | (refine wpSteady_pass ?_ ?_; (focus rfl); simp only [pu]))
     refine wpSteady_nil (fun uA hSA => ?_)
     have hcA := hSA.cells; have hbA := hSA.old; have hzA := hSA.size; clear hSA; simp only [Cells] at hcA; obtain ⟨hcoA, hfoA⟩ := bcell hbA
     go_wp2
     go_ret
     exact ⟨rfl, ⟨BT.out.below hbA yb', hv'.out.below hbA (Nat.le_refl _)⟩, KK.out.below hbA⟩
    ·have PL2 := fun u => rplace_any wd ht tx ty v u
     rw [hpl] at PL2
     replace PL2 := Lib.hid PL2
     refine wp_region_steady (Held w2 0 []) (by kernel_rfl) (by kernel_rfl) ⟨belt, (by (try simp) <;> omega), (by first | exact trivial | (simp only [Cells]; go_simp))⟩ ?_
     repeat (first | (refine' wpSteady_do _ _ _; rotate_left; (focus rfl); (focus (intro w1 hS R hR; have hc := hS.cells; simp only [Cells] at hc; obtain ⟨hco, hfo⟩ := bcell hS.old; go_simp; (try go_bits); first | exact hR _ hS | (go_at_call 59; (with_reducible refine (PL2.out _).mono ?_); rintro e w2 ⟨rfl, hb2⟩; exact ⟨_, rfl, hR _ (hS.below hb2)⟩))); simp only [pu]) | (refine wpSteady_pass ?_ ?_; (focus rfl); simp only [pu]))
     refine wpSteady_nil (fun uA hSA => ?_)
     have hcA := hSA.cells; have hbA := hSA.old; have hzA := hSA.size; clear hSA; simp only [Cells] at hcA; obtain ⟨hcoA, hfoA⟩ := bcell hbA
     go_upto_region 12 with fail
     clear j0 j1 j2 j3 j4
     have BT2 := BT.out.below hbA yb'
     have hv2 := hv'.out.below hbA (Nat.le_refl _)
     have KK2 := Lib.hid (KK.out.below hbA)
     clear hcA hcoA hfoA
     have j0 := BT2.cell (o := 0) rfl
     have j1 := BT2.cell (o := 1) rfl
     have j2 := BT2.cell (o := 2) rfl
     have j3 := BT2.cell (o := 3) rfl
     have j4 := BT2.cell (o := 4) rfl
     have yb' := BT2.lt
     obtain ⟨hx0, hy0, hroom, hyh⟩ := plcS_true.1 hpl
     have hw16 : wd ≤ 16384 := (fitsS_true.1 hfit).2.2.1
     have hPL : putL 15 R tc tb = [⟨R, tc, tb, false, true⟩] := by unfold putL; rw [if_neg (by omega), if_pos hwd]; rfl
     have hRS : RES = some (splC cs (ty * wd + tx).toNat [⟨R, tc, tb, false, true⟩], ⟨tx + 1, ty, tc, tb⟩, 1 + k) := by
      have h := hP2.out
      rw [hPL, if_neg (by rintro (h | h | h); cases h; rw [hpl] at h; cases h; simp at h; omega)] at h
      exact h
     subst hRS
     refine wp_region_steady (Held uA 0 []) (by kernel_rfl) (by kernel_rfl) ⟨belt, (by (try simp) <;> omega), (by first | exact trivial | (simp only [Cells]; go_simp))⟩ ?_
     repeat (first | (refine' wpSteady_do _ _ _; rotate_left; (focus rfl); (focus (intro w1 hS R hR; have hc := hS.cells; simp only [Cells] at hc; obtain ⟨hco, hfo⟩ := bcell hS.old; go_simp; (try go_bits); first | exact hR _ hS | fail)); simp only [pu]) | (refine wpSteady_pass ?_ ?_; (focus rfl); simp only [pu]))
     refine wpSteady_nil (fun uB hSB => ?_)
     have hcB := hSB.cells; have hbB := hSB.old; have hzB := hSB.size; clear hSB; simp only [Cells] at hcB; obtain ⟨hcoB, hfoB⟩ := bcell hbB
     replace BT2 := BT2.below hbB BT2.lt
     replace hv2 := hv2.below hbB (Nat.le_refl _)
     have KK3 := Lib.hid (KK2.out.below hbB)
     have PT := Lib.hid (tput_any wd ht cs v ⟨tx, ty, tc, tb⟩ R false true b base uB BT2 hv2 hfit hlen hpl)
     clear j0 j1 j2 j3 j4
     go_wp2_with (go_at_call 111; (with_reducible refine (PT.out).mono ?_); rintro e w5 ⟨rfl, TT5, KP5⟩)
     go_ret
     exact ⟨by first | rfl | (simp only [cellN]; omega) | exact congrArg (fun z : Int => Ending.returned (.int .i64 z)) (by simp only [cellN]; omega), TT5, KK3.out.trans KP5⟩
  ·have u1 : (R == 65533) = false := by simp; omega
   clear r1 hdead
   go_upto_region 9 with (go_at_call 107; (with_reducible refine (DE.out).mono ?_); rintro e w1 ⟨rfl, hb1⟩)
   go_upto_region 10 with (go_at_call 106; (with_reducible refine (WD.out _).mono ?_); rintro e w2 ⟨rfl, hb2⟩)
   have hb12 := hb1.trans (hb2.mono hb1.size)
   clear hb1 hb2 DE WD u1
   -- at region 10, in the world w2; WD told the width
   have BT := Lib.hid (hB.out.below hb12 yb)
   have hv' := Lib.hid (hv.out.below hb12 (Nat.le_refl _))
   have KK := Lib.hid ((KeptBut.refl (fun k => k = b ∨ v.ownBlock = some k) w).below hb12)
   have j0 := BT.out.cell (o := 0) rfl
   have j1 := BT.out.cell (o := 1) rfl
   have j2 := BT.out.cell (o := 2) rfl
   have j3 := BT.out.cell (o := 3) rfl
   have j4 := BT.out.cell (o := 4) rfl
   have yb' := BT.out.lt
   clear hB hv
   rcases wid3 R with hwd | hwd | hwd
   ·-- none
    have hRN : RES = none := by have h := hP2.out; rwa [if_pos (.inl (by unfold putL; rw [hwd]; rfl))] at h
    subst hRN
    rw [hwd]
    refine wp_region_steady (Held w2 0 []) (by kernel_rfl) (by kernel_rfl) ⟨belt, (by (try simp) <;> omega), (by first | exact trivial | (simp only [Cells]; go_simp))⟩ ?_
    repeat (first | (refine' wpSteady_do _ _ _; rotate_left; (focus rfl); (focus (intro w1 hS R hR; have hc := hS.cells; simp only [Cells] at hc; obtain ⟨hco, hfo⟩ := bcell hS.old; go_simp; (try go_bits); first | exact hR _ hS | fail)); simp only [pu]) | (refine wpSteady_pass ?_ ?_; (focus rfl); simp only [pu]))
    refine wpSteady_nil (fun uA hSA => ?_)
    have hcA := hSA.cells; have hbA := hSA.old; have hzA := hSA.size; clear hSA; simp only [Cells] at hcA; obtain ⟨hcoA, hfoA⟩ := bcell hbA
    go_wp2
    go_ret
    exact ⟨rfl, ⟨BT.out.below hbA yb', hv'.out.below hbA (Nat.le_refl _)⟩, KK.out.below hbA⟩
   ·rw [hwd]
    have hRN : RES = none := by have h := hP2.out; rwa [if_pos (.inl (by unfold putL; rw [hwd]; rfl))] at h
    subst hRN
    refine wp_region_steady (Held w2 0 []) (by kernel_rfl) (by kernel_rfl) ⟨belt, (by (try simp) <;> omega), (by first | exact trivial | (simp only [Cells]; go_simp))⟩ ?_
    repeat (first | (refine' wpSteady_do _ _ _; rotate_left; (focus rfl); (focus (intro w1 hS R hR; have hc := hS.cells; simp only [Cells] at hc; obtain ⟨hco, hfo⟩ := bcell hS.old; go_simp; (try go_bits); first | exact hR _ hS | fail)); simp only [pu]) | (refine wpSteady_pass ?_ ?_; (focus rfl); simp only [pu]))
    refine wpSteady_nil (fun uA hSA => ?_)
    have hcA := hSA.cells; have hbA := hSA.old; have hzA := hSA.size; clear hSA; simp only [Cells] at hcA; obtain ⟨hcoA, hfoA⟩ := bcell hbA
    go_wp2
    go_ret
    exact ⟨rfl, ⟨BT.out.below hbA yb', hv'.out.below hbA (Nat.le_refl _)⟩, KK.out.below hbA⟩
   ·rw [hwd]
    cases hpl : plcS wd ht tx ty
    ·have hRN : RES = none := by have h := hP2.out; rwa [if_pos (.inr (.inl hpl))] at h
     subst hRN
     have PL2 := fun u => rplace_any wd ht tx ty v u
     rw [hpl] at PL2
     replace PL2 := Lib.hid PL2
     refine wp_region_steady (Held w2 0 []) (by kernel_rfl) (by kernel_rfl) ⟨belt, (by (try simp) <;> omega), (by first | exact trivial | (simp only [Cells]; go_simp))⟩ ?_
     repeat (first | (refine' wpSteady_do _ _ _; rotate_left; (focus rfl); (focus (intro w1 hS R hR; have hc := hS.cells; simp only [Cells] at hc; obtain ⟨hco, hfo⟩ := bcell hS.old; go_simp; (try go_bits); first | exact hR _ hS | (go_at_call 59; (with_reducible refine (PL2.out _).mono ?_); rintro e w2 ⟨rfl, hb2⟩; exact ⟨_, rfl, hR _ (hS.below hb2)⟩))); simp only [pu]) | (refine wpSteady_pass ?_ ?_; (focus rfl); simp only [pu]))
     refine wpSteady_nil (fun uA hSA => ?_)
     have hcA := hSA.cells; have hbA := hSA.old; have hzA := hSA.size; clear hSA; simp only [Cells] at hcA; obtain ⟨hcoA, hfoA⟩ := bcell hbA
     go_wp2
     go_ret
     exact ⟨rfl, ⟨BT.out.below hbA yb', hv'.out.below hbA (Nat.le_refl _)⟩, KK.out.below hbA⟩
    ·have PL2 := fun u => rplace_any wd ht tx ty v u
     rw [hpl] at PL2
     replace PL2 := Lib.hid PL2
     refine wp_region_steady (Held w2 0 []) (by kernel_rfl) (by kernel_rfl) ⟨belt, (by (try simp) <;> omega), (by first | exact trivial | (simp only [Cells]; go_simp))⟩ ?_
     repeat (first | (refine' wpSteady_do _ _ _; rotate_left; (focus rfl); (focus (intro w1 hS R hR; have hc := hS.cells; simp only [Cells] at hc; obtain ⟨hco, hfo⟩ := bcell hS.old; go_simp; (try go_bits); first | exact hR _ hS | (go_at_call 59; (with_reducible refine (PL2.out _).mono ?_); rintro e w2 ⟨rfl, hb2⟩; exact ⟨_, rfl, hR _ (hS.below hb2)⟩))); simp only [pu]) | (refine wpSteady_pass ?_ ?_; (focus rfl); simp only [pu]))
     refine wpSteady_nil (fun uA hSA => ?_)
     have hcA := hSA.cells; have hbA := hSA.old; have hzA := hSA.size; clear hSA; simp only [Cells] at hcA; obtain ⟨hcoA, hfoA⟩ := bcell hbA
     go_upto_region 12 with fail
     clear j0 j1 j2 j3 j4
     have BT2 := BT.out.below hbA yb'
     have hv2 := hv'.out.below hbA (Nat.le_refl _)
     have KK2 := Lib.hid (KK.out.below hbA)
     clear hcA hcoA hfoA
     have j0 := BT2.cell (o := 0) rfl
     have j1 := BT2.cell (o := 1) rfl
     have j2 := BT2.cell (o := 2) rfl
     have j3 := BT2.cell (o := 3) rfl
     have j4 := BT2.cell (o := 4) rfl
     have yb' := BT2.lt
     obtain ⟨hx0, hy0, hroom, hyh⟩ := plcS_true.1 hpl
     have hw16 : wd ≤ 16384 := (fitsS_true.1 hfit).2.2.1
     have hPL : putL 15 R tc tb = [⟨R, tc, tb, false, true⟩] := by unfold putL; rw [if_neg (by omega), if_pos hwd]; rfl
     have hRS : RES = some (splC cs (ty * wd + tx).toNat [⟨R, tc, tb, false, true⟩], ⟨tx + 1, ty, tc, tb⟩, 1 + k) := by
      have h := hP2.out
      rw [hPL, if_neg (by rintro (h | h | h); cases h; rw [hpl] at h; cases h; simp at h; omega)] at h
      exact h
     subst hRS
     refine wp_region_steady (Held uA 0 []) (by kernel_rfl) (by kernel_rfl) ⟨belt, (by (try simp) <;> omega), (by first | exact trivial | (simp only [Cells]; go_simp))⟩ ?_
     repeat (first | (refine' wpSteady_do _ _ _; rotate_left; (focus rfl); (focus (intro w1 hS R hR; have hc := hS.cells; simp only [Cells] at hc; obtain ⟨hco, hfo⟩ := bcell hS.old; go_simp; (try go_bits); first | exact hR _ hS | fail)); simp only [pu]) | (refine wpSteady_pass ?_ ?_; (focus rfl); simp only [pu]))
     refine wpSteady_nil (fun uB hSB => ?_)
     have hcB := hSB.cells; have hbB := hSB.old; have hzB := hSB.size; clear hSB; simp only [Cells] at hcB; obtain ⟨hcoB, hfoB⟩ := bcell hbB
     replace BT2 := BT2.below hbB BT2.lt
     replace hv2 := hv2.below hbB (Nat.le_refl _)
     have KK3 := Lib.hid (KK2.out.below hbB)
     have PT := Lib.hid (tput_any wd ht cs v ⟨tx, ty, tc, tb⟩ R false true b base uB BT2 hv2 hfit hlen hpl)
     clear j0 j1 j2 j3 j4
     go_wp2_with (go_at_call 111; (with_reducible refine (PT.out).mono ?_); rintro e w5 ⟨rfl, TT5, KP5⟩)
     go_ret
     exact ⟨by first | rfl | (simp only [cellN]; omega) | exact congrArg (fun z : Int => Ending.returned (.int .i64 z)) (by simp only [cellN]; omega), TT5, KK3.out.trans KP5⟩
theorem trune_any (wd ht : Int) (cs : List Ce) (v : Value) (t : Tm) (c : UInt8) (r : List UInt8) (b base : Nat) (w : World) (hB : Blk w b (tmC wd ht v t) 101) (hv : OwnsC base w v cs) (hfit : fitsS wd ht = true) (hlen : (cs.length : Int) = wd * ht) (hl : r.length < 1048576) (hD : DecT w) :
    Calls Tryz.prog 57 #[.pointer (some ⟨b, 0, none⟩), .string (strL (c :: r))] w fun e w' => e = .returned (.int .i64 (cellN (cellP wd ht cs t (c :: r)))) ∧
      TmT base b wd ht v (cellC cs (cellP wd ht cs t (c :: r))) (cellT t (cellP wd ht cs t (c :: r))) w' ∧ KeptBut (fun k => k = b ∨ v.ownBlock = some k) w w' := by
  by_cases h14 : c = 14
  · exact trune_14 wd ht cs v t c r b base w h14 hB hv hfit hlen hl hD
  · by_cases h15 : c = 15
    · exact trune_15 wd ht cs v t c r b base w h15 hB hv hfit hlen hl hD
    · exact trune_no wd ht cs v t c r b base w ⟨h14, h15⟩ hB hv hfit hlen hl hD
end Go.Proofs.YtffmomgmkpmpkaaGreatDoor
