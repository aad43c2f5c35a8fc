/-
  Cells: runs as a terminal's text, by the program.
-/
import Derived.Test.YtfcphagmjijmkaaGreatDoorDd22
namespace Go.Proofs.YtfcphagmjijmkaaGreatDoor
open Go.RowKit
set_option linter.unusedVariables false
set_option linter.unusedSimpArgs false
attribute [local go_sem] vwp vUpon_value vUpon_skip vUpon_enter vUpon_row
set_option maxHeartbeats 16000000
section
attribute [local go_sem high] eql_colour neq_colour
theorem escCells_next (p : List UInt8) (u v : Co) (c d : Ce) (r : List Ce) (wh : Bool) (hw : wholeC c d = wh) (F : List UInt8 → Co → Co → Option (List UInt8)) :
  (match escCells p u v (c :: d :: r) with | none => none | some (a, u', v') => F a u' v') = if 1048576 < (p ++ cellL u v c wh).length then none else (match escCells (p ++ cellL u v c wh) c.col c.back (if wh then r else d :: r) with | none => none | some (a, u', v') => F a u' v') := by
 subst hw; rw [escCells]
 by_cases h : 1048576 < (p ++ cellL u v c (wholeC c d)).length
 ·rw [if_pos h, if_pos h]
 ·rw [if_neg h, if_neg h]
  cases hq : wholeC c d
  ·rfl
  ·rfl
set_option maxRecDepth 100000 in
theorem cescapes_any (l : List Rn) (v : Value) (w : World) (hl : RunsAt w.heap.size w v l) (hwf : ∀ r ∈ l, RnWf r) (hD : DigT w) :
  Calls Tryz.prog 58 #[v] w fun e w' => e = .returned (.tuple #[.string (escT l), .int .i64 (escE l)]) ∧ Below w.heap.size w w' := by
 obtain ⟨s0, cap, rfl, hmax⟩ := hl.shape
 have hop := fun h0 => hl.open_ h0
 obtain ⟨n, en⟩ := exx (l.length); obtain ⟨T, hT⟩ := exx (escT l); obtain ⟨E, hE⟩ := exx (escE l); rw [hT, hE]; unfold escT escR at hT; unfold escE escR at hE; rw [en] at hop hmax hT hE ⊢; unfold maxLen at hmax; clear hl
 by_cases hbig : 262144 < n
 ·rw [if_pos hbig] at hT hE
  dsimp only at hT hE; subst hT hE
  have hbi : (262144 : Int) < n := by omega
  clear hop hD hwf en
  go_enter Tryz.func58, Tryz.ntmps58
  go_wp2; go_ret2; exact ⟨rfl, belt⟩
 ·rw [if_neg hbig] at hT hE
  have hbi : ¬ (262144 : Int) < n := by omega
  obtain ⟨R, hR⟩ := exx (l.all runOkC); rw [hR] at hT hE; have hgo := hdh (show (l.drop 0).all runOkC = R from hR); replace en := hdh en; replace hop := hdh hop; have hRa := hdh hR; replace hT := hdh hT; replace hE := hdh hE; replace hwf := hdh hwf; replace hD := hdh hD; clear hR
  go_enter Tryz.func58, Tryz.ntmps58
  go_upto_region 4 with fail
  go_loopw [17] (fun iv wr => ∃ i : Nat, i ≤ n ∧ iv = .int .i64 i ∧ Hid ((l.drop i).all runOkC = R) ∧ Below w.heap.size w wr) (fun iv _ => n - (intOf iv).toNat)
  case atStart => exact ⟨0, Nat.zero_le _, rfl, hgo, Below.refl _ _⟩
  case round =>
   clear hgo; obtain ⟨i, hi, rfl, hgo, hb⟩ := hrel; obtain ⟨W, rfl⟩ : ∃ W, W = wr := ⟨_, rfl⟩; have zb := hb.size
   by_cases hin : i < n
   ·have hii : (i : Int) < n := by omega
    obtain ⟨g, o, cap', ea, hg, hcp, hcm, hel⟩ := hop.out (by omega); simp only [Value.slice.injEq] at ea; obtain ⟨rfl, _, rfl⟩ := ea; obtain ⟨r, hr⟩ := get_at en.out hin; obtain ⟨s, k, q0, q1, q2, hrow⟩ := hel i r hr; have hgo2 := hgo.out; rw [allR_step hr] at hgo2; obtain ⟨x, y, cs, rfl⟩ : ∃ x y c, r = ⟨x, y, c⟩ := ⟨_, _, _, rfl⟩; dsimp only at q0 q1 q2 hrow; obtain ⟨m, hm⟩ := exx (cs.length); have hw0 := hwf.out _ (List.mem_of_getElem? hr); obtain ⟨hx64, hy64, _⟩ := hw0; dsimp only at hx64 hy64; unfold I64 at hx64 hy64
    have yg : g < W.heap.size := by omega
    have p0 := (hb.cell (p := ⟨g, o + i * 3, none⟩) hg).trans q0; have p1 := (hb.cell (p := ⟨g, o + i * 3 + 1, none⟩) hg).trans q1; have p2 := (hb.cell (p := ⟨g, o + i * 3 + 2, none⟩) hg).trans q2; rw [hm] at p2 hrow; clear q0 q1 q2 hr hgo hel; replace hrow := hdh hrow
    go_upto_region 6 with fail
    obtain ⟨W2, hW2⟩ := exx (W.alloc (.cells #[.int .i64 x, .int .i64 y, .slice s m k] 112))
    have B2 : Blk W2 W.heap.size [.int .i64 x, .int .i64 y, .slice s m k] 112 := by rw [← hW2]; exact Blk.new' rfl
    have hb2 : Below w.heap.size w W2 := by rw [← hW2]; exact hb.alloc (by omega) _
    rw [hW2]; clear hW2; have yB2 := B2.lt; have zb2 := hb2.size; clear p0 p1 p2; have k0 := B2.cell (o := 0) rfl; have k1 := B2.cell (o := 1) rfl; have k2 := B2.cell (o := 2) rfl; have AL := call_any cs _ W2 (by have h := (hrow.out.below hb2).mono hb2.size; rw [← hm] at h; exact h); rw [hm] at AL; obtain ⟨q, hq⟩ := exx (cs.all mayC); rw [hq] at AL
    have hok : (!(m == 0) && (q && (decide (0 ≤ x) && (decide (0 ≤ y) && (decide (x < 16384) && decide (y < 16384))))) && (l.drop (i + 1)).all runOkC) = R := by rw [← hgo2]; unfold runOkC; dsimp only; rw [hm, hq]
    clear hgo2; replace hm := hdh hm
    by_cases m0 : m = 0
    ·subst m0
     have hRf : R = false := by rw [← hok]; simp [*]
     subst hRf; have hT := hT.out; have hE := hE.out; simp only [Bool.false_eq_true, if_false] at hT hE; subst hT hE; clear hok; replace AL := hdh AL
     go_wp2_with (go_at_call 94; (with_reducible refine cmm AL.out fun w3 hb3 => ?_); obtain ⟨hc3, hf3⟩ := bcell hb3; replace hb2 := hb2.trans (hb3.mono zb2))
     go_ret2; exact ⟨rfl, hb2⟩
    ·have m0i : ¬ (m : Int) = 0 := by omega
     have m0q : ((m : Int) == 0) = false := by simpa using m0i
     cases q
     ·have hRf : R = false := by rw [← hok]; simp [*]
      subst hRf; have hT := hT.out; have hE := hE.out; simp only [Bool.false_eq_true, if_false] at hT hE; subst hT hE; clear hok; replace AL := hdh AL
      go_wp2_with (go_at_call 94; (with_reducible refine cmm AL.out fun w3 hb3 => ?_); obtain ⟨hc3, hf3⟩ := bcell hb3; replace hb2 := hb2.trans (hb3.mono zb2))
      go_ret2; exact ⟨rfl, hb2⟩
     ·by_cases hx0 : 0 ≤ x
      ·by_cases hy0 : 0 ≤ y
       ·have hmn : ¬ min x y < 0 := by omega
        by_cases hx1 : x < 16384
        ·by_cases hy1 : y < 16384
         ·have hmx : decide (16384 ≤ max x y) = false := decide_eq_false (by omega)
          have hmy : max x y < 16384 := by omega
          have hmz : 0 ≤ min x y := by omega
          have hgo2 : (l.drop (i + 1)).all runOkC = R := by rw [← hok]; simp [*]
          replace AL := hdh AL; clear hok
          go_wp2_with (go_at_call 94; (with_reducible refine cmm AL.out fun w3 hb3 => ?_); obtain ⟨hc3, hf3⟩ := bcell hb3; replace hb2 := hb2.trans (hb3.mono zb2))
          exact ⟨⟨i + 1, by omega, by go_num, hdh hgo2, hb2⟩, by simp [intOf]; omega⟩
         ·have hmx : 16384 ≤ max x y := by omega
          have hRf : R = false := by rw [← hok]; simp [*]
          subst hRf; have hT := hT.out; have hE := hE.out; simp only [Bool.false_eq_true, if_false] at hT hE; subst hT hE; clear hok; replace AL := hdh AL
          go_wp2_with (go_at_call 94; (with_reducible refine cmm AL.out fun w3 hb3 => ?_); obtain ⟨hc3, hf3⟩ := bcell hb3; replace hb2 := hb2.trans (hb3.mono zb2))
          go_ret2; exact ⟨rfl, hb2⟩
        ·have hmx : 16384 ≤ max x y := by omega
         have hRf : R = false := by rw [← hok]; simp [*]
         subst hRf; have hT := hT.out; have hE := hE.out; simp only [Bool.false_eq_true, if_false] at hT hE; subst hT hE; clear hok; replace AL := hdh AL
         go_wp2_with (go_at_call 94; (with_reducible refine cmm AL.out fun w3 hb3 => ?_); obtain ⟨hc3, hf3⟩ := bcell hb3; replace hb2 := hb2.trans (hb3.mono zb2))
         go_ret2; exact ⟨rfl, hb2⟩
       ·have hmn : min x y < 0 := by omega
        have hRf : R = false := by rw [← hok]; simp [*]
        subst hRf; have hT := hT.out; have hE := hE.out; simp only [Bool.false_eq_true, if_false] at hT hE; subst hT hE; clear hok; replace AL := hdh AL
        go_wp2_with (go_at_call 94; (with_reducible refine cmm AL.out fun w3 hb3 => ?_); obtain ⟨hc3, hf3⟩ := bcell hb3; replace hb2 := hb2.trans (hb3.mono zb2))
        go_ret2; exact ⟨rfl, hb2⟩
      ·have hmn : min x y < 0 := by omega
       have hRf : R = false := by rw [← hok]; simp [*]
       subst hRf; have hT := hT.out; have hE := hE.out; simp only [Bool.false_eq_true, if_false] at hT hE; subst hT hE; clear hok; replace AL := hdh AL
       go_wp2_with (go_at_call 94; (with_reducible refine cmm AL.out fun w3 hb3 => ?_); obtain ⟨hc3, hf3⟩ := bcell hb3; replace hb2 := hb2.trans (hb3.mono zb2))
       go_ret2; exact ⟨rfl, hb2⟩
   ·obtain rfl : n = i := by omega
    have hii : ¬ (n : Int) < n := by omega
    have hRt : R = true := by
     have h := hgo.out; rw [List.drop_of_length_le (by rw [en.out]; omega)] at h; exact h.symm
    subst hRt; obtain ⟨RS, hRS⟩ := exx (escRuns [] Co.zero Co.zero l); have hT := hT.out; have hE := hE.out; rw [hRS] at hT hE; rw [if_pos rfl] at hT hE; replace hT := hdh hT; replace hE := hdh hE
    go_upto_region 11 with fail
    obtain ⟨W0, hW0⟩ := exx (W.alloc (.cells #[.pointer none, .slice none 0 0, .int .u8 0, .int .u8 0, .int .u8 0, .int .u8 0, .int .u8 0, .int .u8 0, .int .u8 0, .int .u8 0] 160)); obtain ⟨b, hbe⟩ := exx (W.heap.size)
    have B0 : Blk W0 b (.pointer none :: .slice none 0 0 :: tlW Co.zero Co.zero) 160 := by rw [← hW0]; exact Blk.new' hbe.symm
    have hb0 : Below w.heap.size w W0 := by rw [← hW0]; exact hb.alloc (by omega) _
    rw [hW0, hbe]; clear hW0
    have hbB : w.heap.size ≤ b := by rw [← hbe]; exact zb
    have hI0 : IsW w.heap.size b [] (tlW Co.zero Co.zero) W0 := .inl (show Wr w.heap.size b (.pointer none) [] (tlW Co.zero Co.zero) W0 from ⟨hbB, rfl, _, B0, World.ownsRowF_nil _ _ _ _⟩); clear hb hbe zb; replace B0 := hdh B0; replace hI0 := hdh hI0; replace hb0 := hdh hb0; have hgo3 := hdh (show escRuns [] Co.zero Co.zero (l.drop 0) = RS from hRS); clear hgo hRS
    go_loopw [54] (fun iv wr => ∃ (i : Nat) (o : List UInt8) (x y : Co), i ≤ n ∧ iv = .int .i64 i ∧ Hid (IsW w.heap.size b o (tlW x y) wr) ∧ Hid (escRuns o x y (l.drop i) = RS) ∧ Hid (Below w.heap.size w wr) ∧ o.length ≤ 1048576 ∧ (0 < i → o ≠ []) ∧ Hid (i = 0 → o = [] ∧ Blk wr b (.pointer none :: .slice none 0 0 :: tlW Co.zero Co.zero) 160)) (fun iv _ => n - (intOf iv).toNat)
    case atStart => exact ⟨0, [], Co.zero, Co.zero, Nat.zero_le _, rfl, hI0, hgo3, hb0, Nat.zero_le _, fun h => absurd h (by omega), hdh (fun _ => ⟨rfl, B0.out⟩)⟩
    case round =>
     clear hI0 hgo3 hb0 B0; obtain ⟨i, out, tx, ty, hi, rfl, hI, hgo, hb, hol, hon, hoz⟩ := hrel; obtain ⟨W1, rfl⟩ : ∃ W1, W1 = wr := ⟨_, rfl⟩; have zb := hb.out.size
     by_cases hin : i < n
     ·have hii : (i : Int) < n := by omega
      obtain ⟨g, o, cap', ea, hg, hcp, hcm, hel⟩ := hop.out (by omega); simp only [Value.slice.injEq] at ea; obtain ⟨rfl, _, rfl⟩ := ea; obtain ⟨r, hr⟩ := get_at en.out hin; obtain ⟨s, k, q0, q1, q2, hrow⟩ := hel i r hr; have hgo2 := hgo.out; rw [drop_get hr, escRuns] at hgo2; have hrk := List.all_eq_true.1 hRa.out r (List.mem_of_getElem? hr); have hw0 := hwf.out _ (List.mem_of_getElem? hr); obtain ⟨x, y, cs, rfl⟩ : ∃ x y c, r = ⟨x, y, c⟩ := ⟨_, _, _, rfl⟩; dsimp only at q0 q1 q2 hrow hgo2; obtain ⟨_, _, hcw⟩ := hw0; dsimp only at hcw; obtain ⟨m, hm⟩ := exx (cs.length); unfold runOkC at hrk; dsimp only at hrk
      rw [hm] at hrk q2 hrow; simp only [Bool.and_eq_true, Bool.not_eq_true', beq_eq_false_iff_ne, ne_eq, decide_eq_true_eq] at hrk; obtain ⟨hm0, hmay, hx0, hy0, hx1, hy1⟩ := hrk; obtain ⟨Z, hZ⟩ := exx (l.drop (i + 1)); rw [hZ] at hgo2; obtain ⟨N1, hN1⟩ := exx ([y + 1, x + 1]); obtain ⟨E1, hE1⟩ := exx (escL 72 [y + 1, x + 1])
      have hE1l : E1.length ≤ 60 := by
       rw [← hE1]; refine Nat.le_trans (escL_len (fun z hz => ?_)) (by show 22 * 2 + 3 ≤ 60; decide); simp only [List.mem_cons, List.not_mem_nil, or_false] at hz; unfold I64
       rcases hz with rfl | rfl <;> omega
      have hE1n : E1 ≠ [] := by rw [← hE1]; simp [escL]
      have ES := fun u (hu : IsW w.heap.size b out (tlW tx ty) u) g (hg : Blk u g [.int .i64 (y + 1), .int .i64 (x + 1)] 3) (hB : w.heap.size ≤ u.heap.size) (hd : ∀ w', Below w.heap.size u w' → DigT w') =>
       (show Calls Tryz.prog 108 #[.pointer (some ⟨b, 0, none⟩), .int .u8 72, .slice (some ⟨g, 0, none⟩) 2 2] u _ from esc_any w.heap.size b out _ 72 72 rfl [y + 1, x + 1] g 2 u hu hg hB (by
        intro z hz
        simp only [List.mem_cons, List.not_mem_nil, or_false] at hz; unfold I64
        rcases hz with rfl | rfl <;> omega) (by omega) (by show (2 : Nat) ≤ 10; decide) (by show (2 : Nat) ≤ 2; decide) hd)
      rw [hE1] at ES hgo2; replace hgo2 := hdh hgo2; replace ES := hdh ES; clear hgo hN1 hE1 hoz hon hel
      have yg : g < W1.heap.size := by omega
      have p0 := (hb.out.cell (p := ⟨g, o + i * 3, none⟩) hg).trans q0; have p1 := (hb.out.cell (p := ⟨g, o + i * 3 + 1, none⟩) hg).trans q1; have p2 := (hb.out.cell (p := ⟨g, o + i * 3 + 2, none⟩) hg).trans q2; clear q0 q1 q2; replace hrow := hdh hrow; replace hm := hdh hm; replace hZ := hdh hZ; replace hmay := hdh hmay; replace hcw := hdh hcw
      go_upto_region 13 with fail
      obtain ⟨W2, hW2⟩ := exx (W1.alloc (.cells #[.int .i64 x, .int .i64 y, .slice s m k] 112)); obtain ⟨f, hf⟩ := exx (W1.heap.size)
      have B2 : Blk W2 f [.int .i64 x, .int .i64 y, .slice s m k] 112 := by rw [← hW2]; exact Blk.new' hf.symm
      have hb2 : Below w.heap.size w W2 := by rw [← hW2]; exact hb.out.alloc zb _
      have hI2 := hI.out.alloc (.cells #[.int .i64 x, .int .i64 y, .slice s m k] 112); rw [hW2] at hI2 ⊢; rw [hf]; clear hW2 p0 p1 p2 hI hb; have yB2 := B2.lt; have zb2 := hb2.size
      have fb : f ≠ b := by
       obtain ⟨_, _, _, _, hbb, _⟩ := hI2.blk; exact blk_ne B2 hbb (by decide)
      replace hf := hdh hf; have k0 := B2.cell (o := 0) rfl; have k1 := B2.cell (o := 1) rfl; replace hI2 := hdh hI2; have hal := Below.alloc (Below.refl w.heap.size W2) zb2 (.cells #[.int .i64 (y + 1), .int .i64 (x + 1)] 3)
      go_upto_region 15 with (go_at_call 108; (with_reducible refine (ES.out _ (hI2.out.alloc _) _ (Blk.new _ _ _) (by simp; omega) (fun u hu => hD.out.below (hb2.trans (hal.trans hu)) lrr)).mono ?_); rintro e w3 ⟨rfl, h3, hb3, hk3⟩)
      have B3 := (B2.alloc (.cells #[.int .i64 (y + 1), .int .i64 (x + 1)] 3)).others hk3 fb (by decide); have hb03 := hb2.trans (hal.trans hb3); obtain ⟨W3, rfl⟩ : ∃ W3, W3 = w3 := ⟨_, rfl⟩; clear k0 k1 hb3 hk3 hal ES B2 hI2 yB2; replace h3 := hdh h3; replace B3 := hdh B3; replace hb03 := hdh hb03; clear hb2; obtain ⟨gc, oc, capc, ec, hgc, hcpc, hcmc, helc⟩ := row_ce hrow.out (by have := hm.out; omega); rw [hm.out] at ec hcpc; simp only [Value.slice.injEq] at ec; obtain ⟨rfl, _, rfl⟩ := ec; replace helc := hdh helc; unfold maxLen at hcmc
      have hgo4 : (match escCells (out ++ E1) tx ty (cs.drop 0) with | none => none | some (p, u', v') => escRuns p u' v' Z) = RS := by
       have h := hgo2.out; rw [List.drop_zero, ← h]
       split
       ·rename_i h1; rw [h1]
       ·rename_i h1; rw [h1]
      replace hgo4 := hdh hgo4
      have hlen4 : (out ++ E1).length ≤ 1048700 := by rw [List.length_append]; omega
      have hne4 : out ++ E1 ≠ [] := by simp [hE1n]
      clear hgo2 hrow hE1n hE1l hol
      go_loopw [9] (fun kv wr => ∃ (j : Nat) (p : List UInt8) (u v : Co), j ≤ m ∧ kv = .int .i64 j ∧ Hid (IsW w.heap.size b p (tlW u v) wr) ∧ Hid ((match escCells p u v (cs.drop j) with | none => none | some (p, u', v') => escRuns p u' v' Z) = RS) ∧ Hid (Below w.heap.size w wr) ∧
       Hid (Blk wr f [.int .i64 x, .int .i64 y, .slice (some ⟨gc, oc, none⟩) m k] 112) ∧ p.length ≤ 1048700 ∧ (0 < j → p.length ≤ 1048576) ∧ p ≠ []) (fun kv _ => m - (intOf kv).toNat)
      case atStart => exact ⟨0, out ++ E1, tx, ty, Nat.zero_le _, rfl, h3, hgo4, hb03, B3, hlen4, fun h => absurd h (by omega), hne4⟩
      case round =>
       clear h3 hgo4 hb03 B3 hlen4 hne4; obtain ⟨j, p, u, v, hj, rfl, hI, hgo, hb, hB, hpl, hpz, hpn⟩ := hrel; obtain ⟨W4, rfl⟩ : ∃ W4, W4 = wr := ⟨_, rfl⟩; have z4 := hb.out.size; have k2 := hB.out.cell (o := 2) rfl; have yB := hB.out.lt
       by_cases hjm : j < m
       ·have hji : (j : Int) < m := by omega
        obtain ⟨c, hc⟩ := get_at hm.out hjm; have hcWf := hcw.out c (List.mem_of_getElem? hc); have hcr := may_rune (List.all_eq_true.1 hmay.out c (List.mem_of_getElem? hc)); obtain ⟨j0, j1, j2, j3, j4, j5, j6, j7, j8, j9, j10⟩ := (helc.out j c hc).below hb.out hgc; have hgoC := hgo.out
        have WC := fun wh q (hq : IsW w.heap.size b p (tlW u v) q) (hs : w.heap.size ≤ q.heap.size) hd => wcell_any w.heap.size b p u v c wh q hq hs hcWf hcr (by omega) hd
        obtain ⟨ru, ⟨c0, c1, c2, c3⟩, ⟨d0, d1, d2, d3⟩, wi, ta⟩ := c; dsimp only at j0 j1 j2 j3 j4 j5 j6 j7 j8 j9 j10 WC; replace WC := hdh WC; replace hgoC := hdh hgoC; replace hc := hdh hc; clear hgo hcWf hcr
        have ygc : gc < W4.heap.size := by omega
        have hjw : IntKind.i64.wrap ((j : Int) + 1) = (j : Int) + 1 := by rw [IntKind.wrap_i64]; omega
        go_upto_region 18 with fail
        obtain ⟨W5, hW5⟩ := exx (W4.alloc (.cells #[.int .i32 ru, .int .u8 c0, .int .u8 c1, .int .u8 c2, .int .u8 c3, .int .u8 d0, .int .u8 d1, .int .u8 d2, .int .u8 d3, .bool wi, .bool ta] 47)); obtain ⟨h, hhe⟩ := exx (W4.heap.size)
        have B5 : Blk W5 h [.int .i32 ru, .int .u8 c0, .int .u8 c1, .int .u8 c2, .int .u8 c3, .int .u8 d0, .int .u8 d1, .int .u8 d2, .int .u8 d3, .bool wi, .bool ta] 47 := by rw [← hW5]; exact Blk.new' hhe.symm
        have hb5 : Below w.heap.size w W5 := by rw [← hW5]; exact hb.out.alloc z4 _
        have hI5 := hdh (hI.out.alloc (.cells #[.int .i32 ru, .int .u8 c0, .int .u8 c1, .int .u8 c2, .int .u8 c3, .int .u8 d0, .int .u8 d1, .int .u8 d2, .int .u8 d3, .bool wi, .bool ta] 47)); have R5 := hB.out.alloc (.cells #[.int .i32 ru, .int .u8 c0, .int .u8 c1, .int .u8 c2, .int .u8 c3, .int .u8 d0, .int .u8 d1, .int .u8 d2, .int .u8 d3, .bool wi, .bool ta] 47); rw [hW5] at hI5 R5 ⊢; rw [hhe]; clear hW5 j0 j1 j2 j3 j4 j5 j6 j7 j8 j9 j10 k2; have k2 := R5.cell (o := 2) rfl; have yR5 := R5.lt; have yB5 := B5.lt
        have fb5 : f ≠ b := by
         obtain ⟨_, _, _, _, hbb, _⟩ := hI5.out.blk; exact blk_ne R5 hbb (by decide)
        have z5 := hb5.size; obtain ⟨i0, i1, i2, i3, i4, i5, i6, i7, i8, i9, i10⟩ := B5.c11; replace B5 := hdh B5; replace hhe := hdh hhe; clear hI hB hb ygc yB; replace hb5 := hdh hb5
        by_cases hj1 : j + 1 < m
        ·have hji1 : (j : Int) + 1 < m := by omega
         obtain ⟨d, hd⟩ := get_at hm.out hj1; obtain ⟨j0, j1, j2, j3, j4, j5, j6, j7, j8, j9, j10⟩ := (helc.out (j + 1) d hd).below hb5.out hgc
         have ygc : gc < W5.heap.size := by omega
         have PR := fun w => cpair_any ⟨ru, ⟨c0, c1, c2, c3⟩, ⟨d0, d1, d2, d3⟩, wi, ta⟩ d w
         have hwc : wholeC ⟨ru, ⟨c0, c1, c2, c3⟩, ⟨d0, d1, d2, d3⟩, wi, ta⟩ d = (pairC ⟨ru, ⟨c0, c1, c2, c3⟩, ⟨d0, d1, d2, d3⟩, wi, ta⟩ d && (eq4 c0 c1 c2 c3 d.col.r d.col.g d.col.b d.col.a && eq4 d0 d1 d2 d3 d.back.r d.back.g d.back.b d.back.a)) := rfl; obtain ⟨rd, ⟨e0, e1, e2, e3⟩, ⟨g0, g1, g2, g3⟩, wj, tb⟩ := d; dsimp only at j0 j1 j2 j3 j4 j5 j6 j7 j8 j9 j10 PR hwc; obtain ⟨pr, hpr⟩ := exx (pairC ⟨ru, ⟨c0, c1, c2, c3⟩, ⟨d0, d1, d2, d3⟩, wi, ta⟩ ⟨rd, ⟨e0, e1, e2, e3⟩, ⟨g0, g1, g2, g3⟩, wj, tb⟩); rw [hpr] at PR hwc; replace PR := hdh PR; clear hpr; replace hd := hdh hd; have hgoD := hgoC.out; rw [drop_get hc.out, drop_get hd.out] at hgoD
         have hst1 := fun wh hw => (escCells_next p u v _ _ (cs.drop (j + 1 + 1)) wh hw (fun a u' v' => escRuns a u' v' Z)).symm.trans hgoD
         have hdd : cs.drop (j + 1) = ⟨rd, ⟨e0, e1, e2, e3⟩, ⟨g0, g1, g2, g3⟩, wj, tb⟩ :: cs.drop (j + 1 + 1) := drop_get hd.out; replace hst1 := hdh hst1; replace hdd := hdh hdd
         cases pr
         ·have hst2 := hst1.out false (by rw [hwc]; rfl)
          simp only [Bool.false_eq_true, if_false] at hst2; rw [← hdd.out] at hst2; clear hst1 hdd hwc hgoD hgoC; refine rst (Held W5 0 []) ?_
          repeat (first | (refine' wpSteady_do _ _ _; rotate_left; (focus rfl); (focus (intro w1 hS R hR; have hc := hS.cells; simp only [Cells] at hc; obtain ⟨hco, hfo⟩ := bcell hS.old; go_simp; (try go_bits); first | exact hR _ hS | (go_at_call 109; (with_reducible refine cmm (PR.out _) fun w2 hb2 => ?_); exact ⟨_, rfl, hR _ (hS.below hb2)⟩))); simp only [pu]) | (refine spa ?_; simp only [pu]))
          refine wpSteady_nil (fun uA hSA => ?_); obtain ⟨hcA, hbA, hzA, hcoA, hfoA⟩ := hall hSA; clear hSA; simp only [Cells] at hcA; have hI6 := hdh (hI5.out.below hbA); have R6 := R5.below hbA yR5; have hb6 := hb5.out.trans (hbA.mono z5); have z6 := hb6.size; have hlen7 := cellL_len (x := u) (y := v) (c := ⟨ru, ⟨c0, c1, c2, c3⟩, ⟨d0, d1, d2, d3⟩, wi, ta⟩) (wh := false) (hcw.out _ (List.mem_of_getElem? hc.out)); have WC2 := WC.out false; obtain ⟨CL7, hCL⟩ := exx (cellL u v ⟨ru, ⟨c0, c1, c2, c3⟩, ⟨d0, d1, d2, d3⟩, wi, ta⟩ false); rw [hCL] at hst2 hlen7 WC2; replace hst2 := hdh hst2; replace WC2 := hdh WC2
          clear hCL WC
          go_upto_region 20 with (go_at_call 110; (with_reducible refine (WC2.out _ hI6.out z6 (fun q hq => hD.out.below (hb6.trans hq) lrr)).mono ?_); rintro e w7 ⟨rfl, h7, hb7, hk7⟩)
          have R7 := R6.others hk7 fb5 (by decide); have hb07 := hb6.trans hb7; obtain ⟨P7, hP7⟩ := exx (p ++ CL7)
          have hl7 : P7.length ≤ 1049100 := by rw [← hP7, List.length_append]; omega
          have hn7 : P7 ≠ [] := by rw [← hP7]; simp [hpn]
          rw [hP7] at h7 hst2; clear hcA hcoA hfoA hbA hzA hb7 hk7 hb6 hI6 R6 WC2 R5 hb5 hI5 B5 i0 i1 i2 i3 i4 i5 i6 i7 i8 i9 i10 k2 hP7 hpz; have LN := wr_len w.heap.size b _ _ w7 h7; rw [bytes_len] at LN; replace LN := hdh LN; replace h7 := hdh h7; replace R7 := hdh R7
          by_cases hbg : 1048576 < P7.length
          ·have hbgi : (1048576 : Int) < P7.length := by omega
           have hRn : none = RS := by have h := hst2.out; rwa [if_pos hbg] at h
           subst hRn; have hT := hT.out; have hE := hE.out; dsimp only at hT hE; subst hT hE
           go_wp2_with (go_at_call 111; (with_reducible refine LN.out.mono ?_); rintro e w8 ⟨rfl, rfl⟩)
           go_ret2; exact ⟨rfl, hb07⟩
          ·have hbgi : ¬ (1048576 : Int) < P7.length := by omega
           have hst3 := hst2.out; rw [if_neg hbg] at hst3; replace hst3 := hdh hst3
           go_wp2_with (go_at_call 111; (with_reducible refine LN.out.mono ?_); rintro e w8 ⟨rfl, rfl⟩)
           go_roundw
           case rel => exact ⟨(j + 1), P7, _, _, by omega, by go_num, h7, hst3, hdh hb07, R7, by omega, fun _ => by omega, hn7⟩
           case measure => simp [intOf]; omega
         ·cases q1 : eq4 c0 c1 c2 c3 e0 e1 e2 e3
          ·have hst2 := hst1.out false (by rw [hwc, q1]; rfl)
           simp only [Bool.false_eq_true, if_false] at hst2; rw [← hdd.out] at hst2; clear hst1 hdd hwc hgoD hgoC; refine rst (Held W5 0 []) ?_
           repeat (first | (refine' wpSteady_do _ _ _; rotate_left; (focus rfl); (focus (intro w1 hS R hR; have hc := hS.cells; simp only [Cells] at hc; obtain ⟨hco, hfo⟩ := bcell hS.old; go_simp; (try go_bits); first | exact hR _ hS | (go_at_call 109; (with_reducible refine cmm (PR.out _) fun w2 hb2 => ?_); exact ⟨_, rfl, hR _ (hS.below hb2)⟩))); simp only [pu]) | (refine spa ?_; simp only [pu]))
           refine wpSteady_nil (fun uA hSA => ?_); obtain ⟨hcA, hbA, hzA, hcoA, hfoA⟩ := hall hSA; clear hSA; simp only [Cells] at hcA; have hI6 := hdh (hI5.out.below hbA); have R6 := R5.below hbA yR5; have hb6 := hb5.out.trans (hbA.mono z5); have z6 := hb6.size; have hlen7 := cellL_len (x := u) (y := v) (c := ⟨ru, ⟨c0, c1, c2, c3⟩, ⟨d0, d1, d2, d3⟩, wi, ta⟩) (wh := false) (hcw.out _ (List.mem_of_getElem? hc.out)); have WC2 := WC.out false; obtain ⟨CL7, hCL⟩ := exx (cellL u v ⟨ru, ⟨c0, c1, c2, c3⟩, ⟨d0, d1, d2, d3⟩, wi, ta⟩ false); rw [hCL] at hst2 hlen7 WC2; replace hst2 := hdh hst2; replace WC2 := hdh WC2
           clear hCL WC
           go_upto_region 20 with (go_at_call 110; (with_reducible refine (WC2.out _ hI6.out z6 (fun q hq => hD.out.below (hb6.trans hq) lrr)).mono ?_); rintro e w7 ⟨rfl, h7, hb7, hk7⟩)
           have R7 := R6.others hk7 fb5 (by decide); have hb07 := hb6.trans hb7; obtain ⟨P7, hP7⟩ := exx (p ++ CL7)
           have hl7 : P7.length ≤ 1049100 := by rw [← hP7, List.length_append]; omega
           have hn7 : P7 ≠ [] := by rw [← hP7]; simp [hpn]
           rw [hP7] at h7 hst2; clear hcA hcoA hfoA hbA hzA hb7 hk7 hb6 hI6 R6 WC2 R5 hb5 hI5 B5 i0 i1 i2 i3 i4 i5 i6 i7 i8 i9 i10 k2 hP7 hpz; have LN := wr_len w.heap.size b _ _ w7 h7; rw [bytes_len] at LN; replace LN := hdh LN; replace h7 := hdh h7; replace R7 := hdh R7
           by_cases hbg : 1048576 < P7.length
           ·have hbgi : (1048576 : Int) < P7.length := by omega
            have hRn : none = RS := by have h := hst2.out; rwa [if_pos hbg] at h
            subst hRn; have hT := hT.out; have hE := hE.out; dsimp only at hT hE; subst hT hE
            go_wp2_with (go_at_call 111; (with_reducible refine LN.out.mono ?_); rintro e w8 ⟨rfl, rfl⟩)
            go_ret2; exact ⟨rfl, hb07⟩
           ·have hbgi : ¬ (1048576 : Int) < P7.length := by omega
            have hst3 := hst2.out; rw [if_neg hbg] at hst3; replace hst3 := hdh hst3
            go_wp2_with (go_at_call 111; (with_reducible refine LN.out.mono ?_); rintro e w8 ⟨rfl, rfl⟩)
            go_roundw
            case rel => exact ⟨(j + 1), P7, _, _, by omega, by go_num, h7, hst3, hdh hb07, R7, by omega, fun _ => by omega, hn7⟩
            case measure => simp [intOf]; omega
          ·cases q2 : eq4 d0 d1 d2 d3 g0 g1 g2 g3
           ·have hst2 := hst1.out false (by rw [hwc, q1, q2]; rfl)
            simp only [Bool.false_eq_true, if_false] at hst2; rw [← hdd.out] at hst2; clear hst1 hdd hwc hgoD hgoC; refine rst (Held W5 0 []) ?_
            repeat (first | (refine' wpSteady_do _ _ _; rotate_left; (focus rfl); (focus (intro w1 hS R hR; have hc := hS.cells; simp only [Cells] at hc; obtain ⟨hco, hfo⟩ := bcell hS.old; go_simp; (try go_bits); first | exact hR _ hS | (go_at_call 109; (with_reducible refine cmm (PR.out _) fun w2 hb2 => ?_); exact ⟨_, rfl, hR _ (hS.below hb2)⟩))); simp only [pu]) | (refine spa ?_; simp only [pu]))
            refine wpSteady_nil (fun uA hSA => ?_); obtain ⟨hcA, hbA, hzA, hcoA, hfoA⟩ := hall hSA; clear hSA; simp only [Cells] at hcA; have hI6 := hdh (hI5.out.below hbA); have R6 := R5.below hbA yR5; have hb6 := hb5.out.trans (hbA.mono z5); have z6 := hb6.size; have hlen7 := cellL_len (x := u) (y := v) (c := ⟨ru, ⟨c0, c1, c2, c3⟩, ⟨d0, d1, d2, d3⟩, wi, ta⟩) (wh := false) (hcw.out _ (List.mem_of_getElem? hc.out)); have WC2 := WC.out false; obtain ⟨CL7, hCL⟩ := exx (cellL u v ⟨ru, ⟨c0, c1, c2, c3⟩, ⟨d0, d1, d2, d3⟩, wi, ta⟩ false); rw [hCL] at hst2 hlen7 WC2; replace hst2 := hdh hst2; replace WC2 := hdh WC2
            clear hCL WC
            go_upto_region 20 with (go_at_call 110; (with_reducible refine (WC2.out _ hI6.out z6 (fun q hq => hD.out.below (hb6.trans hq) lrr)).mono ?_); rintro e w7 ⟨rfl, h7, hb7, hk7⟩)
            have R7 := R6.others hk7 fb5 (by decide); have hb07 := hb6.trans hb7; obtain ⟨P7, hP7⟩ := exx (p ++ CL7)
            have hl7 : P7.length ≤ 1049100 := by rw [← hP7, List.length_append]; omega
            have hn7 : P7 ≠ [] := by rw [← hP7]; simp [hpn]
            rw [hP7] at h7 hst2; clear hcA hcoA hfoA hbA hzA hb7 hk7 hb6 hI6 R6 WC2 R5 hb5 hI5 B5 i0 i1 i2 i3 i4 i5 i6 i7 i8 i9 i10 k2 hP7 hpz; have LN := wr_len w.heap.size b _ _ w7 h7; rw [bytes_len] at LN; replace LN := hdh LN; replace h7 := hdh h7; replace R7 := hdh R7
            by_cases hbg : 1048576 < P7.length
            ·have hbgi : (1048576 : Int) < P7.length := by omega
             have hRn : none = RS := by have h := hst2.out; rwa [if_pos hbg] at h
             subst hRn; have hT := hT.out; have hE := hE.out; dsimp only at hT hE; subst hT hE
             go_wp2_with (go_at_call 111; (with_reducible refine LN.out.mono ?_); rintro e w8 ⟨rfl, rfl⟩)
             go_ret2; exact ⟨rfl, hb07⟩
            ·have hbgi : ¬ (1048576 : Int) < P7.length := by omega
             have hst3 := hst2.out; rw [if_neg hbg] at hst3; replace hst3 := hdh hst3
             go_wp2_with (go_at_call 111; (with_reducible refine LN.out.mono ?_); rintro e w8 ⟨rfl, rfl⟩)
             go_roundw
             case rel => exact ⟨(j + 1), P7, _, _, by omega, by go_num, h7, hst3, hdh hb07, R7, by omega, fun _ => by omega, hn7⟩
             case measure => simp [intOf]; omega
           ·have hst2 := hst1.out true (by rw [hwc, q1, q2]; rfl)
            simp only [if_true] at hst2; clear hst1 hdd hwc hgoD hgoC; refine rst (Held W5 0 []) ?_
            repeat (first | (refine' wpSteady_do _ _ _; rotate_left; (focus rfl); (focus (intro w1 hS R hR; have hc := hS.cells; simp only [Cells] at hc; obtain ⟨hco, hfo⟩ := bcell hS.old; go_simp; (try go_bits); first | exact hR _ hS | (go_at_call 109; (with_reducible refine cmm (PR.out _) fun w2 hb2 => ?_); exact ⟨_, rfl, hR _ (hS.below hb2)⟩))); simp only [pu]) | (refine spa ?_; simp only [pu]))
            refine wpSteady_nil (fun uA hSA => ?_); obtain ⟨hcA, hbA, hzA, hcoA, hfoA⟩ := hall hSA; clear hSA; simp only [Cells] at hcA; have hI6 := hdh (hI5.out.below hbA); have R6 := R5.below hbA yR5; have hb6 := hb5.out.trans (hbA.mono z5); have z6 := hb6.size; have hlen7 := cellL_len (x := u) (y := v) (c := ⟨ru, ⟨c0, c1, c2, c3⟩, ⟨d0, d1, d2, d3⟩, wi, ta⟩) (wh := true) (hcw.out _ (List.mem_of_getElem? hc.out)); have WC2 := WC.out true; obtain ⟨CL7, hCL⟩ := exx (cellL u v ⟨ru, ⟨c0, c1, c2, c3⟩, ⟨d0, d1, d2, d3⟩, wi, ta⟩ true); rw [hCL] at hst2 hlen7 WC2; replace hst2 := hdh hst2; replace WC2 := hdh WC2
            clear hCL WC
            go_upto_region 20 with (go_at_call 110; (with_reducible refine (WC2.out _ hI6.out z6 (fun q hq => hD.out.below (hb6.trans hq) lrr)).mono ?_); rintro e w7 ⟨rfl, h7, hb7, hk7⟩)
            have R7 := R6.others hk7 fb5 (by decide); have hb07 := hb6.trans hb7; obtain ⟨P7, hP7⟩ := exx (p ++ CL7)
            have hl7 : P7.length ≤ 1049100 := by rw [← hP7, List.length_append]; omega
            have hn7 : P7 ≠ [] := by rw [← hP7]; simp [hpn]
            rw [hP7] at h7 hst2; clear hcA hcoA hfoA hbA hzA hb7 hk7 hb6 hI6 R6 WC2 R5 hb5 hI5 B5 i0 i1 i2 i3 i4 i5 i6 i7 i8 i9 i10 k2 hP7 hpz; have LN := wr_len w.heap.size b _ _ w7 h7; rw [bytes_len] at LN; replace LN := hdh LN; replace h7 := hdh h7; replace R7 := hdh R7
            by_cases hbg : 1048576 < P7.length
            ·have hbgi : (1048576 : Int) < P7.length := by omega
             have hRn : none = RS := by have h := hst2.out; rwa [if_pos hbg] at h
             subst hRn; have hT := hT.out; have hE := hE.out; dsimp only at hT hE; subst hT hE
             go_wp2_with (go_at_call 111; (with_reducible refine LN.out.mono ?_); rintro e w8 ⟨rfl, rfl⟩)
             go_ret2; exact ⟨rfl, hb07⟩
            ·have hbgi : ¬ (1048576 : Int) < P7.length := by omega
             have hst3 := hst2.out; rw [if_neg hbg] at hst3; replace hst3 := hdh hst3
             go_wp2_with (go_at_call 111; (with_reducible refine LN.out.mono ?_); rintro e w8 ⟨rfl, rfl⟩)
             go_roundw
             case rel => exact ⟨(j + 2), P7, _, _, by omega, by go_num, h7, hst3, hdh hb07, R7, by omega, fun _ => by omega, hn7⟩
             case measure => simp [intOf]; omega
        ·have hji1 : ¬ (j : Int) + 1 < m := by omega
         have hst := hgoC.out; rw [drop_get hc.out, List.drop_of_length_le (by rw [hm.out]; omega), escCells] at hst; dsimp only at hst
         have hst2 : (if 1048576 < (p ++ cellL u v ⟨ru, ⟨c0, c1, c2, c3⟩, ⟨d0, d1, d2, d3⟩, wi, ta⟩ false).length then none else (match escCells (p ++ cellL u v ⟨ru, ⟨c0, c1, c2, c3⟩, ⟨d0, d1, d2, d3⟩, wi, ta⟩ false) ⟨c0, c1, c2, c3⟩ ⟨d0, d1, d2, d3⟩ (cs.drop (j + 1)) with | none => none | some (p, u', v') => escRuns p u' v' Z)) = RS := by
          rw [List.drop_of_length_le (by rw [hm.out]; omega)]; rw [← hst]
          split <;> rfl
         clear hst hgoC; refine rst (Held W5 0 []) ?_
         repeat (first | (refine' sdo ?_; simp only [pu]) | (refine spa ?_; simp only [pu]))
         refine wpSteady_nil (fun uA hSA => ?_); obtain ⟨hcA, hbA, hzA, hcoA, hfoA⟩ := hall hSA; clear hSA; simp only [Cells] at hcA; have hI6 := hdh (hI5.out.below hbA); have R6 := R5.below hbA yR5; have hb6 := hb5.out.trans (hbA.mono z5); have z6 := hb6.size; have hlen7 := cellL_len (x := u) (y := v) (c := ⟨ru, ⟨c0, c1, c2, c3⟩, ⟨d0, d1, d2, d3⟩, wi, ta⟩) (wh := false) (hcw.out _ (List.mem_of_getElem? hc.out)); have WC2 := WC.out false; obtain ⟨CL7, hCL⟩ := exx (cellL u v ⟨ru, ⟨c0, c1, c2, c3⟩, ⟨d0, d1, d2, d3⟩, wi, ta⟩ false); rw [hCL] at hst2 hlen7 WC2; replace hst2 := hdh hst2; replace WC2 := hdh WC2
         clear hCL WC
         go_upto_region 20 with (go_at_call 110; (with_reducible refine (WC2.out _ hI6.out z6 (fun q hq => hD.out.below (hb6.trans hq) lrr)).mono ?_); rintro e w7 ⟨rfl, h7, hb7, hk7⟩)
         have R7 := R6.others hk7 fb5 (by decide); have hb07 := hb6.trans hb7; obtain ⟨P7, hP7⟩ := exx (p ++ CL7)
         have hl7 : P7.length ≤ 1049100 := by rw [← hP7, List.length_append]; omega
         have hn7 : P7 ≠ [] := by rw [← hP7]; simp [hpn]
         rw [hP7] at h7 hst2; clear hcA hcoA hfoA hbA hzA hb7 hk7 hb6 hI6 R6 WC2 R5 hb5 hI5 B5 i0 i1 i2 i3 i4 i5 i6 i7 i8 i9 i10 k2 hP7 hpz; have LN := wr_len w.heap.size b _ _ w7 h7; rw [bytes_len] at LN; replace LN := hdh LN; replace h7 := hdh h7; replace R7 := hdh R7
         by_cases hbg : 1048576 < P7.length
         ·have hbgi : (1048576 : Int) < P7.length := by omega
          have hRn : none = RS := by have h := hst2.out; rwa [if_pos hbg] at h
          subst hRn; have hT := hT.out; have hE := hE.out; dsimp only at hT hE; subst hT hE
          go_wp2_with (go_at_call 111; (with_reducible refine LN.out.mono ?_); rintro e w8 ⟨rfl, rfl⟩)
          go_ret2; exact ⟨rfl, hb07⟩
         ·have hbgi : ¬ (1048576 : Int) < P7.length := by omega
          have hst3 := hst2.out; rw [if_neg hbg] at hst3; replace hst3 := hdh hst3
          go_wp2_with (go_at_call 111; (with_reducible refine LN.out.mono ?_); rintro e w8 ⟨rfl, rfl⟩)
          go_roundw
          case rel => exact ⟨(j + 1), P7, _, _, by omega, by go_num, h7, hst3, hdh hb07, R7, by omega, fun _ => by omega, hn7⟩
          case measure => simp [intOf]; omega
       ·obtain rfl : m = j := by omega
        have hji : ¬ (m : Int) < m := by omega
        have hg : escRuns p u v Z = RS := by
         have h := hgo.out; rw [List.drop_of_length_le (by rw [hm.out]; omega)] at h; exact h
        have hp1 := hpz (by omega); go_wp2; exact ⟨⟨i + 1, p, u, v, by omega, by go_num, hI, hdh (by rw [hZ.out]; exact hg), hb, hp1, fun _ => hpn, hdh (fun h => absurd h (by omega))⟩, by simp [intOf]; omega⟩
     ·obtain rfl : n = i := by omega
      have hii : ¬ (n : Int) < n := by omega
      have hRs : some out = RS := by
       have h := hgo.out; rw [List.drop_of_length_le (by rw [en.out]; omega)] at h; exact h
      subst hRs; have hT := hT.out; have hE := hE.out; dsimp only at hT hE; subst hT hE
      by_cases h0 : n = 0
      ·obtain ⟨rfl, hB⟩ := hoz.out h0
       go_wp2_with (go_at_call 112; (with_reducible refine cmm (wr_string_nil w.heap.size b _ _ _ hB) fun w3 hb3 => ?_))
       go_ret2; exact ⟨rfl, hb.out.trans hb3⟩
      ·have hne := hon (by omega)
       go_wp2_with (go_at_call 112; (with_reducible refine cmm (wr_string w.heap.size b _ _ _ hI.out hne) fun w3 hb3 => ?_))
       go_ret2; exact ⟨rfl, hb.out.trans hb3⟩
end
end Go.Proofs.YtfcphagmjijmkaaGreatDoor
