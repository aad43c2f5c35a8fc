/-
  XGe: XRegCa XRegCb XRegCc XRegCd.
-/
import Derived.Laws.CopyOwn
import Derived.Test.YtfcphagmjijmkaaGreatDoorDm17
namespace Go.Proofs.YtfcphagmjijmkaaGreatDoor
open Go.RowKit
set_option linter.unusedVariables false
set_option linter.unusedSimpArgs false
attribute [local go_sem] vwp vUpon_value vUpon_skip vUpon_enter vUpon_row
set_option maxHeartbeats 16000000
section
theorem kmay_any (q : Re) (w : World) (hq : q.Wf) : Calls Tryz.prog 126 #[.agg #[.int .i64 (q).x, .int .i64 (q).y, .int .i64 (q).wd, .int .i64 (q).ht]] w fun e w' => e = .returned (.bool (mayR q)) ∧ Below w.heap.size w w' := by
 obtain ⟨x, y, a, b⟩ := q; obtain ⟨⟨x1, x2⟩, ⟨y1, y2⟩, ⟨a1, a2⟩, ⟨b1, b2⟩⟩ := hq; simp only at x1 x2 y1 y2 a1 a2 b1 b2 ⊢
 by_cases c1 : a < 0
 ·have hm : mayR ⟨x, y, a, b⟩ = false := by simp [mayR, spanB, inB, sdB]; omega
  rw [show mayR ⟨x, y, a, b⟩ = false from hm]; clear hm
  go_enter Tryz.func126, Tryz.ntmps126
  go_wp2; go_ret; exact ⟨rfl, belt⟩
 by_cases c2 : b < 0
 ·have hm : mayR ⟨x, y, a, b⟩ = false := by simp [mayR, spanB, inB, sdB]; omega
  rw [show mayR ⟨x, y, a, b⟩ = false from hm]; clear hm
  go_enter Tryz.func126, Tryz.ntmps126
  go_wp2; go_ret; exact ⟨rfl, belt⟩
 by_cases c3 : x < -16384
 ·have hm : mayR ⟨x, y, a, b⟩ = false := by simp [mayR, spanB, inB, sdB]; omega
  rw [show mayR ⟨x, y, a, b⟩ = false from hm]; clear hm
  go_enter Tryz.func126, Tryz.ntmps126
  go_wp2; go_ret; exact ⟨rfl, belt⟩
 by_cases c4 : y < -16384
 ·have hm : mayR ⟨x, y, a, b⟩ = false := by simp [mayR, spanB, inB, sdB]; omega
  rw [show mayR ⟨x, y, a, b⟩ = false from hm]; clear hm
  go_enter Tryz.func126, Tryz.ntmps126
  go_wp2; go_ret; exact ⟨rfl, belt⟩
 by_cases c5 : 16384 < x
 ·have hm : mayR ⟨x, y, a, b⟩ = false := by simp [mayR, spanB, inB, sdB]; omega
  rw [show mayR ⟨x, y, a, b⟩ = false from hm]; clear hm
  go_enter Tryz.func126, Tryz.ntmps126
  go_wp2; go_ret; exact ⟨rfl, belt⟩
 by_cases c6 : 16384 < y
 ·have hm : mayR ⟨x, y, a, b⟩ = false := by simp [mayR, spanB, inB, sdB]; omega
  rw [show mayR ⟨x, y, a, b⟩ = false from hm]; clear hm
  go_enter Tryz.func126, Tryz.ntmps126
  go_wp2; go_ret; exact ⟨rfl, belt⟩
 have d3 : -16384 ≤ x := by omega
 have d4 : -16384 ≤ y := by omega
 have d5 : x ≤ 16384 := by omega
 have d6 : y ≤ 16384 := by omega
 by_cases c7 : a ≤ 16384 - x
 ·by_cases c8 : b ≤ 16384 - y
  ·have hm : mayR ⟨x, y, a, b⟩ = true := by simp [mayR, spanB, inB, sdB]; omega
   rw [show mayR ⟨x, y, a, b⟩ = true from hm]; clear hm
   go_enter Tryz.func126, Tryz.ntmps126
   go_wp2; go_ret; exact ⟨rfl, belt⟩
  ·have hm : mayR ⟨x, y, a, b⟩ = false := by simp [mayR, spanB, inB, sdB]; omega
   rw [show mayR ⟨x, y, a, b⟩ = false from hm]; clear hm
   go_enter Tryz.func126, Tryz.ntmps126
   go_wp2; go_ret; exact ⟨rfl, belt⟩
 ·have hm : mayR ⟨x, y, a, b⟩ = false := by simp [mayR, spanB, inB, sdB]; omega
  rw [show mayR ⟨x, y, a, b⟩ = false from hm]; clear hm
  go_enter Tryz.func126, Tryz.ntmps126
  go_wp2; go_ret; exact ⟨rfl, belt⟩
theorem all_may_step {l : List Re} {k : Nat} {q : Re} (h : l[k]? = some q) : (l.drop k).all mayR = (mayR q && (l.drop (k + 1)).all mayR) := by
 rw [drop_get h]; rfl
set_option maxRecDepth 100000 in
theorem kasked_any (l : List Re) (v : Value) (w : World) (hl : Row w.heap.size 4 Re.enc w v l) (wl : (∀ q ∈ l, q.Wf)) : Calls Tryz.prog 77 #[v] w fun e w' => e = .returned (.int .i64 (chkR l)) ∧ Below w.heap.size w w' := by
 obtain ⟨s0, cap, rfl, hmax⟩ := hl.shape
 have hopen := fun h0 => row_re hl h0
 obtain ⟨n, en⟩ := exx (l.length); rw [en] at hopen hmax ⊢; unfold maxLen at hmax; clear hl
 by_cases c1 : 1024 < n
 ·rw [show chkR l = 4 by unfold chkR; rw [if_pos (by omega)]]
  have c1' : (1024 : Int) < n := by omega
  replace hopen := hdh hopen; replace en := hdh en
  go_enter Tryz.func77, Tryz.ntmps77
  go_wp2; go_ret; exact ⟨rfl, belt⟩
 have c1' : ¬ (1024 : Int) < n := by omega
 obtain ⟨R, hR⟩ := exx (l.all mayR)
 have e : chkR l = if R then 0 else 5 := by unfold chkR; rw [if_neg (by omega), hR]
 rw [e]; clear e; have hgo : (l.drop 0).all mayR = R := hR; clear hR; replace hgo := hdh hgo; replace hopen := hdh hopen; replace en := hdh en; replace wl := hdh wl
 go_enter Tryz.func77, Tryz.ntmps77
 go_wp2
 go_loopw [3] (fun iv wr => ∃ k : Nat, k ≤ n ∧ iv = .int .i64 k ∧ Hid ((l.drop k).all mayR = R) ∧ Below w.heap.size w wr) (fun iv _ => n - (intOf iv).toNat)
 case atStart => exact ⟨0, Nat.zero_le _, rfl, hgo, Below.refl _ _⟩
 case round =>
  clear hgo; obtain ⟨k, hk, rfl, hgo, hbr⟩ := hrel; have zr := hbr.size; obtain ⟨hcr, hfr⟩ := bcell hbr
  by_cases hkn : k < n
  ·obtain ⟨b, o, cap', e, yb, _, _, hel⟩ := hopen.out (by omega)
   simp at e
   obtain ⟨rfl, rfl⟩ := e; obtain ⟨q, hq⟩ := get_at en.out hkn; obtain ⟨g0, g1, g2, g3⟩ := hel k q hq
   have A := fun w => kmay_any q w (wl.out q (List.mem_of_getElem? hq))
   have hgo := hgo.out; rw [all_may_step hq] at hgo
   have hkk : (k : Int) < n := by omega
   clear hel hq
   cases hm : mayR q
   ·rw [hm] at A hgo
    have hgo : false = R := hgo; subst hgo; replace A := hdh A
    go_wp2_with (first | (go_at_call 126; (with_reducible refine cmm (A.out _) fun w1 hb1 => ?_); obtain ⟨hc1, hf1, hz1⟩ := bzz hb1; (try simp at hz1); (try have lt1 : w.heap.size < w1.heap.size := (by omega))) | go_in)
    go_ret; exact ⟨rfl, hbr.trans (hb1.mono zr)⟩
   ·rw [hm] at A hgo
    have hgo := hdh (show (l.drop (k + 1)).all mayR = R from hgo); replace A := hdh A; clear hm
    go_wp2_with (first | (go_at_call 126; (with_reducible refine cmm (A.out _) fun w1 hb1 => ?_); obtain ⟨hc1, hf1, hz1⟩ := bzz hb1; (try simp at hz1); (try have lt1 : w.heap.size < w1.heap.size := (by omega))) | go_in)
    go_roundw
    case rel => exact ⟨k + 1, by omega, by go_num, hgo, hbr.trans (hb1.mono zr)⟩
    case measure => simp [intOf]; omega
  ·obtain rfl : k = n := by omega
   have hgo := hgo.out; rw [List.drop_eq_nil_of_le (by have := en.out; omega)] at hgo; have hgo : true = R := hgo; subst hgo; go_wp2; go_ret; exact ⟨rfl, hbr⟩
theorem hasL_at {l : List Re} {k : Nat} {q : Re} (h : l[k]? = some q) (x y : Int) : hasL (l.drop k) x y = (hasR q x y || hasL (l.drop (k + 1)) x y) := by
 rw [drop_get h]; rfl
set_option maxRecDepth 100000 in
theorem khas_any (l : List Re) (v : Value) (px py : Int) (w : World) (hl : Row w.heap.size 4 Re.enc w v l) (ml : MayL l) : Calls Tryz.prog 129 #[v, .int .i64 px, .int .i64 py] w fun e w' => e = .returned (.bool (hasL l px py)) ∧ Below w.heap.size w w' := by
 obtain ⟨s0, cap, rfl, hmax⟩ := hl.shape
 have hopen := fun h0 => row_re hl h0
 obtain ⟨n, en⟩ := exx (l.length); rw [en] at hopen hmax ⊢; unfold maxLen at hmax; obtain ⟨R, hR⟩ := exx (hasL l px py); rw [hR]; have hgo := hdh (show hasL (l.drop 0) px py = R from hR); clear hl hR; replace hopen := hdh hopen; replace en := hdh en; replace ml := hdh ml
 go_enter Tryz.func129, Tryz.ntmps129
 go_wp2
 go_loopw [7] (fun iv wr => ∃ k : Nat, k ≤ n ∧ iv = .int .i64 k ∧ Hid (hasL (l.drop k) px py = R) ∧ Below w.heap.size w wr) (fun iv _ => n - (intOf iv).toNat)
 case atStart => exact ⟨0, Nat.zero_le _, rfl, hgo, Below.refl _ _⟩
 case round =>
  clear hgo; obtain ⟨k, hk, rfl, hgo, hbr⟩ := hrel; have zr := hbr.size; obtain ⟨hcr, hfr⟩ := bcell hbr
  by_cases hkn : k < n
  ·obtain ⟨b, o, cap', e, yb, _, _, hel⟩ := hopen.out (by omega)
   simp at e
   obtain ⟨rfl, rfl⟩ := e; obtain ⟨⟨qx, qy, qa, qb⟩, hq⟩ := get_at en.out hkn; obtain ⟨g0, g1, g2, g3⟩ := hel k _ hq; simp only at g0 g1 g2 g3; have hbd := may_bd (ml.out _ (List.mem_of_getElem? hq)); obtain ⟨x0, x1, y0, y1, a0, a1, b0, b1⟩ := hbd; simp only at x0 x1 y0 y1 a0 a1 b0 b1; have hgo := hgo.out; rw [hasL_at hq] at hgo
   have hkk : (k : Int) < n := by omega
   clear hel hq
   by_cases c1 : qx ≤ px
   ·by_cases c2 : px < qx + qa
    ·by_cases c3 : qy ≤ py
     ·by_cases c4 : py < qy + qb
      ·rw [show hasR ⟨qx, qy, qa, qb⟩ px py = true by simp [hasR, c1, c2, c3, c4]] at hgo
       have hgo : true = R := by simpa using hgo
       subst hgo; go_wp2; go_ret; exact ⟨rfl, belt⟩
      ·have hm : hasR ⟨qx, qy, qa, qb⟩ px py = false := by simp [hasR, c4]
       rw [show hasR ⟨qx, qy, qa, qb⟩ px py = false from hm] at hgo; have hgo := hdh (show hasL (l.drop (k + 1)) px py = R from hgo); clear hm; go_wp2; go_roundw
       case rel => exact ⟨k + 1, by omega, by go_num, hgo, belt⟩
       case measure => simp [intOf]; omega
     ·have hm : hasR ⟨qx, qy, qa, qb⟩ px py = false := by simp [hasR, c3]
      rw [show hasR ⟨qx, qy, qa, qb⟩ px py = false from hm] at hgo; have hgo := hdh (show hasL (l.drop (k + 1)) px py = R from hgo); clear hm; go_wp2; go_roundw
      case rel => exact ⟨k + 1, by omega, by go_num, hgo, belt⟩
      case measure => simp [intOf]; omega
    ·have hm : hasR ⟨qx, qy, qa, qb⟩ px py = false := by simp [hasR, c2]
     rw [show hasR ⟨qx, qy, qa, qb⟩ px py = false from hm] at hgo; have hgo := hdh (show hasL (l.drop (k + 1)) px py = R from hgo); clear hm; go_wp2; go_roundw
     case rel => exact ⟨k + 1, by omega, by go_num, hgo, belt⟩
     case measure => simp [intOf]; omega
   ·have hm : hasR ⟨qx, qy, qa, qb⟩ px py = false := by simp [hasR, c1]
    rw [show hasR ⟨qx, qy, qa, qb⟩ px py = false from hm] at hgo; have hgo := hdh (show hasL (l.drop (k + 1)) px py = R from hgo); clear hm; go_wp2; go_roundw
    case rel => exact ⟨k + 1, by omega, by go_num, hgo, belt⟩
    case measure => simp [intOf]; omega
  ·obtain rfl : k = n := by omega
   have hgo := hgo.out; rw [List.drop_eq_nil_of_le (by have := en.out; omega)] at hgo; have hgo : false = R := hgo; subst hgo; go_wp2; go_ret; exact ⟨rfl, hbr⟩
end
section
theorem grown_far {w w' : World} {r : Option Nat} (h : w.grownBy w' r) {b : Nat} (hb : b < w.heap.size) (hr : ∀ g, r = some g → g ≠ b) (o : Nat) : w'.cell? ⟨b, o, none⟩ = w.cell? ⟨b, o, none⟩ :=
 World.cell?_of_block (a := ⟨b, o, none⟩) (h.block b hb (fun e => hr b e.symm rfl))
end
section
theorem grown_set {w w' : World} {r : Option Nat} {g : Nat} (h : w.grownBy w' r) (hr : r = some g) (o : Nat) (u : Value) : w.grownBy (w'.setCell ⟨g, o, none⟩ u) r := by
 subst hr; refine ⟨h.os, h.tape, h.output, ?_, fun k hk hne => ?_⟩
 ·have e : (w'.setCell ⟨g, o, none⟩ u).heap.size = w'.heap.size := by simp
  rw [e]; exact h.size
 ·rw [heap_setCell_other _ _ _ _ (by rintro rfl; exact hne rfl)]
  exact h.block k hk hne
theorem own_putR {w : World} {base g n cap k : Nat} {C : List Re} {q : Re} (h : OwnsR base w (.slice (some ⟨g, 0, none⟩) n cap) C) (hn : C.length = n) (hq : C[k]? = some q) (u : Int) : OwnsR base (w.setCell ⟨g, k * 4 + 3, none⟩ (.int .i64 u)) (.slice (some ⟨g, 0, none⟩) n cap) (C.set k ⟨q.x, q.y, q.wd, u⟩) := by
 have hk := (List.getElem?_eq_some_iff.1 hq).1; unfold OwnsR at *; rw [List.length_set, hn]; rw [hn] at h; have := own_put h (k := k * 4 + 3) (by omega) (.int .i64 u); rw [flat_set Re.enc_len 3 (.int .i64 u) q ⟨q.x, q.y, q.wd, u⟩ (by omega) rfl C k hq] at this; exact this
theorem own_unfzR {w : World} {base g n cap : Nat} {C : List Re} (h : OwnsR base w (.slice (some ⟨g, 0, none⟩) n cap) C) (o : Nat) : w.frozen? ⟨g, o, none⟩ = false := by
 rcases h.2 with ⟨h0, _⟩ | ⟨g', cap', cur, hv, hg, hh, _⟩
 ·cases h0
 ·injection hv with hv _ _
  injection hv with hv
  injection hv with hv _ _
  subst hv
  simp [World.frozen?, hh]
end
section
theorem kHas_any (a : List Re) (va : Value) (px py : Int) (w : World) (ha : Row w.heap.size 4 Re.enc w va a) (wa : WfL a) :
  Calls Tryz.prog 80 #[va, .agg #[.int .i64 px, .int .i64 py]] w fun e w' => e = .returned (.tuple #[.bool (hasE a px py), .int .i64 (chkR a)]) ∧ Below w.heap.size w w' := by
 obtain ⟨wb, hwb⟩ : ∃ wb, wb = w.alloc (.cells #[.int .i64 px, .int .i64 py] 30) := ⟨_, rfl⟩
 have hb0 : Below w.heap.size w wb := by rw [hwb]; exact (Below.refl _ _).alloc lrr _
 have z0 : w.heap.size < wb.heap.size := by rw [hwb]; simp
 have g0 : wb.cell? ⟨w.heap.size, 0, none⟩ = some (.int .i64 px) := by rw [hwb]; exact World.cell?_alloc_at _ _ _ _ rfl
 have g1 : wb.cell? ⟨w.heap.size, 1, none⟩ = some (.int .i64 py) := by rw [hwb]; exact World.cell?_alloc_at _ _ _ _ rfl
 have AS := kasked_any a va wb ((ha.below hb0).mono hb0.size) wa; unfold hasE
 by_cases h0 : chkR a = 0
 ·rw [if_pos h0]
  rw [h0] at AS ⊢; obtain ⟨ma, la⟩ := chkR_may h0
  have HA := fun W (h : Below w.heap.size w W) => khas_any a va px py W ((ha.below h).mono h.size) ma
  generalize hasL a px py = o at *; replace AS := hdh AS; replace HA := hdh HA; clear ha h0
  go_enter Tryz.func80, Tryz.ntmps80
  go_upto_region 1 with fail
  rw [← hwb]; clear hwb
  go_wp2_with (first
   | (go_at_call 77; (with_reducible refine cmm (AS.out) fun w1 hb1 => ?_); have hb01 := hb0.trans (hb1.mono hb0.size); obtain ⟨hc1, hf1⟩ := bcell hb1)
   | (go_at_call 129; (with_reducible refine cmm (HA.out _ hb01) fun w2 hb2 => ?_))
   | go_in)
  go_ret2; exact ⟨rfl, hb01.trans (hb2.mono hb01.size)⟩
 ·rw [if_neg h0]
  have h0' : (chkR a == 0) = false := by simp [h0]
  have h0n : (chkR a != 0) = true := by simp [h0]
  generalize chkR a = E at *; replace AS := hdh AS; clear ha
  go_enter Tryz.func80, Tryz.ntmps80
  go_upto_region 1 with fail
  rw [← hwb]; clear hwb
  go_wp2_with (first
   | (go_at_call 77; (with_reducible refine cmm (AS.out) fun w1 hb1 => ?_))
   | go_in)
  go_ret2; exact ⟨rfl, hb0.trans (hb1.mono hb0.size)⟩
end
section
def ShC (wr : World) (q : Re) (wx : World) : Prop := RBox wx wr.heap.size q ∧ wr.heap.size + 1 ≤ wx.heap.size ∧ Below wr.heap.size wr wx
def Sh2 (w : World) (R : List Re) (xs : List St) (k : Nat) (M : List Re) (ov cv : Value) (wr : World) : Prop :=
 OwnsR w.heap.size wr ov (R.take k) ∧ OwnsR w.heap.size wr cv M ∧ Apart ov cv ∧ shGo M (xs.drop k) = R.drop k ∧ chkGo M.length (xs.drop k) = 0 ∧ (∀ q ∈ M, mayR q = true) ∧ M.length ≤ k ∧ Below w.heap.size w wr
theorem take_next {R : List Re} {k : Nat} {q : Re} (h : R[k]? = some q) : R.take (k + 1) = R.take k ++ [q] := by rw [List.take_add_one, h]; rfl
set_option maxRecDepth 100000 in
theorem kshown_any (xs : List St) (v : Value) (w : World) (hl : Row w.heap.size 15 St.enc w v xs) (k1 : ∀ s ∈ xs, s.Wf) (hc : chkL xs = 0) : Calls Tryz.prog 167 #[v] w fun e w' => ∃ v', e = .returned v' ∧ OwnsR w.heap.size w' v' (shL xs) ∧ Below w.heap.size w w' := by
 obtain ⟨iR, hr0, hr1, hr2, hr3⟩ := info_parts infoRe; obtain ⟨s0, cap, rfl, hmax⟩ := hl.shape
 have hopen := fun h0 => row_st hl h0
 have l1 := chk_len hc; have hg0 := chk_go hc; obtain ⟨n, hn⟩ := exx (xs.length); obtain ⟨R, hR⟩ := exx (shL xs)
 have hRl : R.length = n := by rw [← hR, shL_len, hn]
 have hRg : shGo [] xs = R := hR; rw [hn] at hopen hmax l1 ⊢; rw [hR]; clear hl hc hR; replace hopen := hdh hopen; replace k1 := hdh k1; replace hn := hdh hn; replace hRl := hdh hRl; replace hRg := hdh hRg; replace hg0 := hdh hg0
 go_enter Tryz.func167, Tryz.ntmps167
 go_wp2
 go_loopg [3, 4, 5] n (fun gg ov cv i wr => ∃ (k : Nat) (M : List Re), k ≤ n ∧ n - k ≤ gg ∧ i = .int .i64 k ∧ Sh2 w R xs k M ov cv wr)
 case atStart => exact ⟨0, [], Nat.zero_le _, by omega, rfl, World.ownsRow_nil _ _ _ _, World.ownsRow_nil _ _ _ _, Apart.none _ _ _, by simpa using hRg.out, hg0.out, by simp, Nat.le_refl _, Below.refl _ _⟩
 case round =>
  obtain ⟨k, M, hk, hgg, rfl, hrel⟩ := hrel; obtain ⟨hown, hclp, hap, hgo, hch, hM, hMk, hbr⟩ := hrel; have zr := hbr.size; obtain ⟨st0, cap0, rfl⟩ := own_slice hclp; obtain ⟨so, co, rfl⟩ := own_slice hown
  by_cases hkn : k < n
  ·obtain ⟨b, p, cap', e, hb, _, _, hel⟩ := hopen.out (by omega)
   simp at e
   obtain ⟨rfl, rfl⟩ := e; obtain ⟨s, hs⟩ := get_at hn.out hkn; obtain ⟨g0, g1, g2, g3, g4, g5, g6, g7, g8, g9, g10, g11, g12, g13, g14⟩ := hel k s hs; obtain ⟨hcr, hfr⟩ := bcell hbr; obtain ⟨he0, hop, hch'⟩ := chk_cons hs hch; rw [shGo_drop hs] at hgo; obtain ⟨hRk, hgo'⟩ := drop_head hgo.symm; obtain ⟨hlen, hpos⟩ := opn_len hop; have hmr := err_may he0; have hQ := shQ_may hM hmr; have hN := shN_may (s := s) hM hmr; have hle := shN_le M s
   have hkk : (k : Int) < n := by omega
   have yb : b < wr.heap.size := by omega
   have hto : (R.take k).length = k := by rw [List.length_take]; have := hRl.out; omega
   obtain ⟨m, hm⟩ := exx (M.length); clear hel hgo hch g6 g7 g8 g9 g10 g11 g12 g13 g14; rw [hto] at hown hap ⊢; rw [hm] at hle hMk hclp hap ⊢; replace hown := hdh hown; replace hclp := hdh hclp; replace hap := hdh hap; replace hRk := hdh hRk; replace hgo' := hdh hgo'; replace hch' := hdh hch'; replace hlen := hdh hlen; replace hpos := hdh hpos; replace he0 := hdh he0; replace hs := hdh hs; replace hM := hdh hM; replace hN := hdh hN; replace hQ := hdh hQ; replace hmr := hdh hmr; replace hm := hdh hm; replace hto := hdh hto
   go_upto_if 20 with fail
   go_cut [] (fun wx => ShC wr (shQ M s) wx)
   case first =>
    by_cases hm0 : 0 < m
    ·obtain ⟨t, ht, eQ⟩ := shQ_last (M := M) (s := s) (by have := hm.out; omega)
     have hmt := hM.out t (List.mem_of_getElem? ht)
     have A := fun w => kmeet1_any s.rect t w (may_wf hmr.out) (may_wf hmt)
     have hown' := hclp.out; unfold OwnsR at hown'; rw [hm.out] at hown'; obtain ⟨g, rfl, hg, hgl⟩ := own_addr hown' hm0; obtain ⟨r0, r1, r2, r3⟩ := own_rmem hclp.out ht; rw [hm.out] at r0 r1 r2 r3
     have hm1 : (0 : Int) < m := by omega
     have hm2 : (0 : Int) ≤ (m : Int) - 1 := by omega
     have hm3 : ((m : Int) - 1).toNat = m - 1 := by omega
     have hm4 : (m : Int) - 1 < m := by omega
     have hm5 : (1 : Int) ≤ m := by omega
     generalize meetR s.rect t = q at A eQ; replace A := hdh A; replace eQ := hdh eQ; clear ht hmt hown'; go_wp2; refine wp_region_steady_then (Held wr 1 [(⟨wr.heap.size, 0, none⟩, .int .i64 (s.rect).x), (⟨wr.heap.size, 1, none⟩, .int .i64 (s.rect).y), (⟨wr.heap.size, 2, none⟩, .int .i64 (s.rect).wd), (⟨wr.heap.size, 3, none⟩, .int .i64 (s.rect).ht)]) 8 (by kernel_rfl) (by kernel_rfl) (by decide) (by kernel_rfl) (by kernel_rfl) ⟨belt, (by (try simp) <;> omega), (by first | exact trivial | (simp only [Cells]; go_simp))⟩ ?_; simp only [List.take_succ_cons, List.take_zero]
     repeat (first | (refine' wpSteady_do _ _ _; rotate_left; (focus rfl); (focus (intro w1 hS R hR; have hc := hS.cells; simp only [Cells] at hc; obtain ⟨hco, hfo⟩ := bcell hS.old; go_simp; (try go_bits); first | exact hR _ hS | (go_at_call 121; (with_reducible refine cmm (A.out _) fun w2 hb2 => ?_); exact ⟨_, rfl, hR _ (hS.below hb2)⟩))); simp only [pu]) | (refine spa ?_; simp only [pu]))
     refine wpSteady_nil (fun u9 hS9 => ?_); obtain ⟨hc9, hb9, hz9, hco9, hfo9⟩ := hall hS9; clear hS9; simp only [Cells] at hc9; simp only [List.drop_succ_cons, List.drop_zero, List.drop_nil]; go_wp2; go_meet
     case rel =>
      rw [eQ.out]; exact ⟨⟨⟨by go_simp, by go_simp, by go_simp, by go_simp⟩, ⟨by go_simp, by go_simp, by go_simp, by go_simp⟩⟩, by simp; omega, belt⟩
    ·have e : M = [] := List.length_eq_zero_iff.1 (by have := hm.out; omega)
     have hm1 : m = 0 := by omega
     subst e; subst hm1; go_wp2; go_meet
     case rel =>
      rw [shQ_none]; exact ⟨⟨⟨by go_simp, by go_simp, by go_simp, by go_simp⟩, ⟨by go_simp, by go_simp, by go_simp, by go_simp⟩⟩, by simp, belt⟩
   case rest =>
    obtain ⟨⟨⟨x1, x2, x3, x4⟩, ⟨z1, z2, z3, z4⟩⟩, zc, hbc⟩ := hcut
    have E := fun w => kempty1_any (shQ M s) w (may_wf hQ.out)
    obtain ⟨q, hq⟩ := exx (shQ M s); obtain ⟨eb, heb⟩ := exx (emptyR q); rw [hq] at x1 x2 x3 x4 E; rw [heb] at E; replace E := hdh E
    have heb' : emptyR (shQ M s) = eb := by rw [hq]; exact heb
    replace hq := hdh hq; replace heb' := hdh heb'; clear heb
    have yl0 : wr.heap.size < wc.heap.size := by omega
    go_upto_if 30 with (first
     | (go_at_call 105; (with_reducible refine cmm (E.out _) fun w2 hb2 => ?_); obtain ⟨hc2, hf2⟩ := bcell hb2; have z2 := hb2.size)
     | go_in)
    have y20 : wr.heap.size < w2.heap.size := by omega
    have hbc2 : Below wr.heap.size wr w2 := hbc.trans (hb2.mono hbc.size)
    go_cut [] (fun wx => ShC wr (shR M s) wx)
    case first =>
     cases eb
     ·go_wp2
      go_meet
      case rel =>
       rw [shR_f heb'.out, hq.out]; exact ⟨⟨⟨by go_simp, by go_simp, by go_simp, by go_simp⟩, ⟨by go_simp, by go_simp, by go_simp, by go_simp⟩⟩, by omega, hbc2⟩
     ·go_wp2
      go_meet
      case rel =>
       rw [shR_t heb'.out]; exact ⟨⟨⟨by go_simp; rfl, by go_simp; rfl, by go_simp; rfl, by go_simp; rfl⟩, ⟨by go_simp, by go_simp, by go_simp, by go_simp⟩⟩, by simp; omega, belt⟩
    case rest =>
     (try clear hb2); (try clear hc2); (try clear hf2); (try clear hbc2); (try clear x1 x2 x3 x4); (try clear z1 z2 z3 z4); (try clear E); (try clear heb'); (try clear hq)
     obtain ⟨⟨⟨x1, x2, x3, x4⟩, ⟨z1, z2, z3, z4⟩⟩, zc, hbc⟩ := hcut; have hown2 := OwnsR.below hown.out hbc lrr; have hclp2 := OwnsR.below hclp.out hbc lrr; have hbrc := hbr.trans (hbc.mono zr); have zrc := hbrc.size; obtain ⟨hcc, hfc⟩ := bcell hbrc; obtain ⟨q, hq⟩ := exx (shR M s); rw [hq] at x1 x2 x3 x4 hRk
     have yl0 : wr.heap.size < wc.heap.size := by omega
     have lo := fun g h => (own_block_lt hown.out g h).2
     have lc := fun g h => (own_block_lt hclp.out g h).2
     have hcs : [.int .i64 q.x, .int .i64 q.y, .int .i64 q.wd, .int .i64 q.ht] = q.enc := rfl; replace hcs := hdh hcs; replace lo := hdh lo; replace lc := hdh lc; replace hclp2 := hdh hclp2; unfold OwnsR at hown2; rw [hto.out] at hown2; clear z1 z2 z3 z4 hcr hfr
     go_upto_region 11 with (first
      | (at_builtin; refine wpList_append_two rfl _ _ _ rfl w.heap.size 32 iR _ 4 32 Tryz.underlying25 hr0 hr1 hr2 hr3 rfl (by omega) wc 1 _ _ _ _ (by rfl) hown2 (by rfl) rfl (by simp [Value.oneCell']) (by omega) (by unfold maxLen; omega) (by omega) ?_; intro v6 w6 hown6 hgr6 htw6 hb6)
      | go_in)
     rw [flatR_snoc hcs.out, ← take_next hRk.out] at hown6
     have hown6 : OwnsR w.heap.size w6 v6 (R.take (k + 1)) := by
      unfold OwnsR; rw [List.length_take, Nat.min_eq_left (by have := hRl.out; omega)]; exact hown6
     have hclp6 : OwnsR w.heap.size w6 (.slice st0 m cap0) M := own_keep hclp2.out hgr6 (fun g h1 h2 => hap.out g h2 h1)
     have hap6 : Apart v6 (.slice st0 m cap0) := fun g h1 h2 => by
      rcases htw6 g h1 with h | h
      ·exact hap.out g h h2
      ·have := lc.out g h2; omega
     have far6 := fun o => grown_far hgr6 yl0 (fun g h => by have := lo.out g h; omega) o
     have x1 := (far6 0).trans x1; have x2 := (far6 1).trans x2; have x3 := (far6 2).trans x3; have x4 := (far6 3).trans x4; have hb06 : Below w.heap.size w w6 := hbrc.trans hb6; have z06 := hb06.size; have zc6 := hgr6.size
     have yl6 : wr.heap.size < w6.heap.size := by omega
     have lc6 : ∀ g, (Value.slice st0 m cap0).ownBlock = some g → g < wr.heap.size := lc.out; obtain ⟨so6, co6, rfl⟩ := own_slice hown6
     have lo6 := fun g h => (own_block_lt hown6 g h).2
     have hl6 : (R.take (k + 1)).length = k + 1 := by rw [List.length_take]; have := hRl.out; omega
     rw [hl6] at hown6 hap6 lo6 ⊢; clear far6 hown2 hgr6 htw6 hb6 hbc; replace hown6 := hdh hown6; replace hap6 := hdh hap6; replace lo6 := hdh lo6; replace lc6 := hdh lc6; replace hl6 := hdh hl6; obtain ⟨hcc6, hfc6⟩ := bcell hb06; have yb6 : b < w.heap.size := hb
     by_cases q4 : s.kind = 4
     ·have eN := shN_4 (M := M) q4
      rw [hq] at eN; rw [q4] at g0; have hclp7 := hclp6; unfold OwnsR at hclp7; rw [hm.out] at hclp7; replace eN := hdh eN; replace hclp6 := hdh hclp6; clear q4 hq
      go_wp2_with (first
       | ((at_builtin; refine wpList_append_two rfl _ _ _ rfl w.heap.size 32 iR _ 4 32 Tryz.underlying25 hr0 hr1 hr2 hr3 rfl (by omega) w6 1 _ _ _ _ (by rfl) hclp7 (by rfl) rfl (by simp [Value.oneCell']) (by omega) (by unfold maxLen; omega) (by omega) ?_; intro v7 w7 hown7 hgr7 htw7 hb7); obtain ⟨hcc7, hfc7⟩ := bcell (hb06.trans hb7))
       | go_in)
      rw [flatR_snoc hcs.out, ← eN.out] at hown7; have hb7' : Below w.heap.size w w7 := hb06.trans hb7; have hown8 : OwnsR w.heap.size w7 (.slice so6 (k + 1) co6) (R.take (k + 1)) := own_keep hown6.out hgr7 (fun g h1 h2 => hap6.out g h1 h2)
      have hap7 : Apart (.slice so6 (k + 1) co6) v7 := fun g h1 h2 => by
       rcases htw7 g h2 with h | h
       ·exact hap6.out g h1 h
       ·have := lo6.out g h1; omega
      replace hown7 := hdh hown7; replace hown8 := hdh hown8; replace hap7 := hdh hap7; clear hgr7 htw7 hclp7; go_wp2
      go_roundg (n - (k + 1))
      case measure => omega
      case rel =>
       refine ⟨k + 1, shN M s, by omega, by omega, by go_num, hown8.out, ?_, hap7.out, hgo'.out.symm, ?_, hN.out, by rw [eN.out]; simp; have := hm.out; omega, hb7'⟩
       ·unfold OwnsR
        rw [show (shN M s).length = m + 1 by rw [eN.out]; simp [hm.out]]; exact hown7.out
       ·rw [hlen.out]; exact hch'.out
     ·by_cases q5 : s.kind = 5
      ·have eN := shN_5 (M := M) q5
       have hp := hpos.out q5; rw [q5] at g0; have hpop : OwnsR w.heap.size w6 (.slice st0 (M.length - 1) cap0) M.dropLast := own_pop (by rw [hm.out]; exact hclp6) hp; rw [← eN, hm.out] at hpop; rw [hm.out] at hp; have hclp7 := hclp6; unfold OwnsR at hclp7; rw [hm.out] at hclp7; obtain ⟨g, rfl, hg, hgl⟩ := own_addr hclp7 hp; have hcap : m ≤ cap0 := (own_len hclp7).1
       have hap8 : Apart (.slice so6 (k + 1) co6) (.slice (some ⟨g, 0, none⟩) (m - 1) cap0) := fun g' h1 h2 => hap6.out g' h1 h2
       replace hpop := hdh hpop; replace eN := hdh eN; replace hap8 := hdh hap8
       have p1 : (0 : Int) ≤ (m : Int) - 1 := by omega
       have p2 : (1 : Int) ≤ m := by omega
       have p3 : (m : Int) - 1 ≤ cap0 := by omega
       have p4 : ((m : Int) - 1).toNat = m - 1 := by omega
       clear q4 q5 hclp6 hclp7 hq; go_wp2
       go_roundg (n - (k + 1))
       case measure => omega
       case rel =>
        refine ⟨k + 1, shN M s, by omega, by omega, by go_num, hown6.out, hpop.out, hap8.out, hgo'.out.symm, ?_, hN.out, by rw [eN.out, List.length_dropLast]; have := hm.out; omega, hb06⟩; rw [hlen.out]; exact hch'.out
      ·have eN := shN_o (M := M) q4 q5
       replace hclp6 := hdh hclp6; replace eN := hdh eN; clear hq; go_wp2
       go_roundg (n - (k + 1))
       case measure => omega
       case rel =>
        refine ⟨k + 1, shN M s, by omega, by omega, by go_num, hown6.out, by rw [eN.out]; exact hclp6.out, hap6.out, hgo'.out.symm, ?_, hN.out, by rw [eN.out]; have := hm.out; omega, hb06⟩; rw [hlen.out]; exact hch'.out
  ·obtain rfl : k = n := by omega
   rw [List.take_of_length_le (by have := hRl.out; omega)] at hown ⊢; replace hown := hdh hown; replace hclp := hdh hclp; replace hap := hdh hap; replace hgo := hdh hgo; replace hch := hdh hch; go_wp2; go_ret; exact ⟨_, rfl, hown.out, hbr⟩
end
section
open Go Go.RowKit
set_option linter.unusedSectionVars false
section
variable {P : Program} {ops : Array Oper} {S : World → Prop} {Q : Exit → Act → World → Prop} {obj : Nat → Obj}
abbrev ptrTo (b : Nat) : Value := .pointer (some ⟨b, 0, none⟩)
def StB (P : Program) (ops : Array Oper) (S : World → Prop) (o : Oper) (v : Value) (a : Act) : Prop :=
 (Region.wanted o (yielded ops a.tmps) = true ∧ ∀ w, S w → vwp P o a w (fun u w' => u = v ∧ Below w.heap.size w w')) ∨
 (Region.wanted o (yielded ops a.tmps) = false ∧ v = undef)
def NewB (P : Program) (ops : Array Oper) (S : World → Prop) (o : Oper) (ob : Obj) (a : Act) : Prop :=
 Region.wanted o (yielded ops a.tmps) = true ∧ ∀ w, S w → vwp P o a w (fun u w' => u = ptrTo w.heap.size ∧ w' = w.alloc ob)
theorem StB.of_same {o : Oper} {v : Value} {a a' : Act} (hy : StB P ops S o v a) (he : execOp a'.eval o = execOp a.eval o)
  (hw : Region.wanted o (yielded ops a'.tmps) = Region.wanted o (yielded ops a.tmps)) : StB P ops S o v a' := by
 unfold StB vwp at *; rw [he, hw]; exact hy
theorem NewB.of_same {o : Oper} {v : Obj} {a a' : Act} (hy : NewB P ops S o v a) (he : execOp a'.eval o = execOp a.eval o)
  (hw : Region.wanted o (yielded ops a'.tmps) = Region.wanted o (yielded ops a.tmps)) : NewB P ops S o v a' := by
 unfold NewB vwp at *; rw [he, hw]; exact hy
theorem StB.put {oi oj : Oper} {v u : Value} {a : Act} (hap : oi.apart ops oj = true) (hsi : ∀ cs b, oi.op ≠ .select cs b) (hy : StB P ops S oi v a) : StB P ops S oi v (a.put oj.dst u) := by
 obtain ⟨h1, h2, h3⟩ := Oper.apart_spec hap; exact hy.of_same (execOp_put oi hsi a oj.dst u h3) (wanted_put oi a oj.dst u h3)
theorem StB.unput {oi oj : Oper} {v u : Value} {a : Act} (hap : oi.apart ops oj = true) (hsi : ∀ cs b, oi.op ≠ .select cs b) (hy : StB P ops S oi v (a.put oj.dst u)) : StB P ops S oi v a := by
 obtain ⟨h1, h2, h3⟩ := Oper.apart_spec hap; exact hy.of_same (execOp_put oi hsi a oj.dst u h3).symm (wanted_put oi a oj.dst u h3).symm
theorem NewB.put {oi oj : Oper} {v : Obj} {u : Value} {a : Act} (hap : oi.apart ops oj = true) (hsi : ∀ cs b, oi.op ≠ .select cs b) (hy : NewB P ops S oi v a) : NewB P ops S oi v (a.put oj.dst u) := by
 obtain ⟨h1, h2, h3⟩ := Oper.apart_spec hap; exact hy.of_same (execOp_put oi hsi a oj.dst u h3) (wanted_put oi a oj.dst u h3)
theorem NewB.unput {oi oj : Oper} {v : Obj} {u : Value} {a : Act} (hap : oi.apart ops oj = true) (hsi : ∀ cs b, oi.op ≠ .select cs b) (hy : NewB P ops S oi v (a.put oj.dst u)) : NewB P ops S oi v a := by
 obtain ⟨h1, h2, h3⟩ := Oper.apart_spec hap; exact hy.of_same (execOp_put oi hsi a oj.dst u h3).symm (wanted_put oi a oj.dst u h3).symm
def Stab (U : World → Prop) : Prop := ∀ w w', U w → Below w.heap.size w w' → U w'
def andB (U : World → Prop) (b : Nat) (ob : Obj) : World → Prop := fun w => U w ∧ w.heap[b]? = some ob
def orB (N : Nat → Prop) (b : Nat) : Nat → Prop := fun x => N x ∨ x = b
theorem andB_comm (U : World → Prop) (b c : Nat) (x y : Obj) : andB (andB U b x) c y = andB (andB U c y) b x := by
 funext w; unfold andB; exact propext ⟨fun ⟨⟨h1, h2⟩, h3⟩ => ⟨⟨h1, h3⟩, h2⟩, fun ⟨⟨h1, h2⟩, h3⟩ => ⟨⟨h1, h3⟩, h2⟩⟩
theorem orB_comm (N : Nat → Prop) (b c : Nat) : orB (orB N b) c = orB (orB N c) b := by
 funext x; unfold orB; exact propext ⟨fun h => by rcases h with (h | h) | h <;> simp [h], fun h => by rcases h with (h | h) | h <;> simp [h]⟩
theorem Stab.and {U : World → Prop} (h : Stab U) (b : Nat) (ob : Obj) : Stab (andB U b ob) := by
 intro w w' ⟨h1, h2⟩ hb
 refine ⟨h w w' h1 hb, ?_⟩; have : b < w.heap.size := (Array.getElem?_eq_some_iff.1 h2).1; exact (hb.block b this).trans h2
def tmAny (P : Program) (ops : Array Oper) (S : World → Prop) (obj : Nat → Obj) (m n : Nat) (L : Array Bool → (World → Prop) → (Nat → Prop) → Act → Prop) : Nat → Array Bool → (World → Prop) → (Nat → Prop) → Act → Prop
  | 0, listed, U, N, a => L listed U N a
  | f + 1, listed, U, N, a => Region.ready .any ops listed ≠ [] ∧
      ∀ i ∈ Region.ready .any ops listed, i < n ∧ ∃ o, ops[i]? = some o ∧
        ((i < m ∧ ∃ v, StB P ops S o v a ∧ tmAny P ops S obj m n L f (listed.setIfInBounds i true) U N (a.put o.dst v)) ∨
         (m ≤ i ∧ NewB P ops S o (obj i) a ∧ ∀ b, ¬ N b → tmAny P ops S obj m n L f (listed.setIfInBounds i true) (andB U b (obj i)) (orB N b) (a.put o.dst (ptrTo b))))
theorem StB.wpOp {i : Nat} {o : Oper} {v : Value} {a : Act} (hi : ops[i]? = some o) (hy : StB P ops S o v a) {K : Act → World → Prop} {w : World} (hS : S w)
  (h : ∀ w', Below w.heap.size w w' → K (a.put o.dst v) w') : wpOp P ops Q i K a w := by
 unfold Go.wpOp; simp only [hi]
 rcases hy with ⟨hw, hv⟩ | ⟨hw, rfl⟩
 ·simp only [hw, if_true]
  left
  have hv := hv w hS; unfold vwp at hv; unfold Oper.wp; generalize (execOp a.eval o).run P w = r at *
  cases r with
  | ok n w' =>
   cases n <;> simp only [vUpon] at hv <;> simp only [Oper.upon]
   case value u => obtain ⟨rfl, hs⟩ := hv; exact h _ hs
   case skip => obtain ⟨rfl, hs⟩ := hv; exact h _ hs
   case enter f args => exact Calls.mono hv fun e w'' ⟨u, he, hu, hs⟩ => by subst he; subst hu; exact h _ hs
   case row row args => exact Rows.mono hv fun u w'' ⟨hu, hs⟩ => by subst hu; exact h _ hs
  | halt x w' => simp only [vUpon] at hv
 ·simp only [hw, Bool.false_eq_true, if_false]; exact h _ (Below.refl _ _)
theorem NewB.wpOp {i : Nat} {o : Oper} {ob : Obj} {a : Act} (hi : ops[i]? = some o) (hy : NewB P ops S o ob a) {K : Act → World → Prop} {w : World} (hS : S w)
  (h : K (a.put o.dst (ptrTo w.heap.size)) (w.alloc ob)) : wpOp P ops Q i K a w := by
 unfold Go.wpOp; simp only [hi]; obtain ⟨hw, hv⟩ := hy; simp only [hw, if_true]
 left
 have hv := hv w hS; unfold vwp at hv; unfold Oper.wp; generalize (execOp a.eval o).run P w = r at *
 cases r with
 | ok n w' =>
  cases n <;> simp only [vUpon] at hv <;> simp only [Oper.upon]
  case value u => obtain ⟨rfl, rfl⟩ := hv; exact h
  case skip => obtain ⟨e, rfl⟩ := hv; rw [e]; exact h
  case enter f args => exact Calls.mono hv fun e w'' ⟨u, he, hu, hs⟩ => by subst he; subst hu; subst hs; exact h
  case row row args => exact Rows.mono hv fun u w'' ⟨hu, hs⟩ => by subst hu; subst hs; exact h
 | halt x w' => simp only [vUpon] at hv
theorem wpAny_of_tm {m n g : Nat} {L : Array Bool → (World → Prop) → (Nat → Prop) → Act → Prop} (hSt : Stab S)
  (hL : ∀ listed U N a w, S w → U w → (∀ b, N b → b < w.heap.size) → L listed U N a → wpAny P .any ops Q g listed a w) :
  ∀ (f : Nat) (listed : Array Bool) (U : World → Prop) (N : Nat → Prop) (a : Act) (w : World), S w → U w → Stab U → (∀ b, N b → b < w.heap.size) → tmAny P ops S obj m n L f listed U N a → wpAny P .any ops Q (f + g) listed a w
 | 0, listed, U, N, a, w, hS, hU, hst, hN, h => by rw [Nat.zero_add]; exact hL _ _ _ _ _ hS hU hN h
 | f + 1, listed, U, N, a, w, hS, hU, hst, hN, h => by
  rw [show f + 1 + g = (f + g) + 1 by omega]; refine ⟨fun h0 => absurd h0 h.1, fun i hi => ?_⟩; obtain ⟨_, o, ho, h⟩ := h.2 i hi
  rcases h with ⟨_, v, hy, hr⟩ | ⟨_, hy, hr⟩
  ·exact hy.wpOp ho hS fun w' hb => wpAny_of_tm hSt hL f _ _ _ _ w' (hSt _ _ hS hb) (hst _ _ hU hb) hst (fun b h => Nat.lt_of_lt_of_le (hN b h) hb.size) hr
  ·refine hy.wpOp ho hS ?_
   have hb : Below w.heap.size w (w.alloc (obj i)) := (Below.refl _ _).alloc lrr _
   have hsz : (w.alloc (obj i)).heap.size = w.heap.size + 1 := by simp
   have e : (w.alloc (obj i)).heap[w.heap.size]? = some (obj i) := by
    have : (w.alloc (obj i)).heap = w.heap.push (obj i) := rfl; rw [this]
    simp
   have hN' : ∀ b, orB N w.heap.size b → b < (w.alloc (obj i)).heap.size := fun b h => by
    rw [hsz]
    rcases h with h | h
    ·have := hN b h; omega
    ·omega
   exact wpAny_of_tm hSt hL f _ _ _ _ _ (hSt _ _ hS hb) ⟨hst _ _ hU hb, e⟩ (hst.and _ _) hN' (hr w.heap.size (fun h => Nat.lt_irrefl _ (hN _ h)))
section
variable {M : Array Nat} (hg : Good ops M) (hsel : Region.noSelect ops = true) {s m n i : Nat} {oi : Oper} {L : Array Bool → (World → Prop) → (Nat → Prop) → Act → Prop}
include hg hsel
theorem tm_apart {j : Nat} {oj : Oper} {listed : Array Bool} (hi : ops[i]? = some oi) (hoj : ops[j]? = some oj) (hc : Closed ops listed) (hr : i ∈ Region.ready .any ops listed) (hj : j ∈ Region.ready .any ops listed) (hji : j ≠ i) :
  (oi.apart ops oj = true ∧ oj.apart ops oi = true) ∧ (∀ cs b, oi.op ≠ .select cs b) ∧ (∀ cs b, oj.op ≠ .select cs b) := by
 obtain ⟨hjun, _⟩ := mem_ready.1 hj; have hiun := (mem_ready.1 hr).1; refine ⟨?_, fun cs b => Region.noSelect_spec hsel i oi cs b hi, fun cs b => Region.noSelect_spec hsel j oj cs b hoj⟩
 rcases hg.apart i j oi oj hi hoj (Ne.symm hji) with h | h | h
 ·have h1 := hc.ready hg hj h
  rw [getD_both hiun] at h1; cases h1
 ·have h1 := hc.ready hg hr h
  rw [getD_both hjun] at h1; cases h1
 ·exact h
theorem tm_below (hin : i < n) (him : s ≤ i) (htail : ∀ t, n ≤ t → t < ops.size → ∀ i, s ≤ i → i < n → R M t i) {listed : Array Bool} (hc : Closed ops listed) (hr : i ∈ Region.ready .any ops listed) : ∀ j ∈ Region.ready .any ops listed, j < n := by
 intro j hj
 rcases Nat.lt_or_ge j n with h | h
 ·exact h
 ·obtain ⟨_, oj, hoj, _⟩ := mem_ready.1 hj
  have hjs : j < ops.size := (Array.getElem?_eq_some_iff.1 hoj).1; have h1 := hc.ready hg hj (htail j h hjs i him hin); rw [getD_both (mem_ready.1 hr).1] at h1
  cases h1
theorem tm_first_st (hi : ops[i]? = some oi) (hin : i < n) (him : s ≤ i) (hi_m : i < m)
  (htail : ∀ t, n ≤ t → t < ops.size → ∀ i, s ≤ i → i < n → R M t i)
  (hdone : ∀ listed U N a, L listed U N a → ∀ j ∈ Region.ready .any ops listed, n ≤ j) {v : Value} :
  ∀ (f : Nat) (listed : Array Bool) (U : World → Prop) (N : Nat → Prop) (a : Act), Closed ops listed →
   i ∈ Region.ready .any ops listed → StB P ops S oi v a →
   tmAny P ops S obj m n L f (listed.setIfInBounds i true) U N (a.put oi.dst v) → tmAny P ops S obj m n L (f + 1) listed U N a := by
 intro f
 induction f with
 | zero =>
  intro listed U N a hc hr hy H
  refine ⟨fun h => (by rw [h] at hr; cases hr), fun j hj => ?_⟩; have hjn := tm_below hg hsel hin him htail hc hr j hj; refine ⟨hjn, ?_⟩
  by_cases hji : j = i
  ·subst hji; exact ⟨oi, hi, .inl ⟨hi_m, v, hy, H⟩⟩
  ·have := hdone _ _ _ _ H j (ready_mono hj hji)
   omega
 | succ f ih =>
  intro listed U N a hc hr hy H
  refine ⟨fun h => (by rw [h] at hr; cases hr), fun j hj => ?_⟩; have hjn := tm_below hg hsel hin him htail hc hr j hj; refine ⟨hjn, ?_⟩
  by_cases hji : j = i
  ·subst hji; exact ⟨oi, hi, .inl ⟨hi_m, v, hy, H⟩⟩
  ·obtain ⟨_, oj, hoj, h⟩ := H.2 j (ready_mono hj hji)
   obtain ⟨hap, hsi, hsj⟩ := tm_apart hg hsel hi hoj hc hr hj hji; refine ⟨oj, hoj, ?_⟩
   rcases h with ⟨hjm, u, hyj, hrest⟩ | ⟨hjm, hyj, hrest⟩
   ·refine .inl ⟨hjm, u, hyj.unput hap.2 hsj, ih _ _ _ _ (hc.set hj) (ready_mono hr (Ne.symm hji)) (hy.put hap.1 hsi) ?_⟩
    rw [Array.setIfInBounds_comm _ _ hji, Act.put_comm _ _ _ (Oper.apart_spec hap.2).2.1]; exact hrest
   ·refine .inr ⟨hjm, hyj.unput hap.2 hsj, fun b hb => ih _ _ _ _ (hc.set hj) (ready_mono hr (Ne.symm hji)) (hy.put hap.1 hsi) ?_⟩
    rw [Array.setIfInBounds_comm _ _ hji, Act.put_comm _ _ _ (Oper.apart_spec hap.2).2.1]; exact hrest b hb
theorem tm_first_new (hi : ops[i]? = some oi) (hin : i < n) (him : s ≤ i) (hi_m : m ≤ i)
  (htail : ∀ t, n ≤ t → t < ops.size → ∀ i, s ≤ i → i < n → R M t i)
  (hdone : ∀ listed U N a, L listed U N a → ∀ j ∈ Region.ready .any ops listed, n ≤ j) :
  ∀ (f : Nat) (listed : Array Bool) (U : World → Prop) (N : Nat → Prop) (a : Act), Closed ops listed → (∀ j ∈ Region.ready .any ops listed, m ≤ j) → (∃ B, ∀ b, N b → b < B) →
   i ∈ Region.ready .any ops listed → NewB P ops S oi (obj i) a →
   (∀ b, ¬ N b → tmAny P ops S obj m n L f (listed.setIfInBounds i true) (andB U b (obj i)) (orB N b) (a.put oi.dst (ptrTo b))) → tmAny P ops S obj m n L (f + 1) listed U N a := by
 intro f
 induction f with
 | zero =>
  intro listed U N a hc hall ⟨B, hB⟩ hr hy H
  refine ⟨fun h => (by rw [h] at hr; cases hr), fun j hj => ?_⟩; have hjn := tm_below hg hsel hin him htail hc hr j hj; refine ⟨hjn, ?_⟩
  by_cases hji : j = i
  ·subst hji; exact ⟨oi, hi, .inr ⟨hi_m, hy, H⟩⟩
  ·have := hdone _ _ _ _ (H B (fun h => Nat.lt_irrefl _ (hB _ h))) j (ready_mono hj hji)
   omega
 | succ f ih =>
  intro listed U N a hc hall ⟨B, hB⟩ hr hy H
  refine ⟨fun h => (by rw [h] at hr; cases hr), fun j hj => ?_⟩; have hjn := tm_below hg hsel hin him htail hc hr j hj; refine ⟨hjn, ?_⟩
  by_cases hji : j = i
  ·subst hji; exact ⟨oi, hi, .inr ⟨hi_m, hy, H⟩⟩
  ·have hjm := hall j hj
   obtain ⟨_, oj, hoj, h⟩ := (H B (fun h => Nat.lt_irrefl _ (hB _ h))).2 j (ready_mono hj hji); obtain ⟨hap, hsi, hsj⟩ := tm_apart hg hsel hi hoj hc hr hj hji; refine ⟨oj, hoj, .inr ⟨hjm, ?_, fun c hcN => ?_⟩⟩
   ·rcases h with ⟨h, _⟩ | ⟨_, hyj, _⟩
    ·omega
    ·exact hyj.unput hap.2 hsj
   ·refine ih _ _ _ _ (hc.set hj) (fun k hk => ?_) ⟨max B (c + 1), fun b hb => ?_⟩ (ready_mono hr (Ne.symm hji)) (hy.put hap.1 hsi) (fun b hbN => ?_)
    ·rcases Nat.lt_or_ge k m with hlt | hge
     ·have hkr : k ∈ Region.ready .any ops listed := by
       obtain ⟨h0, ok, hok, hall'⟩ := mem_ready.1 hk
       have hkj : j ≠ k := by omega
       refine mem_ready.2 ⟨by rwa [getD_set_ne _ hkj] at h0, ok, hok, fun e he hb => ?_⟩; have hl := hall' e he hb; have hle := hg.lt k ok hok e he hb
       rwa [getD_set_ne false (by omega)] at hl
      have := hall k hkr; omega
     ·exact hge
    ·rcases hb with hb | hb
     ·have := hB b hb; omega
     ·omega
    ·have hb1 : ¬ N b := fun h => hbN (.inl h)
     have hcb : ¬ orB N b c := fun h => by
      rcases h with h | h
      ·exact hcN h
      ·exact hbN (.inr h.symm)
     obtain ⟨_, oj', hoj', h'⟩ := (H b hb1).2 j (ready_mono hj hji); obtain rfl : oj' = oj := Option.some.inj (hoj'.symm.trans hoj)
     rcases h' with ⟨h, _⟩ | ⟨_, _, hrest⟩
     ·omega
     ·have := hrest c hcb
      rw [Array.setIfInBounds_comm _ _ hji, Act.put_comm _ _ _ (Oper.apart_spec hap.2).2.1, andB_comm, orB_comm]; exact this
end
def wpStB (P : Program) (ops : Array Oper) (S : World → Prop) (F : Act → Prop) : List Oper → Act → Prop
 | [], a => F a
 | o :: rest, a => ∃ v, StB P ops S o v a ∧ wpStB P ops S F rest (a.put o.dst v)
theorem wpStB_nil {F : Act → Prop} {a : Act} (h : F a) : wpStB P ops S F [] a := h
theorem wpStB_do {F : Act → Prop} {a : Act} {o : Oper} {rest : List Oper} {v : Value} (hw : Region.wanted o (yielded ops a.tmps) = true)
  (h : ∀ w, S w → ∀ R : Value → World → Prop, (∀ w', Below w.heap.size w w' → R v w') → vwp P o a w R) (hr : wpStB P ops S F rest (a.put o.dst v)) : wpStB P ops S F (o :: rest) a :=
 ⟨v, .inl ⟨hw, fun w hS => h w hS _ fun w' hS' => ⟨rfl, hS'⟩⟩, hr⟩
def wpNews (P : Program) (ops : Array Oper) (S : World → Prop) (obj : Nat → Obj) (F : (World → Prop) → (Nat → Prop) → Act → Prop) : List Oper → Nat → (World → Prop) → (Nat → Prop) → Act → Prop
 | [], _, U, N, a => F U N a
 | o :: rest, i, U, N, a => NewB P ops S o (obj i) a ∧ ∀ b, ¬ N b → wpNews P ops S obj F rest (i + 1) (andB U b (obj i)) (orB N b) (a.put o.dst (ptrTo b))
theorem wpNews_nil {F : (World → Prop) → (Nat → Prop) → Act → Prop} {i : Nat} {U : World → Prop} {N : Nat → Prop} {a : Act} (h : F U N a) : wpNews P ops S obj F [] i U N a := h
theorem wpNews_do {F : (World → Prop) → (Nat → Prop) → Act → Prop} {i : Nat} {U : World → Prop} {N : Nat → Prop} {a : Act} {o : Oper} {rest : List Oper} (hw : Region.wanted o (yielded ops a.tmps) = true)
  (h : ∀ w, S w → ∀ R : Value → World → Prop, R (ptrTo w.heap.size) (w.alloc (obj i)) → vwp P o a w R)
  (hr : ∀ b, ¬ N b → wpNews P ops S obj F rest (i + 1) (andB U b (obj i)) (orB N b) (a.put o.dst (ptrTo b))) : wpNews P ops S obj F (o :: rest) i U N a :=
 ⟨⟨hw, fun w hS => h w hS _ ⟨rfl, rfl⟩⟩, hr⟩
theorem wp_region_tame {id : Nat} {a : Act} {w : World} (S : World → Prop) (obj : Nat → Obj) (K m n : Nat) (hm : P.follows .mixedOrders = true) (hgb : goodB ops (Region.before ops) = true) (hmn : m ≤ n) (hn : n ≤ ops.size)
  (ht : tailB ops (Region.before ops) 0 n = true) (hc : chainedB ops (Region.before ops) n = true) (hSt : Stab S) (hK : K ≤ w.heap.size) (hS : S w.drew)
  (h : wpStB P ops S (fun a' => wpNews P ops S obj (fun U N a'' => ∀ w', S w' → U w' → (∀ b, N b → b < w'.heap.size) → wpList P ops Q (ops.toList.drop n) a'' w') ((ops.toList.drop m).take (n - m)) m (fun _ => True) (fun b => b < K) a') (ops.toList.take m) a) :
  (Code.region id ops true).wp P Q a w := by
 obtain ⟨hg, hsel⟩ := good_of hgb
 have htail : ∀ t, n ≤ t → t < ops.size → ∀ i, 0 ≤ i → i < n → R (Region.before ops) t i := fun t h1 h2 i h3 h4 => by
  have := List.all_eq_true.1 ht t (List.mem_range.2 h2); simp only [Bool.or_eq_true, decide_eq_true_eq] at this
  rcases this with h | h
  ·omega
  ·have := List.all_eq_true.1 h i (List.mem_range.2 h4)
   simp only [Bool.or_eq_true, decide_eq_true_eq] at this
   rcases this with h | h
   ·omega
   ·exact h
 let F : (World → Prop) → (Nat → Prop) → Act → Prop := fun U N a'' => ∀ w', S w' → U w' → (∀ b, N b → b < w'.heap.size) → wpList P ops Q (ops.toList.drop n) a'' w'
 let L : Array Bool → (World → Prop) → (Nat → Prop) → Act → Prop := fun listed U N a' => listed = firstN ops.size n ∧ F U N a'
 have hdone : ∀ listed U N a, L listed U N a → ∀ j ∈ Region.ready .any ops listed, n ≤ j := fun listed U N a hl j hj => by
  rw [hl.1] at hj; exact (ready_firstN_ge hj).1
 have news : ∀ (c k : Nat) (U : World → Prop) (N : Nat → Prop) (a : Act), k + c = n → m ≤ k → (∃ B, ∀ b, N b → b < B) → wpNews P ops S obj F ((ops.toList.drop k).take c) k U N a → tmAny P ops S obj m n L c (firstN ops.size k) U N a := by
  intro c
  induction c with
  | zero =>
   intro k U N a hk hmk _ h
   simp only [List.take_zero, wpNews] at h
   have : k = n := by omega
   subst this; exact ⟨rfl, h⟩
  | succ c ih =>
   intro k U N a hk hmk hB h
   have hks : k < ops.size := by omega
   have hd : ops.toList.drop k = ops[k] :: ops.toList.drop (k + 1) := by
    rw [List.drop_eq_getElem_cons (by simpa using hks)]; rfl
   rw [hd, List.take_succ_cons] at h; obtain ⟨hy, hr⟩ := h; refine tm_first_new hg hsel (s := 0) (Array.getElem?_eq_getElem hks) (by omega) (Nat.zero_le _) hmk htail hdone c _ _ _ _ (Closed.firstN hg k) (fun j hj => Nat.le_trans hmk (ready_firstN_ge hj).1) hB (ready_firstN hg hks) hy (fun b hb => ?_); rw [firstN_set]; refine ih (k + 1) _ _ _ (by omega) (by omega) ?_ (hr b hb); obtain ⟨B, hB⟩ := hB
   exact ⟨max B (b + 1), fun x hx => by
    rcases hx with hx | hx
    ·have := hB x hx; omega
    ·omega⟩
 have steady : ∀ (c k : Nat) (a : Act), k + c = m → wpStB P ops S (fun a' => wpNews P ops S obj F ((ops.toList.drop m).take (n - m)) m (fun _ => True) (fun b => b < K) a') ((ops.toList.drop k).take c) a →
   tmAny P ops S obj m n L (c + (n - m)) (firstN ops.size k) (fun _ => True) (fun b => b < K) a := by
  intro c
  induction c with
  | zero =>
   intro k a hk h
   simp only [List.take_zero, wpStB] at h
   have : k = m := by omega
   subst this; rw [Nat.zero_add]; exact news (n - k) k _ _ _ (by omega) lrr ⟨K, fun b h => h⟩ h
  | succ c ih =>
   intro k a hk h
   have hks : k < ops.size := by omega
   have hd : ops.toList.drop k = ops[k] :: ops.toList.drop (k + 1) := by
    rw [List.drop_eq_getElem_cons (by simpa using hks)]; rfl
   rw [hd, List.take_succ_cons] at h; obtain ⟨v, hy, hr⟩ := h; rw [show c + 1 + (n - m) = (c + (n - m)) + 1 by omega]; refine tm_first_st hg hsel (s := 0) (Array.getElem?_eq_getElem hks) (by omega) (Nat.zero_le _) (by omega) htail hdone _ _ _ _ _ (Closed.firstN hg k) (ready_firstN hg hks) hy ?_; rw [firstN_set]; exact ih (k + 1) _ (by omega) hr
 refine wp_region_from hm ?_; have h0 := steady m 0 a (by omega) (by rw [List.drop_zero]; exact h); rw [show m + (n - m) = n by omega] at h0; unfold wpFrom; rw [show ops.size - 0 = n + (ops.size - n) by omega]; refine wpAny_of_tm hSt (fun listed U N a' w' hS' hU hN hl => ?_) n _ _ _ _ _ hS trivial (fun _ _ _ _ => trivial) (fun b hb => Nat.lt_of_lt_of_le hb hK) h0; obtain ⟨rfl, hF⟩ := hl; exact wpFrom_list hg _ n rfl hc (hF w' hS' hU hN)
theorem Held.stab (w : World) (k : Nat) (l : List (Addr × Value)) : Stab (Held w k l) := fun _ _ h hb => h.below hb
end
end
end Go.Proofs.YtfcphagmjijmkaaGreatDoor
