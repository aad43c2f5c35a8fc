/-
  Cells' laws: cells are written over, and grown (law15.spoil).
-/
import Derived.Maps.AppendAt
import Derived.Shelf.SlSortCmp.WholeK
import Derived.Shelf.Slices.CompactI
import Derived.Shelf.Slices.In.SortNone
import Derived.Shelf.Sort.Plain
import Derived.SizedLaws
import Derived.Sort.OwnSortedInts
import Derived.Test.YtffmomgmkpmpkaaGreatDoorProg
import Derived.Test.YtffmomgmkpmpkaaGreatDoorKd40
namespace Go.Proofs.YtffmomgmkpmpkaaGreatDoor
open Go.RowKit
set_option linter.unusedVariables false
attribute [local go_sem] vwp vUpon_value vUpon_skip vUpon_enter vUpon_row
set_option linter.unusedSimpArgs false
set_option linter.unusedVariables false
/-- A row of cells of the call's own, whatever they hold. -/
def AnyC (base : Nat) (w : World) (v : Value) (n : Nat) : Prop := ∃ zs, w.ownsRow base 52 11 v n zs
theorem AnyC.set {base n : Nat} {w : World} {v : Value} (h : AnyC base w v n) (b o : Nat) (u : Value) : AnyC base (w.setCell ⟨b, o, none⟩ u) v n := by
  obtain ⟨zs, hl, hr⟩ := h
  rcases hr with ⟨rfl, h0⟩ | ⟨g, cap, cur, rfl, hb, hg, hc, hm, hs, ht⟩
  · exact ⟨zs, hl, .inl ⟨rfl, h0⟩⟩
  · by_cases hga : g = b
    · subst hga
      refine ⟨(cur.setIfInBounds o u).toList.take (n * 11), ?_, .inr ⟨g, cap, _, rfl, hb, heap_setCell_same _ _ _ _ _ _ hg, hc, hm, by simpa using hs, rfl⟩⟩
      rw [List.length_take, Array.length_toList, Array.size_setIfInBounds]
      have : n * 11 ≤ cap * 11 := Nat.mul_le_mul_right _ hc
      omega
    · exact ⟨zs, hl, .inr ⟨g, cap, cur, rfl, hb, by rw [heap_setCell_other _ _ _ _ hga]; exact hg, hc, hm, hs, ht⟩⟩
theorem AnyC.cells {base n : Nat} {w : World} {v : Value} (h : AnyC base w v n) (h0 : 0 < n) : ∃ g cap, v = .slice (some ⟨g, 0, none⟩) n cap ∧ base ≤ g ∧ g < w.heap.size ∧ n ≤ cap ∧ cap ≤ maxLen ∧ (∀ o, o < n * 11 → ∃ u, w.cell? ⟨g, o, none⟩ = some u) ∧ ∀ o, w.frozen? ⟨g, o, none⟩ = false := by
  obtain ⟨zs, hl, hr⟩ := h
  rcases hr with ⟨_, h1⟩ | ⟨g, cap, cur, rfl, hb, hg, hc, hm, hs, ht⟩
  · omega
  · refine ⟨g, cap, rfl, hb, (Array.getElem?_eq_some_iff.1 hg).1, hc, hm, fun o ho => ?_, fun o => by simp [World.frozen?, hg]⟩
    have : n * 11 ≤ cap * 11 := Nat.mul_le_mul_right _ hc
    refine ⟨cur[o]'(by omega), ?_⟩
    simp only [World.cell?, hg]
    simp [Array.getElem?_eq_getElem (show o < cur.size by omega)]
theorem grownC_set {w wr : World} {o : Option Nat} (h : w.grownBy wr o) (b k : Nat) (u : Value) (hb : some b = o ∨ w.heap.size ≤ b) : w.grownBy (wr.setCell ⟨b, k, none⟩ u) o := by
  refine ⟨h.os, h.tape, h.output, by simpa using h.size, fun q hq hne => ?_⟩
  rw [heap_setCell_other _ _ _ _ (fun e => by
    rcases hb with hb | hb
    · exact hne (by rw [← hb]; exact congrArg some e)
    · have e : q = b := e
      omega)]
  exact h.block q hq hne
theorem grownC_alloc {w wr : World} {o : Option Nat} (h : w.grownBy wr o) (ob : Obj) : w.grownBy (wr.alloc ob) o :=
  ⟨h.os, h.tape, h.output, by have := h.size; simp; omega, fun q hq hne => (Below.heap_alloc wr ob q (by have := h.size; omega)).trans (h.block q hq hne)⟩
theorem grownC_grown {w wr w2 : World} {o o2 : Option Nat} (h : w.grownBy wr o) (h2 : wr.grownBy w2 o2) (hx : o2 = o ∨ ∀ k, o2 = some k → w.heap.size ≤ k) : w.grownBy w2 o := by
  refine ⟨h2.os.trans h.os, h2.tape.trans h.tape, h2.output.trans h.output, by have := h.size; have := h2.size; omega, fun q hq hne => ?_⟩
  refine (h2.block q (by have := h.size; omega) (fun e => ?_)).trans (h.block q hq hne)
  rcases hx with hx | hx
  · exact hne (e.trans hx)
  · have := hx q e.symm
    omega
/-- Where a row lies that was v0's to begin with. -/
def Near (w : World) (v0 v : Value) : Prop := v.ownBlock = v0.ownBlock ∨ ∃ k, v.ownBlock = some k ∧ w.heap.size ≤ k
set_option maxHeartbeats 4000000 in
set_option maxRecDepth 100000 in
theorem spoilC_any (base : Nat) (cs : List Ce) (v : Value) (w : World) (h : OwnsC base w v cs) (hm : cs.length ≤ 1000000) : Calls Tryz.prog 17 #[v] w fun e w' => e = .returned (.tuple #[]) ∧ w.grownBy w' v.ownBlock := by
 obtain ⟨iM, hi0, hm0, hm1, hm2⟩ := info_parts infoCe
 obtain ⟨n, en⟩ : ∃ n, cs.length = n := ⟨_, rfl⟩
 obtain ⟨s0, cap0, rfl⟩ := own_slice h
 obtain ⟨OB, hOB⟩ : ∃ o, (Value.slice s0 cs.length cap0).ownBlock = o := ⟨_, rfl⟩
 rw [hOB]
 have h0 : AnyC 0 w (.slice s0 cs.length cap0) cs.length := ⟨_, own_low h (Nat.zero_le _)⟩
 rw [en] at h0 hOB hm ⊢
 clear h
 replace h0 := Lib.hid h0
 replace hOB := Lib.hid hOB
 go_enter Tryz.func17, Tryz.ntmps17
 go_upto_region 1 with fail
 go_loopw [2] (fun iv wr => ∃ i : Nat, i ≤ n ∧ iv = .int .i64 i ∧ Hid (AnyC 0 wr (.slice s0 n cap0) n) ∧ Hid (w.grownBy wr OB)) (fun iv _ => n - (intOf iv).toNat)
 case atStart => exact ⟨0, Nat.zero_le _, rfl, h0, Lib.hid (grown_refl _ _)⟩
 case round =>
  clear h0
  obtain ⟨i, hi, rfl, hsp, hgr⟩ := hrel
  by_cases hin : i < n
  ·have hii : (i : Int) < n := by omega
   obtain ⟨g, cap, ev, hbg, hgl, hnc, hcm, hce, hf⟩ := hsp.out.cells (by omega)
   simp only [Value.slice.injEq] at ev
   obtain ⟨rfl, _, rfl⟩ := ev
   have hgb : some g = OB ∨ w.heap.size ≤ g := .inl (by rw [← hOB.out]; rfl)
   obtain ⟨u0, q0⟩ := hce (i * 11) (by omega)
   obtain ⟨u1, q1⟩ := hce (i * 11 + 1) (by omega)
   obtain ⟨u2, q2⟩ := hce (i * 11 + 2) (by omega)
   obtain ⟨u3, q3⟩ := hce (i * 11 + 3) (by omega)
   obtain ⟨u4, q4⟩ := hce (i * 11 + 4) (by omega)
   obtain ⟨u5, q5⟩ := hce (i * 11 + 5) (by omega)
   obtain ⟨u6, q6⟩ := hce (i * 11 + 6) (by omega)
   obtain ⟨u7, q7⟩ := hce (i * 11 + 7) (by omega)
   obtain ⟨u8, q8⟩ := hce (i * 11 + 8) (by omega)
   obtain ⟨u9, q9⟩ := hce (i * 11 + 9) (by omega)
   obtain ⟨u10, q10⟩ := hce (i * 11 + 10) (by omega)
   clear hce
   go_wp2
   go_roundw
   case rel => exact ⟨i + 1, by omega, by go_num, Lib.hid (by repeat (first | (with_reducible exact hsp.out) | (with_reducible refine AnyC.set ?_ _ _ _))), Lib.hid (by repeat (first | (with_reducible exact hgr.out) | (with_reducible refine grownC_set ?_ _ _ _ hgb)))⟩
   case measure => simp [intOf]; omega
  ·obtain rfl : n = i := by omega
   have hii : ¬ (n : Int) < n := by omega
   go_upto_region 5 with fail
   go_loopw [0, 3] (fun lv kv wr => ∃ k : Nat, k ≤ 4 ∧ kv = .int .i64 k ∧ Hid (AnyC 0 wr lv (n + k)) ∧ Hid (w.grownBy wr OB) ∧ Hid (Near w (.slice s0 n cap0) lv)) (fun _ kv _ => 4 - (intOf kv).toNat)
   case atStart => exact ⟨0, Nat.zero_le _, rfl, by simpa using hsp, hgr, Lib.hid (.inl rfl)⟩
   case round =>
    clear hsp hgr
    obtain ⟨k, hk, rfl, hsp, hgr, hnr⟩ := hrel
    obtain ⟨W, rfl⟩ : ∃ W, W = wr := ⟨_, rfl⟩
    by_cases hk4 : k < 4
    ·have hki : (k : Int) < 4 := by omega
     obtain ⟨zs, hzs⟩ := hsp.out
     obtain ⟨sl, cl, rfl⟩ := own_slice hzs
     have hza := hzs.alloc (.cells #[.int .i32 121, .int .u8 0, .int .u8 0, .int .u8 0, .int .u8 0, .int .u8 0, .int .u8 0, .int .u8 0, .int .u8 0, .bool false, .bool false] 52)
     have hga := grownC_alloc hgr.out (.cells #[.int .i32 121, .int .u8 0, .int .u8 0, .int .u8 0, .int .u8 0, .int .u8 0, .int .u8 0, .int .u8 0, .int .u8 0, .bool false, .bool false] 52)
     have hws := hgr.out.size
     replace hza := Lib.hid hza
     replace hga := Lib.hid hga
     clear hzs hsp
     go_wp2_with (at_builtin; refine wpList_append_own_at _ rfl _ _ _ rfl 0 52 iM _ 11 16 Tryz.underlying24 hi0 hm0 hm1 hm2 rfl (by omega) _ (n + k) zs (by rfl) hza.out ⟨W.heap.size, 0, none⟩ 1 1 [.int .i32 121, .int .u8 0, .int .u8 0, .int .u8 0, .int .u8 0, .int .u8 0, .int .u8 0, .int .u8 0, .int .u8 0, .bool false, .bool false] (by rfl) rfl (cells_new W [.int .i32 121, .int .u8 0, .int .u8 0, .int .u8 0, .int .u8 0, .int .u8 0, .int .u8 0, .int .u8 0, .int .u8 0, .bool false, .bool false] 52) (by simp [Value.oneCell']) (by unfold maxLen; omega) (by omega) (Nat.zero_le _) ?_; intro v7 w7 hown7 hgr7 _ hat7)
     have hnear : Near w (.slice s0 n cap0) v7 := by
      rcases hat7 with e | e
      ·rcases hnr.out with e2 | ⟨q, e2, e3⟩
       ·exact .inl (e.trans e2)
       ·exact .inr ⟨q, e.trans e2, e3⟩
      ·exact .inr ⟨_, e, by simp; omega⟩
     have hg7 : w.grownBy w7 OB := grownC_grown hga.out hgr7 (by
      rcases hnr.out with e2 | ⟨q, e2, e3⟩
      ·exact .inl (e2.trans hOB.out)
      ·exact .inr (fun j hj => by rw [e2] at hj; injection hj with hj; omega))
     go_roundw
     case rel => exact ⟨k + 1, by omega, by go_num, Lib.hid ⟨_, hown7⟩, Lib.hid hg7, Lib.hid hnear⟩
     case measure => simp [intOf]; omega
    ·obtain rfl : k = 4 := by omega
     obtain ⟨g, cap, rfl, hbg, hgl, hnc, hcm, hce, hf⟩ := hsp.out.cells (by omega)
     obtain ⟨u0, q0⟩ := hce 0 (by omega)
     have hgb : some g = OB ∨ w.heap.size ≤ g := by
      rcases hnr.out with e2 | ⟨q, e2, e3⟩
      ·exact .inl (by rw [← hOB.out, ← e2]; rfl)
      ·have : g = q := by simpa [Value.ownBlock] using e2
       exact .inr (by omega)
     have hf0 := hf 0
     clear hce hf
     go_wp2
     exact bodyPost_end (v := .tuple #[]) (by simp [results, Tryz.results17, go_sem]) rfl ⟨rfl, grownC_set hgr.out _ _ _ hgb⟩
end Go.Proofs.YtffmomgmkpmpkaaGreatDoor

namespace Go.Proofs.YtffmomgmkpmpkaaGreatDoor
open Go.RowKit
set_option linter.unusedVariables false
attribute [local go_sem] vwp vUpon_value vUpon_skip vUpon_enter vUpon_row
set_option linter.unusedSimpArgs false
set_option linter.unusedVariables false
attribute [local go_sem high] neq_stroke
set_option maxHeartbeats 2000000 in
set_option maxRecDepth 100000 in
theorem rsame_big (xs ys : List St) (v1 v2 : Value) (w : World) (h1 : Row w.heap.size 15 St.enc w v1 xs) (h2 : Row w.heap.size 15 St.enc w v2 ys) (hmany : xs.length ≤ 10000000000000) (hmany2 : ys.length ≤ 10000000000000) : Calls Tryz.prog 18 #[v1, v2] w fun e w' => e = .returned (.bool (sameL xs ys)) ∧ Below w.heap.size w w' := by
 obtain ⟨s1, c1, rfl, hmax1⟩ := h1.shape
 obtain ⟨s2, c2, rfl, hmax2⟩ := h2.shape
 have o1 := fun h0 => row_st h1 h0
 have o2 := fun h0 => row_st h2 h0
 clear h1 h2
 obtain ⟨n, en⟩ : ∃ n, xs.length = n := ⟨_, rfl⟩
 obtain ⟨m, em⟩ : ∃ m, ys.length = m := ⟨_, rfl⟩
 by_cases hnm : n = m
 ·subst hnm
  rw [en] at o1 hmany hmax1 ⊢
  rw [em] at o2 hmany2 hmax2 ⊢
  replace o1 := Lib.hid o1
  replace o2 := Lib.hid o2
  replace en := Lib.hid en
  replace em := Lib.hid em
  obtain ⟨res, hres⟩ : ∃ r, sameL xs ys = r := ⟨_, rfl⟩
  rw [hres]
  go_enter Tryz.func18, Tryz.ntmps18
  go_wp2
  go_loopw [5] (fun i wr => ∃ k : Nat, k ≤ n ∧ i = .int .i64 k ∧ sameL (xs.drop k) (ys.drop k) = res ∧ Below w.heap.size w wr) (fun i _ => n - (intOf i).toNat)
  case atStart => exact ⟨0, Nat.zero_le _, rfl, by simpa using hres, (by repeat (first | exact Below.refl _ _ | assumption | refine Below.drew ?_ | refine Below.alloc ?_ (by (try simp) <;> omega) _ | refine Below.setCell ?_ (by (try simp) <;> omega) _))⟩
  case round =>
   obtain ⟨k, hk, rfl, hgo, hbr⟩ := hrel
   clear hres
   have zr := hbr.size
   obtain ⟨hcr, hfr⟩ := bcell hbr
   by_cases hkn : k < n
   ·obtain ⟨b, p, cap', e, hb, _, _, hel⟩ := o1.out (by omega)
    simp at e
    obtain ⟨rfl, rfl⟩ := e
    obtain ⟨b', p', cap', e, hb', _, _, hex⟩ := o2.out (by omega)
    simp at e
    obtain ⟨rfl, rfl⟩ := e
    obtain ⟨s, hs⟩ : ∃ s, xs[k]? = some s := ⟨xs[k]'(by have := en.out; omega), List.getElem?_eq_getElem _⟩
    obtain ⟨t, ht⟩ : ∃ s, ys[k]? = some s := ⟨ys[k]'(by have := em.out; omega), List.getElem?_eq_getElem _⟩
    obtain ⟨g0, g1, g2, g3, g4, g5, g6, g7, g8, g9, g10, g11, g12, g13, g14⟩ := hel k s hs
    obtain ⟨j0, j1, j2, j3, j4, j5, j6, j7, j8, j9, j10, j11, j12, j13, j14⟩ := hex k t ht
    rw [same_step hs ht] at hgo
    have hkk : (k : Int) < n := by omega
    have yb : b < wr.heap.size := by omega
    have yb' : b' < wr.heap.size := by omega
    clear hel hex hs ht
    obtain ⟨kd, ⟨x, y, wd, ht⟩, ⟨q0, q1, q2, q3⟩, ⟨r0, r1, r2, r3⟩, tx, nd⟩ := s
    obtain ⟨kd', ⟨x', y', wd', ht'⟩, ⟨q0', q1', q2', q3'⟩, ⟨r0', r1', r2', r3'⟩, tx', nd'⟩ := t
    simp only at g0 g1 g2 g3 g4 g5 g6 g7 g8 g9 g10 g11 g12 g13 g14 j0 j1 j2 j3 j4 j5 j6 j7 j8 j9 j10 j11 j12 j13 j14
    obtain ⟨bb, hc⟩ : ∃ bb, St.eqb ⟨kd, ⟨x, y, wd, ht⟩, ⟨q0, q1, q2, q3⟩, ⟨r0, r1, r2, r3⟩, tx, nd⟩ ⟨kd', ⟨x', y', wd', ht'⟩, ⟨q0', q1', q2', q3'⟩, ⟨r0', r1', r2', r3'⟩, tx', nd'⟩ = bb := ⟨_, rfl⟩
    rw [hc] at hgo
    cases bb
    ·rw [Bool.false_and] at hgo
     subst hgo
     go_wp2
     refine wp_region_steady (Held wr 0 []) (by kernel_rfl) (by kernel_rfl) ⟨belt, (by (try simp) <;> omega), (by first | exact trivial | (simp only [Cells]; go_simp))⟩ ?_
     repeat (first | (refine' wpSteady_do _ _ _; rotate_left; (focus rfl); (focus (intro w1 hS R hR; have hc := hS.cells; simp only [Cells] at hc; obtain ⟨hco, hfo⟩ := bcell hS.old; go_simp; (try go_bits); first | exact hR _ hS | fail)); simp only [pu]) | (refine wpSteady_pass ?_ ?_; (focus rfl); simp only [pu]))
     refine wpSteady_nil (fun uA hSA => ?_)
     have hcA := hSA.cells; have hbA := hSA.old; have hzA := hSA.size; clear hSA; simp only [Cells] at hcA; obtain ⟨hcoA, hfoA⟩ := bcell hbA
     go_wp2
     go_ret
     exact ⟨rfl, hbr.trans (hbA.mono zr)⟩
    ·rw [Bool.true_and] at hgo
     replace hgo := Lib.hid hgo
     go_wp2
     refine wp_region_steady (Held wr 0 []) (by kernel_rfl) (by kernel_rfl) ⟨belt, (by (try simp) <;> omega), (by first | exact trivial | (simp only [Cells]; go_simp))⟩ ?_
     repeat (first | (refine' wpSteady_do _ _ _; rotate_left; (focus rfl); (focus (intro w1 hS R hR; have hc := hS.cells; simp only [Cells] at hc; obtain ⟨hco, hfo⟩ := bcell hS.old; go_simp; (try go_bits); first | exact hR _ hS | fail)); simp only [pu]) | (refine wpSteady_pass ?_ ?_; (focus rfl); simp only [pu]))
     refine wpSteady_nil (fun uA hSA => ?_)
     have hcA := hSA.cells; have hbA := hSA.old; have hzA := hSA.size; clear hSA; simp only [Cells] at hcA; obtain ⟨hcoA, hfoA⟩ := bcell hbA
     go_wp2
     go_roundw
     case rel => exact ⟨k + 1, by omega, by go_num, hgo.out, hbr.trans (hbA.mono zr)⟩
     case measure => simp [intOf]; omega
   ·obtain rfl : k = n := by omega
    have e1 : xs.drop k = [] := List.drop_eq_nil_of_le (by have := en.out; omega)
    have e2 : ys.drop k = [] := List.drop_eq_nil_of_le (by have := em.out; omega)
    rw [e1, e2] at hgo
    clear e1 e2
    have hgo : true = res := hgo
    subst hgo
    go_wp2
    go_ret
    exact ⟨rfl, hbr⟩
 ·rw [sameL_len (by rw [en, em]; exact hnm)]
  rw [en] at hmax1 ⊢
  rw [em] at hmax2 ⊢
  have hni : ¬ (n : Int) = m := by omega
  clear o1 o2
  go_enter Tryz.func18, Tryz.ntmps18
  go_wp2
  go_ret
  exact ⟨rfl, (by repeat (first | exact Below.refl _ _ | assumption | refine Below.drew ?_ | refine Below.alloc ?_ (by (try simp) <;> omega) _ | refine Below.setCell ?_ (by (try simp) <;> omega) _))⟩
theorem Row.init {α : Type} {B sz n cap : Nat} {enc : α → List Value} {w : World} {s : Option Addr} {xs : List α} {y : α} (h : Row B sz enc w (.slice s (n + 1) cap) (xs ++ [y])) (hn : xs.length = n) : Row B sz enc w (.slice s n cap) xs := by
  obtain ⟨s', c', e, hlc, hcm, hx⟩ := h
  rw [List.length_append, List.length_singleton, hn] at e hlc hx
  injection e with e1 _ e3
  subst e1 e3
  refine ⟨_, _, by rw [hn], by rw [hn]; omega, hcm, fun h0 => ?_⟩
  obtain ⟨b, o, e, hb, hc⟩ := hx (by omega)
  refine ⟨b, o, e, hb, fun j x hj i u hi => hc j x ?_ i u hi⟩
  rw [List.getElem?_append_left (List.getElem?_eq_some_iff.1 hj).1]
  exact hj
section
variable {H : Type} {enc : TypeId × Value → H} {w : World} {base : Nat} {spare : Nat → Bool} {held : Bool}
/-- How long a slice is that came in. -/
theorem slice_data {P : Program} {t e : TypeId} {s : Option Addr} {n cap : Nat} {d : DataW H} {p : List MemPlace} (ht : P.underlying t = some (.slice e)) (h : DataW.Trod enc P w base spare held t (.slice s n cap) d p) : n = 0 ∨ ∃ elems sp, d = .slice elems sp ∧ elems.length = n := by
  obtain ⟨fuel, hf⟩ := h
  rcases Go.Deep.open_slice ht (by simpa [Value.cells] using hf) with ⟨h0, _⟩ | ⟨a', len', cap', m, k, D, Pl, hcs, hb, hl, hm, hmm, hx, hi⟩
  · simp at h0
    exact .inl h0.2.1
  · simp at hcs
    obtain ⟨_, rfl, _⟩ := hcs
    injection hx with h1 _
    exact .inr ⟨_, _, h1, by simp⟩
theorem strokes_size {ts : List TypeId} {ds : List (DataW H)} (hall : (DataW.weightsEach Tryz.prog ts ds).all (· ≤ reachBytes) = true) {j : Nat} {d : DataW H} {v : Value} {p : List MemPlace} {xs : List St} (ht : ts[j]? = some 27) (hd : ds[j]? = some d) (h : DataW.Trod enc Tryz.prog w base spare held 27 v d p) (hr : Row w.heap.size 15 St.enc w v xs) : xs.length * 72 ≤ 140737488351232 := by
  obtain ⟨s, cap, rfl, _⟩ := hr.shape
  rcases slice_data Tryz.underlying27 h with h0 | ⟨elems, sp, rfl, hl⟩
  · omega
  · have := sized_slice hall ht hd Tryz.underlying27
    have hb : Tryz.prog.bytesOf 46 = 72 := by kernel_rfl
    rw [hb, hl] at this
    have hr : reachBytes = 140737488351232 := rfl
    have h2 : xs.length * 72 ≤ (xs.length + sp.length) * 72 := Nat.mul_le_mul_right _ (Nat.le_add_right _ _)
    omega
end
end Go.Proofs.YtffmomgmkpmpkaaGreatDoor

namespace Go.Proofs.YtffmomgmkpmpkaaGreatDoor
open Go.RowKit
set_option linter.unusedVariables false
attribute [local go_sem] vwp vUpon_value vUpon_skip vUpon_enter vUpon_row
set_option linter.unusedSimpArgs false
set_option linter.unusedVariables false
theorem dec_extract {s : ByteArray} {p : Nat} (h : p ≤ s.size) : Utf8.decode (s.extract p s.size) 0 = Utf8.decode s p := by
  have hz : (s.extract p s.size).size = s.size - p := by simp
  have hg : ∀ k, k < s.size - p → (s.extract p s.size).get! k = s.get! (p + k) := fun k hk => get!_extract s p s.size k (by omega) (Nat.le_refl _)
  have hbig : ∀ (t : ByteArray) (k : Nat), t.size ≤ k → t.get! k = 0 := by
    intro t k hk
    cases t with
    | mk d => 
      show d[k]! = 0
      rw [getElem!_neg d k (by show ¬ k < d.size; have : d.size ≤ k := hk; omega)]
      rfl
  have hall : ∀ k, (s.extract p s.size).get! k = s.get! (p + k) := by
    intro k
    by_cases hk : k < s.size - p
    · exact hg k hk
    · rw [hbig _ k (by omega), hbig s (p + k) (by omega)]
  rw [Lib.decode_at, Lib.decode_at, hz, Nat.sub_zero, hall 0, hall (0 + 1), hall (0 + 2), hall (0 + 3)]
  simp only [Nat.zero_add, Nat.add_zero]
def Pc.enc (c : Pc) : List Value := [.int .i64 c.fr, .int .i64 c.en, .int .i32 c.first, .int .i64 c.cells]
theorem Pc.enc_len (c : Pc) : c.enc.length = 4 := rfl
theorem infoPc : (Tryz.prog.info? 155).map (fun i => (i.zero, i.size, i.bytes)) = some (some (.agg #[.int .i64 0, .int .i64 0, .int .i32 0, .int .i64 0]), 4, 32) := by kernel_rfl
def OwnsP (base : Nat) (w : World) (v : Value) (l : List Pc) : Prop := w.ownsRow base 155 4 v l.length (l.flatMap Pc.enc)
def cellI (v : Option Value) : Nat := match v with | some (.int _ n) => n.toNat | _ => 0
theorem oneV_shape (D : Nat × Nat) : ∃ b, oneV D = .tuple #[.int .i32 D.1, .int .i64 D.2, .bool b] := ⟨_, rfl⟩
/-- One rune at a place of a text. -/
theorem rone_at (s : ByteArray) (p : Nat) (hp : p < s.size) (w : World) : Calls Tryz.prog 137 #[.string (s.extract p s.size)] w fun e w' => e = .returned (oneV (Utf8.decode s p)) ∧ w = w' := by
  have := rone_any (s.extract p s.size) w (by simp; omega)
  rwa [dec_extract (by omega)] at this
set_option maxHeartbeats 8000000 in
set_option maxRecDepth 100000 in
theorem rpieces_any (s : ByteArray) (w : World) (hm : s.size ≤ 100000) : Calls Tryz.prog 99 #[.string s] w fun e w' => Below w.heap.size w w' ∧ ∃ v, e = .returned v ∧ OwnsP w.heap.size w' v (pcsAt s 0) := by
 obtain ⟨iP, hi0, hz0, hz1, hz2⟩ := info_parts infoPc
 obtain ⟨n, hn⟩ : ∃ n, w.heap.size = n := ⟨_, rfl⟩
 rw [hn]
 obtain ⟨L, hL⟩ : ∃ L, pcsAt s 0 = L := ⟨_, rfl⟩
 rw [hL]
 go_enter Tryz.func99, Tryz.ntmps99
 go_wp2
 go_loopw [3, 4] (fun lv av wr => ∃ (p : Nat) (row : List Pc), p ≤ s.size ∧ av = .int .i64 p ∧ Hid (OwnsP n wr lv row) ∧ Hid (row ++ pcsAt s p = L) ∧ Below n w wr ∧ row.length ≤ p ∧ n ≤ wr.heap.size) (fun _ av _ => s.size - (intOf av).toNat)
 case atStart => exact ⟨0, [], Nat.zero_le _, rfl, Lib.hid (World.ownsRow_nil _ _ _ _), Lib.hid hL, by rw [← hn]; exact Below.refl _ _, Nat.zero_le _, by omega⟩
 case round =>
  obtain ⟨p, row, hp, rfl, hown, hgo, hbr, hln, hnr⟩ := hrel
  by_cases c : p < s.size
  ·have O1 := rone_at s p c
   have hfit := dec_fit c
   have hpos := dec_pos s p
   have hst := pcsAt_step c
   unfold pcAt at hst
   have hpt := pcTo_bd c
   have hto : pcTo s p = if ctlR ((Utf8.decode s p).1 : Int) = true then p + (Utf8.decode s p).2 else markEnd s (p + (Utf8.decode s p).2) := rfl
   obtain ⟨bb, hbb⟩ := oneV_shape (Utf8.decode s p)
   rw [hbb] at O1
   clear hbb
   obtain ⟨⟨r, k⟩, hD⟩ : ∃ D, Utf8.decode s p = D := ⟨_, rfl⟩
   rw [hD] at O1 hfit hpos hst hto
   clear hD
   dsimp only at O1 hfit hpos hst hto
   have W1 := rwidth_any (r : Int)
   obtain ⟨Z, hZ⟩ : ∃ Z, widR (r : Int) = Z := ⟨_, rfl⟩
   rw [hZ] at W1 hst
   have hgo2 := hgo.out
   rw [hst] at hgo2
   obtain ⟨E, hE⟩ : ∃ E, pcTo s p = E := ⟨_, rfl⟩
   rw [hE] at hto hgo2 hpt
   clear hst hZ hgo
   have hci : (p : Int) < s.size := by omega
   obtain ⟨q0, hq0⟩ : ∃ q0 : Nat, p + k = q0 := ⟨_, rfl⟩
   rw [hq0] at hto hfit
   have hq1 : (p : Int) + (k : Int) = (q0 : Int) := by omega
   obtain ⟨sv, cv, hsv⟩ := own_slice hown.out
   subst hsv
   obtain ⟨ct, hct⟩ : ∃ ct, ctlR (r : Int) = ct := ⟨_, rfl⟩
   have C1 := rcontrol_any (r : Int)
   rw [hct] at C1 hto
   clear hct
   replace hto := Lib.hid hto
   replace hgo2 := Lib.hid hgo2
   replace hE := Lib.hid hE
   replace hown := Lib.hid hown
   go_upto_region 6 with (first
    | (go_at_call 137; (with_reducible refine (O1 _).mono ?_); rintro e w1 ⟨rfl, rfl⟩)
    | (go_at_call 106; (with_reducible refine (W1 _).mono ?_); rintro e w2 ⟨rfl, hb2⟩))
   obtain ⟨b, hb⟩ : ∃ b, w2.heap.size = b := ⟨_, rfl⟩
   have hownb : OwnsP n w2 (.slice sv row.length cv) row := ownsRow_below hown.out.out hb2 (Nat.le_refl _)
   have hno : (Value.slice sv row.length cv).ownBlock ≠ some b := fun e => by have := (hownb.lt b e).2; omega
   obtain ⟨W5, hW5⟩ : ∃ W5, w2.alloc (.cells #[.int .i64 p, .int .i64 q0, .int .i32 r, .int .i64 Z] 155) = W5 := ⟨_, rfl⟩
   have B5 : Blk W5 b [.int .i64 p, .int .i64 q0, .int .i32 r, .int .i64 Z] 155 := by rw [← hW5, ← hb]; exact Blk.new' rfl
   have hown5 : OwnsP n W5 (.slice sv row.length cv) row := by rw [← hW5]; exact hownb.alloc _
   have z2 := hb2.size
   have hb5 : Below n w W5 := by rw [← hW5]; exact (hbr.trans (hb2.mono hnr)).alloc (by omega) _
   have nb : n ≤ b := by omega
   rw [hW5, hb]
   clear hW5 hb hownb hb2 hbr hown z2 O1 W1
   replace hown5 := Lib.hid hown5
   replace hno := Lib.hid hno
   replace hto := hto.out
   replace hto := Lib.hid hto
   go_loopw [] (fun wx => ∃ q : Nat, q ≤ s.size ∧ p < q ∧ Hid (Blk wx b [.int .i64 p, .int .i64 q, .int .i32 r, .int .i64 Z] 155) ∧ Hid (E = if ct = true then q else markEnd s q) ∧ Hid (OwnsP n wx (.slice sv row.length cv) row) ∧ Below n w wx ∧ n ≤ wx.heap.size) (fun wx => s.size - cellI (wx.cell? ⟨b, 1, none⟩))
   case atStart => exact ⟨q0, hfit, by omega, Lib.hid B5, hto, hown5, hb5, by have := B5.lt; omega⟩
   case round =>
    clear B5 hown5 hb5 hto
    obtain ⟨q, hq, hpq, B5, hto, hown, hbx, hnx⟩ := hrel
    have B5 := B5.out
    have yb := B5.lt
    have g0 := B5.cell (o := 0) rfl
    have g1 := B5.cell (o := 1) rfl
    have g2 := B5.cell (o := 2) rfl
    have g3 := B5.cell (o := 3) rfl
    have gf := B5.free
    have mq : cellI (wr.cell? ⟨b, 1, none⟩) = Int.toNat (q : Nat) := by rw [g1]; rfl
    replace mq := Lib.hid mq
    cases ct with
    | true =>
     have hqE : q = E := by rw [hto.out]; rfl
     subst hqE
     clear hto
     go_wp2_with (first
      | (go_at_call 138; (with_reducible refine (C1 _).mono ?_); rintro e w6 ⟨rfl, hb6⟩; have D5 := B5.below hb6 yb; have hownZ := ownsRow_below hown.out hb6 (Nat.le_refl _); have hbZ := hbx.trans (hb6.mono hnx); have zZ := hb6.size; clear B5 hown hbx g0 g1 g2 g3 gf; have B5 := D5; have yb := B5.lt; have g0 := B5.cell (o := 0) rfl; have g1 := B5.cell (o := 1) rfl; have g2 := B5.cell (o := 2) rfl; have g3 := B5.cell (o := 3) rfl; have gf := B5.free; have hown := Lib.hid hownZ; have hbx := hbZ; have hnx : n ≤ w6.heap.size := (by omega); clear D5 hownZ hbZ zZ hb6)
      | (at_builtin; refine wpList_append_own _ rfl _ _ _ rfl n 155 iP _ 4 32 Tryz.underlying151 hi0 hz0 hz1 hz2 rfl (by omega) _ row.length _ (by rfl) (hown.out.alloc _) ⟨w6.heap.size, 0, none⟩ 1 1 [.int .i64 p, .int .i64 q, .int .i32 r, .int .i64 Z] (by rfl) rfl (cells_new w6 [.int .i64 p, .int .i64 q, .int .i32 r, .int .i64 Z] 155) (by intro u hu; simp only [List.mem_cons, List.not_mem_nil, or_false] at hu; rcases hu with rfl | rfl | rfl | rfl <;> rfl) (by unfold maxLen; omega) (by omega) (by simp; omega) ?_; intro v3 w3 hown3 hgr3 _; have E3 := (B5.alloc _).keep hgr3 hno; have e1 := E3.cell (o := 1) rfl; replace hown3 := Lib.hid hown3; replace hgr3 := Lib.hid hgr3; clear E3))
     have hgr4 := hgr3.out
     have z3 := hgr4.size
     rw [World.size_alloc] at z3
     go_roundw
     case rel =>
      refine ⟨q, row ++ [⟨p, q, r, Z⟩], by omega, rfl, Lib.hid ?_, Lib.hid (by rw [List.append_assoc]; exact hgo2.out), ((hbx.alloc (by omega) _).grown hgr4 (by simp; omega) (fun g hg => by have := (hown.out.lt g hg).1; omega)), by simp; omega, by omega⟩
      have := hown3.out
      unfold OwnsP
      simpa [Pc.enc] using this
     case measure => simp [intOf]; omega
    | false =>
     by_cases c2 : q < s.size
     ·have O2 := rone_at s q c2
      have hfit2 := dec_fit c2
      have hpos2 := dec_pos s q
      obtain ⟨bb2, hbb2⟩ := oneV_shape (Utf8.decode s q)
      rw [hbb2] at O2
      have M1 := rmark_any ((Utf8.decode s q).1 : Int)
      have hstep := markEnd_step (s := s) (p := q) c2
      have hstop := markEnd_stop (s := s) (p := q)
      obtain ⟨⟨r2, k2⟩, hD2⟩ : ∃ D, Utf8.decode s q = D := ⟨_, rfl⟩
      rw [hD2] at O2 hfit2 hpos2 M1 hstep hstop
      clear hD2 hbb2
      dsimp only at O2 hfit2 hpos2 M1 hstep hstop
      have hqi : (q : Int) < s.size := by omega
      have hto2 : E = markEnd s q := hto.out
      cases hmk : inL (r2 : Int) marksL with
      | true =>
       rw [hmk] at M1 hstep
       rw [hstep rfl] at hto2
       obtain ⟨q2, hq2⟩ : ∃ q2 : Nat, q + k2 = q2 := ⟨_, rfl⟩
       rw [hq2] at hto2 hfit2
       have hq3 : (q : Int) + (k2 : Int) = (q2 : Int) := by omega
       clear hstep hstop hto hmk
       replace hto2 := Lib.hid hto2
       go_wp2_with (first
        | (go_at_call 138; (with_reducible refine (C1 _).mono ?_); rintro e w6 ⟨rfl, hb6⟩; have D5 := B5.below hb6 yb; have hownZ := ownsRow_below hown.out hb6 (Nat.le_refl _); have hbZ := hbx.trans (hb6.mono hnx); have zZ := hb6.size; clear B5 hown hbx g0 g1 g2 g3 gf; have B5 := D5; have yb := B5.lt; have g0 := B5.cell (o := 0) rfl; have g1 := B5.cell (o := 1) rfl; have g2 := B5.cell (o := 2) rfl; have g3 := B5.cell (o := 3) rfl; have gf := B5.free; have hown := Lib.hid hownZ; have hbx := hbZ; have hnx : n ≤ w6.heap.size := (by omega); clear D5 hownZ hbZ zZ hb6)
        | (go_at_call 137; (with_reducible refine (O2 _).mono ?_); rintro e w8 ⟨rfl, rfl⟩)
        | (go_at_call 139; (with_reducible refine (M1 _).mono ?_); rintro e w7 ⟨rfl, hb7⟩; have D5 := B5.below hb7 yb; have hownZ := ownsRow_below hown.out hb7 (Nat.le_refl _); have hbZ := hbx.trans (hb7.mono hnx); have zZ := hb7.size; clear B5 hown hbx g0 g1 g2 g3 gf; have B5 := D5; have yb := B5.lt; have g0 := B5.cell (o := 0) rfl; have g1 := B5.cell (o := 1) rfl; have g2 := B5.cell (o := 2) rfl; have g3 := B5.cell (o := 3) rfl; have gf := B5.free; have hown := Lib.hid hownZ; have hbx := hbZ; have hnx : n ≤ w7.heap.size := (by omega); clear D5 hownZ hbZ zZ hb7))
       have E5 := B5.set 1 (.int .i64 (q2 : Nat))
       have e5 := E5.cell (o := 1) rfl
       go_roundw
       case rel =>
        refine ⟨q2, hfit2, by omega, Lib.hid E5, Lib.hid hto2.out, Lib.hid ?_, hbx.setCell (p := ⟨b, 1, none⟩) nb _, by simpa using hnx⟩
        exact own_other hown.out (fun g hg => fun e => hno.out (by rw [hg]; exact congrArg some e)) _
       case measure =>
        rw [e5, mq.out]
        show s.size - (Int.toNat (q2 : Nat)) < s.size - (Int.toNat (q : Nat))
        simp
        omega
      | false =>
       rw [hmk] at M1 hstop
       have hqE : q = E := by rw [hto2]; exact (hstop (by simp)).symm
       subst hqE
       clear hstep hstop hto hto2 hmk
       go_wp2_with (first
        | (go_at_call 138; (with_reducible refine (C1 _).mono ?_); rintro e w6 ⟨rfl, hb6⟩; have D5 := B5.below hb6 yb; have hownZ := ownsRow_below hown.out hb6 (Nat.le_refl _); have hbZ := hbx.trans (hb6.mono hnx); have zZ := hb6.size; clear B5 hown hbx g0 g1 g2 g3 gf; have B5 := D5; have yb := B5.lt; have g0 := B5.cell (o := 0) rfl; have g1 := B5.cell (o := 1) rfl; have g2 := B5.cell (o := 2) rfl; have g3 := B5.cell (o := 3) rfl; have gf := B5.free; have hown := Lib.hid hownZ; have hbx := hbZ; have hnx : n ≤ w6.heap.size := (by omega); clear D5 hownZ hbZ zZ hb6)
        | (go_at_call 137; (with_reducible refine (O2 _).mono ?_); rintro e w8 ⟨rfl, rfl⟩)
        | (go_at_call 139; (with_reducible refine (M1 _).mono ?_); rintro e w7 ⟨rfl, hb7⟩; have D5 := B5.below hb7 yb; have hownZ := ownsRow_below hown.out hb7 (Nat.le_refl _); have hbZ := hbx.trans (hb7.mono hnx); have zZ := hb7.size; clear B5 hown hbx g0 g1 g2 g3 gf; have B5 := D5; have yb := B5.lt; have g0 := B5.cell (o := 0) rfl; have g1 := B5.cell (o := 1) rfl; have g2 := B5.cell (o := 2) rfl; have g3 := B5.cell (o := 3) rfl; have gf := B5.free; have hown := Lib.hid hownZ; have hbx := hbZ; have hnx : n ≤ w7.heap.size := (by omega); clear D5 hownZ hbZ zZ hb7)
        | (at_builtin; refine wpList_append_own _ rfl _ _ _ rfl n 155 iP _ 4 32 Tryz.underlying151 hi0 hz0 hz1 hz2 rfl (by omega) _ row.length _ (by rfl) (hown.out.alloc _) ⟨w7.heap.size, 0, none⟩ 1 1 [.int .i64 p, .int .i64 q, .int .i32 r, .int .i64 Z] (by rfl) rfl (cells_new w7 [.int .i64 p, .int .i64 q, .int .i32 r, .int .i64 Z] 155) (by intro u hu; simp only [List.mem_cons, List.not_mem_nil, or_false] at hu; rcases hu with rfl | rfl | rfl | rfl <;> rfl) (by unfold maxLen; omega) (by omega) (by simp; omega) ?_; intro v3 w3 hown3 hgr3 _; have E3 := (B5.alloc _).keep hgr3 hno; have e1 := E3.cell (o := 1) rfl; replace hown3 := Lib.hid hown3; replace hgr3 := Lib.hid hgr3; clear E3))
       have hgr4 := hgr3.out
       have z3 := hgr4.size
       rw [World.size_alloc] at z3
       go_roundw
       case rel =>
        refine ⟨q, row ++ [⟨p, q, r, Z⟩], by omega, rfl, Lib.hid ?_, Lib.hid (by rw [List.append_assoc]; exact hgo2.out), ((hbx.alloc (by omega) _).grown hgr4 (by simp; omega) (fun g hg => by have := (hown.out.lt g hg).1; omega)), by simp; omega, by omega⟩
        have := hown3.out
        unfold OwnsP
        simpa [Pc.enc] using this
       case measure => simp [intOf]; omega
     ·have hqi : ¬ (q : Int) < s.size := by omega
      have hqE : q = E := by have := hto.out; rw [this]; exact (markEnd_stop (fun h => c2 h.1)).symm
      subst hqE
      clear hto
      go_wp2_with (first
       | (go_at_call 138; (with_reducible refine (C1 _).mono ?_); rintro e w6 ⟨rfl, hb6⟩; have D5 := B5.below hb6 yb; have hownZ := ownsRow_below hown.out hb6 (Nat.le_refl _); have hbZ := hbx.trans (hb6.mono hnx); have zZ := hb6.size; clear B5 hown hbx g0 g1 g2 g3 gf; have B5 := D5; have yb := B5.lt; have g0 := B5.cell (o := 0) rfl; have g1 := B5.cell (o := 1) rfl; have g2 := B5.cell (o := 2) rfl; have g3 := B5.cell (o := 3) rfl; have gf := B5.free; have hown := Lib.hid hownZ; have hbx := hbZ; have hnx : n ≤ w6.heap.size := (by omega); clear D5 hownZ hbZ zZ hb6)
       | (at_builtin; refine wpList_append_own _ rfl _ _ _ rfl n 155 iP _ 4 32 Tryz.underlying151 hi0 hz0 hz1 hz2 rfl (by omega) _ row.length _ (by rfl) (hown.out.alloc _) ⟨w6.heap.size, 0, none⟩ 1 1 [.int .i64 p, .int .i64 q, .int .i32 r, .int .i64 Z] (by rfl) rfl (cells_new w6 [.int .i64 p, .int .i64 q, .int .i32 r, .int .i64 Z] 155) (by intro u hu; simp only [List.mem_cons, List.not_mem_nil, or_false] at hu; rcases hu with rfl | rfl | rfl | rfl <;> rfl) (by unfold maxLen; omega) (by omega) (by simp; omega) ?_; intro v3 w3 hown3 hgr3 _; have E3 := (B5.alloc _).keep hgr3 hno; have e1 := E3.cell (o := 1) rfl; replace hown3 := Lib.hid hown3; replace hgr3 := Lib.hid hgr3; clear E3))
      have hgr4 := hgr3.out
      have z3 := hgr4.size
      rw [World.size_alloc] at z3
      go_roundw
      case rel =>
       refine ⟨q, row ++ [⟨p, q, r, Z⟩], by omega, rfl, Lib.hid ?_, Lib.hid (by rw [List.append_assoc]; exact hgo2.out), ((hbx.alloc (by omega) _).grown hgr4 (by simp; omega) (fun g hg => by have := (hown.out.lt g hg).1; omega)), by simp; omega, by omega⟩
       have := hown3.out
       unfold OwnsP
       simpa [Pc.enc] using this
      case measure => simp [intOf]; omega
  ·have hci : ¬ (p : Int) < s.size := by omega
   have hg := hgo.out
   rw [pcsAt_end c, List.append_nil] at hg
   subst hg
   go_wp2
   go_ret
   exact ⟨hbr, _, rfl, hown.out⟩
end Go.Proofs.YtffmomgmkpmpkaaGreatDoor
