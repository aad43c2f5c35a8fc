/-
  Cells: what a writer writes: colours and cells.
-/
import Derived.Test.YtffmomgmkpmpkaaGreatDoorProg
import Derived.Test.YtffmomgmkpmpkaaGreatDoorKp25
namespace Go.Proofs.YtffmomgmkpmpkaaGreatDoor
open Go.RowKit
set_option linter.unusedVariables false
attribute [local go_sem] vwp vUpon_value vUpon_skip vUpon_enter vUpon_row
set_option linter.unusedSimpArgs false
set_option linter.unusedVariables false
attribute [local go_sem high] eql_colour neq_colour
theorem IsW.tail {B b : Nat} {l : List UInt8} {tl : List Value} {w : World} (h : IsW B b l tl w) {k : Nat} (hk : k < 8) (u : Value) : IsW B b l (tl.set k u) (w.setCell ⟨b, k + 2, none⟩ u) := h.elim (fun x => .inl (x.tail hk u)) (fun x => .inr (x.tail hk u))
theorem IsW.alloc {B b : Nat} {l : List UInt8} {tl : List Value} {w : World} (h : IsW B b l tl w) (o : Obj) : IsW B b l tl (w.alloc o) := h.elim (fun x => .inl (x.alloc o)) (fun x => .inr (x.alloc o))
def dipL (n : Int) (t c : Co) : List UInt8 := if t.eqb c then [] else escL 109 [n, 2, c.r, c.g, c.b, c.a]
set_option maxHeartbeats 4000000 in
set_option maxRecDepth 100000 in
theorem dip2 (B b : Nat) (l : List UInt8) (t0 t1 t2 t3 x0 x1 x2 x3 c0 c1 c2 c3 n : Int) (w : World) (h : IsW B b l [.int .u8 t0, .int .u8 t1, .int .u8 t2, .int .u8 t3, .int .u8 x0, .int .u8 x1, .int .u8 x2, .int .u8 x3] w) (hBw : B ≤ w.heap.size) (hn : I64 n) (hc : 0 ≤ c0 ∧ c0 ≤ 255 ∧ 0 ≤ c1 ∧ c1 ≤ 255 ∧ 0 ≤ c2 ∧ c2 ≤ 255 ∧ 0 ≤ c3 ∧ c3 ≤ 255) (hl : l.length ≤ 50000000) (hD : ∀ w', Below B w w' → DigT w') :
  Calls Tryz.prog 116 #[.pointer (some ⟨b, 0, none⟩), .pointer (some ⟨b, 2, none⟩), .agg #[.int .u8 c0, .int .u8 c1, .int .u8 c2, .int .u8 c3], .int .i64 n] w fun e w' => e = .returned (.tuple #[]) ∧ IsW B b (l ++ dipL n ⟨t0, t1, t2, t3⟩ ⟨c0, c1, c2, c3⟩) [.int .u8 c0, .int .u8 c1, .int .u8 c2, .int .u8 c3, .int .u8 x0, .int .u8 x1, .int .u8 x2, .int .u8 x3] w' ∧ Below B w w' ∧ Lib.OthersKept 5 (some b) w w' := by
 obtain ⟨e0, he0⟩ : ∃ e, eq4 t0 t1 t2 t3 c0 c1 c2 c3 = e := ⟨_, rfl⟩
 have hdip : dipL n ⟨t0, t1, t2, t3⟩ ⟨c0, c1, c2, c3⟩ = if e0 then [] else escL 109 [n, 2, c0, c1, c2, c3] := by unfold dipL Co.eqb; rw [he0]
 have h' := Lib.hid h
 have hD' := Lib.hid hD
 clear h hD
 go_enter Tryz.func116, Tryz.ntmps116
 go_upto_region 1 with fail
 obtain ⟨W, hW⟩ : ∃ W, w.alloc (.cells #[.int .u8 c0, .int .u8 c1, .int .u8 c2, .int .u8 c3] 44) = W := ⟨_, rfl⟩
 have B2 : Blk W w.heap.size [.int .u8 c0, .int .u8 c1, .int .u8 c2, .int .u8 c3] 44 := by rw [← hW]; exact Blk.new' rfl
 have hbw : Below w.heap.size w W := by rw [← hW]; exact belt
 have hW1 : IsW B b l [.int .u8 t0, .int .u8 t1, .int .u8 t2, .int .u8 t3, .int .u8 x0, .int .u8 x1, .int .u8 x2, .int .u8 x3] W := by rw [← hW]; exact h'.out.alloc _
 have zW : W.heap.size = w.heap.size + 1 := by rw [← hW]; simp
 rw [hW]
 clear hW
 replace zW := Lib.hid zW
 obtain ⟨hBb, ybb, _, cs, hbb, hcl, hcs⟩ := hW1.blk
 have yB2 := B2.lt
 have k0 := B2.cell (o := 0) rfl
 have k1 := B2.cell (o := 1) rfl
 have k2 := B2.cell (o := 2) rfl
 have k3 := B2.cell (o := 3) rfl
 have j0 := hbb.cell (o := 2) ((hcs 0).trans rfl)
 have j1 := hbb.cell (o := 2 + 1) ((hcs 1).trans rfl)
 have j2 := hbb.cell (o := 2 + 2) ((hcs 2).trans rfl)
 have j3 := hbb.cell (o := 2 + 3) ((hcs 3).trans rfl)
 replace hW1 := Lib.hid hW1
 replace hbb := Lib.hid hbb
 refine rst (Held W 0 []) ?_
 repeat (first | (refine' sdo ?_; simp only [pu]) | (refine spa ?_; simp only [pu]))
 refine wpSteady_nil (fun uA hSA => ?_)
 obtain ⟨hcA, hbA, hzA, hcoA, hfoA⟩ := hall hSA; clear hSA; simp only [Cells] at hcA
 have hWA := Lib.hid (hW1.out.below hbA)
 have hoA := Lib.hid ((show Lib.OthersKept 5 (some b) w W from oth_below hbw).trans (oth_below hbA))
 have hBA : Below B w uA := (hbw.mono hBw).trans (hbA.mono (by have := zW.out; omega))
 have B2A := B2.below hbA yB2
 have bbA := hbb.out.below hbA (by have := zW.out; omega)
 have zA := hbA.size
 have zW' := zW.out
 have gb2 : w.heap.size ≠ b := by have := h'.out.blk.2.1; omega
 have yb1 := bbA.lt
 cases e0
 ·have ES := fun u (hu : IsW B b l [.int .u8 t0, .int .u8 t1, .int .u8 t2, .int .u8 t3, .int .u8 x0, .int .u8 x1, .int .u8 x2, .int .u8 x3] u) g (hg : Blk u g [.int .i64 n, .int .i64 2, .int .i64 c0, .int .i64 c1, .int .i64 c2, .int .i64 c3] 3) (hB : B ≤ u.heap.size) (hd : ∀ w', Below B u w' → DigT w') =>
   (show Calls Tryz.prog 67 #[.pointer (some ⟨b, 0, none⟩), .int .u8 109, .slice (some ⟨g, 0, none⟩) 6 6] u _ from esc_any B b l _ 109 109 rfl [n, 2, c0, c1, c2, c3] g 6 u hu hg hB (by
    intro x hx
    simp only [List.mem_cons, List.not_mem_nil, or_false] at hx
    unfold I64 at hn ⊢
    rcases hx with rfl | rfl | rfl | rfl | rfl | rfl <;> omega) hl (by show (6 : Nat) ≤ 10; decide) (by show (6 : Nat) ≤ 6; decide) hd)
  obtain ⟨T, hT⟩ : ∃ T, escL 109 [n, 2, c0, c1, c2, c3] = T := ⟨_, rfl⟩
  rw [hT] at ES hdip
  simp only [Bool.false_eq_true, if_false] at hdip
  replace ES := Lib.hid ES
  replace bbA := Lib.hid bbA
  replace B2A := Lib.hid B2A
  go_wp2_with (go_at_call 67; (with_reducible refine (ES.out _ (hWA.out.alloc _) _ (Blk.new _ _ _) (by simp; omega) (fun u hu => hD'.out u (hBA.trans ((Below.alloc (Below.refl _ _) (by omega) _).trans hu)))).mono ?_))
  rintro e w2 ⟨rfl, h2, hb2, hk2⟩
  have hk2' := ((hoA.out.alloc (.cells #[.int .i64 n, .int .i64 2, .int .i64 c0, .int .i64 c1, .int .i64 c2, .int .i64 c3] 3)).trans hk2)
  have C2 := (B2A.out.alloc (.cells #[.int .i64 n, .int .i64 2, .int .i64 c0, .int .i64 c1, .int .i64 c2, .int .i64 c3] 3)).others hk2 gb2 (by decide)
  obtain ⟨_, _, _, cs2, D2, dl2, ds2⟩ := h2.blk
  have hB2' : Below B w w2 := hBA.trans ((Below.alloc (Below.refl _ _) (by omega) _).trans hb2)
  replace h2 := Lib.hid h2
  replace hk2' := Lib.hid hk2'
  replace hB2' := Lib.hid hB2'
  clear k0 k1 k2 k3 j0 j1 j2 j3 hcA hcoA hfoA hb2 hk2 hbA ES
  have k0 := C2.cell (o := 0) rfl
  have k1 := C2.cell (o := 1) rfl
  have k2 := C2.cell (o := 2) rfl
  have k3 := C2.cell (o := 3) rfl
  have j0 := D2.cell (o := 2) ((ds2 0).trans rfl)
  have j1 := D2.cell (o := 2 + 1) ((ds2 1).trans rfl)
  have j2 := D2.cell (o := 2 + 2) ((ds2 2).trans rfl)
  have j3 := D2.cell (o := 2 + 3) ((ds2 3).trans rfl)
  have jf := D2.free
  replace D2 := Lib.hid D2
  replace C2 := Lib.hid C2
  go_wp2
  go_end0
  refine ⟨rfl, ?_, (((hB2'.out.setCell (p := ⟨b, 2, none⟩) hBb _).setCell (p := ⟨b, 2 + 1, none⟩) hBb _).setCell (p := ⟨b, 2 + 2, none⟩) hBb _).setCell (p := ⟨b, 2 + 3, none⟩) hBb _, (((hk2'.out.setCell ⟨b, 2, none⟩ rfl _).setCell ⟨b, 2 + 1, none⟩ rfl _).setCell ⟨b, 2 + 2, none⟩ rfl _).setCell ⟨b, 2 + 3, none⟩ rfl _⟩
  rw [hdip]
  exact (((h2.out.tail (k := 0) (by decide) _).tail (k := 1) (by decide) _).tail (k := 2) (by decide) _).tail (k := 3) (by decide) _
 ·simp only [if_true] at hdip
  obtain ⟨q0, q1, q2, q3⟩ := eq4_iff.1 he0
  subst q0 q1 q2 q3
  go_wp2
  go_end0
  exact ⟨rfl, by rw [hdip, List.append_nil]; exact hWA.out, hBA, hoA.out⟩
set_option maxHeartbeats 4000000 in
set_option maxRecDepth 100000 in
theorem dip6 (B b : Nat) (l : List UInt8) (t0 t1 t2 t3 x0 x1 x2 x3 c0 c1 c2 c3 n : Int) (w : World) (h : IsW B b l [.int .u8 x0, .int .u8 x1, .int .u8 x2, .int .u8 x3, .int .u8 t0, .int .u8 t1, .int .u8 t2, .int .u8 t3] w) (hBw : B ≤ w.heap.size) (hn : I64 n) (hc : 0 ≤ c0 ∧ c0 ≤ 255 ∧ 0 ≤ c1 ∧ c1 ≤ 255 ∧ 0 ≤ c2 ∧ c2 ≤ 255 ∧ 0 ≤ c3 ∧ c3 ≤ 255) (hl : l.length ≤ 50000000) (hD : ∀ w', Below B w w' → DigT w') :
  Calls Tryz.prog 116 #[.pointer (some ⟨b, 0, none⟩), .pointer (some ⟨b, 6, none⟩), .agg #[.int .u8 c0, .int .u8 c1, .int .u8 c2, .int .u8 c3], .int .i64 n] w fun e w' => e = .returned (.tuple #[]) ∧ IsW B b (l ++ dipL n ⟨t0, t1, t2, t3⟩ ⟨c0, c1, c2, c3⟩) [.int .u8 x0, .int .u8 x1, .int .u8 x2, .int .u8 x3, .int .u8 c0, .int .u8 c1, .int .u8 c2, .int .u8 c3] w' ∧ Below B w w' ∧ Lib.OthersKept 5 (some b) w w' := by
 obtain ⟨e0, he0⟩ : ∃ e, eq4 t0 t1 t2 t3 c0 c1 c2 c3 = e := ⟨_, rfl⟩
 have hdip : dipL n ⟨t0, t1, t2, t3⟩ ⟨c0, c1, c2, c3⟩ = if e0 then [] else escL 109 [n, 2, c0, c1, c2, c3] := by unfold dipL Co.eqb; rw [he0]
 have h' := Lib.hid h
 have hD' := Lib.hid hD
 clear h hD
 go_enter Tryz.func116, Tryz.ntmps116
 go_upto_region 1 with fail
 obtain ⟨W, hW⟩ : ∃ W, w.alloc (.cells #[.int .u8 c0, .int .u8 c1, .int .u8 c2, .int .u8 c3] 44) = W := ⟨_, rfl⟩
 have B2 : Blk W w.heap.size [.int .u8 c0, .int .u8 c1, .int .u8 c2, .int .u8 c3] 44 := by rw [← hW]; exact Blk.new' rfl
 have hbw : Below w.heap.size w W := by rw [← hW]; exact belt
 have hW1 : IsW B b l [.int .u8 x0, .int .u8 x1, .int .u8 x2, .int .u8 x3, .int .u8 t0, .int .u8 t1, .int .u8 t2, .int .u8 t3] W := by rw [← hW]; exact h'.out.alloc _
 have zW : W.heap.size = w.heap.size + 1 := by rw [← hW]; simp
 rw [hW]
 clear hW
 replace zW := Lib.hid zW
 obtain ⟨hBb, ybb, _, cs, hbb, hcl, hcs⟩ := hW1.blk
 have yB2 := B2.lt
 have k0 := B2.cell (o := 0) rfl
 have k1 := B2.cell (o := 1) rfl
 have k2 := B2.cell (o := 2) rfl
 have k3 := B2.cell (o := 3) rfl
 have j0 := hbb.cell (o := 6) ((hcs 4).trans rfl)
 have j1 := hbb.cell (o := 6 + 1) ((hcs 5).trans rfl)
 have j2 := hbb.cell (o := 6 + 2) ((hcs 6).trans rfl)
 have j3 := hbb.cell (o := 6 + 3) ((hcs 7).trans rfl)
 replace hW1 := Lib.hid hW1
 replace hbb := Lib.hid hbb
 refine rst (Held W 0 []) ?_
 repeat (first | (refine' sdo ?_; simp only [pu]) | (refine spa ?_; simp only [pu]))
 refine wpSteady_nil (fun uA hSA => ?_)
 obtain ⟨hcA, hbA, hzA, hcoA, hfoA⟩ := hall hSA; clear hSA; simp only [Cells] at hcA
 have hWA := Lib.hid (hW1.out.below hbA)
 have hoA := Lib.hid ((show Lib.OthersKept 5 (some b) w W from oth_below hbw).trans (oth_below hbA))
 have hBA : Below B w uA := (hbw.mono hBw).trans (hbA.mono (by have := zW.out; omega))
 have B2A := B2.below hbA yB2
 have bbA := hbb.out.below hbA (by have := zW.out; omega)
 have zA := hbA.size
 have zW' := zW.out
 have gb2 : w.heap.size ≠ b := by have := h'.out.blk.2.1; omega
 have yb1 := bbA.lt
 cases e0
 ·have ES := fun u (hu : IsW B b l [.int .u8 x0, .int .u8 x1, .int .u8 x2, .int .u8 x3, .int .u8 t0, .int .u8 t1, .int .u8 t2, .int .u8 t3] u) g (hg : Blk u g [.int .i64 n, .int .i64 2, .int .i64 c0, .int .i64 c1, .int .i64 c2, .int .i64 c3] 3) (hB : B ≤ u.heap.size) (hd : ∀ w', Below B u w' → DigT w') =>
   (show Calls Tryz.prog 67 #[.pointer (some ⟨b, 0, none⟩), .int .u8 109, .slice (some ⟨g, 0, none⟩) 6 6] u _ from esc_any B b l _ 109 109 rfl [n, 2, c0, c1, c2, c3] g 6 u hu hg hB (by
    intro x hx
    simp only [List.mem_cons, List.not_mem_nil, or_false] at hx
    unfold I64 at hn ⊢
    rcases hx with rfl | rfl | rfl | rfl | rfl | rfl <;> omega) hl (by show (6 : Nat) ≤ 10; decide) (by show (6 : Nat) ≤ 6; decide) hd)
  obtain ⟨T, hT⟩ : ∃ T, escL 109 [n, 2, c0, c1, c2, c3] = T := ⟨_, rfl⟩
  rw [hT] at ES hdip
  simp only [Bool.false_eq_true, if_false] at hdip
  replace ES := Lib.hid ES
  replace bbA := Lib.hid bbA
  replace B2A := Lib.hid B2A
  go_wp2_with (go_at_call 67; (with_reducible refine (ES.out _ (hWA.out.alloc _) _ (Blk.new _ _ _) (by simp; omega) (fun u hu => hD'.out u (hBA.trans ((Below.alloc (Below.refl _ _) (by omega) _).trans hu)))).mono ?_))
  rintro e w2 ⟨rfl, h2, hb2, hk2⟩
  have hk2' := ((hoA.out.alloc (.cells #[.int .i64 n, .int .i64 2, .int .i64 c0, .int .i64 c1, .int .i64 c2, .int .i64 c3] 3)).trans hk2)
  have C2 := (B2A.out.alloc (.cells #[.int .i64 n, .int .i64 2, .int .i64 c0, .int .i64 c1, .int .i64 c2, .int .i64 c3] 3)).others hk2 gb2 (by decide)
  obtain ⟨_, _, _, cs2, D2, dl2, ds2⟩ := h2.blk
  have hB2' : Below B w w2 := hBA.trans ((Below.alloc (Below.refl _ _) (by omega) _).trans hb2)
  replace h2 := Lib.hid h2
  replace hk2' := Lib.hid hk2'
  replace hB2' := Lib.hid hB2'
  clear k0 k1 k2 k3 j0 j1 j2 j3 hcA hcoA hfoA hb2 hk2 hbA ES
  have k0 := C2.cell (o := 0) rfl
  have k1 := C2.cell (o := 1) rfl
  have k2 := C2.cell (o := 2) rfl
  have k3 := C2.cell (o := 3) rfl
  have j0 := D2.cell (o := 6) ((ds2 4).trans rfl)
  have j1 := D2.cell (o := 6 + 1) ((ds2 5).trans rfl)
  have j2 := D2.cell (o := 6 + 2) ((ds2 6).trans rfl)
  have j3 := D2.cell (o := 6 + 3) ((ds2 7).trans rfl)
  have jf := D2.free
  replace D2 := Lib.hid D2
  replace C2 := Lib.hid C2
  go_wp2
  go_end0
  refine ⟨rfl, ?_, (((hB2'.out.setCell (p := ⟨b, 6, none⟩) hBb _).setCell (p := ⟨b, 6 + 1, none⟩) hBb _).setCell (p := ⟨b, 6 + 2, none⟩) hBb _).setCell (p := ⟨b, 6 + 3, none⟩) hBb _, (((hk2'.out.setCell ⟨b, 6, none⟩ rfl _).setCell ⟨b, 6 + 1, none⟩ rfl _).setCell ⟨b, 6 + 2, none⟩ rfl _).setCell ⟨b, 6 + 3, none⟩ rfl _⟩
  rw [hdip]
  exact (((h2.out.tail (k := 4) (by decide) _).tail (k := 5) (by decide) _).tail (k := 6) (by decide) _).tail (k := 7) (by decide) _
 ·simp only [if_true] at hdip
  obtain ⟨q0, q1, q2, q3⟩ := eq4_iff.1 he0
  subst q0 q1 q2 q3
  go_wp2
  go_end0
  exact ⟨rfl, by rw [hdip, List.append_nil]; exact hWA.out, hBA, hoA.out⟩
def tlW (x y : Co) : List Value := [.int .u8 x.r, .int .u8 x.g, .int .u8 x.b, .int .u8 x.a, .int .u8 y.r, .int .u8 y.g, .int .u8 y.b, .int .u8 y.a]
def markL (c : Ce) (wh : Bool) : List UInt8 := if c.wide && !wh then [14] else if c.tail then [15] else []
def cellL (x y : Co) (c : Ce) (wh : Bool) : List UInt8 := dipL 38 x c.col ++ (dipL 48 y c.back ++ (markL c wh ++ Lib.encodeRune c.rune))
theorem escL_len {c : UInt8} {ns : List Int} (h : ∀ n ∈ ns, I64 n) : (escL c ns).length ≤ 22 * ns.length + 3 := by
  have := numsL_len ns h
  unfold escL
  rw [List.length_append, List.length_append]
  simp only [List.length_cons, List.length_nil]
  omega
theorem dipL_len {n : Int} {t c : Co} (hn : I64 n) (hc : c.Wf) : (dipL n t c).length ≤ 140 := by
  unfold dipL
  split
  · simp
  · refine Nat.le_trans (escL_len (fun x hx => ?_)) (by show 22 * 6 + 3 ≤ 140; decide)
    unfold Co.Wf U8 at hc
    simp only [List.mem_cons, List.not_mem_nil, or_false] at hx
    unfold I64 at hn ⊢
    rcases hx with rfl | rfl | rfl | rfl | rfl | rfl <;> omega
set_option maxHeartbeats 4000000 in
set_option maxRecDepth 100000 in
theorem wcell_any (B b : Nat) (l : List UInt8) (x y : Co) (c : Ce) (wh : Bool) (w : World) (h : IsW B b l (tlW x y) w) (hBw : B ≤ w.heap.size) (hc : c.Wf) (hr : -2147483648 ≤ c.rune ∧ c.rune ≤ 2147483647) (hl : l.length ≤ 40000000) (hD : ∀ w', Below B w w' → DigT w') :
  Calls Tryz.prog 68 #[.pointer (some ⟨b, 0, none⟩), .agg #[.int .i32 (c).rune, .int .u8 (c).col.r, .int .u8 (c).col.g, .int .u8 (c).col.b, .int .u8 (c).col.a, .int .u8 (c).back.r, .int .u8 (c).back.g, .int .u8 (c).back.b, .int .u8 (c).back.a, .bool (c).wide, .bool (c).tail], .bool wh] w fun e w' => e = .returned (.tuple #[]) ∧ IsW B b (l ++ cellL x y c wh) (tlW c.col c.back) w' ∧ Below B w w' ∧ Lib.OthersKept 5 (some b) w w' := by
 obtain ⟨ru, ⟨c0, c1, c2, c3⟩, ⟨d0, d1, d2, d3⟩, wi, ta⟩ := c
 obtain ⟨x0, x1, x2, x3⟩ := x
 obtain ⟨y0, y1, y2, y3⟩ := y
 obtain ⟨_, hc1, hc2⟩ := hc
 have L1 := dipL_len (n := 38) (t := ⟨x0, x1, x2, x3⟩) (by unfold I64; omega) hc1
 have L2 := dipL_len (n := 48) (t := ⟨y0, y1, y2, y3⟩) (by unfold I64; omega) hc2
 unfold Co.Wf U8 at hc1 hc2
 dsimp only at hc1 hc2 hr L1 L2
 have DA := fun u (hu : IsW B b l [.int .u8 x0, .int .u8 x1, .int .u8 x2, .int .u8 x3, .int .u8 y0, .int .u8 y1, .int .u8 y2, .int .u8 y3] u) hB hd => dip2 B b l x0 x1 x2 x3 y0 y1 y2 y3 c0 c1 c2 c3 38 u hu hB (by unfold I64; omega) (by omega) (by omega) hd
 have DB := fun m u (hu : IsW B b m [.int .u8 c0, .int .u8 c1, .int .u8 c2, .int .u8 c3, .int .u8 y0, .int .u8 y1, .int .u8 y2, .int .u8 y3] u) hB hd (hm : m.length ≤ 41000000) => dip6 B b m y0 y1 y2 y3 c0 c1 c2 c3 d0 d1 d2 d3 48 u hu hB (by unfold I64; omega) (by omega) (by omega) hd
 obtain ⟨P1, hP1⟩ : ∃ P, dipL 38 ⟨x0, x1, x2, x3⟩ ⟨c0, c1, c2, c3⟩ = P := ⟨_, rfl⟩
 obtain ⟨P2, hP2⟩ : ∃ P, dipL 48 ⟨y0, y1, y2, y3⟩ ⟨d0, d1, d2, d3⟩ = P := ⟨_, rfl⟩
 unfold cellL
 unfold tlW at h ⊢
 dsimp only at h ⊢
 rw [hP1] at DA L1 ⊢
 rw [hP2] at DB L2 ⊢
 obtain ⟨MK, hMK⟩ : ∃ m, markL ⟨ru, ⟨c0, c1, c2, c3⟩, ⟨d0, d1, d2, d3⟩, wi, ta⟩ wh = m := ⟨_, rfl⟩
 rw [hMK]
 replace DA := Lib.hid DA
 replace DB := Lib.hid DB
 have h' := Lib.hid h
 have hD' := Lib.hid hD
 clear h hD hP1 hP2
 go_enter Tryz.func68, Tryz.ntmps68
 go_upto_region 1 with fail
 obtain ⟨W, hW⟩ : ∃ W, w.alloc (.cells #[.int .i32 ru, .int .u8 c0, .int .u8 c1, .int .u8 c2, .int .u8 c3, .int .u8 d0, .int .u8 d1, .int .u8 d2, .int .u8 d3, .bool wi, .bool ta] 52) = W := ⟨_, rfl⟩
 have B2 : Blk W w.heap.size [.int .i32 ru, .int .u8 c0, .int .u8 c1, .int .u8 c2, .int .u8 c3, .int .u8 d0, .int .u8 d1, .int .u8 d2, .int .u8 d3, .bool wi, .bool ta] 52 := by rw [← hW]; exact Blk.new' rfl
 have hbw : Below w.heap.size w W := by rw [← hW]; exact belt
 have zW : W.heap.size = w.heap.size + 1 := by rw [← hW]; simp
 rw [hW]
 clear hW
 have hW1 := Lib.hid (h'.out.below hbw)
 have gb2 : w.heap.size ≠ b := by have := h'.out.blk.2.1; omega
 replace zW := Lib.hid zW
 have yB2 := B2.lt
 have k1 := B2.cell (o := 1) rfl
 have k2 := B2.cell (o := 2) rfl
 have k3 := B2.cell (o := 3) rfl
 have k4 := B2.cell (o := 4) rfl
 refine wp_region_steady_then (Held W 0 []) 6 (by kernel_rfl) (by kernel_rfl) (by decide) (by kernel_rfl) (by kernel_rfl) ⟨belt, (by (try simp) <;> omega), (by first | exact trivial | (simp only [Cells]; go_simp))⟩ ?_
 simp only [List.take_succ_cons, List.take_zero]
 repeat (first | (refine' sdo ?_; simp only [pu]) | (refine spa ?_; simp only [pu]))
 refine wpSteady_nil (fun uA hSA => ?_)
 obtain ⟨hcA, hbA, hzA, hcoA, hfoA⟩ := hall hSA; clear hSA; simp only [Cells] at hcA
 simp only [List.drop_succ_cons, List.drop_zero, List.drop_nil]
 have hBA : Below B w uA := (hbw.mono hBw).trans (hbA.mono (by have := zW.out; omega))
 have hoA : Lib.OthersKept 5 (some b) w uA := (oth_below hbw).trans (oth_below hbA)
 have zA := hBA.size
 go_wp2_with (go_at_call 116; (with_reducible refine (DA.out _ (hW1.out.below hbA) (by omega) (fun u hu => hD'.out u (hBA.trans hu))).mono ?_))
 rintro e w2 ⟨rfl, h2, hb2, hk2⟩
 have C2 := (B2.below hbA yB2).others hk2 gb2 (by decide)
 have hB2 := hBA.trans hb2
 have hK2 := hoA.trans hk2
 clear k1 k2 k3 k4 hcA hcoA hfoA hbA hBA hoA hb2 hk2 DA yB2 B2
 have yC2 := C2.lt
 have k5 := C2.cell (o := 5) rfl
 have k6 := C2.cell (o := 6) rfl
 have k7 := C2.cell (o := 7) rfl
 have k8 := C2.cell (o := 8) rfl
 replace h2 := Lib.hid h2
 replace hK2 := Lib.hid hK2
 go_upto_region 2 with fail
 refine wp_region_steady_then (Held w2 0 []) 6 (by kernel_rfl) (by kernel_rfl) (by decide) (by kernel_rfl) (by kernel_rfl) ⟨belt, (by (try simp) <;> omega), (by first | exact trivial | (simp only [Cells]; go_simp))⟩ ?_
 simp only [List.take_succ_cons, List.take_zero]
 repeat (first | (refine' sdo ?_; simp only [pu]) | (refine spa ?_; simp only [pu]))
 refine wpSteady_nil (fun uB hSB => ?_)
 obtain ⟨hcB, hbB, hzB, hcoB, hfoB⟩ := hall hSB; clear hSB; simp only [Cells] at hcB
 simp only [List.drop_succ_cons, List.drop_zero, List.drop_nil]
 have hBB : Below B w uB := hB2.trans (hbB.mono (by have := hB2.size; omega))
 have hoB : Lib.OthersKept 5 (some b) w uB := hK2.out.trans (oth_below hbB)
 have zB := hBB.size
 go_wp2_with (go_at_call 116; (with_reducible refine (DB.out _ _ (h2.out.below hbB) (by omega) (fun u hu => hD'.out u (hBB.trans hu)) (by rw [List.length_append]; omega)).mono ?_))
 rintro e w3 ⟨rfl, h3, hb3, hk3⟩
 have C3 := (C2.below hbB yC2).others hk3 gb2 (by decide)
 have hB3 := hBB.trans hb3
 have hK3 := hoB.trans hk3
 clear k5 k6 k7 k8 hcB hcoB hfoB hbB hBB hoB hb3 hk3 DB C2 h2 hB2 hK2 yC2
 have yC3 := C3.lt
 have k0 := C3.cell (o := 0) rfl
 have k9 := C3.cell (o := 9) rfl
 have k10 := C3.cell (o := 10) rfl
 have zz3 := hB3.size
 have l3 : (l ++ P1 ++ P2).length ≤ 41000000 := by rw [List.length_append, List.length_append]; omega
 replace h3 := Lib.hid h3
 replace hK3 := Lib.hid hK3
 replace C3 := Lib.hid C3
 cases wi <;> cases wh <;> cases ta
 ·simp [markL] at hMK; subst hMK
  go_upto_region 7 with fail
  refine wp_region_steady_then (Held w3 0 []) 5 (by kernel_rfl) (by kernel_rfl) (by decide) (by kernel_rfl) (by kernel_rfl) ⟨belt, (by (try simp) <;> omega), (by first | exact trivial | (simp only [Cells]; go_simp))⟩ ?_
  simp only [List.take_succ_cons, List.take_zero]
  repeat (first | (refine' sdo ?_; simp only [pu]) | (refine spa ?_; simp only [pu]))
  refine wpSteady_nil (fun uC hSC => ?_)
  obtain ⟨hcC, hbC, hzC, hcoC, hfoC⟩ := hall hSC; clear hSC; simp only [Cells] at hcC
  simp only [List.drop_succ_cons, List.drop_zero, List.drop_nil]
  have zC := hbC.size
  have hBC : Below B w uC := (hB3).trans (hbC.mono (by omega))
  have hoC : Lib.OthersKept 5 (some b) w uC := (hK3.out).trans (oth_below hbC)
  go_wp2_with (go_at_call 61; (with_reducible refine (wrtR B b (l ++ P1 ++ P2) _ ru _ (h3.out.below hbC) (by omega) (by omega) (by omega) (by omega)).mono ?_); rintro e w5 ⟨⟨v5, rfl⟩, h5, hb5, hk5⟩; replace h5 := Lib.hid h5; replace hk5 := Lib.hid hk5)
  go_end0
  exact ⟨rfl, by simpa using h5.out, hBC.trans hb5, hoC.trans hk5.out⟩
 ·simp [markL] at hMK; subst hMK
  go_upto_region 7 with (go_at_call 62; (with_reducible refine (wrtB B b _ _ 15 15 rfl _ h3.out (by omega) (by omega)).mono ?_); rintro e w4 ⟨rfl, h4, hb4, hk4⟩)
  have C4 := C3.out.others hk4 gb2 (by decide)
  have j0 := C4.cell (o := 0) rfl
  have yC4 := C4.lt
  have hB4 := hB3.trans hb4
  have hK4 := hK3.out.trans hk4
  have zz4 := hB4.size
  have l4 : (l ++ P1 ++ P2 ++ [15]).length ≤ 41000001 := by rw [List.length_append, List.length_singleton]; omega
  replace h4 := Lib.hid h4
  replace hK4 := Lib.hid hK4
  clear k0 k9 k10 hk4 hb4
  refine wp_region_steady_then (Held w4 0 []) 5 (by kernel_rfl) (by kernel_rfl) (by decide) (by kernel_rfl) (by kernel_rfl) ⟨belt, (by (try simp) <;> omega), (by first | exact trivial | (simp only [Cells]; go_simp))⟩ ?_
  simp only [List.take_succ_cons, List.take_zero]
  repeat (first | (refine' sdo ?_; simp only [pu]) | (refine spa ?_; simp only [pu]))
  refine wpSteady_nil (fun uC hSC => ?_)
  obtain ⟨hcC, hbC, hzC, hcoC, hfoC⟩ := hall hSC; clear hSC; simp only [Cells] at hcC
  simp only [List.drop_succ_cons, List.drop_zero, List.drop_nil]
  have zC := hbC.size
  have hBC : Below B w uC := (hB4).trans (hbC.mono (by omega))
  have hoC : Lib.OthersKept 5 (some b) w uC := (hK4.out).trans (oth_below hbC)
  go_wp2_with (go_at_call 61; (with_reducible refine (wrtR B b (l ++ P1 ++ P2 ++ [15]) _ ru _ (h4.out.below hbC) (by omega) (by omega) (by omega) (by omega)).mono ?_); rintro e w5 ⟨⟨v5, rfl⟩, h5, hb5, hk5⟩; replace h5 := Lib.hid h5; replace hk5 := Lib.hid hk5)
  go_end0
  exact ⟨rfl, by simpa using h5.out, hBC.trans hb5, hoC.trans hk5.out⟩
 ·simp [markL] at hMK; subst hMK
  go_upto_region 7 with fail
  refine wp_region_steady_then (Held w3 0 []) 5 (by kernel_rfl) (by kernel_rfl) (by decide) (by kernel_rfl) (by kernel_rfl) ⟨belt, (by (try simp) <;> omega), (by first | exact trivial | (simp only [Cells]; go_simp))⟩ ?_
  simp only [List.take_succ_cons, List.take_zero]
  repeat (first | (refine' sdo ?_; simp only [pu]) | (refine spa ?_; simp only [pu]))
  refine wpSteady_nil (fun uC hSC => ?_)
  obtain ⟨hcC, hbC, hzC, hcoC, hfoC⟩ := hall hSC; clear hSC; simp only [Cells] at hcC
  simp only [List.drop_succ_cons, List.drop_zero, List.drop_nil]
  have zC := hbC.size
  have hBC : Below B w uC := (hB3).trans (hbC.mono (by omega))
  have hoC : Lib.OthersKept 5 (some b) w uC := (hK3.out).trans (oth_below hbC)
  go_wp2_with (go_at_call 61; (with_reducible refine (wrtR B b (l ++ P1 ++ P2) _ ru _ (h3.out.below hbC) (by omega) (by omega) (by omega) (by omega)).mono ?_); rintro e w5 ⟨⟨v5, rfl⟩, h5, hb5, hk5⟩; replace h5 := Lib.hid h5; replace hk5 := Lib.hid hk5)
  go_end0
  exact ⟨rfl, by simpa using h5.out, hBC.trans hb5, hoC.trans hk5.out⟩
 ·simp [markL] at hMK; subst hMK
  go_upto_region 7 with (go_at_call 62; (with_reducible refine (wrtB B b _ _ 15 15 rfl _ h3.out (by omega) (by omega)).mono ?_); rintro e w4 ⟨rfl, h4, hb4, hk4⟩)
  have C4 := C3.out.others hk4 gb2 (by decide)
  have j0 := C4.cell (o := 0) rfl
  have yC4 := C4.lt
  have hB4 := hB3.trans hb4
  have hK4 := hK3.out.trans hk4
  have zz4 := hB4.size
  have l4 : (l ++ P1 ++ P2 ++ [15]).length ≤ 41000001 := by rw [List.length_append, List.length_singleton]; omega
  replace h4 := Lib.hid h4
  replace hK4 := Lib.hid hK4
  clear k0 k9 k10 hk4 hb4
  refine wp_region_steady_then (Held w4 0 []) 5 (by kernel_rfl) (by kernel_rfl) (by decide) (by kernel_rfl) (by kernel_rfl) ⟨belt, (by (try simp) <;> omega), (by first | exact trivial | (simp only [Cells]; go_simp))⟩ ?_
  simp only [List.take_succ_cons, List.take_zero]
  repeat (first | (refine' sdo ?_; simp only [pu]) | (refine spa ?_; simp only [pu]))
  refine wpSteady_nil (fun uC hSC => ?_)
  obtain ⟨hcC, hbC, hzC, hcoC, hfoC⟩ := hall hSC; clear hSC; simp only [Cells] at hcC
  simp only [List.drop_succ_cons, List.drop_zero, List.drop_nil]
  have zC := hbC.size
  have hBC : Below B w uC := (hB4).trans (hbC.mono (by omega))
  have hoC : Lib.OthersKept 5 (some b) w uC := (hK4.out).trans (oth_below hbC)
  go_wp2_with (go_at_call 61; (with_reducible refine (wrtR B b (l ++ P1 ++ P2 ++ [15]) _ ru _ (h4.out.below hbC) (by omega) (by omega) (by omega) (by omega)).mono ?_); rintro e w5 ⟨⟨v5, rfl⟩, h5, hb5, hk5⟩; replace h5 := Lib.hid h5; replace hk5 := Lib.hid hk5)
  go_end0
  exact ⟨rfl, by simpa using h5.out, hBC.trans hb5, hoC.trans hk5.out⟩
 ·simp [markL] at hMK; subst hMK
  go_upto_region 7 with (go_at_call 62; (with_reducible refine (wrtB B b _ _ 14 14 rfl _ h3.out (by omega) (by omega)).mono ?_); rintro e w4 ⟨rfl, h4, hb4, hk4⟩)
  have C4 := C3.out.others hk4 gb2 (by decide)
  have j0 := C4.cell (o := 0) rfl
  have yC4 := C4.lt
  have hB4 := hB3.trans hb4
  have hK4 := hK3.out.trans hk4
  have zz4 := hB4.size
  have l4 : (l ++ P1 ++ P2 ++ [14]).length ≤ 41000001 := by rw [List.length_append, List.length_singleton]; omega
  replace h4 := Lib.hid h4
  replace hK4 := Lib.hid hK4
  clear k0 k9 k10 hk4 hb4
  refine wp_region_steady_then (Held w4 0 []) 5 (by kernel_rfl) (by kernel_rfl) (by decide) (by kernel_rfl) (by kernel_rfl) ⟨belt, (by (try simp) <;> omega), (by first | exact trivial | (simp only [Cells]; go_simp))⟩ ?_
  simp only [List.take_succ_cons, List.take_zero]
  repeat (first | (refine' sdo ?_; simp only [pu]) | (refine spa ?_; simp only [pu]))
  refine wpSteady_nil (fun uC hSC => ?_)
  obtain ⟨hcC, hbC, hzC, hcoC, hfoC⟩ := hall hSC; clear hSC; simp only [Cells] at hcC
  simp only [List.drop_succ_cons, List.drop_zero, List.drop_nil]
  have zC := hbC.size
  have hBC : Below B w uC := (hB4).trans (hbC.mono (by omega))
  have hoC : Lib.OthersKept 5 (some b) w uC := (hK4.out).trans (oth_below hbC)
  go_wp2_with (go_at_call 61; (with_reducible refine (wrtR B b (l ++ P1 ++ P2 ++ [14]) _ ru _ (h4.out.below hbC) (by omega) (by omega) (by omega) (by omega)).mono ?_); rintro e w5 ⟨⟨v5, rfl⟩, h5, hb5, hk5⟩; replace h5 := Lib.hid h5; replace hk5 := Lib.hid hk5)
  go_end0
  exact ⟨rfl, by simpa using h5.out, hBC.trans hb5, hoC.trans hk5.out⟩
 ·simp [markL] at hMK; subst hMK
  go_upto_region 7 with (go_at_call 62; (with_reducible refine (wrtB B b _ _ 14 14 rfl _ h3.out (by omega) (by omega)).mono ?_); rintro e w4 ⟨rfl, h4, hb4, hk4⟩)
  have C4 := C3.out.others hk4 gb2 (by decide)
  have j0 := C4.cell (o := 0) rfl
  have yC4 := C4.lt
  have hB4 := hB3.trans hb4
  have hK4 := hK3.out.trans hk4
  have zz4 := hB4.size
  have l4 : (l ++ P1 ++ P2 ++ [14]).length ≤ 41000001 := by rw [List.length_append, List.length_singleton]; omega
  replace h4 := Lib.hid h4
  replace hK4 := Lib.hid hK4
  clear k0 k9 k10 hk4 hb4
  refine wp_region_steady_then (Held w4 0 []) 5 (by kernel_rfl) (by kernel_rfl) (by decide) (by kernel_rfl) (by kernel_rfl) ⟨belt, (by (try simp) <;> omega), (by first | exact trivial | (simp only [Cells]; go_simp))⟩ ?_
  simp only [List.take_succ_cons, List.take_zero]
  repeat (first | (refine' sdo ?_; simp only [pu]) | (refine spa ?_; simp only [pu]))
  refine wpSteady_nil (fun uC hSC => ?_)
  obtain ⟨hcC, hbC, hzC, hcoC, hfoC⟩ := hall hSC; clear hSC; simp only [Cells] at hcC
  simp only [List.drop_succ_cons, List.drop_zero, List.drop_nil]
  have zC := hbC.size
  have hBC : Below B w uC := (hB4).trans (hbC.mono (by omega))
  have hoC : Lib.OthersKept 5 (some b) w uC := (hK4.out).trans (oth_below hbC)
  go_wp2_with (go_at_call 61; (with_reducible refine (wrtR B b (l ++ P1 ++ P2 ++ [14]) _ ru _ (h4.out.below hbC) (by omega) (by omega) (by omega) (by omega)).mono ?_); rintro e w5 ⟨⟨v5, rfl⟩, h5, hb5, hk5⟩; replace h5 := Lib.hid h5; replace hk5 := Lib.hid hk5)
  go_end0
  exact ⟨rfl, by simpa using h5.out, hBC.trans hb5, hoC.trans hk5.out⟩
 ·simp [markL] at hMK; subst hMK
  go_upto_region 7 with fail
  refine wp_region_steady_then (Held w3 0 []) 5 (by kernel_rfl) (by kernel_rfl) (by decide) (by kernel_rfl) (by kernel_rfl) ⟨belt, (by (try simp) <;> omega), (by first | exact trivial | (simp only [Cells]; go_simp))⟩ ?_
  simp only [List.take_succ_cons, List.take_zero]
  repeat (first | (refine' sdo ?_; simp only [pu]) | (refine spa ?_; simp only [pu]))
  refine wpSteady_nil (fun uC hSC => ?_)
  obtain ⟨hcC, hbC, hzC, hcoC, hfoC⟩ := hall hSC; clear hSC; simp only [Cells] at hcC
  simp only [List.drop_succ_cons, List.drop_zero, List.drop_nil]
  have zC := hbC.size
  have hBC : Below B w uC := (hB3).trans (hbC.mono (by omega))
  have hoC : Lib.OthersKept 5 (some b) w uC := (hK3.out).trans (oth_below hbC)
  go_wp2_with (go_at_call 61; (with_reducible refine (wrtR B b (l ++ P1 ++ P2) _ ru _ (h3.out.below hbC) (by omega) (by omega) (by omega) (by omega)).mono ?_); rintro e w5 ⟨⟨v5, rfl⟩, h5, hb5, hk5⟩; replace h5 := Lib.hid h5; replace hk5 := Lib.hid hk5)
  go_end0
  exact ⟨rfl, by simpa using h5.out, hBC.trans hb5, hoC.trans hk5.out⟩
 ·simp [markL] at hMK; subst hMK
  go_upto_region 7 with (go_at_call 62; (with_reducible refine (wrtB B b _ _ 15 15 rfl _ h3.out (by omega) (by omega)).mono ?_); rintro e w4 ⟨rfl, h4, hb4, hk4⟩)
  have C4 := C3.out.others hk4 gb2 (by decide)
  have j0 := C4.cell (o := 0) rfl
  have yC4 := C4.lt
  have hB4 := hB3.trans hb4
  have hK4 := hK3.out.trans hk4
  have zz4 := hB4.size
  have l4 : (l ++ P1 ++ P2 ++ [15]).length ≤ 41000001 := by rw [List.length_append, List.length_singleton]; omega
  replace h4 := Lib.hid h4
  replace hK4 := Lib.hid hK4
  clear k0 k9 k10 hk4 hb4
  refine wp_region_steady_then (Held w4 0 []) 5 (by kernel_rfl) (by kernel_rfl) (by decide) (by kernel_rfl) (by kernel_rfl) ⟨belt, (by (try simp) <;> omega), (by first | exact trivial | (simp only [Cells]; go_simp))⟩ ?_
  simp only [List.take_succ_cons, List.take_zero]
  repeat (first | (refine' sdo ?_; simp only [pu]) | (refine spa ?_; simp only [pu]))
  refine wpSteady_nil (fun uC hSC => ?_)
  obtain ⟨hcC, hbC, hzC, hcoC, hfoC⟩ := hall hSC; clear hSC; simp only [Cells] at hcC
  simp only [List.drop_succ_cons, List.drop_zero, List.drop_nil]
  have zC := hbC.size
  have hBC : Below B w uC := (hB4).trans (hbC.mono (by omega))
  have hoC : Lib.OthersKept 5 (some b) w uC := (hK4.out).trans (oth_below hbC)
  go_wp2_with (go_at_call 61; (with_reducible refine (wrtR B b (l ++ P1 ++ P2 ++ [15]) _ ru _ (h4.out.below hbC) (by omega) (by omega) (by omega) (by omega)).mono ?_); rintro e w5 ⟨⟨v5, rfl⟩, h5, hb5, hk5⟩; replace h5 := Lib.hid h5; replace hk5 := Lib.hid hk5)
  go_end0
  exact ⟨rfl, by simpa using h5.out, hBC.trans hb5, hoC.trans hk5.out⟩
end Go.Proofs.YtffmomgmkpmpkaaGreatDoor

namespace Go.Proofs.YtffmomgmkpmpkaaGreatDoor
open Go.RowKit
set_option linter.unusedVariables false
attribute [local go_sem] vwp vUpon_value vUpon_skip vUpon_enter vUpon_row
set_option linter.unusedSimpArgs false
set_option linter.unusedVariables false
structure Rn where
  x : Int
  y : Int
  cells : List Ce
/-! ### plain -/
def dif (ls ms : List Ce) (k : Nat) : Bool := match ls[k]?, ms[k]? with
  | some a, some b => !(a.eqb b)
  | _, _ => false
theorem dif_at {ls ms : List Ce} {k : Nat} {a b : Ce} (ha : ls[k]? = some a) (hb : ms[k]? = some b) : dif ls ms k = !(a.eqb b) := by
  unfold dif; rw [ha, hb]
def rEnd (ls ms : List Ce) (P N : Nat) : Nat → Nat → Nat
  | 0, x => x
  | f + 1, x => if x < N ∧ dif ls ms (P + x) = true then rEnd ls ms P N f (x + 1) else x
theorem rEnd_bd (ls ms : List Ce) (P N : Nat) : ∀ f x, x ≤ rEnd ls ms P N f x ∧ (x ≤ N → rEnd ls ms P N f x ≤ N)
  | 0, x => ⟨Nat.le_refl _, id⟩
  | f + 1, x => by
    rw [rEnd]
    split
    · rename_i h
      have := rEnd_bd ls ms P N f (x + 1)
      exact ⟨by omega, fun _ => this.2 (by omega)⟩
    · exact ⟨Nat.le_refl _, id⟩
def runTo (ls ms : List Ce) (P N x : Nat) : Nat := rEnd ls ms P N (N - x) x
theorem rEnd_more (ls ms : List Ce) (P N : Nat) : ∀ (n m x : Nat), N - x ≤ n → N - x ≤ m → rEnd ls ms P N n x = rEnd ls ms P N m x
  | 0, 0, _, _, _ => rfl
  | 0, m + 1, x, h1, _ => by rw [rEnd, rEnd, if_neg (by omega)]
  | n + 1, 0, x, _, h2 => by rw [rEnd, rEnd, if_neg (by omega)]
  | n + 1, m + 1, x, h1, h2 => by
    rw [rEnd, rEnd]
    split
    · exact rEnd_more ls ms P N n m _ (by omega) (by omega)
    · rfl
theorem runTo_step {ls ms : List Ce} {P N x : Nat} (hx : x < N) (hd : dif ls ms (P + x) = true) : runTo ls ms P N x = runTo ls ms P N (x + 1) := by
  unfold runTo
  obtain ⟨n, hn⟩ : ∃ n, N - x = n + 1 := ⟨N - x - 1, by omega⟩
  rw [hn, rEnd, if_pos ⟨hx, hd⟩]
  exact rEnd_more _ _ _ _ _ _ _ (by omega) (Nat.le_refl _)
theorem runTo_stop {ls ms : List Ce} {P N x : Nat} (h : ¬ (x < N ∧ dif ls ms (P + x) = true)) : runTo ls ms P N x = x := by
  unfold runTo
  cases hn : N - x with
  | zero => rfl
  | succ n => rw [rEnd, if_neg h]
def runOne (ms : List Ce) (P y x e : Nat) : List Rn := if x < e then [⟨x, y, (ms.drop (P + x)).take (e - x)⟩] else []
def runAt (ls ms : List Ce) (P N y : Nat) : Nat → Nat → List Rn
  | 0, _ => []
  | f + 1, x => if x < N then runOne ms P y x (runTo ls ms P N x) ++ runAt ls ms P N y f (runTo ls ms P N x + 1) else []
theorem runAt_more (ls ms : List Ce) (P N y : Nat) : ∀ (n m x : Nat), N - x ≤ n → N - x ≤ m → runAt ls ms P N y n x = runAt ls ms P N y m x
  | 0, 0, _, _, _ => rfl
  | 0, m + 1, x, h1, _ => by rw [runAt, runAt, if_neg (by omega)]
  | n + 1, 0, x, _, h2 => by rw [runAt, runAt, if_neg (by omega)]
  | n + 1, m + 1, x, h1, h2 => by
    rw [runAt, runAt]
    have := (rEnd_bd ls ms P N (N - x) x).1
    split
    · rw [runAt_more ls ms P N y n m _ (by unfold runTo; omega) (by unfold runTo; omega)]
    · rfl
def runRow (ls ms : List Ce) (P N y x : Nat) : List Rn := runAt ls ms P N y (N - x) x
theorem runRow_step {ls ms : List Ce} {P N y x : Nat} (hx : x < N) : runRow ls ms P N y x = runOne ms P y x (runTo ls ms P N x) ++ runRow ls ms P N y (runTo ls ms P N x + 1) := by
  unfold runRow
  obtain ⟨n, hn⟩ : ∃ n, N - x = n + 1 := ⟨N - x - 1, by omega⟩
  have := (rEnd_bd ls ms P N (N - x) x).1
  rw [hn, runAt, if_pos hx, runAt_more ls ms P N y n _ _ (by unfold runTo; omega) (Nat.le_refl _)]
theorem runRow_end {ls ms : List Ce} {P N y x : Nat} (hx : ¬ x < N) : runRow ls ms P N y x = [] := by
  unfold runRow
  rw [show N - x = 0 by omega]; rfl
def runsGo (ls ms : List Ce) (N : Nat) : Nat → Nat → List Rn
  | 0, _ => []
  | n + 1, y => runRow ls ms (y * N) N y 0 ++ runsGo ls ms N n (y + 1)
def runsOk (wa ha : Int) (ls : List Ce) (wb hb : Int) (ms : List Ce) : Bool := (chkS wa ha ls == 0) && ((chkS wb hb ms == 0) && ((wa == wb) && (ha == hb)))
def runsE (wa ha : Int) (ls : List Ce) (wb hb : Int) (ms : List Ce) : Int := if runsOk wa ha ls wb hb ms then 0 else 150
def runsL (wa ha : Int) (ls : List Ce) (wb hb : Int) (ms : List Ce) : List Rn := if runsOk wa ha ls wb hb ms then runsGo ls ms wa.toNat ha.toNat 0 else []
/-! ### rows of runs -/
def encRn (p : Rn × Value) : List Value := [.int .i64 p.1.x, .int .i64 p.1.y, p.2]
theorem encRn_len (p : Rn × Value) : (encRn p).length = 3 := rfl
theorem infoRn : (Tryz.prog.info? 67).map (fun i => (i.zero, i.size, i.bytes)) = some (some (.agg #[.int .i64 0, .int .i64 0, .slice none 0 0]), 3, 40) := by kernel_rfl
/-- A row of runs, the cells of each in a block of its own, behind base. -/
def RunRows (base : Nat) (W : World) (v : Value) (l : List Rn) : Prop :=
  ∃ vs : List Value, vs.length = l.length ∧ W.ownsRow base 67 3 v l.length ((l.zip vs).flatMap encRn) ∧ (∀ (j : Nat) u r, vs[j]? = some u → l[j]? = some r → OwnsC base W u r.cells) ∧
    ∀ (i j : Nat) u u', i < j → vs[i]? = some u → vs[j]? = some u' → ∀ g, u.ownBlock = some g → u'.ownBlock ≠ some g
theorem RunRows.nil (base : Nat) (W : World) : RunRows base W (.slice none 0 0) [] := ⟨[], rfl, World.ownsRow_nil _ _ _ _, fun j u r h => by simp at h, fun i j u u' _ h => by simp at h⟩
theorem RunRows.below {W W' : World} {base B : Nat} {v : Value} {l : List Rn} (h : RunRows base W v l) (hb : Below B W W') (hB : W.heap.size ≤ B) : RunRows base W' v l := by
  obtain ⟨vs, hl, hr, hj, hd⟩ := h
  exact ⟨vs, hl, ownsRow_below hr hb hB, fun j u r h1 h2 => (hj j u r h1 h2).below hb hB, hd⟩
theorem RunRows.low {W : World} {base B : Nat} {v : Value} {l : List Rn} (h : RunRows base W v l) (hB : B ≤ base) : RunRows B W v l := by
  obtain ⟨vs, hl, hr, hj, hd⟩ := h
  exact ⟨vs, hl, own_low hr hB, fun j u r h1 h2 => own_low (hj j u r h1 h2) hB, hd⟩
/-- One run more. -/
theorem RunRows.snoc {W w' : World} {base : Nat} {v v' u : Value} {l : List Rn} {r : Rn} {vs : List Value} (hl : vs.length = l.length) (hj : ∀ (j : Nat) u r, vs[j]? = some u → l[j]? = some r → OwnsC base W u r.cells)
  (hd : ∀ (i j : Nat) u u', i < j → vs[i]? = some u → vs[j]? = some u' → ∀ g, u.ownBlock = some g → u'.ownBlock ≠ some g) (hr : W.ownsRow base 67 3 v l.length ((l.zip vs).flatMap encRn)) (hu : OwnsC base W u r.cells)
  (hnew : ∀ (i : Nat) u', vs[i]? = some u' → ∀ g, u'.ownBlock = some g → u.ownBlock ≠ some g)
  (hown : w'.ownsRow base 67 3 v' (l.length + 1) ((l.zip vs).flatMap encRn ++ encRn (r, u))) (hg : W.grownBy w' v.ownBlock) : RunRows base w' v' (l ++ [r]) := by
 have key : ∀ {u : Value} {cs : List Ce}, OwnsC base W u cs → OwnsC base w' u cs := fun h => by
  refine h.kept hg ?_
  rcases h.2 with ⟨rfl, _⟩ | ⟨b, cap, cur, rfl, _⟩
  ·exact .inl rfl
  ·exact .inr (fun e => own_apart h hr (by decide) b rfl e.symm)
 refine ⟨vs ++ [u], by simp [hl], ?_, fun j u' r' h1 h2 => ?_, fun i j u1 u2 hij h1 h2 => ?_⟩
 ·rw [List.zip_append (by rw [hl])]
  simpa using hown
 ·by_cases c : j < vs.length
  ·rw [List.getElem?_append_left c] at h1
   rw [List.getElem?_append_left (by omega)] at h2
   exact key (hj j u' r' h1 h2)
  ·by_cases c2 : j = vs.length
   ·subst c2
    rw [List.getElem?_append_right (Nat.le_refl _), Nat.sub_self] at h1
    rw [hl, List.getElem?_append_right (Nat.le_refl _), Nat.sub_self] at h2
    simp at h1 h2
    subst h1 h2
    exact key hu
   ·rw [List.getElem?_eq_none (by simp; omega)] at h1
    cases h1
 ·have hjl := (List.getElem?_eq_some_iff.1 h2).1
  rw [List.length_append, List.length_singleton] at hjl
  rw [List.getElem?_append_left (by omega)] at h1
  by_cases c : j < vs.length
  ·rw [List.getElem?_append_left c] at h2
   exact hd i j u1 u2 hij h1 h2
  ·obtain rfl : j = vs.length := by omega
   rw [List.getElem?_append_right (Nat.le_refl _), Nat.sub_self] at h2
   simp at h2
   subst h2
   exact hnew i u1 h1
/-- A piece of a row. -/
theorem Row.piece {α : Type} {B sz : Nat} {enc : α → List Value} {w : World} {g o n cap : Nat} {xs : List α} (he : ∀ x, (enc x).length = sz) (h : Row B sz enc w (.slice (some ⟨g, o, none⟩) n cap) xs) (hn : xs.length = n) (p m : Nat) (hp : p + m ≤ n) :
    Row B sz enc w (.slice (some ⟨g, o + p * sz, none⟩) m (cap - p)) ((xs.drop p).take m) := by
  obtain ⟨s, c, e, hlc, hcm, hx⟩ := h
  have hl : ((xs.drop p).take m).length = m := by rw [List.length_take, List.length_drop]; omega
  injection e with e1 e2 e3
  subst e1 e3
  refine ⟨_, cap - p, by rw [hl], by rw [hl]; omega, by omega, fun h0 => ?_⟩
  rw [hl] at h0
  obtain ⟨b, o', e, hb, hc⟩ := hx (by omega)
  injection e with e
  injection e with e1 e2
  subst e1 e2
  refine ⟨_, _, rfl, hb, fun j x hj i u hi => ?_⟩
  rw [List.getElem?_take] at hj
  split at hj
  · rw [List.getElem?_drop] at hj
    have := hc (p + j) x hj i u hi
    rwa [Nat.add_mul, ← Nat.add_assoc] at this
  · cases hj
def OutR (base : Nat) (er : Int) (l : List Rn) (w : World) (e : Ending) (w' : World) : Prop := Below base w w' ∧ ∃ v, e = .returned (.tuple #[v, .int .i64 er]) ∧ RunRows base w' v l
end Go.Proofs.YtffmomgmkpmpkaaGreatDoor

namespace Go.Proofs.YtffmomgmkpmpkaaGreatDoor
open Go.RowKit
set_option linter.unusedVariables false
attribute [local go_sem] vwp vUpon_value vUpon_skip vUpon_enter vUpon_row
set_option linter.unusedSimpArgs false
set_option linter.unusedVariables false
def wholeC (c d : Ce) : Bool := pairC c d && (c.col.eqb d.col && c.back.eqb d.back)
def escCells : List UInt8 → Co → Co → List Ce → Option (List UInt8 × Co × Co)
  | o, x, y, [] => some (o, x, y)
  | o, x, y, [c] => if 1048576 < (o ++ cellL x y c false).length then none else some (o ++ cellL x y c false, c.col, c.back)
  | o, x, y, c :: d :: r =>
    if 1048576 < (o ++ cellL x y c (wholeC c d)).length then none
    else if wholeC c d then escCells (o ++ cellL x y c true) c.col c.back r else escCells (o ++ cellL x y c false) c.col c.back (d :: r)
def escRuns : List UInt8 → Co → Co → List Rn → Option (List UInt8)
  | o, _, _, [] => some o
  | o, x, y, r :: rs => match escCells (o ++ escL 72 [r.y + 1, r.x + 1]) x y r.cells with
    | none => none
    | some (o', x', y') => escRuns o' x' y' rs
def runOkC (r : Rn) : Bool := !(r.cells.length == 0) && (r.cells.all mayC && (decide (0 ≤ r.x) && (decide (0 ≤ r.y) && (decide (r.x < 16384) && decide (r.y < 16384)))))
def Co.zero : Co := ⟨0, 0, 0, 0⟩
def escR (l : List Rn) : Option (List UInt8) × Int :=
  if 262144 < l.length then (none, 4) else if l.all runOkC then (match escRuns [] Co.zero Co.zero l with | none => (none, 4) | some o => (some o, 0)) else (none, 150)
def escT (l : List Rn) : ByteArray := match (escR l).1 with | none => ⟨#[]⟩ | some o => ⟨o.toArray⟩
def escE (l : List Rn) : Int := (escR l).2
theorem cellL_len {x y : Co} {c : Ce} {wh : Bool} (hc : c.Wf) : (cellL x y c wh).length ≤ 300 := by
  have h1 := dipL_len (n := 38) (t := x) (c := c.col) (by unfold I64; omega) hc.2.1
  have h2 := dipL_len (n := 48) (t := y) (c := c.back) (by unfold I64; omega) hc.2.2
  have h3 := enc_len4 c.rune
  have h4 : (markL c wh).length ≤ 1 := by unfold markL; split; · simp
                                          · split <;> simp
  unfold cellL
  rw [List.length_append, List.length_append, List.length_append]
  omega
/-! ### runs as arguments -/
def RnWf (r : Rn) : Prop := I64 r.x ∧ I64 r.y ∧ CeL r.cells
/-- A row of runs below B, the rows of their cells below B too. -/
def RunsAt (B : Nat) (w : World) (v : Value) (l : List Rn) : Prop := ∃ ps : List (Rn × Value), ps.map Prod.fst = l ∧ Row B 3 encRn w v ps ∧ ∀ p ∈ ps, Row B 11 Ce.enc w p.2 p.1.cells
theorem RunsAt.below {B : Nat} {w w' : World} {v : Value} {l : List Rn} (h : RunsAt B w v l) (hb : Below B w w') : RunsAt B w' v l := by
  obtain ⟨ps, h1, h2, h3⟩ := h
  exact ⟨ps, h1, h2.below hb, fun p hp => (h3 p hp).below hb⟩
theorem RunsAt.mono {B B' : Nat} {w : World} {v : Value} {l : List Rn} (h : RunsAt B w v l) (hB : B ≤ B') : RunsAt B' w v l := by
  obtain ⟨ps, h1, h2, h3⟩ := h
  exact ⟨ps, h1, h2.mono hB, fun p hp => (h3 p hp).mono hB⟩
theorem RunsAt.shape {B : Nat} {w : World} {v : Value} {l : List Rn} (h : RunsAt B w v l) : ∃ s cap, v = .slice s l.length cap ∧ l.length ≤ maxLen := by
  obtain ⟨ps, h1, h2, h3⟩ := h
  obtain ⟨s, cap, e, hm⟩ := h2.shape
  have : ps.length = l.length := by rw [← h1, List.length_map]
  rw [this] at e hm
  exact ⟨s, cap, e, hm⟩
theorem RunsAt.open_ {B : Nat} {w : World} {v : Value} {l : List Rn} (h : RunsAt B w v l) (h0 : 0 < l.length) :
    ∃ g o cap, v = .slice (some ⟨g, o, none⟩) l.length cap ∧ g < B ∧ l.length ≤ cap ∧ cap ≤ maxLen ∧ ∀ (j : Nat) r, l[j]? = some r → ∃ s k, w.cell? ⟨g, o + j * 3, none⟩ = some (.int .i64 r.x) ∧ w.cell? ⟨g, o + j * 3 + 1, none⟩ = some (.int .i64 r.y) ∧
      w.cell? ⟨g, o + j * 3 + 2, none⟩ = some (.slice s r.cells.length k) ∧ Row B 11 Ce.enc w (.slice s r.cells.length k) r.cells := by
  obtain ⟨ps, h1, h2, h3⟩ := h
  have hl : ps.length = l.length := by rw [← h1, List.length_map]
  obtain ⟨g, o, cap, hv, hg, hc, hm, hx⟩ := h2.open_ (by omega)
  rw [hl] at hv hc
  refine ⟨g, o, cap, hv, hg, hc, hm, fun j r hj => ?_⟩
  rw [← h1, List.getElem?_map] at hj
  cases hp : ps[j]? with
  | none => rw [hp] at hj; cases hj
  | some p =>
    rw [hp] at hj
    have e : p.1 = r := by simpa using hj
    have hr := h3 p (List.mem_of_getElem? hp)
    obtain ⟨s, k, hs, _⟩ := hr.shape
    rw [e] at hr hs
    rw [hs] at hr
    refine ⟨s, k, ?_, ?_, ?_, hr⟩
    · rw [← e]; exact hx j p hp 0 _ rfl
    · rw [← e]; exact hx j p hp 1 _ rfl
    · rw [← hs]; exact hx j p hp 2 _ rfl
theorem allR_step {l : List Rn} {k : Nat} {c : Rn} (h : l[k]? = some c) : (l.drop k).all runOkC = (runOkC c && (l.drop (k + 1)).all runOkC) := by
  rw [drop_get h]; rfl
end Go.Proofs.YtffmomgmkpmpkaaGreatDoor
