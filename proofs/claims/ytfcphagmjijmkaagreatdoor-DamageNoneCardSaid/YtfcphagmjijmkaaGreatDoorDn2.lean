/-
  The walk of the law DamageNone.
-/
import Derived.Below
import Derived.ChangeSame
import Derived.Deep.DeepCutAuto
import Derived.Deep.Fields
import Derived.Deep.MidRow
import Derived.Deep.RegionHeld3
import Derived.Deep.Slices
import Derived.Deep.WholeRow
import Derived.DeepKeys4
import Derived.IntWalk
import Derived.KernelRfl
import Derived.Laws.AppendOwnNone
import Derived.Laws.BitsLemmas
import Derived.Laws.CopyOwn
import Derived.Laws.CopyRow
import Derived.Laws.EntriesVeiled
import Derived.Laws.Externs
import Derived.Laws.IdiomCopy
import Derived.Laws.MakeOwn
import Derived.Laws.OwnMore
import Derived.Laws.StructEq
import Derived.Lib.Bytealg
import Derived.Lib.DecodeNEq
import Derived.Lib.Hide
import Derived.Lib.IndexBytes
import Derived.Lib.OthersKept
import Derived.Lib.SmallJoins
import Derived.LoopIn
import Derived.LoopNIn
import Derived.Maps.AppendAt
import Derived.Maps.Own
import Derived.Maps.OwnOps
import Derived.Maps.OwnSet
import Derived.Maps.RangeWalk
import Derived.OneCell
import Derived.OrdersHeld
import Derived.OwnWalk
import Derived.OwnWalkIn
import Derived.RangeFuncBound
import Derived.RangeFuncCalls
import Derived.RangeFuncLeaves
import Derived.RangeFuncNested
import Derived.ScopeJumps
import Derived.Shelf.Bits.Mul64
import Derived.Shelf.LaysM
import Derived.Shelf.RegionOpen
import Derived.Shelf.SlSortCmp.NoneTotal
import Derived.Shelf.SlSortCmp.WholeK
import Derived.Shelf.Slices.CompactI
import Derived.Shelf.Slices.In.SortNone
import Derived.Shelf.Small.Bits
import Derived.Shelf.Small.Wraps
import Derived.Shelf.Sort.Plain
import Derived.Shelf.Spec.SlicesGrow
import Derived.Shelf.Spec.SlicesInsert
import Derived.Shelf.Strconv.Itoa0
import Derived.Shelf.Strconv.Itoa1
import Derived.Shelf.Strconv.Itoa2
import Derived.Shelf.Strconv.Itoa3
import Derived.Shelf.Strings.Builder1
import Derived.Shelf.Strings.BuilderCap
import Derived.Shelf.Strings.BuilderF
import Derived.Shelf.Strings.BuilderK
import Derived.Shelf.Strings.BuilderRune
import Derived.Shelf.Strings.Prefix
import Derived.Shelf.Unicode.Decode
import Derived.Shelf.Unicode.DecodeAny
import Derived.Shelf.Unicode.DecodeSlow
import Derived.Shelf.Utf8.AppendRune
import Derived.Shelf.Utf8.AppendRunePlain
import Derived.Sort.OwnSortedInts
import Derived.StillTail
import Derived.Tactics2
import Derived.TacticsInMore
import Derived.WalkKit
import Derived.WalkLawsBesides
import Derived.WalkSpells
import Derived.WideKeyEntry
import Derived.Test.YtfcphagmjijmkaaGreatDoorDq34
import Derived.Test.YtfcphagmjijmkaaGreatDoorProg
import Derived.Test.YtfcphagmjijmkaaGreatDoorDn1
namespace Go.Proofs.YtfcphagmjijmkaaGreatDoor
open Go.RowKit
set_option linter.unusedVariables false
attribute [local go_sem] vwp vUpon_value vUpon_skip vUpon_enter vUpon_row
set_option linter.unusedSimpArgs false
set_option linter.unusedVariables false
attribute [local go_sem high] eql_rect neq_rect
set_option maxHeartbeats 2000000 in
set_option maxRecDepth 100000 in
/-- Two rows of the same numbers. -/
theorem dnums_same (l : List Int) (v1 v2 : Value) (w : World) (h1 : Row w.heap.size 1 encI w v1 l) (h2 : Row w.heap.size 1 encI w v2 l) : Calls Tryz.prog 30 #[v1, v2] w fun e w' => e = .returned (.bool true) ∧ Below w.heap.size w w' := by
 obtain ⟨s1, c1, rfl, m1⟩ := h1.shape
 obtain ⟨s2, c2, rfl, m2⟩ := h2.shape
 have o1 := fun h0 => h1.open_ h0
 have o2 := fun h0 => h2.open_ h0
 obtain ⟨n, hn⟩ : ∃ n, l.length = n := ⟨_, rfl⟩
 rw [hn] at o1 o2 m1 ⊢
 unfold maxLen at m1
 replace o1 := Lib.hid o1
 replace o2 := Lib.hid o2
 replace hn := Lib.hid hn
 clear h1 h2
 go_enter Tryz.func30, Tryz.ntmps30
 go_upto_region 4 with fail
 go_loopw [5] (fun iv wr => ∃ k : Nat, k ≤ n ∧ iv = .int .i64 k ∧ Below w.heap.size w wr) (fun iv _ => n - (intOf iv).toNat)
 case atStart => exact ⟨0, Nat.zero_le _, rfl, Below.refl _ _⟩
 case round =>
  obtain ⟨k, hk, rfl, hbr⟩ := hrel
  obtain ⟨wv, rfl⟩ : ∃ u, u = wr := ⟨_, rfl⟩
  by_cases hkn : k < n
  ·have hkk : (k : Int) < n := by omega
   obtain ⟨g1, p1, d1, e1, y1, _, _, x1⟩ := o1.out (by omega)
   obtain ⟨g2, p2, d2, e2, y2, _, _, x2⟩ := o2.out (by omega)
   simp only [Value.slice.injEq] at e1 e2
   obtain ⟨rfl, _, rfl⟩ := e1
   obtain ⟨rfl, _, rfl⟩ := e2
   obtain ⟨c, hc⟩ := get_at hn.out hkn
   have z1 := (hbr.cell (p := ⟨g1, p1 + k, none⟩) y1).trans (show w.cell? ⟨g1, p1 + k, none⟩ = some (.int .i64 c) from by have h := x1 k c hc 0 _ rfl; rw [Nat.mul_one, Nat.add_zero] at h; exact h)
   have z2 := (hbr.cell (p := ⟨g2, p2 + k, none⟩) y2).trans (show w.cell? ⟨g2, p2 + k, none⟩ = some (.int .i64 c) from by have h := x2 k c hc 0 _ rfl; rw [Nat.mul_one, Nat.add_zero] at h; exact h)
   have zr := hbr.size
   have ya : g1 < wv.heap.size := by omega
   have yb : g2 < wv.heap.size := by omega
   clear hc x1 x2
   go_upto_region 6 with fail
   refine wp_region_steady (Held wv 0 []) (by kernel_rfl) (by kernel_rfl) ⟨belt, (by (try simp) <;> omega), (by first | exact trivial | (simp only [Cells]; go_simp))⟩ ?_
   repeat (first | (refine' wpSteady_do _ _ _; rotate_left; (focus rfl); (focus (intro w1 hS R hR; have hc := hS.cells; simp only [Cells] at hc; obtain ⟨hco, hfo⟩ := bcell hS.old; go_simp; (try go_bits); first | exact hR _ hS | fail)); simp only [pu]) | (refine wpSteady_pass ?_ ?_; (focus rfl); simp only [pu]))
   refine wpSteady_nil (fun uA hSA => ?_)
   have hcA := hSA.cells; have hbA := hSA.old; have hzA := hSA.size; clear hSA; simp only [Cells] at hcA; obtain ⟨hcoA, hfoA⟩ := bcell hbA
   go_wp2
   go_roundw
   case rel => exact ⟨k + 1, by omega, by go_num, hbr.trans (hbA.mono zr)⟩
   case measure => simp [intOf]; omega
  ·obtain rfl : k = n := by omega
   have hkk : ¬ (k : Int) < k := by omega
   go_wp2
   go_ret
   exact ⟨rfl, hbr⟩
theorem join_app0 {a b : List St} (ha : chkL a = 0) (hb : chkL b = 0) (hl : a.length + b.length ≤ 16384) : joinE a b = 0 ∧ joinL a b = a ++ b := by
  have e : joinE a b = 0 := by unfold joinE; rw [if_neg (fun h => h ha), if_neg (fun h => h hb), if_neg (by omega)]
  exact ⟨e, by unfold joinL; rw [if_pos e]⟩
theorem nod_self_any (xs : List St) (h : chkL xs = 0) : nodN xs xs = [] := by
  unfold nodN
  rw [if_pos (show dmgE xs xs = 0 by unfold dmgE; rw [if_pos h, h])]
  exact nod_unique (nod_is _ _) (nod_self _)
theorem nod_swap_any {xs ys : List St} (h1 : dmgE xs ys = 0) (h2 : dmgE ys xs = 0) : nodN ys xs = nodN xs ys := by
  unfold nodN
  rw [if_pos h1, if_pos h2]
  exact nod_unique (nod_is _ _) (nod_swap (nod_is _ _))
set_option maxHeartbeats 16000000 in
set_option maxRecDepth 100000 in
theorem walk_DamageNone (xs : List St) (vx : Value) (ys : List St) (vy : Value) (w : World) (hx : Row w.heap.size 15 St.enc w vx xs) (k1 : ∀ s ∈ xs, s.Wf) (hy : Row w.heap.size 15 St.enc w vy ys) (k2 : ∀ s ∈ ys, s.Wf) :
  Calls Tryz.prog 10 #[vx, vy] w fun e w' => e = .returned (.bool true) ∧ Below w.heap.size w w' := by
 obtain ⟨s1, cap1, rfl, hmax1⟩ := hx.shape
 obtain ⟨s2, cap2, rfl, hmax2⟩ := hy.shape
 obtain ⟨n1, en1⟩ : ∃ n, xs.length = n := ⟨_, rfl⟩
 obtain ⟨n2, en2⟩ : ∃ n, ys.length = n := ⟨_, rfl⟩
 rw [en1] at hx hmax1 ⊢
 rw [en2] at hy hmax2 ⊢
 unfold maxLen at hmax1 hmax2
 have RX := fun W (h : Below w.heap.size w W) => (hx.below h).mono h.size
 have RY := fun W (h : Below w.heap.size w W) => (hy.below h).mono h.size
 have CKX := fun W (h : Below w.heap.size w W) => lcheck_any xs (.slice s1 n1 cap1) W (RX W h) k1
 have CKY := fun W (h : Below w.heap.size w W) => lcheck_any ys (.slice s2 n2 cap2) W (RY W h) k2
 replace RX := Lib.hid RX
 replace RY := Lib.hid RY
 replace k1 := Lib.hid k1
 replace k2 := Lib.hid k2
 replace en1 := Lib.hid en1
 replace en2 := Lib.hid en2
 clear hx hy
 obtain ⟨E1, hE1⟩ : ∃ E, chkL xs = E := ⟨_, rfl⟩
 obtain ⟨E2, hE2⟩ : ∃ E, chkL ys = E := ⟨_, rfl⟩
 rw [hE1] at CKX
 rw [hE2] at CKY
 replace CKX := Lib.hid CKX
 replace CKY := Lib.hid CKY
 replace hE1 := Lib.hid hE1
 replace hE2 := Lib.hid hE2
 have AW := Lib.hid (dalive_any w)
 go_enter Tryz.func10, Tryz.ntmps10
 go_upto_region 4 with (go_at_call 19; (with_reducible refine AW.out.mono ?_); rintro e w1 ⟨rfl, hb1⟩)
 clear AW
 by_cases g1 : 100 < n1
 ·have g1i : (100 : Int) < n1 := by omega
  go_wp2
  go_ret
  exact ⟨rfl, hb1⟩
 ·have g1i : ¬ (100 : Int) < n1 := by omega
  by_cases g2 : 100 < n2
  ·have g2i : (100 : Int) < n2 := by omega
   go_wp2
   go_ret
   exact ⟨rfl, hb1⟩
  ·have g2i : ¬ (100 : Int) < n2 := by omega
   by_cases c1 : E1 = 0
   ·by_cases c2 : E2 = 0
    ·subst c1 c2
     go_upto_region 6 with (first
      | (go_at_call 38; (with_reducible refine (CKX.out _ hb1).mono ?_); rintro e w2 ⟨rfl, hb2⟩; have hb02 := hb1.trans (hb2.mono hb1.size))
      | (go_at_call 38; (with_reducible refine (CKY.out _ hb02).mono ?_); rintro e w3 ⟨rfl, hb3⟩; have hb03 := hb02.trans (hb3.mono hb02.size)))
     clear CKX CKY hb1 hb2 hb3 hb02 g1i g2i
     have hd : dmgE xs ys = 0 := by unfold dmgE; rw [if_pos hE1.out, hE2.out]
     have he : dmgE xs xs = 0 := by unfold dmgE; rw [if_pos hE1.out, hE1.out]
     obtain ⟨hs, hsl⟩ := dmg_swap hd k1.out k2.out
     have hn1 := nod_self_any xs hE1.out
     have hn2 := nod_swap_any hd hs
     obtain ⟨j1, j2⟩ := join_app0 hE1.out hE2.out (by rw [en1.out, en2.out]; omega)
     obtain ⟨t1, t2, t3⟩ := dmg_more hE1.out hE2.out (by rw [en1.out, en2.out]; omega)
     obtain ⟨rm1, rm2⟩ := dmg_may (xs := []) (ys := ys) (fun s hs => by cases hs) k2.out
     obtain ⟨l1, l2⟩ := both_less rm1 rm1 rm2 rm2 (fun x y h => h)
     have ka : ∀ s ∈ xs ++ ys, s.Wf := fun s hs => by
      rcases List.mem_append.1 hs with h | h
      ·exact k1.out s h
      ·exact k2.out s h
     have O1 := fun W h => dof_any xs xs (.slice s1 n1 cap1) (.slice s1 n1 cap1) W (RX.out W h) (RX.out W h) k1.out k1.out
     rw [he, dmg_self] at O1
     have N1 := fun W h => dnodes_any xs xs (.slice s1 n1 cap1) (.slice s1 n1 cap1) W (RX.out W h) (RX.out W h) k1.out k1.out
     rw [he, hn1] at N1
     have O2 := fun W h => dof_any xs ys (.slice s1 n1 cap1) (.slice s2 n2 cap2) W (RX.out W h) (RY.out W h) k1.out k2.out
     rw [hd] at O2
     have O3 := fun W h => dof_any ys xs (.slice s2 n2 cap2) (.slice s1 n1 cap1) W (RY.out W h) (RX.out W h) k2.out k1.out
     rw [hs, hsl] at O3
     have N2 := fun W h => dnodes_any xs ys (.slice s1 n1 cap1) (.slice s2 n2 cap2) W (RX.out W h) (RY.out W h) k1.out k2.out
     rw [hd] at N2
     have N3 := fun W h => dnodes_any ys xs (.slice s2 n2 cap2) (.slice s1 n1 cap1) W (RY.out W h) (RX.out W h) k2.out k1.out
     rw [hs, hn2] at N3
     have JC := fun W h => ljoin_any xs ys (.slice s1 n1 cap1) (.slice s2 n2 cap2) W (RX.out W h) (RY.out W h) k1.out k2.out
     rw [j1, j2] at JC
     have O4 := fun v W h hv => dof_any xs (xs ++ ys) (.slice s1 n1 cap1) v W (RX.out W h) hv k1.out ka
     rw [t1, t3] at O4
     have O5 := fun W h => dof_any [] ys (.slice none 0 0) (.slice s2 n2 cap2) W (Row.empty none (by unfold maxLen; omega)) (RY.out W h) (fun s hs => by cases hs) k2.out
     rw [t2] at O5
     have LC := fun v u W hl hu => less_any (dmgL [] ys) (dmgL [] ys) v u W hl hu (wfL_may rm1) (wfL_may rm1)
     rw [l1, l2] at LC
     obtain ⟨R, hR⟩ : ∃ c, dmgL xs ys = c := ⟨_, rfl⟩
     rw [hR] at O2 O3
     obtain ⟨NL, hNL⟩ : ∃ c, nodN xs ys = c := ⟨_, rfl⟩
     rw [hNL] at N2 N3
     obtain ⟨T, hT⟩ : ∃ c, dmgL [] ys = c := ⟨_, rfl⟩
     rw [hT] at O4 O5 LC
     replace O1 := Lib.hid (O1 _ hb03)
     replace hb03 := Lib.hid hb03
     replace N1 := Lib.hid N1
     replace O2 := Lib.hid O2
     replace O3 := Lib.hid O3
     replace N2 := Lib.hid N2
     replace N3 := Lib.hid N3
     replace JC := Lib.hid JC
     replace O4 := Lib.hid O4
     replace O5 := Lib.hid O5
     replace LC := Lib.hid LC
     clear hd he hs hsl hn1 hn2 j1 j2 t1 t2 t3 rm1 rm2 l1 l2 ka hR hNL hT hE1 hE2 k1 k2
     go_upto_region 7 with (go_at_call 11; (with_reducible refine O1.out.mono ?_); rintro e W6 ⟨h6, v6, rfl, R6⟩)
     have hw6 := Lib.hid (hb03.out.trans (h6.mono hb03.out.size))
     clear O1
     replace N1 := Lib.hid (N1.out _ hw6.out)
     go_upto_region 8 with (go_at_call 21; (with_reducible refine N1.out.mono ?_); rintro e W7 ⟨h7, v7, rfl, R7⟩)
     have hw7 := Lib.hid (hw6.out.trans (h7.mono hw6.out.size))
     clear N1
     replace O2 := Lib.hid (O2.out _ hw7.out)
     go_upto_region 9 with (go_at_call 11; (with_reducible refine O2.out.mono ?_); rintro e W8 ⟨h8, v8, rfl, R8⟩)
     have hw8 := Lib.hid (hw7.out.trans (h8.mono hw7.out.size))
     clear O2
     replace O3 := Lib.hid (O3.out _ hw8.out)
     go_upto_region 10 with (go_at_call 11; (with_reducible refine O3.out.mono ?_); rintro e W9 ⟨h9, v9, rfl, R9⟩)
     have hw9 := Lib.hid (hw8.out.trans (h9.mono hw8.out.size))
     clear O3
     replace N2 := Lib.hid (N2.out _ hw9.out)
     go_upto_region 11 with (go_at_call 21; (with_reducible refine N2.out.mono ?_); rintro e W10 ⟨h10, v10, rfl, R10⟩)
     have hw10 := Lib.hid (hw9.out.trans (h10.mono hw9.out.size))
     clear N2
     replace N3 := Lib.hid (N3.out _ hw10.out)
     go_upto_region 12 with (go_at_call 21; (with_reducible refine N3.out.mono ?_); rintro e W11 ⟨h11, v11, rfl, R11⟩)
     have hw11 := Lib.hid (hw10.out.trans (h11.mono hw10.out.size))
     clear N3
     replace R10 := ownsRow_below R10 h11 (Nat.le_refl _)
     replace R9 := R9.below (h10.trans (h11.mono h10.size)) (Nat.le_refl _)
     replace R8 := R8.below (h9.trans ((h10.trans (h11.mono h10.size)).mono h9.size)) (Nat.le_refl _)
     obtain ⟨s6, c6, hv6⟩ := R6.shape
     obtain ⟨s7, c7, hv7⟩ := own_slice R7
     obtain ⟨s8, c8, hv8⟩ := R8.shape
     obtain ⟨s9, c9, hv9⟩ := R9.shape
     subst hv6 hv7 hv8 hv9
     have NC := dnums_same NL v10 v11 W11 (OwnsI.row (base := W9.heap.size) R10 (Nat.le_refl _)) (OwnsI.row (base := W10.heap.size) R11 (Nat.le_refl _))
     replace NC := Lib.hid NC
     obtain ⟨nr, hnr⟩ : ∃ n, R.length = n := ⟨_, rfl⟩
     have P8 := R8.row (Nat.le_refl _)
     have P9 := R9.row (Nat.le_refl _)
     rw [hnr] at P8 P9 ⊢
     replace P8 := Lib.hid P8
     replace P9 := Lib.hid P9
     replace hnr := Lib.hid hnr
     clear R6 R7 R8 R9 R10 R11 hw6 hw7 hw8 hw9 hw10 h6 h7 h8 h9 h10 h11 hb03
     go_upto_region 14 with (go_at_call 30; (with_reducible refine NC.out.mono ?_); rintro e W12 ⟨rfl, h12⟩)
     clear NC
     have hw12 := Lib.hid (hw11.out.trans (h12.mono hw11.out.size))
     have Q8 := Lib.hid ((P8.out.below h12).mono h12.size)
     have Q9 := Lib.hid ((P9.out.below h12).mono h12.size)
     clear P8 P9 h12 hw11
     have o8 := fun h0 => row_re Q8.out h0
     have o9 := fun h0 => row_re Q9.out h0
     rw [hnr.out] at o8 o9
     have hnm : nr ≤ 9223372036854775807 := by
      obtain ⟨a, b, e, hh⟩ := Q8.out.shape
      unfold maxLen at hh
      rw [hnr.out] at hh
      exact hh
     replace o8 := Lib.hid o8
     replace o9 := Lib.hid o9
     clear Q8 Q9
     go_upto_region 15 with fail
     go_loopw [18] (fun iv wr => ∃ k : Nat, k ≤ nr ∧ iv = .int .i64 k ∧ Below W12.heap.size W12 wr) (fun iv _ => nr - (intOf iv).toNat)
     case atStart => exact ⟨0, Nat.zero_le _, rfl, Below.refl _ _⟩
     case round =>
      obtain ⟨k, hk, rfl, hbr⟩ := hrel
      obtain ⟨wv, rfl⟩ : ∃ u, u = wr := ⟨_, rfl⟩
      have zr := hbr.size
      by_cases hkn : k < nr
      ·have hkk : (k : Int) < nr := by omega
       obtain ⟨q1, p1, d1, e1, y1, _, _, x1⟩ := o8.out (by omega)
       obtain ⟨q2, p2, d2, e2, y2, _, _, x2⟩ := o9.out (by omega)
       simp only [Value.slice.injEq] at e1 e2
       obtain ⟨rfl, _, rfl⟩ := e1
       obtain ⟨rfl, _, rfl⟩ := e2
       obtain ⟨c, hc⟩ := get_at hnr.out hkn
       obtain ⟨a0, a1, a2, a3⟩ := x1 k c hc
       obtain ⟨b0, b1, b2, b3⟩ := x2 k c hc
       have heq : eq4 c.x c.y c.wd c.ht c.x c.y c.wd c.ht = true := by simp [eq4]
       have a0 := (hbr.cell (p := ⟨q1, p1 + k * 4, none⟩) y1).trans a0
       have a1 := (hbr.cell (p := ⟨q1, p1 + k * 4 + 1, none⟩) y1).trans a1
       have a2 := (hbr.cell (p := ⟨q1, p1 + k * 4 + 2, none⟩) y1).trans a2
       have a3 := (hbr.cell (p := ⟨q1, p1 + k * 4 + 3, none⟩) y1).trans a3
       have b0 := (hbr.cell (p := ⟨q2, p2 + k * 4, none⟩) y2).trans b0
       have b1 := (hbr.cell (p := ⟨q2, p2 + k * 4 + 1, none⟩) y2).trans b1
       have b2 := (hbr.cell (p := ⟨q2, p2 + k * 4 + 2, none⟩) y2).trans b2
       have b3 := (hbr.cell (p := ⟨q2, p2 + k * 4 + 3, none⟩) y2).trans b3
       have ya : q1 < wv.heap.size := by omega
       have yb : q2 < wv.heap.size := by omega
       obtain ⟨cx, cy, cw, ch⟩ := c
       simp only at a0 a1 a2 a3 b0 b1 b2 b3 heq
       clear hc x1 x2
       go_upto_region 17 with fail
       refine wp_region_steady (Held wv 0 []) (by kernel_rfl) (by kernel_rfl) ⟨belt, (by (try simp) <;> omega), (by first | exact trivial | (simp only [Cells]; go_simp))⟩ ?_
       repeat (first | (refine' wpSteady_do _ _ _; rotate_left; (focus rfl); (focus (intro w1 hS R hR; have hc := hS.cells; simp only [Cells] at hc; obtain ⟨hco, hfo⟩ := bcell hS.old; go_simp; (try go_bits); first | exact hR _ hS | fail)); simp only [pu]) | (refine wpSteady_pass ?_ ?_; (focus rfl); simp only [pu]))
       refine wpSteady_nil (fun uA hSA => ?_)
       have hcA := hSA.cells; have hbA := hSA.old; have hzA := hSA.size; clear hSA; simp only [Cells] at hcA; obtain ⟨hcoA, hfoA⟩ := bcell hbA
       go_wp2
       go_roundw
       case rel => exact ⟨k + 1, by omega, by go_num, hbr.trans (hbA.mono zr)⟩
       case measure => simp [intOf]; omega
      ·obtain rfl : k = nr := by omega
       have hkk : ¬ (k : Int) < k := by omega
       have hwv := Lib.hid (hw12.out.trans (hbr.mono hw12.out.size))
       replace JC := Lib.hid (JC.out _ hwv.out)
       clear o8 o9 hbr
       go_upto_region 19 with fail
       go_upto_region 20 with (go_at_call 40; (with_reducible refine JC.out.mono ?_); rintro e W19 ⟨h19, v19, rfl, R19⟩)
       have hw19 := Lib.hid (hwv.out.trans (h19.mono hwv.out.size))
       clear JC
       replace O4 := Lib.hid (O4.out v19 W19 hw19.out (R19.row (Nat.le_refl _)))
       clear R19
       go_upto_region 21 with (go_at_call 11; (with_reducible refine O4.out.mono ?_); rintro e W20 ⟨h20, v21, rfl, R21⟩)
       have hw20 := Lib.hid (hw19.out.trans (h20.mono hw19.out.size))
       clear O4
       replace O5 := Lib.hid (O5.out _ hw20.out)
       go_upto_region 22 with (go_at_call 11; (with_reducible refine O5.out.mono ?_); rintro e W21 ⟨h21, v23, rfl, R23⟩)
       have hw21 := Lib.hid (hw20.out.trans (h21.mono hw20.out.size))
       clear O5
       replace R21 := R21.below h21 (Nat.le_refl _)
       replace LC := Lib.hid (LC.out v21 v23 W21 (R21.row (Nat.le_refl _)) (R23.row (Nat.le_refl _)))
       clear R21 R23
       go_upto_region 25 with (go_at_call 39; (with_reducible refine LC.out.mono ?_); rintro e W24 ⟨h24, v25, rfl, R25⟩; obtain ⟨s25, c25, hv⟩ := R25.shape; subst hv)
       clear LC R25
       have hw24 := hw21.out.trans (h24.mono hw21.out.size)
       go_wp2
       go_ret
       exact ⟨rfl, hw24⟩
    ·have c2i : (E2 != 0) = true := by simpa using c2
     subst c1
     go_wp2_with (first
      | (go_at_call 38; (with_reducible refine (CKX.out _ hb1).mono ?_); rintro e w2 ⟨rfl, hb2⟩; have hb02 := hb1.trans (hb2.mono hb1.size))
      | (go_at_call 38; (with_reducible refine (CKY.out _ hb02).mono ?_); rintro e w3 ⟨rfl, hb3⟩; have hb03 := hb02.trans (hb3.mono hb02.size)))
     go_ret
     exact ⟨rfl, hb03⟩
   ·have c1i : (E1 != 0) = true := by simpa using c1
    go_wp2_with (first
     | (go_at_call 38; (with_reducible refine (CKX.out _ hb1).mono ?_); rintro e w2 ⟨rfl, hb2⟩; have hb02 := hb1.trans (hb2.mono hb1.size)))
    go_ret
    exact ⟨rfl, hb02⟩
end Go.Proofs.YtfcphagmjijmkaaGreatDoor
