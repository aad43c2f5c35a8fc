/-
  Cells: the document's terminal reads an escape.
-/
import Derived.Lib.SlicesCompact
import Derived.Test.YtffmomgmkpmpkaaGreatDoorProg
import Derived.Test.YtffmomgmkpmpkaaGreatDoorKr10
import Derived.Test.YtffmomgmkpmpkaaGreatDoorKr14
import Derived.Test.YtffmomgmkpmpkaaGreatDoorKr29
namespace Go.Proofs.YtffmomgmkpmpkaaGreatDoor
open Go.RowKit
set_option linter.unusedVariables false
attribute [local go_sem] vwp vUpon_value vUpon_skip vUpon_enter vUpon_row
set_option linter.unusedSimpArgs false
set_option linter.unusedVariables false
theorem docG_nn : ∀ (b : Nat) (cur l : List UInt8) (ns : List Int) (e : UInt8) (r : List UInt8), (∀ c ∈ cur, digB c = true) → docG b cur l = some (ns, e, r) → ∀ n ∈ ns, 0 ≤ n
  | 0, cur, l, ns, e, r, _, h => by rw [docG] at h; cases h
  | b + 1, cur, [], ns, e, r, _, h => by rw [docG] at h; cases h
  | b + 1, cur, c :: l, ns, e, r, hc, h => by
    rw [docG] at h
    split at h
    · rename_i hd
      refine docG_nn b (cur ++ [c]) l ns e r (fun d hdm => ?_) h
      rcases List.mem_append.1 hdm with h | h
      · exact hc d h
      · simp only [List.mem_singleton] at h
        rw [h]; exact hd
    · split at h
      · cases h
      · rename_i n hn
        have hn0 : 0 ≤ n := by
          obtain ⟨_, _, _, h4⟩ := fig_some.1 hn
          rw [h4]
          exact valL_ge cur 0 (Int.le_refl _) hc
        split at h
        · split at h
          · cases h
          · rename_i ms e2 r2 hrec
            injection h with h
            obtain ⟨rfl, _⟩ := Prod.mk.inj h
            intro m hm
            rcases List.mem_cons.1 hm with rfl | hm
            · exact hn0
            · exact docG_nn b [] l ms e2 r2 (by simp) hrec m hm
        · injection h with h
          obtain ⟨rfl, _⟩ := Prod.mk.inj h
          intro m hm
          simp only [List.mem_singleton] at hm
          rw [hm]; exact hn0
theorem numR_nn {l : List UInt8} {ns : List Int} {e : UInt8} {k : Nat} (h : numR l = some (ns, e, k)) : (∀ n ∈ ns, 0 ≤ n) ∧ k ≤ l.length := by
  unfold numR at h
  split at h
  · cases hd : docG 38 [] (l.drop 2) with
    | none => rw [hd] at h; cases h
    | some q =>
      obtain ⟨ms, e2, r⟩ := q
      rw [hd] at h
      simp only [Option.map_some, Option.some.injEq, Prod.mk.injEq] at h
      obtain ⟨rfl, rfl, rfl⟩ := h
      exact ⟨docG_nn 38 [] _ _ _ _ (by simp) hd, Nat.sub_le _ _⟩
  · cases h
theorem Blk.put4 {w : World} {b : Nat} {cs : List Value} {e : TypeId} (h : Blk w b cs e) (hl : cs.length = 4) (v0 v1 v2 v3 : Value) : Blk ((((w.setCell ⟨b, 0, none⟩ v0).setCell ⟨b, 1, none⟩ v1).setCell ⟨b, 2, none⟩ v2).setCell ⟨b, 3, none⟩ v3) b [v0, v1, v2, v3] e := by
  have h2 := (((h.set 0 v0).set 1 v1).set 2 v2).set 3 v3
  match cs, hl with
  | [a0, a1, a2, a3], _ => exact h2
set_option maxHeartbeats 8000000 in
set_option maxRecDepth 100000 in
theorem tesc_any (wd ht : Int) (v : Value) (t : Tm) (l : List UInt8) (b : Nat) (w : World) (hB : Blk w b (tmC wd ht v t) 101) (hl : l.length ≤ 2000000) :
  Calls Tryz.prog 56 #[.pointer (some ⟨b, 0, none⟩), .string (strL l)] w fun e w' => e = .returned (.int .i64 (stepN (escP t l))) ∧ Blk w' b (tmC wd ht v (stepT t (escP t l))) 101 ∧ KeptBut (· = b) w w' := by
 rw [esc_eq]
 obtain ⟨RES, hRES⟩ : ∃ q, escD t l = q := ⟨_, rfl⟩
 rw [hRES]
 have NU := rnumbers_any l hl w
 obtain ⟨S, hS⟩ : ∃ s, strL l = s := ⟨_, rfl⟩
 rw [hS] at NU ⊢
 replace hS := Lib.hid hS
 have yb := hB.lt
 cases hN : numR l with
 | none =>
  rw [hN] at NU
  rw [escD_none hN] at hRES
  subst hRES
  replace NU := Lib.hid NU
  go_enter Tryz.func56, Tryz.ntmps56
  go_upto_region 2 with (go_at_call 110; (with_reducible refine (NU.out).mono ?_); rintro e0 w1 ⟨⟨v1, rfl, ho⟩, hb1⟩)
  obtain ⟨s1, c1, rfl⟩ := own_slice ho
  have BT1 := Lib.hid (hB.below hb1 yb)
  unfold nEnd nCnt nNs
  clear ho hB
  go_wp2
  go_ret
  exact ⟨rfl, BT1.out, (KeptBut.refl _ _).below hb1⟩
 | some q =>
  obtain ⟨ns, en, k⟩ := q
  rw [hN] at NU
  obtain ⟨hnn, hkl⟩ := numR_nn hN
  unfold nEnd nCnt nNs at NU
  dsimp only at NU
  obtain ⟨E, hE⟩ : ∃ E : Int, (en.toNat : Int) = E := ⟨_, rfl⟩
  rw [hE] at NU
  by_cases l2 : ns.length = 2
  ·obtain ⟨y, x, rfl⟩ := two_of l2
   rw [escD_two hN] at hRES
   replace hRES := Lib.hid hRES
   replace NU := Lib.hid NU
   go_enter Tryz.func56, Tryz.ntmps56
   go_upto_region 2 with (go_at_call 110; (with_reducible refine (NU.out).mono ?_); rintro e0 w1 ⟨⟨v1, rfl, ho⟩, hb1⟩)
   rcases ho.2 with ⟨_, h0⟩ | ⟨g, cap, cur, rfl, hgb, hgh, _⟩
   ·cases h0
   have c0 := own_int ho (k := 0) rfl
   have c1 := own_int ho (k := 1) rfl
   have yg := (Array.getElem?_eq_some_iff.1 hgh).1
   have BT1 := Lib.hid (hB.below hb1 yb)
   have yb1 := BT1.out.lt
   have hgn : g ≠ b := by omega
   have ll : [y, x].length = 2 := rfl
   rw [ll]
   clear ho hB hgh ll
   by_cases he : en = 72
   ·have hE72 : E = 72 := by rw [← hE, he]; rfl
    subst hE72
    by_cases d1 : 1 ≤ y
    ·by_cases d2 : 1 ≤ x
     ·by_cases d3 : y ≤ 16384
      ·by_cases d4 : x ≤ 16384
       ·have hR2 := hRES.out
        rw [if_pos ⟨he, d1, d2, d3, d4⟩] at hR2
        subst hR2
        have f3 := BT1.out.free 3
        have f4 := BT1.out.free 4
        have j3 := BT1.out.cell (o := 3) rfl
        have j4 := BT1.out.cell (o := 4) rfl
        go_upto_region 3 with fail
        refine wp_region_steady_then (Held w1 0 []) 12 (by kernel_rfl) (by kernel_rfl) (by decide) (by kernel_rfl) (by kernel_rfl) ⟨belt, (by (try simp) <;> omega), (by first | exact trivial | (simp only [Cells]; go_simp))⟩ ?_
        simp only [List.take_succ_cons, List.take_zero]
        repeat (first | (refine' wpSteady_do _ _ _; rotate_left; (focus rfl); (focus (intro w1 hS R hR; have hc := hS.cells; simp only [Cells] at hc; obtain ⟨hco, hfo⟩ := bcell hS.old; go_simp; (try go_bits); first | exact hR _ hS | fail)); simp only [pu]) | (refine wpSteady_pass ?_ ?_; (focus rfl); simp only [pu]))
        refine wpSteady_nil (fun uA hSA => ?_)
        have hcA := hSA.cells; have hbA := hSA.old; have hzA := hSA.size; clear hSA; simp only [Cells] at hcA; obtain ⟨hcoA, hfoA⟩ := bcell hbA
        simp only [List.drop_succ_cons, List.drop_zero, List.drop_nil]
        replace BT1 := BT1.out.below hbA yb1
        have f3 := BT1.free 3
        have f4 := BT1.free 4
        have j3 := BT1.cell (o := 3) rfl
        have j4 := BT1.cell (o := 4) rfl
        have yb2 := BT1.lt
        replace BT1 := Lib.hid BT1
        have hK := Lib.hid (((KeptBut.refl (· = b) w).below hb1).trans ((KeptBut.refl (· = b) w1).below hbA))
        clear c0 c1
        go_wp2
        go_ret
        exact ⟨rfl, (BT1.out.set 3 _).set 4 _, (hK.out.setCell ⟨b, 3, none⟩ _ rfl).setCell ⟨b, 4, none⟩ _ rfl⟩
       ·have hR2 := hRES.out
        rw [if_neg (fun h => d4 h.2.2.2.2)] at hR2
        subst hR2
        go_wp2
        go_ret
        exact ⟨rfl, BT1.out, (KeptBut.refl _ _).below hb1⟩
      ·have hR2 := hRES.out
       rw [if_neg (fun h => d3 h.2.2.2.1)] at hR2
       subst hR2
       go_wp2
       go_ret
       exact ⟨rfl, BT1.out, (KeptBut.refl _ _).below hb1⟩
     ·have hR2 := hRES.out
      rw [if_neg (fun h => d2 h.2.2.1)] at hR2
      subst hR2
      go_wp2
      go_ret
      exact ⟨rfl, BT1.out, (KeptBut.refl _ _).below hb1⟩
    ·have hR2 := hRES.out
     rw [if_neg (fun h => d1 h.2.1)] at hR2
     subst hR2
     go_wp2
     go_ret
     exact ⟨rfl, BT1.out, (KeptBut.refl _ _).below hb1⟩
   ·have hE72 : (E == 72) = false := by rw [← hE]; simp; intro h; exact he (UInt8.toNat_inj.1 (by show en.toNat = 72; omega))
    have hR2 := hRES.out
    rw [if_neg (fun h => he h.1)] at hR2
    subst hR2
    by_cases h9 : (E != 109) = true
    ·go_wp2
     go_ret
     exact ⟨rfl, BT1.out, (KeptBut.refl _ _).below hb1⟩
    ·have h9 : (E != 109) = false := by simpa using h9
     go_wp2
     go_ret
     exact ⟨rfl, BT1.out, (KeptBut.refl _ _).below hb1⟩
  ·by_cases l6 : ns.length = 6
   ·obtain ⟨n0, n1, n2, n3, n4, n5, rfl⟩ := six_of l6
    rw [escD_six hN] at hRES
    replace hRES := Lib.hid hRES
    replace NU := Lib.hid NU
    have v2 := hnn n2 (by simp)
    have v3 := hnn n3 (by simp)
    have v4 := hnn n4 (by simp)
    have v5 := hnn n5 (by simp)
    obtain ⟨NS, hNS⟩ : ∃ x, [n0, n1, n2, n3, n4, n5] = x := ⟨_, rfl⟩
    have hNSl : NS.length = 6 := by rw [← hNS]; rfl
    rw [hNS] at NU
    go_enter Tryz.func56, Tryz.ntmps56
    go_upto_region 2 with (go_at_call 110; (with_reducible refine (NU.out).mono ?_); rintro e0 w1 ⟨⟨v1, rfl, ho⟩, hb1⟩)
    rcases ho.2 with ⟨_, h0⟩ | ⟨g, cap, cur, rfl, hgb, hgh, _⟩
    ·omega
    have q0 := own_int ho (k := 0) (s := n0) (by rw [← hNS]; rfl)
    have q1 := own_int ho (k := 1) (s := n1) (by rw [← hNS]; rfl)
    have yg := (Array.getElem?_eq_some_iff.1 hgh).1
    have BT1 := Lib.hid (hB.below hb1 yb)
    have yb1 := BT1.out.lt
    have hgn : g ≠ b := by omega
    rw [hNSl] at ho ⊢
    replace ho := Lib.hid ho
    replace hNS := Lib.hid hNS
    replace hNSl := Lib.hid hNSl
    clear hB hgh hnn hN l2 l6
    by_cases he : en = 109
    ·have hE9 : E = 109 := by rw [← hE, he]; rfl
     subst hE9
     by_cases d1 : n1 = 2
     ·subst d1
      by_cases d0 : n0 = 38
      ·subst d0
       go_upto_region 8 with fail
       go_loopw [8] (fun iv wr => ∃ j : Nat, 2 ≤ j ∧ j ≤ 6 ∧ iv = .int .i64 j ∧ Hid (∀ (m : Nat) (z : Int), 2 ≤ m → m < j → NS[m]? = some z → z ≤ 255) ∧ w1 = wr) (fun iv _ => 6 - (intOf iv).toNat)
       case atStart => exact ⟨2, by omega, by omega, rfl, Lib.hid (fun m z h1 h2 => by omega), rfl⟩
       case round =>
        obtain ⟨j, j2, j6, rfl, hall, rfl⟩ := hrel
        by_cases hj : j < 6
        ·have hji : (j : Int) < 6 := by omega
         obtain ⟨z, hz⟩ := get_at hNSl.out hj
         have cz := own_int ho.out hz
         by_cases z5 : z ≤ 255
         ·have z5i : ¬ 255 < z := by omega
          have hall2 := Lib.hid (show ∀ (m : Nat) (z : Int), 2 ≤ m → m < j + 1 → NS[m]? = some z → z ≤ 255 from fun m y h1 h2 h3 => by
           by_cases hm : m < j
           ·exact hall.out m y h1 hm h3
           ·obtain rfl : m = j := by omega
            rw [hz] at h3
            injection h3 with h3
            omega)
          clear hall
          go_wp2
          exact ⟨⟨j + 1, by omega, by omega, by go_num, hall2, trivial⟩, by simp [intOf]; omega⟩
         ·have z5i : 255 < z := by omega
          have hR2 := hRES.out
          rw [if_neg (by
           rintro ⟨_, _, _, h2, h3, h4, h5⟩
           have hz2 := hz
           rw [← hNS.out] at hz2
           rcases (show j = 2 ∨ j = 3 ∨ j = 4 ∨ j = 5 by omega) with rfl | rfl | rfl | rfl <;> (simp at hz2; omega))] at hR2
          subst hR2
          go_wp2
          go_ret
          exact ⟨rfl, BT1.out, (KeptBut.refl _ _).below hb1⟩
        ·obtain rfl : j = 6 := by omega
         have u2 : n2 ≤ 255 := hall.out 2 n2 (by omega) (by omega) (by rw [← hNS.out]; rfl)
         have u3 : n3 ≤ 255 := hall.out 3 n3 (by omega) (by omega) (by rw [← hNS.out]; rfl)
         have u4 : n4 ≤ 255 := hall.out 4 n4 (by omega) (by omega) (by rw [← hNS.out]; rfl)
         have u5 : n5 ≤ 255 := hall.out 5 n5 (by omega) (by omega) (by rw [← hNS.out]; rfl)
         have hR2 := hRES.out
         rw [if_pos ⟨he, by first | trivial | decide, by first | trivial | decide, u2, u3, u4, u5⟩] at hR2
         subst hR2
         clear hall
         have q2 := own_int ho.out (k := 2) (s := n2) (by rw [← hNS.out]; rfl)
         have q3 := own_int ho.out (k := 3) (s := n3) (by rw [← hNS.out]; rfl)
         have q4 := own_int ho.out (k := 4) (s := n4) (by rw [← hNS.out]; rfl)
         have q5 := own_int ho.out (k := 5) (s := n5) (by rw [← hNS.out]; rfl)
         go_upto_region 12 with fail
         refine wp_region_tame (Held w1 0 []) (fun _ => .cells #[.int .u8 0, .int .u8 0, .int .u8 0, .int .u8 0] 44 (0, 0)) (w1.heap.size + 0) 17 18 (by kernel_rfl) (by kernel_rfl) (by omega) (by decide) (by kernel_rfl) (by kernel_rfl) (Held.stab _ _ _) (by (try simp) <;> omega) ⟨belt, (by (try simp) <;> omega), (by first | exact trivial | (simp only [Cells]; go_simp))⟩ ?_
         simp only [List.take_succ_cons, List.take_zero, List.drop_succ_cons, List.drop_zero]
         repeat (first | (refine' wpStB_do _ _ _; rotate_left; (focus rfl); (focus (intro w1 hS R hR; have hc := hS.cells; simp only [Cells] at hc; obtain ⟨hco, hfo⟩ := bcell hS.old; go_simp; (try go_bits); first | exact hR _ (Below.refl _ _) | fail)); simp only [pu]) | (refine wpStB_pass ?_ ?_; (focus rfl); simp only [pu]))
         refine wpStB_nil ?_
         (refine wpNews_do rfl (by intro w1 hS R hR; go_simp; exact hR) ?_; intro b9 hnb9; simp only [pu]; simp only [ptrTo])
         refine wpNews_nil ?_
         intro w9 hS hU hN9
         have hl9 : b9 < w9.heap.size := hN9 b9 (.inr rfl)
         have hk9 : w1.heap.size ≤ b9 := Nat.le_of_not_lt hnb9
         have B9 : Blk w9 b9 [.int .u8 0, .int .u8 0, .int .u8 0, .int .u8 0] 44 := hU.2
         have hb9 : Below w1.heap.size w1 w9 := hS.old
         clear hS hU hN9
         have k0 := B9.cell (o := 0) rfl
         have k1 := B9.cell (o := 1) rfl
         have k2 := B9.cell (o := 2) rfl
         have k3 := B9.cell (o := 3) rfl
         have kf := B9.free
         go_upto_region 13 with fail
         have B3 := Blk.put4 B9 rfl (.int .u8 n2) (.int .u8 n3) (.int .u8 n4) (.int .u8 n5)
         have hb3 : Below w1.heap.size w1 ((((w9.setCell ⟨b9, 0, none⟩ (.int .u8 n2)).setCell ⟨b9, 1, none⟩ (.int .u8 n3)).setCell ⟨b9, 2, none⟩ (.int .u8 n4)).setCell ⟨b9, 3, none⟩ (.int .u8 n5)) := (((hb9.setCell (p := ⟨b9, 0, none⟩) hk9 _).setCell (p := ⟨b9, 1, none⟩) hk9 _).setCell (p := ⟨b9, 2, none⟩) hk9 _).setCell (p := ⟨b9, 3, none⟩) hk9 _
         generalize (((w9.setCell ⟨b9, 0, none⟩ (.int .u8 n2)).setCell ⟨b9, 1, none⟩ (.int .u8 n3)).setCell ⟨b9, 2, none⟩ (.int .u8 n4)).setCell ⟨b9, 3, none⟩ (.int .u8 n5) = W3 at B3 hb3 ⊢
         have g0 := B3.cell (o := 0) rfl
         have g1 := B3.cell (o := 1) rfl
         have g2 := B3.cell (o := 2) rfl
         have g3 := B3.cell (o := 3) rfl
         have y3 := B3.lt
         have e0 := (hb3.cell (p := ⟨g, 0, none⟩) yg).trans q0
         have yg3 : g < W3.heap.size := by have := hb3.size; omega
         have BT3 := BT1.out.below hb3 yb1
         have f0 := BT3.free 5
         have f1 := BT3.free (5 + 1)
         have f2 := BT3.free (5 + 1 + 1)
         have f3 := BT3.free (5 + 1 + 1 + 1)
         have j0 := BT3.cell (o := 5) rfl
         have j1 := BT3.cell (o := 5 + 1) rfl
         have j2 := BT3.cell (o := 5 + 1 + 1) rfl
         have j3 := BT3.cell (o := 5 + 1 + 1 + 1) rfl
         have yb3 := BT3.lt
         have bne : b9 ≠ b := by omega
         have hK := Lib.hid (((KeptBut.refl (· = b) w).below hb1).trans ((KeptBut.refl (· = b) w1).below hb3))
         replace BT3 := Lib.hid BT3
         clear k0 k1 k2 k3 kf B9 hb9 hl9 B3 hb3 q0
         go_wp2
         go_ret
         exact ⟨rfl, (((BT3.out.set 5 _).set (5 + 1) _).set (5 + 1 + 1) _).set (5 + 1 + 1 + 1) _, (((hK.out.setCell ⟨b, 5, none⟩ _ rfl).setCell ⟨b, 5 + 1, none⟩ _ rfl).setCell ⟨b, 5 + 1 + 1, none⟩ _ rfl).setCell ⟨b, 5 + 1 + 1 + 1, none⟩ _ rfl⟩
      ·by_cases d2 : n0 = 48
       ·subst d2
        go_upto_region 8 with fail
        go_loopw [8] (fun iv wr => ∃ j : Nat, 2 ≤ j ∧ j ≤ 6 ∧ iv = .int .i64 j ∧ Hid (∀ (m : Nat) (z : Int), 2 ≤ m → m < j → NS[m]? = some z → z ≤ 255) ∧ w1 = wr) (fun iv _ => 6 - (intOf iv).toNat)
        case atStart => exact ⟨2, by omega, by omega, rfl, Lib.hid (fun m z h1 h2 => by omega), rfl⟩
        case round =>
         obtain ⟨j, j2, j6, rfl, hall, rfl⟩ := hrel
         by_cases hj : j < 6
         ·have hji : (j : Int) < 6 := by omega
          obtain ⟨z, hz⟩ := get_at hNSl.out hj
          have cz := own_int ho.out hz
          by_cases z5 : z ≤ 255
          ·have z5i : ¬ 255 < z := by omega
           have hall2 := Lib.hid (show ∀ (m : Nat) (z : Int), 2 ≤ m → m < j + 1 → NS[m]? = some z → z ≤ 255 from fun m y h1 h2 h3 => by
            by_cases hm : m < j
            ·exact hall.out m y h1 hm h3
            ·obtain rfl : m = j := by omega
             rw [hz] at h3
             injection h3 with h3
             omega)
           clear hall
           go_wp2
           exact ⟨⟨j + 1, by omega, by omega, by go_num, hall2, trivial⟩, by simp [intOf]; omega⟩
          ·have z5i : 255 < z := by omega
           have hR2 := hRES.out
           rw [if_neg (by
            rintro ⟨_, _, _, h2, h3, h4, h5⟩
            have hz2 := hz
            rw [← hNS.out] at hz2
            rcases (show j = 2 ∨ j = 3 ∨ j = 4 ∨ j = 5 by omega) with rfl | rfl | rfl | rfl <;> (simp at hz2; omega))] at hR2
           subst hR2
           go_wp2
           go_ret
           exact ⟨rfl, BT1.out, (KeptBut.refl _ _).below hb1⟩
         ·obtain rfl : j = 6 := by omega
          have u2 : n2 ≤ 255 := hall.out 2 n2 (by omega) (by omega) (by rw [← hNS.out]; rfl)
          have u3 : n3 ≤ 255 := hall.out 3 n3 (by omega) (by omega) (by rw [← hNS.out]; rfl)
          have u4 : n4 ≤ 255 := hall.out 4 n4 (by omega) (by omega) (by rw [← hNS.out]; rfl)
          have u5 : n5 ≤ 255 := hall.out 5 n5 (by omega) (by omega) (by rw [← hNS.out]; rfl)
          have hR2 := hRES.out
          rw [if_pos ⟨he, by first | trivial | decide, by first | trivial | decide, u2, u3, u4, u5⟩] at hR2
          subst hR2
          clear hall
          have q2 := own_int ho.out (k := 2) (s := n2) (by rw [← hNS.out]; rfl)
          have q3 := own_int ho.out (k := 3) (s := n3) (by rw [← hNS.out]; rfl)
          have q4 := own_int ho.out (k := 4) (s := n4) (by rw [← hNS.out]; rfl)
          have q5 := own_int ho.out (k := 5) (s := n5) (by rw [← hNS.out]; rfl)
          go_upto_region 12 with fail
          refine wp_region_tame (Held w1 0 []) (fun _ => .cells #[.int .u8 0, .int .u8 0, .int .u8 0, .int .u8 0] 44 (0, 0)) (w1.heap.size + 0) 17 18 (by kernel_rfl) (by kernel_rfl) (by omega) (by decide) (by kernel_rfl) (by kernel_rfl) (Held.stab _ _ _) (by (try simp) <;> omega) ⟨belt, (by (try simp) <;> omega), (by first | exact trivial | (simp only [Cells]; go_simp))⟩ ?_
          simp only [List.take_succ_cons, List.take_zero, List.drop_succ_cons, List.drop_zero]
          repeat (first | (refine' wpStB_do _ _ _; rotate_left; (focus rfl); (focus (intro w1 hS R hR; have hc := hS.cells; simp only [Cells] at hc; obtain ⟨hco, hfo⟩ := bcell hS.old; go_simp; (try go_bits); first | exact hR _ (Below.refl _ _) | fail)); simp only [pu]) | (refine wpStB_pass ?_ ?_; (focus rfl); simp only [pu]))
          refine wpStB_nil ?_
          (refine wpNews_do rfl (by intro w1 hS R hR; go_simp; exact hR) ?_; intro b9 hnb9; simp only [pu]; simp only [ptrTo])
          refine wpNews_nil ?_
          intro w9 hS hU hN9
          have hl9 : b9 < w9.heap.size := hN9 b9 (.inr rfl)
          have hk9 : w1.heap.size ≤ b9 := Nat.le_of_not_lt hnb9
          have B9 : Blk w9 b9 [.int .u8 0, .int .u8 0, .int .u8 0, .int .u8 0] 44 := hU.2
          have hb9 : Below w1.heap.size w1 w9 := hS.old
          clear hS hU hN9
          have k0 := B9.cell (o := 0) rfl
          have k1 := B9.cell (o := 1) rfl
          have k2 := B9.cell (o := 2) rfl
          have k3 := B9.cell (o := 3) rfl
          have kf := B9.free
          go_upto_region 13 with fail
          have B3 := Blk.put4 B9 rfl (.int .u8 n2) (.int .u8 n3) (.int .u8 n4) (.int .u8 n5)
          have hb3 : Below w1.heap.size w1 ((((w9.setCell ⟨b9, 0, none⟩ (.int .u8 n2)).setCell ⟨b9, 1, none⟩ (.int .u8 n3)).setCell ⟨b9, 2, none⟩ (.int .u8 n4)).setCell ⟨b9, 3, none⟩ (.int .u8 n5)) := (((hb9.setCell (p := ⟨b9, 0, none⟩) hk9 _).setCell (p := ⟨b9, 1, none⟩) hk9 _).setCell (p := ⟨b9, 2, none⟩) hk9 _).setCell (p := ⟨b9, 3, none⟩) hk9 _
          generalize (((w9.setCell ⟨b9, 0, none⟩ (.int .u8 n2)).setCell ⟨b9, 1, none⟩ (.int .u8 n3)).setCell ⟨b9, 2, none⟩ (.int .u8 n4)).setCell ⟨b9, 3, none⟩ (.int .u8 n5) = W3 at B3 hb3 ⊢
          have g0 := B3.cell (o := 0) rfl
          have g1 := B3.cell (o := 1) rfl
          have g2 := B3.cell (o := 2) rfl
          have g3 := B3.cell (o := 3) rfl
          have y3 := B3.lt
          have e0 := (hb3.cell (p := ⟨g, 0, none⟩) yg).trans q0
          have yg3 : g < W3.heap.size := by have := hb3.size; omega
          have BT3 := BT1.out.below hb3 yb1
          have f0 := BT3.free 9
          have f1 := BT3.free (9 + 1)
          have f2 := BT3.free (9 + 1 + 1)
          have f3 := BT3.free (9 + 1 + 1 + 1)
          have j0 := BT3.cell (o := 9) rfl
          have j1 := BT3.cell (o := 9 + 1) rfl
          have j2 := BT3.cell (o := 9 + 1 + 1) rfl
          have j3 := BT3.cell (o := 9 + 1 + 1 + 1) rfl
          have yb3 := BT3.lt
          have bne : b9 ≠ b := by omega
          have hK := Lib.hid (((KeptBut.refl (· = b) w).below hb1).trans ((KeptBut.refl (· = b) w1).below hb3))
          replace BT3 := Lib.hid BT3
          clear k0 k1 k2 k3 kf B9 hb9 hl9 B3 hb3 q0
          go_wp2
          go_ret
          exact ⟨rfl, (((BT3.out.set 9 _).set (9 + 1) _).set (9 + 1 + 1) _).set (9 + 1 + 1 + 1) _, (((hK.out.setCell ⟨b, 9, none⟩ _ rfl).setCell ⟨b, 9 + 1, none⟩ _ rfl).setCell ⟨b, 9 + 1 + 1, none⟩ _ rfl).setCell ⟨b, 9 + 1 + 1 + 1, none⟩ _ rfl⟩
       ·have d0b : (n0 != 38) = true := by simpa using d0
        have d2b : (n0 != 48) = true := by simpa using d2
        have hR2 := hRES.out
        rw [if_neg (fun h => h.2.1.elim d0 d2)] at hR2
        subst hR2
        go_wp2
        go_ret
        exact ⟨rfl, BT1.out, (KeptBut.refl _ _).below hb1⟩
     ·have d1b : (n1 != 2) = true := by simpa using d1
      have hR2 := hRES.out
      rw [if_neg (fun h => d1 h.2.2.1)] at hR2
      subst hR2
      by_cases d0 : (n0 != 38) = true
      ·by_cases d2 : (n0 != 48) = true
       ·go_wp2
        go_ret
        exact ⟨rfl, BT1.out, (KeptBut.refl _ _).below hb1⟩
       ·have d2 : (n0 != 48) = false := by simpa using d2
        go_wp2
        go_ret
        exact ⟨rfl, BT1.out, (KeptBut.refl _ _).below hb1⟩
      ·have d0 : (n0 != 38) = false := by simpa using d0
       go_wp2
       go_ret
       exact ⟨rfl, BT1.out, (KeptBut.refl _ _).below hb1⟩
    ·have hR2 := hRES.out
     rw [if_neg (fun h => he h.1)] at hR2
     subst hR2
     have h9 : (E != 109) = true := by rw [← hE]; simp; intro h; exact he (UInt8.toNat_inj.1 (by show en.toNat = 109; omega))
     by_cases h7 : (E == 72) = true
     ·go_wp2
      go_ret
      exact ⟨rfl, BT1.out, (KeptBut.refl _ _).below hb1⟩
     ·have h7 : (E == 72) = false := by simpa using h7
      go_wp2
      go_ret
      exact ⟨rfl, BT1.out, (KeptBut.refl _ _).below hb1⟩
   ·rw [escD_no hN l2 l6] at hRES
    subst hRES
    obtain ⟨n, hn⟩ : ∃ n, ns.length = n := ⟨_, rfl⟩
    replace NU := Lib.hid NU
    go_enter Tryz.func56, Tryz.ntmps56
    go_upto_region 2 with (go_at_call 110; (with_reducible refine (NU.out).mono ?_); rintro e0 w1 ⟨⟨v1, rfl, ho⟩, hb1⟩)
    obtain ⟨s1, c1, rfl⟩ := own_slice ho
    have BT1 := Lib.hid (hB.below hb1 yb)
    rw [hn] at l2 l6 ⊢
    have n2 : ((n : Int) == 2) = false := by simp; omega
    have n6 : ((n : Int) != 6) = true := by simp; omega
    have n2i : ¬ (n : Int) = 2 := by omega
    have n6i : ¬ (n : Int) = 6 := by omega
    clear ho hB
    by_cases h7 : (E == 72) = true
    ·have h9 : (E != 109) = true := by
      have : E = 72 := by simpa using h7
      rw [this]; rfl
     go_wp2
     go_ret
     exact ⟨rfl, BT1.out, (KeptBut.refl _ _).below hb1⟩
    ·have h7 : (E == 72) = false := by simpa using h7
     by_cases h9 : (E != 109) = true
     ·go_wp2
      go_ret
      exact ⟨rfl, BT1.out, (KeptBut.refl _ _).below hb1⟩
     ·have h9 : (E != 109) = false := by simpa using h9
      go_wp2
      go_ret
      exact ⟨rfl, BT1.out, (KeptBut.refl _ _).below hb1⟩
end Go.Proofs.YtffmomgmkpmpkaaGreatDoor

namespace Go.Proofs.YtffmomgmkpmpkaaGreatDoor
open Go.RowKit
set_option linter.unusedVariables false
attribute [local go_sem] vwp vUpon_value vUpon_skip vUpon_enter vUpon_row
set_option linter.unusedSimpArgs false
set_option linter.unusedVariables false
/-- The document's terminal: its block, its cells. -/
def TmT (base b : Nat) (wd ht : Int) (v : Value) (cs : List Ce) (t : Tm) (w : World) : Prop := Blk w b (tmC wd ht v t) 101 ∧ OwnsC base w v cs
theorem splC_one {cs : List Ce} {i : Nat} {c : Ce} (h : i < cs.length) : splC cs i [c] = cs.set i c := by
  unfold splC
  rw [List.set_eq_take_append_cons_drop, if_pos h]
  simp
theorem cown_unfz {w : World} {base g n cap : Nat} {cs : List Ce} (h : OwnsC base w (.slice (some ⟨g, 0, none⟩) n cap) cs) (o : Nat) : w.frozen? ⟨g, o, none⟩ = false := by
  rcases h.2 with ⟨e, _⟩ | ⟨g', cap', cur, e, _, hh, _⟩
  · cases e
  · injection e with e _ _
    injection e with e
    injection e with e _ _
    subst e
    simp [World.frozen?, hh]
theorem own_cmem2 {w : World} {base g n cap k : Nat} {cs : List Ce} {c : Ce} (h : OwnsC base w (.slice (some ⟨g, 0, none⟩) n cap) cs) (hs : cs[k]? = some c) : CMem w g (k * 11) c := by
  obtain ⟨b, o, cap', e, _, _, _, hx⟩ := row_ce (h.row (Nat.le_refl _)) (by have := (List.getElem?_eq_some_iff.1 hs).1; omega)
  injection e with e _ _
  injection e with e
  injection e with e1 e2 _
  subst e1
  subst e2
  have := hx k c hs
  rwa [Nat.zero_add] at this
theorem KeptBut.putk {X : Nat → Prop} {A B : World} (h : KeptBut X A B) {g : Nat} (hg : X g) (o : Nat) (v0 v1 v2 v3 v4 v5 v6 v7 v8 v9 v10 : Value) : KeptBut X A ((((((((((((B).setCell ⟨g, o, none⟩ v0).setCell ⟨g, o + 1, none⟩ v1).setCell ⟨g, o + 2, none⟩ v2).setCell ⟨g, o + 3, none⟩ v3).setCell ⟨g, o + 4, none⟩ v4).setCell ⟨g, o + 5, none⟩ v5).setCell ⟨g, o + 6, none⟩ v6).setCell ⟨g, o + 7, none⟩ v7).setCell ⟨g, o + 8, none⟩ v8).setCell ⟨g, o + 9, none⟩ v9).setCell ⟨g, o + 10, none⟩ v10) :=
  ((((((((((h.setCell ⟨g, o, none⟩ v0 hg).setCell ⟨g, o + 1, none⟩ v1 hg).setCell ⟨g, o + 2, none⟩ v2 hg).setCell ⟨g, o + 3, none⟩ v3 hg).setCell ⟨g, o + 4, none⟩ v4 hg).setCell ⟨g, o + 5, none⟩ v5 hg).setCell ⟨g, o + 6, none⟩ v6 hg).setCell ⟨g, o + 7, none⟩ v7 hg).setCell ⟨g, o + 8, none⟩ v8 hg).setCell ⟨g, o + 9, none⟩ v9 hg).setCell ⟨g, o + 10, none⟩ v10 hg
set_option maxHeartbeats 8000000 in
set_option maxRecDepth 100000 in
theorem tput_any (wd ht : Int) (cs : List Ce) (v : Value) (t : Tm) (ru : Int) (wi ta : Bool) (b base : Nat) (w : World) (hB : Blk w b (tmC wd ht v t) 101) (hv : OwnsC base w v cs) (hfit : fitsS wd ht = true) (hlen : (cs.length : Int) = wd * ht) (hp : plcS wd ht t.x t.y = true) :
  Calls Tryz.prog 111 #[.pointer (some ⟨b, 0, none⟩), .agg #[.int .i32 ru, .int .u8 0, .int .u8 0, .int .u8 0, .int .u8 0, .int .u8 0, .int .u8 0, .int .u8 0, .int .u8 0, .bool wi, .bool ta]] w fun e w' => e = .returned (.bool true) ∧
   TmT base b wd ht v (splC cs (t.y * wd + t.x).toNat [⟨ru, t.col, t.back, wi, ta⟩]) { t with x := t.x + 1 } w' ∧ KeptBut (fun k => k = b ∨ v.ownBlock = some k) w w' := by
 obtain ⟨tx, ty, ⟨c0, c1, c2, c3⟩, ⟨d0, d1, d2, d3⟩⟩ := t
 dsimp only at hp ⊢
 have PL := fun u => rplace_any wd ht tx ty v u
 rw [hp] at PL
 obtain ⟨p1, p2, p3, p4⟩ := plcS_true.1 hp
 obtain ⟨z0, z1, z2, z3, z4⟩ := fitsS_true.1 hfit
 obtain ⟨e1, e2⟩ := row_end z0 p2 p4
 obtain ⟨P, hP⟩ : ∃ P : Int, ty * wd = P := ⟨_, rfl⟩
 rw [hP] at e1 e2 ⊢
 obtain ⟨I, hI⟩ : ∃ I : Nat, P + tx = I := ⟨(P + tx).toNat, by omega⟩
 have hIn : I < cs.length := by omega
 obtain ⟨g, cap, cur, hve, hgb, hgh, hcc, hcm, hcs, hct⟩ := hv.open_ (by omega)
 obtain ⟨n, hn⟩ : ∃ n, cs.length = n := ⟨_, rfl⟩
 obtain ⟨dc, hdc⟩ := get_at (l := cs) rfl hIn
 rw [hn] at hve hIn hcc
 have hIi : (I : Int) < n := by omega
 have hI0 : (0 : Int) ≤ (I : Int) := by omega
 subst hve
 have gb : b ≠ g := by
  rintro rfl
  have h := hB
  unfold Blk at h
  rw [hgh] at h
  injection h with h
  injection h with _ h2 _
  exact absurd h2 (by decide)
 have yg := (Array.getElem?_eq_some_iff.1 hgh).1
 have yb := hB.lt
 rw [hI, Int.toNat_natCast, splC_one (by rw [hn]; exact hIn)]
 replace PL := Lib.hid PL
 replace hB := Lib.hid hB
 replace hv := Lib.hid hv
 replace hdc := Lib.hid hdc
 replace hn := Lib.hid hn
 clear hct hcs hgh hcc
 go_enter Tryz.func111, Tryz.ntmps111
 go_upto_region 1 with fail
 obtain ⟨W1, hW1⟩ : ∃ W1, w.alloc (.cells #[.int .i32 ru, .int .u8 0, .int .u8 0, .int .u8 0, .int .u8 0, .int .u8 0, .int .u8 0, .int .u8 0, .int .u8 0, .bool wi, .bool ta] 52) = W1 := ⟨_, rfl⟩
 obtain ⟨b3, hb3⟩ : ∃ b, w.heap.size = b := ⟨_, rfl⟩
 have B3 : Blk W1 b3 [.int .i32 ru, .int .u8 0, .int .u8 0, .int .u8 0, .int .u8 0, .int .u8 0, .int .u8 0, .int .u8 0, .int .u8 0, .bool wi, .bool ta] 52 := by rw [← hW1]; exact Blk.new' hb3.symm
 have hb1 : Below w.heap.size w W1 := by rw [← hW1]; exact belt
 rw [hW1, hb3]
 clear hW1
 have z1' := hb1.size
 have BT1 := hB.out.below hb1 yb
 have yb1 := BT1.lt
 have nb : b ≠ b3 := by omega
 have ng : g ≠ b3 := by omega
 have j0 := BT1.cell (o := 0) rfl
 have j1 := BT1.cell (o := 1) rfl
 have j2 := BT1.cell (o := 2) rfl
 have j3 := BT1.cell (o := 3) rfl
 have j4 := BT1.cell (o := 4) rfl
 refine wp_region_steady (Held W1 0 []) (by kernel_rfl) (by kernel_rfl) ⟨belt, (by (try simp) <;> omega), (by first | exact trivial | (simp only [Cells]; go_simp))⟩ ?_
 repeat (first | (refine' wpSteady_do _ _ _; rotate_left; (focus rfl); (focus (intro w1 hS R hR; have hc := hS.cells; simp only [Cells] at hc; obtain ⟨hco, hfo⟩ := bcell hS.old; go_simp; (try go_bits); first | exact hR _ hS | (go_at_call 59; (with_reducible refine (PL.out _).mono ?_); rintro e w2 ⟨rfl, hb2⟩; exact ⟨_, rfl, hR _ (hS.below hb2)⟩))); simp only [pu]) | (refine wpSteady_pass ?_ ?_; (focus rfl); simp only [pu]))
 refine wpSteady_nil (fun uA hSA => ?_)
 have hcA := hSA.cells; have hbA := hSA.old; have hzA := hSA.size; clear hSA; simp only [Cells] at hcA; obtain ⟨hcoA, hfoA⟩ := bcell hbA
 have hb1A := hb1.trans (hbA.mono z1')
 replace B3 := B3.below hbA B3.lt
 replace BT1 := BT1.below hbA yb1
 clear j0 j1 j2 j3 j4 hcA hcoA hfoA
 have j5 := BT1.cell (o := 5) rfl
 have j6 := BT1.cell (o := 6) rfl
 have j7 := BT1.cell (o := 7) rfl
 have j8 := BT1.cell (o := 8) rfl
 have j9 := BT1.cell (o := 9) rfl
 have j10 := BT1.cell (o := 10) rfl
 have j11 := BT1.cell (o := 11) rfl
 have j12 := BT1.cell (o := 12) rfl
 have k1 := B3.cell (o := 1) rfl
 have k2 := B3.cell (o := 2) rfl
 have k3 := B3.cell (o := 3) rfl
 have k4 := B3.cell (o := 4) rfl
 have k5 := B3.cell (o := 5) rfl
 have k6 := B3.cell (o := 6) rfl
 have k7 := B3.cell (o := 7) rfl
 have k8 := B3.cell (o := 8) rfl
 have kf := B3.free
 have y3 := B3.lt
 have ybA := BT1.lt
 go_upto_region 5 with fail
 obtain ⟨W3, hW3⟩ : ∃ W3, ((((((((uA.setCell ⟨b3, 1, none⟩ (.int .u8 c0)).setCell ⟨b3, 2, none⟩ (.int .u8 c1)).setCell ⟨b3, 3, none⟩ (.int .u8 c2)).setCell ⟨b3, 4, none⟩ (.int .u8 c3)).setCell ⟨b3, 5, none⟩ (.int .u8 d0)).setCell ⟨b3, 6, none⟩ (.int .u8 d1)).setCell ⟨b3, 7, none⟩ (.int .u8 d2)).setCell ⟨b3, 8, none⟩ (.int .u8 d3)) = W3 := ⟨_, rfl⟩
 have B3' : Blk W3 b3 [.int .i32 ru, .int .u8 c0, .int .u8 c1, .int .u8 c2, .int .u8 c3, .int .u8 d0, .int .u8 d1, .int .u8 d2, .int .u8 d3, .bool wi, .bool ta] 52 := by rw [← hW3]; exact (((((((B3.set 1 _).set 2 _).set 3 _).set 4 _).set 5 _).set 6 _).set 7 _).set 8 _
 have hl3 : w.heap.size ≤ b3 := by omega
 have hbW3 : Below w.heap.size w W3 := by
  rw [← hW3]
  exact (((((((hb1A.setCell (p := ⟨b3, 1, none⟩) hl3 _).setCell (p := ⟨b3, 2, none⟩) hl3 _).setCell (p := ⟨b3, 3, none⟩) hl3 _).setCell (p := ⟨b3, 4, none⟩) hl3 _).setCell (p := ⟨b3, 5, none⟩) hl3 _).setCell (p := ⟨b3, 6, none⟩) hl3 _).setCell (p := ⟨b3, 7, none⟩) hl3 _).setCell (p := ⟨b3, 8, none⟩) hl3 _
 rw [hW3]
 clear hW3 j5 j6 j7 j8 j9 j10 j11 j12 k1 k2 k3 k4 k5 k6 k7 k8 kf y3 ybA B3 BT1 hb1 hb1A hbA yb1 hb3
 have BT3 := hB.out.below hbW3 yb
 have hv3 := hv.out.below hbW3 (Nat.le_refl _)
 have zW3 := hbW3.size
 have j0 := BT3.cell (o := 0) rfl
 have j2 := BT3.cell (o := 2) rfl
 have j3 := BT3.cell (o := 3) rfl
 have j4 := BT3.cell (o := 4) rfl
 have i0 := B3'.cell (o := 0) rfl
 have i1 := B3'.cell (o := 1) rfl
 have i2 := B3'.cell (o := 2) rfl
 have i3 := B3'.cell (o := 3) rfl
 have i4 := B3'.cell (o := 4) rfl
 have i5 := B3'.cell (o := 5) rfl
 have i6 := B3'.cell (o := 6) rfl
 have i7 := B3'.cell (o := 7) rfl
 have i8 := B3'.cell (o := 8) rfl
 have i9 := B3'.cell (o := 9) rfl
 have i10 := B3'.cell (o := 10) rfl
 have y3 := B3'.lt
 have yT := BT3.lt
 replace hbW3 := Lib.hid hbW3
 replace hv3 := Lib.hid hv3
 replace BT3 := Lib.hid BT3
 refine wp_region_steady_then (Held W3 0 []) 25 (by kernel_rfl) (by kernel_rfl) (by decide) (by kernel_rfl) (by kernel_rfl) ⟨belt, (by (try simp) <;> omega), (by first | exact trivial | (simp only [Cells]; go_simp))⟩ ?_
 simp only [List.take_succ_cons, List.take_zero]
 repeat (first | (refine' wpSteady_do _ _ _; rotate_left; (focus rfl); (focus (intro w1 hS R hR; have hc := hS.cells; simp only [Cells] at hc; obtain ⟨hco, hfo⟩ := bcell hS.old; go_simp; (try go_bits); first | exact hR _ hS | fail)); simp only [pu]) | (refine wpSteady_pass ?_ ?_; (focus rfl); simp only [pu]))
 refine wpSteady_nil (fun uB hSB => ?_)
 have hcB := hSB.cells; have hbB := hSB.old; have hzB := hSB.size; clear hSB; simp only [Cells] at hcB; obtain ⟨hcoB, hfoB⟩ := bcell hbB
 simp only [List.drop_succ_cons, List.drop_zero, List.drop_nil]
 have BT4 := BT3.out.below hbB yT
 have hv4 := hv3.out.below hbB (Nat.le_refl _)
 have hbw4 := hbW3.out.trans (hbB.mono zW3)
 have hcl := hn.out
 have fz := cown_unfz hv4
 obtain ⟨m0, m1, m2, m3, m4, m5, m6, m7, m8, m9, m10⟩ := own_cmem2 hv4 hdc.out
 have yg4 : g < uB.heap.size := by have := hbw4.size; omega
 have HP := hv4.put hcl hdc.out ⟨ru, ⟨c0, c1, c2, c3⟩, ⟨d0, d1, d2, d3⟩, wi, ta⟩
 dsimp only at HP
 have hkP := KeptBut.putk (KeptBut.refl (· = g) uB) (g := g) rfl (I * 11) (.int .i32 ru) (.int .u8 c0) (.int .u8 c1) (.int .u8 c2) (.int .u8 c3) (.int .u8 d0) (.int .u8 d1) (.int .u8 d2) (.int .u8 d3) (.bool wi) (.bool ta)
 replace BT4 := Lib.hid BT4
 replace hbw4 := Lib.hid hbw4
 replace HP := Lib.hid HP
 replace hkP := Lib.hid hkP
 clear hv4 i0 i1 i2 i3 i4 i5 i6 i7 i8 i9 i10 j0 j2 j3 j4
 go_upto_region 6 with fail
 replace HP := HP.out
 replace hkP := hkP.out
 generalize (((((((((((uB).setCell ⟨g, (I * 11), none⟩ (.int .i32 ru)).setCell ⟨g, (I * 11) + 1, none⟩ (.int .u8 c0)).setCell ⟨g, (I * 11) + 2, none⟩ (.int .u8 c1)).setCell ⟨g, (I * 11) + 3, none⟩ (.int .u8 c2)).setCell ⟨g, (I * 11) + 4, none⟩ (.int .u8 c3)).setCell ⟨g, (I * 11) + 5, none⟩ (.int .u8 d0)).setCell ⟨g, (I * 11) + 6, none⟩ (.int .u8 d1)).setCell ⟨g, (I * 11) + 7, none⟩ (.int .u8 d2)).setCell ⟨g, (I * 11) + 8, none⟩ (.int .u8 d3)).setCell ⟨g, (I * 11) + 9, none⟩ (.bool wi)).setCell ⟨g, (I * 11) + 10, none⟩ (.bool ta) = W5 at HP hkP ⊢
 have BT5 := BT4.out.but hkP gb
 clear m0 m1 m2 m3 m4 m5 m6 m7 m8 m9 m10 fz yg4 hcB hcoB hfoB
 have t3 := BT5.cell (o := 3) rfl
 have f3 := BT5.free 3
 have y5 := BT5.lt
 replace BT5 := Lib.hid BT5
 replace HP := Lib.hid HP
 have KK : KeptBut (fun k => k = b ∨ (Value.slice (some ⟨g, 0, none⟩) n cap).ownBlock = some k) w W5 := ((KeptBut.refl _ w).below hbw4.out).trans (hkP.wider (fun k hk => .inr (by rw [hk]; rfl)))
 replace KK := Lib.hid KK
 clear hkP
 go_wp2
 go_ret
 exact ⟨rfl, ⟨BT5.out.set 3 _, own_other HP.out (a := ⟨b, 3, none⟩) (fun q hq => by
  have e : g = q := by simpa [Value.ownBlock] using hq
  rw [← e]
  exact Ne.symm gb) _⟩, KK.out.setCell ⟨b, 3, none⟩ _ (.inl rfl)⟩
end Go.Proofs.YtffmomgmkpmpkaaGreatDoor
