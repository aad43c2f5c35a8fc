/-
  The document's answer: May, empty, Asked, two, has.
-/
import Derived.Test.YtlklmncjicgbgaaRegV
import Derived.Test.YtlklmncjicgbgaaRegB
namespace Go.Proofs.Ytlklmncjicgbgaa
open Go.RowKit
set_option linter.unusedVariables false
attribute [local go_sem] vwp vUpon_value vUpon_skip vUpon_enter vUpon_row
set_option linter.unusedSimpArgs false
set_option linter.unusedVariables false
set_option maxHeartbeats 1000000 in
theorem kmay_any (q : Re) (w : World) (hq : q.Wf) : Calls Try.prog 64 #[.agg #[.int .i64 (q).x, .int .i64 (q).y, .int .i64 (q).wd, .int .i64 (q).ht]] w fun e w' => e = .returned (.bool (mayR q)) ∧ Below w.heap.size w w' := by
  obtain ⟨x, y, a, b⟩ := q
  obtain ⟨⟨x1, x2⟩, ⟨y1, y2⟩, ⟨a1, a2⟩, ⟨b1, b2⟩⟩ := hq
  simp only at x1 x2 y1 y2 a1 a2 b1 b2 ⊢
  by_cases c1 : a < 0
  · have hm : mayR ⟨x, y, a, b⟩ = false := by simp [mayR, spanB, inB, sdB]; omega
    rw [show mayR ⟨x, y, a, b⟩ = false from hm]
    clear hm
    go_enter Try.func64, Try.ntmps64
    go_wp2
    go_ret
    exact ⟨rfl, (by repeat (first | exact Below.refl _ _ | assumption | refine Below.drew ?_ | refine Below.alloc ?_ (by (try simp) <;> omega) _ | refine Below.setCell ?_ (by (try simp) <;> omega) _))⟩
  by_cases c2 : b < 0
  · have hm : mayR ⟨x, y, a, b⟩ = false := by simp [mayR, spanB, inB, sdB]; omega
    rw [show mayR ⟨x, y, a, b⟩ = false from hm]
    clear hm
    go_enter Try.func64, Try.ntmps64
    go_wp2
    go_ret
    exact ⟨rfl, (by repeat (first | exact Below.refl _ _ | assumption | refine Below.drew ?_ | refine Below.alloc ?_ (by (try simp) <;> omega) _ | refine Below.setCell ?_ (by (try simp) <;> omega) _))⟩
  by_cases c3 : x < -16384
  · have hm : mayR ⟨x, y, a, b⟩ = false := by simp [mayR, spanB, inB, sdB]; omega
    rw [show mayR ⟨x, y, a, b⟩ = false from hm]
    clear hm
    go_enter Try.func64, Try.ntmps64
    go_wp2
    go_ret
    exact ⟨rfl, (by repeat (first | exact Below.refl _ _ | assumption | refine Below.drew ?_ | refine Below.alloc ?_ (by (try simp) <;> omega) _ | refine Below.setCell ?_ (by (try simp) <;> omega) _))⟩
  by_cases c4 : y < -16384
  · have hm : mayR ⟨x, y, a, b⟩ = false := by simp [mayR, spanB, inB, sdB]; omega
    rw [show mayR ⟨x, y, a, b⟩ = false from hm]
    clear hm
    go_enter Try.func64, Try.ntmps64
    go_wp2
    go_ret
    exact ⟨rfl, (by repeat (first | exact Below.refl _ _ | assumption | refine Below.drew ?_ | refine Below.alloc ?_ (by (try simp) <;> omega) _ | refine Below.setCell ?_ (by (try simp) <;> omega) _))⟩
  by_cases c5 : 16384 < x
  · have hm : mayR ⟨x, y, a, b⟩ = false := by simp [mayR, spanB, inB, sdB]; omega
    rw [show mayR ⟨x, y, a, b⟩ = false from hm]
    clear hm
    go_enter Try.func64, Try.ntmps64
    go_wp2
    go_ret
    exact ⟨rfl, (by repeat (first | exact Below.refl _ _ | assumption | refine Below.drew ?_ | refine Below.alloc ?_ (by (try simp) <;> omega) _ | refine Below.setCell ?_ (by (try simp) <;> omega) _))⟩
  by_cases c6 : 16384 < y
  · have hm : mayR ⟨x, y, a, b⟩ = false := by simp [mayR, spanB, inB, sdB]; omega
    rw [show mayR ⟨x, y, a, b⟩ = false from hm]
    clear hm
    go_enter Try.func64, Try.ntmps64
    go_wp2
    go_ret
    exact ⟨rfl, (by repeat (first | exact Below.refl _ _ | assumption | refine Below.drew ?_ | refine Below.alloc ?_ (by (try simp) <;> omega) _ | refine Below.setCell ?_ (by (try simp) <;> omega) _))⟩
  have d3 : -16384 ≤ x := by omega
  have d4 : -16384 ≤ y := by omega
  have d5 : x ≤ 16384 := by omega
  have d6 : y ≤ 16384 := by omega
  by_cases c7 : a ≤ 16384 - x
  · by_cases c8 : b ≤ 16384 - y
    · have hm : mayR ⟨x, y, a, b⟩ = true := by simp [mayR, spanB, inB, sdB]; omega
      rw [show mayR ⟨x, y, a, b⟩ = true from hm]
      clear hm
      go_enter Try.func64, Try.ntmps64
      go_wp2
      go_ret
      exact ⟨rfl, (by repeat (first | exact Below.refl _ _ | assumption | refine Below.drew ?_ | refine Below.alloc ?_ (by (try simp) <;> omega) _ | refine Below.setCell ?_ (by (try simp) <;> omega) _))⟩
    · have hm : mayR ⟨x, y, a, b⟩ = false := by simp [mayR, spanB, inB, sdB]; omega
      rw [show mayR ⟨x, y, a, b⟩ = false from hm]
      clear hm
      go_enter Try.func64, Try.ntmps64
      go_wp2
      go_ret
      exact ⟨rfl, (by repeat (first | exact Below.refl _ _ | assumption | refine Below.drew ?_ | refine Below.alloc ?_ (by (try simp) <;> omega) _ | refine Below.setCell ?_ (by (try simp) <;> omega) _))⟩
  · have hm : mayR ⟨x, y, a, b⟩ = false := by simp [mayR, spanB, inB, sdB]; omega
    rw [show mayR ⟨x, y, a, b⟩ = false from hm]
    clear hm
    go_enter Try.func64, Try.ntmps64
    go_wp2
    go_ret
    exact ⟨rfl, (by repeat (first | exact Below.refl _ _ | assumption | refine Below.drew ?_ | refine Below.alloc ?_ (by (try simp) <;> omega) _ | refine Below.setCell ?_ (by (try simp) <;> omega) _))⟩
theorem kempty_any (q : Re) (w : World) : Calls Try.prog 66 #[.agg #[.int .i64 (q).x, .int .i64 (q).y, .int .i64 (q).wd, .int .i64 (q).ht]] w fun e w' => e = .returned (.bool (noneR q)) ∧ Below w.heap.size w w' := by
  obtain ⟨x, y, a, b⟩ := q
  simp only
  by_cases c1 : a = 0
  · have hm : noneR ⟨x, y, a, b⟩ = true := by simp [noneR, c1]
    have d1 : (a == 0) = true := by simp [c1]
    clear c1
    rw [show noneR ⟨x, y, a, b⟩ = true from hm]
    clear hm
    go_enter Try.func66, Try.ntmps66
    go_wp2
    go_ret
    exact ⟨rfl, (by repeat (first | exact Below.refl _ _ | assumption | refine Below.drew ?_ | refine Below.alloc ?_ (by (try simp) <;> omega) _ | refine Below.setCell ?_ (by (try simp) <;> omega) _))⟩
  have d1 : (a == 0) = false := by simp [c1]
  by_cases c2 : b = 0
  · have hm : noneR ⟨x, y, a, b⟩ = true := by simp [noneR, c2]
    have d2 : (b == 0) = true := by simp [c2]
    clear c2
    rw [show noneR ⟨x, y, a, b⟩ = true from hm]
    clear hm
    go_enter Try.func66, Try.ntmps66
    go_wp2
    go_ret
    exact ⟨rfl, (by repeat (first | exact Below.refl _ _ | assumption | refine Below.drew ?_ | refine Below.alloc ?_ (by (try simp) <;> omega) _ | refine Below.setCell ?_ (by (try simp) <;> omega) _))⟩
  have d2 : (b == 0) = false := by simp [c2]
  have hm : noneR ⟨x, y, a, b⟩ = false := by simp [noneR, c1, c2]
  rw [show noneR ⟨x, y, a, b⟩ = false from hm]
  clear hm
  go_enter Try.func66, Try.ntmps66
  go_wp2
  go_ret
  exact ⟨rfl, (by repeat (first | exact Below.refl _ _ | assumption | refine Below.drew ?_ | refine Below.alloc ?_ (by (try simp) <;> omega) _ | refine Below.setCell ?_ (by (try simp) <;> omega) _))⟩
theorem all_may_step {l : List Re} {k : Nat} {q : Re} (h : l[k]? = some q) : (l.drop k).all mayR = (mayR q && (l.drop (k + 1)).all mayR) := by
  rw [drop_get h]; rfl
set_option maxHeartbeats 1000000 in
set_option maxRecDepth 100000 in
theorem kasked_any (l : List Re) (v : Value) (w : World) (hl : Row w.heap.size 4 Re.enc w v l) (wl : (∀ q ∈ l, q.Wf)) : Calls Try.prog 62 #[v] w fun e w' => e = .returned (.int .i64 (chkR l)) ∧ Below w.heap.size w w' := by
  obtain ⟨s0, cap, rfl, hmax⟩ := hl.shape
  have hopen := fun h0 => row_re hl h0
  obtain ⟨n, en⟩ : ∃ n, l.length = n := ⟨_, rfl⟩
  rw [en] at hopen hmax ⊢
  unfold maxLen at hmax
  clear hl
  by_cases c1 : 1024 < n
  · rw [show chkR l = 4 by unfold chkR; rw [if_pos (by omega)]]
    have c1' : (1024 : Int) < n := by omega
    replace hopen := Lib.hid hopen
    replace en := Lib.hid en
    go_enter Try.func62, Try.ntmps62
    go_wp2
    go_ret
    exact ⟨rfl, (by repeat (first | exact Below.refl _ _ | assumption | refine Below.drew ?_ | refine Below.alloc ?_ (by (try simp) <;> omega) _ | refine Below.setCell ?_ (by (try simp) <;> omega) _))⟩
  have c1' : ¬ (1024 : Int) < n := by omega
  obtain ⟨R, hR⟩ : ∃ R, l.all mayR = R := ⟨_, rfl⟩
  have e : chkR l = if R then 0 else 5 := by unfold chkR; rw [if_neg (by omega), hR]
  rw [e]
  clear e
  have hgo : (l.drop 0).all mayR = R := hR
  clear hR
  replace hgo := Lib.hid hgo
  replace hopen := Lib.hid hopen
  replace en := Lib.hid en
  replace wl := Lib.hid wl
  go_enter Try.func62, Try.ntmps62
  go_wp2
  go_loopw [3] (fun iv wr => ∃ k : Nat, k ≤ n ∧ iv = .int .i64 k ∧ Hid ((l.drop k).all mayR = R) ∧ Below w.heap.size w wr) (fun iv _ => n - (intOf iv).toNat)
  case atStart => exact ⟨0, Nat.zero_le _, rfl, hgo, Below.refl _ _⟩
  case round =>
    clear hgo
    obtain ⟨k, hk, rfl, hgo, hbr⟩ := hrel
    have zr := hbr.size
    obtain ⟨hcr, hfr⟩ := bcell hbr
    by_cases hkn : k < n
    · obtain ⟨b, o, cap', e, yb, _, _, hel⟩ := hopen.out (by omega)
      simp at e
      obtain ⟨rfl, rfl⟩ := e
      obtain ⟨q, hq⟩ := get_at en.out hkn
      obtain ⟨g0, g1, g2, g3⟩ := hel k q hq
      have A := fun w => kmay_any q w (wl.out q (List.mem_of_getElem? hq))
      have hgo := hgo.out
      rw [all_may_step hq] at hgo
      have hkk : (k : Int) < n := by omega
      clear hel hq
      cases hm : mayR q
      · rw [hm] at A hgo
        have hgo : false = R := hgo
        subst hgo
        replace A := Lib.hid A
        go_wp2_with (first | (go_at_call 64; (with_reducible refine (A.out _).mono ?_); rintro e w1 ⟨rfl, hb1⟩; obtain ⟨hc1, hf1⟩ := bcell hb1; have hz1 := hb1.size; (try simp at hz1); (try have lt1 : w.heap.size < w1.heap.size := (by omega))) | go_in)
        go_ret
        exact ⟨rfl, hbr.trans (hb1.mono zr)⟩
      · rw [hm] at A hgo
        have hgo := Lib.hid (show (l.drop (k + 1)).all mayR = R from hgo)
        replace A := Lib.hid A
        clear hm
        go_wp2_with (first | (go_at_call 64; (with_reducible refine (A.out _).mono ?_); rintro e w1 ⟨rfl, hb1⟩; obtain ⟨hc1, hf1⟩ := bcell hb1; have hz1 := hb1.size; (try simp at hz1); (try have lt1 : w.heap.size < w1.heap.size := (by omega))) | go_in)
        go_roundw
        case rel => exact ⟨k + 1, by omega, by go_num, hgo, hbr.trans (hb1.mono zr)⟩
        case measure => simp [intOf]; omega
    · obtain rfl : k = n := by omega
      have hgo := hgo.out
      rw [List.drop_eq_nil_of_le (by have := en.out; omega)] at hgo
      have hgo : true = R := hgo
      subst hgo
      go_wp2
      go_ret
      exact ⟨rfl, hbr⟩
theorem ktwo_any (a b : List Re) (va vb : Value) (w : World) (ha : Row w.heap.size 4 Re.enc w va a) (hb : Row w.heap.size 4 Re.enc w vb b) (wa : (∀ q ∈ a, q.Wf)) (wb : (∀ q ∈ b, q.Wf)) : Calls Try.prog 47 #[va, vb] w fun e w' => e = .returned (.int .i64 (askR a b)) ∧ Below w.heap.size w w' := by
  have A := kasked_any a va w ha wa
  have B := fun W (h : Below w.heap.size w W) => kasked_any b vb W ((hb.below h).mono h.size) wb
  unfold askR
  by_cases h : chkR a = 0
  · rw [if_pos h]
    rw [h] at A
    generalize chkR b = E at *
    clear ha hb h
    replace A := Lib.hid A
    replace B := Lib.hid B
    go_enter Try.func47, Try.ntmps47
    go_wp2_with (first
      | (go_at_call 62; (with_reducible refine (A.out).mono ?_); rintro e w1 ⟨rfl, hb1⟩)
      | (go_at_call 62; (with_reducible refine (B.out _ hb1).mono ?_); rintro e w2 ⟨rfl, hb2⟩)
      | go_in)
    go_ret
    exact ⟨rfl, hb1.trans (hb2.mono hb1.size)⟩
  · rw [if_neg h]
    have h' : (chkR a == 0) = false := by simp [h]
    have h'' : (chkR a != 0) = true := by simp [h]
    generalize chkR a = E at *
    clear ha hb h
    replace A := Lib.hid A
    replace B := Lib.hid B
    go_enter Try.func47, Try.ntmps47
    go_wp2_with (first
      | (go_at_call 62; (with_reducible refine (A.out).mono ?_); rintro e w1 ⟨rfl, hb1⟩)
      | go_in)
    go_ret
    exact ⟨rfl, hb1⟩
theorem hasL_at {l : List Re} {k : Nat} {q : Re} (h : l[k]? = some q) (x y : Int) : hasL (l.drop k) x y = (hasR q x y || hasL (l.drop (k + 1)) x y) := by
  rw [drop_get h]; rfl
set_option maxHeartbeats 2000000 in
set_option maxRecDepth 100000 in
theorem khas_any (l : List Re) (v : Value) (px py : Int) (w : World) (hl : Row w.heap.size 4 Re.enc w v l) (ml : MayL l) : Calls Try.prog 65 #[v, .int .i64 px, .int .i64 py] w fun e w' => e = .returned (.bool (hasL l px py)) ∧ Below w.heap.size w w' := by
  obtain ⟨s0, cap, rfl, hmax⟩ := hl.shape
  have hopen := fun h0 => row_re hl h0
  obtain ⟨n, en⟩ : ∃ n, l.length = n := ⟨_, rfl⟩
  rw [en] at hopen hmax ⊢
  unfold maxLen at hmax
  obtain ⟨R, hR⟩ : ∃ R, hasL l px py = R := ⟨_, rfl⟩
  rw [hR]
  have hgo := Lib.hid (show hasL (l.drop 0) px py = R from hR)
  clear hl hR
  replace hopen := Lib.hid hopen
  replace en := Lib.hid en
  replace ml := Lib.hid ml
  go_enter Try.func65, Try.ntmps65
  go_wp2
  go_loopw [7] (fun iv wr => ∃ k : Nat, k ≤ n ∧ iv = .int .i64 k ∧ Hid (hasL (l.drop k) px py = R) ∧ Below w.heap.size w wr) (fun iv _ => n - (intOf iv).toNat)
  case atStart => exact ⟨0, Nat.zero_le _, rfl, hgo, Below.refl _ _⟩
  case round =>
    clear hgo
    obtain ⟨k, hk, rfl, hgo, hbr⟩ := hrel
    have zr := hbr.size
    obtain ⟨hcr, hfr⟩ := bcell hbr
    by_cases hkn : k < n
    · obtain ⟨b, o, cap', e, yb, _, _, hel⟩ := hopen.out (by omega)
      simp at e
      obtain ⟨rfl, rfl⟩ := e
      obtain ⟨⟨qx, qy, qa, qb⟩, hq⟩ := get_at en.out hkn
      obtain ⟨g0, g1, g2, g3⟩ := hel k _ hq
      simp only at g0 g1 g2 g3
      have hbd := may_bd (ml.out _ (List.mem_of_getElem? hq))
      obtain ⟨x0, x1, y0, y1, a0, a1, b0, b1⟩ := hbd
      simp only at x0 x1 y0 y1 a0 a1 b0 b1
      have hgo := hgo.out
      rw [hasL_at hq] at hgo
      have hkk : (k : Int) < n := by omega
      clear hel hq
      by_cases c1 : qx ≤ px
      · by_cases c2 : px < qx + qa
        · by_cases c3 : qy ≤ py
          · by_cases c4 : py < qy + qb
            · rw [show hasR ⟨qx, qy, qa, qb⟩ px py = true by simp [hasR, c1, c2, c3, c4]] at hgo
              have hgo : true = R := by simpa using hgo
              subst hgo
              go_wp2
              go_ret
              exact ⟨rfl, (by repeat (first | exact Below.refl _ _ | assumption | refine Below.drew ?_ | refine Below.alloc ?_ (by (try simp) <;> omega) _ | refine Below.setCell ?_ (by (try simp) <;> omega) _))⟩
            · have hm : hasR ⟨qx, qy, qa, qb⟩ px py = false := by simp [hasR, c4]
              rw [show hasR ⟨qx, qy, qa, qb⟩ px py = false from hm] at hgo
              have hgo := Lib.hid (show hasL (l.drop (k + 1)) px py = R from hgo)
              clear hm
              go_wp2
              go_roundw
              case rel => exact ⟨k + 1, by omega, by go_num, hgo, (by repeat (first | exact Below.refl _ _ | assumption | refine Below.drew ?_ | refine Below.alloc ?_ (by (try simp) <;> omega) _ | refine Below.setCell ?_ (by (try simp) <;> omega) _))⟩
              case measure => simp [intOf]; omega
          · have hm : hasR ⟨qx, qy, qa, qb⟩ px py = false := by simp [hasR, c3]
            rw [show hasR ⟨qx, qy, qa, qb⟩ px py = false from hm] at hgo
            have hgo := Lib.hid (show hasL (l.drop (k + 1)) px py = R from hgo)
            clear hm
            go_wp2
            go_roundw
            case rel => exact ⟨k + 1, by omega, by go_num, hgo, (by repeat (first | exact Below.refl _ _ | assumption | refine Below.drew ?_ | refine Below.alloc ?_ (by (try simp) <;> omega) _ | refine Below.setCell ?_ (by (try simp) <;> omega) _))⟩
            case measure => simp [intOf]; omega
        · have hm : hasR ⟨qx, qy, qa, qb⟩ px py = false := by simp [hasR, c2]
          rw [show hasR ⟨qx, qy, qa, qb⟩ px py = false from hm] at hgo
          have hgo := Lib.hid (show hasL (l.drop (k + 1)) px py = R from hgo)
          clear hm
          go_wp2
          go_roundw
          case rel => exact ⟨k + 1, by omega, by go_num, hgo, (by repeat (first | exact Below.refl _ _ | assumption | refine Below.drew ?_ | refine Below.alloc ?_ (by (try simp) <;> omega) _ | refine Below.setCell ?_ (by (try simp) <;> omega) _))⟩
          case measure => simp [intOf]; omega
      · have hm : hasR ⟨qx, qy, qa, qb⟩ px py = false := by simp [hasR, c1]
        rw [show hasR ⟨qx, qy, qa, qb⟩ px py = false from hm] at hgo
        have hgo := Lib.hid (show hasL (l.drop (k + 1)) px py = R from hgo)
        clear hm
        go_wp2
        go_roundw
        case rel => exact ⟨k + 1, by omega, by go_num, hgo, (by repeat (first | exact Below.refl _ _ | assumption | refine Below.drew ?_ | refine Below.alloc ?_ (by (try simp) <;> omega) _ | refine Below.setCell ?_ (by (try simp) <;> omega) _))⟩
        case measure => simp [intOf]; omega
    · obtain rfl : k = n := by omega
      have hgo := hgo.out
      rw [List.drop_eq_nil_of_le (by have := en.out; omega)] at hgo
      have hgo : false = R := hgo
      subst hgo
      go_wp2
      go_ret
      exact ⟨rfl, hbr⟩
end Go.Proofs.Ytlklmncjicgbgaa
