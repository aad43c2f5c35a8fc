/-
  What is wrong with lists: region.asked.
-/
import Derived.Test.YtlklmncjicgbgaaRegB
namespace Go.Proofs.Ytlklmncjicgbgaa
open Go.RowKit
set_option linter.unusedVariables false
attribute [local go_sem] vwp vUpon_value vUpon_skip vUpon_enter vUpon_row
set_option linter.unusedSimpArgs false
set_option linter.unusedVariables false
def askG : List (List Re) → Int
  | [] => 0
  | l :: r => if chkR l = 0 then askG r else chkR l
/-- Lists handed over together. -/
def Lists (w : World) (g n : Nat) (ls : List (Value × List Re)) : Prop := ls.length = n ∧ g < w.heap.size ∧ ∀ (i : Nat) p, ls[i]? = some p → w.cell? ⟨g, i, none⟩ = some p.1 ∧ Row w.heap.size 4 Re.enc w p.1 p.2 ∧ ∀ q ∈ p.2, q.Wf
theorem Lists.below {w w' : World} {g n : Nat} {ls : List (Value × List Re)} (h : Lists w g n ls) (hb : Below w.heap.size w w') : Lists w' g n ls := by
  obtain ⟨h1, h2, h3⟩ := h
  refine ⟨h1, Nat.lt_of_lt_of_le h2 hb.size, fun i p hp => ?_⟩
  obtain ⟨a, b, c⟩ := h3 i p hp
  exact ⟨(hb.cell (p := ⟨g, i, none⟩) h2).trans a, (b.below hb).mono hb.size, c⟩
def sndL (ls : List (Value × List Re)) : List (List Re) := ls.map (·.2)
set_option maxHeartbeats 1000000 in
theorem asked_any (ls : List (Value × List Re)) (g n : Nat) (w : World) (hn : n ≤ 2) (h : Lists w g n ls) : Calls Try.prog 43 #[.slice (some ⟨g, 0, none⟩) n n] w fun e w' => e = .returned (.int .i64 (askG (sndL ls))) ∧ Below w.heap.size w w' := by
  obtain ⟨en, hg, hc⟩ := h
  obtain ⟨R, hR⟩ : ∃ R, askG (sndL ls) = R := ⟨_, rfl⟩
  rw [hR]
  replace hc := Lib.hid hc
  replace en := Lib.hid en
  go_enter Try.func43, Try.ntmps43
  go_wp2
  go_loopw [10] (fun i wr => ∃ k : Nat, k ≤ n ∧ i = .int .i64 k ∧ askG (sndL (ls.drop k)) = R ∧ Below w.heap.size w wr) (fun i _ => n - (intOf i).toNat)
  case atStart => exact ⟨0, Nat.zero_le _, rfl, hR, Below.refl _ _⟩
  case round =>
    obtain ⟨k, hk, rfl, hgo, hbr⟩ := hrel
    clear hR
    have zr := hbr.size
    obtain ⟨hcr, hfr⟩ := bcell hbr
    by_cases hkn : k < n
    · obtain ⟨⟨v, l⟩, hp⟩ := get_at en.out hkn
      obtain ⟨c0, hrow, hwf⟩ := hc.out k _ hp
      simp only at c0 hrow hwf
      rw [drop_get hp] at hgo
      replace hgo : (if chkR l = 0 then askG (sndL (ls.drop (k + 1))) else chkR l) = R := hgo
      obtain ⟨s, cap, rfl, hmax⟩ := hrow.shape
      have hopen := fun h0 => row_re hrow h0
      obtain ⟨m, em⟩ : ∃ m, l.length = m := ⟨_, rfl⟩
      rw [em] at hopen hmax c0
      unfold maxLen at hmax
      clear hp hrow
      have yg : g < wr.heap.size := by omega
      have hkk : (k : Int) < n := by omega
      replace hopen := Lib.hid hopen
      replace hwf := Lib.hid hwf
      by_cases big : 1024 < m
      · have e : chkR l = 4 := by unfold chkR; rw [if_pos (by omega)]
        rw [e, if_neg (by decide)] at hgo
        subst hgo
        have big' : (1024 : Int) < m := by omega
        clear e em
        go_wp2
        go_ret
        exact ⟨rfl, hbr⟩
      · obtain ⟨bb, hbb⟩ : ∃ bb, l.all mayR = bb := ⟨_, rfl⟩
        have e : chkR l = if bb = true then 0 else 5 := by unfold chkR; rw [if_neg (by omega), hbb]
        rw [e] at hgo
        have big' : ¬ (1024 : Int) < m := by omega
        clear e
        replace em := Lib.hid em
        replace hgo := Lib.hid hgo
        replace hbb := Lib.hid hbb
        go_wp2
        obtain ⟨W1, hW1⟩ : ∃ W1 : World, W1 = wr := ⟨_, rfl⟩
        subst hW1
        go_loopw [19] (fun i wr => ∃ j : Nat, j ≤ m ∧ i = .int .i64 j ∧ Hid ((l.drop j).all mayR = bb) ∧ Below W1.heap.size W1 wr) (fun i _ => m - (intOf i).toNat)
        case atStart => exact ⟨0, Nat.zero_le _, rfl, hbb, Below.refl _ _⟩
        case round =>
          obtain ⟨j, hj, rfl, hall, hb2⟩ := hrel
          clear hbb
          have z2 := hb2.size
          obtain ⟨hc2, hf2⟩ := bcell hb2
          by_cases hjm : j < m
          · obtain ⟨b, o, cap', e, hb, _, _, hel⟩ := hopen.out (by omega)
            simp at e
            obtain ⟨rfl, rfl⟩ := e
            obtain ⟨q, hq⟩ := get_at em.out hjm
            obtain ⟨g0, g1, g2, g3⟩ := hel j q hq
            have A := fun w => gcheck_any q w (hwf.out q (List.mem_of_getElem? hq))
            have hall := hall.out
            rw [drop_get hq, List.all_cons] at hall
            have hjj : (j : Int) < m := by omega
            have yb : b < w.heap.size := by omega
            have yb2 : b < W1.heap.size := by omega
            have yb3 : b < wr.heap.size := by omega
            clear hel hq
            cases hm : mayR q
            · rw [hm] at hall A
              rw [Bool.false_and] at hall
              subst hall
              have hgo := hgo.out
              rw [if_neg (by decide)] at hgo
              subst hgo
              replace A := Lib.hid A
              clear hm
              go_wp2_with (first
                | (go_at_call 60; (with_reducible refine (A.out _).mono ?_); rintro e w3 ⟨rfl, hb3⟩)
                | go_in)
              go_ret
              have hb23 : Below wr.heap.size wr w3 := (by repeat (first | exact Below.refl _ _ | assumption | refine Below.drew ?_ | refine Below.alloc ?_ (by (try simp) <;> omega) _ | refine Below.setCell ?_ (by (try simp) <;> omega) _ | (refine Below.trans ?_ (Below.mono (by assumption) (by (try simp) <;> omega)))))
              exact ⟨rfl, hbr.trans ((hb2.trans (hb23.mono z2)).mono zr)⟩
            · rw [hm] at hall A
              rw [Bool.true_and] at hall
              replace hall := Lib.hid hall
              replace A := Lib.hid A
              clear hm
              go_wp2_with (first
                | (go_at_call 60; (with_reducible refine (A.out _).mono ?_); rintro e w3 ⟨rfl, hb3⟩)
                | go_in)
              have hb23 : Below wr.heap.size wr w3 := (by repeat (first | exact Below.refl _ _ | assumption | refine Below.drew ?_ | refine Below.alloc ?_ (by (try simp) <;> omega) _ | refine Below.setCell ?_ (by (try simp) <;> omega) _ | (refine Below.trans ?_ (Below.mono (by assumption) (by (try simp) <;> omega)))))
              go_roundw
              case rel => exact ⟨j + 1, by omega, by go_num, hall, hb2.trans (hb23.mono z2)⟩
              case measure => simp [intOf]; omega
          · obtain rfl : j = m := by omega
            have hall := hall.out
            rw [List.drop_eq_nil_of_le (by have := em.out; omega)] at hall
            have hall : true = bb := hall
            subst hall
            have hgo := hgo.out
            rw [if_pos rfl, if_pos rfl] at hgo
            go_wp2
            go_roundw
            case rel => exact ⟨k + 1, by omega, by go_num, hgo, hbr.trans (hb2.mono zr)⟩
            case measure => simp [intOf]; omega
    · obtain rfl : k = n := by omega
      rw [List.drop_eq_nil_of_le (by have := en.out; omega)] at hgo
      have hgo : 0 = R := hgo
      subst hgo
      go_wp2
      go_ret
      exact ⟨rfl, hbr⟩
end Go.Proofs.Ytlklmncjicgbgaa
