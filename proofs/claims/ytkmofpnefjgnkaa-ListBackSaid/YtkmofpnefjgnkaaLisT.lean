/-
  'spoil' of the law.
-/
import Derived.Test.YtkmofpnefjgnkaaLisS
namespace Go.Proofs.Ytkmofpnefjgnkaa
open Go.RowKit
set_option linter.unusedVariables false
attribute [local go_sem] vwp vUpon_value vUpon_skip vUpon_enter vUpon_row
set_option linter.unusedSimpArgs false
set_option linter.unusedVariables false
def Spo (w wr : World) (g n : Nat) : Prop := (∃ cur, wr.heap[g]? = some (.cells cur 45 (0, 0)) ∧ n * 15 ≤ cur.size) ∧ w.grownBy wr (some g)
theorem Spo.set {w wr : World} {g n : Nat} (h : Spo w wr g n) (o : Nat) (u : Value) : Spo w (wr.setCell ⟨g, o, none⟩ u) g n := by
  obtain ⟨⟨cur, hh, hs⟩, hg⟩ := h
  refine ⟨⟨_, heap_setCell_same _ _ _ _ _ _ hh, by simpa using hs⟩, hg.os, hg.tape, hg.output, by simpa using hg.size, fun k hk hne => ?_⟩
  rw [heap_setCell_other _ _ _ _ (fun e => hne (by simpa using congrArg some e))]
  exact hg.block k hk hne
theorem Spo.cell {w wr : World} {g n : Nat} (h : Spo w wr g n) {o : Nat} (ho : o < n * 15) : ∃ u, wr.cell? ⟨g, o, none⟩ = some u := by
  obtain ⟨⟨cur, hh, hs⟩, _⟩ := h
  refine ⟨cur[o]'(by omega), ?_⟩
  simp only [World.cell?, hh]
  simp [Array.getElem?_eq_getElem (show o < cur.size by omega)]
theorem Spo.free {w wr : World} {g n : Nat} (h : Spo w wr g n) (o : Nat) : wr.frozen? ⟨g, o, none⟩ = false := by
  obtain ⟨⟨cur, hh, hs⟩, _⟩ := h
  simp [World.frozen?, hh]
theorem grown_none {w w' : World} (o : Option Nat) (h : w = w') : w.grownBy w' o := by subst h; exact grown_refl _ _
set_option maxHeartbeats 2000000 in
set_option maxRecDepth 100000 in
theorem spoil_any (base : Nat) (xs : List St) (v : Value) (w : World) (h : Owns base w v xs) (hm : xs.length ≤ 40000) : Calls Try.prog 14 #[v] w fun e w' => e = .returned (.tuple #[]) ∧ w.grownBy w' v.ownBlock := by
  rcases h.2 with ⟨rfl, h0⟩ | ⟨g, cap, cur, rfl, hg, hh, hnc, hcm, hcur, _⟩
  · go_enter Try.func14, Try.ntmps14
    go_wp2
    go_loopw [2] (fun i wr => i = .int .i64 0 ∧ w = wr) (fun i _ => 0)
    case atStart => exact ⟨rfl, rfl⟩
    case round =>
      obtain ⟨rfl, rfl⟩ := hrel
      go_wp2
      exact bodyPost_end (v := .tuple #[]) (by simp [results, Try.results14, go_sem]) rfl ⟨rfl, grown_refl _ _⟩
  · obtain ⟨n, en⟩ : ∃ n, xs.length = n := ⟨_, rfl⟩
    rw [en] at hnc hm ⊢
    have hspo : Spo w w g n := ⟨⟨cur, hh, by rw [hcur]; exact Nat.mul_le_mul_right _ hnc⟩, grown_refl _ _⟩
    clear hh hcur h
    unfold maxLen at hcm
    go_enter Try.func14, Try.ntmps14
    go_wp2
    go_loopw [2] (fun i wr => ∃ k : Nat, k ≤ n ∧ i = .int .i64 k ∧ Spo w wr g n) (fun i _ => n - (intOf i).toNat)
    case atStart => exact ⟨0, Nat.zero_le _, rfl, hspo⟩
    case round =>
      obtain ⟨k, hk, rfl, hsp⟩ := hrel
      by_cases hkn : k < n
      · have hkk : (k : Int) < n := by omega
        have hf := fun o => hsp.free o
        obtain ⟨u0, g0⟩ := hsp.cell (o := k * 15) (by omega)
        obtain ⟨u1, g1⟩ := hsp.cell (o := k * 15 + 1) (by omega)
        obtain ⟨u2, g2⟩ := hsp.cell (o := k * 15 + 2) (by omega)
        obtain ⟨u3, g3⟩ := hsp.cell (o := k * 15 + 3) (by omega)
        obtain ⟨u4, g4⟩ := hsp.cell (o := k * 15 + 4) (by omega)
        obtain ⟨u5, g5⟩ := hsp.cell (o := k * 15 + 5) (by omega)
        obtain ⟨u6, g6⟩ := hsp.cell (o := k * 15 + 6) (by omega)
        obtain ⟨u7, g7⟩ := hsp.cell (o := k * 15 + 7) (by omega)
        obtain ⟨u8, g8⟩ := hsp.cell (o := k * 15 + 8) (by omega)
        obtain ⟨u9, g9⟩ := hsp.cell (o := k * 15 + 9) (by omega)
        obtain ⟨u10, g10⟩ := hsp.cell (o := k * 15 + 10) (by omega)
        obtain ⟨u11, g11⟩ := hsp.cell (o := k * 15 + 11) (by omega)
        obtain ⟨u12, g12⟩ := hsp.cell (o := k * 15 + 12) (by omega)
        obtain ⟨u13, g13⟩ := hsp.cell (o := k * 15 + 13) (by omega)
        obtain ⟨u14, g14⟩ := hsp.cell (o := k * 15 + 14) (by omega)
        replace hsp := Lib.hid hsp
        go_wp2
        go_roundw
        case rel => exact ⟨k + 1, by omega, by go_num, by repeat (first | (with_reducible exact hsp.out) | (with_reducible refine Spo.set ?_ _ _))⟩
        case measure => simp [intOf]; omega
      · obtain rfl : k = n := by omega
        have hgr := hsp.2
        replace hsp := Lib.hid hsp
        replace hgr := Lib.hid hgr
        go_wp2
        exact bodyPost_end (v := .tuple #[]) (by simp [results, Try.results14, go_sem]) rfl ⟨rfl, hgr.out⟩
end Go.Proofs.Ytkmofpnefjgnkaa
