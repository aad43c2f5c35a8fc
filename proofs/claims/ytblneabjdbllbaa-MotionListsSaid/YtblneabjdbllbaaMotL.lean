/-
  'counted': the motions that count, by their nodes.
-/
import Derived.Test.YtblneabjdbllbaaMotS
namespace Go.Proofs.Ytblneabjdbllbaa
open Go.RowKit
set_option linter.unusedVariables false
attribute [local go_sem] vwp vUpon_value vUpon_skip vUpon_enter vUpon_row
open Go.Maps
theorem own_below {H : Type} {P : Program} {k : TypeId} {R : Value → Option (DataW H × List MemPlace)} {b n B : Nat} {D : DataW H} {w w' : World} (h : w.ownsMap P k R b n D) (hb : Below B w w') (hl : b < B) : w'.ownsMap P k R b n D := by
  obtain ⟨es, clock, hh, r⟩ := h
  exact ⟨es, clock, (hb.block b hl).trans hh, r⟩
set_option maxHeartbeats 1000000 in
theorem counted_any (ms : List Mo) (v : Value) (t : Int) (w : World) (hl : Lst w v ms) (hw : ∀ m ∈ ms, Wf m) (ht : I64 t) : Calls Try.prog 32 #[v, .int .i64 t] w fun e w' => Below w.heap.size w w' ∧
    ((cntE ms t ≠ 0 ∧ e = .returned (.tuple #[.map none, .int .i64 (cntE ms t)])) ∨ (cntE ms t = 0 ∧ ∃ B, w.heap.size ≤ B ∧ e = .returned (.tuple #[.map (some B), .int .i64 0]) ∧ w'.ownsMap Try.prog 3 Rm B ms.length (Cm ms))) := by
  obtain ⟨t0, t1⟩ := ht
  obtain ⟨n, hn⟩ : ∃ n, ms.length = n := ⟨_, rfl⟩
  have hv : ∃ s cap, v = .slice s n cap ∧ n ≤ maxLen := by
    rcases hl with ⟨rfl, rfl⟩ | ⟨a, cap, rfl, _, h, _⟩
    · exact ⟨none, 0, by simp at hn; subst hn; rfl, by simp at hn; subst hn; exact Nat.zero_le _⟩
    · exact ⟨some a, cap, by rw [hn], by omega⟩
  obtain ⟨s, cap, rfl, hmax⟩ := hv
  by_cases c1 : (4096 : Int) < n
  · have e : cntE ms t = 4 := by unfold cntE; rw [if_pos (by omega)]
    rw [e]; clear e
    go_enter Try.func32, Try.ntmps32
    go_wp2
    go_ret2
    exact ⟨(by repeat (first | exact Below.refl _ _ | assumption | refine Below.drew ?_ | refine Below.alloc ?_ (by (try simp) <;> omega) _ | refine Below.setCell ?_ (by (try simp) <;> omega) _)), .inl ⟨by decide, rfl⟩⟩
  have hmm := @run_makeMap Try.prog
  have hsl := hl
  replace hsl := Lib.hid hsl
  go_enter Try.func32, Try.ntmps32
  go_wp2
  go_loopw [16] (fun i wr => ∃ k : Nat, k ≤ n ∧ i = .int .i64 k ∧ (∀ j x, j < k → ms[j]? = some x → chk x = 0) ∧ Below w.heap.size w wr ∧ w.heap.size < wr.heap.size ∧ wr.ownsMap Try.prog 3 Rm w.heap.size k (Cm (ms.take k))) (fun i _ => n - (intOf i).toNat)
  case atStart => exact ⟨0, Nat.zero_le _, rfl, fun _ _ h => absurd h (Nat.not_lt_zero _), (by repeat (first | exact Below.refl _ _ | assumption | refine Below.drew ?_ | refine Below.alloc ?_ (by (try simp) <;> omega) _ | refine Below.setCell ?_ (by (try simp) <;> omega) _)), (by simp), World.ownsMap_made _ _ _ _⟩
  case round =>
    obtain ⟨k, hk, rfl, hpre, hbe, hsz, hown⟩ := hrel
    by_cases hlt : k < n
    · obtain ⟨m, hm⟩ : ∃ m, ms[k]? = some m := ⟨ms[k], by simp [hn, hlt]⟩
      have hlst := hsl.out
      rcases hlst with ⟨e, h0⟩ | ⟨a, cap', e, hab, _, hel⟩
      · exfalso; subst h0; simp at hn; omega
      simp at e
      obtain ⟨rfl, -, -⟩ := e
      have hM := (hel k m hm).below hbe (by rw [add_block]; exact hab (by omega))
      obtain ⟨b, o, r, hp⟩ : ∃ b o r, a.add (k * 8) = ⟨b, o, r⟩ := ⟨_, _, _, rfl⟩
      rw [hp] at hM
      obtain ⟨h0, h1, h2, h3, h4, h5, h6, h7⟩ := hM
      simp only [Addr.add, if_neg (show ¬ (1:Nat) = 0 by decide), if_neg (show ¬ (2:Nat) = 0 by decide), if_neg (show ¬ (3:Nat) = 0 by decide), if_neg (show ¬ (4:Nat) = 0 by decide), if_neg (show ¬ (5:Nat) = 0 by decide), if_neg (show ¬ (6:Nat) = 0 by decide), if_neg (show ¬ (7:Nat) = 0 by decide)] at h1 h2 h3 h4 h5 h6 h7
      have hkk : ((k : Int) < n) := by omega
      have CK := fun w => check_any m w (hw m (List.mem_of_getElem? hm))
      replace CK := Lib.hid CK
      have hwf := hw m (List.mem_of_getElem? hm)
      have KW := hwf.node.1
      have KW1 := hwf.node.2
      have hkey : keyOf Try.prog 3 (.int .i64 m.node) = some (kOf m.node) := keyOf_int_mk Try.underlying3 (WalkArith.wf_i64 (by omega))
      have hbad := fun hc => bad_at hm hpre hc
      clear hel hsl hl hw
      replace hpre := Lib.hid hpre
      by_cases hc : chk m = 0
      · rw [hc] at CK
        go_wp2_with (first
          | (go_at_call 14; (with_reducible refine (CK.out _).mono ?_); rintro e w1 ⟨rfl, hb1⟩; obtain ⟨hc1, hf1⟩ := bcell hb1; have hz1 := hb1.size; (try simp at hz1); (try have lt1 : w.heap.size < w1.heap.size := (by omega)))
          | (at_mapUpdate; refine wpList_mapUpdate_own _ rfl _ _ _ 55 rfl 3 23 lawK Try.underlying55 _ w.heap.size k _ rfl (own_below hown (show Below wr.heap.size wr _ from (by repeat (first | exact Below.refl _ _ | assumption | refine Below.drew ?_ | refine Below.alloc ?_ (by (try simp) <;> omega) _ | refine Below.setCell ?_ (by (try simp) <;> omega) _ | (refine Below.trans ?_ (Below.mono (by assumption) (by (try simp) <;> omega)))))) hsz) (by unfold maxLen; omega) _ _ _ rfl rfl hkey _ [] (Rm_mk m) ?_)
          | go_in)
        intro w2 hown2 hg2
        go_wp2
        go_roundw
        case rel =>
          refine ⟨k + 1, by omega, by go_num, ?_, ?_, ?_, ?_⟩
          · intro j x hj hx
            rcases Nat.lt_succ_iff_lt_or_eq.1 hj with hj | rfl
            · exact hpre.out j x hj hx
            · rw [hm] at hx; obtain rfl := Option.some.inj hx; exact hc
          · exact (hbe.trans (Below.mono (show Below wr.heap.size wr _ from (by repeat (first | exact Below.refl _ _ | assumption | refine Below.drew ?_ | refine Below.alloc ?_ (by (try simp) <;> omega) _ | refine Below.setCell ?_ (by (try simp) <;> omega) _ | (refine Below.trans ?_ (Below.mono (by assumption) (by (try simp) <;> omega)))))) (Nat.le_of_lt hsz))).grown hg2 (by omega) (by simp)
          · exact Nat.lt_of_lt_of_le (by omega) hg2.size
          · rw [Cm_snoc ms k m hm]; exact hown2
        case measure => simp [intOf]; omega
      · have hcb : (chk m == 0) = false := by simp [hc]
        have hce : cntE ms t = chk m := by unfold cntE; rw [if_neg (by omega), hbad hc, if_pos hc]
        have hbe' := hbe
        go_wp2_with (first
          | (go_at_call 14; (with_reducible refine (CK.out _).mono ?_); rintro e w1 ⟨rfl, hb1⟩; obtain ⟨hc1, hf1⟩ := bcell hb1; have hz1 := hb1.size; (try simp at hz1); (try have lt1 : w.heap.size < w1.heap.size := (by omega)))
          | go_in)
        refine bodyPost_ret (v := .tuple #[.map none, .int .i64 (chk m)]) (by simp [results, Try.results32, go_sem]) rfl ⟨?_, .inl ⟨by rw [hce]; exact hc, by rw [hce]⟩⟩
        exact (hbe.trans (Below.mono (show Below wr.heap.size wr _ from (by repeat (first | exact Below.refl _ _ | assumption | refine Below.drew ?_ | refine Below.alloc ?_ (by (try simp) <;> omega) _ | refine Below.setCell ?_ (by (try simp) <;> omega) _ | (refine Below.trans ?_ (Below.mono (by assumption) (by (try simp) <;> omega)))))) (Nat.le_of_lt hsz)))
    · obtain rfl : k = n := by omega
      have htk : ms.take k = ms := List.take_of_length_le (by omega)
      rw [htk] at hown
      have hb0 : bad ms = 0 := bad_none fun m hm => by
        obtain ⟨j, hj, e⟩ := List.mem_iff_getElem.1 hm
        exact hpre j m (by omega) (by rw [List.getElem?_eq_getElem hj, e])
      have L := fun w => late_any t w
      clear hpre hl hsl hw
      by_cases hlt : t < 0 ∨ 1048576 < t
      · have hce : cntE ms t = 230 := by unfold cntE; rw [if_neg (by omega), hb0, if_neg (by simp), if_pos hlt]
        have hlb : lateB t = true := by unfold lateB; simp; omega
        rw [hlb] at L
        replace L := Lib.hid L
        go_wp2_with (first
          | (go_at_call 25; (with_reducible refine (L.out _).mono ?_); rintro e w2 ⟨rfl, rfl⟩)
          | go_in)
        go_ret2
        exact ⟨hbe, .inl ⟨by rw [hce]; decide, by rw [hce]; rfl⟩⟩
      · have hce : cntE ms t = 0 := by unfold cntE; rw [if_neg (by omega), hb0, if_neg (by simp), if_neg hlt]
        have hlb : lateB t = false := by unfold lateB; simp; omega
        rw [hlb] at L
        replace L := Lib.hid L
        go_wp2_with (first
          | (go_at_call 25; (with_reducible refine (L.out _).mono ?_); rintro e w2 ⟨rfl, rfl⟩)
          | go_in)
        go_ret2
        exact ⟨hbe, .inr ⟨hce, w.heap.size, Nat.le_refl _, by rfl, by first | exact hown | (rw [hn]; exact hown)⟩⟩
end Go.Proofs.Ytblneabjdbllbaa
