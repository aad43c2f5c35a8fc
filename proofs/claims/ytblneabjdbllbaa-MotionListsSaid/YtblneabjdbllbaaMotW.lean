/-
  The document's lists of motions: what is asked; numbers in the place of motions (plain, and the first walk).
-/
import Derived.Test.YtblneabjdbllbaaMotV
import Derived.Laws.CopyOwn
namespace Go.Proofs.Ytblneabjdbllbaa
open Go.RowKit
set_option linter.unusedVariables false
attribute [local go_sem] vwp vUpon_value vUpon_skip vUpon_enter vUpon_row
set_option linter.unusedSimpArgs false
theorem insM_eq (m : Mo) : ∀ (l : List Mo) (a : Nat), (∀ j x, j < a → l[j]? = some x → x.node < m.node) → (∀ x, l[a]? = some x → m.node < x.node) → a ≤ l.length → insM m l = l.take a ++ m :: l.drop a
  | [], a, _, _, h => by
    obtain rfl : a = 0 := by simpa using h
    rfl
  | z :: l, 0, _, h2, _ => by
    have := h2 z rfl
    simp only [insM]
    rw [if_neg (by omega), if_neg (by omega)]; rfl
  | z :: l, a + 1, h1, h2, h3 => by
    have hz := h1 0 z (by omega) rfl
    simp only [insM]
    rw [if_pos hz, insM_eq m l a (fun j x hj hx => h1 (j + 1) x (by omega) (by simpa using hx)) (fun x hx => h2 x (by simpa using hx)) (by simpa using h3)]
    rfl
theorem insM_has (m : Mo) : ∀ (l : List Mo) (a : Nat) (x : Mo), (∀ j x, j < a → l[j]? = some x → x.node < m.node) → l[a]? = some x → x.node = m.node → insM m l = l
  | [], a, x, _, h, _ => by simp at h
  | z :: l, 0, x, _, h, e => by
    obtain rfl : z = x := by simpa using h
    simp only [insM]
    rw [if_neg (by omega), if_pos e]
  | z :: l, a + 1, x, h1, h, e => by
    have hz := h1 0 z (by omega) rfl
    simp only [insM]
    rw [if_pos hz, insM_has m l a x (fun j x hj hx => h1 (j + 1) x (by omega) (by simpa using hx)) (by simpa using h) e]
/-- 'ix' are the numbers of the motions 'l' in 'ms'. -/
def IsIx (ms : List Mo) (ix : List Nat) (l : List Mo) : Prop := ix.length = l.length ∧ ∀ (j : Nat) (m : Mo), l[j]? = some m → ∃ i : Nat, ix[j]? = some i ∧ ms[i]? = some m
theorem IsIx.ins {ms : List Mo} {ix : List Nat} {l : List Mo} (h : IsIx ms ix l) (k : Nat) (m : Mo) (hk : ms[k]? = some m) (a : Nat) (ha : a ≤ l.length) : IsIx ms (ix.take a ++ k :: ix.drop a) (l.take a ++ m :: l.drop a) := by
  obtain ⟨h1, h2⟩ := h
  refine ⟨by simp; omega, fun j x hj => ?_⟩
  rcases Nat.lt_trichotomy j a with h | rfl | h
  · rw [List.getElem?_append_left (by simp; omega), List.getElem?_take_of_lt h] at hj
    obtain ⟨i, e1, e2⟩ := h2 j x hj
    exact ⟨i, by rw [List.getElem?_append_left (by simp; omega), List.getElem?_take_of_lt h]; exact e1, e2⟩
  · rw [List.getElem?_append_right (by rw [List.length_take]; omega), List.length_take_of_le ha, Nat.sub_self] at hj
    obtain rfl : m = x := by simpa using hj
    exact ⟨k, by rw [List.getElem?_append_right (by rw [List.length_take]; omega), List.length_take_of_le (by omega), Nat.sub_self]; rfl, hk⟩
  · rw [List.getElem?_append_right (by simp; omega), List.length_take_of_le ha, show j - a = (j - a - 1) + 1 by omega, List.getElem?_cons_succ, List.getElem?_drop] at hj
    rw [show a + (j - a - 1) = j - 1 by omega] at hj
    obtain ⟨i, e1, e2⟩ := h2 (j - 1) x hj
    refine ⟨i, ?_, e2⟩
    rw [List.getElem?_append_right (by simp; omega), List.length_take_of_le (by omega), show j - a = (j - a - 1) + 1 by omega, List.getElem?_cons_succ, List.getElem?_drop, show a + (j - a - 1) = j - 1 by omega]
    exact e1
theorem lst_slice' {w : World} {v : Value} {ms : List Mo} (h : Lst w v ms) : ∃ s cap, v = .slice s ms.length cap ∧ ms.length ≤ maxLen := by
  rcases h with ⟨rfl, rfl⟩ | ⟨a, cap, rfl, _, h, _⟩
  · exact ⟨none, 0, rfl, Nat.zero_le _⟩
  · exact ⟨some a, cap, rfl, h⟩
theorem addr_none {w : World} {a : Addr} {v : Value} (h : w.cell? a = some v) : ∃ b o, a = ⟨b, o, none⟩ := by
  obtain ⟨b, o, r⟩ := a
  cases r with
  | none => exact ⟨b, o, rfl⟩
  | some r =>
    exfalso
    simp only [World.cell?] at h
    split at h <;> simp at h
theorem lst_open {w : World} {v : Value} {ms : List Mo} (h : Lst w v ms) (h0 : 0 < ms.length) : ∃ b o cap, v = .slice (some ⟨b, o, none⟩) ms.length cap ∧ b < w.heap.size ∧ ∀ j m, ms[j]? = some m → w.cell? ⟨b, o + j * 8, none⟩ = some (.int .i64 m.node) ∧ Mem w ⟨b, o + j * 8, none⟩ m := by
  rcases h with ⟨_, rfl⟩ | ⟨a, cap, rfl, hb, hl, hc⟩
  · simp at h0
  · have hm := hc 0 (ms[0]'h0) (List.getElem?_eq_getElem h0)
    have hm0 := hm.1
    rw [Nat.zero_mul, add_zero] at hm0
    obtain ⟨b, o, rfl⟩ := addr_none hm0
    refine ⟨b, o, cap, rfl, hb h0, fun j m hj => ?_⟩
    have e : (⟨b, o, none⟩ : Addr).add (j * 8) = ⟨b, o + j * 8, none⟩ := by unfold Addr.add; split <;> simp_all
    have := hc j m hj
    rw [e] at this
    exact ⟨this.1, this⟩
set_option maxHeartbeats 1000000 in
theorem asked_any (ms : List Mo) (v : Value) (t : Int) (w : World) (hl : Lst w v ms) (hw : ∀ m ∈ ms, Wf m) (ht : I64 t) : Calls Try.prog 35 #[v, .int .i64 t] w fun e w' => e = .returned (.int .i64 (cntE ms t)) ∧ Below w.heap.size w w' := by
  obtain ⟨t0, t1⟩ := ht
  obtain ⟨s, cap, rfl, hmax⟩ := lst_slice' hl
  obtain ⟨n, hn⟩ : ∃ n, ms.length = n := ⟨_, rfl⟩
  have hopen := fun h0 => lst_open hl h0
  rw [hn] at hopen hmax ⊢
  clear hl
  replace hopen := Lib.hid hopen
  by_cases c1 : (4096 : Int) < n
  · have e : cntE ms t = 4 := by unfold cntE; rw [if_pos (by omega)]
    rw [e]; clear e
    go_enter Try.func35, Try.ntmps35
    go_wp2
    go_ret
    exact ⟨rfl, (by repeat (first | exact Below.refl _ _ | assumption | refine Below.drew ?_ | refine Below.alloc ?_ (by (try simp) <;> omega) _ | refine Below.setCell ?_ (by (try simp) <;> omega) _))⟩
  have n4 : n ≤ 4096 := by omega
  obtain ⟨E, hEE⟩ : ∃ E, cntE ms t = E := ⟨_, rfl⟩
  rw [hEE]
  replace hEE := Lib.hid hEE
  replace hn := Lib.hid hn
  go_enter Try.func35, Try.ntmps35
  go_wp2
  go_loopw [5] (fun i wr => ∃ k : Nat, k ≤ n ∧ i = .int .i64 k ∧ (∀ j x, j < k → ms[j]? = some x → chk x = 0) ∧ Below w.heap.size w wr) (fun i _ => n - (intOf i).toNat)
  case atStart => exact ⟨0, Nat.zero_le _, rfl, fun _ _ h => absurd h (Nat.not_lt_zero _), (by repeat (first | exact Below.refl _ _ | assumption | refine Below.drew ?_ | refine Below.alloc ?_ (by (try simp) <;> omega) _ | refine Below.setCell ?_ (by (try simp) <;> omega) _))⟩
  case round =>
    obtain ⟨k, hk, rfl, hpre, hbr⟩ := hrel
    have zr := hbr.size
    by_cases hkn : k < n
    · obtain ⟨b, o, cap', e, hb, hel⟩ := hopen.out (by omega)
      simp at e
      obtain ⟨rfl, rfl⟩ := e
      obtain ⟨m, hm⟩ : ∃ m, ms[k]? = some m := ⟨ms[k]'(by have := hn.out; omega), List.getElem?_eq_getElem _⟩
      have hM := ((hel k m hm).2).below hbr hb
      obtain ⟨h0, h1, h2, h3, h4, h5, h6, h7⟩ := hM
      simp only [Addr.add, if_neg (show ¬ (1:Nat) = 0 by decide), if_neg (show ¬ (2:Nat) = 0 by decide), if_neg (show ¬ (3:Nat) = 0 by decide), if_neg (show ¬ (4:Nat) = 0 by decide), if_neg (show ¬ (5:Nat) = 0 by decide), if_neg (show ¬ (6:Nat) = 0 by decide), if_neg (show ¬ (7:Nat) = 0 by decide)] at h1 h2 h3 h4 h5 h6 h7
      have hkk : (k : Int) < n := by omega
      have CK := fun w => rcheck_any m w (hw m (List.mem_of_getElem? hm))
      have hbad := fun hc => bad_at hm hpre hc
      replace hpre := Lib.hid hpre
      replace hbad := Lib.hid hbad
      clear hel
      by_cases hc : chk m = 0
      · rw [hc] at CK
        replace CK := Lib.hid CK
        go_wp2_with (go_at_call 15; (with_reducible refine (CK.out _).mono ?_); rintro e w1 ⟨rfl, hb1⟩; obtain ⟨hc1, hf1⟩ := bcell hb1; have hz1 := hb1.size; (try simp at hz1); (try have lt1 : w.heap.size < w1.heap.size := (by omega)))
        go_roundw
        case rel =>
          refine ⟨k + 1, by omega, by go_num, fun j x hj hx => ?_, hbr.trans (hb1.mono zr)⟩
          rcases Nat.lt_succ_iff_lt_or_eq.1 hj with hj | rfl
          · exact hpre.out j x hj hx
          · rw [hm] at hx; obtain rfl := Option.some.inj hx; exact hc
        case measure => simp [intOf]; omega
      · have hce : cntE ms t = chk m := by unfold cntE; rw [if_neg (by have := hn.out; omega), hbad.out hc, if_pos hc]
        obtain ⟨c, hcc⟩ : ∃ c, chk m = c := ⟨_, rfl⟩
        have hEc : E = c := by rw [← hEE.out, hce, hcc]
        replace hEc := Lib.hid hEc
        rw [hcc] at CK hc
        have hcb : (c != 0) = true := by simpa using hc
        replace CK := Lib.hid CK
        clear hce hcc
        go_wp2_with (go_at_call 15; (with_reducible refine (CK.out _).mono ?_); rintro e w1 ⟨rfl, hb1⟩; obtain ⟨hc1, hf1⟩ := bcell hb1; have hz1 := hb1.size; (try simp at hz1); (try have lt1 : w.heap.size < w1.heap.size := (by omega)))
        go_ret
        exact ⟨by rw [hEc.out]; rfl, hbr.trans (hb1.mono zr)⟩
    · obtain rfl : k = n := by omega
      have hb0 : bad ms = 0 := bad_none fun m hm => by
        obtain ⟨j, hj, e⟩ := List.mem_iff_getElem.1 hm
        exact hpre j m (by have := hn.out; omega) (by rw [List.getElem?_eq_getElem hj, e])
      have hE : cntE ms t = if t < 0 ∨ 1048576 < t then 230 else 0 := by unfold cntE; rw [if_neg (by have := hn.out; omega), hb0, if_neg (by simp)]
      rw [hEE.out] at hE
      clear hpre hb0
      by_cases h1 : t < 0
      · rw [if_pos (.inl h1)] at hE
        replace hE := Lib.hid hE
        go_wp2
        go_ret
        exact ⟨by rw [hE.out]; rfl, hbr⟩
      · by_cases h2 : 1048576 < t
        · rw [if_pos (.inr h2)] at hE
          replace hE := Lib.hid hE
          have h1' : 0 ≤ t := by omega
          go_wp2
          go_ret
          exact ⟨by rw [hE.out]; rfl, hbr⟩
        · rw [if_neg (by omega)] at hE
          replace hE := Lib.hid hE
          have h1' : 0 ≤ t := by omega
          have h2' : t ≤ 1048576 := by omega
          go_wp2
          go_ret
          exact ⟨by rw [hE.out]; rfl, hbr⟩
end Go.Proofs.Ytblneabjdbllbaa
