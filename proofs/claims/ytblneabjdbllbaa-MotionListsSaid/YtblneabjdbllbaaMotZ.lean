/-
  'Next' of the document's answer, walked.
-/
import Derived.Test.YtblneabjdbllbaaMotY
namespace Go.Proofs.Ytblneabjdbllbaa
open Go.RowKit
set_option linter.unusedVariables false
attribute [local go_sem] vwp vUpon_value vUpon_skip vUpon_enter vUpon_row
set_option linter.unusedSimpArgs false
def RNextPost (ms : List Mo) (t : Int) (w : World) (e : Ending) (w' : World) : Prop :=
  Below w.heap.size w w' ∧ ((cntE ms t ≠ 0 ∧ e = .returned (.tuple #[.int .i64 0, .bool false, .int .i64 (cntE ms t)])) ∨ (cntE ms t = 0 ∧ ∃ r, NextP (Counts ms) t r ∧ e = .returned (nextV r)))
def Upto (l : List Mo) (k : Nat) (m : Mo) : Prop := ∃ j, j < k ∧ l[j]? = some m
theorem upto_all (ms : List Mo) : Upto (srt ms) (srt ms).length = Counts ms := by
  funext m
  refine propext ⟨fun ⟨j, _, h⟩ => (srt_mem ms m).1 (List.mem_of_getElem? h), fun h => ?_⟩
  obtain ⟨j, hj, e⟩ := List.mem_iff_getElem.1 ((srt_mem ms m).2 h)
  exact ⟨j, hj, by rw [List.getElem?_eq_getElem hj, e]⟩
theorem upto_step {l : List Mo} {k : Nat} {c : Mo} (hc : l[k]? = some c) (m : Mo) : Upto l (k + 1) m ↔ Upto l k m ∨ m = c := by
  constructor
  · rintro ⟨j, hj, h⟩
    rcases Nat.lt_succ_iff_lt_or_eq.1 hj with hj | rfl
    · exact .inl ⟨j, hj, h⟩
    · rw [hc] at h; exact .inr (Option.some.inj h).symm
  · rintro (⟨j, hj, h⟩ | rfl)
    · exact ⟨j, by omega, h⟩
    · exact ⟨k, by omega, hc⟩
set_option maxHeartbeats 2000000 in
theorem rNext_any (ms : List Mo) (v : Value) (t : Int) (w : World) (hl : Lst w v ms) (hw : ∀ m ∈ ms, Wf m) (ht : I64 t) : Calls Try.prog 22 #[v, .int .i64 t] w (RNextPost ms t w) := by
  have AK := fun w hl => asked_any ms v t w hl hw ht
  replace AK := Lib.hid AK
  have hlh := Lib.hid hl
  clear hl
  obtain ⟨iI, hi0, hz0, hz1, hz2⟩ := info_parts infoI
  by_cases h0 : cntE ms t = 0
  · obtain ⟨hte, hok⟩ := cntE_zero hw h0
    obtain ⟨T0, T1⟩ := hte
    have hmany : ms.length ≤ 4096 := by
      unfold cntE at h0; split at h0
      · omega
      · omega
    rw [h0] at AK
    have hsl := srt_len ms
    obtain ⟨n, hn⟩ : ∃ n, (srt ms).length = n := ⟨_, rfl⟩
    replace hok := Lib.hid hok
    go_enter Try.func22, Try.ntmps22
    go_wp2_with (first
      | (go_at_call 35; (with_reducible refine (AK.out _ hlh.out).mono ?_); rintro e w1 ⟨rfl, hb1⟩; obtain ⟨hc1, hf1⟩ := bcell hb1; have hz1 := hb1.size; (try simp at hz1); (try have lt1 : w.heap.size < w1.heap.size := (by omega)))
      | (go_at_call 36; (with_reducible refine (counts_any ms v _ (hlh.out.below hb1) hmany).mono ?_); rintro e w2 ⟨hb2, ix, vo, rfl, hix, hown⟩)
      | go_in)
    have hl2 := (hlh.out.below hb1).below hb2
    obtain ⟨s, cap, rfl, hmax⟩ := lst_slice' hl2
    have hopen := fun h0 => lst_open hl2 h0
    have hixl : ix.length = n := by rw [hix.1, hn]
    have hn4 : n ≤ 4096 := by omega
    have hix2 := hix.2
    rw [hixl] at hown
    obtain ⟨s3, cap3, rfl⟩ := own_slice hown
    have hcells := fun h0 => own_open hown h0
    have hb02 : Below w.heap.size w w2 := hb1.trans (hb2.mono hb1.size)
    have hz02 := hb02.size
    replace hopen := Lib.hid hopen
    replace hcells := Lib.hid hcells
    replace hix2 := Lib.hid hix2
    replace hn := Lib.hid hn
    replace hixl := Lib.hid hixl
    clear hown hl2 hb1 hb2 hc1 hf1 hz1 hix
    go_loopw [9, 10] (fun nx i wr => ∃ (k : Nat) (r : Int), k ≤ n ∧ i = .int .i64 k ∧ nx = .int .i64 r ∧ 0 ≤ r ∧ r ≤ 1048577 ∧ NextP (Upto (srt ms) k) t r ∧ Below w2.heap.size w2 wr) (fun _ i _ => n - (intOf i).toNat)
    case atStart => exact ⟨0, 1048577, Nat.zero_le _, rfl, rfl, by decide, by decide, NextP.start t (fun m h => by obtain ⟨j, h, _⟩ := h; exact absurd h (Nat.not_lt_zero _)), Below.refl _ _⟩
    case round =>
      obtain ⟨k, r, hk, rfl, rfl, r0, r1, hP, hbr⟩ := hrel
      have zr := hbr.size
      obtain ⟨hcr, hfr⟩ := bcell hbr
      by_cases hkn : k < n
      · obtain ⟨g, cap', e, hg1, hg2, hg3, hg4, hcell⟩ := hcells.out (by omega)
        simp at e
        obtain ⟨rfl, rfl⟩ := e
        obtain ⟨c, hm⟩ : ∃ m, (srt ms)[k]? = some m := ⟨(srt ms)[k]'(by have := hn.out; omega), List.getElem?_eq_getElem _⟩
        have hmc := (srt_mem ms c).1 (List.mem_of_getElem? hm)
        obtain ⟨i, ei, ej⟩ := hix2.out k c hm
        have c1 := (hcell k (.int .i64 (i : Int)) (by simp [ei, vN])).1
        obtain ⟨b, o, cap', e, hb, hel⟩ := hopen.out (by have := (List.getElem?_eq_some_iff.1 ej).1; omega)
        simp at e
        obtain ⟨rfl, rfl⟩ := e
        have hin : i < ms.length := (List.getElem?_eq_some_iff.1 ej).1
        have hii : (i : Int) < ms.length := by omega
        obtain ⟨g0, g1, g2, g3, g4, g5, g6, g7⟩ := (hel i c ej).2
        simp only [Addr.add, if_neg (show ¬ (1:Nat) = 0 by decide), if_neg (show ¬ (2:Nat) = 0 by decide), if_neg (show ¬ (3:Nat) = 0 by decide), if_neg (show ¬ (4:Nat) = 0 by decide), if_neg (show ¬ (5:Nat) = 0 by decide), if_neg (show ¬ (6:Nat) = 0 by decide), if_neg (show ¬ (7:Nat) = 0 by decide)] at g1 g2 g3 g4 g5 g6 g7
        have okc := hok.out c hmc.mem
        have cst := okc.st
        have hst := hP.step c (upto_step hm)
        have OV := fun w => rover_any c (max t c.st) w okc (by omega) (by omega)
        have hkk : (k : Int) < n := by omega
        have yb : b < wr.heap.size := by omega
        have yg : g < wr.heap.size := by omega
        replace hel := Lib.hid hel
        clear hcell hm hmc ei ej hP okc
        obtain ⟨T, hT⟩ : ∃ T, max t c.st = T := ⟨_, rfl⟩
        have hT1 : (if t < c.st then c.st else t) = T := by split <;> omega
        have hT2 : (if c.st < t then t else c.st) = T := by split <;> omega
        rw [hT] at OV hst
        have hTb : 0 ≤ T ∧ T ≤ 1048576 := by omega
        obtain ⟨b0, b1⟩ := hTb
        obtain ⟨R, hR⟩ : ∃ R, min r (T + 1) = R := ⟨_, rfl⟩
        have hR1 : (if r < T + 1 then r else T + 1) = R := by split <;> omega
        have hR2 : (if T + 1 < r then T + 1 else r) = R := by split <;> omega
        have hRb : 0 ≤ R ∧ R ≤ 1048577 := by omega
        rw [hR] at hst
        cases ho : overB c T
        · rw [ho] at OV hst
          simp only [Bool.false_eq_true, if_false] at hst
          replace OV := Lib.hid OV
          replace hst := Lib.hid hst
          replace hRb := Lib.hid hRb
          go_wp2_with (first
            | (go_at_call 27; (with_reducible refine (OV.out _).mono ?_); rintro e w3 ⟨rfl, hb3⟩; obtain ⟨hc3, hf3⟩ := bcell hb3; have hz3 := hb3.size; (try simp at hz3); (try have lt3 : w.heap.size < w3.heap.size := (by omega)))
            | go_in)
          go_roundw
          case rel => exact ⟨k + 1, R, by omega, by go_num, rfl, hRb.out.1, hRb.out.2, hst.out, (by repeat (first | exact Below.refl _ _ | assumption | refine Below.drew ?_ | refine Below.alloc ?_ (by (try simp) <;> omega) _ | refine Below.setCell ?_ (by (try simp) <;> omega) _ | (refine Below.trans ?_ (Below.mono (by assumption) (by (try simp) <;> omega)))))⟩
          case measure => simp [intOf]; omega
        · rw [ho] at OV hst
          simp only [if_true] at hst
          replace OV := Lib.hid OV
          replace hst := Lib.hid hst
          go_wp2_with (first
            | (go_at_call 27; (with_reducible refine (OV.out _).mono ?_); rintro e w3 ⟨rfl, hb3⟩; obtain ⟨hc3, hf3⟩ := bcell hb3; have hz3 := hb3.size; (try simp at hz3); (try have lt3 : w.heap.size < w3.heap.size := (by omega)))
            | go_in)
          go_roundw
          case rel => exact ⟨k + 1, r, by omega, by go_num, rfl, r0, r1, hst.out, (by repeat (first | exact Below.refl _ _ | assumption | refine Below.drew ?_ | refine Below.alloc ?_ (by (try simp) <;> omega) _ | refine Below.setCell ?_ (by (try simp) <;> omega) _ | (refine Below.trans ?_ (Below.mono (by assumption) (by (try simp) <;> omega)))))⟩
          case measure => simp [intOf]; omega
      · obtain rfl : k = n := by omega
        have hP' : NextP (Counts ms) t r := by rw [← upto_all, hn.out]; exact hP
        clear hP
        by_cases hr : r = 1048577
        · subst hr
          go_wp2
          go_ret3
          exact ⟨hb02.trans (hbr.mono hz02), .inr ⟨h0, _, hP', rfl⟩⟩
        · have hr1 : r ≤ 1048576 := by omega
          go_wp2
          go_ret3
          exact ⟨hb02.trans (hbr.mono hz02), .inr ⟨h0, r, hP', by unfold nextV; rw [if_neg (by omega), decide_eq_true hr1]; rfl⟩⟩
  · have hnb : (cntE ms t == 0) = false := by simp [h0]
    have hnb2 : (cntE ms t != 0) = true := by simp [h0]
    obtain ⟨E, hE⟩ : ∃ E, cntE ms t = E := ⟨_, rfl⟩
    unfold RNextPost
    rw [hE] at AK h0 hnb hnb2 ⊢
    replace hE := Lib.hid hE
    go_enter Try.func22, Try.ntmps22
    go_wp2_with (first | (go_at_call 35; (with_reducible refine (AK.out _ hlh.out).mono ?_); rintro e w1 ⟨rfl, hb1⟩; obtain ⟨hc1, hf1⟩ := bcell hb1; have hz1 := hb1.size; (try simp at hz1); (try have lt1 : w.heap.size < w1.heap.size := (by omega))) | go_in)
    go_ret3
    exact ⟨hb1, .inl ⟨h0, rfl⟩⟩
end Go.Proofs.Ytblneabjdbllbaa
