/-
  XGl: XLisH XLisI.
-/
import Derived.Test.YtfcphagmjijmkaaGreatDoorDd13
namespace Go.Proofs.YtfcphagmjijmkaaGreatDoor
open Go.RowKit
set_option linter.unusedVariables false
set_option linter.unusedSimpArgs false
attribute [local go_sem] vwp vUpon_value vUpon_skip vUpon_enter vUpon_row
set_option maxHeartbeats 16000000
section
def opn (o : Int) (s : St) : Int := if s.kind = 4 then o + 1 else if s.kind = 5 then o - 1 else o
def chkGo : Int → List St → Int
 | o, [] => if o > 0 then 130 else 0
 | o, s :: xs => if errS s ≠ 0 then errS s else if opn o s < 0 then 130 else chkGo (opn o s) xs
def chkL (xs : List St) : Int := if xs.length > 16384 then 4 else chkGo 0 xs
def SMem (w : World) (b p : Nat) (s : St) : Prop :=
 w.cell? ⟨b, p, none⟩ = some (.int .u8 s.kind) ∧ w.cell? ⟨b, p + 1, none⟩ = some (.int .i64 s.rect.x) ∧ w.cell? ⟨b, p + 2, none⟩ = some (.int .i64 s.rect.y) ∧ w.cell? ⟨b, p + 3, none⟩ = some (.int .i64 s.rect.wd) ∧ w.cell? ⟨b, p + 4, none⟩ = some (.int .i64 s.rect.ht) ∧
 w.cell? ⟨b, p + 5, none⟩ = some (.int .u8 s.col.r) ∧ w.cell? ⟨b, p + 6, none⟩ = some (.int .u8 s.col.g) ∧ w.cell? ⟨b, p + 7, none⟩ = some (.int .u8 s.col.b) ∧ w.cell? ⟨b, p + 8, none⟩ = some (.int .u8 s.col.a) ∧
 w.cell? ⟨b, p + 9, none⟩ = some (.int .u8 s.back.r) ∧ w.cell? ⟨b, p + 10, none⟩ = some (.int .u8 s.back.g) ∧ w.cell? ⟨b, p + 11, none⟩ = some (.int .u8 s.back.b) ∧ w.cell? ⟨b, p + 12, none⟩ = some (.int .u8 s.back.a) ∧
 w.cell? ⟨b, p + 13, none⟩ = some (.string s.text) ∧ w.cell? ⟨b, p + 14, none⟩ = some (.int .i64 s.node)
theorem smem_of {w : World} {b p : Nat} {s : St} (h : ∀ i u, s.enc[i]? = some u → w.cell? ⟨b, p + i, none⟩ = some u) : SMem w b p s :=
 ⟨h 0 _ rfl, h 1 _ rfl, h 2 _ rfl, h 3 _ rfl, h 4 _ rfl, h 5 _ rfl, h 6 _ rfl, h 7 _ rfl, h 8 _ rfl, h 9 _ rfl, h 10 _ rfl, h 11 _ rfl, h 12 _ rfl, h 13 _ rfl, h 14 _ rfl⟩
theorem row_st {B : Nat} {w : World} {v : Value} {xs : List St} (h : Row B 15 St.enc w v xs) (h0 : 0 < xs.length) :
  ∃ b o cap, v = .slice (some ⟨b, o, none⟩) xs.length cap ∧ b < B ∧ xs.length ≤ cap ∧ cap ≤ maxLen ∧ ∀ j s, xs[j]? = some s → SMem w b (o + j * 15) s := by
 obtain ⟨b, o, cap, e, hb, h1, h2, hx⟩ := h.open_ h0; exact ⟨b, o, cap, e, hb, h1, h2, fun j s hj => smem_of fun i u hi => hx j s hj i u hi⟩
theorem go_step {o : Int} {xs : List St} {k : Nat} {s : St} (hs : xs[k]? = some s) : chkGo o (xs.drop k) = if errS s ≠ 0 then errS s else if opn o s < 0 then 130 else chkGo (opn o s) (xs.drop (k + 1)) := by
 obtain ⟨hk, e⟩ := List.getElem?_eq_some_iff.1 hs; rw [List.drop_eq_getElem_cons hk, e]
 rfl
theorem rcheck_any (xs : List St) (v : Value) (w : World) (hl : Row w.heap.size 15 St.enc w v xs) (hw : ∀ s ∈ xs, s.Wf) : Calls Tryz.prog 12 #[v] w fun e w' => e = .returned (.int .i64 (chkL xs)) ∧ Below w.heap.size w w' := by
 obtain ⟨s0, cap, rfl, hmax⟩ := hl.shape
 have hopen := fun h0 => row_st hl h0
 obtain ⟨n, hn⟩ := exx (xs.length); rw [hn] at hopen hmax ⊢; unfold maxLen at hmax; clear hl
 by_cases c1 : (16384 : Int) < n
 ·have e : chkL xs = 4 := by unfold chkL; rw [if_pos (by omega)]
  rw [e]; clear e; replace hopen := hdh hopen
  go_enter Tryz.func12, Tryz.ntmps12
  go_wp2; go_ret; exact ⟨rfl, belt⟩
 have e : chkL xs = chkGo 0 xs := by unfold chkL; rw [if_neg (by omega)]
 rw [e]; clear e; obtain ⟨res, hres⟩ := exx (chkGo 0 xs); rw [hres]
 have hn16 : n ≤ 16384 := by omega
 replace hopen := hdh hopen; replace hw := hdh hw; replace hn := hdh hn
 go_enter Tryz.func12, Tryz.ntmps12
 go_wp2
 go_loopw [3, 4] (fun ov i wr => ∃ (k : Nat) (o : Int), k ≤ n ∧ i = .int .i64 k ∧ ov = .int .i64 o ∧ 0 ≤ o ∧ o ≤ k ∧ chkGo o (xs.drop k) = res ∧ Below w.heap.size w wr) (fun _ i _ => n - (intOf i).toNat)
 case atStart => exact ⟨0, 0, Nat.zero_le _, rfl, rfl, Int.le_refl _, Int.le_refl _, by simpa using hres, belt⟩
 case round =>
  obtain ⟨k, o, hk, rfl, rfl, o0, o1, hgo, hbr⟩ := hrel; clear hres; have zr := hbr.size; obtain ⟨hcr, hfr⟩ := bcell hbr
  by_cases hkn : k < n
  ·obtain ⟨b, p, cap', e, hb, _, _, hel⟩ := hopen.out (by omega)
   simp at e
   obtain ⟨rfl, rfl⟩ := e; obtain ⟨s, hs⟩ : ∃ s, xs[k]? = some s := ⟨xs[k]'(by have := hn.out; omega), List.getElem?_eq_getElem _⟩; obtain ⟨g0, g1, g2, g3, g4, g5, g6, g7, g8, g9, g10, g11, g12, g13, g14⟩ := hel k s hs
   have A := fun w => one_any s w (hw.out s (List.mem_of_getElem? hs))
   rw [go_step hs] at hgo
   have hkk : (k : Int) < n := by omega
   have yb : b < wr.heap.size := by omega
   clear hel hs
   by_cases hc : errS s = 0
   ·rw [hc] at A
    rw [if_neg (by simp [hc])] at hgo; clear hc
    by_cases q4 : s.kind = 4
    ·have ho : opn o s = o + 1 := by unfold opn; rw [if_pos q4]
     rw [ho, if_neg (by omega)] at hgo; clear ho; simp only [q4] at A; replace A := hdh A; replace hgo := hdh hgo
     go_wp2_with (first
      | (go_at_call 46; (with_reducible refine cmm (A.out _) fun w1 hb1 => ?_); obtain ⟨hc1, hf1, hz1⟩ := bzz hb1; (try simp at hz1); (try have lt1 : w.heap.size < w1.heap.size := (by omega)))
      | go_in)
     go_roundw
     case rel => exact ⟨k + 1, o + 1, by omega, by go_num, rfl, by omega, by omega, hgo.out, (hbr.trans (hb1.mono zr))⟩
     case measure => simp [intOf]; omega
    ·by_cases q5 : s.kind = 5
     ·have ho : opn o s = o - 1 := by unfold opn; rw [if_neg q4, if_pos q5]
      rw [ho] at hgo; clear ho; simp only [q5] at A; replace A := hdh A
      by_cases oz : o - 1 < 0
      ·rw [if_pos oz] at hgo
       subst hgo
       go_wp2_with (first
        | (go_at_call 46; (with_reducible refine cmm (A.out _) fun w1 hb1 => ?_); obtain ⟨hc1, hf1, hz1⟩ := bzz hb1; (try simp at hz1); (try have lt1 : w.heap.size < w1.heap.size := (by omega)))
        | go_in)
       go_ret; exact ⟨rfl, (hbr.trans (hb1.mono zr))⟩
      ·rw [if_neg oz] at hgo
       replace hgo := hdh hgo
       go_wp2_with (first
        | (go_at_call 46; (with_reducible refine cmm (A.out _) fun w1 hb1 => ?_); obtain ⟨hc1, hf1, hz1⟩ := bzz hb1; (try simp at hz1); (try have lt1 : w.heap.size < w1.heap.size := (by omega)))
        | go_in)
       go_roundw
       case rel => exact ⟨k + 1, o - 1, by omega, by go_num, rfl, by omega, by omega, hgo.out, (hbr.trans (hb1.mono zr))⟩
       case measure => simp [intOf]; omega
     ·have ho : opn o s = o := by unfold opn; rw [if_neg q4, if_neg q5]
      rw [ho, if_neg (by omega)] at hgo; clear ho; replace A := hdh A; replace hgo := hdh hgo
      go_wp2_with (first
       | (go_at_call 46; (with_reducible refine cmm (A.out _) fun w1 hb1 => ?_); obtain ⟨hc1, hf1, hz1⟩ := bzz hb1; (try simp at hz1); (try have lt1 : w.heap.size < w1.heap.size := (by omega)))
       | go_in)
      go_roundw
      case rel => exact ⟨k + 1, o, by omega, by go_num, rfl, by omega, by omega, hgo.out, (hbr.trans (hb1.mono zr))⟩
      case measure => simp [intOf]; omega
   ·rw [if_pos hc] at hgo
    have hcb : (errS s == 0) = false := by simp [hc]
    subst hgo; replace A := hdh A
    go_wp2_with (first
     | (go_at_call 46; (with_reducible refine cmm (A.out _) fun w1 hb1 => ?_); obtain ⟨hc1, hf1, hz1⟩ := bzz hb1; (try simp at hz1); (try have lt1 : w.heap.size < w1.heap.size := (by omega)))
     | go_in)
    go_ret; exact ⟨rfl, (hbr.trans (hb1.mono zr))⟩
  ·obtain rfl : k = n := by omega
   have hd : xs.drop k = [] := List.drop_eq_nil_of_le (by have := hn.out; omega); rw [hd] at hgo; simp only [chkGo] at hgo; clear hd
   by_cases oz : o > 0
   ·rw [if_pos oz] at hgo
    subst hgo; go_wp2; go_ret; exact ⟨rfl, hbr⟩
   ·rw [if_neg oz] at hgo
    subst hgo; go_wp2; go_ret; exact ⟨rfl, hbr⟩
end
section
theorem lcheck_any (xs : List St) (v : Value) (w : World) (hl : Row w.heap.size 15 St.enc w v xs) (hw : ∀ s ∈ xs, s.Wf) : Calls Tryz.prog 38 #[v] w fun e w' => e = .returned (.int .i64 (chkL xs)) ∧ Below w.heap.size w w' := by
 obtain ⟨s0, cap, rfl, hmax⟩ := hl.shape
 have hopen := fun h0 => row_st hl h0
 obtain ⟨n, hn⟩ := exx (xs.length); rw [hn] at hopen hmax ⊢; unfold maxLen at hmax; clear hl
 by_cases c1 : (16384 : Int) < n
 ·have e : chkL xs = 4 := by unfold chkL; rw [if_pos (by omega)]
  rw [e]; clear e; replace hopen := hdh hopen
  go_enter Tryz.func38, Tryz.ntmps38
  go_wp2; go_ret; exact ⟨rfl, belt⟩
 have e : chkL xs = chkGo 0 xs := by unfold chkL; rw [if_neg (by omega)]
 rw [e]; clear e; obtain ⟨res, hres⟩ := exx (chkGo 0 xs); rw [hres]
 have hn16 : n ≤ 16384 := by omega
 replace hopen := hdh hopen; replace hw := hdh hw; replace hn := hdh hn
 go_enter Tryz.func38, Tryz.ntmps38
 go_wp2
 go_loopw [3, 12] (fun ov i wr => ∃ (k : Nat) (o : Int), k ≤ n ∧ i = .int .i64 k ∧ ov = .int .i64 o ∧ 0 ≤ o ∧ o ≤ k ∧ chkGo o (xs.drop k) = res ∧ Below w.heap.size w wr) (fun _ i _ => n - (intOf i).toNat)
 case atStart => exact ⟨0, 0, Nat.zero_le _, rfl, rfl, Int.le_refl _, Int.le_refl _, by simpa using hres, belt⟩
 case round =>
  obtain ⟨k, o, hk, rfl, rfl, o0, o1, hgo, hbr⟩ := hrel; clear hres; have zr := hbr.size; obtain ⟨hcr, hfr⟩ := bcell hbr
  by_cases hkn : k < n
  ·obtain ⟨b, p, cap', e, hb, _, _, hel⟩ := hopen.out (by omega)
   simp at e
   obtain ⟨rfl, rfl⟩ := e; obtain ⟨s, hs⟩ : ∃ s, xs[k]? = some s := ⟨xs[k]'(by have := hn.out; omega), List.getElem?_eq_getElem _⟩; obtain ⟨g0, g1, g2, g3, g4, g5, g6, g7, g8, g9, g10, g11, g12, g13, g14⟩ := hel k s hs
   have A := fun w => lmay_any s w (hw.out s (List.mem_of_getElem? hs))
   rw [go_step hs] at hgo
   have hkk : (k : Int) < n := by omega
   have yb : b < wr.heap.size := by omega
   clear hel hs
   by_cases hc : errS s = 0
   ·rw [hc] at A
    rw [if_neg (by simp [hc])] at hgo; clear hc
    by_cases q4 : s.kind = 4
    ·have ho : opn o s = o + 1 := by unfold opn; rw [if_pos q4]
     rw [ho, if_neg (by omega)] at hgo; clear ho; simp only [q4] at A; replace A := hdh A; replace hgo := hdh hgo
     go_wp2_with (first
      | (go_at_call 85; (with_reducible refine cmm (A.out _) fun w1 hb1 => ?_); obtain ⟨hc1, hf1, hz1⟩ := bzz hb1; (try simp at hz1); (try have lt1 : w.heap.size < w1.heap.size := (by omega)))
      | go_in)
     go_roundw
     case rel => exact ⟨k + 1, o + 1, by omega, by go_num, rfl, by omega, by omega, hgo.out, belt⟩
     case measure => simp [intOf]; omega
    ·by_cases q5 : s.kind = 5
     ·have ho : opn o s = o - 1 := by unfold opn; rw [if_neg q4, if_pos q5]
      rw [ho] at hgo; clear ho; simp only [q5] at A; replace A := hdh A
      by_cases oz : o - 1 < 0
      ·rw [if_pos oz] at hgo
       subst hgo
       go_wp2_with (first
        | (go_at_call 85; (with_reducible refine cmm (A.out _) fun w1 hb1 => ?_); obtain ⟨hc1, hf1, hz1⟩ := bzz hb1; (try simp at hz1); (try have lt1 : w.heap.size < w1.heap.size := (by omega)))
        | go_in)
       go_ret; exact ⟨rfl, belt⟩
      ·rw [if_neg oz] at hgo
       replace hgo := hdh hgo
       go_wp2_with (first
        | (go_at_call 85; (with_reducible refine cmm (A.out _) fun w1 hb1 => ?_); obtain ⟨hc1, hf1, hz1⟩ := bzz hb1; (try simp at hz1); (try have lt1 : w.heap.size < w1.heap.size := (by omega)))
        | go_in)
       go_roundw
       case rel => exact ⟨k + 1, o - 1, by omega, by go_num, rfl, by omega, by omega, hgo.out, belt⟩
       case measure => simp [intOf]; omega
     ·have ho : opn o s = o := by unfold opn; rw [if_neg q4, if_neg q5]
      rw [ho, if_neg (by omega)] at hgo; clear ho; replace A := hdh A; replace hgo := hdh hgo
      go_wp2_with (first
       | (go_at_call 85; (with_reducible refine cmm (A.out _) fun w1 hb1 => ?_); obtain ⟨hc1, hf1, hz1⟩ := bzz hb1; (try simp at hz1); (try have lt1 : w.heap.size < w1.heap.size := (by omega)))
       | go_in)
      go_roundw
      case rel => exact ⟨k + 1, o, by omega, by go_num, rfl, by omega, by omega, hgo.out, belt⟩
      case measure => simp [intOf]; omega
   ·rw [if_pos hc] at hgo
    have hcb : (errS s == 0) = false := by simp [hc]
    subst hgo; replace A := hdh A
    go_wp2_with (first
     | (go_at_call 85; (with_reducible refine cmm (A.out _) fun w1 hb1 => ?_); obtain ⟨hc1, hf1, hz1⟩ := bzz hb1; (try simp at hz1); (try have lt1 : w.heap.size < w1.heap.size := (by omega)))
     | go_in)
    go_ret; exact ⟨rfl, belt⟩
  ·obtain rfl : k = n := by omega
   have hd : xs.drop k = [] := List.drop_eq_nil_of_le (by have := hn.out; omega); rw [hd] at hgo; simp only [chkGo] at hgo; clear hd
   by_cases oz : o > 0
   ·rw [if_pos oz] at hgo
    subst hgo; go_wp2; go_ret; exact ⟨rfl, hbr⟩
   ·rw [if_neg oz] at hgo
    subst hgo; go_wp2; go_ret; exact ⟨rfl, hbr⟩
end
end Go.Proofs.YtfcphagmjijmkaaGreatDoor
