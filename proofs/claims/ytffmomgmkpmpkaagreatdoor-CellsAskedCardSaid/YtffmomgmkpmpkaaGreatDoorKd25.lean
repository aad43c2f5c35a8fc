/-
  XGl: XLisH XLisI.
-/
import Derived.Laws.AppendOwnNone
import Derived.OneCell
import Derived.Shelf.SlSortCmp.WholeK
import Derived.Shelf.Slices.CompactI
import Derived.Shelf.Slices.In.SortNone
import Derived.Shelf.Sort.Plain
import Derived.Sort.OwnSortedInts
import Derived.Test.YtffmomgmkpmpkaaGreatDoorProg
import Derived.Test.YtffmomgmkpmpkaaGreatDoorKd22
import Derived.Test.YtffmomgmkpmpkaaGreatDoorKd24
namespace Go.Proofs.YtffmomgmkpmpkaaGreatDoor
open Go.RowKit
set_option linter.unusedVariables false
attribute [local go_sem] vwp vUpon_value vUpon_skip vUpon_enter vUpon_row
set_option linter.unusedSimpArgs false
set_option linter.unusedVariables false
section
set_option linter.unusedSimpArgs false
set_option linter.unusedVariables false
def opn (o : Int) (s : St) : Int := if s.kind = 4 then o + 1 else if s.kind = 5 then o - 1 else o
def chkGo : Int → List St → Int
  | o, [] => if o > 0 then 130 else 0
  | o, s :: xs => if errS s ≠ 0 then errS s else if opn o s < 0 then 130 else chkGo (opn o s) xs
def chkL (xs : List St) : Int := if xs.length > 16384 then 4 else chkGo 0 xs
def SMem (w : World) (b p : Nat) (s : St) : Prop :=
  w.cell? ⟨b, p, none⟩ = some (.int .u8 s.kind) ∧ w.cell? ⟨b, p + 1, none⟩ = some (.int .i64 s.rect.x) ∧ w.cell? ⟨b, p + 2, none⟩ = some (.int .i64 s.rect.y) ∧ w.cell? ⟨b, p + 3, none⟩ = some (.int .i64 s.rect.wd) ∧ w.cell? ⟨b, p + 4, none⟩ = some (.int .i64 s.rect.ht) ∧
  w.cell? ⟨b, p + 5, none⟩ = some (.int .u8 s.col.r) ∧ w.cell? ⟨b, p + 6, none⟩ = some (.int .u8 s.col.g) ∧ w.cell? ⟨b, p + 7, none⟩ = some (.int .u8 s.col.b) ∧ w.cell? ⟨b, p + 8, none⟩ = some (.int .u8 s.col.a) ∧
  w.cell? ⟨b, p + 9, none⟩ = some (.int .u8 s.back.r) ∧ w.cell? ⟨b, p + 10, none⟩ = some (.int .u8 s.back.g) ∧ w.cell? ⟨b, p + 11, none⟩ = some (.int .u8 s.back.b) ∧ w.cell? ⟨b, p + 12, none⟩ = some (.int .u8 s.back.a) ∧
  w.cell? ⟨b, p + 13, none⟩ = some (.string s.text) ∧ w.cell? ⟨b, p + 14, none⟩ = some (.int .i64 s.node)
theorem smem_of {w : World} {b p : Nat} {s : St} (h : ∀ i u, s.enc[i]? = some u → w.cell? ⟨b, p + i, none⟩ = some u) : SMem w b p s :=
  ⟨h 0 _ rfl, h 1 _ rfl, h 2 _ rfl, h 3 _ rfl, h 4 _ rfl, h 5 _ rfl, h 6 _ rfl, h 7 _ rfl, h 8 _ rfl, h 9 _ rfl, h 10 _ rfl, h 11 _ rfl, h 12 _ rfl, h 13 _ rfl, h 14 _ rfl⟩
theorem row_st {B : Nat} {w : World} {v : Value} {xs : List St} (h : Row B 15 St.enc w v xs) (h0 : 0 < xs.length) :
    ∃ b o cap, v = .slice (some ⟨b, o, none⟩) xs.length cap ∧ b < B ∧ xs.length ≤ cap ∧ cap ≤ maxLen ∧ ∀ j s, xs[j]? = some s → SMem w b (o + j * 15) s := by
  obtain ⟨b, o, cap, e, hb, h1, h2, hx⟩ := h.open_ h0
  exact ⟨b, o, cap, e, hb, h1, h2, fun j s hj => smem_of fun i u hi => hx j s hj i u hi⟩
theorem go_step {o : Int} {xs : List St} {k : Nat} {s : St} (hs : xs[k]? = some s) : chkGo o (xs.drop k) = if errS s ≠ 0 then errS s else if opn o s < 0 then 130 else chkGo (opn o s) (xs.drop (k + 1)) := by
  obtain ⟨hk, e⟩ := List.getElem?_eq_some_iff.1 hs
  rw [List.drop_eq_getElem_cons hk, e]
  rfl
set_option maxHeartbeats 2000000 in
theorem rcheck_any (xs : List St) (v : Value) (w : World) (hl : Row w.heap.size 15 St.enc w v xs) (hw : ∀ s ∈ xs, s.Wf) : Calls Tryz.prog 95 #[v] w fun e w' => e = .returned (.int .i64 (chkL xs)) ∧ Below w.heap.size w w' := by
 obtain ⟨s0, cap, rfl, hmax⟩ := hl.shape
 have hopen := fun h0 => row_st hl h0
 obtain ⟨n, hn⟩ : ∃ n, xs.length = n := ⟨_, rfl⟩
 rw [hn] at hopen hmax ⊢
 unfold maxLen at hmax
 clear hl
 by_cases c1 : (16384 : Int) < n
 ·have e : chkL xs = 4 := by unfold chkL; rw [if_pos (by omega)]
  rw [e]; clear e
  replace hopen := Lib.hid hopen
  go_enter Tryz.func95, Tryz.ntmps95
  go_wp2
  go_ret
  exact ⟨rfl, (by repeat (first | exact Below.refl _ _ | assumption | refine Below.drew ?_ | refine Below.alloc ?_ (by (try simp) <;> omega) _ | refine Below.setCell ?_ (by (try simp) <;> omega) _))⟩
 have e : chkL xs = chkGo 0 xs := by unfold chkL; rw [if_neg (by omega)]
 rw [e]; clear e
 obtain ⟨res, hres⟩ : ∃ r, chkGo 0 xs = r := ⟨_, rfl⟩
 rw [hres]
 have hn16 : n ≤ 16384 := by omega
 replace hopen := Lib.hid hopen
 replace hw := Lib.hid hw
 replace hn := Lib.hid hn
 go_enter Tryz.func95, Tryz.ntmps95
 go_wp2
 go_loopw [3, 4] (fun ov i wr => ∃ (k : Nat) (o : Int), k ≤ n ∧ i = .int .i64 k ∧ ov = .int .i64 o ∧ 0 ≤ o ∧ o ≤ k ∧ chkGo o (xs.drop k) = res ∧ Below w.heap.size w wr) (fun _ i _ => n - (intOf i).toNat)
 case atStart => exact ⟨0, 0, Nat.zero_le _, rfl, rfl, Int.le_refl _, Int.le_refl _, by simpa using hres, (by repeat (first | exact Below.refl _ _ | assumption | refine Below.drew ?_ | refine Below.alloc ?_ (by (try simp) <;> omega) _ | refine Below.setCell ?_ (by (try simp) <;> omega) _))⟩
 case round =>
  obtain ⟨k, o, hk, rfl, rfl, o0, o1, hgo, hbr⟩ := hrel
  clear hres
  have zr := hbr.size
  obtain ⟨hcr, hfr⟩ := bcell hbr
  by_cases hkn : k < n
  ·obtain ⟨b, p, cap', e, hb, _, _, hel⟩ := hopen.out (by omega)
   simp at e
   obtain ⟨rfl, rfl⟩ := e
   obtain ⟨s, hs⟩ : ∃ s, xs[k]? = some s := ⟨xs[k]'(by have := hn.out; omega), List.getElem?_eq_getElem _⟩
   obtain ⟨g0, g1, g2, g3, g4, g5, g6, g7, g8, g9, g10, g11, g12, g13, g14⟩ := hel k s hs
   have A := fun w => one_any s w (hw.out s (List.mem_of_getElem? hs))
   rw [go_step hs] at hgo
   have hkk : (k : Int) < n := by omega
   have yb : b < wr.heap.size := by omega
   clear hel hs
   by_cases hc : errS s = 0
   ·rw [hc] at A
    rw [if_neg (by simp [hc])] at hgo
    clear hc
    by_cases q4 : s.kind = 4
    ·have ho : opn o s = o + 1 := by unfold opn; rw [if_pos q4]
     rw [ho, if_neg (by omega)] at hgo
     clear ho
     simp only [q4] at A
     replace A := Lib.hid A
     replace hgo := Lib.hid hgo
     go_wp2_with (first
      | (go_at_call 133; (with_reducible refine (A.out _).mono ?_); rintro e w1 ⟨rfl, hb1⟩; obtain ⟨hc1, hf1⟩ := bcell hb1; have hz1 := hb1.size; (try simp at hz1); (try have lt1 : w.heap.size < w1.heap.size := (by omega)))
      | go_in)
     go_roundw
     case rel => exact ⟨k + 1, o + 1, by omega, by go_num, rfl, by omega, by omega, hgo.out, (hbr.trans (hb1.mono zr))⟩
     case measure => simp [intOf]; omega
    ·by_cases q5 : s.kind = 5
     ·have ho : opn o s = o - 1 := by unfold opn; rw [if_neg q4, if_pos q5]
      rw [ho] at hgo
      clear ho
      simp only [q5] at A
      replace A := Lib.hid A
      by_cases oz : o - 1 < 0
      ·rw [if_pos oz] at hgo
       subst hgo
       go_wp2_with (first
        | (go_at_call 133; (with_reducible refine (A.out _).mono ?_); rintro e w1 ⟨rfl, hb1⟩; obtain ⟨hc1, hf1⟩ := bcell hb1; have hz1 := hb1.size; (try simp at hz1); (try have lt1 : w.heap.size < w1.heap.size := (by omega)))
        | go_in)
       go_ret
       exact ⟨rfl, (hbr.trans (hb1.mono zr))⟩
      ·rw [if_neg oz] at hgo
       replace hgo := Lib.hid hgo
       go_wp2_with (first
        | (go_at_call 133; (with_reducible refine (A.out _).mono ?_); rintro e w1 ⟨rfl, hb1⟩; obtain ⟨hc1, hf1⟩ := bcell hb1; have hz1 := hb1.size; (try simp at hz1); (try have lt1 : w.heap.size < w1.heap.size := (by omega)))
        | go_in)
       go_roundw
       case rel => exact ⟨k + 1, o - 1, by omega, by go_num, rfl, by omega, by omega, hgo.out, (hbr.trans (hb1.mono zr))⟩
       case measure => simp [intOf]; omega
     ·have ho : opn o s = o := by unfold opn; rw [if_neg q4, if_neg q5]
      rw [ho, if_neg (by omega)] at hgo
      clear ho
      replace A := Lib.hid A
      replace hgo := Lib.hid hgo
      go_wp2_with (first
       | (go_at_call 133; (with_reducible refine (A.out _).mono ?_); rintro e w1 ⟨rfl, hb1⟩; obtain ⟨hc1, hf1⟩ := bcell hb1; have hz1 := hb1.size; (try simp at hz1); (try have lt1 : w.heap.size < w1.heap.size := (by omega)))
       | go_in)
      go_roundw
      case rel => exact ⟨k + 1, o, by omega, by go_num, rfl, by omega, by omega, hgo.out, (hbr.trans (hb1.mono zr))⟩
      case measure => simp [intOf]; omega
   ·rw [if_pos hc] at hgo
    have hcb : (errS s == 0) = false := by simp [hc]
    subst hgo
    replace A := Lib.hid A
    go_wp2_with (first
     | (go_at_call 133; (with_reducible refine (A.out _).mono ?_); rintro e w1 ⟨rfl, hb1⟩; obtain ⟨hc1, hf1⟩ := bcell hb1; have hz1 := hb1.size; (try simp at hz1); (try have lt1 : w.heap.size < w1.heap.size := (by omega)))
     | go_in)
    go_ret
    exact ⟨rfl, (hbr.trans (hb1.mono zr))⟩
  ·obtain rfl : k = n := by omega
   have hd : xs.drop k = [] := List.drop_eq_nil_of_le (by have := hn.out; omega)
   rw [hd] at hgo
   simp only [chkGo] at hgo
   clear hd
   by_cases oz : o > 0
   ·rw [if_pos oz] at hgo
    subst hgo
    go_wp2
    go_ret
    exact ⟨rfl, hbr⟩
   ·rw [if_neg oz] at hgo
    subst hgo
    go_wp2
    go_ret
    exact ⟨rfl, hbr⟩
end
section
set_option linter.unusedSimpArgs false
set_option linter.unusedVariables false
set_option maxHeartbeats 2000000 in
theorem lcheck_any (xs : List St) (v : Value) (w : World) (hl : Row w.heap.size 15 St.enc w v xs) (hw : ∀ s ∈ xs, s.Wf) : Calls Tryz.prog 73 #[v] w fun e w' => e = .returned (.int .i64 (chkL xs)) ∧ Below w.heap.size w w' := by
 obtain ⟨s0, cap, rfl, hmax⟩ := hl.shape
 have hopen := fun h0 => row_st hl h0
 obtain ⟨n, hn⟩ : ∃ n, xs.length = n := ⟨_, rfl⟩
 rw [hn] at hopen hmax ⊢
 unfold maxLen at hmax
 clear hl
 by_cases c1 : (16384 : Int) < n
 ·have e : chkL xs = 4 := by unfold chkL; rw [if_pos (by omega)]
  rw [e]; clear e
  replace hopen := Lib.hid hopen
  go_enter Tryz.func73, Tryz.ntmps73
  go_wp2
  go_ret
  exact ⟨rfl, (by repeat (first | exact Below.refl _ _ | assumption | refine Below.drew ?_ | refine Below.alloc ?_ (by (try simp) <;> omega) _ | refine Below.setCell ?_ (by (try simp) <;> omega) _))⟩
 have e : chkL xs = chkGo 0 xs := by unfold chkL; rw [if_neg (by omega)]
 rw [e]; clear e
 obtain ⟨res, hres⟩ : ∃ r, chkGo 0 xs = r := ⟨_, rfl⟩
 rw [hres]
 have hn16 : n ≤ 16384 := by omega
 replace hopen := Lib.hid hopen
 replace hw := Lib.hid hw
 replace hn := Lib.hid hn
 go_enter Tryz.func73, Tryz.ntmps73
 go_wp2
 go_loopw [3, 12] (fun ov i wr => ∃ (k : Nat) (o : Int), k ≤ n ∧ i = .int .i64 k ∧ ov = .int .i64 o ∧ 0 ≤ o ∧ o ≤ k ∧ chkGo o (xs.drop k) = res ∧ Below w.heap.size w wr) (fun _ i _ => n - (intOf i).toNat)
 case atStart => exact ⟨0, 0, Nat.zero_le _, rfl, rfl, Int.le_refl _, Int.le_refl _, by simpa using hres, (by repeat (first | exact Below.refl _ _ | assumption | refine Below.drew ?_ | refine Below.alloc ?_ (by (try simp) <;> omega) _ | refine Below.setCell ?_ (by (try simp) <;> omega) _))⟩
 case round =>
  obtain ⟨k, o, hk, rfl, rfl, o0, o1, hgo, hbr⟩ := hrel
  clear hres
  have zr := hbr.size
  obtain ⟨hcr, hfr⟩ := bcell hbr
  by_cases hkn : k < n
  ·obtain ⟨b, p, cap', e, hb, _, _, hel⟩ := hopen.out (by omega)
   simp at e
   obtain ⟨rfl, rfl⟩ := e
   obtain ⟨s, hs⟩ : ∃ s, xs[k]? = some s := ⟨xs[k]'(by have := hn.out; omega), List.getElem?_eq_getElem _⟩
   obtain ⟨g0, g1, g2, g3, g4, g5, g6, g7, g8, g9, g10, g11, g12, g13, g14⟩ := hel k s hs
   have A := fun w => lmay_any s w (hw.out s (List.mem_of_getElem? hs))
   rw [go_step hs] at hgo
   have hkk : (k : Int) < n := by omega
   have yb : b < wr.heap.size := by omega
   clear hel hs
   by_cases hc : errS s = 0
   ·rw [hc] at A
    rw [if_neg (by simp [hc])] at hgo
    clear hc
    by_cases q4 : s.kind = 4
    ·have ho : opn o s = o + 1 := by unfold opn; rw [if_pos q4]
     rw [ho, if_neg (by omega)] at hgo
     clear ho
     simp only [q4] at A
     replace A := Lib.hid A
     replace hgo := Lib.hid hgo
     go_wp2_with (first
      | (go_at_call 118; (with_reducible refine (A.out _).mono ?_); rintro e w1 ⟨rfl, hb1⟩; obtain ⟨hc1, hf1⟩ := bcell hb1; have hz1 := hb1.size; (try simp at hz1); (try have lt1 : w.heap.size < w1.heap.size := (by omega)))
      | go_in)
     go_roundw
     case rel => exact ⟨k + 1, o + 1, by omega, by go_num, rfl, by omega, by omega, hgo.out, belt⟩
     case measure => simp [intOf]; omega
    ·by_cases q5 : s.kind = 5
     ·have ho : opn o s = o - 1 := by unfold opn; rw [if_neg q4, if_pos q5]
      rw [ho] at hgo
      clear ho
      simp only [q5] at A
      replace A := Lib.hid A
      by_cases oz : o - 1 < 0
      ·rw [if_pos oz] at hgo
       subst hgo
       go_wp2_with (first
        | (go_at_call 118; (with_reducible refine (A.out _).mono ?_); rintro e w1 ⟨rfl, hb1⟩; obtain ⟨hc1, hf1⟩ := bcell hb1; have hz1 := hb1.size; (try simp at hz1); (try have lt1 : w.heap.size < w1.heap.size := (by omega)))
        | go_in)
       go_ret
       exact ⟨rfl, belt⟩
      ·rw [if_neg oz] at hgo
       replace hgo := Lib.hid hgo
       go_wp2_with (first
        | (go_at_call 118; (with_reducible refine (A.out _).mono ?_); rintro e w1 ⟨rfl, hb1⟩; obtain ⟨hc1, hf1⟩ := bcell hb1; have hz1 := hb1.size; (try simp at hz1); (try have lt1 : w.heap.size < w1.heap.size := (by omega)))
        | go_in)
       go_roundw
       case rel => exact ⟨k + 1, o - 1, by omega, by go_num, rfl, by omega, by omega, hgo.out, belt⟩
       case measure => simp [intOf]; omega
     ·have ho : opn o s = o := by unfold opn; rw [if_neg q4, if_neg q5]
      rw [ho, if_neg (by omega)] at hgo
      clear ho
      replace A := Lib.hid A
      replace hgo := Lib.hid hgo
      go_wp2_with (first
       | (go_at_call 118; (with_reducible refine (A.out _).mono ?_); rintro e w1 ⟨rfl, hb1⟩; obtain ⟨hc1, hf1⟩ := bcell hb1; have hz1 := hb1.size; (try simp at hz1); (try have lt1 : w.heap.size < w1.heap.size := (by omega)))
       | go_in)
      go_roundw
      case rel => exact ⟨k + 1, o, by omega, by go_num, rfl, by omega, by omega, hgo.out, belt⟩
      case measure => simp [intOf]; omega
   ·rw [if_pos hc] at hgo
    have hcb : (errS s == 0) = false := by simp [hc]
    subst hgo
    replace A := Lib.hid A
    go_wp2_with (first
     | (go_at_call 118; (with_reducible refine (A.out _).mono ?_); rintro e w1 ⟨rfl, hb1⟩; obtain ⟨hc1, hf1⟩ := bcell hb1; have hz1 := hb1.size; (try simp at hz1); (try have lt1 : w.heap.size < w1.heap.size := (by omega)))
     | go_in)
    go_ret
    exact ⟨rfl, belt⟩
  ·obtain rfl : k = n := by omega
   have hd : xs.drop k = [] := List.drop_eq_nil_of_le (by have := hn.out; omega)
   rw [hd] at hgo
   simp only [chkGo] at hgo
   clear hd
   by_cases oz : o > 0
   ·rw [if_pos oz] at hgo
    subst hgo
    go_wp2
    go_ret
    exact ⟨rfl, hbr⟩
   ·rw [if_neg oz] at hgo
    subst hgo
    go_wp2
    go_ret
    exact ⟨rfl, hbr⟩
end
end Go.Proofs.YtffmomgmkpmpkaaGreatDoor

namespace Go.Proofs.YtffmomgmkpmpkaaGreatDoor
open Go.RowKit
set_option linter.unusedVariables false
attribute [local go_sem] vwp vUpon_value vUpon_skip vUpon_enter vUpon_row
set_option linter.unusedSimpArgs false
set_option linter.unusedVariables false
section
set_option linter.unusedSimpArgs false
set_option linter.unusedVariables false
theorem St.enc_len (s : St) : s.enc.length = 15 := rfl
theorem St.enc_one (s : St) : ∀ u ∈ s.enc, u.oneCell' = true := by
  intro u hu
  simp only [St.enc, Re.enc, Co.enc, List.cons_append, List.nil_append, List.mem_cons, List.not_mem_nil, or_false] at hu
  rcases hu with rfl | rfl | rfl | rfl | rfl | rfl | rfl | rfl | rfl | rfl | rfl | rfl | rfl | rfl | rfl <;> rfl
theorem infoSt : (Tryz.prog.info? 46).map (fun i => (i.zero, i.size, i.bytes)) = some (some (.agg #[.int .u8 0, .int .i64 0, .int .i64 0, .int .i64 0, .int .i64 0, .int .u8 0, .int .u8 0, .int .u8 0, .int .u8 0, .int .u8 0, .int .u8 0, .int .u8 0, .int .u8 0, .string ⟨#[]⟩, .int .i64 0]), 15, 72) := by kernel_rfl
/-- What a call hands out: a row of its own. -/
def Owns (base : Nat) (w : World) (v : Value) (xs : List St) : Prop := w.ownsRow base 46 15 v xs.length (xs.flatMap St.enc)
theorem Owns.row {base B : Nat} {w : World} {v : Value} {xs : List St} (h : Owns base w v xs) (hB : w.heap.size ≤ B) : Row B 15 St.enc w v xs := Row.own St.enc_len h hB (by omega)
theorem Owns.below {base B : Nat} {w w' : World} {v : Value} {xs : List St} (h : Owns base w v xs) (hb : Below B w w') (hB : w.heap.size ≤ B) : Owns base w' v xs := ownsRow_below h hb hB
theorem Owns.nil (base : Nat) (w : World) : Owns base w (.slice none 0 0) [] := World.ownsRow_nil _ _ _ _
end
section
set_option linter.unusedSimpArgs false
set_option linter.unusedVariables false
theorem chk_len {xs : List St} (h : chkL xs = 0) : xs.length ≤ 16384 := by
  unfold chkL at h; split at h
  · cases h
  · omega
end
section
set_option linter.unusedSimpArgs false
set_option linter.unusedVariables false
def sameL : List St → List St → Bool
  | [], [] => true
  | x :: xs, y :: ys => x.eqb y && sameL xs ys
  | _, _ => false
theorem sameL_len : ∀ {xs ys : List St}, xs.length ≠ ys.length → sameL xs ys = false
  | [], [], h => absurd rfl h
  | [], _ :: _, _ => rfl
  | _ :: _, [], _ => rfl
  | x :: xs, y :: ys, h => by
    unfold sameL
    rw [sameL_len (by simpa using h), Bool.and_false]
theorem St.eqb_refl (s : St) : s.eqb s = true := by simp [St.eqb, Re.eqb, Co.eqb, eq4]
theorem sameL_refl : ∀ xs : List St, sameL xs xs = true
  | [] => rfl
  | x :: xs => by unfold sameL; rw [x.eqb_refl, sameL_refl xs]; rfl
theorem same_step {xs ys : List St} {k : Nat} {x y : St} (hx : xs[k]? = some x) (hy : ys[k]? = some y) : sameL (xs.drop k) (ys.drop k) = (x.eqb y && sameL (xs.drop (k + 1)) (ys.drop (k + 1))) := by
  obtain ⟨hk, e⟩ := List.getElem?_eq_some_iff.1 hx
  obtain ⟨hk', e'⟩ := List.getElem?_eq_some_iff.1 hy
  rw [List.drop_eq_getElem_cons hk, e, List.drop_eq_getElem_cons hk', e']
  rfl
theorem neq_stroke (w : World) (k x y wd ht c0 c1 c2 c3 b0 b1 b2 b3 n k' x' y' wd' ht' c0' c1' c2' c3' b0' b1' b2' b3' n' : Int) (t t' : ByteArray) :
    (binOp .neq 46 (.agg #[.int .u8 k, .int .i64 x, .int .i64 y, .int .i64 wd, .int .i64 ht, .int .u8 c0, .int .u8 c1, .int .u8 c2, .int .u8 c3, .int .u8 b0, .int .u8 b1, .int .u8 b2, .int .u8 b3, .string t, .int .i64 n]) (.agg #[.int .u8 k', .int .i64 x', .int .i64 y', .int .i64 wd', .int .i64 ht', .int .u8 c0', .int .u8 c1', .int .u8 c2', .int .u8 c3', .int .u8 b0', .int .u8 b1', .int .u8 b2', .int .u8 b3', .string t', .int .i64 n'])).run Tryz.prog w
      = .ok (.bool (!St.eqb ⟨k, ⟨x, y, wd, ht⟩, ⟨c0, c1, c2, c3⟩, ⟨b0, b1, b2, b3⟩, t, n⟩ ⟨k', ⟨x', y', wd', ht'⟩, ⟨c0', c1', c2', c3'⟩, ⟨b0', b1', b2', b3'⟩, t', n'⟩)) w := by
  rw [run_neq_struct]
  have h := eq_stroke 9996 w ⟨k, ⟨x, y, wd, ht⟩, ⟨c0, c1, c2, c3⟩, ⟨b0, b1, b2, b3⟩, t, n⟩ ⟨k', ⟨x', y', wd', ht'⟩, ⟨c0', c1', c2', c3'⟩, ⟨b0', b1', b2', b3'⟩, t', n'⟩
  simp only at h
  rw [h]
  rfl
attribute [local go_sem high] neq_stroke
end
section
set_option linter.unusedSimpArgs false
set_option linter.unusedVariables false
def cl (n : Int) : Int := min (max n (-32769)) 32769
theorem go_mem (xs : List St) : ∀ (o : Int), chkGo o xs = 0 → ∀ s ∈ xs, errS s = 0 := by
  induction xs with
  | nil => intro o h s hs; simp at hs
  | cons x xs ih =>
    intro o h s hs
    simp only [chkGo] at h
    by_cases h1 : errS x = 0
    · rw [if_neg (by simp [h1])] at h
      by_cases h2 : opn o x < 0
      · rw [if_pos h2] at h; exact absurd h (by decide)
      · rw [if_neg h2] at h
        rcases List.mem_cons.1 hs with rfl | hs
        · exact h1
        · exact ih _ h s hs
    · rw [if_pos h1] at h; exact absurd h h1
theorem chk_mem {xs : List St} (h : chkL xs = 0) (s : St) (hs : s ∈ xs) : errS s = 0 := by
  unfold chkL at h
  split at h
  · exact absurd h (by decide)
  · exact go_mem xs 0 h s hs
theorem err_may {s : St} (h : errS s = 0) : mayR s.rect = true := by
  unfold errS at h
  split at h
  · cases h
  · split at h
    · assumption
    · cases h
end
section
set_option linter.unusedSimpArgs false
set_option linter.unusedVariables false
theorem flat_snoc {l : List St} {t : St} {cs : List Value} (h : cs = t.enc) : l.flatMap St.enc ++ cs = (l ++ [t]).flatMap St.enc := by
  subst h
  rw [List.flatMap_append]
  simp
end
section
set_option linter.unusedSimpArgs false
set_option linter.unusedVariables false
def Spo (w wr : World) (g n : Nat) : Prop := (∃ cur, wr.heap[g]? = some (.cells cur 46 (0, 0)) ∧ n * 15 ≤ cur.size) ∧ w.grownBy wr (some g)
theorem Spo.set {w wr : World} {g n : Nat} (h : Spo w wr g n) (o : Nat) (u : Value) : Spo w (wr.setCell ⟨g, o, none⟩ u) g n := by
  obtain ⟨⟨cur, hh, hs⟩, hg⟩ := h
  refine ⟨⟨_, heap_setCell_same _ _ _ _ _ _ hh, by simpa using hs⟩, hg.os, hg.tape, hg.output, by simpa using hg.size, fun k hk hne => ?_⟩
  rw [heap_setCell_other _ _ _ _ (fun e => hne (by simpa using congrArg some e))]
  exact hg.block k hk hne
theorem Spo.cell {w wr : World} {g n : Nat} (h : Spo w wr g n) {o : Nat} (ho : o < n * 15) : ∃ u, wr.cell? ⟨g, o, none⟩ = some u := by
  obtain ⟨⟨cur, hh, hs⟩, _⟩ := h
  refine ⟨cur[o]'(by omega), ?_⟩
  simp only [World.cell?, hh]
  simp [Array.getElem?_eq_getElem (show o < cur.size by omega)]
theorem Spo.free {w wr : World} {g n : Nat} (h : Spo w wr g n) (o : Nat) : wr.frozen? ⟨g, o, none⟩ = false := by
  obtain ⟨⟨cur, hh, hs⟩, _⟩ := h
  simp [World.frozen?, hh]
end
end Go.Proofs.YtffmomgmkpmpkaaGreatDoor

namespace Go.Proofs.YtffmomgmkpmpkaaGreatDoor
open Go.RowKit
set_option linter.unusedVariables false
attribute [local go_sem] vwp vUpon_value vUpon_skip vUpon_enter vUpon_row
set_option linter.unusedSimpArgs false
set_option linter.unusedVariables false
set_option maxRecDepth 100000 in
theorem cclone_any (xs : List Ce) (v : Value) (w : World) (hl : Row w.heap.size 11 Ce.enc w v xs) (hm : xs.length ≤ 1000000) : Calls Tryz.prog 41 #[v] w fun e w' => ∃ v', e = .returned v' ∧ OwnsC w.heap.size w' v' xs ∧ Below w.heap.size w w' := by
 obtain ⟨iM, hi0, hm0, hm1, hm2⟩ := info_parts infoCe
 obtain ⟨s, cap, rfl, hmax⟩ := hl.shape
 have hlh := Lib.hid hl
 clear hl
 have q22 : ∀ (w : World) (a : Option Addr) (n c n' c' : Nat), (binOp .eql 24 (.slice a n c) (.slice none n' c')).run Tryz.prog w = .ok (.bool a.isNone) w := fun w a n c n' c' => Lib.run_eql_slice_nil w _ _ a n c n' c' Tryz.underlying24
 cases s with
 | none =>
  have h0 : xs = [] := by
   rcases Nat.eq_zero_or_pos xs.length with h | h
   ·exact List.length_eq_zero_iff.1 h
   ·obtain ⟨b, o, c, e, _⟩ := hlh.out.open_ h
    cases e
  subst h0
  go_enter Tryz.func41, Tryz.ntmps41
  go_wp2
  go_ret
  exact ⟨_, rfl, OwnsC.nil _ _, (by repeat (first | exact Below.refl _ _ | assumption | refine Below.drew ?_ | refine Below.alloc ?_ (by (try simp) <;> omega) _ | refine Below.setCell ?_ (by (try simp) <;> omega) _))⟩
 | some a =>
  have hnew : (w.alloc (.cells #[] 52)).ownsRow w.heap.size 52 11 (.slice (some ⟨w.heap.size, 0, none⟩) 0 0) 0 [] := World.ownsRow_made w #[] 0 (Nat.le_refl _) (Nat.zero_le _) (by simp)
  have hr2 : Row w.heap.size 11 Ce.enc (w.alloc (.cells #[] 52)) (.slice (some a) xs.length cap) xs := hlh.out.below (by repeat (first | exact Below.refl _ _ | assumption | refine Below.drew ?_ | refine Below.alloc ?_ (by (try simp) <;> omega) _ | refine Below.setCell ?_ (by (try simp) <;> omega) _))
  replace hr2 := Lib.hid hr2
  go_enter Tryz.func41, Tryz.ntmps41
  go_wp2_with (first
   | (at_builtin; refine wpList_append_row rfl _ _ _ rfl w.heap.size 52 iM _ 11 16 Tryz.underlying24 hi0 hm0 hm1 hm2 rfl (by omega) (w.alloc (.cells #[] 52)) _ _ _ (by rfl) hnew Ce.enc_len Ce.enc_one w.heap.size _ xs hr2.out (by rfl) (by unfold maxLen; omega) (by omega) (by simp) ?_; intro v3 w3 hown3 hgr3)
   | go_in)
  rw [Nat.zero_add, List.nil_append] at hown3
  have hb3 : Below w.heap.size w w3 := (Below.alloc (Below.refl _ _) (Nat.le_refl _) _).grown hgr3 (by simp) (fun k hk => by simp [Value.ownBlock] at hk; omega)
  have hh := Lib.hid hown3
  clear hown3
  go_wp2
  go_ret
  exact ⟨v3, rfl, hh.out, hb3⟩
/-- A screen as an answer: its size and cells of the call's own, and the error. -/
def OutS (base : Nat) (er a b : Int) (cs : List Ce) (w : World) (e : Ending) (w' : World) : Prop := Below base w w' ∧ ∃ v, e = .returned (.tuple #[.agg #[.int .i64 (a), .int .i64 (b), v], .int .i64 er]) ∧ OwnsC base w' v cs
theorem Blk.put3 {w : World} {b : Nat} {cs : List Value} {e : TypeId} (h : Blk w b cs e) (hl : cs.length = 3) (v0 v1 v2 : Value) : Blk (((w.setCell ⟨b, 0, none⟩ v0).setCell ⟨b, 1, none⟩ v1).setCell ⟨b, 2, none⟩ v2) b [v0, v1, v2] e := by
  have h2 := ((h.set 0 v0).set 1 v1).set 2 v2
  match cs, hl with
  | [a0, a1, a2], _ => exact h2
theorem OwnsC.set_ne {w : World} {base : Nat} {v : Value} {cs : List Ce} (h : OwnsC base w v cs) {b o : Nat} (hb : b < base) (u : Value) : OwnsC base (w.setCell ⟨b, o, none⟩ u) v cs :=
  own_other h (fun g hg => by have := (own_block_lt h g hg).1; show g ≠ b; omega) u
set_option maxHeartbeats 2000000 in
set_option maxRecDepth 100000 in
theorem twin_any (a b : Int) (xs : List Ce) (v : Value) (w : World) (hl : Row w.heap.size 11 Ce.enc w v xs) (hm : xs.length ≤ 1000000) : Calls Tryz.prog 10 #[.agg #[.int .i64 (a), .int .i64 (b), v]] w fun e w' => ∃ v', e = .returned (.agg #[.int .i64 (a), .int .i64 (b), v']) ∧ OwnsC w.heap.size w' v' xs ∧ Below w.heap.size w w' := by
 obtain ⟨iM, hi0, hm0, hm1, hm2⟩ := info_parts infoCe
 obtain ⟨s, cap, rfl, hmax⟩ := hl.shape
 have hlh := Lib.hid hl
 clear hl
 go_enter Tryz.func10, Tryz.ntmps10
 go_upto_region 2 with fail
 obtain ⟨W, hW⟩ : ∃ W, (w.alloc (.cells #[.int .i64 a, .int .i64 b, .slice s xs.length cap] 26)).alloc (.cells #[.int .i64 0, .int .i64 0, .slice none 0 0] 26) = W := ⟨_, rfl⟩
 have B1 : Blk W w.heap.size [.int .i64 a, .int .i64 b, .slice s xs.length cap] 26 := by rw [← hW]; exact (Blk.new' rfl).alloc _
 have B2 : Blk W (w.heap.size + 1) [.int .i64 0, .int .i64 0, .slice none 0 0] 26 := by rw [← hW]; exact Blk.new' (by simp)
 have hbw : Below w.heap.size w W := by rw [← hW]; exact belt
 rw [hW]
 clear hW
 have yB1 := B1.lt
 have yB2 := B2.lt
 have hr2 := Lib.hid (hlh.out.below hbw)
 have hnil : W.ownsRow W.heap.size 52 11 (.slice none 0 0) 0 [] := World.ownsRow_nil _ _ _ _
 have q0 := B1.cell (o := 0) rfl
 have q1 := B1.cell (o := 1) rfl
 have q2 := B1.cell (o := 2) rfl
 go_upto_region 3 with (first
  | ((at_builtin; refine wpList_append_row rfl _ _ _ rfl W.heap.size 52 iM _ 11 16 Tryz.underlying24 hi0 hm0 hm1 hm2 rfl (by omega) W _ _ _ (by rfl) hnil Ce.enc_len Ce.enc_one w.heap.size _ xs hr2.out (by rfl) (by unfold maxLen; omega) (by omega) (Nat.le_refl _) ?_; intro v3 w3 hown3 hgr3); obtain ⟨s3, c3, hv3⟩ := own_slice hown3; rw [Nat.zero_add] at hv3; subst hv3; replace B1 := B1.keep hgr3 (by simp [Value.ownBlock]); replace B2 := B2.keep hgr3 (by simp [Value.ownBlock]); have k0 := B1.cell (o := 0) rfl; have k1 := B1.cell (o := 1) rfl; have k2 := B1.cell (o := 2) rfl; have kf := B1.free)
  | go_in)
 rw [Nat.zero_add, List.nil_append] at hown3
 have hb3 : Below w.heap.size w w3 := hbw.grown hgr3 hbw.size (fun k hk => by simp [Value.ownBlock] at hk)
 have z3 := hgr3.size
 have ho : OwnsC W.heap.size w3 (.slice s3 xs.length c3) xs := hown3
 clear hown3 q0 q1 q2
 have G1 := B1.set 2 (.slice s3 xs.length c3)
 have G2 := B2.set_ne (a := ⟨w.heap.size, 2, none⟩) (by show w.heap.size + 1 ≠ w.heap.size; omega) (.slice s3 xs.length c3)
 have go := ho.set_ne (b := w.heap.size) (o := 2) yB1 (.slice s3 xs.length c3)
 have hbX := hb3.setCell (p := ⟨w.heap.size, 2, none⟩) (Nat.le_refl _) (.slice s3 xs.length c3)
 clear B1 B2 ho hb3 k0 k1 k2 kf
 generalize w3.setCell ⟨w.heap.size, 2, none⟩ (.slice s3 xs.length c3) = wB at G1 G2 go hbX ⊢
 have k0 := G1.cell (o := 0) rfl
 have k1 := G1.cell (o := 1) rfl
 have k2 := G1.cell (o := 2) rfl
 have j0 := G2.cell (o := 0) rfl
 have j1 := G2.cell (o := 1) rfl
 have j2 := G2.cell (o := 2) rfl
 have jf := G2.free
 go_wp2
 clear k0 k1 k2 j0 j1 j2 jf
 replace go := ((go.set_ne (b := w.heap.size + 1) (o := 0) yB2 (.int .i64 a)).set_ne (b := w.heap.size + 1) (o := 1) yB2 (.int .i64 b)).set_ne (b := w.heap.size + 1) (o := 2) yB2 (.slice s3 xs.length c3)
 have HZ := Blk.put3 G2 rfl (.int .i64 a) (.int .i64 b) (.slice s3 xs.length c3)
 have hbZ := ((hbX.setCell (p := ⟨w.heap.size + 1, 0, none⟩) (by show w.heap.size ≤ w.heap.size + 1; omega) (.int .i64 a)).setCell (p := ⟨w.heap.size + 1, 1, none⟩) (by show w.heap.size ≤ w.heap.size + 1; omega) (.int .i64 b)).setCell (p := ⟨w.heap.size + 1, 2, none⟩) (by show w.heap.size ≤ w.heap.size + 1; omega) (.slice s3 xs.length c3)
 generalize ((wB.setCell ⟨w.heap.size + 1, 0, none⟩ (.int .i64 a)).setCell ⟨w.heap.size + 1, 1, none⟩ (.int .i64 b)).setCell ⟨w.heap.size + 1, 2, none⟩ (.slice s3 xs.length c3) = wZ at HZ hbZ go ⊢
 have jz0 := HZ.cell (o := 0) rfl
 have jz1 := HZ.cell (o := 1) rfl
 have jz2 := HZ.cell (o := 2) rfl
 refine bodyPost_ret (v := .agg #[.int .i64 a, .int .i64 b, (.slice s3 xs.length c3)]) (by simp [results, Tryz.results10, go_sem, jz0, jz1, jz2]) rfl ⟨_, rfl, own_less go (by omega), hbZ⟩
end Go.Proofs.YtffmomgmkpmpkaaGreatDoor
