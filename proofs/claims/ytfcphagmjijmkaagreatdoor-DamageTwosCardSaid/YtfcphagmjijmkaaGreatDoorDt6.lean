/-
  Cells: a cell, a row of them, a screen: may they be? By the program and by the document's answer.
-/
import Derived.Shelf.SlSortCmp.WholeK
import Derived.Shelf.Slices.CompactI
import Derived.Shelf.Slices.In.SortNone
import Derived.Shelf.Sort.Plain
import Derived.Sort.OwnSortedInts
import Derived.Test.YtfcphagmjijmkaaGreatDoorDt5
namespace Go.Proofs.YtfcphagmjijmkaaGreatDoor
open Go.RowKit
set_option linter.unusedVariables false
set_option linter.unusedSimpArgs false
attribute [local go_sem] vwp vUpon_value vUpon_skip vUpon_enter vUpon_row
set_option maxHeartbeats 16000000
structure Ce where
 rune : Int
 col : Co
 back : Co
 wide : Bool
 tail : Bool
instance : Inhabited Ce := ⟨⟨0, ⟨0, 0, 0, 0⟩, ⟨0, 0, 0, 0⟩, false, false⟩⟩
def Ce.enc (c : Ce) : List Value := [.int .i32 c.rune] ++ c.col.enc ++ c.back.enc ++ [.bool c.wide, .bool c.tail]
theorem Ce.enc_len (c : Ce) : c.enc.length = 11 := rfl
def Ce.Wf (c : Ce) : Prop := True ∧ c.col.Wf ∧ c.back.Wf
def CeL (l : List Ce) : Prop := ∀ c ∈ l, c.Wf
def mayC (c : Ce) : Bool := validR c.rune && (if widR c.rune = 1 then !c.wide && !c.tail else if widR c.rune = 2 then c.wide != c.tail else false)
def CMem (w : World) (b p : Nat) (c : Ce) : Prop :=
 w.cell? ⟨b, p, none⟩ = some (.int .i32 c.rune) ∧ w.cell? ⟨b, p + 1, none⟩ = some (.int .u8 c.col.r) ∧ w.cell? ⟨b, p + 2, none⟩ = some (.int .u8 c.col.g) ∧ w.cell? ⟨b, p + 3, none⟩ = some (.int .u8 c.col.b) ∧ w.cell? ⟨b, p + 4, none⟩ = some (.int .u8 c.col.a) ∧ w.cell? ⟨b, p + 5, none⟩ = some (.int .u8 c.back.r) ∧ w.cell? ⟨b, p + 6, none⟩ = some (.int .u8 c.back.g) ∧ w.cell? ⟨b, p + 7, none⟩ = some (.int .u8 c.back.b) ∧ w.cell? ⟨b, p + 8, none⟩ = some (.int .u8 c.back.a) ∧ w.cell? ⟨b, p + 9, none⟩ = some (.bool c.wide) ∧ w.cell? ⟨b, p + 10, none⟩ = some (.bool c.tail)
theorem cmem_of {w : World} {b p : Nat} {c : Ce} (h : ∀ i u, c.enc[i]? = some u → w.cell? ⟨b, p + i, none⟩ = some u) : CMem w b p c :=
 ⟨h 0 _ rfl, h 1 _ rfl, h 2 _ rfl, h 3 _ rfl, h 4 _ rfl, h 5 _ rfl, h 6 _ rfl, h 7 _ rfl, h 8 _ rfl, h 9 _ rfl, h 10 _ rfl⟩
theorem CMem.below {w w' : World} {b p B : Nat} {c : Ce} (h : CMem w b p c) (hb : Below B w w') (hB : b < B) : CMem w' b p c := by
 obtain ⟨h0, h1, h2, h3, h4, h5, h6, h7, h8, h9, h10⟩ := h
 have k : ∀ o v, w.cell? ⟨b, o, none⟩ = some v → w'.cell? ⟨b, o, none⟩ = some v := fun o v e => (hb.cell (p := ⟨b, o, none⟩) hB).trans e
 exact ⟨k _ _ h0, k _ _ h1, k _ _ h2, k _ _ h3, k _ _ h4, k _ _ h5, k _ _ h6, k _ _ h7, k _ _ h8, k _ _ h9, k _ _ h10⟩
theorem row_ce {B : Nat} {w : World} {v : Value} {l : List Ce} (h : Row B 11 Ce.enc w v l) (h0 : 0 < l.length) :
  ∃ b o cap, v = .slice (some ⟨b, o, none⟩) l.length cap ∧ b < B ∧ l.length ≤ cap ∧ cap ≤ maxLen ∧ ∀ (j : Nat) c, l[j]? = some c → CMem w b (o + j * 11) c := by
 obtain ⟨b, o, cap, hv, hb, hc, hm, hx⟩ := h.open_ h0; exact ⟨b, o, cap, hv, hb, hc, hm, fun j c hj => cmem_of (fun i u hu => hx j c hj i u hu)⟩
theorem cmay_any (c : Ce) (w : World) : Calls Tryz.prog 138 #[.agg #[.int .i32 (c).rune, .int .u8 (c).col.r, .int .u8 (c).col.g, .int .u8 (c).col.b, .int .u8 (c).col.a, .int .u8 (c).back.r, .int .u8 (c).back.g, .int .u8 (c).back.b, .int .u8 (c).back.a, .bool (c).wide, .bool (c).tail]] w fun e w' => e = .returned (.bool (mayC c)) ∧ Below w.heap.size w w' := by
 obtain ⟨R, hR⟩ := exx (mayC c); rw [hR]; obtain ⟨ru, ⟨c1, c2, c3, c4⟩, ⟨d1, d2, d3, d4⟩, wi, ta⟩ := c; unfold mayC at hR; dsimp only at hR ⊢; have V := validRune_any ru; have D := width_any ru; have bd := widR_bd ru
 go_enter Tryz.func138, Tryz.ntmps138
 cases hv : validR ru
 ·rw [hv] at V hR
  simp only [Bool.false_and] at hR; subst hR; replace V := hdh V
  go_wp2_with (go_at_call 140; (with_reducible refine cmm (V.out _) fun w1 hb1 => ?_); obtain ⟨hc1, hf1, hz1⟩ := bzz hb1; (try simp at hz1); (try have lt1 : w.heap.size < w1.heap.size := (by omega)))
  go_ret; exact ⟨rfl, belt⟩
 ·rw [hv] at V hR
  simp only [Bool.true_and] at hR; obtain ⟨W, hW⟩ := exx (widR ru); rw [hW] at D hR bd; clear hW; replace V := hdh V; replace D := hdh D
  obtain rfl | rfl | rfl : W = 0 ∨ W = 1 ∨ W = 2 := by omega
  ·simp at hR; subst hR
   go_wp2_with (first | (go_at_call 140; (with_reducible refine cmm (V.out _) fun w1 hb1 => ?_); obtain ⟨hc1, hf1, hz1⟩ := bzz hb1; (try simp at hz1); (try have lt1 : w.heap.size < w1.heap.size := (by omega))) | (go_at_call 99; (with_reducible refine cmm (D.out _) fun w2 hb2 => ?_); obtain ⟨hc2, hf2, hz2⟩ := bzz hb2; (try simp at hz2); (try have lt2 : w.heap.size < w2.heap.size := (by omega))))
   go_ret; exact ⟨rfl, belt⟩
  ·cases wi
   ·cases ta
    ·simp at hR; subst hR
     go_wp2_with (first | (go_at_call 140; (with_reducible refine cmm (V.out _) fun w1 hb1 => ?_); obtain ⟨hc1, hf1, hz1⟩ := bzz hb1; (try simp at hz1); (try have lt1 : w.heap.size < w1.heap.size := (by omega))) | (go_at_call 99; (with_reducible refine cmm (D.out _) fun w2 hb2 => ?_); obtain ⟨hc2, hf2, hz2⟩ := bzz hb2; (try simp at hz2); (try have lt2 : w.heap.size < w2.heap.size := (by omega))))
     go_ret; exact ⟨rfl, belt⟩
    ·simp at hR; subst hR
     go_wp2_with (first | (go_at_call 140; (with_reducible refine cmm (V.out _) fun w1 hb1 => ?_); obtain ⟨hc1, hf1, hz1⟩ := bzz hb1; (try simp at hz1); (try have lt1 : w.heap.size < w1.heap.size := (by omega))) | (go_at_call 99; (with_reducible refine cmm (D.out _) fun w2 hb2 => ?_); obtain ⟨hc2, hf2, hz2⟩ := bzz hb2; (try simp at hz2); (try have lt2 : w.heap.size < w2.heap.size := (by omega))))
     go_ret; exact ⟨rfl, belt⟩
   ·simp at hR; subst hR
    go_wp2_with (first | (go_at_call 140; (with_reducible refine cmm (V.out _) fun w1 hb1 => ?_); obtain ⟨hc1, hf1, hz1⟩ := bzz hb1; (try simp at hz1); (try have lt1 : w.heap.size < w1.heap.size := (by omega))) | (go_at_call 99; (with_reducible refine cmm (D.out _) fun w2 hb2 => ?_); obtain ⟨hc2, hf2, hz2⟩ := bzz hb2; (try simp at hz2); (try have lt2 : w.heap.size < w2.heap.size := (by omega))))
    go_ret; exact ⟨rfl, belt⟩
  ·have e : (wi != ta) = R := by simpa using hR
   clear hR
   cases wi <;> cases ta <;> simp at e <;> subst e
   ·go_wp2_with (first | (go_at_call 140; (with_reducible refine cmm (V.out _) fun w1 hb1 => ?_); obtain ⟨hc1, hf1, hz1⟩ := bzz hb1; (try simp at hz1); (try have lt1 : w.heap.size < w1.heap.size := (by omega))) | (go_at_call 99; (with_reducible refine cmm (D.out _) fun w2 hb2 => ?_); obtain ⟨hc2, hf2, hz2⟩ := bzz hb2; (try simp at hz2); (try have lt2 : w.heap.size < w2.heap.size := (by omega))))
    go_ret; exact ⟨rfl, belt⟩
   ·go_wp2_with (first | (go_at_call 140; (with_reducible refine cmm (V.out _) fun w1 hb1 => ?_); obtain ⟨hc1, hf1, hz1⟩ := bzz hb1; (try simp at hz1); (try have lt1 : w.heap.size < w1.heap.size := (by omega))) | (go_at_call 99; (with_reducible refine cmm (D.out _) fun w2 hb2 => ?_); obtain ⟨hc2, hf2, hz2⟩ := bzz hb2; (try simp at hz2); (try have lt2 : w.heap.size < w2.heap.size := (by omega))))
    go_ret; exact ⟨rfl, belt⟩
   ·go_wp2_with (first | (go_at_call 140; (with_reducible refine cmm (V.out _) fun w1 hb1 => ?_); obtain ⟨hc1, hf1, hz1⟩ := bzz hb1; (try simp at hz1); (try have lt1 : w.heap.size < w1.heap.size := (by omega))) | (go_at_call 99; (with_reducible refine cmm (D.out _) fun w2 hb2 => ?_); obtain ⟨hc2, hf2, hz2⟩ := bzz hb2; (try simp at hz2); (try have lt2 : w.heap.size < w2.heap.size := (by omega))))
    go_ret; exact ⟨rfl, belt⟩
   ·go_wp2_with (first | (go_at_call 140; (with_reducible refine cmm (V.out _) fun w1 hb1 => ?_); obtain ⟨hc1, hf1, hz1⟩ := bzz hb1; (try simp at hz1); (try have lt1 : w.heap.size < w1.heap.size := (by omega))) | (go_at_call 99; (with_reducible refine cmm (D.out _) fun w2 hb2 => ?_); obtain ⟨hc2, hf2, hz2⟩ := bzz hb2; (try simp at hz2); (try have lt2 : w.heap.size < w2.heap.size := (by omega))))
    go_ret; exact ⟨rfl, belt⟩
/-! ### rows of cells -/
theorem allC_step {l : List Ce} {k : Nat} {c : Ce} (h : l[k]? = some c) : (l.drop k).all mayC = (mayC c && (l.drop (k + 1)).all mayC) := by
 rw [drop_get h]; rfl
theorem call_any (l : List Ce) (v : Value) (w : World) (hl : Row w.heap.size 11 Ce.enc w v l) :
  Calls Tryz.prog 94 #[v] w fun e w' => e = .returned (.bool (l.all mayC)) ∧ Below w.heap.size w w' := by
 obtain ⟨s0, cap, rfl, hmax⟩ := hl.shape
 have hopen := fun h0 => row_ce hl h0
 obtain ⟨n, en⟩ := exx (l.length); rw [en] at hopen hmax ⊢; obtain ⟨R, hR⟩ := exx (l.all mayC); rw [hR]; have hgo := hdh (show (l.drop 0).all mayC = R from hR); replace hopen := hdh hopen; replace en := hdh en; unfold maxLen at hmax; clear hl hR
 go_enter Tryz.func94, Tryz.ntmps94
 go_wp2
 go_loopw [7] (fun iv wr => ∃ k : Nat, k ≤ n ∧ iv = .int .i64 k ∧ Hid ((l.drop k).all mayC = R) ∧ Below w.heap.size w wr) (fun iv _ => n - (intOf iv).toNat)
 case atStart => exact ⟨0, Nat.zero_le _, rfl, hgo, Below.refl _ _⟩
 case round =>
  obtain ⟨k, hk, rfl, hgo, hbr⟩ := hrel; have zr := hbr.size
  by_cases hkn : k < n
  ·obtain ⟨b, o, cap', e, hb, _, _, hel⟩ := hopen.out (by omega)
   simp at e
   obtain ⟨rfl, rfl⟩ := e; obtain ⟨s, hs⟩ := get_at en.out hkn; obtain ⟨g0, g1, g2, g3, g4, g5, g6, g7, g8, g9, g10⟩ := CMem.below (hel k s hs) hbr hb; have A := cmay_any s; have hg := hgo.out; rw [allC_step hs] at hg
   have hkk : (k : Int) < n := by omega
   have yb : b < wr.heap.size := by omega
   clear hel hs; generalize mayC s = r at A hg; replace A := hdh A
   cases r
   ·rw [Bool.false_and] at hg
    subst hg
    go_wp2_with (go_at_call 138; (with_reducible refine cmm (A.out _) fun w1 hb1 => ?_); obtain ⟨hc1, hf1, hz1⟩ := bzz hb1; (try simp at hz1); (try have lt1 : w.heap.size < w1.heap.size := (by omega)))
    go_ret; exact ⟨rfl, belt⟩
   ·rw [Bool.true_and] at hg
    replace hg := hdh hg
    go_wp2_with (go_at_call 138; (with_reducible refine cmm (A.out _) fun w1 hb1 => ?_); obtain ⟨hc1, hf1, hz1⟩ := bzz hb1; (try simp at hz1); (try have lt1 : w.heap.size < w1.heap.size := (by omega)))
    go_roundw
    case rel => exact ⟨k + 1, by omega, by go_num, hg, belt⟩
    case measure => simp [intOf]; omega
  ·obtain rfl : k = n := by omega
   have hg := hgo.out; rw [List.drop_eq_nil_of_le (by have := en.out; omega)] at hg; have hg : true = R := hg; subst hg; go_wp2; go_ret; exact ⟨rfl, hbr⟩
def fitsS (wd ht : Int) : Bool := decide (0 ≤ wd) && decide (0 ≤ ht) && decide (wd ≤ 16384) && decide (ht ≤ 16384) && decide (wd * ht ≤ 262144)
theorem fitsS_true {wd ht : Int} : fitsS wd ht = true ↔ (0 ≤ wd ∧ 0 ≤ ht ∧ wd ≤ 16384 ∧ ht ≤ 16384 ∧ wd * ht ≤ 262144) := by
 unfold fitsS; simp only [Bool.and_eq_true, decide_eq_true_eq]
 constructor
 ·rintro ⟨⟨⟨⟨a, b⟩, c⟩, d⟩, e⟩; exact ⟨a, b, c, d, e⟩
 ·rintro ⟨a, b, c, d, e⟩; exact ⟨⟨⟨⟨a, b⟩, c⟩, d⟩, e⟩
theorem mul_bd {wd ht : Int} (h0 : 0 ≤ wd) (h1 : 0 ≤ ht) (h2 : wd ≤ 16384) (h3 : ht ≤ 16384) : 0 ≤ wd * ht ∧ wd * ht ≤ 268435456 :=
 ⟨Int.mul_nonneg h0 h1, Int.le_trans (Int.mul_le_mul h2 h3 h1 (by omega)) (by decide)⟩
theorem cfits_any (wd ht : Int) (w : World) (h1 : I64 wd) (h2 : I64 ht) : Calls Tryz.prog 47 #[.agg #[.int .i64 (wd), .int .i64 (ht)]] w fun e w' => e = .returned (.bool (fitsS wd ht)) ∧ Below w.heap.size w w' := by
 obtain ⟨R, hR⟩ := exx (fitsS wd ht); rw [hR]; obtain ⟨P, hP⟩ := exx (wd * ht)
 have bd : 0 ≤ wd → 0 ≤ ht → wd ≤ 16384 → ht ≤ 16384 → 0 ≤ P ∧ P ≤ 268435456 := fun a b c d => hP ▸ mul_bd a b c d
 unfold fitsS at hR; rw [hP] at hR
 go_enter Tryz.func47, Tryz.ntmps47
 by_cases q : wd < ht
 ·have q2 : wd ≤ ht := by omega
  have q3 : max wd ht = ht := by omega
  have q4 : min wd ht = wd := by omega
  by_cases c1 : 0 ≤ wd
  ·by_cases c2 : ht ≤ 16384
   ·have a1 : 0 ≤ wd := by omega
    have a2 : 0 ≤ ht := by omega
    have a3 : wd ≤ 16384 := by omega
    have a4 : ht ≤ 16384 := by omega
    have bd := bd a1 a2 a3 a4
    by_cases c3 : P ≤ 262144
    ·have : R = true := by rw [← hR]; simp [a1, a2, a3, a4, c3]
     subst this; clear hR; go_wp2; go_ret; exact ⟨rfl, belt⟩
    ·have : R = false := by rw [← hR]; simp [c3]
     subst this; clear hR; go_wp2; go_ret; exact ⟨rfl, belt⟩
   ·have : R = false := by rw [← hR]; simp [c2]
    subst this; clear hR bd; go_wp2; go_ret; exact ⟨rfl, belt⟩
  ·have : R = false := by rw [← hR]; simp [c1]
   subst this; clear hR bd; go_wp2; go_ret; exact ⟨rfl, belt⟩
 ·by_cases qq : wd = ht
  ·have q2 : ht ≤ wd := by omega
   have q5 : wd ≤ ht := by omega
   clear qq
   have q3 : max wd ht = wd := by omega
   have q4 : min wd ht = ht := by omega
   by_cases c1 : 0 ≤ ht
   ·by_cases c2 : wd ≤ 16384
    ·have a1 : 0 ≤ wd := by omega
     have a2 : 0 ≤ ht := by omega
     have a3 : wd ≤ 16384 := by omega
     have a4 : ht ≤ 16384 := by omega
     have bd := bd a1 a2 a3 a4
     by_cases c3 : P ≤ 262144
     ·have : R = true := by rw [← hR]; simp [a1, a2, a3, a4, c3]
      subst this; clear hR; go_wp2; go_ret; exact ⟨rfl, belt⟩
     ·have : R = false := by rw [← hR]; simp [c3]
      subst this; clear hR; go_wp2; go_ret; exact ⟨rfl, belt⟩
    ·have : R = false := by rw [← hR]; simp [c2]
     subst this; clear hR bd; go_wp2; go_ret; exact ⟨rfl, belt⟩
   ·have : R = false := by rw [← hR]; simp [c1]
    subst this; clear hR bd; go_wp2; go_ret; exact ⟨rfl, belt⟩
  ·have q2 : ht ≤ wd := by omega
   have q5 : ht < wd := by omega
   have q6 : ¬ wd ≤ ht := by omega
   have q3 : max wd ht = wd := by omega
   have q4 : min wd ht = ht := by omega
   by_cases c1 : 0 ≤ ht
   ·by_cases c2 : wd ≤ 16384
    ·have a1 : 0 ≤ wd := by omega
     have a2 : 0 ≤ ht := by omega
     have a3 : wd ≤ 16384 := by omega
     have a4 : ht ≤ 16384 := by omega
     have bd := bd a1 a2 a3 a4
     by_cases c3 : P ≤ 262144
     ·have : R = true := by rw [← hR]; simp [a1, a2, a3, a4, c3]
      subst this; clear hR; go_wp2; go_ret; exact ⟨rfl, belt⟩
     ·have : R = false := by rw [← hR]; simp [c3]
      subst this; clear hR; go_wp2; go_ret; exact ⟨rfl, belt⟩
    ·have : R = false := by rw [← hR]; simp [c2]
     subst this; clear hR bd; go_wp2; go_ret; exact ⟨rfl, belt⟩
   ·have : R = false := by rw [← hR]; simp [c1]
    subst this; clear hR bd; go_wp2; go_ret; exact ⟨rfl, belt⟩
def chkS (wd ht : Int) (l : List Ce) : Int := if fitsS wd ht && decide ((l.length : Int) = wd * ht) && l.all mayC then 0 else 150
theorem ccheck_any (wd ht : Int) (l : List Ce) (v : Value) (w : World) (h1 : I64 wd) (h2 : I64 ht) (hl : Row w.heap.size 11 Ce.enc w v l) : Calls Tryz.prog 49 #[.agg #[.int .i64 (wd), .int .i64 (ht), v]] w fun e w' => e = .returned (.int .i64 (chkS wd ht l)) ∧ Below w.heap.size w w' := by
 obtain ⟨R, hR⟩ := exx (chkS wd ht l); rw [hR]; unfold chkS at hR; have X := cfits_any wd ht; obtain ⟨P, hP⟩ := exx (wd * ht); rw [hP] at hR; obtain ⟨s0, cap, rfl, hmax⟩ := hl.shape; obtain ⟨n, en⟩ := exx (l.length); rw [en] at hR hmax; unfold maxLen at hmax
 have A := fun (w1 : World) (hb : Below w.heap.size w w1) => call_any l _ w1 ((hl.below hb).mono hb.size)
 rw [en] at A
 go_enter Tryz.func49, Tryz.ntmps49
 rw [en]
 cases hf : fitsS wd ht
 ·rw [hf] at X hR
  have : R = 150 := by rw [← hR]; simp
  subst this; replace X := hdh X; replace A := hdh A
  go_wp2_with (go_at_call 47; (with_reducible refine cmm (X.out _ ‹_› ‹_›) fun w1 hb1 => ?_); obtain ⟨hc1, hf1, hz1⟩ := bzz hb1; (try simp at hz1); (try have lt1 : w.heap.size < w1.heap.size := (by omega)))
  go_ret; exact ⟨rfl, belt⟩
 ·rw [hf] at X hR
  obtain ⟨a1, a2, a3, a4, a5⟩ := fitsS_true.1 hf; have bd := mul_bd a1 a2 a3 a4; rw [hP] at bd a5; replace X := hdh X
  by_cases c : (n : Int) = P
  ·cases ha : l.all mayC
   ·rw [ha] at A hR
    have : R = 150 := by rw [← hR]; simp
    subst this; replace A := hdh A
    have cb : ((n : Int) != P) = false := by simp [c]
    go_wp2_with (first | (go_at_call 47; (with_reducible refine cmm (X.out _ ‹_› ‹_›) fun w1 hb1 => ?_); obtain ⟨hc1, hf1, hz1⟩ := bzz hb1; (try simp at hz1); (try have lt1 : w.heap.size < w1.heap.size := (by omega))) | (go_at_call 94; (with_reducible refine cmm (A.out _ belt) fun w2 hb2 => ?_); obtain ⟨hc2, hf2, hz2⟩ := bzz hb2; (try simp at hz2); (try have lt2 : w.heap.size < w2.heap.size := (by omega))))
    go_ret; exact ⟨rfl, belt⟩
   ·rw [ha] at A hR
    have : R = 0 := by rw [← hR]; simp [c]
    subst this; replace A := hdh A
    have cb : ((n : Int) != P) = false := by simp [c]
    go_wp2_with (first | (go_at_call 47; (with_reducible refine cmm (X.out _ ‹_› ‹_›) fun w1 hb1 => ?_); obtain ⟨hc1, hf1, hz1⟩ := bzz hb1; (try simp at hz1); (try have lt1 : w.heap.size < w1.heap.size := (by omega))) | (go_at_call 94; (with_reducible refine cmm (A.out _ belt) fun w2 hb2 => ?_); obtain ⟨hc2, hf2, hz2⟩ := bzz hb2; (try simp at hz2); (try have lt2 : w.heap.size < w2.heap.size := (by omega))))
    go_ret; exact ⟨rfl, belt⟩
  ·have : R = 150 := by rw [← hR]; simp [c]
   subst this; replace A := hdh A
   have cb : ((n : Int) != P) = true := by simp [c]
   have cb2 : ((n : Int) == P) = false := by simp [c]
   go_wp2_with (first | (go_at_call 47; (with_reducible refine cmm (X.out _ ‹_› ‹_›) fun w1 hb1 => ?_); obtain ⟨hc1, hf1, hz1⟩ := bzz hb1; (try simp at hz1); (try have lt1 : w.heap.size < w1.heap.size := (by omega))) | (go_at_call 94; (with_reducible refine cmm (A.out _ belt) fun w2 hb2 => ?_); obtain ⟨hc2, hf2, hz2⟩ := bzz hb2; (try simp at hz2); (try have lt2 : w.heap.size < w2.heap.size := (by omega))))
   go_ret; exact ⟨rfl, belt⟩
theorem Ce.enc_one (c : Ce) : ∀ u ∈ c.enc, u.oneCell' = true := by
 intro u hu
 simp only [Ce.enc, Co.enc, List.mem_append, List.mem_cons, List.not_mem_nil, or_false] at hu
 rcases hu with ((rfl | rfl | rfl | rfl | rfl) | rfl | rfl | rfl | rfl) | rfl | rfl <;> rfl
def OwnsC (base : Nat) (w : World) (v : Value) (l : List Ce) : Prop := w.ownsRow base 47 11 v l.length (l.flatMap Ce.enc)
theorem OwnsC.row {base B : Nat} {w : World} {v : Value} {l : List Ce} (h : OwnsC base w v l) (hB : w.heap.size ≤ B) : Row B 11 Ce.enc w v l := Row.own Ce.enc_len h hB (by omega)
theorem OwnsC.below {base B : Nat} {w w' : World} {v : Value} {l : List Ce} (h : OwnsC base w v l) (hb : Below B w w') (hB : w.heap.size ≤ B) : OwnsC base w' v l := ownsRow_below h hb hB
theorem OwnsC.nil (base : Nat) (w : World) : OwnsC base w (.slice none 0 0) [] := World.ownsRow_nil _ _ _ _
theorem infoCe : (Tryz.prog.info? 47).map (fun i => (i.zero, i.size, i.bytes)) = some (some (.agg #[.int .i32 0, .int .u8 0, .int .u8 0, .int .u8 0, .int .u8 0, .int .u8 0, .int .u8 0, .int .u8 0, .int .u8 0, .bool false, .bool false]), 11, 16) := by kernel_rfl
theorem Blk.put11 {w : World} {b : Nat} {cs : List Value} {e : TypeId} (h : Blk w b cs e) (hl : cs.length = 11) (v0 v1 v2 v3 v4 v5 v6 v7 v8 v9 v10 : Value) :
  Blk ((((((((((((w).setCell ⟨b, 0, none⟩ v0).setCell ⟨b, 1, none⟩ v1).setCell ⟨b, 2, none⟩ v2).setCell ⟨b, 3, none⟩ v3).setCell ⟨b, 4, none⟩ v4).setCell ⟨b, 5, none⟩ v5).setCell ⟨b, 6, none⟩ v6).setCell ⟨b, 7, none⟩ v7).setCell ⟨b, 8, none⟩ v8).setCell ⟨b, 9, none⟩ v9).setCell ⟨b, 10, none⟩ v10) b [v0, v1, v2, v3, v4, v5, v6, v7, v8, v9, v10] e := by
 have h2 := ((((((((((h.set 0 v0).set 1 v1).set 2 v2).set 3 v3).set 4 v4).set 5 v5).set 6 v6).set 7 v7).set 8 v8).set 9 v9).set 10 v10
 match cs, hl with
 | [a0, a1, a2, a3, a4, a5, a6, a7, a8, a9, a10], _ => exact h2
theorem put11_below {w0 w : World} {B b : Nat} (h : Below B w0 w) (hb : B ≤ b) (v0 v1 v2 v3 v4 v5 v6 v7 v8 v9 v10 : Value) : Below B w0 ((((((((((((w).setCell ⟨b, 0, none⟩ v0).setCell ⟨b, 1, none⟩ v1).setCell ⟨b, 2, none⟩ v2).setCell ⟨b, 3, none⟩ v3).setCell ⟨b, 4, none⟩ v4).setCell ⟨b, 5, none⟩ v5).setCell ⟨b, 6, none⟩ v6).setCell ⟨b, 7, none⟩ v7).setCell ⟨b, 8, none⟩ v8).setCell ⟨b, 9, none⟩ v9).setCell ⟨b, 10, none⟩ v10) :=
 ((((((((((h.setCell hb v0).setCell hb v1).setCell hb v2).setCell hb v3).setCell hb v4).setCell hb v5).setCell hb v6).setCell hb v7).setCell hb v8).setCell hb v9).setCell hb v10
/-! ### places -/
section
def Ce.eqb (a b : Ce) : Bool := (a.rune == b.rune) && (a.col.eqb b.col && (a.back.eqb b.back && ((a.wide == b.wide) && (a.tail == b.tail))))
theorem Ce.eqb_iff {a b : Ce} : a.eqb b = true ↔ a = b := by
 obtain ⟨r, ⟨c0, c1, c2, c3⟩, ⟨d0, d1, d2, d3⟩, x, y⟩ := a; obtain ⟨r', ⟨c0', c1', c2', c3'⟩, ⟨d0', d1', d2', d3'⟩, x', y'⟩ := b
 simp [Ce.eqb, Co.eqb, eq4]
theorem eq_cell (d : Nat) (w : World) (s t : Ce) : (Op.equalIn (d + 3) 47 (.agg #[.int .i32 (s).rune, .int .u8 (s).col.r, .int .u8 (s).col.g, .int .u8 (s).col.b, .int .u8 (s).col.a, .int .u8 (s).back.r, .int .u8 (s).back.g, .int .u8 (s).back.b, .int .u8 (s).back.a, .bool (s).wide, .bool (s).tail]) (.agg #[.int .i32 (t).rune, .int .u8 (t).col.r, .int .u8 (t).col.g, .int .u8 (t).col.b, .int .u8 (t).col.a, .int .u8 (t).back.r, .int .u8 (t).back.g, .int .u8 (t).back.b, .int .u8 (t).back.a, .bool (t).wide, .bool (t).tail])).run Tryz.prog w = .ok (s.eqb t) w := by
 unfold Ce.eqb Co.eqb; have A := Tryz.underlying47; have K := Tryz.underlying21; have I := Tryz.underlying4; have C := Tryz.underlying34; rw [run_equalIn_agg w (d + 2) _ _ _ (by simp [Program.fieldsOf, A]) (by kernel_rfl)]; simp only [Program.fieldsOf, A]
 have z2 : Tryz.prog.cellsOf 34 = 4 := by kernel_rfl
 have y2 : Tryz.t34.size = 4 := by kernel_rfl
 have E0 : ∀ w a b, (Op.equalIn (d + 2) 21 (.int .i32 a) (.int .i32 b)).run Tryz.prog w = .ok (a == b) w := fun w a b => run_equalIn_int w (d + 1) _ _ _ a b K
 have E1 : ∀ w a b, (Op.equalIn (d + 2) 4 (.bool a) (.bool b)).run Tryz.prog w = .ok (a == b) w := fun w a b => run_equalIn_bool w (d + 1) _ a b I
 have E4 := eq_colour d; generalize hb0 : (s.rune == t.rune) = b0; generalize hb2 : eq4 s.col.r s.col.g s.col.b s.col.a t.col.r t.col.g t.col.b t.col.a = b2; generalize hb3 : eq4 s.back.r s.back.g s.back.b s.back.a t.back.r t.back.g t.back.b t.back.a = b3; generalize hb4 : (s.wide == t.wide) = b4; generalize hb5 : (s.tail == t.tail) = b5; simp only [Op.eqFields, Sem.run_bind, Sem.run_ite, part, isAgg, run_underlying K, run_underlying I, run_underlying C]
 simp [sizeOf, z2, y2, E0, E1, E4, hb0, hb2, hb3, hb4, hb5]
 cases b0 <;> cases b2 <;> cases b3 <;> cases b4 <;> cases b5 <;> simp
theorem neq_cell (w : World) (r c0 c1 c2 c3 d0 d1 d2 d3 r' c0' c1' c2' c3' d0' d1' d2' d3' : Int) (x y x' y' : Bool) :
  (binOp .neq 47 (.agg #[.int .i32 r, .int .u8 c0, .int .u8 c1, .int .u8 c2, .int .u8 c3, .int .u8 d0, .int .u8 d1, .int .u8 d2, .int .u8 d3, .bool x, .bool y]) (.agg #[.int .i32 r', .int .u8 c0', .int .u8 c1', .int .u8 c2', .int .u8 c3', .int .u8 d0', .int .u8 d1', .int .u8 d2', .int .u8 d3', .bool x', .bool y'])).run Tryz.prog w
   = .ok (.bool (!Ce.eqb ⟨r, ⟨c0, c1, c2, c3⟩, ⟨d0, d1, d2, d3⟩, x, y⟩ ⟨r', ⟨c0', c1', c2', c3'⟩, ⟨d0', d1', d2', d3'⟩, x', y'⟩)) w := by
 rw [run_neq_struct]; have h := eq_cell 9997 w ⟨r, ⟨c0, c1, c2, c3⟩, ⟨d0, d1, d2, d3⟩, x, y⟩ ⟨r', ⟨c0', c1', c2', c3'⟩, ⟨d0', d1', d2', d3'⟩, x', y'⟩; simp only at h; rw [h]
 rfl
theorem neq_size (w : World) (a b a' b' : Int) : (binOp .neq 24 (.agg #[.int .i64 a, .int .i64 b]) (.agg #[.int .i64 a', .int .i64 b'])).run Tryz.prog w = .ok (.bool (!((a == a') && (b == b')))) w := by
 rw [run_neq_struct]; have h := eq_size 9998 w a b a' b'; rw [h]
 rfl
attribute [local go_sem high] neq_cell neq_size
def sameC : List Ce → List Ce → Bool
 | [], [] => true
 | x :: xs, y :: ys => x.eqb y && sameC xs ys
 | _, _ => false
theorem sameC_iff : ∀ {xs ys : List Ce}, sameC xs ys = true ↔ xs = ys
 | [], [] => by simp [sameC]
 | [], _ :: _ => by simp [sameC]
 | _ :: _, [] => by simp [sameC]
 | x :: xs, y :: ys => by
  unfold sameC; rw [Bool.and_eq_true, Ce.eqb_iff, sameC_iff, List.cons.injEq]
theorem sameC_len {xs ys : List Ce} (h : xs.length ≠ ys.length) : sameC xs ys = false := by
 cases hs : sameC xs ys
 ·rfl
 ·rw [sameC_iff] at hs; exact absurd (by rw [hs]) h
theorem sameC_step {xs ys : List Ce} {k : Nat} {x y : Ce} (hx : xs[k]? = some x) (hy : ys[k]? = some y) : sameC (xs.drop k) (ys.drop k) = (x.eqb y && sameC (xs.drop (k + 1)) (ys.drop (k + 1))) := by
 rw [drop_get hx, drop_get hy]; rfl
def samS (a b : Int) (xs : List Ce) (a' b' : Int) (ys : List Ce) : Bool := ((a == a') && (b == b')) && sameC xs ys
theorem samS_iff {a b a' b' : Int} {xs ys : List Ce} : samS a b xs a' b' ys = true ↔ a = a' ∧ b = b' ∧ xs = ys := by
 unfold samS; rw [Bool.and_eq_true, Bool.and_eq_true, sameC_iff, beq_iff_eq, beq_iff_eq, and_assoc]
set_option maxRecDepth 100000 in
theorem csame_any (a b a' b' : Int) (xs ys : List Ce) (v1 v2 : Value) (w : World) (h1 : Row w.heap.size 11 Ce.enc w v1 xs) (h2 : Row w.heap.size 11 Ce.enc w v2 ys) : Calls Tryz.prog 16 #[.agg #[.int .i64 (a), .int .i64 (b), v1], .agg #[.int .i64 (a'), .int .i64 (b'), v2]] w fun e w' => e = .returned (.bool (samS a b xs a' b' ys)) ∧ Below w.heap.size w w' := by
 obtain ⟨s1, c1, rfl, hmax1⟩ := h1.shape; obtain ⟨s2, c2, rfl, hmax2⟩ := h2.shape
 have o1 := fun h0 => row_ce h1 h0
 have o2 := fun h0 => row_ce h2 h0
 clear h1 h2; obtain ⟨n, en⟩ := exx (xs.length); obtain ⟨m, em⟩ := exx (ys.length); obtain ⟨res, hres⟩ := exx (samS a b xs a' b' ys); rw [hres]; unfold samS at hres; obtain ⟨sz, hsz⟩ := exx (((a == a') && (b == b'))); rw [hsz] at hres; rw [en] at o1 hmax1 ⊢; rw [em] at o2 hmax2 ⊢; unfold maxLen at hmax1 hmax2
 cases sz
 ·rw [Bool.false_and] at hres
  subst hres; clear o1 o2
  go_enter Tryz.func16, Tryz.ntmps16
  go_wp2; go_ret; exact ⟨rfl, belt⟩
 rw [Bool.true_and] at hres
 by_cases hnm : n = m
 ·subst hnm
  replace o1 := hdh o1; replace o2 := hdh o2; replace en := hdh en; replace em := hdh em; have hgo := hdh (show sameC (xs.drop 0) (ys.drop 0) = res from hres); clear hres
  go_enter Tryz.func16, Tryz.ntmps16
  go_upto_region 3 with fail
  generalize hw1 : ((w.alloc (.cells #[.int .i64 a, .int .i64 b, .slice s1 n c1] 40)).alloc (.cells #[.int .i64 a', .int .i64 b', .slice s2 n c2] 40)) = w1
  have y1 : w.heap.size + 1 < w1.heap.size := by rw [← hw1]; simp
  have bz : Below w.heap.size w w1 := by rw [← hw1]; exact belt
  have B1 : Blk w1 w.heap.size [.int .i64 a, .int .i64 b, .slice s1 n c1] 40 := by rw [← hw1]; exact (Blk.new' rfl).alloc _
  have B2 : Blk w1 (w.heap.size + 1) [.int .i64 a', .int .i64 b', .slice s2 n c2] 40 := by rw [← hw1]; exact Blk.new' (by simp)
  have q1 : w1.cell? ⟨w.heap.size, 2, none⟩ = some (.slice s1 n c1) := B1.cell (o := 2) rfl; have q2 : w1.cell? ⟨w.heap.size + 1, 2, none⟩ = some (.slice s2 n c2) := B2.cell (o := 2) rfl; clear B1 B2; clear hw1; go_wp2
  go_loopw [5] (fun iv wr => ∃ k : Nat, k ≤ n ∧ iv = .int .i64 k ∧ Hid (sameC (xs.drop k) (ys.drop k) = res) ∧ Below w.heap.size w wr ∧ wr.cell? ⟨w.heap.size, 2, none⟩ = some (.slice s1 n c1) ∧ wr.cell? ⟨w.heap.size + 1, 2, none⟩ = some (.slice s2 n c2) ∧ w.heap.size + 1 < wr.heap.size) (fun i _ => n - (intOf i).toNat)
  case atStart => exact ⟨0, Nat.zero_le _, rfl, hgo, bz, q1, q2, y1⟩
  case round =>
   clear q1 q2 bz; obtain ⟨k, hk, rfl, hgo, hbr, q1, q2, yr⟩ := hrel
   have yr0 : w.heap.size < wr.heap.size := by omega
   have zr := hbr.size
   by_cases hkn : k < n
   ·obtain ⟨b, p, cap', e, hb, _, _, hel⟩ := o1.out (by omega)
    simp at e
    obtain ⟨rfl, rfl⟩ := e; obtain ⟨b', p', cap', e, hb', _, _, hex⟩ := o2.out (by omega)
    simp at e
    obtain ⟨rfl, rfl⟩ := e; obtain ⟨s, hs⟩ := get_at en.out hkn; obtain ⟨t, ht⟩ := get_at em.out hkn; obtain ⟨g0, g1, g2, g3, g4, g5, g6, g7, g8, g9, g10⟩ := CMem.below (hel k s hs) hbr hb; obtain ⟨j0, j1, j2, j3, j4, j5, j6, j7, j8, j9, j10⟩ := CMem.below (hex k t ht) hbr hb'; have hg := hgo.out; rw [sameC_step hs ht] at hg
    have hkk : (k : Int) < n := by omega
    have yb : b < wr.heap.size := by omega
    have yb' : b' < wr.heap.size := by omega
    clear hel hex hs ht; obtain ⟨kd, ⟨u0, u1, u2, u3⟩, ⟨r0, r1, r2, r3⟩, tx, nd⟩ := s; obtain ⟨kd', ⟨u0', u1', u2', u3'⟩, ⟨r0', r1', r2', r3'⟩, tx', nd'⟩ := t; simp only at g0 g1 g2 g3 g4 g5 g6 g7 g8 g9 g10 j0 j1 j2 j3 j4 j5 j6 j7 j8 j9 j10; obtain ⟨bb, hc⟩ := exx (Ce.eqb ⟨kd, ⟨u0, u1, u2, u3⟩, ⟨r0, r1, r2, r3⟩, tx, nd⟩ ⟨kd', ⟨u0', u1', u2', u3'⟩, ⟨r0', r1', r2', r3'⟩, tx', nd'⟩); rw [hc] at hg
    cases bb
    ·rw [Bool.false_and] at hg
     subst hg; go_wp2; refine rst (Held wr 0 []) ?_
     repeat (first | (refine' sdo ?_; simp only [pu]) | (refine spa ?_; simp only [pu]))
     refine wpSteady_nil (fun uA hSA => ?_); obtain ⟨hcA, hbA, hzA, hcoA, hfoA⟩ := hall hSA; clear hSA; simp only [Cells] at hcA; go_wp2; go_ret; exact ⟨rfl, hbr.trans (hbA.mono zr)⟩
    ·rw [Bool.true_and] at hg
     replace hg := hdh hg; go_wp2; refine rst (Held wr 0 []) ?_
     repeat (first | (refine' sdo ?_; simp only [pu]) | (refine spa ?_; simp only [pu]))
     refine wpSteady_nil (fun uA hSA => ?_); obtain ⟨hcA, hbA, hzA, hcoA, hfoA⟩ := hall hSA; clear hSA; simp only [Cells] at hcA; go_wp2; go_roundw
     case rel => exact ⟨k + 1, by omega, by go_num, hg, hbr.trans (hbA.mono zr), (hcoA _ _ yr0).trans q1, (hcoA _ _ yr).trans q2, by omega⟩
     case measure => simp [intOf]; omega
   ·obtain rfl : k = n := by omega
    have e1 : xs.drop k = [] := List.drop_eq_nil_of_le (by have := en.out; omega); have e2 : ys.drop k = [] := List.drop_eq_nil_of_le (by have := em.out; omega); have hg := hgo.out; rw [e1, e2] at hg; clear e1 e2; have hg : true = res := hg; subst hg; go_wp2; go_ret; exact ⟨rfl, hbr⟩
 ·rw [sameC_len (by rw [en, em]; exact hnm)] at hres
  subst hres
  have hni : ¬ (n : Int) = m := by omega
  have hnb : ((n : Int) != m) = true := by simp [hni]
  have hnb2 : ((n : Int) == m) = false := by simp [hni]
  clear o1 o2
  go_enter Tryz.func16, Tryz.ntmps16
  go_wp2; go_ret; exact ⟨rfl, belt⟩
end
section
def part (up down x y : Int) : Int := (up * x + down * y + (up + down) / 2) / (up + down)
theorem part_bd (up down x y : Int) (hx : U8 x) (hy : U8 y) (h1 : 0 ≤ up) (h3 : 0 ≤ down) (h5 : 0 < up + down) : U8 (part up down x y) := by
 obtain ⟨hx0, hx1⟩ := hx; obtain ⟨hy0, hy1⟩ := hy; unfold part U8; have m1 : 0 ≤ up * x := Int.mul_nonneg h1 hx0; have m2 : up * x ≤ up * 255 := Int.mul_le_mul_of_nonneg_left hx1 h1; have m3 : 0 ≤ down * y := Int.mul_nonneg h3 hy0; have m4 : down * y ≤ down * 255 := Int.mul_le_mul_of_nonneg_left hy1 h3; generalize up * x = p at *; generalize down * y = q at *; refine ⟨Int.ediv_nonneg (by omega) (by omega), ?_⟩
 have : p + q + (up + down) / 2 < 256 * (up + down) := by omega
 have := Int.ediv_lt_of_lt_mul h5 this; omega
theorem overPart (x y up down : Int) (bu bd bn ou od on : Nat) (w : World) (hx : U8 x) (hy : U8 y)
  (h1 : 0 ≤ up) (h2 : up ≤ 65025) (h3 : 0 ≤ down) (h4 : down ≤ 65025) (h5 : 0 < up + down)
  (hu : w.cell? ⟨bu, ou, none⟩ = some (.int .i64 up)) (hd : w.cell? ⟨bd, od, none⟩ = some (.int .i64 down)) (hn : w.cell? ⟨bn, on, none⟩ = some (.int .i64 (up + down))) :
  Calls Tryz.prog 146 #[.int .u8 x, .int .u8 y, .pointer (some ⟨bu, ou, none⟩), .pointer (some ⟨bd, od, none⟩), .pointer (some ⟨bn, on, none⟩)] w fun e w' =>
   e = .returned (.int .u8 (part up down x y)) ∧ w = w' := by
 have hbd := part_bd up down x y hx hy h1 h3 h5; unfold part at hbd ⊢; obtain ⟨hx0, hx1⟩ := hx; obtain ⟨hy0, hy1⟩ := hy; obtain ⟨b0, b1⟩ := hbd; have m1 : 0 ≤ up * x := Int.mul_nonneg h1 hx0; have m2 : up * x ≤ 65025 * 255 := Int.mul_le_mul h2 hx1 hx0 (by omega); have m3 : 0 ≤ down * y := Int.mul_nonneg h3 hy0; have m4 : down * y ≤ 65025 * 255 := Int.mul_le_mul h4 hy1 hy0 (by omega)
 go_enter Tryz.func146, Tryz.ntmps146
 go_wp2; go_ret; exact ⟨rfl, rfl⟩
def ov (aA bA x y : Int) : Int := if aA = 0 then y else part (255 * aA) ((255 - aA) * bA) x y
def ovA (aA bA : Int) : Int := if aA = 0 then bA else (255 * aA + (255 - aA) * bA + 127) / 255
theorem down_bd (aA bA : Int) (h1 : U8 aA) (h2 : U8 bA) : 0 ≤ (255 - aA) * bA ∧ (255 - aA) * bA ≤ (255 - aA) * 255 ∧ 255 * aA + (255 - aA) * bA ≤ 65025 := by
 obtain ⟨a, b⟩ := h1; obtain ⟨c, d⟩ := h2; have m1 : 0 ≤ (255 - aA) * bA := Int.mul_nonneg (by omega) c; have m2 : (255 - aA) * bA ≤ (255 - aA) * 255 := Int.mul_le_mul_of_nonneg_left d (by omega); exact ⟨m1, m2, by omega⟩
theorem ov_bd (aA bA x y : Int) (h1 : U8 aA) (h2 : U8 bA) (hx : U8 x) (hy : U8 y) : U8 (ov aA bA x y) := by
 obtain ⟨m1, m2, m3⟩ := down_bd aA bA h1 h2; unfold ov
 split
 ·exact hy
 ·have : 0 < aA := by have := h1.1; omega
  exact part_bd _ _ _ _ hx hy (by omega) m1 (by omega)
theorem ovA_bd (aA bA : Int) (h1 : U8 aA) (h2 : U8 bA) : U8 (ovA aA bA) := by
 obtain ⟨m1, m2, m3⟩ := down_bd aA bA h1 h2; obtain ⟨a, b⟩ := h1; unfold ovA
 split
 ·exact h2
 ·exact ⟨by omega, by omega⟩
theorem over_any (ar ag ab aA br bg bb bA : Int) (w : World) (h1 : U8 ar) (h2 : U8 ag) (h3 : U8 ab) (h4 : U8 aA) (h5 : U8 br) (h6 : U8 bg) (h7 : U8 bb) (h8 : U8 bA) :
  Calls Tryz.prog 102 #[.agg #[.int .u8 (ar), .int .u8 (ag), .int .u8 (ab), .int .u8 (aA)], .agg #[.int .u8 (br), .int .u8 (bg), .int .u8 (bb), .int .u8 (bA)]] w fun e w' =>
   e = .returned (.agg #[.int .u8 (ov aA bA ar br), .int .u8 (ov aA bA ag bg), .int .u8 (ov aA bA ab bb), .int .u8 (ovA aA bA)]) ∧ Below w.heap.size w w' := by
 by_cases h0 : aA = 0
 ·subst h0
  go_enter Tryz.func102, Tryz.ntmps102
  go_wp2; refine bodyPost_ret (v := .agg #[.int .u8 (br), .int .u8 (bg), .int .u8 (bb), .int .u8 (bA)]) (by simp [results, Tryz.results102, go_sem]) rfl ⟨by simp [ov, ovA], belt⟩
 ·obtain ⟨m1, m2, m3⟩ := down_bd aA bA h4 h8
  have a1 := ovA_bd aA bA h4 h8; obtain ⟨p0, p1⟩ := h4; obtain ⟨q0, q1⟩ := h8
  have hne : (aA == 0) = false := by simp; omega
  have hp : 0 < aA := by omega
  have e1 : ov aA bA ar br = part (255 * aA) ((255 - aA) * bA) ar br := if_neg h0; have e2 : ov aA bA ag bg = part (255 * aA) ((255 - aA) * bA) ag bg := if_neg h0; have e3 : ov aA bA ab bb = part (255 * aA) ((255 - aA) * bA) ab bb := if_neg h0; have e4 : ovA aA bA = (255 * aA + (255 - aA) * bA + 127) / 255 := if_neg h0; rw [e1, e2, e3, e4]; rw [e4] at a1; obtain ⟨a10, a11⟩ := a1; clear e1 e2 e3 e4 h0
  go_enter Tryz.func102, Tryz.ntmps102
  go_wp2; refine wp_region_steady_then (Held w 6 [(⟨w.heap.size, 0, none⟩, .int .u8 ar), (⟨w.heap.size, 1, none⟩, .int .u8 ag), (⟨w.heap.size, 2, none⟩, .int .u8 ab), (⟨w.heap.size + 1, 0, none⟩, .int .u8 br), (⟨w.heap.size + 1, 1, none⟩, .int .u8 bg), (⟨w.heap.size + 1, 2, none⟩, .int .u8 bb), (⟨w.heap.size + 1 + 1, 0, none⟩, .int .u8 0), (⟨w.heap.size + 1 + 1, 1, none⟩, .int .u8 0), (⟨w.heap.size + 1 + 1, 2, none⟩, .int .u8 0), (⟨w.heap.size + 1 + 1, 3, none⟩, .int .u8 0), (⟨w.heap.size + 1 + 1 + 1, 0, none⟩, .int .i64 (255 * aA)), (⟨w.heap.size + 1 + 1 + 1 + 1, 0, none⟩, .int .i64 ((255 - aA) * bA)), (⟨w.heap.size + 1 + 1 + 1 + 1 + 1, 0, none⟩, .int .i64 (255 * aA + (255 - aA) * bA))]) 23 (by kernel_rfl) (by kernel_rfl) (by decide) (by kernel_rfl) (by kernel_rfl) ⟨belt, (by (try simp) <;> omega), (by simp only [Cells]; go_simp)⟩ ?_
  simp only [List.take_succ_cons, List.take_zero]
  repeat (first | (refine' wpSteady_do _ _ _; rotate_left; (focus rfl); (focus (intro w1 hS R hR; have hc := hS.cells; simp only [Cells] at hc; go_simp; (try go_bits); first | exact hR _ hS | (refine (overPart _ _ (255 * aA) ((255 - aA) * bA) _ _ _ _ _ _ _ ‹_› ‹_› (by omega) (by omega) (by omega) (by omega) (by omega) (by simp only [hc]) (by simp only [hc]) (by simp only [hc])).mono ?_; rintro e w2 ⟨rfl, rfl⟩; exact ⟨_, rfl, hR _ hS⟩))); simp only [pu]) | (refine spa ?_; simp only [pu]))
  refine wpSteady_nil (fun w1 hS => ?_); have hc := hS.cells; have hb := hS.old; have hz := hS.size; clear hS; simp only [Cells] at hc; simp only [List.drop_succ_cons, List.drop_zero, List.drop_nil]; go_wp2; refine bodyPost_ret (v := .agg #[.int .u8 (part (255 * aA) ((255 - aA) * bA) ar br), .int .u8 (part (255 * aA) ((255 - aA) * bA) ag bg), .int .u8 (part (255 * aA) ((255 - aA) * bA) ab bb), .int .u8 ((255 * aA + (255 - aA) * bA + 127) / 255)]) (by simp [results, Tryz.results102, go_sem, hc]) rfl ⟨rfl, ?_⟩; exact belt
end
end Go.Proofs.YtfcphagmjijmkaaGreatDoor
namespace Go.Proofs
open Go.Shelf
def YtfcphagmjijmkaaGreatDoor.sortLays_ren : Go.Shelf.Ren := ⟨fun | 125 => 116 | 128 => 165 | 129 => 166 | 189 => 62 | 215 => 197 | 216 => 162 | 257 => 115 | 294 => 156 | 295 => 157 | 296 => 158 | 297 => 159 | 298 => 160 | 299 => 161 | 300 => 163 | 301 => 164 | 328 => 192 | 329 => 193 | 330 => 194 | 331 => 195 | 332 => 196 | 343 => 218 | n => n, fun | 0 => 0 | 3 => 3 | 4 => 4 | 5 => 5 | 9 => 9 | 28 => 52 | 46 => 137 | 51 => 184 | 53 => 187 | 131 => 223 | 182 => 218 | 183 => 219 | 218 => 254 | 222 => 216 | 228 => 278 | 229 => 141 | n => n, fun n => n⟩
set_option maxRecDepth 100000 in
theorem YtfcphagmjijmkaaGreatDoor.sortLays : Lays.n189 Tryz.prog YtfcphagmjijmkaaGreatDoor.sortLays_ren := {
 mixed := by kernel_rfl
 f125 := Tryz.func116.trans (congrArg some (by kernel_rfl))
 f128 := Tryz.func165.trans (congrArg some (by kernel_rfl))
 f129 := Tryz.func166.trans (congrArg some (by kernel_rfl))
 f189 := Tryz.func62.trans (congrArg some (by kernel_rfl))
 f215 := Tryz.func197.trans (congrArg some (by kernel_rfl))
 f216 := Tryz.func162.trans (congrArg some (by kernel_rfl))
 f257 := Tryz.func115.trans (congrArg some (by kernel_rfl))
 f294 := Tryz.func156.trans (congrArg some (by kernel_rfl))
 f295 := Tryz.func157.trans (congrArg some (by kernel_rfl))
 f296 := Tryz.func158.trans (congrArg some (by kernel_rfl))
 f297 := Tryz.func159.trans (congrArg some (by kernel_rfl))
 f298 := Tryz.func160.trans (congrArg some (by kernel_rfl))
 f299 := Tryz.func161.trans (congrArg some (by kernel_rfl))
 f300 := Tryz.func163.trans (congrArg some (by kernel_rfl))
 f301 := Tryz.func164.trans (congrArg some (by kernel_rfl))
 f328 := Tryz.func192.trans (congrArg some (by kernel_rfl))
 f329 := Tryz.func193.trans (congrArg some (by kernel_rfl))
 f330 := Tryz.func194.trans (congrArg some (by kernel_rfl))
 f331 := Tryz.func195.trans (congrArg some (by kernel_rfl))
 f332 := Tryz.func196.trans (congrArg some (by kernel_rfl))
 f343 := Tryz.func218.trans (congrArg some (by kernel_rfl))
 t0 := Tryz.underlying0
 a0 := Tryz.isAgg0
 z0 := Tryz.sizeOf0
 v0 := Tryz.zeroValue0
 t3 := Tryz.underlying3
 a3 := Tryz.isAgg3
 z3 := Tryz.sizeOf3
 v3 := Tryz.zeroValue3
 t4 := Tryz.underlying4
 a4 := Tryz.isAgg4
 z4 := Tryz.sizeOf4
 v4 := Tryz.zeroValue4
 t5 := Tryz.underlying5
 a5 := Tryz.isAgg5
 z5 := Tryz.sizeOf5
 v5 := Tryz.zeroValue5
 t9 := Tryz.underlying9
 a9 := Tryz.isAgg9
 z9 := Tryz.sizeOf9
 v9 := Tryz.zeroValue9
 t28 := Tryz.underlying52
 a28 := Tryz.isAgg52
 z28 := Tryz.sizeOf52
 v28 := Tryz.zeroValue52
 t46 := Tryz.underlying137
 a46 := Tryz.isAgg137
 z46 := Tryz.sizeOf137
 v46 := Tryz.zeroValue137
 t51 := Tryz.underlying184
 a51 := Tryz.isAgg184
 z51 := Tryz.sizeOf184
 v51 := Tryz.zeroValue184
 t53 := Tryz.underlying187
 a53 := Tryz.isAgg187
 z53 := Tryz.sizeOf187
 v53 := Tryz.zeroValue187
 t131 := Tryz.underlying223
 a131 := Tryz.isAgg223
 z131 := Tryz.sizeOf223
 v131 := Tryz.zeroValue223
 t182 := Tryz.underlying218
 a182 := Tryz.isAgg218
 z182 := Tryz.sizeOf218
 v182 := Tryz.zeroValue218
 t183 := Tryz.underlying219
 a183 := Tryz.isAgg219
 z183 := Tryz.sizeOf219
 v183 := Tryz.zeroValue219
 t218 := Tryz.underlying254
 a218 := Tryz.isAgg254
 z218 := Tryz.sizeOf254
 v218 := Tryz.zeroValue254
 t222 := Tryz.underlying216
 a222 := Tryz.isAgg216
 z222 := Tryz.sizeOf216
 v222 := Tryz.zeroValue216
 t228 := Tryz.underlying278
 a228 := Tryz.isAgg278
 z228 := Tryz.sizeOf278
 v228 := Tryz.zeroValue278
 t229 := Tryz.underlying141
 a229 := Tryz.isAgg141
 z229 := Tryz.sizeOf141
 v229 := Tryz.zeroValue141 }
def YtfcphagmjijmkaaGreatDoor.compactLays_ren : Go.Shelf.Ren := ⟨fun | 20 => 63 | n => n, fun | 0 => 0 | 3 => 3 | 4 => 4 | 22 => 52 | n => n, fun n => n⟩
set_option maxRecDepth 100000 in
theorem YtfcphagmjijmkaaGreatDoor.compactLays : Lays2.n20 Tryz.prog YtfcphagmjijmkaaGreatDoor.compactLays_ren := {
 mixed := by kernel_rfl
 f20 := Tryz.func63.trans (congrArg some (by kernel_rfl))
 t0 := Tryz.underlying0
 a0 := Tryz.isAgg0
 z0 := Tryz.sizeOf0
 v0 := Tryz.zeroValue0
 t3 := Tryz.underlying3
 a3 := Tryz.isAgg3
 z3 := Tryz.sizeOf3
 v3 := Tryz.zeroValue3
 t4 := Tryz.underlying4
 a4 := Tryz.isAgg4
 z4 := Tryz.sizeOf4
 v4 := Tryz.zeroValue4
 t22 := Tryz.underlying52
 a22 := Tryz.isAgg52
 z22 := Tryz.sizeOf52
 v22 := Tryz.zeroValue52
 i3 := by kernel_rfl }
def YtfcphagmjijmkaaGreatDoor.sortFuncLays_ren : Go.Shelf.Ren := ⟨fun | 6 => 223 | 14 => 235 | 15 => 116 | 20 => 242 | 21 => 243 | 22 => 244 | 23 => 245 | 24 => 246 | 25 => 247 | 26 => 248 | 27 => 249 | 28 => 165 | 29 => 166 | 46 => 252 | 47 => 193 | 48 => 194 | 49 => 253 | 50 => 254 | 57 => 255 | n => n, fun | 0 => 0 | 3 => 3 | 4 => 4 | 5 => 5 | 9 => 9 | 22 => 242 | 24 => 244 | 25 => 286 | 39 => 137 | 45 => 218 | 46 => 219 | 50 => 223 | 53 => 184 | 55 => 187 | 66 => 254 | 70 => 216 | 76 => 278 | 77 => 141 | n => n, fun n => n⟩
set_option maxRecDepth 100000 in
theorem YtfcphagmjijmkaaGreatDoor.sortFuncLays : SlLaysF0.n6 Tryz.prog YtfcphagmjijmkaaGreatDoor.sortFuncLays_ren := {
 mixed := by kernel_rfl
 f6 := ⟨Tryz.f223.name, by decide, Tryz.func223.trans (congrArg some (by kernel_rfl))⟩
 f14 := ⟨Tryz.f235.name, by decide, Tryz.func235.trans (congrArg some (by kernel_rfl))⟩
 f15 := Tryz.func116.trans (congrArg some (by kernel_rfl))
 f20 := ⟨Tryz.f242.name, by decide, Tryz.func242.trans (congrArg some (by kernel_rfl))⟩
 f21 := ⟨Tryz.f243.name, by decide, Tryz.func243.trans (congrArg some (by kernel_rfl))⟩
 f22 := ⟨Tryz.f244.name, by decide, Tryz.func244.trans (congrArg some (by kernel_rfl))⟩
 f23 := ⟨Tryz.f245.name, by decide, Tryz.func245.trans (congrArg some (by kernel_rfl))⟩
 f24 := ⟨Tryz.f246.name, by decide, Tryz.func246.trans (congrArg some (by kernel_rfl))⟩
 f25 := ⟨Tryz.f247.name, by decide, Tryz.func247.trans (congrArg some (by kernel_rfl))⟩
 f26 := ⟨Tryz.f248.name, by decide, Tryz.func248.trans (congrArg some (by kernel_rfl))⟩
 f27 := ⟨Tryz.f249.name, by decide, Tryz.func249.trans (congrArg some (by kernel_rfl))⟩
 f28 := Tryz.func165.trans (congrArg some (by kernel_rfl))
 f29 := Tryz.func166.trans (congrArg some (by kernel_rfl))
 f46 := ⟨Tryz.f252.name, by decide, Tryz.func252.trans (congrArg some (by kernel_rfl))⟩
 f47 := Tryz.func193.trans (congrArg some (by kernel_rfl))
 f48 := Tryz.func194.trans (congrArg some (by kernel_rfl))
 f49 := ⟨Tryz.f253.name, by decide, Tryz.func253.trans (congrArg some (by kernel_rfl))⟩
 f50 := ⟨Tryz.f254.name, by decide, Tryz.func254.trans (congrArg some (by kernel_rfl))⟩
 f57 := ⟨Tryz.f255.name, by decide, Tryz.func255.trans (congrArg some (by kernel_rfl))⟩
 t0 := Tryz.underlying0
 a0 := Tryz.isAgg0
 z0 := Tryz.sizeOf0
 v0 := Tryz.zeroValue0
 t3 := Tryz.underlying3
 a3 := Tryz.isAgg3
 z3 := Tryz.sizeOf3
 v3 := Tryz.zeroValue3
 t4 := Tryz.underlying4
 a4 := Tryz.isAgg4
 z4 := Tryz.sizeOf4
 v4 := Tryz.zeroValue4
 t5 := Tryz.underlying5
 a5 := Tryz.isAgg5
 z5 := Tryz.sizeOf5
 v5 := Tryz.zeroValue5
 t9 := Tryz.underlying9
 a9 := Tryz.isAgg9
 z9 := Tryz.sizeOf9
 v9 := Tryz.zeroValue9
 t22 := Tryz.underlying242
 a22 := Tryz.isAgg242
 z22 := Tryz.sizeOf242
 v22 := Tryz.zeroValue242
 t25 := Tryz.underlying286
 a25 := Tryz.isAgg286
 z25 := Tryz.sizeOf286
 v25 := Tryz.zeroValue286
 t39 := Tryz.underlying137
 a39 := Tryz.isAgg137
 z39 := Tryz.sizeOf137
 v39 := Tryz.zeroValue137
 t45 := Tryz.underlying218
 a45 := Tryz.isAgg218
 z45 := Tryz.sizeOf218
 v45 := Tryz.zeroValue218
 t46 := Tryz.underlying219
 a46 := Tryz.isAgg219
 z46 := Tryz.sizeOf219
 v46 := Tryz.zeroValue219
 t50 := Tryz.underlying223
 a50 := Tryz.isAgg223
 z50 := Tryz.sizeOf223
 v50 := Tryz.zeroValue223
 t53 := Tryz.underlying184
 a53 := Tryz.isAgg184
 z53 := Tryz.sizeOf184
 v53 := Tryz.zeroValue184
 t55 := Tryz.underlying187
 a55 := Tryz.isAgg187
 z55 := Tryz.sizeOf187
 v55 := Tryz.zeroValue187
 t66 := Tryz.underlying254
 a66 := Tryz.isAgg254
 z66 := Tryz.sizeOf254
 v66 := Tryz.zeroValue254
 t70 := Tryz.underlying216
 a70 := Tryz.isAgg216
 z70 := Tryz.sizeOf216
 v70 := Tryz.zeroValue216
 t76 := Tryz.underlying278
 a76 := Tryz.isAgg278
 z76 := Tryz.sizeOf278
 v76 := Tryz.zeroValue278
 t77 := Tryz.underlying141
 a77 := Tryz.isAgg141
 z77 := Tryz.sizeOf141
 v77 := Tryz.zeroValue141 }
end Go.Proofs
