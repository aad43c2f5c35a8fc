/-
  Cells: the document's Check; the number of a place; a cell at a place.
-/
import Derived.Shelf.Unicode.DecodeSlow
import Derived.Test.YtffmomgmkpmpkaaGreatDoorProg
import Derived.Test.YtffmomgmkpmpkaaGreatDoorKu6
namespace Go.Proofs.YtffmomgmkpmpkaaGreatDoor
open Go.RowKit
set_option linter.unusedVariables false
attribute [local go_sem] vwp vUpon_value vUpon_skip vUpon_enter vUpon_row
set_option linter.unusedSimpArgs false
set_option linter.unusedVariables false
theorem Ce.enc_one (c : Ce) : ∀ u ∈ c.enc, u.oneCell' = true := by
  intro u hu
  simp only [Ce.enc, Co.enc, List.mem_append, List.mem_cons, List.not_mem_nil, or_false] at hu
  rcases hu with ((rfl | rfl | rfl | rfl | rfl) | rfl | rfl | rfl | rfl) | rfl | rfl <;> rfl
def OwnsC (base : Nat) (w : World) (v : Value) (l : List Ce) : Prop := w.ownsRow base 52 11 v l.length (l.flatMap Ce.enc)
theorem OwnsC.row {base B : Nat} {w : World} {v : Value} {l : List Ce} (h : OwnsC base w v l) (hB : w.heap.size ≤ B) : Row B 11 Ce.enc w v l := Row.own Ce.enc_len h hB (by omega)
theorem OwnsC.below {base B : Nat} {w w' : World} {v : Value} {l : List Ce} (h : OwnsC base w v l) (hb : Below B w w') (hB : w.heap.size ≤ B) : OwnsC base w' v l := ownsRow_below h hb hB
theorem OwnsC.nil (base : Nat) (w : World) : OwnsC base w (.slice none 0 0) [] := World.ownsRow_nil _ _ _ _
theorem infoCe : (Tryz.prog.info? 52).map (fun i => (i.zero, i.size, i.bytes)) = some (some (.agg #[.int .i32 0, .int .u8 0, .int .u8 0, .int .u8 0, .int .u8 0, .int .u8 0, .int .u8 0, .int .u8 0, .int .u8 0, .bool false, .bool false]), 11, 16) := by kernel_rfl
/-- A store of a whole cell. -/
theorem Blk.put11 {w : World} {b : Nat} {cs : List Value} {e : TypeId} (h : Blk w b cs e) (hl : cs.length = 11) (v0 v1 v2 v3 v4 v5 v6 v7 v8 v9 v10 : Value) :
    Blk ((((((((((((w).setCell ⟨b, 0, none⟩ v0).setCell ⟨b, 1, none⟩ v1).setCell ⟨b, 2, none⟩ v2).setCell ⟨b, 3, none⟩ v3).setCell ⟨b, 4, none⟩ v4).setCell ⟨b, 5, none⟩ v5).setCell ⟨b, 6, none⟩ v6).setCell ⟨b, 7, none⟩ v7).setCell ⟨b, 8, none⟩ v8).setCell ⟨b, 9, none⟩ v9).setCell ⟨b, 10, none⟩ v10) b [v0, v1, v2, v3, v4, v5, v6, v7, v8, v9, v10] e := by
  have h2 := ((((((((((h.set 0 v0).set 1 v1).set 2 v2).set 3 v3).set 4 v4).set 5 v5).set 6 v6).set 7 v7).set 8 v8).set 9 v9).set 10 v10
  match cs, hl with
  | [a0, a1, a2, a3, a4, a5, a6, a7, a8, a9, a10], _ => exact h2
theorem put11_below {w0 w : World} {B b : Nat} (h : Below B w0 w) (hb : B ≤ b) (v0 v1 v2 v3 v4 v5 v6 v7 v8 v9 v10 : Value) : Below B w0 ((((((((((((w).setCell ⟨b, 0, none⟩ v0).setCell ⟨b, 1, none⟩ v1).setCell ⟨b, 2, none⟩ v2).setCell ⟨b, 3, none⟩ v3).setCell ⟨b, 4, none⟩ v4).setCell ⟨b, 5, none⟩ v5).setCell ⟨b, 6, none⟩ v6).setCell ⟨b, 7, none⟩ v7).setCell ⟨b, 8, none⟩ v8).setCell ⟨b, 9, none⟩ v9).setCell ⟨b, 10, none⟩ v10) :=
  ((((((((((h.setCell hb v0).setCell hb v1).setCell hb v2).setCell hb v3).setCell hb v4).setCell hb v5).setCell hb v6).setCell hb v7).setCell hb v8).setCell hb v9).setCell hb v10
def r150 (b : Bool) : Int := if b then 0 else 150
set_option maxHeartbeats 4000000 in
theorem crcheck_any (wd ht : Int) (l : List Ce) (v : Value) (w : World) (h1 : I64 wd) (h2 : I64 ht) (hl : Row w.heap.size 11 Ce.enc w v l) : Calls Tryz.prog 16 #[.agg #[.int .i64 (wd), .int .i64 (ht), v]] w fun e w' => e = .returned (.int .i64 (chkS wd ht l)) ∧ Below w.heap.size w w' := by
 obtain ⟨R, hR⟩ : ∃ R, chkS wd ht l = R := ⟨_, rfl⟩
 rw [hR]
 unfold chkS at hR
 have X := rsize_any wd ht
 obtain ⟨P, hP⟩ : ∃ P, wd * ht = P := ⟨_, rfl⟩
 rw [hP] at hR
 obtain ⟨s0, cap, rfl, hmax⟩ := hl.shape
 have hopen := fun h0 => row_ce hl h0
 obtain ⟨n, en⟩ : ∃ n, l.length = n := ⟨_, rfl⟩
 rw [en] at hR hmax hopen
 unfold maxLen at hmax
 replace hopen := Lib.hid hopen
 replace en := Lib.hid en
 clear hl
 go_enter Tryz.func16, Tryz.ntmps16
 rw [en.out]
 cases hf : fitsS wd ht
 ·rw [hf] at X hR
  have : R = 150 := by rw [← hR]; simp
  subst this
  replace X := Lib.hid X
  go_wp2_with (go_at_call 52; (with_reducible refine (X.out _ ‹_› ‹_›).mono ?_); rintro e w1 ⟨rfl, hb1⟩; obtain ⟨hc1, hf1⟩ := bcell hb1; have hz1 := hb1.size; (try simp at hz1); (try have lt1 : w.heap.size < w1.heap.size := (by omega)))
  go_ret
  exact ⟨rfl, belt⟩
 ·rw [hf] at X hR
  obtain ⟨a1, a2, a3, a4, a5⟩ := fitsS_true.1 hf
  have bd := mul_bd a1 a2 a3 a4
  rw [hP] at bd a5
  replace X := Lib.hid X
  by_cases c : (n : Int) = P
  ·have hgo := Lib.hid (show r150 ((l.drop 0).all mayC) = R by rw [← hR]; simp [r150, c])
   clear hR hf
   have cb : ((n : Int) != P) = false := by simp [c]
   go_upto_region 2 with (go_at_call 52; (with_reducible refine (X.out _ ‹_› ‹_›).mono ?_); rintro e w1 ⟨rfl, hb1⟩; obtain ⟨hc1, hf1⟩ := bcell hb1; have hz1 := hb1.size; (try simp at hz1); (try have lt1 : w.heap.size < w1.heap.size := (by omega)))
   have y1 : w.heap.size < w1.heap.size := by omega
   have bz : Below w.heap.size w w1 := belt
   have q2 : w1.cell? ⟨w.heap.size, 2, none⟩ = some (.slice s0 n cap) := by go_simp
   clear hc1 hf1 hb1 hz1 X
   go_wp2
   go_loopw [3] (fun iv wr => ∃ k : Nat, k ≤ n ∧ iv = .int .i64 k ∧ Hid (r150 ((l.drop k).all mayC) = R) ∧ Below w.heap.size w wr ∧ wr.cell? ⟨w.heap.size, 2, none⟩ = some (.slice s0 n cap) ∧ w.heap.size < wr.heap.size) (fun iv _ => n - (intOf iv).toNat)
   case atStart => exact ⟨0, Nat.zero_le _, rfl, hgo, bz, q2, y1⟩
   case round =>
    clear q2 bz
    obtain ⟨k, hk, rfl, hgo, hbr, q2, yr⟩ := hrel
    have zr := hbr.size
    by_cases hkn : k < n
    ·obtain ⟨b, o, cap', e, hb, _, _, hel⟩ := hopen.out (by omega)
     simp at e
     obtain ⟨rfl, rfl⟩ := e
     obtain ⟨s, hs⟩ := get_at en.out hkn
     obtain ⟨g0, g1, g2, g3, g4, g5, g6, g7, g8, g9, g10⟩ := CMem.below (hel k s hs) hbr hb
     have A := crcell_any s
     have hg := hgo.out
     rw [allC_step hs] at hg
     have hkk : (k : Int) < n := by omega
     have yb : b < wr.heap.size := by omega
     clear hel hs
     generalize mayC s = r at A hg
     replace A := Lib.hid A
     cases r
     ·rw [Bool.false_and] at hg
      subst hg
      go_wp2_with (go_at_call 53; (with_reducible refine (A.out _).mono ?_); rintro e w2 ⟨rfl, hb2⟩; obtain ⟨hc2, hf2⟩ := bcell hb2; have hz2 := hb2.size; (try simp at hz2); (try have lt2 : w.heap.size < w2.heap.size := (by omega)))
      go_ret
      exact ⟨rfl, belt⟩
     ·rw [Bool.true_and] at hg
      replace hg := Lib.hid hg
      go_wp2_with (go_at_call 53; (with_reducible refine (A.out _).mono ?_); rintro e w2 ⟨rfl, hb2⟩; obtain ⟨hc2, hf2⟩ := bcell hb2; have hz2 := hb2.size; (try simp at hz2); (try have lt2 : w.heap.size < w2.heap.size := (by omega)))
      go_roundw
      case rel => exact ⟨k + 1, by omega, by go_num, hg, belt, (hc2 _ _ yr).trans q2, by omega⟩
      case measure => simp [intOf]; omega
    ·obtain rfl : k = n := by omega
     have hg := hgo.out
     rw [List.drop_eq_nil_of_le (by have := en.out; omega)] at hg
     have hg : 0 = R := hg
     subst hg
     go_wp2
     go_ret
     exact ⟨rfl, hbr⟩
  ·have : R = 150 := by rw [← hR]; simp [c]
   subst this
   have cb : ((n : Int) != P) = true := by simp [c]
   have cb2 : ((n : Int) == P) = false := by simp [c]
   go_wp2_with (go_at_call 52; (with_reducible refine (X.out _ ‹_› ‹_›).mono ?_); rintro e w1 ⟨rfl, hb1⟩; obtain ⟨hc1, hf1⟩ := bcell hb1; have hz1 := hb1.size; (try simp at hz1); (try have lt1 : w.heap.size < w1.heap.size := (by omega)))
   go_ret
   exact ⟨rfl, belt⟩
/-! ### places -/
def plcS (wd ht x y : Int) : Bool := decide (0 ≤ x) && decide (0 ≤ y) && decide (x < wd) && decide (y < ht)
theorem plcS_true {wd ht x y : Int} : plcS wd ht x y = true ↔ (0 ≤ x ∧ 0 ≤ y ∧ x < wd ∧ y < ht) := by
  unfold plcS
  simp only [Bool.and_eq_true, decide_eq_true_eq]
  constructor
  · rintro ⟨⟨⟨a, b⟩, c⟩, d⟩; exact ⟨a, b, c, d⟩
  · rintro ⟨a, b, c, d⟩; exact ⟨⟨⟨a, b⟩, c⟩, d⟩
def idxS (wd ht x y : Int) : Int := if plcS wd ht x y then y * wd + x else -1
theorem row_end {wd ht y : Int} (h0 : 0 ≤ wd) (h1 : 0 ≤ y) (h2 : y < ht) : 0 ≤ y * wd ∧ y * wd + wd ≤ wd * ht := by
  have : (y + 1) * wd ≤ ht * wd := Int.mul_le_mul_of_nonneg_right (by omega) h0
  rw [Int.add_mul, Int.one_mul, Int.mul_comm ht] at this
  exact ⟨Int.mul_nonneg h1 h0, this⟩
set_option maxHeartbeats 4000000 in
theorem rplace_any (wd ht x y : Int) (v : Value) (w : World) : Calls Tryz.prog 59 #[.agg #[.int .i64 (wd), .int .i64 (ht), v], .agg #[.int .i64 (x), .int .i64 (y)]] w fun e w' => e = .returned (.bool (plcS wd ht x y)) ∧ Below w.heap.size w w' := by
 obtain ⟨R, hR⟩ : ∃ R, plcS wd ht x y = R := ⟨_, rfl⟩
 rw [hR]
 unfold plcS at hR
 go_enter Tryz.func59, Tryz.ntmps59
 by_cases a1 : 0 ≤ x
 ·by_cases a2 : 0 ≤ y
  ·by_cases a3 : x < wd
   ·by_cases a4 : y < ht
    ·have : R = true := by rw [← hR]; simp [a1, a2, a3, a4]
     subst this
     clear hR
     go_wp2
     go_ret
     exact ⟨rfl, (by repeat (first | exact Below.refl _ _ | assumption | refine Below.drew ?_ | refine Below.alloc ?_ (by (try simp) <;> omega) _ | refine Below.setCell ?_ (by (try simp) <;> omega) _))⟩
    ·have : R = false := by rw [← hR]; simp [a4]
     subst this
     clear hR
     go_wp2
     go_ret
     exact ⟨rfl, (by repeat (first | exact Below.refl _ _ | assumption | refine Below.drew ?_ | refine Below.alloc ?_ (by (try simp) <;> omega) _ | refine Below.setCell ?_ (by (try simp) <;> omega) _))⟩
   ·have : R = false := by rw [← hR]; simp [a3]
    subst this
    clear hR
    go_wp2
    go_ret
    exact ⟨rfl, (by repeat (first | exact Below.refl _ _ | assumption | refine Below.drew ?_ | refine Below.alloc ?_ (by (try simp) <;> omega) _ | refine Below.setCell ?_ (by (try simp) <;> omega) _))⟩
  ·have : R = false := by rw [← hR]; simp [a2]
   subst this
   clear hR
   go_wp2
   go_ret
   exact ⟨rfl, (by repeat (first | exact Below.refl _ _ | assumption | refine Below.drew ?_ | refine Below.alloc ?_ (by (try simp) <;> omega) _ | refine Below.setCell ?_ (by (try simp) <;> omega) _))⟩
 ·have : R = false := by rw [← hR]; simp [a1]
  subst this
  clear hR
  go_wp2
  go_ret
  exact ⟨rfl, (by repeat (first | exact Below.refl _ _ | assumption | refine Below.drew ?_ | refine Below.alloc ?_ (by (try simp) <;> omega) _ | refine Below.setCell ?_ (by (try simp) <;> omega) _))⟩
set_option maxHeartbeats 4000000 in
theorem cindex_any (wd ht x y : Int) (v : Value) (w : World) (hfit : fitsS wd ht = true) : Calls Tryz.prog 58 #[.agg #[.int .i64 (wd), .int .i64 (ht), v], .agg #[.int .i64 (x), .int .i64 (y)]] w fun e w' => e = .returned (.int .i64 (idxS wd ht x y)) ∧ Below w.heap.size w w' := by
 obtain ⟨R, hR⟩ : ∃ R, idxS wd ht x y = R := ⟨_, rfl⟩
 rw [hR]
 unfold idxS plcS at hR
 obtain ⟨f1, f2, f3, f4, f5⟩ := fitsS_true.1 hfit
 clear hfit
 go_enter Tryz.func58, Tryz.ntmps58
 by_cases a1 : x < 0
 ·have : R = -1 := by rw [← hR]; simp; omega
  subst this
  clear hR
  go_wp2
  go_ret
  exact ⟨rfl, (by repeat (first | exact Below.refl _ _ | assumption | refine Below.drew ?_ | refine Below.alloc ?_ (by (try simp) <;> omega) _ | refine Below.setCell ?_ (by (try simp) <;> omega) _))⟩
 ·by_cases a3 : x ≥ wd
  ·have : R = -1 := by rw [← hR]; simp; omega
   subst this
   clear hR
   go_wp2
   go_ret
   exact ⟨rfl, (by repeat (first | exact Below.refl _ _ | assumption | refine Below.drew ?_ | refine Below.alloc ?_ (by (try simp) <;> omega) _ | refine Below.setCell ?_ (by (try simp) <;> omega) _))⟩
  ·by_cases a2 : y < 0
   ·have : R = -1 := by rw [← hR]; simp; omega
    subst this
    clear hR
    go_wp2
    go_ret
    exact ⟨rfl, (by repeat (first | exact Below.refl _ _ | assumption | refine Below.drew ?_ | refine Below.alloc ?_ (by (try simp) <;> omega) _ | refine Below.setCell ?_ (by (try simp) <;> omega) _))⟩
   ·by_cases a4 : y ≥ ht
    ·have : R = -1 := by rw [← hR]; simp; omega
     subst this
     clear hR
     go_wp2
     go_ret
     exact ⟨rfl, (by repeat (first | exact Below.refl _ _ | assumption | refine Below.drew ?_ | refine Below.alloc ?_ (by (try simp) <;> omega) _ | refine Below.setCell ?_ (by (try simp) <;> omega) _))⟩
    ·have hR : y * wd + x = R := by rw [← hR]; simp; omega
     obtain ⟨e1, e2⟩ := row_end (wd := wd) (ht := ht) (y := y) f1 (by omega) (by omega)
     obtain ⟨P, hP⟩ : ∃ P, y * wd = P := ⟨_, rfl⟩
     rw [hP] at hR e1 e2
     obtain ⟨Z, hZ⟩ : ∃ Z, wd * ht = Z := ⟨_, rfl⟩
     rw [hZ] at e2 f5
     clear hZ
     go_wp2
     go_ret
     exact ⟨rfl, (by repeat (first | exact Below.refl _ _ | assumption | refine Below.drew ?_ | refine Below.alloc ?_ (by (try simp) <;> omega) _ | refine Below.setCell ?_ (by (try simp) <;> omega) _))⟩
end Go.Proofs.YtffmomgmkpmpkaaGreatDoor

namespace Go.Proofs.YtffmomgmkpmpkaaGreatDoor
open Go.RowKit
set_option linter.unusedVariables false
attribute [local go_sem] vwp vUpon_value vUpon_skip vUpon_enter vUpon_row
set_option linter.unusedSimpArgs false
set_option linter.unusedVariables false
/-- k numbers with semicolons between, and the byte behind them: the numbers, what is left. -/
def numsP (most : Int) (e : UInt8) : Nat → List UInt8 → Option (List Int × List UInt8)
  | 0, l => some ([], l)
  | k + 1, l => match numP most l with
    | none => none
    | some (n, i) => match l.drop i with
      | [] => none
      | c :: r => if c = (if k = 0 then e else 59) then (match numsP most e k r with | none => none | some (ns, r') => some (n :: ns, r')) else none
/-! ### the document's way to read numbers -/
def digB (c : UInt8) : Bool := decide (48 ≤ c.toNat) && decide (c.toNat ≤ 57)
def valL (n : Int) (ds : List UInt8) : Int := ds.foldl (fun n c => n * 10 + ((c.toNat : Int) - 48)) n
theorem valL_ge : ∀ (ds : List UInt8) (n : Int), 0 ≤ n → (∀ c ∈ ds, digB c = true) → n ≤ valL n ds
  | [], n, _, _ => by simp [valL]
  | c :: r, n, h0, h => by
    have hc := h c List.mem_cons_self
    simp only [digB, Bool.and_eq_true, decide_eq_true_eq] at hc
    have := valL_ge r (n * 10 + ((c.toNat : Int) - 48)) (by omega) (fun x hx => h x (List.mem_cons_of_mem _ hx))
    have e : valL n (c :: r) = valL (n * 10 + ((c.toNat : Int) - 48)) r := rfl
    omega
/-- What the program's reading does, by the figures in front. -/
theorem numGo_run (most : Int) : ∀ (l : List UInt8) (i : Nat) (n : Int), 0 ≤ n → 
    (valL n (l.takeWhile digB) ≤ most → numGo most l i n = (i + (l.takeWhile digB).length, valL n (l.takeWhile digB))) ∧
    (most < valL n (l.takeWhile digB) → most < (numGo most l i n).2)
  | [], i, n, h0 => by simp [numGo, valL]
  | c :: r, i, n, h0 => by
    rw [numGo]
    by_cases hc : digB c = true
    · have hd := hc
      simp only [digB, Bool.and_eq_true, decide_eq_true_eq] at hd
      rw [List.takeWhile_cons_of_pos hc]
      have e : valL n (c :: r.takeWhile digB) = valL (n * 10 + ((c.toNat : Int) - 48)) (r.takeWhile digB) := rfl
      rw [e]
      have ih := numGo_run most r (i + 1) (n * 10 + ((c.toNat : Int) - 48)) (by omega)
      have hge := valL_ge (r.takeWhile digB) (n * 10 + ((c.toNat : Int) - 48)) (by omega) (fun x hx => by have := List.all_takeWhile (p := digB) (l := r); exact List.all_eq_true.1 this x hx)
      by_cases hn : n ≤ most
      · rw [if_pos ⟨hd.1, hd.2, hn⟩]
        refine ⟨fun h => ?_, ih.2⟩
        rw [ih.1 h]
        simp only [List.length_cons]
        congr 1
        omega
      · rw [if_neg (fun h => hn h.2.2)]
        exact ⟨fun h => by omega, fun _ => by simp; omega⟩
    · rw [List.takeWhile_cons_of_neg hc, if_neg (fun h => hc (by simp [digB, h.1, h.2.1]))]
      simp [valL]
theorem numP_run (most : Int) (l : List UInt8) (n : Int) (i : Nat) :
  numP most l = some (n, i) ↔ (l.takeWhile digB ≠ [] ∧ ¬ (1 < (l.takeWhile digB).length ∧ (l.takeWhile digB)[0]? = some 48) ∧ valL 0 (l.takeWhile digB) ≤ most ∧ n = valL 0 (l.takeWhile digB) ∧ i = (l.takeWhile digB).length) := by
 have h := numGo_run most l 0 0 (Int.le_refl _)
 have hz : ∀ k, 0 < (l.takeWhile digB).length → ((l.takeWhile digB)[0]? = some k ↔ l[0]? = some k) := by
  intro k hk
  cases l with
  | nil => simp at hk
  | cons c r =>
   by_cases hc : digB c = true
   ·rw [List.takeWhile_cons_of_pos hc]; simp
   ·rw [List.takeWhile_cons_of_neg hc] at hk; simp at hk
 have hl : l.takeWhile digB ≠ [] ↔ (l.takeWhile digB).length ≠ 0 := by simp
 unfold numP
 by_cases hv : valL 0 (l.takeWhile digB) ≤ most
 ·rw [h.1 hv]
  simp only [Nat.zero_add]
  rw [hl]
  generalize hL : (l.takeWhile digB).length = L at *
  by_cases c1 : L = 0
  ·simp [c1]
  ·by_cases c2 : 1 < L ∧ l[0]? = some 48
   ·rw [if_pos (.inr (.inr c2))]
    have := hz 48 (by omega)
    simp [this, c2]
   ·rw [if_neg (by intro h; rcases h with h | h | h; exact c1 h; omega; exact c2 h)]
    have := hz 48 (by omega)
    rw [this]
    simp only [Option.some.injEq, Prod.mk.injEq]
    constructor
    ·rintro ⟨rfl, rfl⟩; exact ⟨c1, c2, hv, rfl, rfl⟩
    ·rintro ⟨_, _, _, rfl, rfl⟩; exact ⟨rfl, rfl⟩
 ·have := h.2 (by omega)
  rw [if_pos (.inr (.inl this))]
  simp only [reduceCtorEq, false_iff]
  rintro ⟨_, _, h, _⟩
  exact hv h

theorem tw_all (l : List UInt8) : ∀ c ∈ l.takeWhile digB, digB c = true := fun c hc => List.all_eq_true.1 (List.all_takeWhile (p := digB) (l := l)) c hc
/-! ### a terminal -/
theorem numsP_len {most : Int} {e : UInt8} : ∀ {k : Nat} {l : List UInt8} {ns r}, numsP most e k l = some (ns, r) → ns.length = k ∧ r.length + k ≤ l.length
  | 0, l, ns, r, h => by
    simp only [numsP, Option.some.injEq, Prod.mk.injEq] at h
    obtain ⟨rfl, rfl⟩ := h
    exact ⟨rfl, Nat.le_refl _⟩
  | k + 1, l, ns, r, h => by
    rw [numsP] at h
    split at h
    · cases h
    · rename_i n i _
      split at h
      · cases h
      · rename_i c r' hc
        by_cases hce : c = (if k = 0 then e else 59)
        · rw [if_pos hce] at h
          split at h
          · cases h
          · rename_i ms r2 hrec
            injection h with h
            obtain ⟨rfl, rfl⟩ := Prod.mk.inj h
            have := numsP_len hrec
            have hl := congrArg List.length hc
            rw [List.length_drop, List.length_cons] at hl
            rw [List.length_cons]
            omega
        · rw [if_neg hce] at h; cases h
structure Tm where
  x : Int
  y : Int
  col : Co
  back : Co
/-- An escape: the terminal behind it, how many bytes it has. -/
def escP (t : Tm) : List UInt8 → Option (Tm × Nat)
  | 27 :: 91 :: l => match numsP 16384 72 2 l with
    | some ([y, x], r) => if x < 1 ∨ y < 1 then none else some ({ t with x := x - 1, y := y - 1 }, l.length + 2 - r.length)
    | _ => match numsP 255 109 6 l with
      | some ([a, b, c0, c1, c2, c3], r) => if b = 2 then (if a = 38 then some ({ t with col := ⟨c0, c1, c2, c3⟩ }, l.length + 2 - r.length) else if a = 48 then some ({ t with back := ⟨c0, c1, c2, c3⟩ }, l.length + 2 - r.length) else none) else none
      | _ => none
  | _ => none
theorem escP_pos {t t' : Tm} {l : List UInt8} {n : Nat} (h : escP t l = some (t', n)) : 1 ≤ n ∧ n ≤ l.length := by
  unfold escP at h
  split at h
  · rename_i l
    split at h
    · rename_i y x r hr
      have := (numsP_len hr).2
      split at h
      · cases h
      · injection h with h
        obtain ⟨_, rfl⟩ := Prod.mk.inj h
        simp only [List.length_cons]
        omega
    · split at h
      · rename_i a b c0 c1 c2 c3 r hr
        have := (numsP_len hr).2
        split at h
        · split at h
          · injection h with h
            obtain ⟨_, rfl⟩ := Prod.mk.inj h
            simp only [List.length_cons]
            omega
          · split at h
            · injection h with h
              obtain ⟨_, rfl⟩ := Prod.mk.inj h
              simp only [List.length_cons]
              omega
            · cases h
        · cases h
      · cases h
  · cases h
/-- The cells that a rune makes. -/
def putL (h : Int) (r : Int) (c b : Co) : List Ce :=
  if widR r = 1 then (if h = 0 then [⟨r, c, b, false, false⟩] else []) else if widR r = 2 then (if h = 14 then [⟨r, c, b, true, false⟩] else if h = 15 then [⟨r, c, b, false, true⟩] else [⟨r, c, b, true, false⟩, ⟨r, c, b, false, true⟩]) else []
def splC (cs : List Ce) (i : Nat) (p : List Ce) : List Ce := cs.take i ++ p ++ cs.drop (i + p.length)
theorem splC_len {cs p : List Ce} {i : Nat} (h : i + p.length ≤ cs.length) : (splC cs i p).length = cs.length := by
  unfold splC
  rw [List.length_append, List.length_append, List.length_take, List.length_drop]
  omega
def halfP (c : UInt8) : Int := if c = 14 ∨ c = 15 then c.toNat else 0
def skipP (c : UInt8) : Nat := if c = 14 ∨ c = 15 then 1 else 0
def cellP (wd ht : Int) (cs : List Ce) (t : Tm) : List UInt8 → Option (List Ce × Tm × Nat)
  | [] => none
  | c :: r =>
    let d := Lib.decodeGo (strL ((c :: r).drop (skipP c)))
    if d.1 = 65533 ∧ d.2 < 3 then none else
    let p := putL (halfP c) d.1 t.col t.back
    if p = [] ∨ plcS wd ht t.x t.y = false ∨ wd - t.x < p.length then none
    else some (splC cs (t.y * wd + t.x).toNat p, { t with x := t.x + p.length }, skipP c + d.2)
theorem dec1 (s : ByteArray) : ((Lib.decodeGo s).1 = 65533 ∧ (Lib.decodeGo s).2 < 3) ∨ (1 ≤ (Lib.decodeGo s).2 ∧ (Lib.decodeGo s).2 ≤ s.size) := by
  unfold Lib.decodeGo
  by_cases h : s.size = 0
  · rw [if_pos h]; exact .inl ⟨rfl, by decide⟩
  · rw [if_neg h]
    have h1 := dec_pos s 0
    have h2 := dec_fit (s := s) (p := 0) (by omega)
    exact .inr ⟨h1, by omega⟩
theorem strL_size (l : List UInt8) : (strL l).size = l.length := by simp [strL, ByteArray.size]
theorem cellP_pos {wd ht : Int} {cs cs' : List Ce} {t t' : Tm} {l : List UInt8} {n : Nat} (h : cellP wd ht cs t l = some (cs', t', n)) : 1 ≤ n ∧ n ≤ l.length := by
  cases l with
  | nil => cases h
  | cons c r =>
    rw [cellP] at h
    dsimp only at h
    split at h
    · cases h
    · rename_i hd
      split at h
      · cases h
      · injection h with h
        obtain ⟨_, h⟩ := Prod.mk.inj h
        obtain ⟨_, rfl⟩ := Prod.mk.inj h
        have := (dec1 (strL ((c :: r).drop (skipP c)))).resolve_left hd
        rw [strL_size, List.length_drop] at this
        omega
/-- One step: an escape or a rune. -/
def stepP (wd ht : Int) (cs : List Ce) (t : Tm) (l : List UInt8) : Option (List Ce × Tm × Nat) :=
  if l.head? = some 27 then (match escP t l with | none => none | some (t', n) => some (cs, t', n)) else cellP wd ht cs t l
theorem stepP_pos {wd ht : Int} {cs cs' : List Ce} {t t' : Tm} {l : List UInt8} {n : Nat} (h : stepP wd ht cs t l = some (cs', t', n)) : 1 ≤ n ∧ n ≤ l.length := by
  unfold stepP at h
  split at h
  · split at h
    · cases h
    · rename_i t2 n2 he
      injection h with h
      obtain ⟨_, h⟩ := Prod.mk.inj h
      obtain ⟨_, rfl⟩ := Prod.mk.inj h
      exact escP_pos he
  · exact cellP_pos h
/-- All of a text: the place of what is wrong, or the cells. -/
def readF (wd ht : Int) : Nat → List Ce → Tm → List UInt8 → Nat → Except Nat (List Ce)
  | 0, cs, _, _, _ => .ok cs
  | f + 1, cs, t, l, p => if l = [] then .ok cs else match stepP wd ht cs t l with
    | none => .error p
    | some (cs', t', n) => readF wd ht f cs' t' (l.drop n) (p + n)
theorem readF_more (wd ht : Int) : ∀ (f g : Nat) (cs : List Ce) (t : Tm) (l : List UInt8) (p : Nat), l.length ≤ f → l.length ≤ g → readF wd ht f cs t l p = readF wd ht g cs t l p
  | 0, 0, _, _, _, _, _, _ => rfl
  | 0, g + 1, cs, t, l, p, h, _ => by rw [readF, readF, if_pos (by simpa using h)]
  | f + 1, 0, cs, t, l, p, _, h => by rw [readF, readF, if_pos (by simpa using h)]
  | f + 1, g + 1, cs, t, l, p, h1, h2 => by
    rw [readF, readF]
    split
    · rfl
    · split
      · rfl
      · rename_i cs' t' n hs
        have := stepP_pos hs
        exact readF_more wd ht f g _ _ _ _ (by rw [List.length_drop]; omega) (by rw [List.length_drop]; omega)
def readL (wd ht : Int) (cs : List Ce) (t : Tm) (l : List UInt8) (p : Nat) : Except Nat (List Ce) := readF wd ht l.length cs t l p
theorem readL_step {wd ht : Int} {cs : List Ce} {t : Tm} {l : List UInt8} {p : Nat} (hl : l ≠ []) : readL wd ht cs t l p = match stepP wd ht cs t l with
    | none => .error p
    | some (cs', t', n) => readL wd ht cs' t' (l.drop n) (p + n) := by
  unfold readL
  cases l with
  | nil => exact absurd rfl hl
  | cons c r =>
    rw [List.length_cons, readF, if_neg hl]
    split
    · rfl
    · rename_i cs' t' n hs
      have := stepP_pos hs
      rw [List.length_cons] at this
      exact readF_more wd ht _ _ _ _ _ _ (by rw [List.length_drop, List.length_cons]; omega) (Nat.le_refl _)
def Tm.zero : Tm := ⟨0, 0, ⟨0, 0, 0, 0⟩, ⟨0, 0, 0, 0⟩⟩
/-- What Read answers: the error, its place, the size, the cells. -/
def readS (wd ht : Int) (cs : List Ce) (l : List UInt8) : Int × Int × Int × Int × List Ce :=
  if chkS wd ht cs = 0 then (if 1048576 < l.length then (3, 0, 0, 0, []) else match readL wd ht cs Tm.zero l 0 with
    | .error p => (150, p, 0, 0, [])
    | .ok cs' => (0, 0, wd, ht, cs')) else (chkS wd ht cs, 0, 0, 0, [])
end Go.Proofs.YtffmomgmkpmpkaaGreatDoor

namespace Go.Proofs.YtffmomgmkpmpkaaGreatDoor
open Go.RowKit
set_option linter.unusedVariables false
attribute [local go_sem] vwp vUpon_value vUpon_skip vUpon_enter vUpon_row
set_option linter.unusedSimpArgs false
set_option linter.unusedVariables false
theorem blkNe {w : World} {g b : Nat} {cs cs' : List Value} {T T' : TypeId} (h : Blk w g cs T) (h' : Blk w b cs' T') (hT : T ≠ T') : g ≠ b := by
  rintro rfl
  unfold Blk at h h'
  rw [h] at h'
  injection h' with h'
  injection h' with _ e
  exact hT e
def outNums : Option (List Int × List UInt8) → Value
  | none => .tuple #[.string ⟨#[]⟩, .bool false]
  | some (_, r) => .tuple #[.string (strL r), .bool true]
abbrev ptrV (p : Nat) : Value := .pointer (some ⟨p, 0, none⟩)
/-- The blocks of ints of the caller's, and what they hold. -/
def Ints (w : World) (ps : List Nat) (vs : List Int) : Prop := vs.length = ps.length ∧ ∀ (j p : Nat) (v : Int), ps[j]? = some p → vs[j]? = some v → Blk w p [.int .i64 v] 3
theorem Ints.set {w : World} {ps : List Nat} {vs : List Int} (h : Ints w ps vs) (hd : ps.Nodup) {i p : Nat} (hp : ps[i]? = some p) (x : Int) : Ints (w.setCell ⟨p, 0, none⟩ (.int .i64 x)) ps (vs.set i x) := by
  refine ⟨by rw [List.length_set]; exact h.1, fun j q v hq hv => ?_⟩
  by_cases hji : i = j
  · subst hji
    rw [hp] at hq
    injection hq with hq
    subst hq
    have hil : i < vs.length := by rw [h.1]; exact (List.getElem?_eq_some_iff.1 hp).1
    rw [List.getElem?_set_self hil] at hv
    injection hv with hv
    subst hv
    exact (h.2 i p _ hp (List.getElem?_eq_getElem hil)).set 0 _
  · rw [List.getElem?_set_ne hji] at hv
    refine (h.2 j q v hq hv).set_ne ?_ _
    intro e
    have e : q = p := e
    subst e
    obtain ⟨h1, e1⟩ := List.getElem?_eq_some_iff.1 hp
    obtain ⟨h2, e2⟩ := List.getElem?_eq_some_iff.1 hq
    exact hji ((List.getElem?_inj h1 hd).1 (hp.trans hq.symm))
theorem Ints.below {w w' : World} {ps : List Nat} {vs : List Int} (h : Ints w ps vs) (hb : Below w.heap.size w w') : Ints w' ps vs :=
  ⟨h.1, fun j p v h1 h2 => (h.2 j p v h1 h2).below hb (h.2 j p v h1 h2).lt⟩
theorem take_set_snoc {vs : List Int} {i : Nat} (h : i < vs.length) (x : Int) : (vs.set i x).take (i + 1) = vs.take i ++ [x] := by
  rw [List.take_add_one, List.take_set_of_le (Nat.le_refl _), List.getElem?_set_self h]
  rfl
def numsAt (most : Int) (e : UInt8) (k : Nat) (l : List UInt8) (p : List Int) : Option (List Int × List UInt8) := match numsP most e k l with
  | none => none
  | some (ns, r) => some (p ++ ns, r)
theorem numsAt_none {most : Int} {e : UInt8} {k : Nat} {l : List UInt8} {p : List Int} (h : numP most l = none) : numsAt most e (k + 1) l p = none := by
  unfold numsAt; rw [numsP, h]
theorem numsAt_nil {most : Int} {e : UInt8} {k : Nat} {l : List UInt8} {p : List Int} {n : Int} {i : Nat} (h : numP most l = some (n, i)) (hr : l.drop i = []) : numsAt most e (k + 1) l p = none := by
  unfold numsAt; rw [numsP, h]; dsimp only; rw [hr]
theorem numsAt_bad {most : Int} {e : UInt8} {k : Nat} {l r : List UInt8} {p : List Int} {n : Int} {i : Nat} {c : UInt8} (h : numP most l = some (n, i)) (hr : l.drop i = c :: r) (hc : c ≠ (if k = 0 then e else 59)) : numsAt most e (k + 1) l p = none := by
  unfold numsAt; rw [numsP, h]; dsimp only; rw [hr]; dsimp only; rw [if_neg hc]
theorem numsAt_step {most : Int} {e : UInt8} {k : Nat} {l r : List UInt8} {p : List Int} {n : Int} {i : Nat} {c : UInt8} (h : numP most l = some (n, i)) (hr : l.drop i = c :: r) (hc : c = (if k = 0 then e else 59)) : numsAt most e (k + 1) l p = numsAt most e k r (p ++ [n]) := by
  unfold numsAt; rw [numsP, h]; dsimp only; rw [hr]; dsimp only; rw [if_pos hc]
  cases numsP most e k r with
  | none => rfl
  | some q =>
    obtain ⟨ms, r3⟩ := q
    simp
theorem numP_fit {most : Int} {l : List UInt8} {n : Int} {i : Nat} (h : numP most l = some (n, i)) : i ≤ l.length ∧ 0 ≤ n ∧ n ≤ most := by
  have hb := numGo_bd most l 0 0
  have h2 := (numP_run most l n i).1 h
  refine ⟨?_, ?_, ?_⟩
  · unfold numP at h
    split at h
    · cases h
    · injection h with h
      obtain ⟨_, rfl⟩ := Prod.mk.inj h
      omega
  · obtain ⟨_, _, _, rfl, _⟩ := h2
    exact valL_ge _ _ (Int.le_refl _) (tw_all l)
  · obtain ⟨_, _, h3, rfl, _⟩ := h2
    exact h3
theorem bAt_cons (c : UInt8) (r : List UInt8) : bAt (strL (c :: r)) 0 = c.toNat := by
  rw [← bAt_eq (s := strL (c :: r)) (i := 0) (by rw [strL_size]; simp)]
  simp [strL]
  rfl
set_option maxHeartbeats 4000000 in
set_option maxRecDepth 100000 in
theorem numbers_any (ps : List Nat) (g cap : Nat) (l : List UInt8) (most : Int) (e : UInt8) (ke : Int) (hke : (e.toNat : Int) = ke) (vs0 : List Int) (w : World) (hI : Ints w ps vs0) (hg : Blk w g (ps.map ptrV) 164) (hd : ps.Nodup) (hn : ps.length ≤ 10)
  (hc : ps.length ≤ cap) (hl : l.length ≤ 2000000) (hm0 : 0 ≤ most) (hm1 : most ≤ 1000000) :
  Calls Tryz.prog 109 #[.string (strL l), .int .i64 most, .int .u8 ke, .slice (some ⟨g, 0, none⟩) ps.length cap] w fun ev w' => ev = .returned (outNums (numsP most e ps.length l)) ∧ KeptBut (· ∈ ps) w w' ∧ ∃ vs, Ints w' ps vs ∧ ∀ ns r, numsP most e ps.length l = some (ns, r) → vs = ns := by
 obtain ⟨N, hN⟩ : ∃ N, ps.length = N := ⟨_, rfl⟩
 rw [hN] at hn hc ⊢
 obtain ⟨RES, hR⟩ : ∃ R, numsP most e N l = R := ⟨_, rfl⟩
 rw [hR]
 have hat0 : numsAt most e (N - 0) l (vs0.take 0) = RES := by
  unfold numsAt
  rw [Nat.sub_zero, hR]
  cases RES with
  | none => rfl
  | some q => simp
 clear hR
 have hgp : g ∉ ps := by
  intro hgm
  obtain ⟨j, hj⟩ := List.mem_iff_getElem?.1 hgm
  have hjl := (List.getElem?_eq_some_iff.1 hj).1
  exact blkNe (hI.2 j g (vs0[j]'(by rw [hI.1]; exact hjl)) hj (List.getElem?_eq_getElem (by rw [hI.1]; exact hjl))) hg (by decide) rfl
 obtain ⟨S0, hS0⟩ : ∃ s, strL l = s := ⟨_, rfl⟩
 rw [hS0]
 replace hS0 := Lib.hid hS0
 replace hN := Lib.hid hN
 replace hg := Lib.hid hg
 replace hI := Lib.hid hI
 replace hat0 := Lib.hid hat0
 replace hd := Lib.hid hd
 replace hgp := Lib.hid hgp
 go_enter Tryz.func109, Tryz.ntmps109
 go_upto_region 2 with fail
 go_loopw [0, 16] (fun sv iv wr => ∃ (i : Nat) (cur : List UInt8) (S : ByteArray) (vs : List Int), i ≤ N ∧ iv = .int .i64 i ∧ sv = .string S ∧ Hid (strL cur = S) ∧ cur.length ≤ 2000000 ∧ Hid (KeptBut (· ∈ ps) w wr) ∧ Hid (Ints wr ps vs) ∧ Hid (numsAt most e (N - i) cur (vs.take i) = RES)) (fun _ iv _ => N - (intOf iv).toNat)
 case atStart => exact ⟨0, l, S0, vs0, Nat.zero_le _, rfl, rfl, hS0, hl, KeptBut.refl _ _, hI, hat0⟩
 case round =>
  clear hS0 hI hat0 hl
  obtain ⟨i, cur, S, vs, hi, rfl, rfl, hS, hl, hk, hI, hat⟩ := hrel
  obtain ⟨W, rfl⟩ : ∃ W, W = wr := ⟨_, rfl⟩
  by_cases hiN : i < N
  ·have hii : (i : Int) < N := by omega
   obtain ⟨p, hp⟩ := get_at hN.out hiN
   have hpm := List.mem_of_getElem? hp
   obtain ⟨v0, hv0⟩ : ∃ v0, vs[i]? = some v0 := ⟨vs[i]'(by rw [hI.out.1, hN.out]; exact hiN), List.getElem?_eq_getElem _⟩
   have Bp := hI.out.2 i p v0 hp hv0
   have gW := (hg.out.but hk.out hgp.out).cell (o := i) (v := .pointer (some ⟨p, 0, none⟩)) (by rw [List.getElem?_map, hp]; rfl)
   have yp := Bp.lt
   obtain ⟨k, hk1⟩ : ∃ k, N - i = k + 1 := ⟨N - i - 1, by omega⟩
   have hkN : (decide (k = 0)) = decide (i + 1 = N) := by by_cases h : k = 0 <;> simp [h] <;> omega
   have NU := number_any cur most W hl hm0 hm1
   rw [hS.out] at NU
   rw [hk1] at hat
   cases hP : numP most cur with
   | none =>
    rw [hP] at NU
    have hnone := numsAt_none (e := e) (k := k) (p := vs.take i) hP
    unfold outNum at NU
    replace NU := Lib.hid NU
    go_upto_region 6 with (go_at_call 146; (with_reducible refine (NU.out).mono ?_); rintro e2 w2 ⟨rfl, hb2⟩; have Bp2 := Bp.below hb2 yp; have f2 := Bp2.free 0; have c2 := Bp2.cell (o := 0) rfl; have yp2 := Bp2.lt)
    have hk3 := (hk.out.below hb2).setCell ⟨p, 0, none⟩ (.int .i64 0) hpm
    have hI3 := (hI.out.below hb2).set hd.out hp 0
    go_wp2
    have hRN : RES = none := hat.out.symm.trans hnone
    subst hRN
    go_ret2
    exact ⟨rfl, hk3, vs.set i _, hI3, fun ns r h => by cases h⟩
   | some q =>
    obtain ⟨n, m⟩ := q
    rw [hP] at NU
    unfold outNum at NU
    dsimp only at NU
    obtain ⟨hmf, hn0, hnm⟩ := numP_fit hP
    obtain ⟨rest, hrest⟩ : ∃ r, cur.drop m = r := ⟨_, rfl⟩
    have hrl : rest.length ≤ 2000000 := by rw [← hrest, List.length_drop]; omega
    rw [hrest] at NU
    obtain ⟨S2, hS2⟩ : ∃ s, strL rest = s := ⟨_, rfl⟩
    rw [hS2] at NU
    have hz2 : S2.size = rest.length := by rw [← hS2]; exact strL_size _
    replace NU := Lib.hid NU
    replace hS2 := Lib.hid hS2
    go_upto_region 6 with (go_at_call 146; (with_reducible refine (NU.out).mono ?_); rintro e2 w2 ⟨rfl, hb2⟩; have Bp2 := Bp.below hb2 yp; have f2 := Bp2.free 0; have c2 := Bp2.cell (o := 0) rfl; have yp2 := Bp2.lt)
    have hk3 := (hk.out.below hb2).setCell ⟨p, 0, none⟩ (.int .i64 n) hpm
    have hI3 := (hI.out.below hb2).set hd.out hp n
    replace hk3 := Lib.hid hk3
    replace hI3 := Lib.hid hI3
    obtain ⟨W3, hW3⟩ : ∃ W3, w2.setCell ⟨p, 0, none⟩ (.int .i64 n) = W3 := ⟨_, rfl⟩
    rw [hW3] at hk3 hI3 ⊢
    clear hW3 NU hk hI gW Bp Bp2 f2 c2 yp yp2 hb2
    cases rest with
    | nil =>
     have hnone := numsAt_nil (e := e) (k := k) (p := vs.take i) hP hrest
     have hse : S2 = ⟨#[]⟩ := by rw [← hS2.out]; rfl
     subst hse
     by_cases hlast : i + 1 = N
     ·have hli : ((i : Int) == (N : Int) - 1) = true := by simp; omega
      go_wp2
      have hRN : RES = none := hat.out.symm.trans hnone
      subst hRN
      go_ret2
      refine ⟨rfl, hk3.out, ?_⟩
      first
       | exact ⟨vs.set i n, hI3.out, fun ns r h => by cases h⟩
       | exact ⟨vs.set i n, hI3.out⟩
     ·have hli : ((i : Int) == (N : Int) - 1) = false := by simp; omega
      go_wp2
      have hRN : RES = none := hat.out.symm.trans hnone
      subst hRN
      go_ret2
      refine ⟨rfl, hk3.out, ?_⟩
      first
       | exact ⟨vs.set i n, hI3.out, fun ns r h => by cases h⟩
       | exact ⟨vs.set i n, hI3.out⟩
    | cons c r =>
     have hsb : bAt S2 0 = c.toNat := by rw [← hS2.out]; exact bAt_cons c r
     have X1 := bAt_eq (s := S2) (i := 0) (by rw [hz2]; simp)
     have hsl := strL_from (c :: r) 1 hS2.out
     obtain ⟨S3, hS3⟩ : ∃ s, strL r = s := ⟨_, rfl⟩
     have hd1 : (c :: r).drop 1 = r := rfl
     rw [hd1, hS3, ← hz2] at hsl
     obtain ⟨N2, hN2⟩ : ∃ N2, S2.size = N2 := ⟨_, rfl⟩
     have hN21 : (1 : Int) ≤ N2 := by rw [← hN2, hz2]; simp; omega
     rw [hN2] at hsl
     rw [List.length_cons] at hz2 hrl
     have hse : S2.toList.isEmpty = false := by rw [← hS2.out, Lib.toList_data]; simp [strL]
     replace hsb := hsb
     by_cases hlast : i + 1 = N
     ·have hli : ((i : Int) == (N : Int) - 1) = true := by simp; omega
      have hk0 : k = 0 := by omega
      by_cases hce : c = e
      ·have hcb : ((c.toNat : Int) != ke) = false := by rw [hce, hke]; simp
       have hst := numsAt_step (e := e) (k := k) (p := vs.take i) hP hrest (by rw [if_pos hk0]; exact hce)
       replace hst := Lib.hid hst
       go_wp2
       go_roundw
       case rel =>
        refine ⟨i + 1, r, S3, vs.set i n, by omega, by go_num, by first | rfl | (rw [← hsl, ← hN2, hz2]; done) | (rw [← hsl]; done), Lib.hid hS3, by omega, hk3, hI3, Lib.hid ?_⟩
        rw [take_set_snoc (by have := (List.getElem?_eq_some_iff.1 hv0).1; exact this), show N - (i + 1) = k by omega, ← hst.out]
        exact hat.out
       case measure => (simp [intOf]) <;> omega
      ·have hcb : ((c.toNat : Int) != ke) = true := by rw [← hke]; simp; intro h; exact hce (UInt8.toNat_inj.1 (by omega))
       have hnone := numsAt_bad (e := e) (k := k) (p := vs.take i) hP hrest (by rw [if_pos hk0]; exact hce)
       go_wp2
       have hRN : RES = none := hat.out.symm.trans hnone
       subst hRN
       go_ret2
       refine ⟨rfl, hk3.out, ?_⟩
       first
        | exact ⟨vs.set i n, hI3.out, fun ns r h => by cases h⟩
        | exact ⟨vs.set i n, hI3.out⟩
     ·have hli : ((i : Int) == (N : Int) - 1) = false := by simp; omega
      have hk0 : k ≠ 0 := by omega
      by_cases hce : c = 59
      ·have hcb : ((c.toNat : Int) != 59) = false := by rw [hce]; rfl
       have hst := numsAt_step (e := e) (k := k) (p := vs.take i) hP hrest (by rw [if_neg hk0]; exact hce)
       replace hst := Lib.hid hst
       go_wp2
       go_roundw
       case rel =>
        refine ⟨i + 1, r, S3, vs.set i n, by omega, by go_num, by first | rfl | (rw [← hsl, ← hN2, hz2]; done) | (rw [← hsl]; done), Lib.hid hS3, by omega, hk3, hI3, Lib.hid ?_⟩
        rw [take_set_snoc (by have := (List.getElem?_eq_some_iff.1 hv0).1; exact this), show N - (i + 1) = k by omega, ← hst.out]
        exact hat.out
       case measure => (simp [intOf]) <;> omega
      ·have hcb : ((c.toNat : Int) != 59) = true := by simp; intro h; exact hce (UInt8.toNat_inj.1 (by show c.toNat = 59; omega))
       have hnone := numsAt_bad (e := e) (k := k) (p := vs.take i) hP hrest (by rw [if_neg hk0]; exact hce)
       go_wp2
       have hRN : RES = none := hat.out.symm.trans hnone
       subst hRN
       go_ret2
       refine ⟨rfl, hk3.out, ?_⟩
       first
        | exact ⟨vs.set i n, hI3.out, fun ns r h => by cases h⟩
        | exact ⟨vs.set i n, hI3.out⟩
  ·obtain rfl : N = i := by omega
   have hii : ¬ (N : Int) < N := by omega
   have hRES : some (vs, cur) = RES := by
    have h := hat.out
    rw [Nat.sub_self, List.take_of_length_le (by rw [hI.out.1, hN.out]; exact Nat.le_refl _)] at h
    unfold numsAt numsP at h
    simpa using h
   subst hRES
   go_wp2
   go_ret2
   refine ⟨by rw [← hS.out]; rfl, hk.out, ?_⟩
   first
    | exact hI.out
    | exact ⟨vs, hI.out, fun ns r h => by injection h with h; exact (Prod.mk.inj h).1⟩
end Go.Proofs.YtffmomgmkpmpkaaGreatDoor
