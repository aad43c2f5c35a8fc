/-
  Cells: the document's Check; the number of a place; a cell at a place.
-/
import Derived.Shelf.Unicode.DecodeSlow
import Derived.Test.YtffmomgmkpmpkaaGreatDoorProg
import Derived.Test.YtffmomgmkpmpkaaGreatDoorKr6
namespace Go.Proofs.YtffmomgmkpmpkaaGreatDoor
open Go.RowKit
set_option linter.unusedVariables false
attribute [local go_sem] vwp vUpon_value vUpon_skip vUpon_enter vUpon_row
set_option linter.unusedSimpArgs false
set_option linter.unusedVariables false
theorem Ce.enc_one (c : Ce) : ∀ u ∈ c.enc, u.oneCell' = true := by
  intro u hu
  simp only [Ce.enc, Co.enc, List.mem_append, List.mem_cons, List.not_mem_nil, or_false] at hu
  rcases hu with ((rfl | rfl | rfl | rfl | rfl) | rfl | rfl | rfl | rfl) | rfl | rfl <;> rfl
def OwnsC (base : Nat) (w : World) (v : Value) (l : List Ce) : Prop := w.ownsRow base 52 11 v l.length (l.flatMap Ce.enc)
theorem OwnsC.row {base B : Nat} {w : World} {v : Value} {l : List Ce} (h : OwnsC base w v l) (hB : w.heap.size ≤ B) : Row B 11 Ce.enc w v l := Row.own Ce.enc_len h hB (by omega)
theorem OwnsC.below {base B : Nat} {w w' : World} {v : Value} {l : List Ce} (h : OwnsC base w v l) (hb : Below B w w') (hB : w.heap.size ≤ B) : OwnsC base w' v l := ownsRow_below h hb hB
theorem OwnsC.nil (base : Nat) (w : World) : OwnsC base w (.slice none 0 0) [] := World.ownsRow_nil _ _ _ _
theorem infoCe : (Tryz.prog.info? 52).map (fun i => (i.zero, i.size, i.bytes)) = some (some (.agg #[.int .i32 0, .int .u8 0, .int .u8 0, .int .u8 0, .int .u8 0, .int .u8 0, .int .u8 0, .int .u8 0, .int .u8 0, .bool false, .bool false]), 11, 16) := by kernel_rfl
/-- A store of a whole cell. -/
theorem Blk.put11 {w : World} {b : Nat} {cs : List Value} {e : TypeId} (h : Blk w b cs e) (hl : cs.length = 11) (v0 v1 v2 v3 v4 v5 v6 v7 v8 v9 v10 : Value) :
    Blk ((((((((((((w).setCell ⟨b, 0, none⟩ v0).setCell ⟨b, 1, none⟩ v1).setCell ⟨b, 2, none⟩ v2).setCell ⟨b, 3, none⟩ v3).setCell ⟨b, 4, none⟩ v4).setCell ⟨b, 5, none⟩ v5).setCell ⟨b, 6, none⟩ v6).setCell ⟨b, 7, none⟩ v7).setCell ⟨b, 8, none⟩ v8).setCell ⟨b, 9, none⟩ v9).setCell ⟨b, 10, none⟩ v10) b [v0, v1, v2, v3, v4, v5, v6, v7, v8, v9, v10] e := by
  have h2 := ((((((((((h.set 0 v0).set 1 v1).set 2 v2).set 3 v3).set 4 v4).set 5 v5).set 6 v6).set 7 v7).set 8 v8).set 9 v9).set 10 v10
  match cs, hl with
  | [a0, a1, a2, a3, a4, a5, a6, a7, a8, a9, a10], _ => exact h2
theorem put11_below {w0 w : World} {B b : Nat} (h : Below B w0 w) (hb : B ≤ b) (v0 v1 v2 v3 v4 v5 v6 v7 v8 v9 v10 : Value) : Below B w0 ((((((((((((w).setCell ⟨b, 0, none⟩ v0).setCell ⟨b, 1, none⟩ v1).setCell ⟨b, 2, none⟩ v2).setCell ⟨b, 3, none⟩ v3).setCell ⟨b, 4, none⟩ v4).setCell ⟨b, 5, none⟩ v5).setCell ⟨b, 6, none⟩ v6).setCell ⟨b, 7, none⟩ v7).setCell ⟨b, 8, none⟩ v8).setCell ⟨b, 9, none⟩ v9).setCell ⟨b, 10, none⟩ v10) :=
  ((((((((((h.setCell hb v0).setCell hb v1).setCell hb v2).setCell hb v3).setCell hb v4).setCell hb v5).setCell hb v6).setCell hb v7).setCell hb v8).setCell hb v9).setCell hb v10
def r150 (b : Bool) : Int := if b then 0 else 150
set_option maxHeartbeats 4000000 in
theorem crcheck_any (wd ht : Int) (l : List Ce) (v : Value) (w : World) (h1 : I64 wd) (h2 : I64 ht) (hl : Row w.heap.size 11 Ce.enc w v l) : Calls Tryz.prog 16 #[.agg #[.int .i64 (wd), .int .i64 (ht), v]] w fun e w' => e = .returned (.int .i64 (chkS wd ht l)) ∧ Below w.heap.size w w' := by
 obtain ⟨R, hR⟩ : ∃ R, chkS wd ht l = R := ⟨_, rfl⟩
 rw [hR]
 unfold chkS at hR
 have X := rsize_any wd ht
 obtain ⟨P, hP⟩ : ∃ P, wd * ht = P := ⟨_, rfl⟩
 rw [hP] at hR
 obtain ⟨s0, cap, rfl, hmax⟩ := hl.shape
 have hopen := fun h0 => row_ce hl h0
 obtain ⟨n, en⟩ : ∃ n, l.length = n := ⟨_, rfl⟩
 rw [en] at hR hmax hopen
 unfold maxLen at hmax
 replace hopen := Lib.hid hopen
 replace en := Lib.hid en
 clear hl
 go_enter Tryz.func16, Tryz.ntmps16
 rw [en.out]
 cases hf : fitsS wd ht
 ·rw [hf] at X hR
  have : R = 150 := by rw [← hR]; simp
  subst this
  replace X := Lib.hid X
  go_wp2_with (go_at_call 52; (with_reducible refine (X.out _ ‹_› ‹_›).mono ?_); rintro e w1 ⟨rfl, hb1⟩; obtain ⟨hc1, hf1⟩ := bcell hb1; have hz1 := hb1.size; (try simp at hz1); (try have lt1 : w.heap.size < w1.heap.size := (by omega)))
  go_ret
  exact ⟨rfl, belt⟩
 ·rw [hf] at X hR
  obtain ⟨a1, a2, a3, a4, a5⟩ := fitsS_true.1 hf
  have bd := mul_bd a1 a2 a3 a4
  rw [hP] at bd a5
  replace X := Lib.hid X
  by_cases c : (n : Int) = P
  ·have hgo := Lib.hid (show r150 ((l.drop 0).all mayC) = R by rw [← hR]; simp [r150, c])
   clear hR hf
   have cb : ((n : Int) != P) = false := by simp [c]
   go_upto_region 2 with (go_at_call 52; (with_reducible refine (X.out _ ‹_› ‹_›).mono ?_); rintro e w1 ⟨rfl, hb1⟩; obtain ⟨hc1, hf1⟩ := bcell hb1; have hz1 := hb1.size; (try simp at hz1); (try have lt1 : w.heap.size < w1.heap.size := (by omega)))
   have y1 : w.heap.size < w1.heap.size := by omega
   have bz : Below w.heap.size w w1 := belt
   have q2 : w1.cell? ⟨w.heap.size, 2, none⟩ = some (.slice s0 n cap) := by go_simp
   clear hc1 hf1 hb1 hz1 X
   go_wp2
   go_loopw [3] (fun iv wr => ∃ k : Nat, k ≤ n ∧ iv = .int .i64 k ∧ Hid (r150 ((l.drop k).all mayC) = R) ∧ Below w.heap.size w wr ∧ wr.cell? ⟨w.heap.size, 2, none⟩ = some (.slice s0 n cap) ∧ w.heap.size < wr.heap.size) (fun iv _ => n - (intOf iv).toNat)
   case atStart => exact ⟨0, Nat.zero_le _, rfl, hgo, bz, q2, y1⟩
   case round =>
    clear q2 bz
    obtain ⟨k, hk, rfl, hgo, hbr, q2, yr⟩ := hrel
    have zr := hbr.size
    by_cases hkn : k < n
    ·obtain ⟨b, o, cap', e, hb, _, _, hel⟩ := hopen.out (by omega)
     simp at e
     obtain ⟨rfl, rfl⟩ := e
     obtain ⟨s, hs⟩ := get_at en.out hkn
     obtain ⟨g0, g1, g2, g3, g4, g5, g6, g7, g8, g9, g10⟩ := CMem.below (hel k s hs) hbr hb
     have A := crcell_any s
     have hg := hgo.out
     rw [allC_step hs] at hg
     have hkk : (k : Int) < n := by omega
     have yb : b < wr.heap.size := by omega
     clear hel hs
     generalize mayC s = r at A hg
     replace A := Lib.hid A
     cases r
     ·rw [Bool.false_and] at hg
      subst hg
      go_wp2_with (go_at_call 53; (with_reducible refine (A.out _).mono ?_); rintro e w2 ⟨rfl, hb2⟩; obtain ⟨hc2, hf2⟩ := bcell hb2; have hz2 := hb2.size; (try simp at hz2); (try have lt2 : w.heap.size < w2.heap.size := (by omega)))
      go_ret
      exact ⟨rfl, belt⟩
     ·rw [Bool.true_and] at hg
      replace hg := Lib.hid hg
      go_wp2_with (go_at_call 53; (with_reducible refine (A.out _).mono ?_); rintro e w2 ⟨rfl, hb2⟩; obtain ⟨hc2, hf2⟩ := bcell hb2; have hz2 := hb2.size; (try simp at hz2); (try have lt2 : w.heap.size < w2.heap.size := (by omega)))
      go_roundw
      case rel => exact ⟨k + 1, by omega, by go_num, hg, belt, (hc2 _ _ yr).trans q2, by omega⟩
      case measure => simp [intOf]; omega
    ·obtain rfl : k = n := by omega
     have hg := hgo.out
     rw [List.drop_eq_nil_of_le (by have := en.out; omega)] at hg
     have hg : 0 = R := hg
     subst hg
     go_wp2
     go_ret
     exact ⟨rfl, hbr⟩
  ·have : R = 150 := by rw [← hR]; simp [c]
   subst this
   have cb : ((n : Int) != P) = true := by simp [c]
   have cb2 : ((n : Int) == P) = false := by simp [c]
   go_wp2_with (go_at_call 52; (with_reducible refine (X.out _ ‹_› ‹_›).mono ?_); rintro e w1 ⟨rfl, hb1⟩; obtain ⟨hc1, hf1⟩ := bcell hb1; have hz1 := hb1.size; (try simp at hz1); (try have lt1 : w.heap.size < w1.heap.size := (by omega)))
   go_ret
   exact ⟨rfl, belt⟩
/-! ### places -/
def plcS (wd ht x y : Int) : Bool := decide (0 ≤ x) && decide (0 ≤ y) && decide (x < wd) && decide (y < ht)
theorem plcS_true {wd ht x y : Int} : plcS wd ht x y = true ↔ (0 ≤ x ∧ 0 ≤ y ∧ x < wd ∧ y < ht) := by
  unfold plcS
  simp only [Bool.and_eq_true, decide_eq_true_eq]
  constructor
  · rintro ⟨⟨⟨a, b⟩, c⟩, d⟩; exact ⟨a, b, c, d⟩
  · rintro ⟨a, b, c, d⟩; exact ⟨⟨⟨a, b⟩, c⟩, d⟩
def idxS (wd ht x y : Int) : Int := if plcS wd ht x y then y * wd + x else -1
theorem row_end {wd ht y : Int} (h0 : 0 ≤ wd) (h1 : 0 ≤ y) (h2 : y < ht) : 0 ≤ y * wd ∧ y * wd + wd ≤ wd * ht := by
  have : (y + 1) * wd ≤ ht * wd := Int.mul_le_mul_of_nonneg_right (by omega) h0
  rw [Int.add_mul, Int.one_mul, Int.mul_comm ht] at this
  exact ⟨Int.mul_nonneg h1 h0, this⟩
set_option maxHeartbeats 4000000 in
theorem rplace_any (wd ht x y : Int) (v : Value) (w : World) : Calls Tryz.prog 59 #[.agg #[.int .i64 (wd), .int .i64 (ht), v], .agg #[.int .i64 (x), .int .i64 (y)]] w fun e w' => e = .returned (.bool (plcS wd ht x y)) ∧ Below w.heap.size w w' := by
 obtain ⟨R, hR⟩ : ∃ R, plcS wd ht x y = R := ⟨_, rfl⟩
 rw [hR]
 unfold plcS at hR
 go_enter Tryz.func59, Tryz.ntmps59
 by_cases a1 : 0 ≤ x
 ·by_cases a2 : 0 ≤ y
  ·by_cases a3 : x < wd
   ·by_cases a4 : y < ht
    ·have : R = true := by rw [← hR]; simp [a1, a2, a3, a4]
     subst this
     clear hR
     go_wp2
     go_ret
     exact ⟨rfl, (by repeat (first | exact Below.refl _ _ | assumption | refine Below.drew ?_ | refine Below.alloc ?_ (by (try simp) <;> omega) _ | refine Below.setCell ?_ (by (try simp) <;> omega) _))⟩
    ·have : R = false := by rw [← hR]; simp [a4]
     subst this
     clear hR
     go_wp2
     go_ret
     exact ⟨rfl, (by repeat (first | exact Below.refl _ _ | assumption | refine Below.drew ?_ | refine Below.alloc ?_ (by (try simp) <;> omega) _ | refine Below.setCell ?_ (by (try simp) <;> omega) _))⟩
   ·have : R = false := by rw [← hR]; simp [a3]
    subst this
    clear hR
    go_wp2
    go_ret
    exact ⟨rfl, (by repeat (first | exact Below.refl _ _ | assumption | refine Below.drew ?_ | refine Below.alloc ?_ (by (try simp) <;> omega) _ | refine Below.setCell ?_ (by (try simp) <;> omega) _))⟩
  ·have : R = false := by rw [← hR]; simp [a2]
   subst this
   clear hR
   go_wp2
   go_ret
   exact ⟨rfl, (by repeat (first | exact Below.refl _ _ | assumption | refine Below.drew ?_ | refine Below.alloc ?_ (by (try simp) <;> omega) _ | refine Below.setCell ?_ (by (try simp) <;> omega) _))⟩
 ·have : R = false := by rw [← hR]; simp [a1]
  subst this
  clear hR
  go_wp2
  go_ret
  exact ⟨rfl, (by repeat (first | exact Below.refl _ _ | assumption | refine Below.drew ?_ | refine Below.alloc ?_ (by (try simp) <;> omega) _ | refine Below.setCell ?_ (by (try simp) <;> omega) _))⟩
set_option maxHeartbeats 4000000 in
theorem cindex_any (wd ht x y : Int) (v : Value) (w : World) (hfit : fitsS wd ht = true) : Calls Tryz.prog 58 #[.agg #[.int .i64 (wd), .int .i64 (ht), v], .agg #[.int .i64 (x), .int .i64 (y)]] w fun e w' => e = .returned (.int .i64 (idxS wd ht x y)) ∧ Below w.heap.size w w' := by
 obtain ⟨R, hR⟩ : ∃ R, idxS wd ht x y = R := ⟨_, rfl⟩
 rw [hR]
 unfold idxS plcS at hR
 obtain ⟨f1, f2, f3, f4, f5⟩ := fitsS_true.1 hfit
 clear hfit
 go_enter Tryz.func58, Tryz.ntmps58
 by_cases a1 : x < 0
 ·have : R = -1 := by rw [← hR]; simp; omega
  subst this
  clear hR
  go_wp2
  go_ret
  exact ⟨rfl, (by repeat (first | exact Below.refl _ _ | assumption | refine Below.drew ?_ | refine Below.alloc ?_ (by (try simp) <;> omega) _ | refine Below.setCell ?_ (by (try simp) <;> omega) _))⟩
 ·by_cases a3 : x ≥ wd
  ·have : R = -1 := by rw [← hR]; simp; omega
   subst this
   clear hR
   go_wp2
   go_ret
   exact ⟨rfl, (by repeat (first | exact Below.refl _ _ | assumption | refine Below.drew ?_ | refine Below.alloc ?_ (by (try simp) <;> omega) _ | refine Below.setCell ?_ (by (try simp) <;> omega) _))⟩
  ·by_cases a2 : y < 0
   ·have : R = -1 := by rw [← hR]; simp; omega
    subst this
    clear hR
    go_wp2
    go_ret
    exact ⟨rfl, (by repeat (first | exact Below.refl _ _ | assumption | refine Below.drew ?_ | refine Below.alloc ?_ (by (try simp) <;> omega) _ | refine Below.setCell ?_ (by (try simp) <;> omega) _))⟩
   ·by_cases a4 : y ≥ ht
    ·have : R = -1 := by rw [← hR]; simp; omega
     subst this
     clear hR
     go_wp2
     go_ret
     exact ⟨rfl, (by repeat (first | exact Below.refl _ _ | assumption | refine Below.drew ?_ | refine Below.alloc ?_ (by (try simp) <;> omega) _ | refine Below.setCell ?_ (by (try simp) <;> omega) _))⟩
    ·have hR : y * wd + x = R := by rw [← hR]; simp; omega
     obtain ⟨e1, e2⟩ := row_end (wd := wd) (ht := ht) (y := y) f1 (by omega) (by omega)
     obtain ⟨P, hP⟩ : ∃ P, y * wd = P := ⟨_, rfl⟩
     rw [hP] at hR e1 e2
     obtain ⟨Z, hZ⟩ : ∃ Z, wd * ht = Z := ⟨_, rfl⟩
     rw [hZ] at e2 f5
     clear hZ
     go_wp2
     go_ret
     exact ⟨rfl, (by repeat (first | exact Below.refl _ _ | assumption | refine Below.drew ?_ | refine Below.alloc ?_ (by (try simp) <;> omega) _ | refine Below.setCell ?_ (by (try simp) <;> omega) _))⟩
end Go.Proofs.YtffmomgmkpmpkaaGreatDoor

namespace Go.Proofs.YtffmomgmkpmpkaaGreatDoor
open Go.RowKit
set_option linter.unusedVariables false
attribute [local go_sem] vwp vUpon_value vUpon_skip vUpon_enter vUpon_row
set_option linter.unusedSimpArgs false
set_option linter.unusedVariables false
/-- k numbers with semicolons between, and the byte behind them: the numbers, what is left. -/
def numsP (most : Int) (e : UInt8) : Nat → List UInt8 → Option (List Int × List UInt8)
  | 0, l => some ([], l)
  | k + 1, l => match numP most l with
    | none => none
    | some (n, i) => match l.drop i with
      | [] => none
      | c :: r => if c = (if k = 0 then e else 59) then (match numsP most e k r with | none => none | some (ns, r') => some (n :: ns, r')) else none
/-! ### the document's way to read numbers -/
def digB (c : UInt8) : Bool := decide (48 ≤ c.toNat) && decide (c.toNat ≤ 57)
def valL (n : Int) (ds : List UInt8) : Int := ds.foldl (fun n c => n * 10 + ((c.toNat : Int) - 48)) n
/-- figures -/
def figP (ds : List UInt8) : Option Int := if ds = [] ∨ 9 < ds.length ∨ (1 < ds.length ∧ ds[0]? = some 48) then none else some (valL 0 ds)
/-- The document's numbers: b bytes may be looked at still; cur: the figures read of the number at hand. -/
def docG : Nat → List UInt8 → List UInt8 → Option (List Int × UInt8 × List UInt8)
  | 0, _, _ => none
  | _ + 1, _, [] => none
  | b + 1, cur, c :: r => if digB c then docG b (cur ++ [c]) r else match figP cur with
    | none => none
    | some n => if c = 59 then (match docG b [] r with | none => none | some (ns, e, r') => some (n :: ns, e, r')) else some ([n], c, r)
theorem valL_snoc (n : Int) (ds : List UInt8) (c : UInt8) : valL n (ds ++ [c]) = valL n ds * 10 + ((c.toNat : Int) - 48) := by simp [valL]
theorem valL_ge : ∀ (ds : List UInt8) (n : Int), 0 ≤ n → (∀ c ∈ ds, digB c = true) → n ≤ valL n ds
  | [], n, _, _ => by simp [valL]
  | c :: r, n, h0, h => by
    have hc := h c List.mem_cons_self
    simp only [digB, Bool.and_eq_true, decide_eq_true_eq] at hc
    have := valL_ge r (n * 10 + ((c.toNat : Int) - 48)) (by omega) (fun x hx => h x (List.mem_cons_of_mem _ hx))
    have e : valL n (c :: r) = valL (n * 10 + ((c.toNat : Int) - 48)) r := rfl
    omega
/-- What the program's reading does, by the figures in front. -/
theorem numGo_run (most : Int) : ∀ (l : List UInt8) (i : Nat) (n : Int), 0 ≤ n → 
    (valL n (l.takeWhile digB) ≤ most → numGo most l i n = (i + (l.takeWhile digB).length, valL n (l.takeWhile digB))) ∧
    (most < valL n (l.takeWhile digB) → most < (numGo most l i n).2)
  | [], i, n, h0 => by simp [numGo, valL]
  | c :: r, i, n, h0 => by
    rw [numGo]
    by_cases hc : digB c = true
    · have hd := hc
      simp only [digB, Bool.and_eq_true, decide_eq_true_eq] at hd
      rw [List.takeWhile_cons_of_pos hc]
      have e : valL n (c :: r.takeWhile digB) = valL (n * 10 + ((c.toNat : Int) - 48)) (r.takeWhile digB) := rfl
      rw [e]
      have ih := numGo_run most r (i + 1) (n * 10 + ((c.toNat : Int) - 48)) (by omega)
      have hge := valL_ge (r.takeWhile digB) (n * 10 + ((c.toNat : Int) - 48)) (by omega) (fun x hx => by have := List.all_takeWhile (p := digB) (l := r); exact List.all_eq_true.1 this x hx)
      by_cases hn : n ≤ most
      · rw [if_pos ⟨hd.1, hd.2, hn⟩]
        refine ⟨fun h => ?_, ih.2⟩
        rw [ih.1 h]
        simp only [List.length_cons]
        congr 1
        omega
      · rw [if_neg (fun h => hn h.2.2)]
        exact ⟨fun h => by omega, fun _ => by simp; omega⟩
    · rw [List.takeWhile_cons_of_neg hc, if_neg (fun h => hc (by simp [digB, h.1, h.2.1]))]
      simp [valL]
theorem numP_run (most : Int) (l : List UInt8) (n : Int) (i : Nat) :
  numP most l = some (n, i) ↔ (l.takeWhile digB ≠ [] ∧ ¬ (1 < (l.takeWhile digB).length ∧ (l.takeWhile digB)[0]? = some 48) ∧ valL 0 (l.takeWhile digB) ≤ most ∧ n = valL 0 (l.takeWhile digB) ∧ i = (l.takeWhile digB).length) := by
 have h := numGo_run most l 0 0 (Int.le_refl _)
 have hz : ∀ k, 0 < (l.takeWhile digB).length → ((l.takeWhile digB)[0]? = some k ↔ l[0]? = some k) := by
  intro k hk
  cases l with
  | nil => simp at hk
  | cons c r =>
   by_cases hc : digB c = true
   ·rw [List.takeWhile_cons_of_pos hc]; simp
   ·rw [List.takeWhile_cons_of_neg hc] at hk; simp at hk
 have hl : l.takeWhile digB ≠ [] ↔ (l.takeWhile digB).length ≠ 0 := by simp
 unfold numP
 by_cases hv : valL 0 (l.takeWhile digB) ≤ most
 ·rw [h.1 hv]
  simp only [Nat.zero_add]
  rw [hl]
  generalize hL : (l.takeWhile digB).length = L at *
  by_cases c1 : L = 0
  ·simp [c1]
  ·by_cases c2 : 1 < L ∧ l[0]? = some 48
   ·rw [if_pos (.inr (.inr c2))]
    have := hz 48 (by omega)
    simp [this, c2]
   ·rw [if_neg (by intro h; rcases h with h | h | h; exact c1 h; omega; exact c2 h)]
    have := hz 48 (by omega)
    rw [this]
    simp only [Option.some.injEq, Prod.mk.injEq]
    constructor
    ·rintro ⟨rfl, rfl⟩; exact ⟨c1, c2, hv, rfl, rfl⟩
    ·rintro ⟨_, _, _, rfl, rfl⟩; exact ⟨rfl, rfl⟩
 ·have := h.2 (by omega)
  rw [if_pos (.inr (.inl this))]
  simp only [reduceCtorEq, false_iff]
  rintro ⟨_, _, h, _⟩
  exact hv h

theorem docG_digits : ∀ (ds : List UInt8) (b : Nat) (cur l : List UInt8), (∀ c ∈ ds, digB c = true) → docG (b + ds.length) cur (ds ++ l) = docG b (cur ++ ds) l
  | [], b, cur, l, _ => by simp
  | c :: r, b, cur, l, h => by
    have hc := h c List.mem_cons_self
    rw [List.length_cons, ← Nat.add_assoc, List.cons_append, docG, if_pos hc, docG_digits r b (cur ++ [c]) l (fun x hx => h x (List.mem_cons_of_mem _ hx))]
    simp
theorem docG_short : ∀ (ds : List UInt8) (b : Nat) (cur l : List UInt8), (∀ c ∈ ds, digB c = true) → b ≤ ds.length → docG b cur (ds ++ l) = none
  | _, 0, _, _, _, _ => by rw [docG]
  | [], b + 1, cur, l, _, hb => by simp at hb
  | c :: r, b + 1, cur, l, h, hb => by
    have hc := h c List.mem_cons_self
    rw [List.cons_append, docG, if_pos hc, docG_short r b (cur ++ [c]) l (fun x hx => h x (List.mem_cons_of_mem _ hx)) (by simpa using hb)]
theorem tw_all (l : List UInt8) : ∀ c ∈ l.takeWhile digB, digB c = true := fun c hc => List.all_eq_true.1 (List.all_takeWhile (p := digB) (l := l)) c hc
theorem tw_drop (l : List UInt8) : l.drop (l.takeWhile digB).length = l.dropWhile digB := by
  conv => lhs; rw [← List.takeWhile_append_dropWhile (p := digB) (l := l)]
  rw [List.takeWhile_append_dropWhile]
  conv => lhs; arg 2; rw [← List.takeWhile_append_dropWhile (p := digB) (l := l)]
  exact List.drop_left
theorem dw_head {l : List UInt8} {c : UInt8} {r : List UInt8} (h : l.dropWhile digB = c :: r) : digB c = false := by
  induction l with
  | nil => simp at h
  | cons a l ih =>
    by_cases ha : digB a = true
    · rw [List.dropWhile_cons_of_pos ha] at h; exact ih h
    · rw [List.dropWhile_cons_of_neg ha] at h
      obtain ⟨rfl, _⟩ := List.cons.inj h
      simpa using ha
theorem valL_len : ∀ (ds : List UInt8) (n : Int), 1 ≤ n → (∀ c ∈ ds, digB c = true) → (10 : Int) ^ ds.length ≤ valL n ds
  | [], n, h, _ => by simpa [valL] using h
  | c :: r, n, h, hd => by
    have hc := hd c List.mem_cons_self
    simp only [digB, Bool.and_eq_true, decide_eq_true_eq] at hc
    have e : valL n (c :: r) = valL (n * 10 + ((c.toNat : Int) - 48)) r := rfl
    have key : ∀ (r : List UInt8) (m : Int) , 1 ≤ m → (∀ c ∈ r, digB c = true) → m * (10 : Int) ^ r.length ≤ valL m r := by
      intro r
      induction r with
      | nil => intro m _ _; simp [valL]
      | cons c r ih =>
        intro m hm hr
        have hc := hr c List.mem_cons_self
        simp only [digB, Bool.and_eq_true, decide_eq_true_eq] at hc
        have e : valL m (c :: r) = valL (m * 10 + ((c.toNat : Int) - 48)) r := rfl
        rw [e]
        have := ih (m * 10 + ((c.toNat : Int) - 48)) (by omega) (fun x hx => hr x (List.mem_cons_of_mem _ hx))
        refine Int.le_trans ?_ this
        rw [List.length_cons, Int.pow_succ, Int.mul_comm ((10 : Int) ^ r.length), ← Int.mul_assoc]
        exact Int.mul_le_mul_of_nonneg_right (by omega) (Int.le_of_lt (Int.pow_pos (by decide)))
    have := key (c :: r) n h hd
    refine Int.le_trans ?_ this
    have hp : (0 : Int) < 10 ^ (c :: r).length := Int.pow_pos (by decide)
    calc (10 : Int) ^ (c :: r).length = 1 * 10 ^ (c :: r).length := by rw [Int.one_mul]
      _ ≤ n * 10 ^ (c :: r).length := Int.mul_le_mul_of_nonneg_right h (Int.le_of_lt hp)
theorem fig_len {ds : List UInt8} {most : Int} {D : Nat} (hd : ∀ c ∈ ds, digB c = true) (hz : ¬ (1 < ds.length ∧ ds[0]? = some 48)) (hv : valL 0 ds ≤ most) (hD : most < 10 ^ D) (h1 : 1 ≤ D) : ds.length ≤ D := by
  cases ds with
  | nil => simp
  | cons c r =>
    by_cases hr : r = []
    · subst hr; simpa using h1
    · have hc := hd c List.mem_cons_self
      simp only [digB, Bool.and_eq_true, decide_eq_true_eq] at hc
      have hc0 : c ≠ 48 := by
        intro h
        apply hz
        refine ⟨?_, by simp [h]⟩
        have := List.length_pos_iff.2 hr
        simp; omega
      have hcn : c.toNat ≠ 48 := fun h => hc0 (UInt8.toNat_inj.1 h)
      have := valL_len r ((c.toNat : Int) - 48) (by omega) (fun x hx => hd x (List.mem_cons_of_mem _ hx))
      have e : valL 0 (c :: r) = valL ((c.toNat : Int) - 48) r := by simp [valL]
      rw [e] at hv
      have hlt : (10 : Int) ^ r.length < 10 ^ D := by omega
      rw [List.length_cons]
      rcases Nat.lt_or_ge r.length D with h | h
      · omega
      · exfalso
        have hh : (10 : Nat) ^ D ≤ 10 ^ r.length := Nat.pow_le_pow_right (by decide) h
        have hh2 : ((10 ^ D : Nat) : Int) ≤ ((10 ^ r.length : Nat) : Int) := Int.ofNat_le.2 hh
        simp only [Int.natCast_pow] at hh2
        have e10 : ((10 : Nat) : Int) = 10 := rfl
        rw [e10] at hh2
        omega
theorem docG_at {l : List UInt8} {c : UInt8} {r : List UInt8} {b b' : Nat} (hc : l.dropWhile digB = c :: r) (hb : b = b' + 1 + (l.takeWhile digB).length) :
    docG b [] l = match figP (l.takeWhile digB) with
      | none => none
      | some n => if c = 59 then (match docG b' [] r with | none => none | some (ns, e, r') => some (n :: ns, e, r')) else some ([n], c, r) := by
  conv => lhs; rw [← List.takeWhile_append_dropWhile (p := digB) (l := l)]
  rw [hb, docG_digits _ _ _ _ (tw_all l), hc, List.nil_append, docG, dw_head hc]
  rfl
theorem docG_none {l : List UInt8} {b : Nat} (h : b ≤ (l.takeWhile digB).length ∨ l.dropWhile digB = []) : docG b [] l = none := by
  conv => lhs; rw [← List.takeWhile_append_dropWhile (p := digB) (l := l)]
  rcases Nat.lt_or_ge (l.takeWhile digB).length b with hb | hb
  · rcases h with h | h
    · omega
    · obtain ⟨b', rfl⟩ : ∃ b', b = (b' + 1) + (l.takeWhile digB).length := ⟨b - (l.takeWhile digB).length - 1, by omega⟩
      rw [docG_digits _ _ _ _ (tw_all l), h, docG]
  · exact docG_short _ _ _ _ (tw_all l) hb
theorem fig_some {ds : List UInt8} {n : Int} : figP ds = some n ↔ (ds ≠ [] ∧ ¬ (1 < ds.length ∧ ds[0]? = some 48) ∧ ds.length ≤ 9 ∧ n = valL 0 ds) := by
  unfold figP
  split
  · rename_i h
    simp only [reduceCtorEq, false_iff]
    rintro ⟨h1, h2, h3, _⟩
    rcases h with h | h | h
    · exact h1 h
    · omega
    · exact h2 h
  · rename_i h
    simp only [Option.some.injEq]
    exact ⟨fun e => ⟨fun x => h (.inl x), fun x => h (.inr (.inr x)), by have := fun x => h (.inr (.inl x)); omega, e.symm⟩, fun e => e.2.2.2.symm⟩
theorem docG_ne : ∀ (b : Nat) (cur l : List UInt8) (e : UInt8) (r : List UInt8), docG b cur l ≠ some ([], e, r)
  | 0, _, _, _, _ => by rw [docG]; simp
  | b + 1, cur, [], e, r => by rw [docG]; simp
  | b + 1, cur, c :: l, e, r => by
    rw [docG]
    split
    · exact docG_ne b _ l e r
    · split
      · simp
      · split
        · split <;> simp
        · simp
/-- What the program reads the document reads too. -/
theorem nums_doc {most : Int} {e : UInt8} {D : Nat} (hD : most < 10 ^ D) (h1 : 1 ≤ D) (h9 : D ≤ 9) (he : e ≠ 59) : ∀ (k : Nat) (l : List UInt8) (b : Nat) ns r, numsP most e (k + 1) l = some (ns, r) → (k + 1) * (D + 1) ≤ b →
  docG b [] l = some (ns, e, r) ∧ ns.length = k + 1 ∧ ∀ n ∈ ns, n ≤ most := by
 intro k
 induction k with
 | zero =>
  intro l b ns r h hb
  simp only [numsP] at h
  split at h
  ·cases h
  ·rename_i n i hn
   obtain ⟨g1, g2, g3, rfl, rfl⟩ := (numP_run most l n i).1 hn
   rw [tw_drop] at h
   split at h
   ·cases h
   ·rename_i c r' hc
    simp only [if_true] at h
    split at h
    ·rename_i hce
     injection h with h
     obtain ⟨rfl, rfl⟩ := Prod.mk.inj h
     have hL := fig_len (tw_all l) g2 g3 hD h1
     rw [docG_at hc (b' := b - (l.takeWhile digB).length - 1) (by omega), fig_some.2 ⟨g1, g2, by omega, rfl⟩]
     subst hce
     dsimp only
     rw [if_neg he]
     exact ⟨rfl, rfl, fun x hx => by simp at hx; subst hx; exact g3⟩
    ·cases h
 | succ k ih =>
  intro l b ns r h hb
  rw [numsP] at h
  split at h
  ·cases h
  ·rename_i n i hn
   obtain ⟨g1, g2, g3, rfl, rfl⟩ := (numP_run most l n i).1 hn
   rw [tw_drop] at h
   split at h
   ·cases h
   ·rename_i c r' hc
    simp only [Nat.add_eq_zero_iff, Nat.succ_ne_self, and_false, if_false, Nat.one_ne_zero] at h
    split at h
    ·rename_i hce
     split at h
     ·cases h
     ·rename_i ms r2 hrec
      injection h with h
      obtain ⟨rfl, rfl⟩ := Prod.mk.inj h
      have hL := fig_len (tw_all l) g2 g3 hD h1
      have hmul : (k + 1 + 1) * (D + 1) = (k + 1) * (D + 1) + (D + 1) := Nat.succ_mul _ _
      obtain ⟨q1, q2, q3⟩ := ih r' (b - (l.takeWhile digB).length - 1) _ _ hrec (by omega)
      rw [docG_at hc (b' := b - (l.takeWhile digB).length - 1) (by omega), fig_some.2 ⟨g1, g2, by omega, rfl⟩]
      dsimp only
      rw [if_pos hce, q1]
      refine ⟨rfl, by simp [q2], fun x hx => ?_⟩
      rcases List.mem_cons.1 hx with rfl | hx
      ·exact g3
      ·exact q3 x hx
    ·cases h
/-- And the other way. -/
theorem doc_nums {most : Int} {e : UInt8} (he : e ≠ 59) : ∀ (k : Nat) (l : List UInt8) (b : Nat) ns r, docG b [] l = some (ns, e, r) → ns.length = k + 1 → (∀ n ∈ ns, n ≤ most) → numsP most e (k + 1) l = some (ns, r) := by
 intro k
 induction k with
 | zero =>
  intro l b ns r h hk hm
  by_cases hb : b ≤ (l.takeWhile digB).length
  ·rw [docG_none (.inl hb)] at h; cases h
  ·cases hc : l.dropWhile digB with
   | nil => rw [docG_none (.inr hc)] at h; cases h
   | cons c r' =>
    rw [docG_at hc (b' := b - (l.takeWhile digB).length - 1) (by omega)] at h
    split at h
    ·cases h
    ·rename_i n hn
     obtain ⟨g1, g2, g3, g4⟩ := fig_some.1 hn
     split at h
     ·split at h
      ·cases h
      ·rename_i ms e2 r2 hrec
       injection h with h
       obtain ⟨rfl, h2⟩ := Prod.mk.inj h
       have hms : ms = [] := by simpa using hk
       subst hms
       exact absurd hrec (docG_ne _ _ _ _ _)
     ·injection h with h
      obtain ⟨rfl, h2⟩ := Prod.mk.inj h
      obtain ⟨rfl, rfl⟩ := Prod.mk.inj h2
      have hnm := (numP_run most l n (l.takeWhile digB).length).2 ⟨g1, g2, by rw [← g4]; exact hm n (by simp), g4, rfl⟩
      simp only [numsP]
      rw [hnm]
      dsimp only
      rw [tw_drop, hc]
      simp
 | succ k ih =>
  intro l b ns r h hk hm
  by_cases hb : b ≤ (l.takeWhile digB).length
  ·rw [docG_none (.inl hb)] at h; cases h
  ·cases hc : l.dropWhile digB with
   | nil => rw [docG_none (.inr hc)] at h; cases h
   | cons c r' =>
    rw [docG_at hc (b' := b - (l.takeWhile digB).length - 1) (by omega)] at h
    split at h
    ·cases h
    ·rename_i n hn
     obtain ⟨g1, g2, g3, g4⟩ := fig_some.1 hn
     split at h
     ·rename_i hc59
      split at h
      ·cases h
      ·rename_i ms e2 r2 hrec
       injection h with h
       obtain ⟨rfl, h2⟩ := Prod.mk.inj h
       obtain ⟨rfl, rfl⟩ := Prod.mk.inj h2
       have hnm := (numP_run most l n (l.takeWhile digB).length).2 ⟨g1, g2, by rw [← g4]; exact hm n (by simp), g4, rfl⟩
       have hrec2 := ih r' _ ms _ hrec (by simpa using hk) (fun x hx => hm x (List.mem_cons_of_mem _ hx))
       rw [numsP, hnm]
       dsimp only
       rw [tw_drop, hc]
       dsimp only
       rw [if_neg (Nat.succ_ne_zero k), if_pos hc59, hrec2]
     ·injection h with h
      obtain ⟨rfl, _⟩ := Prod.mk.inj h
      simp at hk
/-! ### a terminal -/
theorem numsP_len {most : Int} {e : UInt8} : ∀ {k : Nat} {l : List UInt8} {ns r}, numsP most e k l = some (ns, r) → ns.length = k ∧ r.length + k ≤ l.length
  | 0, l, ns, r, h => by
    simp only [numsP, Option.some.injEq, Prod.mk.injEq] at h
    obtain ⟨rfl, rfl⟩ := h
    exact ⟨rfl, Nat.le_refl _⟩
  | k + 1, l, ns, r, h => by
    rw [numsP] at h
    split at h
    · cases h
    · rename_i n i _
      split at h
      · cases h
      · rename_i c r' hc
        by_cases hce : c = (if k = 0 then e else 59)
        · rw [if_pos hce] at h
          split at h
          · cases h
          · rename_i ms r2 hrec
            injection h with h
            obtain ⟨rfl, rfl⟩ := Prod.mk.inj h
            have := numsP_len hrec
            have hl := congrArg List.length hc
            rw [List.length_drop, List.length_cons] at hl
            rw [List.length_cons]
            omega
        · rw [if_neg hce] at h; cases h
structure Tm where
  x : Int
  y : Int
  col : Co
  back : Co
/-- An escape: the terminal behind it, how many bytes it has. -/
def escP (t : Tm) : List UInt8 → Option (Tm × Nat)
  | 27 :: 91 :: l => match numsP 16384 72 2 l with
    | some ([y, x], r) => if x < 1 ∨ y < 1 then none else some ({ t with x := x - 1, y := y - 1 }, l.length + 2 - r.length)
    | _ => match numsP 255 109 6 l with
      | some ([a, b, c0, c1, c2, c3], r) => if b = 2 then (if a = 38 then some ({ t with col := ⟨c0, c1, c2, c3⟩ }, l.length + 2 - r.length) else if a = 48 then some ({ t with back := ⟨c0, c1, c2, c3⟩ }, l.length + 2 - r.length) else none) else none
      | _ => none
  | _ => none
theorem escP_pos {t t' : Tm} {l : List UInt8} {n : Nat} (h : escP t l = some (t', n)) : 1 ≤ n ∧ n ≤ l.length := by
  unfold escP at h
  split at h
  · rename_i l
    split at h
    · rename_i y x r hr
      have := (numsP_len hr).2
      split at h
      · cases h
      · injection h with h
        obtain ⟨_, rfl⟩ := Prod.mk.inj h
        simp only [List.length_cons]
        omega
    · split at h
      · rename_i a b c0 c1 c2 c3 r hr
        have := (numsP_len hr).2
        split at h
        · split at h
          · injection h with h
            obtain ⟨_, rfl⟩ := Prod.mk.inj h
            simp only [List.length_cons]
            omega
          · split at h
            · injection h with h
              obtain ⟨_, rfl⟩ := Prod.mk.inj h
              simp only [List.length_cons]
              omega
            · cases h
        · cases h
      · cases h
  · cases h
/-- The cells that a rune makes. -/
def putL (h : Int) (r : Int) (c b : Co) : List Ce :=
  if widR r = 1 then (if h = 0 then [⟨r, c, b, false, false⟩] else []) else if widR r = 2 then (if h = 14 then [⟨r, c, b, true, false⟩] else if h = 15 then [⟨r, c, b, false, true⟩] else [⟨r, c, b, true, false⟩, ⟨r, c, b, false, true⟩]) else []
def splC (cs : List Ce) (i : Nat) (p : List Ce) : List Ce := cs.take i ++ p ++ cs.drop (i + p.length)
theorem splC_len {cs p : List Ce} {i : Nat} (h : i + p.length ≤ cs.length) : (splC cs i p).length = cs.length := by
  unfold splC
  rw [List.length_append, List.length_append, List.length_take, List.length_drop]
  omega
def halfP (c : UInt8) : Int := if c = 14 ∨ c = 15 then c.toNat else 0
def skipP (c : UInt8) : Nat := if c = 14 ∨ c = 15 then 1 else 0
def cellP (wd ht : Int) (cs : List Ce) (t : Tm) : List UInt8 → Option (List Ce × Tm × Nat)
  | [] => none
  | c :: r =>
    let d := Lib.decodeGo (strL ((c :: r).drop (skipP c)))
    if d.1 = 65533 ∧ d.2 < 3 then none else
    let p := putL (halfP c) d.1 t.col t.back
    if p = [] ∨ plcS wd ht t.x t.y = false ∨ wd - t.x < p.length then none
    else some (splC cs (t.y * wd + t.x).toNat p, { t with x := t.x + p.length }, skipP c + d.2)
theorem dec1 (s : ByteArray) : ((Lib.decodeGo s).1 = 65533 ∧ (Lib.decodeGo s).2 < 3) ∨ (1 ≤ (Lib.decodeGo s).2 ∧ (Lib.decodeGo s).2 ≤ s.size) := by
  unfold Lib.decodeGo
  by_cases h : s.size = 0
  · rw [if_pos h]; exact .inl ⟨rfl, by decide⟩
  · rw [if_neg h]
    have h1 := dec_pos s 0
    have h2 := dec_fit (s := s) (p := 0) (by omega)
    exact .inr ⟨h1, by omega⟩
theorem strL_size (l : List UInt8) : (strL l).size = l.length := by simp [strL, ByteArray.size]
theorem cellP_pos {wd ht : Int} {cs cs' : List Ce} {t t' : Tm} {l : List UInt8} {n : Nat} (h : cellP wd ht cs t l = some (cs', t', n)) : 1 ≤ n ∧ n ≤ l.length := by
  cases l with
  | nil => cases h
  | cons c r =>
    rw [cellP] at h
    dsimp only at h
    split at h
    · cases h
    · rename_i hd
      split at h
      · cases h
      · injection h with h
        obtain ⟨_, h⟩ := Prod.mk.inj h
        obtain ⟨_, rfl⟩ := Prod.mk.inj h
        have := (dec1 (strL ((c :: r).drop (skipP c)))).resolve_left hd
        rw [strL_size, List.length_drop] at this
        omega
/-- One step: an escape or a rune. -/
def stepP (wd ht : Int) (cs : List Ce) (t : Tm) (l : List UInt8) : Option (List Ce × Tm × Nat) :=
  if l.head? = some 27 then (match escP t l with | none => none | some (t', n) => some (cs, t', n)) else cellP wd ht cs t l
theorem stepP_pos {wd ht : Int} {cs cs' : List Ce} {t t' : Tm} {l : List UInt8} {n : Nat} (h : stepP wd ht cs t l = some (cs', t', n)) : 1 ≤ n ∧ n ≤ l.length := by
  unfold stepP at h
  split at h
  · split at h
    · cases h
    · rename_i t2 n2 he
      injection h with h
      obtain ⟨_, h⟩ := Prod.mk.inj h
      obtain ⟨_, rfl⟩ := Prod.mk.inj h
      exact escP_pos he
  · exact cellP_pos h
/-- All of a text: the place of what is wrong, or the cells. -/
def readF (wd ht : Int) : Nat → List Ce → Tm → List UInt8 → Nat → Except Nat (List Ce)
  | 0, cs, _, _, _ => .ok cs
  | f + 1, cs, t, l, p => if l = [] then .ok cs else match stepP wd ht cs t l with
    | none => .error p
    | some (cs', t', n) => readF wd ht f cs' t' (l.drop n) (p + n)
theorem readF_more (wd ht : Int) : ∀ (f g : Nat) (cs : List Ce) (t : Tm) (l : List UInt8) (p : Nat), l.length ≤ f → l.length ≤ g → readF wd ht f cs t l p = readF wd ht g cs t l p
  | 0, 0, _, _, _, _, _, _ => rfl
  | 0, g + 1, cs, t, l, p, h, _ => by rw [readF, readF, if_pos (by simpa using h)]
  | f + 1, 0, cs, t, l, p, _, h => by rw [readF, readF, if_pos (by simpa using h)]
  | f + 1, g + 1, cs, t, l, p, h1, h2 => by
    rw [readF, readF]
    split
    · rfl
    · split
      · rfl
      · rename_i cs' t' n hs
        have := stepP_pos hs
        exact readF_more wd ht f g _ _ _ _ (by rw [List.length_drop]; omega) (by rw [List.length_drop]; omega)
def readL (wd ht : Int) (cs : List Ce) (t : Tm) (l : List UInt8) (p : Nat) : Except Nat (List Ce) := readF wd ht l.length cs t l p
theorem readL_step {wd ht : Int} {cs : List Ce} {t : Tm} {l : List UInt8} {p : Nat} (hl : l ≠ []) : readL wd ht cs t l p = match stepP wd ht cs t l with
    | none => .error p
    | some (cs', t', n) => readL wd ht cs' t' (l.drop n) (p + n) := by
  unfold readL
  cases l with
  | nil => exact absurd rfl hl
  | cons c r =>
    rw [List.length_cons, readF, if_neg hl]
    split
    · rfl
    · rename_i cs' t' n hs
      have := stepP_pos hs
      rw [List.length_cons] at this
      exact readF_more wd ht _ _ _ _ _ _ (by rw [List.length_drop, List.length_cons]; omega) (Nat.le_refl _)
def Tm.zero : Tm := ⟨0, 0, ⟨0, 0, 0, 0⟩, ⟨0, 0, 0, 0⟩⟩
/-- What Read answers: the error, its place, the size, the cells. -/
def readS (wd ht : Int) (cs : List Ce) (l : List UInt8) : Int × Int × Int × Int × List Ce :=
  if chkS wd ht cs = 0 then (if 1048576 < l.length then (3, 0, 0, 0, []) else match readL wd ht cs Tm.zero l 0 with
    | .error p => (150, p, 0, 0, [])
    | .ok cs' => (0, 0, wd, ht, cs')) else (chkS wd ht cs, 0, 0, 0, [])
end Go.Proofs.YtffmomgmkpmpkaaGreatDoor
