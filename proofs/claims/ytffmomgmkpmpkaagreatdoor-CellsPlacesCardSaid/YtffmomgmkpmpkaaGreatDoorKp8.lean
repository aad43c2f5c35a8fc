/-
  Cells, plain: what a terminal reads of a text: numbers, escapes, runes; the document's way to read numbers.
-/
import Derived.Shelf.Bits.Mul64
import Derived.Shelf.LaysM
import Derived.Shelf.Small.Bits
import Derived.Shelf.Small.Wraps
import Derived.Shelf.Strconv.Itoa0
import Derived.Shelf.Strconv.Itoa1
import Derived.Shelf.Strconv.Itoa2
import Derived.Shelf.Strconv.Itoa3
import Derived.Shelf.Strings.Builder1
import Derived.Shelf.Strings.BuilderCap
import Derived.Shelf.Strings.BuilderF
import Derived.Shelf.Strings.BuilderK
import Derived.Shelf.Strings.BuilderRune
import Derived.Shelf.Strings.Prefix
import Derived.Shelf.Unicode.Decode
import Derived.Shelf.Unicode.DecodeAny
import Derived.Shelf.Unicode.DecodeSlow
import Derived.Shelf.Utf8.AppendRune
import Derived.Shelf.Utf8.AppendRunePlain
import Derived.Test.YtffmomgmkpmpkaaGreatDoorProg
import Derived.Test.YtffmomgmkpmpkaaGreatDoorKp7
namespace Go.Proofs.YtffmomgmkpmpkaaGreatDoor
open Go.RowKit
set_option linter.unusedVariables false
attribute [local go_sem] vwp vUpon_value vUpon_skip vUpon_enter vUpon_row
set_option linter.unusedSimpArgs false
set_option linter.unusedVariables false
/-- k numbers with semicolons between, and the byte behind them: the numbers, what is left. -/
def numsP (most : Int) (e : UInt8) : Nat → List UInt8 → Option (List Int × List UInt8)
  | 0, l => some ([], l)
  | k + 1, l => match numP most l with
    | none => none
    | some (n, i) => match l.drop i with
      | [] => none
      | c :: r => if c = (if k = 0 then e else 59) then (match numsP most e k r with | none => none | some (ns, r') => some (n :: ns, r')) else none
/-! ### the document's way to read numbers -/
def digB (c : UInt8) : Bool := decide (48 ≤ c.toNat) && decide (c.toNat ≤ 57)
def valL (n : Int) (ds : List UInt8) : Int := ds.foldl (fun n c => n * 10 + ((c.toNat : Int) - 48)) n
theorem valL_ge : ∀ (ds : List UInt8) (n : Int), 0 ≤ n → (∀ c ∈ ds, digB c = true) → n ≤ valL n ds
  | [], n, _, _ => by simp [valL]
  | c :: r, n, h0, h => by
    have hc := h c List.mem_cons_self
    simp only [digB, Bool.and_eq_true, decide_eq_true_eq] at hc
    have := valL_ge r (n * 10 + ((c.toNat : Int) - 48)) (by omega) (fun x hx => h x (List.mem_cons_of_mem _ hx))
    have e : valL n (c :: r) = valL (n * 10 + ((c.toNat : Int) - 48)) r := rfl
    omega
/-- What the program's reading does, by the figures in front. -/
theorem numGo_run (most : Int) : ∀ (l : List UInt8) (i : Nat) (n : Int), 0 ≤ n → 
    (valL n (l.takeWhile digB) ≤ most → numGo most l i n = (i + (l.takeWhile digB).length, valL n (l.takeWhile digB))) ∧
    (most < valL n (l.takeWhile digB) → most < (numGo most l i n).2)
  | [], i, n, h0 => by simp [numGo, valL]
  | c :: r, i, n, h0 => by
    rw [numGo]
    by_cases hc : digB c = true
    · have hd := hc
      simp only [digB, Bool.and_eq_true, decide_eq_true_eq] at hd
      rw [List.takeWhile_cons_of_pos hc]
      have e : valL n (c :: r.takeWhile digB) = valL (n * 10 + ((c.toNat : Int) - 48)) (r.takeWhile digB) := rfl
      rw [e]
      have ih := numGo_run most r (i + 1) (n * 10 + ((c.toNat : Int) - 48)) (by omega)
      have hge := valL_ge (r.takeWhile digB) (n * 10 + ((c.toNat : Int) - 48)) (by omega) (fun x hx => by have := List.all_takeWhile (p := digB) (l := r); exact List.all_eq_true.1 this x hx)
      by_cases hn : n ≤ most
      · rw [if_pos ⟨hd.1, hd.2, hn⟩]
        refine ⟨fun h => ?_, ih.2⟩
        rw [ih.1 h]
        simp only [List.length_cons]
        congr 1
        omega
      · rw [if_neg (fun h => hn h.2.2)]
        exact ⟨fun h => by omega, fun _ => by simp; omega⟩
    · rw [List.takeWhile_cons_of_neg hc, if_neg (fun h => hc (by simp [digB, h.1, h.2.1]))]
      simp [valL]
theorem numP_run (most : Int) (l : List UInt8) (n : Int) (i : Nat) :
  numP most l = some (n, i) ↔ (l.takeWhile digB ≠ [] ∧ ¬ (1 < (l.takeWhile digB).length ∧ (l.takeWhile digB)[0]? = some 48) ∧ valL 0 (l.takeWhile digB) ≤ most ∧ n = valL 0 (l.takeWhile digB) ∧ i = (l.takeWhile digB).length) := by
 have h := numGo_run most l 0 0 (Int.le_refl _)
 have hz : ∀ k, 0 < (l.takeWhile digB).length → ((l.takeWhile digB)[0]? = some k ↔ l[0]? = some k) := by
  intro k hk
  cases l with
  | nil => simp at hk
  | cons c r =>
   by_cases hc : digB c = true
   ·rw [List.takeWhile_cons_of_pos hc]; simp
   ·rw [List.takeWhile_cons_of_neg hc] at hk; simp at hk
 have hl : l.takeWhile digB ≠ [] ↔ (l.takeWhile digB).length ≠ 0 := by simp
 unfold numP
 by_cases hv : valL 0 (l.takeWhile digB) ≤ most
 ·rw [h.1 hv]
  simp only [Nat.zero_add]
  rw [hl]
  generalize hL : (l.takeWhile digB).length = L at *
  by_cases c1 : L = 0
  ·simp [c1]
  ·by_cases c2 : 1 < L ∧ l[0]? = some 48
   ·rw [if_pos (.inr (.inr c2))]
    have := hz 48 (by omega)
    simp [this, c2]
   ·rw [if_neg (by intro h; rcases h with h | h | h; exact c1 h; omega; exact c2 h)]
    have := hz 48 (by omega)
    rw [this]
    simp only [Option.some.injEq, Prod.mk.injEq]
    constructor
    ·rintro ⟨rfl, rfl⟩; exact ⟨c1, c2, hv, rfl, rfl⟩
    ·rintro ⟨_, _, _, rfl, rfl⟩; exact ⟨rfl, rfl⟩
 ·have := h.2 (by omega)
  rw [if_pos (.inr (.inl this))]
  simp only [reduceCtorEq, false_iff]
  rintro ⟨_, _, h, _⟩
  exact hv h

theorem tw_all (l : List UInt8) : ∀ c ∈ l.takeWhile digB, digB c = true := fun c hc => List.all_eq_true.1 (List.all_takeWhile (p := digB) (l := l)) c hc
/-! ### a terminal -/
theorem numsP_len {most : Int} {e : UInt8} : ∀ {k : Nat} {l : List UInt8} {ns r}, numsP most e k l = some (ns, r) → ns.length = k ∧ r.length + k ≤ l.length
  | 0, l, ns, r, h => by
    simp only [numsP, Option.some.injEq, Prod.mk.injEq] at h
    obtain ⟨rfl, rfl⟩ := h
    exact ⟨rfl, Nat.le_refl _⟩
  | k + 1, l, ns, r, h => by
    rw [numsP] at h
    split at h
    · cases h
    · rename_i n i _
      split at h
      · cases h
      · rename_i c r' hc
        by_cases hce : c = (if k = 0 then e else 59)
        · rw [if_pos hce] at h
          split at h
          · cases h
          · rename_i ms r2 hrec
            injection h with h
            obtain ⟨rfl, rfl⟩ := Prod.mk.inj h
            have := numsP_len hrec
            have hl := congrArg List.length hc
            rw [List.length_drop, List.length_cons] at hl
            rw [List.length_cons]
            omega
        · rw [if_neg hce] at h; cases h
structure Tm where
  x : Int
  y : Int
  col : Co
  back : Co
/-- An escape: the terminal behind it, how many bytes it has. -/
def escP (t : Tm) : List UInt8 → Option (Tm × Nat)
  | 27 :: 91 :: l => match numsP 16384 72 2 l with
    | some ([y, x], r) => if x < 1 ∨ y < 1 then none else some ({ t with x := x - 1, y := y - 1 }, l.length + 2 - r.length)
    | _ => match numsP 255 109 6 l with
      | some ([a, b, c0, c1, c2, c3], r) => if b = 2 then (if a = 38 then some ({ t with col := ⟨c0, c1, c2, c3⟩ }, l.length + 2 - r.length) else if a = 48 then some ({ t with back := ⟨c0, c1, c2, c3⟩ }, l.length + 2 - r.length) else none) else none
      | _ => none
  | _ => none
theorem escP_pos {t t' : Tm} {l : List UInt8} {n : Nat} (h : escP t l = some (t', n)) : 1 ≤ n ∧ n ≤ l.length := by
  unfold escP at h
  split at h
  · rename_i l
    split at h
    · rename_i y x r hr
      have := (numsP_len hr).2
      split at h
      · cases h
      · injection h with h
        obtain ⟨_, rfl⟩ := Prod.mk.inj h
        simp only [List.length_cons]
        omega
    · split at h
      · rename_i a b c0 c1 c2 c3 r hr
        have := (numsP_len hr).2
        split at h
        · split at h
          · injection h with h
            obtain ⟨_, rfl⟩ := Prod.mk.inj h
            simp only [List.length_cons]
            omega
          · split at h
            · injection h with h
              obtain ⟨_, rfl⟩ := Prod.mk.inj h
              simp only [List.length_cons]
              omega
            · cases h
        · cases h
      · cases h
  · cases h
/-- The cells that a rune makes. -/
def putL (h : Int) (r : Int) (c b : Co) : List Ce :=
  if widR r = 1 then (if h = 0 then [⟨r, c, b, false, false⟩] else []) else if widR r = 2 then (if h = 14 then [⟨r, c, b, true, false⟩] else if h = 15 then [⟨r, c, b, false, true⟩] else [⟨r, c, b, true, false⟩, ⟨r, c, b, false, true⟩]) else []
def splC (cs : List Ce) (i : Nat) (p : List Ce) : List Ce := cs.take i ++ p ++ cs.drop (i + p.length)
theorem splC_len {cs p : List Ce} {i : Nat} (h : i + p.length ≤ cs.length) : (splC cs i p).length = cs.length := by
  unfold splC
  rw [List.length_append, List.length_append, List.length_take, List.length_drop]
  omega
def halfP (c : UInt8) : Int := if c = 14 ∨ c = 15 then c.toNat else 0
def skipP (c : UInt8) : Nat := if c = 14 ∨ c = 15 then 1 else 0
def cellP (wd ht : Int) (cs : List Ce) (t : Tm) : List UInt8 → Option (List Ce × Tm × Nat)
  | [] => none
  | c :: r =>
    let d := Lib.decodeGo (strL ((c :: r).drop (skipP c)))
    if d.1 = 65533 ∧ d.2 < 3 then none else
    let p := putL (halfP c) d.1 t.col t.back
    if p = [] ∨ plcS wd ht t.x t.y = false ∨ wd - t.x < p.length then none
    else some (splC cs (t.y * wd + t.x).toNat p, { t with x := t.x + p.length }, skipP c + d.2)
theorem dec1 (s : ByteArray) : ((Lib.decodeGo s).1 = 65533 ∧ (Lib.decodeGo s).2 < 3) ∨ (1 ≤ (Lib.decodeGo s).2 ∧ (Lib.decodeGo s).2 ≤ s.size) := by
  unfold Lib.decodeGo
  by_cases h : s.size = 0
  · rw [if_pos h]; exact .inl ⟨rfl, by decide⟩
  · rw [if_neg h]
    have h1 := dec_pos s 0
    have h2 := dec_fit (s := s) (p := 0) (by omega)
    exact .inr ⟨h1, by omega⟩
theorem strL_size (l : List UInt8) : (strL l).size = l.length := by simp [strL, ByteArray.size]
theorem cellP_pos {wd ht : Int} {cs cs' : List Ce} {t t' : Tm} {l : List UInt8} {n : Nat} (h : cellP wd ht cs t l = some (cs', t', n)) : 1 ≤ n ∧ n ≤ l.length := by
  cases l with
  | nil => cases h
  | cons c r =>
    rw [cellP] at h
    dsimp only at h
    split at h
    · cases h
    · rename_i hd
      split at h
      · cases h
      · injection h with h
        obtain ⟨_, h⟩ := Prod.mk.inj h
        obtain ⟨_, rfl⟩ := Prod.mk.inj h
        have := (dec1 (strL ((c :: r).drop (skipP c)))).resolve_left hd
        rw [strL_size, List.length_drop] at this
        omega
/-- One step: an escape or a rune. -/
def stepP (wd ht : Int) (cs : List Ce) (t : Tm) (l : List UInt8) : Option (List Ce × Tm × Nat) :=
  if l.head? = some 27 then (match escP t l with | none => none | some (t', n) => some (cs, t', n)) else cellP wd ht cs t l
theorem stepP_pos {wd ht : Int} {cs cs' : List Ce} {t t' : Tm} {l : List UInt8} {n : Nat} (h : stepP wd ht cs t l = some (cs', t', n)) : 1 ≤ n ∧ n ≤ l.length := by
  unfold stepP at h
  split at h
  · split at h
    · cases h
    · rename_i t2 n2 he
      injection h with h
      obtain ⟨_, h⟩ := Prod.mk.inj h
      obtain ⟨_, rfl⟩ := Prod.mk.inj h
      exact escP_pos he
  · exact cellP_pos h
/-- All of a text: the place of what is wrong, or the cells. -/
def readF (wd ht : Int) : Nat → List Ce → Tm → List UInt8 → Nat → Except Nat (List Ce)
  | 0, cs, _, _, _ => .ok cs
  | f + 1, cs, t, l, p => if l = [] then .ok cs else match stepP wd ht cs t l with
    | none => .error p
    | some (cs', t', n) => readF wd ht f cs' t' (l.drop n) (p + n)
theorem readF_more (wd ht : Int) : ∀ (f g : Nat) (cs : List Ce) (t : Tm) (l : List UInt8) (p : Nat), l.length ≤ f → l.length ≤ g → readF wd ht f cs t l p = readF wd ht g cs t l p
  | 0, 0, _, _, _, _, _, _ => rfl
  | 0, g + 1, cs, t, l, p, h, _ => by rw [readF, readF, if_pos (by simpa using h)]
  | f + 1, 0, cs, t, l, p, _, h => by rw [readF, readF, if_pos (by simpa using h)]
  | f + 1, g + 1, cs, t, l, p, h1, h2 => by
    rw [readF, readF]
    split
    · rfl
    · split
      · rfl
      · rename_i cs' t' n hs
        have := stepP_pos hs
        exact readF_more wd ht f g _ _ _ _ (by rw [List.length_drop]; omega) (by rw [List.length_drop]; omega)
def readL (wd ht : Int) (cs : List Ce) (t : Tm) (l : List UInt8) (p : Nat) : Except Nat (List Ce) := readF wd ht l.length cs t l p
theorem readL_step {wd ht : Int} {cs : List Ce} {t : Tm} {l : List UInt8} {p : Nat} (hl : l ≠ []) : readL wd ht cs t l p = match stepP wd ht cs t l with
    | none => .error p
    | some (cs', t', n) => readL wd ht cs' t' (l.drop n) (p + n) := by
  unfold readL
  cases l with
  | nil => exact absurd rfl hl
  | cons c r =>
    rw [List.length_cons, readF, if_neg hl]
    split
    · rfl
    · rename_i cs' t' n hs
      have := stepP_pos hs
      rw [List.length_cons] at this
      exact readF_more wd ht _ _ _ _ _ _ (by rw [List.length_drop, List.length_cons]; omega) (Nat.le_refl _)
def Tm.zero : Tm := ⟨0, 0, ⟨0, 0, 0, 0⟩, ⟨0, 0, 0, 0⟩⟩
/-- What Read answers: the error, its place, the size, the cells. -/
def readS (wd ht : Int) (cs : List Ce) (l : List UInt8) : Int × Int × Int × Int × List Ce :=
  if chkS wd ht cs = 0 then (if 1048576 < l.length then (3, 0, 0, 0, []) else match readL wd ht cs Tm.zero l 0 with
    | .error p => (150, p, 0, 0, [])
    | .ok cs' => (0, 0, wd, ht, cs')) else (chkS wd ht cs, 0, 0, 0, [])
end Go.Proofs.YtffmomgmkpmpkaaGreatDoor

namespace Go.Proofs.YtffmomgmkpmpkaaGreatDoor
open Go.RowKit
set_option linter.unusedVariables false
attribute [local go_sem] vwp vUpon_value vUpon_skip vUpon_enter vUpon_row
set_option linter.unusedSimpArgs false
set_option linter.unusedVariables false
theorem blkNe {w : World} {g b : Nat} {cs cs' : List Value} {T T' : TypeId} (h : Blk w g cs T) (h' : Blk w b cs' T') (hT : T ≠ T') : g ≠ b := by
  rintro rfl
  unfold Blk at h h'
  rw [h] at h'
  injection h' with h'
  injection h' with _ e
  exact hT e
def outNums : Option (List Int × List UInt8) → Value
  | none => .tuple #[.string ⟨#[]⟩, .bool false]
  | some (_, r) => .tuple #[.string (strL r), .bool true]
abbrev ptrV (p : Nat) : Value := .pointer (some ⟨p, 0, none⟩)
/-- The blocks of ints of the caller's, and what they hold. -/
def Ints (w : World) (ps : List Nat) (vs : List Int) : Prop := vs.length = ps.length ∧ ∀ (j p : Nat) (v : Int), ps[j]? = some p → vs[j]? = some v → Blk w p [.int .i64 v] 3
theorem Ints.set {w : World} {ps : List Nat} {vs : List Int} (h : Ints w ps vs) (hd : ps.Nodup) {i p : Nat} (hp : ps[i]? = some p) (x : Int) : Ints (w.setCell ⟨p, 0, none⟩ (.int .i64 x)) ps (vs.set i x) := by
  refine ⟨by rw [List.length_set]; exact h.1, fun j q v hq hv => ?_⟩
  by_cases hji : i = j
  · subst hji
    rw [hp] at hq
    injection hq with hq
    subst hq
    have hil : i < vs.length := by rw [h.1]; exact (List.getElem?_eq_some_iff.1 hp).1
    rw [List.getElem?_set_self hil] at hv
    injection hv with hv
    subst hv
    exact (h.2 i p _ hp (List.getElem?_eq_getElem hil)).set 0 _
  · rw [List.getElem?_set_ne hji] at hv
    refine (h.2 j q v hq hv).set_ne ?_ _
    intro e
    have e : q = p := e
    subst e
    obtain ⟨h1, e1⟩ := List.getElem?_eq_some_iff.1 hp
    obtain ⟨h2, e2⟩ := List.getElem?_eq_some_iff.1 hq
    exact hji ((List.getElem?_inj h1 hd).1 (hp.trans hq.symm))
theorem Ints.below {w w' : World} {ps : List Nat} {vs : List Int} (h : Ints w ps vs) (hb : Below w.heap.size w w') : Ints w' ps vs :=
  ⟨h.1, fun j p v h1 h2 => (h.2 j p v h1 h2).below hb (h.2 j p v h1 h2).lt⟩
theorem take_set_snoc {vs : List Int} {i : Nat} (h : i < vs.length) (x : Int) : (vs.set i x).take (i + 1) = vs.take i ++ [x] := by
  rw [List.take_add_one, List.take_set_of_le (Nat.le_refl _), List.getElem?_set_self h]
  rfl
def numsAt (most : Int) (e : UInt8) (k : Nat) (l : List UInt8) (p : List Int) : Option (List Int × List UInt8) := match numsP most e k l with
  | none => none
  | some (ns, r) => some (p ++ ns, r)
theorem numsAt_none {most : Int} {e : UInt8} {k : Nat} {l : List UInt8} {p : List Int} (h : numP most l = none) : numsAt most e (k + 1) l p = none := by
  unfold numsAt; rw [numsP, h]
theorem numsAt_nil {most : Int} {e : UInt8} {k : Nat} {l : List UInt8} {p : List Int} {n : Int} {i : Nat} (h : numP most l = some (n, i)) (hr : l.drop i = []) : numsAt most e (k + 1) l p = none := by
  unfold numsAt; rw [numsP, h]; dsimp only; rw [hr]
theorem numsAt_bad {most : Int} {e : UInt8} {k : Nat} {l r : List UInt8} {p : List Int} {n : Int} {i : Nat} {c : UInt8} (h : numP most l = some (n, i)) (hr : l.drop i = c :: r) (hc : c ≠ (if k = 0 then e else 59)) : numsAt most e (k + 1) l p = none := by
  unfold numsAt; rw [numsP, h]; dsimp only; rw [hr]; dsimp only; rw [if_neg hc]
theorem numsAt_step {most : Int} {e : UInt8} {k : Nat} {l r : List UInt8} {p : List Int} {n : Int} {i : Nat} {c : UInt8} (h : numP most l = some (n, i)) (hr : l.drop i = c :: r) (hc : c = (if k = 0 then e else 59)) : numsAt most e (k + 1) l p = numsAt most e k r (p ++ [n]) := by
  unfold numsAt; rw [numsP, h]; dsimp only; rw [hr]; dsimp only; rw [if_pos hc]
  cases numsP most e k r with
  | none => rfl
  | some q =>
    obtain ⟨ms, r3⟩ := q
    simp
theorem numP_fit {most : Int} {l : List UInt8} {n : Int} {i : Nat} (h : numP most l = some (n, i)) : i ≤ l.length ∧ 0 ≤ n ∧ n ≤ most := by
  have hb := numGo_bd most l 0 0
  have h2 := (numP_run most l n i).1 h
  refine ⟨?_, ?_, ?_⟩
  · unfold numP at h
    split at h
    · cases h
    · injection h with h
      obtain ⟨_, rfl⟩ := Prod.mk.inj h
      omega
  · obtain ⟨_, _, _, rfl, _⟩ := h2
    exact valL_ge _ _ (Int.le_refl _) (tw_all l)
  · obtain ⟨_, _, h3, rfl, _⟩ := h2
    exact h3
theorem bAt_cons (c : UInt8) (r : List UInt8) : bAt (strL (c :: r)) 0 = c.toNat := by
  rw [← bAt_eq (s := strL (c :: r)) (i := 0) (by rw [strL_size]; simp)]
  simp [strL]
  rfl
set_option maxHeartbeats 4000000 in
set_option maxRecDepth 100000 in
theorem numbers_any (ps : List Nat) (g cap : Nat) (l : List UInt8) (most : Int) (e : UInt8) (ke : Int) (hke : (e.toNat : Int) = ke) (vs0 : List Int) (w : World) (hI : Ints w ps vs0) (hg : Blk w g (ps.map ptrV) 164) (hd : ps.Nodup) (hn : ps.length ≤ 10)
  (hc : ps.length ≤ cap) (hl : l.length ≤ 2000000) (hm0 : 0 ≤ most) (hm1 : most ≤ 1000000) :
  Calls Tryz.prog 109 #[.string (strL l), .int .i64 most, .int .u8 ke, .slice (some ⟨g, 0, none⟩) ps.length cap] w fun ev w' => ev = .returned (outNums (numsP most e ps.length l)) ∧ KeptBut (· ∈ ps) w w' ∧ ∃ vs, Ints w' ps vs ∧ ∀ ns r, numsP most e ps.length l = some (ns, r) → vs = ns := by
 obtain ⟨N, hN⟩ : ∃ N, ps.length = N := ⟨_, rfl⟩
 rw [hN] at hn hc ⊢
 obtain ⟨RES, hR⟩ : ∃ R, numsP most e N l = R := ⟨_, rfl⟩
 rw [hR]
 have hat0 : numsAt most e (N - 0) l (vs0.take 0) = RES := by
  unfold numsAt
  rw [Nat.sub_zero, hR]
  cases RES with
  | none => rfl
  | some q => simp
 clear hR
 have hgp : g ∉ ps := by
  intro hgm
  obtain ⟨j, hj⟩ := List.mem_iff_getElem?.1 hgm
  have hjl := (List.getElem?_eq_some_iff.1 hj).1
  exact blkNe (hI.2 j g (vs0[j]'(by rw [hI.1]; exact hjl)) hj (List.getElem?_eq_getElem (by rw [hI.1]; exact hjl))) hg (by decide) rfl
 obtain ⟨S0, hS0⟩ : ∃ s, strL l = s := ⟨_, rfl⟩
 rw [hS0]
 replace hS0 := Lib.hid hS0
 replace hN := Lib.hid hN
 replace hg := Lib.hid hg
 replace hI := Lib.hid hI
 replace hat0 := Lib.hid hat0
 replace hd := Lib.hid hd
 replace hgp := Lib.hid hgp
 go_enter Tryz.func109, Tryz.ntmps109
 go_upto_region 2 with fail
 go_loopw [0, 16] (fun sv iv wr => ∃ (i : Nat) (cur : List UInt8) (S : ByteArray) (vs : List Int), i ≤ N ∧ iv = .int .i64 i ∧ sv = .string S ∧ Hid (strL cur = S) ∧ cur.length ≤ 2000000 ∧ Hid (KeptBut (· ∈ ps) w wr) ∧ Hid (Ints wr ps vs) ∧ Hid (numsAt most e (N - i) cur (vs.take i) = RES)) (fun _ iv _ => N - (intOf iv).toNat)
 case atStart => exact ⟨0, l, S0, vs0, Nat.zero_le _, rfl, rfl, hS0, hl, KeptBut.refl _ _, hI, hat0⟩
 case round =>
  clear hS0 hI hat0 hl
  obtain ⟨i, cur, S, vs, hi, rfl, rfl, hS, hl, hk, hI, hat⟩ := hrel
  obtain ⟨W, rfl⟩ : ∃ W, W = wr := ⟨_, rfl⟩
  by_cases hiN : i < N
  ·have hii : (i : Int) < N := by omega
   obtain ⟨p, hp⟩ := get_at hN.out hiN
   have hpm := List.mem_of_getElem? hp
   obtain ⟨v0, hv0⟩ : ∃ v0, vs[i]? = some v0 := ⟨vs[i]'(by rw [hI.out.1, hN.out]; exact hiN), List.getElem?_eq_getElem _⟩
   have Bp := hI.out.2 i p v0 hp hv0
   have gW := (hg.out.but hk.out hgp.out).cell (o := i) (v := .pointer (some ⟨p, 0, none⟩)) (by rw [List.getElem?_map, hp]; rfl)
   have yp := Bp.lt
   obtain ⟨k, hk1⟩ : ∃ k, N - i = k + 1 := ⟨N - i - 1, by omega⟩
   have hkN : (decide (k = 0)) = decide (i + 1 = N) := by by_cases h : k = 0 <;> simp [h] <;> omega
   have NU := number_any cur most W hl hm0 hm1
   rw [hS.out] at NU
   rw [hk1] at hat
   cases hP : numP most cur with
   | none =>
    rw [hP] at NU
    have hnone := numsAt_none (e := e) (k := k) (p := vs.take i) hP
    unfold outNum at NU
    replace NU := Lib.hid NU
    go_upto_region 6 with (go_at_call 146; (with_reducible refine (NU.out).mono ?_); rintro e2 w2 ⟨rfl, hb2⟩; have Bp2 := Bp.below hb2 yp; have f2 := Bp2.free 0; have c2 := Bp2.cell (o := 0) rfl; have yp2 := Bp2.lt)
    have hk3 := (hk.out.below hb2).setCell ⟨p, 0, none⟩ (.int .i64 0) hpm
    have hI3 := (hI.out.below hb2).set hd.out hp 0
    go_wp2
    have hRN : RES = none := hat.out.symm.trans hnone
    subst hRN
    go_ret2
    exact ⟨rfl, hk3, vs.set i _, hI3, fun ns r h => by cases h⟩
   | some q =>
    obtain ⟨n, m⟩ := q
    rw [hP] at NU
    unfold outNum at NU
    dsimp only at NU
    obtain ⟨hmf, hn0, hnm⟩ := numP_fit hP
    obtain ⟨rest, hrest⟩ : ∃ r, cur.drop m = r := ⟨_, rfl⟩
    have hrl : rest.length ≤ 2000000 := by rw [← hrest, List.length_drop]; omega
    rw [hrest] at NU
    obtain ⟨S2, hS2⟩ : ∃ s, strL rest = s := ⟨_, rfl⟩
    rw [hS2] at NU
    have hz2 : S2.size = rest.length := by rw [← hS2]; exact strL_size _
    replace NU := Lib.hid NU
    replace hS2 := Lib.hid hS2
    go_upto_region 6 with (go_at_call 146; (with_reducible refine (NU.out).mono ?_); rintro e2 w2 ⟨rfl, hb2⟩; have Bp2 := Bp.below hb2 yp; have f2 := Bp2.free 0; have c2 := Bp2.cell (o := 0) rfl; have yp2 := Bp2.lt)
    have hk3 := (hk.out.below hb2).setCell ⟨p, 0, none⟩ (.int .i64 n) hpm
    have hI3 := (hI.out.below hb2).set hd.out hp n
    replace hk3 := Lib.hid hk3
    replace hI3 := Lib.hid hI3
    obtain ⟨W3, hW3⟩ : ∃ W3, w2.setCell ⟨p, 0, none⟩ (.int .i64 n) = W3 := ⟨_, rfl⟩
    rw [hW3] at hk3 hI3 ⊢
    clear hW3 NU hk hI gW Bp Bp2 f2 c2 yp yp2 hb2
    cases rest with
    | nil =>
     have hnone := numsAt_nil (e := e) (k := k) (p := vs.take i) hP hrest
     have hse : S2 = ⟨#[]⟩ := by rw [← hS2.out]; rfl
     subst hse
     by_cases hlast : i + 1 = N
     ·have hli : ((i : Int) == (N : Int) - 1) = true := by simp; omega
      go_wp2
      have hRN : RES = none := hat.out.symm.trans hnone
      subst hRN
      go_ret2
      refine ⟨rfl, hk3.out, ?_⟩
      first
       | exact ⟨vs.set i n, hI3.out, fun ns r h => by cases h⟩
       | exact ⟨vs.set i n, hI3.out⟩
     ·have hli : ((i : Int) == (N : Int) - 1) = false := by simp; omega
      go_wp2
      have hRN : RES = none := hat.out.symm.trans hnone
      subst hRN
      go_ret2
      refine ⟨rfl, hk3.out, ?_⟩
      first
       | exact ⟨vs.set i n, hI3.out, fun ns r h => by cases h⟩
       | exact ⟨vs.set i n, hI3.out⟩
    | cons c r =>
     have hsb : bAt S2 0 = c.toNat := by rw [← hS2.out]; exact bAt_cons c r
     have X1 := bAt_eq (s := S2) (i := 0) (by rw [hz2]; simp)
     have hsl := strL_from (c :: r) 1 hS2.out
     obtain ⟨S3, hS3⟩ : ∃ s, strL r = s := ⟨_, rfl⟩
     have hd1 : (c :: r).drop 1 = r := rfl
     rw [hd1, hS3, ← hz2] at hsl
     obtain ⟨N2, hN2⟩ : ∃ N2, S2.size = N2 := ⟨_, rfl⟩
     have hN21 : (1 : Int) ≤ N2 := by rw [← hN2, hz2]; simp; omega
     rw [hN2] at hsl
     rw [List.length_cons] at hz2 hrl
     have hse : S2.toList.isEmpty = false := by rw [← hS2.out, Lib.toList_data]; simp [strL]
     replace hsb := hsb
     by_cases hlast : i + 1 = N
     ·have hli : ((i : Int) == (N : Int) - 1) = true := by simp; omega
      have hk0 : k = 0 := by omega
      by_cases hce : c = e
      ·have hcb : ((c.toNat : Int) != ke) = false := by rw [hce, hke]; simp
       have hst := numsAt_step (e := e) (k := k) (p := vs.take i) hP hrest (by rw [if_pos hk0]; exact hce)
       replace hst := Lib.hid hst
       go_wp2
       go_roundw
       case rel =>
        refine ⟨i + 1, r, S3, vs.set i n, by omega, by go_num, by first | rfl | (rw [← hsl, ← hN2, hz2]; done) | (rw [← hsl]; done), Lib.hid hS3, by omega, hk3, hI3, Lib.hid ?_⟩
        rw [take_set_snoc (by have := (List.getElem?_eq_some_iff.1 hv0).1; exact this), show N - (i + 1) = k by omega, ← hst.out]
        exact hat.out
       case measure => (simp [intOf]) <;> omega
      ·have hcb : ((c.toNat : Int) != ke) = true := by rw [← hke]; simp; intro h; exact hce (UInt8.toNat_inj.1 (by omega))
       have hnone := numsAt_bad (e := e) (k := k) (p := vs.take i) hP hrest (by rw [if_pos hk0]; exact hce)
       go_wp2
       have hRN : RES = none := hat.out.symm.trans hnone
       subst hRN
       go_ret2
       refine ⟨rfl, hk3.out, ?_⟩
       first
        | exact ⟨vs.set i n, hI3.out, fun ns r h => by cases h⟩
        | exact ⟨vs.set i n, hI3.out⟩
     ·have hli : ((i : Int) == (N : Int) - 1) = false := by simp; omega
      have hk0 : k ≠ 0 := by omega
      by_cases hce : c = 59
      ·have hcb : ((c.toNat : Int) != 59) = false := by rw [hce]; rfl
       have hst := numsAt_step (e := e) (k := k) (p := vs.take i) hP hrest (by rw [if_neg hk0]; exact hce)
       replace hst := Lib.hid hst
       go_wp2
       go_roundw
       case rel =>
        refine ⟨i + 1, r, S3, vs.set i n, by omega, by go_num, by first | rfl | (rw [← hsl, ← hN2, hz2]; done) | (rw [← hsl]; done), Lib.hid hS3, by omega, hk3, hI3, Lib.hid ?_⟩
        rw [take_set_snoc (by have := (List.getElem?_eq_some_iff.1 hv0).1; exact this), show N - (i + 1) = k by omega, ← hst.out]
        exact hat.out
       case measure => (simp [intOf]) <;> omega
      ·have hcb : ((c.toNat : Int) != 59) = true := by simp; intro h; exact hce (UInt8.toNat_inj.1 (by show c.toNat = 59; omega))
       have hnone := numsAt_bad (e := e) (k := k) (p := vs.take i) hP hrest (by rw [if_neg hk0]; exact hce)
       go_wp2
       have hRN : RES = none := hat.out.symm.trans hnone
       subst hRN
       go_ret2
       refine ⟨rfl, hk3.out, ?_⟩
       first
        | exact ⟨vs.set i n, hI3.out, fun ns r h => by cases h⟩
        | exact ⟨vs.set i n, hI3.out⟩
  ·obtain rfl : N = i := by omega
   have hii : ¬ (N : Int) < N := by omega
   have hRES : some (vs, cur) = RES := by
    have h := hat.out
    rw [Nat.sub_self, List.take_of_length_le (by rw [hI.out.1, hN.out]; exact Nat.le_refl _)] at h
    unfold numsAt numsP at h
    simpa using h
   subst hRES
   go_wp2
   go_ret2
   refine ⟨by rw [← hS.out]; rfl, hk.out, ?_⟩
   first
    | exact hI.out
    | exact ⟨vs, hI.out, fun ns r h => by injection h with h; exact (Prod.mk.inj h).1⟩
end Go.Proofs.YtffmomgmkpmpkaaGreatDoor

namespace Go.Proofs
open Go.Shelf
def Tryz.lays169_ren : Go.Shelf.Ren := ⟨fun | 169 => 63 | n => n, fun | 70 => 104 | 9 => 9 | 0 => 0 | 72 => 107 | 37 => 105 | 127 => 169 | 3 => 3 | 5 => 5 | n => n, fun | n => n⟩
theorem Tryz.lays169 : Go.Proofs.Lays.n169 Tryz.prog Tryz.lays169_ren := {
  mixed := by kernel_rfl
  f169 := Tryz.func63.trans (congrArg some (by kernel_rfl))
  t0 := Tryz.underlying0
  a0 := Tryz.isAgg0
  z0 := Tryz.sizeOf0
  v0 := Tryz.zeroValue0
  t3 := Tryz.underlying3
  a3 := Tryz.isAgg3
  z3 := Tryz.sizeOf3
  v3 := Tryz.zeroValue3
  t9 := Tryz.underlying9
  a9 := Tryz.isAgg9
  z9 := Tryz.sizeOf9
  v9 := Tryz.zeroValue9
  t37 := Tryz.underlying105
  a37 := Tryz.isAgg105
  z37 := Tryz.sizeOf105
  v37 := Tryz.zeroValue105
  t70 := Tryz.underlying104
  a70 := Tryz.isAgg104
  z70 := Tryz.sizeOf104
  v70 := Tryz.zeroValue104
  t72 := Tryz.underlying107
  a72 := Tryz.isAgg107
  z72 := Tryz.sizeOf107
  v72 := Tryz.zeroValue107
  t127 := Tryz.underlying169
  a127 := Tryz.isAgg169
  z127 := Tryz.sizeOf169
  v127 := Tryz.zeroValue169 }
theorem Tryz.Builder_Extra_169 : Builder.Extra Tryz.prog Tryz.lays169_ren := {
  sizeBuilder := by kernel_rfl
  liesBuilder := by kernel_rfl
  t5 := Tryz.underlying5
  a5 := Tryz.isAgg5
  z5 := Tryz.sizeOf5
  v5 := Tryz.zeroValue5
  infoByte := by kernel_rfl
  cellsByte := by kernel_rfl
  sizeByte := by kernel_rfl
  neB5 := by decide }
def Tryz.lays103_ren : Go.Shelf.Ren := ⟨fun | 103 => 108 | 210 => 145 | 206 => 164 | n => n, fun | 9 => 9 | 4 => 4 | 24 => 161 | 3 => 3 | n => n, fun | n => n⟩
theorem Tryz.lays103 : Go.Proofs.Lays.n103 Tryz.prog Tryz.lays103_ren := {
  mixed := by kernel_rfl
  f103 := Tryz.func108.trans (congrArg some (by kernel_rfl))
  f206 := Tryz.func164.trans (congrArg some (by kernel_rfl))
  f210 := Tryz.func145.trans (congrArg some (by kernel_rfl))
  t3 := Tryz.underlying3
  a3 := Tryz.isAgg3
  z3 := Tryz.sizeOf3
  v3 := Tryz.zeroValue3
  t4 := Tryz.underlying4
  a4 := Tryz.isAgg4
  z4 := Tryz.sizeOf4
  v4 := Tryz.zeroValue4
  t9 := Tryz.underlying9
  a9 := Tryz.isAgg9
  z9 := Tryz.sizeOf9
  v9 := Tryz.zeroValue9
  t24 := Tryz.underlying161
  a24 := Tryz.isAgg161
  z24 := Tryz.sizeOf161
  v24 := Tryz.zeroValue161 }
open Go.RowKit in
/-- strings.CutPrefix: "CutPrefix returns s without the provided leading prefix string and reports whether it found the prefix. If s doesn't start with prefix, CutPrefix returns s, false. If prefix is the empty string, CutPrefix returns s, true.": IT RETURNS '(Lib.trimPrefix s p, Lib.hasPrefix s p)'; the world is as it was. (LAID: no walk: one application.) -/
theorem Tryz.strings_CutPrefix (s p : ByteArray) (w : World) :
    Calls Tryz.prog 108 #[.string s, .string p] w fun e w' => e = .returned (.tuple #[.string ⟨(Lib.trimPrefix s.data.toList p.data.toList).toArray⟩, .bool (Lib.hasPrefix s.data.toList p.data.toList)]) ∧ w' = w := Any.strings_CutPrefix Tryz.lays103 s p w
def Tryz.laysM171_ren : Go.Shelf.Ren := ⟨fun | 171 => 70 | 243 => 117 | 246 => 152 | 283 => 165 | 284 => 166 | 285 => 167 | 286 => 168 | 129 => 177 | 317 => 176 | 318 => 178 | 319 => 179 | 320 => 180 | 337 => 191 | 338 => 192 | n => n, fun | 3 => 3 | 9 => 9 | 2 => 2 | 4 => 4 | 171 => 229 | 0 => 0 | 53 => 206 | 37 => 105 | 5 => 5 | 173 => 232 | 212 => 240 | 51 => 203 | 20 => 20 | 213 => 241 | 46 => 170 | 232 => 257 | 233 => 258 | n => n, fun | 17 => 2 | 18 => 4 | 19 => 5 | n => n⟩
theorem Tryz.laysM171 : Go.Proofs.LaysM.n171 Tryz.prog Tryz.laysM171_ren := {
 mixed := by kernel_rfl
 f129 := Tryz.func177.trans (congrArg some (by kernel_rfl))
 f171 := Tryz.func70.trans (congrArg some (by kernel_rfl))
 f243 := Tryz.func117.trans (congrArg some (by kernel_rfl))
 f246 := Tryz.func152.trans (congrArg some (by kernel_rfl))
 f283 := Tryz.func165.trans (congrArg some (by kernel_rfl))
 f284 := Tryz.func166.trans (congrArg some (by kernel_rfl))
 f285 := Tryz.func167.trans (congrArg some (by kernel_rfl))
 f286 := Tryz.func168.trans (congrArg some (by kernel_rfl))
 f317 := Tryz.func176.trans (congrArg some (by kernel_rfl))
 f318 := Tryz.func178.trans (congrArg some (by kernel_rfl))
 f319 := Tryz.func179.trans (congrArg some (by kernel_rfl))
 f320 := Tryz.func180.trans (congrArg some (by kernel_rfl))
 f337 := Tryz.func191.trans (congrArg some (by kernel_rfl))
 f338 := Tryz.func192.trans (congrArg some (by kernel_rfl))
 t0 := Tryz.underlying0
 a0 := Tryz.isAgg0
 z0 := Tryz.sizeOf0
 v0 := Tryz.zeroValue0
 t2 := Tryz.underlying2
 a2 := Tryz.isAgg2
 z2 := Tryz.sizeOf2
 v2 := Tryz.zeroValue2
 t3 := Tryz.underlying3
 a3 := Tryz.isAgg3
 z3 := Tryz.sizeOf3
 v3 := Tryz.zeroValue3
 t4 := Tryz.underlying4
 a4 := Tryz.isAgg4
 z4 := Tryz.sizeOf4
 v4 := Tryz.zeroValue4
 t5 := Tryz.underlying5
 a5 := Tryz.isAgg5
 z5 := Tryz.sizeOf5
 v5 := Tryz.zeroValue5
 t9 := Tryz.underlying9
 a9 := Tryz.isAgg9
 z9 := Tryz.sizeOf9
 v9 := Tryz.zeroValue9
 t20 := Tryz.underlying20
 a20 := Tryz.isAgg20
 z20 := Tryz.sizeOf20
 v20 := Tryz.zeroValue20
 t37 := Tryz.underlying105
 a37 := Tryz.isAgg105
 z37 := Tryz.sizeOf105
 v37 := Tryz.zeroValue105
 t46 := Tryz.underlying170
 a46 := Tryz.isAgg170
 z46 := Tryz.sizeOf170
 v46 := Tryz.zeroValue170
 t51 := Tryz.underlying203
 a51 := Tryz.isAgg203
 z51 := Tryz.sizeOf203
 v51 := Tryz.zeroValue203
 t53 := Tryz.underlying206
 a53 := Tryz.isAgg206
 z53 := Tryz.sizeOf206
 v53 := Tryz.zeroValue206
 t171 := Tryz.underlying229
 a171 := Tryz.isAgg229
 z171 := Tryz.sizeOf229
 v171 := Tryz.zeroValue229
 t173 := Tryz.underlying232
 a173 := Tryz.isAgg232
 z173 := Tryz.sizeOf232
 v173 := Tryz.zeroValue232
 t212 := Tryz.underlying240
 a212 := Tryz.isAgg240
 z212 := Tryz.sizeOf240
 v212 := Tryz.zeroValue240
 t213 := Tryz.underlying241
 a213 := Tryz.isAgg241
 z213 := Tryz.sizeOf241
 t232 := Tryz.underlying257
 a232 := Tryz.isAgg257
 z232 := Tryz.sizeOf257
 v232 := Tryz.zeroValue257
 t233 := Tryz.underlying258
 a233 := Tryz.isAgg258
 z233 := Tryz.sizeOf258
 v233 := Tryz.zeroValue258
 g17 := by kernel_rfl
 g18 := by kernel_rfl
 g19 := by kernel_rfl
 i0 := by kernel_rfl
 i2 := by kernel_rfl
 i3 := by kernel_rfl
 i4 := by kernel_rfl
 i5 := by kernel_rfl
 i9 := by kernel_rfl
 i20 := by kernel_rfl
 i37 := by kernel_rfl
 i46 := by kernel_rfl
 i51 := by kernel_rfl
 i53 := by kernel_rfl
 i171 := by kernel_rfl
 i173 := by kernel_rfl
 i212 := by kernel_rfl
 i232 := by kernel_rfl
 i233 := by kernel_rfl
 m17 := by kernel_rfl
 m18 := by kernel_rfl
 m19 := by kernel_rfl }
open Go.RowKit Go.Sort Go.Lib in
/-- strconv.Itoa: "Itoa is equivalent to FormatInt(int64(i), 10).": i's DECIMAL NUMERAL ('Lib.itoa': a '-' where i is negative, then the digits), FOR EVERY int. The world behind the call: the world before it, new blocks behind the heap (the library's 'var a [24]byte'), draws. (LAID: no walk: one application.) -/
theorem Tryz.strconv_Itoa (n : Int) (h0 : -9223372036854775808 ≤ n) (h1 : n ≤ 9223372036854775807) (w : World) (htab : Lib.TabIs Tryz.prog w "internal/strconv.uint64pow10" .u64 Lib.pow10Tab) :
    Calls Tryz.prog 70 #[.int .i64 n] w fun e w' => e = .returned (.string ⟨(Lib.itoa n).toArray⟩) ∧ ∃ k os, w' = grow (w.drewN k) os := Any.strconv_Itoa Tryz.laysM171 n h0 h1 w htab
def Tryz.lays197_ren : Go.Shelf.Ren := ⟨fun | 197 => 107 | 260 => 144 | n => n, fun | 9 => 9 | 21 => 21 | 3 => 3 | 4 => 4 | 5 => 5 | 105 => 159 | 119 => 224 | 0 => 0 | 46 => 170 | 139 => 227 | 138 => 226 | n => n, fun | 3 => 0 | 4 => 1 | n => n⟩
theorem Tryz.lays197 : Go.Proofs.Lays.n197 Tryz.prog Tryz.lays197_ren := {
  mixed := by kernel_rfl
  f197 := Tryz.func107.trans (congrArg some (by kernel_rfl))
  f260 := Tryz.func144.trans (congrArg some (by kernel_rfl))
  t0 := Tryz.underlying0
  a0 := Tryz.isAgg0
  z0 := Tryz.sizeOf0
  v0 := Tryz.zeroValue0
  t3 := Tryz.underlying3
  a3 := Tryz.isAgg3
  z3 := Tryz.sizeOf3
  v3 := Tryz.zeroValue3
  t4 := Tryz.underlying4
  a4 := Tryz.isAgg4
  z4 := Tryz.sizeOf4
  v4 := Tryz.zeroValue4
  t5 := Tryz.underlying5
  a5 := Tryz.isAgg5
  z5 := Tryz.sizeOf5
  v5 := Tryz.zeroValue5
  t9 := Tryz.underlying9
  a9 := Tryz.isAgg9
  z9 := Tryz.sizeOf9
  v9 := Tryz.zeroValue9
  t21 := Tryz.underlying21
  a21 := Tryz.isAgg21
  z21 := Tryz.sizeOf21
  v21 := Tryz.zeroValue21
  t46 := Tryz.underlying170
  a46 := Tryz.isAgg170
  z46 := Tryz.sizeOf170
  v46 := Tryz.zeroValue170
  t105 := Tryz.underlying159
  a105 := Tryz.isAgg159
  z105 := Tryz.sizeOf159
  v105 := Tryz.zeroValue159
  t119 := Tryz.underlying224
  a119 := Tryz.isAgg224
  z119 := Tryz.sizeOf224
  t138 := Tryz.underlying226
  a138 := Tryz.isAgg226
  z138 := Tryz.sizeOf226
  v138 := Tryz.zeroValue226
  t139 := Tryz.underlying227
  a139 := Tryz.isAgg227
  z139 := Tryz.sizeOf227
  v139 := Tryz.zeroValue227
  g3 := by kernel_rfl
  g4 := by kernel_rfl }
def Tryz.lays212_ren : Go.Shelf.Ren := ⟨fun | 212 => 114 | 263 => 150 | 264 => 151 | n => n, fun | 46 => 170 | 51 => 203 | 146 => 204 | 53 => 206 | 148 => 207 | n => n, fun | n => n⟩
theorem Tryz.lays212 : Go.Proofs.Lays.n212 Tryz.prog Tryz.lays212_ren := {
  mixed := by kernel_rfl
  f212 := Tryz.func114.trans (congrArg some (by kernel_rfl))
  f263 := Tryz.func150.trans (congrArg some (by kernel_rfl))
  f264 := Tryz.func151.trans (congrArg some (by kernel_rfl))
  t46 := Tryz.underlying170
  a46 := Tryz.isAgg170
  z46 := Tryz.sizeOf170
  v46 := Tryz.zeroValue170
  t51 := Tryz.underlying203
  a51 := Tryz.isAgg203
  z51 := Tryz.sizeOf203
  v51 := Tryz.zeroValue203
  t53 := Tryz.underlying206
  a53 := Tryz.isAgg206
  z53 := Tryz.sizeOf206
  v53 := Tryz.zeroValue206
  t146 := Tryz.underlying204
  a146 := Tryz.isAgg204
  z146 := Tryz.sizeOf204
  v146 := Tryz.zeroValue204
  t148 := Tryz.underlying207
  a148 := Tryz.isAgg207
  z148 := Tryz.sizeOf207
  v148 := Tryz.zeroValue207 }
open Go.RowKit Go.Lib in
/-- math/bits.Mul: "Mul returns the full-width product of x and y": on a machine of 64 bits: Mul64's. (LAID: no walk: one application.) -/
theorem Tryz.bits_Mul (x y : Nat) (hx : x < 18446744073709551616) (hy : y < 18446744073709551616) (w : World) :
    Calls Tryz.prog 114 #[.int .u64 x, .int .u64 y] w fun e w' => e = .returned (.tuple #[.int .u64 ((x * y / 18446744073709551616 : Nat) : Int), .int .u64 ((x * y % 18446744073709551616 : Nat) : Int)]) ∧ w' = w := Any.bits_Mul Tryz.lays212 x y hx hy w
open Go.RowKit Go.Lib in
/-- **unicode/utf8.DecodeRuneInString AT EVERY STRING.** (LAID: no walk: one application.) -/
theorem Tryz.utf8_DecodeRuneInString (s : ByteArray) (w : World) (hT : Lib.Utf8Tabs 0 1 w) :
    Calls Tryz.prog 107 #[.string s] w fun e w' => e = .returned (.tuple #[.int .i32 (Lib.decodeGo s).1, .int .i64 (Lib.decodeGo s).2]) ∧ Below w.heap.size w w' := Any.utf8_DecodeRuneInString Tryz.lays197 s w hT
end Go.Proofs


namespace Go.Proofs
open Go.Shelf
def YtffmomgmkpmpkaaGreatDoor.bwbLays_ren : Go.Shelf.Ren := ⟨fun | 167 => 62 | 240 => 112 | 276 => 148 | n => n, fun | 0 => 0 | 3 => 3 | 4 => 4 | 5 => 5 | 9 => 9 | 20 => 20 | 21 => 21 | 37 => 105 | 46 => 170 | 51 => 203 | 70 => 104 | 72 => 107 | 75 => 110 | 80 => 114 | 164 => 201 | n => n, fun n => n⟩
set_option maxRecDepth 100000 in
theorem YtffmomgmkpmpkaaGreatDoor.bwbLays : Lays.n167 Tryz.prog YtffmomgmkpmpkaaGreatDoor.bwbLays_ren := {
  mixed := by kernel_rfl
  f167 := Tryz.func62.trans (congrArg some (by kernel_rfl))
  f240 := Tryz.func112.trans (congrArg some (by kernel_rfl))
  f276 := Tryz.func148.trans (congrArg some (by kernel_rfl))
  t0 := Tryz.underlying0
  a0 := Tryz.isAgg0
  z0 := Tryz.sizeOf0
  v0 := Tryz.zeroValue0
  t4 := Tryz.underlying4
  a4 := Tryz.isAgg4
  z4 := Tryz.sizeOf4
  v4 := Tryz.zeroValue4
  t5 := Tryz.underlying5
  a5 := Tryz.isAgg5
  z5 := Tryz.sizeOf5
  v5 := Tryz.zeroValue5
  t9 := Tryz.underlying9
  a9 := Tryz.isAgg9
  z9 := Tryz.sizeOf9
  v9 := Tryz.zeroValue9
  t20 := Tryz.underlying20
  a20 := Tryz.isAgg20
  z20 := Tryz.sizeOf20
  v20 := Tryz.zeroValue20
  t37 := Tryz.underlying105
  a37 := Tryz.isAgg105
  z37 := Tryz.sizeOf105
  v37 := Tryz.zeroValue105
  t70 := Tryz.underlying104
  a70 := Tryz.isAgg104
  z70 := Tryz.sizeOf104
  v70 := Tryz.zeroValue104
  t72 := Tryz.underlying107
  a72 := Tryz.isAgg107
  z72 := Tryz.sizeOf107
  v72 := Tryz.zeroValue107
  t75 := Tryz.underlying110
  a75 := Tryz.isAgg110
  z75 := Tryz.sizeOf110
  v75 := Tryz.zeroValue110
  t164 := Tryz.underlying201
  a164 := Tryz.isAgg201
  z164 := Tryz.sizeOf201
  v164 := Tryz.zeroValue201 }
theorem YtffmomgmkpmpkaaGreatDoor.bwbLaysX : Builder.Extra Tryz.prog YtffmomgmkpmpkaaGreatDoor.bwbLays_ren := {
  sizeBuilder := by kernel_rfl
  liesBuilder := by kernel_rfl
  t5 := Tryz.underlying5
  a5 := Tryz.isAgg5
  z5 := Tryz.sizeOf5
  v5 := Tryz.zeroValue5
  infoByte := by kernel_rfl
  cellsByte := by kernel_rfl
  sizeByte := by kernel_rfl
  neB5 := by decide }
def YtffmomgmkpmpkaaGreatDoor.bwrLays_ren : Go.Shelf.Ren := ⟨fun | 168 => 61 | 240 => 112 | 242 => 113 | 276 => 148 | 278 => 149 | n => n, fun | 0 => 0 | 3 => 3 | 4 => 4 | 5 => 5 | 9 => 9 | 20 => 20 | 21 => 21 | 37 => 105 | 46 => 170 | 51 => 203 | 70 => 104 | 72 => 107 | 75 => 110 | 80 => 114 | 164 => 201 | n => n, fun n => n⟩
set_option maxRecDepth 100000 in
theorem YtffmomgmkpmpkaaGreatDoor.bwrLays : Lays.n168 Tryz.prog YtffmomgmkpmpkaaGreatDoor.bwrLays_ren := {
 mixed := by kernel_rfl
 f168 := Tryz.func61.trans (congrArg some (by kernel_rfl))
 f240 := Tryz.func112.trans (congrArg some (by kernel_rfl))
 f242 := Tryz.func113.trans (congrArg some (by kernel_rfl))
 f276 := Tryz.func148.trans (congrArg some (by kernel_rfl))
 f278 := Tryz.func149.trans (congrArg some (by kernel_rfl))
 t0 := Tryz.underlying0
 a0 := Tryz.isAgg0
 z0 := Tryz.sizeOf0
 v0 := Tryz.zeroValue0
 t3 := Tryz.underlying3
 a3 := Tryz.isAgg3
 z3 := Tryz.sizeOf3
 v3 := Tryz.zeroValue3
 t4 := Tryz.underlying4
 a4 := Tryz.isAgg4
 z4 := Tryz.sizeOf4
 v4 := Tryz.zeroValue4
 t5 := Tryz.underlying5
 a5 := Tryz.isAgg5
 z5 := Tryz.sizeOf5
 v5 := Tryz.zeroValue5
 t9 := Tryz.underlying9
 a9 := Tryz.isAgg9
 z9 := Tryz.sizeOf9
 v9 := Tryz.zeroValue9
 t20 := Tryz.underlying20
 a20 := Tryz.isAgg20
 z20 := Tryz.sizeOf20
 v20 := Tryz.zeroValue20
 t21 := Tryz.underlying21
 a21 := Tryz.isAgg21
 z21 := Tryz.sizeOf21
 v21 := Tryz.zeroValue21
 t37 := Tryz.underlying105
 a37 := Tryz.isAgg105
 z37 := Tryz.sizeOf105
 v37 := Tryz.zeroValue105
 t46 := Tryz.underlying170
 a46 := Tryz.isAgg170
 z46 := Tryz.sizeOf170
 v46 := Tryz.zeroValue170
 t51 := Tryz.underlying203
 a51 := Tryz.isAgg203
 z51 := Tryz.sizeOf203
 v51 := Tryz.zeroValue203
 t70 := Tryz.underlying104
 a70 := Tryz.isAgg104
 z70 := Tryz.sizeOf104
 v70 := Tryz.zeroValue104
 t72 := Tryz.underlying107
 a72 := Tryz.isAgg107
 z72 := Tryz.sizeOf107
 v72 := Tryz.zeroValue107
 t75 := Tryz.underlying110
 a75 := Tryz.isAgg110
 z75 := Tryz.sizeOf110
 v75 := Tryz.zeroValue110
 t164 := Tryz.underlying201
 a164 := Tryz.isAgg201
 z164 := Tryz.sizeOf201
 v164 := Tryz.zeroValue201 }
theorem YtffmomgmkpmpkaaGreatDoor.bwrLaysX : Builder.Extra Tryz.prog YtffmomgmkpmpkaaGreatDoor.bwrLays_ren := {
  sizeBuilder := by kernel_rfl
  liesBuilder := by kernel_rfl
  t5 := Tryz.underlying5
  a5 := Tryz.isAgg5
  z5 := Tryz.sizeOf5
  v5 := Tryz.zeroValue5
  infoByte := by kernel_rfl
  cellsByte := by kernel_rfl
  sizeByte := by kernel_rfl
  neB5 := by decide }
open Go.RowKit in
theorem YtffmomgmkpmpkaaGreatDoor.bwriteB (B b : Nat) (bs : List Value) (c : Int) (w : World) (h : Lib.IsBuilderF 107 5 B b bs w) (hlen : bs.length + 1 ≤ 140737488355328) (hBw : B ≤ w.heap.size) :
    Calls Tryz.prog 62 #[.pointer (some ⟨b, 0, none⟩), .int .u8 c] w fun e w' => e = .returned .nilIface ∧ (Lib.BuilderAtF 107 5 B b (.pointer (some ⟨b, 0, none⟩)) (bs ++ [.int .u8 c]) w' ∧ Below B w w' ∧ Lib.OthersKept 5 (some b) w w') := Any.Builder_WriteByte_k YtffmomgmkpmpkaaGreatDoor.bwbLays YtffmomgmkpmpkaaGreatDoor.bwbLaysX B b bs c w h hlen hBw
open Go.RowKit in
theorem YtffmomgmkpmpkaaGreatDoor.bwriteR (B b : Nat) (bs : List Value) (r : Int) (w : World) (h : Lib.IsBuilderF 107 5 B b bs w) (hr0 : -2147483648 ≤ r) (hr1 : r ≤ 2147483647) (hlen : bs.length + 4 ≤ 140737488355328) (hBw : B ≤ w.heap.size) :
    Calls Tryz.prog 61 #[.pointer (some ⟨b, 0, none⟩), .int .i32 r] w fun e w' => e = .returned (.tuple #[.int .i64 (Lib.runeCells r).length, .nilIface]) ∧ (Lib.BuilderAtF 107 5 B b (.pointer (some ⟨b, 0, none⟩)) (bs ++ Lib.runeCells r) w' ∧ Below B w w' ∧ Lib.OthersKept 5 (some b) w w') := Any.Builder_WriteRune_k YtffmomgmkpmpkaaGreatDoor.bwrLays YtffmomgmkpmpkaaGreatDoor.bwrLaysX B b bs r hr0 hr1 w h hlen hBw
open Go.RowKit in
theorem YtffmomgmkpmpkaaGreatDoor.bstring (B b : Nat) (l : List UInt8) (w : World) (h : Lib.IsBuilderF 107 5 B b (Lib.byteCells l) w) (hBw : B ≤ w.heap.size) :
    Calls Tryz.prog 63 #[.pointer (some ⟨b, 0, none⟩)] w fun e w' => e = .returned (.string ⟨l.toArray⟩) ∧ (Lib.IsBuilderF 107 5 B b (Lib.byteCells l) w' ∧ Below B w w' ∧ Lib.OthersKept 5 (some b) w w') := Any.Builder_String_any_k Tryz.lays169 Tryz.Builder_Extra_169 B b l w h hBw
open Go.RowKit in
theorem YtffmomgmkpmpkaaGreatDoor.decR (s : ByteArray) (w : World) (hT : Lib.Utf8Tabs (Tryz.lays197_ren.g 3) (Tryz.lays197_ren.g 4) w) :
    Calls Tryz.prog 107 #[.string s] w fun e w' => e = .returned (.tuple #[.int .i32 (Lib.decodeGo s).1, .int .i64 (Lib.decodeGo s).2]) ∧ Below w.heap.size w w' := Tryz.utf8_DecodeRuneInString s w hT
open Go.RowKit in
theorem YtffmomgmkpmpkaaGreatDoor.mulX (x y : Nat) (hx : x < 18446744073709551616) (hy : y < 18446744073709551616) (w : World) :
    Calls Tryz.prog 114 #[.int .u64 x, .int .u64 y] w fun e w' => e = .returned (.tuple #[.int .u64 ((x * y / 18446744073709551616 : Nat) : Int), .int .u64 ((x * y % 18446744073709551616 : Nat) : Int)]) ∧ w' = w := Any.bits_Mul Tryz.lays212 x y hx hy w
open Go.RowKit in
theorem YtffmomgmkpmpkaaGreatDoor.cutP (s p : ByteArray) (w : World) :
    Calls Tryz.prog 108 #[.string s, .string p] w fun e w' => e = .returned (.tuple #[.string ⟨(Lib.trimPrefix s.data.toList p.data.toList).toArray⟩, .bool (Lib.hasPrefix s.data.toList p.data.toList)]) ∧ w' = w := Any.strings_CutPrefix Tryz.lays103 s p w
end Go.Proofs
