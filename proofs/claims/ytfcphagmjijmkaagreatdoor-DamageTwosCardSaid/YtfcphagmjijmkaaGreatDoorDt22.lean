/-
  Cells: runs, plain; rows of runs.
-/
import Derived.Laws.BitsLemmas
import Derived.Laws.IdiomCopy
import Derived.Shelf.Bits.Mul64
import Derived.Shelf.LaysM
import Derived.Shelf.Small.Bits
import Derived.Shelf.Small.Wraps
import Derived.Shelf.Spec.SlicesInsert
import Derived.Shelf.Strconv.Itoa0
import Derived.Shelf.Strconv.Itoa1
import Derived.Shelf.Strconv.Itoa2
import Derived.Shelf.Strconv.Itoa3
import Derived.Shelf.Strings.Builder1
import Derived.Shelf.Strings.BuilderCap
import Derived.Shelf.Strings.BuilderF
import Derived.Shelf.Strings.BuilderK
import Derived.Shelf.Strings.BuilderRune
import Derived.Shelf.Strings.Prefix
import Derived.Shelf.Unicode.Decode
import Derived.Shelf.Unicode.DecodeAny
import Derived.Shelf.Unicode.DecodeSlow
import Derived.Shelf.Utf8.AppendRune
import Derived.Shelf.Utf8.AppendRunePlain
import Derived.Test.YtfcphagmjijmkaaGreatDoorDt20
import Derived.Test.YtfcphagmjijmkaaGreatDoorDt21
namespace Go.Proofs.YtfcphagmjijmkaaGreatDoor
open Go.RowKit
set_option linter.unusedVariables false
set_option linter.unusedSimpArgs false
attribute [local go_sem] vwp vUpon_value vUpon_skip vUpon_enter vUpon_row
set_option maxHeartbeats 16000000
structure Rn where
 x : Int
 y : Int
 cells : List Ce
/-! ### plain -/
def dif (ls ms : List Ce) (k : Nat) : Bool := match ls[k]?, ms[k]? with
 | some a, some b => !(a.eqb b)
 | _, _ => false
theorem dif_at {ls ms : List Ce} {k : Nat} {a b : Ce} (ha : ls[k]? = some a) (hb : ms[k]? = some b) : dif ls ms k = !(a.eqb b) := by
 unfold dif; rw [ha, hb]
def rEnd (ls ms : List Ce) (P N : Nat) : Nat → Nat → Nat
 | 0, x => x
 | f + 1, x => if x < N ∧ dif ls ms (P + x) = true then rEnd ls ms P N f (x + 1) else x
theorem rEnd_bd (ls ms : List Ce) (P N : Nat) : ∀ f x, x ≤ rEnd ls ms P N f x ∧ (x ≤ N → rEnd ls ms P N f x ≤ N)
 | 0, x => ⟨Nat.le_refl _, id⟩
 | f + 1, x => by
  rw [rEnd]
  split
  ·rename_i h
   have := rEnd_bd ls ms P N f (x + 1); exact ⟨by omega, fun _ => this.2 (by omega)⟩
  ·exact ⟨Nat.le_refl _, id⟩
def runTo (ls ms : List Ce) (P N x : Nat) : Nat := rEnd ls ms P N (N - x) x
theorem rEnd_more (ls ms : List Ce) (P N : Nat) : ∀ (n m x : Nat), N - x ≤ n → N - x ≤ m → rEnd ls ms P N n x = rEnd ls ms P N m x
 | 0, 0, _, _, _ => rfl
 | 0, m + 1, x, h1, _ => by rw [rEnd, rEnd, if_neg (by omega)]
 | n + 1, 0, x, _, h2 => by rw [rEnd, rEnd, if_neg (by omega)]
 | n + 1, m + 1, x, h1, h2 => by
  rw [rEnd, rEnd]
  split
  ·exact rEnd_more ls ms P N n m _ (by omega) (by omega)
  ·rfl
theorem runTo_step {ls ms : List Ce} {P N x : Nat} (hx : x < N) (hd : dif ls ms (P + x) = true) : runTo ls ms P N x = runTo ls ms P N (x + 1) := by
 unfold runTo; obtain ⟨n, hn⟩ : ∃ n, N - x = n + 1 := ⟨N - x - 1, by omega⟩; rw [hn, rEnd, if_pos ⟨hx, hd⟩]; exact rEnd_more _ _ _ _ _ _ _ (by omega) lrr
theorem runTo_stop {ls ms : List Ce} {P N x : Nat} (h : ¬ (x < N ∧ dif ls ms (P + x) = true)) : runTo ls ms P N x = x := by
 unfold runTo
 cases hn : N - x with
 | zero => rfl
 | succ n => rw [rEnd, if_neg h]
def runOne (ms : List Ce) (P y x e : Nat) : List Rn := if x < e then [⟨x, y, (ms.drop (P + x)).take (e - x)⟩] else []
def runAt (ls ms : List Ce) (P N y : Nat) : Nat → Nat → List Rn
 | 0, _ => []
 | f + 1, x => if x < N then runOne ms P y x (runTo ls ms P N x) ++ runAt ls ms P N y f (runTo ls ms P N x + 1) else []
theorem runAt_more (ls ms : List Ce) (P N y : Nat) : ∀ (n m x : Nat), N - x ≤ n → N - x ≤ m → runAt ls ms P N y n x = runAt ls ms P N y m x
 | 0, 0, _, _, _ => rfl
 | 0, m + 1, x, h1, _ => by rw [runAt, runAt, if_neg (by omega)]
 | n + 1, 0, x, _, h2 => by rw [runAt, runAt, if_neg (by omega)]
 | n + 1, m + 1, x, h1, h2 => by
  rw [runAt, runAt]; have := (rEnd_bd ls ms P N (N - x) x).1
  split
  ·rw [runAt_more ls ms P N y n m _ (by unfold runTo; omega) (by unfold runTo; omega)]
  ·rfl
def runRow (ls ms : List Ce) (P N y x : Nat) : List Rn := runAt ls ms P N y (N - x) x
theorem runRow_step {ls ms : List Ce} {P N y x : Nat} (hx : x < N) : runRow ls ms P N y x = runOne ms P y x (runTo ls ms P N x) ++ runRow ls ms P N y (runTo ls ms P N x + 1) := by
 unfold runRow; obtain ⟨n, hn⟩ : ∃ n, N - x = n + 1 := ⟨N - x - 1, by omega⟩; have := (rEnd_bd ls ms P N (N - x) x).1; rw [hn, runAt, if_pos hx, runAt_more ls ms P N y n _ _ (by unfold runTo; omega) lrr]
theorem runRow_end {ls ms : List Ce} {P N y x : Nat} (hx : ¬ x < N) : runRow ls ms P N y x = [] := by
 unfold runRow; rw [show N - x = 0 by omega]; rfl
def runsGo (ls ms : List Ce) (N : Nat) : Nat → Nat → List Rn
 | 0, _ => []
 | n + 1, y => runRow ls ms (y * N) N y 0 ++ runsGo ls ms N n (y + 1)
def runsOk (wa ha : Int) (ls : List Ce) (wb hb : Int) (ms : List Ce) : Bool := (chkS wa ha ls == 0) && ((chkS wb hb ms == 0) && ((wa == wb) && (ha == hb)))
def runsE (wa ha : Int) (ls : List Ce) (wb hb : Int) (ms : List Ce) : Int := if runsOk wa ha ls wb hb ms then 0 else 150
def runsL (wa ha : Int) (ls : List Ce) (wb hb : Int) (ms : List Ce) : List Rn := if runsOk wa ha ls wb hb ms then runsGo ls ms wa.toNat ha.toNat 0 else []
/-! ### rows of runs -/
def encRn (p : Rn × Value) : List Value := [.int .i64 p.1.x, .int .i64 p.1.y, p.2]
theorem encRn_len (p : Rn × Value) : (encRn p).length = 3 := rfl
theorem infoRn : (Tryz.prog.info? 112).map (fun i => (i.zero, i.size, i.bytes)) = some (some (.agg #[.int .i64 0, .int .i64 0, .slice none 0 0]), 3, 40) := by kernel_rfl
def RunRows (base : Nat) (W : World) (v : Value) (l : List Rn) : Prop :=
 ∃ vs : List Value, vs.length = l.length ∧ W.ownsRow base 112 3 v l.length ((l.zip vs).flatMap encRn) ∧ (∀ (j : Nat) u r, vs[j]? = some u → l[j]? = some r → OwnsC base W u r.cells) ∧
  ∀ (i j : Nat) u u', i < j → vs[i]? = some u → vs[j]? = some u' → ∀ g, u.ownBlock = some g → u'.ownBlock ≠ some g
theorem RunRows.nil (base : Nat) (W : World) : RunRows base W (.slice none 0 0) [] := ⟨[], rfl, World.ownsRow_nil _ _ _ _, fun j u r h => by simp at h, fun i j u u' _ h => by simp at h⟩
theorem RunRows.below {W W' : World} {base B : Nat} {v : Value} {l : List Rn} (h : RunRows base W v l) (hb : Below B W W') (hB : W.heap.size ≤ B) : RunRows base W' v l := by
 obtain ⟨vs, hl, hr, hj, hd⟩ := h; exact ⟨vs, hl, ownsRow_below hr hb hB, fun j u r h1 h2 => (hj j u r h1 h2).below hb hB, hd⟩
theorem RunRows.low {W : World} {base B : Nat} {v : Value} {l : List Rn} (h : RunRows base W v l) (hB : B ≤ base) : RunRows B W v l := by
 obtain ⟨vs, hl, hr, hj, hd⟩ := h; exact ⟨vs, hl, own_low hr hB, fun j u r h1 h2 => own_low (hj j u r h1 h2) hB, hd⟩
theorem RunRows.snoc {W w' : World} {base : Nat} {v v' u : Value} {l : List Rn} {r : Rn} {vs : List Value} (hl : vs.length = l.length) (hj : ∀ (j : Nat) u r, vs[j]? = some u → l[j]? = some r → OwnsC base W u r.cells)
  (hd : ∀ (i j : Nat) u u', i < j → vs[i]? = some u → vs[j]? = some u' → ∀ g, u.ownBlock = some g → u'.ownBlock ≠ some g) (hr : W.ownsRow base 112 3 v l.length ((l.zip vs).flatMap encRn)) (hu : OwnsC base W u r.cells)
  (hnew : ∀ (i : Nat) u', vs[i]? = some u' → ∀ g, u'.ownBlock = some g → u.ownBlock ≠ some g)
  (hown : w'.ownsRow base 112 3 v' (l.length + 1) ((l.zip vs).flatMap encRn ++ encRn (r, u))) (hg : W.grownBy w' v.ownBlock) : RunRows base w' v' (l ++ [r]) := by
 have key : ∀ {u : Value} {cs : List Ce}, OwnsC base W u cs → OwnsC base w' u cs := fun h => by
  refine h.kept hg ?_
  rcases h.2 with ⟨rfl, _⟩ | ⟨b, cap, cur, rfl, _⟩
  ·exact .inl rfl
  ·exact .inr (fun e => own_apart h hr (by decide) b rfl e.symm)
 refine ⟨vs ++ [u], by simp [hl], ?_, fun j u' r' h1 h2 => ?_, fun i j u1 u2 hij h1 h2 => ?_⟩
 ·rw [List.zip_append (by rw [hl])]
  simpa using hown
 ·by_cases c : j < vs.length
  ·rw [List.getElem?_append_left c] at h1
   rw [List.getElem?_append_left (by omega)] at h2; exact key (hj j u' r' h1 h2)
  ·by_cases c2 : j = vs.length
   ·subst c2
    rw [List.getElem?_append_right lrr, Nat.sub_self] at h1; rw [hl, List.getElem?_append_right lrr, Nat.sub_self] at h2
    simp at h1 h2
    subst h1 h2; exact key hu
   ·rw [List.getElem?_eq_none (by simp; omega)] at h1
    cases h1
 ·have hjl := (List.getElem?_eq_some_iff.1 h2).1
  rw [List.length_append, List.length_singleton] at hjl; rw [List.getElem?_append_left (by omega)] at h1
  by_cases c : j < vs.length
  ·rw [List.getElem?_append_left c] at h2
   exact hd i j u1 u2 hij h1 h2
  ·obtain rfl : j = vs.length := by omega
   rw [List.getElem?_append_right lrr, Nat.sub_self] at h2
   simp at h2
   subst h2; exact hnew i u1 h1
theorem Row.piece {α : Type} {B sz : Nat} {enc : α → List Value} {w : World} {g o n cap : Nat} {xs : List α} (he : ∀ x, (enc x).length = sz) (h : Row B sz enc w (.slice (some ⟨g, o, none⟩) n cap) xs) (hn : xs.length = n) (p m : Nat) (hp : p + m ≤ n) :
  Row B sz enc w (.slice (some ⟨g, o + p * sz, none⟩) m (cap - p)) ((xs.drop p).take m) := by
 obtain ⟨s, c, e, hlc, hcm, hx⟩ := h
 have hl : ((xs.drop p).take m).length = m := by rw [List.length_take, List.length_drop]; omega
 injection e with e1 e2 e3
 subst e1 e3; refine ⟨_, cap - p, by rw [hl], by rw [hl]; omega, by omega, fun h0 => ?_⟩; rw [hl] at h0; obtain ⟨b, o', e, hb, hc⟩ := hx (by omega)
 injection e with e
 injection e with e1 e2
 subst e1 e2; refine ⟨_, _, rfl, hb, fun j x hj i u hi => ?_⟩; rw [List.getElem?_take] at hj
 split at hj
 ·rw [List.getElem?_drop] at hj
  have := hc (p + j) x hj i u hi
  rwa [Nat.add_mul, ← Nat.add_assoc] at this
 ·cases hj
def OutR (base : Nat) (er : Int) (l : List Rn) (w : World) (e : Ending) (w' : World) : Prop := Below base w w' ∧ ∃ v, e = .returned (.tuple #[v, .int .i64 er]) ∧ RunRows base w' v l
/-! ### rows of one place's height, rising -/
def RisR : List Re → Prop
 | [] => True
 | [q] => 0 < q.wd ∧ q.ht = 1
 | q :: p :: r => 0 < q.wd ∧ q.ht = 1 ∧ (q.y < p.y ∨ (q.y = p.y ∧ q.x + q.wd < p.x)) ∧ RisR (p :: r)
theorem RisR.tail {q : Re} {r : List Re} (h : RisR (q :: r)) : RisR r := by
 cases r with
 | nil => trivial
 | cons p r => exact h.2.2.2
theorem RisR.one {q : Re} {r : List Re} (h : RisR (q :: r)) : 0 < q.wd ∧ q.ht = 1 := by
 cases r with
 | nil => exact h
 | cons p r => exact ⟨h.1, h.2.1⟩
theorem RisR.drop : ∀ {a b : List Re}, RisR (a ++ b) → RisR b
 | [], _, h => h
 | _ :: a, b, h => RisR.drop (a := a) h.tail
theorem RisR.mk {q : Re} {r : List Re} (h0 : 0 < q.wd ∧ q.ht = 1) (h : RisR r) (h1 : ∀ p ∈ r.head?, q.y < p.y ∨ (q.y = p.y ∧ q.x + q.wd < p.x)) : RisR (q :: r) := by
 cases r with
 | nil => exact h0
 | cons p r => exact ⟨h0.1, h0.2, h1 p (by simp), h⟩
def spnR (l : List Re) : List Sp := l.map fun q => (q.x, q.x + q.wd)
theorem ris_row : ∀ {l b : List Re} {y : Int}, RisR (l ++ b) → (∀ q ∈ l, q.y = y) → l = rectsOf y 1 (spnR l) ∧ CanS (spnR l)
 | [], _, _, _, _ => ⟨rfl, trivial⟩
 | [q], b, y, h, hy => by
  have h1 := RisR.one (r := b) h; have h2 := hy q (by simp); refine ⟨?_, by show q.x < q.x + q.wd; omega⟩; obtain ⟨x, y', w, t⟩ := q; simp only at h1 h2
  have e : x + w - x = w := by omega
  simp only [spnR, rectsOf, List.map_cons, List.map_nil, e, h1.2, h2]
 | q :: p :: r, b, y, h, hy => by
  obtain ⟨i1, i2⟩ := ris_row (l := p :: r) (b := b) (y := y) h.tail (fun s hs => hy s (List.mem_cons_of_mem _ hs)); have h1 := RisR.one (r := p :: r ++ b) h; have h2 := hy q (by simp); have h3 := hy p (by simp); have h4 : q.y < p.y ∨ (q.y = p.y ∧ q.x + q.wd < p.x) := h.2.2.1; refine ⟨?_, ?_⟩
  ·have e : spnR (q :: p :: r) = (q.x, q.x + q.wd) :: spnR (p :: r) := rfl
   have e2 : rectsOf y 1 ((q.x, q.x + q.wd) :: spnR (p :: r)) = ⟨q.x, y, q.x + q.wd - q.x, 1⟩ :: rectsOf y 1 (spnR (p :: r)) := rfl; rw [e, e2, ← i1]
   congr 1
   obtain ⟨x, y', w, t⟩ := q; simp only at h1 h2
   have e3 : x + w - x = w := by omega
   simp only [e3, h1.2, h2]
  ·exact ⟨by show q.x < q.x + q.wd; omega, by show q.x + q.wd < p.x; omega, i2⟩
/-! ### flushing a row -/
def eqAl : List Re → List Re → Bool
 | [], [] => true
 | b :: bs, r :: rs => ((b.x == r.x) && ((b.wd == r.wd) && (b.y + b.ht == r.y))) && eqAl bs rs
 | _, _ => false
def alkB (band row : List Re) : Bool := decide (0 < band.length) && eqAl band row
def growR (q : Re) : Re := ⟨q.x, q.y, q.wd, q.ht + 1⟩
def flsF (form last row : List Re) : List Re := if alkB last row then form.take (form.length - last.length) ++ last.map growR else form ++ row
def flsN (last row : List Re) : List Re := if alkB last row then last.map growR else row
def endB (r : Re) : List Re → Bool
 | [] => true
 | p :: _ => !(p.y == r.y)
def chGo : List Re → List Re → List Re → List Re → List Re
 | form, _, _, [] => form
 | form, last, row, r :: rs => if endB r rs then chGo (flsF form last (row ++ [r])) (flsN last (row ++ [r])) [] rs else chGo form last (row ++ [r]) rs
theorem eqAl_rects (y0 h y : Int) : ∀ (l m : List Sp), eqAl (rectsOf y0 h l) (rectsOf y 1 m) = true ↔ l = m ∧ (l = [] ∨ y0 + h = y)
 | [], [] => by simp [rectsOf, eqAl]
 | [], _ :: _ => by simp [rectsOf, eqAl]
 | _ :: _, [] => by simp [rectsOf, eqAl]
 | s :: l, t :: m => by
  have e1 : rectsOf y0 h (s :: l) = ⟨s.1, y0, s.2 - s.1, h⟩ :: rectsOf y0 h l := rfl; have e2 : rectsOf y 1 (t :: m) = ⟨t.1, y, t.2 - t.1, 1⟩ :: rectsOf y 1 m := rfl; rw [e1, e2, eqAl, Bool.and_eq_true, eqAl_rects y0 h y l m]; simp only [Bool.and_eq_true, beq_iff_eq, List.cons.injEq]; obtain ⟨a, b⟩ := s; obtain ⟨c, d⟩ := t; simp only [Prod.mk.injEq]
  constructor
  ·rintro ⟨⟨h1, h2, h3⟩, rfl, h5⟩
   exact ⟨⟨by omega, rfl⟩, .inr h3⟩
  ·rintro ⟨⟨h1, rfl⟩, h2⟩
   rcases h2 with h2 | h2
   ·cases h2
   ·exact ⟨⟨h1.1, by omega, h2⟩, rfl, .inr h2⟩
theorem rects_len (y h : Int) (l : List Sp) : (rectsOf y h l).length = l.length := by unfold rectsOf; simp
theorem alk_rects {y0 h y : Int} {l m : List Sp} : alkB (rectsOf y0 h l) (rectsOf y 1 m) = true ↔ l ≠ [] ∧ l = m ∧ y0 + h = y := by
 unfold alkB; rw [Bool.and_eq_true, eqAl_rects, decide_eq_true_eq, rects_len]
 constructor
 ·rintro ⟨h1, h2, h3⟩
  have : l ≠ [] := by rintro rfl; cases h1
  rcases h3 with h3 | h3
  ·exact absurd h3 this
  ·exact ⟨this, h2, h3⟩
 ·rintro ⟨h1, h2, h3⟩
  exact ⟨List.length_pos_iff.2 h1, h2, .inr h3⟩
theorem grow_rects (y h : Int) (l : List Sp) : (rectsOf y h l).map growR = rectsOf y (h + 1) l := by
 unfold rectsOf; rw [List.map_map]
 rfl
def BandI (B : List Bd) (form last : List Re) (y : Int) : Prop := CanB B ∧ form = flatB B ∧ ((B = [] ∧ last = []) ∨ ∃ B0 t, B = B0 ++ [t] ∧ last = rectsOf t.1 t.2.1 t.2.2 ∧ t.1 + t.2.1 ≤ y)
theorem canB_snoc : ∀ {B0 : List Bd} {t u : Bd}, CanB (B0 ++ [t]) → GoodB u → t.1 + t.2.1 ≤ u.1 → (t.1 + t.2.1 = u.1 → t.2.2 ≠ u.2.2) → CanB (B0 ++ [t] ++ [u])
 | [], t, u, h, hu, h1, h2 => ⟨h, h1, h2, hu⟩
 | [a], t, u, h, hu, h1, h2 => ⟨h.1, h.2.1, h.2.2.1, h.2.2.2, h1, h2, hu⟩
 | a :: b :: B0, t, u, h, hu, h1, h2 => ⟨h.1, h.2.1, h.2.2.1, canB_snoc (B0 := b :: B0) h.2.2.2 hu h1 h2⟩
theorem canB_last : ∀ {B0 : List Bd} {t u : Bd}, CanB (B0 ++ [t]) → u.1 = t.1 → u.2.2 = t.2.2 → 0 < u.2.1 → CanB (B0 ++ [u])
 | [], t, u, h, h1, h2, h3 => ⟨h3, by rw [h2]; exact h.2.1, by rw [h2]; exact h.2.2⟩
 | [a], t, u, h, h1, h2, h3 => ⟨h.1, by rw [h1]; exact h.2.1, by rw [h1, h2]; exact h.2.2.1, h3, by rw [h2]; exact h.2.2.2.2.1, by rw [h2]; exact h.2.2.2.2.2⟩
 | a :: b :: B0, t, u, h, h1, h2, h3 => ⟨h.1, h.2.1, h.2.2.1, canB_last (B0 := b :: B0) h.2.2.2 h1 h2 h3⟩
theorem canB_of_last : ∀ {B0 : List Bd} {t : Bd}, CanB (B0 ++ [t]) → GoodB t
 | [], t, h => h
 | [a], t, h => h.2.2.2
 | a :: b :: B0, t, h => canB_of_last (B0 := b :: B0) h.2.2.2
theorem fls_spec {B : List Bd} {form last : List Re} {y : Int} {m : List Sp} (hB : BandI B form last y) (hm : CanS m) (hn : m ≠ []) :
  ∃ B', BandI B' (flsF form last (rectsOf y 1 m)) (flsN last (rectsOf y 1 m)) (y + 1) ∧ ∀ x z, OnB B' x z ↔ OnB B x z ∨ (z = y ∧ InS m x) := by
 obtain ⟨hc, rfl, h⟩ := hB; have hg : GoodB (y, 1, m) := ⟨by show (0 : Int) < 1; decide, hn, hm⟩
 have key : ∀ B, (∀ x z, OnB (B ++ [(y, 1, m)]) x z ↔ OnB B x z ∨ (z = y ∧ InS m x)) := by
  intro B x z
  rw [OnB.append, OnB.cons]; have : ¬ OnB [] x z := OnB.nil x z; simp only
  constructor
  ·rintro (h | ⟨h1, h2, h3⟩ | h)
   ·exact .inl h
   ·exact .inr ⟨by omega, h3⟩
   ·exact absurd h this
  ·rintro (h | ⟨h1, h2⟩)
   ·exact .inl h
   ·exact .inr (.inl ⟨by omega, by omega, h2⟩)
 have flat1 : ∀ B : List Bd, flatB (B ++ [(y, 1, m)]) = flatB B ++ rectsOf y 1 m := fun B => by
  rw [flatB_append]
  simp [flatB]
 rcases h with ⟨rfl, rfl⟩ | ⟨B0, t, rfl, rfl, ht⟩
 ·have e : alkB [] (rectsOf y 1 m) = false := rfl
  refine ⟨[(y, 1, m)], ⟨hg, ?_, .inr ⟨[], (y, 1, m), rfl, ?_, by show y + 1 ≤ y + 1; omega⟩⟩, key []⟩
  ·unfold flsF
   rw [e]; exact (flat1 []).symm
  ·unfold flsN
   rw [e]
   rfl
 ·cases ha : alkB (rectsOf t.1 t.2.1 t.2.2) (rectsOf y 1 m)
  ·refine ⟨B0 ++ [t] ++ [(y, 1, m)], ⟨canB_snoc hc hg ht ?_, ?_, .inr ⟨B0 ++ [t], (y, 1, m), rfl, ?_, by show y + 1 ≤ y + 1; omega⟩⟩, key _⟩
   ·intro e1 e2
    have := alk_rects.2 ⟨(canB_of_last hc).2.1, e2, e1⟩; rw [ha] at this
    cases this
   ·unfold flsF
    rw [ha]; exact (flat1 _).symm
   ·unfold flsN
    rw [ha]
    rfl
  ·obtain ⟨h1, h2, h3⟩ := alk_rects.1 ha
   have ht0 := (canB_of_last hc).1; refine ⟨B0 ++ [(t.1, t.2.1 + 1, t.2.2)], ⟨canB_last hc rfl rfl (by show 0 < t.2.1 + 1; omega), ?_, .inr ⟨B0, (t.1, t.2.1 + 1, t.2.2), rfl, ?_, by show t.1 + (t.2.1 + 1) ≤ y + 1; omega⟩⟩, ?_⟩
   ·unfold flsF
    rw [ha, if_pos rfl, grow_rects, flatB_append, flatB_append]
    have e : flatB [t] = rectsOf t.1 t.2.1 t.2.2 := by simp [flatB]
    have e' : flatB [(t.1, t.2.1 + 1, t.2.2)] = rectsOf t.1 (t.2.1 + 1) t.2.2 := by simp [flatB]
    rw [e, e', List.length_append, Nat.add_sub_cancel, List.take_left']
    rfl
   ·unfold flsN
    rw [ha, if_pos rfl, grow_rects]
   ·intro x z
    rw [OnB.append, OnB.append, OnB.cons, OnB.cons]; have : ¬ OnB [] x z := OnB.nil x z; simp only; rw [← h2]
    constructor
    ·rintro (h | ⟨a, b, c⟩ | h)
     ·exact .inl (.inl h)
     ·by_cases hz : z < t.1 + t.2.1
      ·exact .inl (.inr (.inl ⟨a, hz, c⟩))
      ·exact .inr ⟨by omega, c⟩
     ·exact absurd h this
    ·rintro ((h | ⟨a, b, c⟩ | h) | ⟨a, b⟩)
     ·exact .inl h
     ·exact .inr (.inl ⟨a, by omega, c⟩)
     ·exact absurd h this
     ·exact .inr (.inl ⟨by omega, by omega, b⟩)
theorem BandI.up {B : List Bd} {form last : List Re} {y z : Int} (h : BandI B form last y) (hy : y ≤ z) : BandI B form last z := by
 obtain ⟨h1, h2, h3⟩ := h; refine ⟨h1, h2, ?_⟩
 rcases h3 with h3 | ⟨B0, t, e1, e2, e3⟩
 ·exact .inl h3
 ·exact .inr ⟨B0, t, e1, e2, by omega⟩
theorem has_row {y : Int} {m : List Sp} {x z : Int} : hasL (rectsOf y 1 m) x z = true ↔ z = y ∧ InS m x := by
 rw [has_rects]
 constructor
 ·rintro ⟨a, b, c⟩; exact ⟨by omega, c⟩
 ·rintro ⟨a, c⟩; exact ⟨by omega, by omega, c⟩
theorem ch_spec : ∀ (rs : List Re) (B : List Bd) (form last row : List Re) (y : Int), BandI B form last y → RisR (row ++ rs) → (∀ q ∈ row, q.y = y) → (∀ q ∈ rs.head?, if row = [] then y ≤ q.y else q.y = y) → (rs = [] → row = []) →
  ∃ B', CanB B' ∧ chGo form last row rs = flatB B' ∧ ∀ x z, OnB B' x z ↔ OnB B x z ∨ hasL (row ++ rs) x z = true
 | [], B, form, last, row, y, hB, hr, hy, hh, hn => by
  obtain rfl := hn rfl; refine ⟨B, hB.1, by rw [chGo]; exact hB.2.1, fun x z => ?_⟩
  simp [hasL]
 | r :: rs, B, form, last, row, y, hB, hr, hy, hh, _ => by
  have h1 := hh r (by simp)
  obtain ⟨y', hy', hyy⟩ : ∃ y', (∀ q ∈ row ++ [r], q.y = y') ∧ y ≤ y' := by
   by_cases he : row = []
   ·rw [if_pos he] at h1
    subst he; exact ⟨r.y, by simp, h1⟩
   ·rw [if_neg he] at h1
    refine ⟨y, fun q hq => ?_, Int.le_refl _⟩
    rcases List.mem_append.1 hq with hq | hq
    ·exact hy q hq
    ·simp at hq; rw [hq]; exact h1
  have hry : r.y = y' := hy' r (by simp)
  have hr' : RisR ((row ++ [r]) ++ rs) := by rw [List.append_assoc]; exact hr
  have hrs := RisR.drop (a := row) hr; rw [chGo]
  cases he : endB r rs
  ·simp only [Bool.false_eq_true, if_false]
   obtain ⟨B', i1, i2, i3⟩ := ch_spec rs B form last (row ++ [r]) y' (hB.up hyy) hr' hy' (by
    intro q hq
    rw [if_neg (by simp)]
    cases rs with
    | nil => cases hq
    | cons p rs =>
     simp at hq
     subst hq; simp only [endB, Bool.not_eq_false', beq_iff_eq] at he
     omega) (by rintro rfl; cases he)
   refine ⟨B', i1, i2, fun x z => ?_⟩; rw [i3, List.append_assoc]
   rfl
  ·simp only [if_true]
   obtain ⟨e1, e2⟩ := ris_row (l := row ++ [r]) (b := rs) hr' hy'; obtain ⟨B1, f1, f2⟩ := fls_spec (hB.up hyy) e2 (by unfold spnR; simp); rw [← e1] at f1
   obtain ⟨B', i1, i2, i3⟩ := ch_spec rs B1 _ _ [] (y' + 1) f1 hrs.tail (by simp) (by
    intro q hq
    rw [if_pos rfl]
    cases rs with
    | nil => cases hq
    | cons p rs =>
     simp at hq
     subst hq; have : r.y < p.y ∨ (r.y = p.y ∧ r.x + r.wd < p.x) := hrs.2.2.1; simp only [endB, Bool.not_eq_true', beq_eq_false_iff_ne, ne_eq] at he
     omega) (by intro _; rfl)
   refine ⟨B', i1, i2, fun x z => ?_⟩
   have e : hasL (row ++ r :: rs) x z = (hasL (row ++ [r]) x z || hasL rs x z) := by rw [← has_append, List.append_assoc]; rfl
   rw [i3, f2, ← has_row, ← e1, List.nil_append, e, Bool.or_eq_true]
   constructor
   ·rintro ((h | h) | h)
    ·exact .inl h
    ·exact .inr (.inl h)
    ·exact .inr (.inr h)
   ·rintro (h | h | h)
    ·exact .inl (.inl h)
    ·exact .inl (.inr h)
    ·exact .inr h
theorem ch_form {R l : List Re} (hr : RisR R) (hl : Sane l) (h : ∀ x z, hasL R x z = hasL l x z) : chGo [] [] [] R = formR l [] 1 := by
 have hd : ∀ q ∈ R.head?, (if ([] : List Re) = [] then (match R with | [] => 0 | q :: _ => q.y) ≤ q.y else q.y = (match R with | [] => 0 | q :: _ => q.y)) := by
  intro q hq
  rw [if_pos rfl]
  cases R with
  | nil => cases hq
  | cons p R => simp at hq; subst hq; exact Int.le_refl _
 obtain ⟨B', b1, b2, b3⟩ := ch_spec R [] [] [] [] _ ⟨trivial, rfl, .inl ⟨rfl, rfl⟩⟩ hr (by simp) hd (fun _ => rfl); obtain ⟨c1, c2⟩ := bands_spec hl sane_nil 1; rw [b2]; unfold formR
 rw [canB_unique b1 c1 (fun x z => by
  rw [b3, c2, kept_one, List.nil_append, h]
  constructor
  ·rintro (h | h)
   ·exact absurd h (OnB.nil x z)
   ·exact h
  ·exact .inr)]
end Go.Proofs.YtfcphagmjijmkaaGreatDoor
namespace Go.Proofs
open Go.Shelf
def Tryz.lays212_ren : Go.Shelf.Ren := ⟨fun | 212 => 93 | 263 => 136 | 264 => 137 | n => n, fun | 46 => 137 | 51 => 184 | 146 => 185 | 53 => 187 | 148 => 188 | n => n, fun | n => n⟩
theorem Tryz.lays212 : Go.Proofs.Lays.n212 Tryz.prog Tryz.lays212_ren := {
 mixed := by kernel_rfl
 f212 := Tryz.func93.trans (congrArg some (by kernel_rfl))
 f263 := Tryz.func136.trans (congrArg some (by kernel_rfl))
 f264 := Tryz.func137.trans (congrArg some (by kernel_rfl))
 t46 := Tryz.underlying137
 a46 := Tryz.isAgg137
 z46 := Tryz.sizeOf137
 v46 := Tryz.zeroValue137
 t51 := Tryz.underlying184
 a51 := Tryz.isAgg184
 z51 := Tryz.sizeOf184
 v51 := Tryz.zeroValue184
 t53 := Tryz.underlying187
 a53 := Tryz.isAgg187
 z53 := Tryz.sizeOf187
 v53 := Tryz.zeroValue187
 t146 := Tryz.underlying185
 a146 := Tryz.isAgg185
 z146 := Tryz.sizeOf185
 v146 := Tryz.zeroValue185
 t148 := Tryz.underlying188
 a148 := Tryz.isAgg188
 z148 := Tryz.sizeOf188
 v148 := Tryz.zeroValue188 }
end Go.Proofs
namespace Go.Proofs
open Go.Shelf
open Go.RowKit in
theorem YtfcphagmjijmkaaGreatDoor.mulX (x y : Nat) (hx : x < 18446744073709551616) (hy : y < 18446744073709551616) (w : World) :
  Calls Tryz.prog 93 #[.int .u64 x, .int .u64 y] w fun e w' => e = .returned (.tuple #[.int .u64 ((x * y / 18446744073709551616 : Nat) : Int), .int .u64 ((x * y % 18446744073709551616 : Nat) : Int)]) ∧ w' = w := Any.bits_Mul Tryz.lays212 x y hx hy w
end Go.Proofs
namespace Go.Proofs.YtfcphagmjijmkaaGreatDoor
open Go.RowKit
set_option linter.unusedVariables false
set_option linter.unusedSimpArgs false
attribute [local go_sem] vwp vUpon_value vUpon_skip vUpon_enter vUpon_row
set_option maxHeartbeats 16000000
theorem run_copy_big {P : Program} (w : World) (dT sT ty elem : TypeId) (sz g o dLen dCap : Nat) (a : Addr) (sLen sCap : Nat) (cur : Array Value) (t : TypeId) (cs : List Value)
  (hu : P.underlying dT = some (.slice elem)) (hs : (P.info? elem).map (·.size) = some sz)
  (hg : w.heap[g]? = some (.cells cur t (0, 0))) (hn : cs.length = Nat.min sLen dLen * sz)
  (hsrc : ∀ j v, cs[j]? = some v → w.cell? (a.add j) = some v) (hfit : o + cs.length ≤ cur.size) (h1 : ∀ v ∈ cs, v.oneCell' = true) :
  (Builtin.copy_ #[dT, sT] ty #[.slice (some ⟨g, o, none⟩) dLen dCap, .slice (some a) sLen sCap]).run P w =
   .ok (goInt (Nat.min sLen dLen : Nat)) (w.setRow g (cur.toList.take o ++ cs ++ cur.toList.drop (o + cs.length)).toArray) := by
 have hl := run_loadCells_list (P := P) w a cs hsrc; have hst := run_storeCells_at P g o t cs 0 cur w hg (by simpa using hfit) h1; rw [hn] at hl
 cases hq : P.info? elem with
 | none => simp [hq] at hs
 | some i =>
  have hi : i.size = sz := by simpa [hq] using hs
  simp [Builtin.copy_, run_underlying hu, Builtin.lenOf, Builtin.firstCells, sizeOf, typeInfo, hq, hi, hl, hst]
def Ce.zero : Ce := ⟨0, ⟨0, 0, 0, 0⟩, ⟨0, 0, 0, 0⟩, false, false⟩
def repL (c : Ce) (k N : Nat) : List Ce := List.replicate k c ++ List.replicate (N - k) Ce.zero
theorem repL_len (c : Ce) {k N : Nat} (h : k ≤ N) : (repL c k N).length = N := by simp [repL]; omega
theorem repL_full (c : Ce) (N : Nat) : repL c N N = List.replicate N c := by simp [repL]
theorem repL_step (c : Ce) {k m N : Nat} (h : k + m ≤ N) : ((repL c k N).flatMap Ce.enc).take (k * 11) ++ (List.replicate m c).flatMap Ce.enc ++ ((repL c k N).flatMap Ce.enc).drop (k * 11 + ((List.replicate m c).flatMap Ce.enc).length) = (repL c (k + m) N).flatMap Ce.enc := by
 have e1 : repL c k N = List.replicate k c ++ (List.replicate m Ce.zero ++ List.replicate (N - (k + m)) Ce.zero) := by
  unfold repL; rw [List.replicate_append_replicate, show N - k = m + (N - (k + m)) by omega]
 have l1 : ((List.replicate k c).flatMap Ce.enc).length = k * 11 := by rw [flat_len Ce.enc_len, List.length_replicate]
 have l2 : ((List.replicate m c).flatMap Ce.enc).length = m * 11 := by rw [flat_len Ce.enc_len, List.length_replicate]
 have l3 : ((List.replicate m Ce.zero).flatMap Ce.enc).length = m * 11 := by rw [flat_len Ce.enc_len, List.length_replicate]
 rw [e1, List.flatMap_append, List.flatMap_append, l2]; rw [List.take_append_of_le_length (by omega), List.take_of_length_le (by omega)]
 have e2 : ((List.replicate k c).flatMap Ce.enc ++ ((List.replicate m Ce.zero).flatMap Ce.enc ++ (List.replicate (N - (k + m)) Ce.zero).flatMap Ce.enc)).drop (k * 11 + m * 11) = (List.replicate (N - (k + m)) Ce.zero).flatMap Ce.enc := by
  rw [← List.append_assoc]; exact List.drop_left' (by rw [List.length_append, l1, l3])
 rw [e2]; unfold repL; rw [← List.replicate_append_replicate, List.flatMap_append, List.flatMap_append]
theorem flat_one' {α : Type} {enc : α → List Value} {xs : List α} (h : ∀ y, ∀ u ∈ enc y, u.oneCell' = true) : ∀ u ∈ xs.flatMap enc, u.oneCell' = true := by
 intro u hu
 obtain ⟨y, _, hy⟩ := List.mem_flatMap.1 hu; exact h y u hy
theorem madeCells_ce (n : Nat) : madeCells (.agg #[.int .i32 0, .int .u8 0, .int .u8 0, .int .u8 0, .int .u8 0, .int .u8 0, .int .u8 0, .int .u8 0, .int .u8 0, .bool false, .bool false] : Value).cells (n * 11) = ((List.replicate n Ce.zero).flatMap Ce.enc).toArray := by
 apply Array.ext'
 simp only
 apply List.ext_getElem?
 intro p
 have hz : ∀ i, i < 11 → (Ce.zero.enc)[i]? = some ((.agg #[.int .i32 0, .int .u8 0, .int .u8 0, .int .u8 0, .int .u8 0, .int .u8 0, .int .u8 0, .int .u8 0, .int .u8 0, .bool false, .bool false] : Value).cells)[i]! := by
  intro i hi
  match i, hi with
  | 0, _ => rfl
  | 1, _ => rfl
  | 2, _ => rfl
  | 3, _ => rfl
  | 4, _ => rfl
  | 5, _ => rfl
  | 6, _ => rfl
  | 7, _ => rfl
  | 8, _ => rfl
  | 9, _ => rfl
  | 10, _ => rfl
 have hsz : (.agg #[.int .i32 0, .int .u8 0, .int .u8 0, .int .u8 0, .int .u8 0, .int .u8 0, .int .u8 0, .int .u8 0, .int .u8 0, .bool false, .bool false] : Value).cells.size = 11 := rfl; rw [flat_get Ce.enc_len (by omega)]
 by_cases hp : p < n * 11
 ·have h1 : p / 11 < n := by omega
  rw [List.getElem?_replicate, if_pos h1]; simp only [Option.bind_some]; rw [hz _ (by omega)]
  have : (madeCells (.agg #[.int .i32 0, .int .u8 0, .int .u8 0, .int .u8 0, .int .u8 0, .int .u8 0, .int .u8 0, .int .u8 0, .int .u8 0, .bool false, .bool false] : Value).cells (n * 11))[p]? = some ((.agg #[.int .i32 0, .int .u8 0, .int .u8 0, .int .u8 0, .int .u8 0, .int .u8 0, .int .u8 0, .int .u8 0, .int .u8 0, .bool false, .bool false] : Value).cells)[p % 11]! := by
   unfold madeCells; rw [Array.getElem?_map, Array.getElem?_range, if_pos hp]; simp only [Option.map_some]; rw [hsz]
  simpa using this
 ·have h1 : ¬ p / 11 < n := by omega
  rw [List.getElem?_replicate, if_neg h1]
  have : (madeCells (.agg #[.int .i32 0, .int .u8 0, .int .u8 0, .int .u8 0, .int .u8 0, .int .u8 0, .int .u8 0, .int .u8 0, .int .u8 0, .bool false, .bool false] : Value).cells (n * 11))[p]? = none := by
   rw [Array.getElem?_eq_none]; rw [size_madeCells]; omega
  simpa using this
theorem make_cells (c : Ce) (n : Nat) (hn : n ≤ 300000) (w : World) : (Instr.makeSlice 38 (.int .i64 n) (.int .i64 n)).run Tryz.prog w = .ok (.slice (some ⟨w.heap.size, 0, none⟩) n n) (w.alloc (.cells ((repL c 0 n).flatMap Ce.enc).toArray 47)) := by
 obtain ⟨i0, hi, hz0, hz1, hz2⟩ := info_parts infoCe; have h := run_make (P := Tryz.prog) w 38 47 i0 _ Tryz.underlying38 hi hz0 .i64 .i64 n n (by omega) (Int.le_refl _) (by rw [hz2]; omega) (by omega); rw [h, hz1, Int.toNat_natCast, madeCells_ce]
 rfl
theorem sizeCe : (Tryz.prog.info? 47).map (·.size) = some 11 := by kernel_rfl
set_option maxRecDepth 100000 in
theorem repeat_any (c : Ce) (N : Nat) (bx : Nat) (w : World) (hB : Blk w bx c.enc 47) (hN : N ≤ 300000) : Calls Tryz.prog 48 #[.slice (some ⟨bx, 0, none⟩) 1 1, .int .i64 N] w fun e w' => ∃ v, e = .returned v ∧ OwnsC w.heap.size w' v (List.replicate N c) ∧ Below w.heap.size w w' := by
 obtain ⟨iM, hi0, hm0, hm1, hm2⟩ := info_parts infoCe
 have MU : ∀ w, Calls Tryz.prog 93 #[.int .u64 1, .int .u64 N] w fun e w' => e = .returned (.tuple #[.int .u64 0, .int .u64 N]) ∧ w' = w := fun w => by
  have := YtfcphagmjijmkaaGreatDoor.mulX 1 N (by omega) (by omega) w; rw [show (1 * N / 18446744073709551616 : Nat) = 0 by omega, show (1 * N % 18446744073709551616 : Nat) = N by omega] at this; exact this
 have hN0 : ¬ (N : Int) < 0 := by omega
 have hN1 : ¬ (N : Int) > 9223372036854775807 := by omega
 have hxs := fun j v h => hB.cell (o := j) (v := v) h
 have ybx := hB.lt; replace MU := hdh MU; replace hxs := hdh hxs
 go_enter Tryz.func48, Tryz.ntmps48
 go_upto_region 6 with (go_at_call 93; (with_reducible refine (MU.out _).mono ?_); rintro e w1 ⟨rfl, rfl⟩)
 have hmk := fun w => make_cells c N hN w
 go_upto_region 7 with fail
 clear hmk; obtain ⟨b, hb⟩ := exx (w1.heap.size); obtain ⟨w2, hw2⟩ := exx (w1.alloc (.cells ((repL c 0 N).flatMap Ce.enc).toArray 47))
 have B2 : Blk w2 b ((repL c 0 N).flatMap Ce.enc) 47 := by rw [← hw2, ← hb]; exact Blk.new' rfl
 have hb2 : Below w1.heap.size w1 w2 := by rw [← hw2]; exact (Below.refl _ _).alloc lrr _
 rw [hw2, hb]; clear hw2
 have hsrc0 : ∀ j v, c.enc[j]? = some v → w2.cell? ⟨bx, j, none⟩ = some v := fun j v h => (hb2.cell (p := ⟨bx, j, none⟩) ybx).trans (hxs.out j v h)
 have y2 := B2.lt; obtain ⟨k0, hk0⟩ := exx (Nat.min 1 N)
 have hk1 : k0 ≤ N := by rw [← hk0]; exact Nat.min_le_right 1 N
 have hk2 : 1 ≤ N → k0 = 1 := fun h => by rw [← hk0]; exact Nat.min_eq_left h
 have hk3 : k0 ≤ 1 := by rw [← hk0]; exact Nat.min_le_left 1 N
 have hr0 := run_copy_big (P := Tryz.prog) w2 38 38 3 47 11 b 0 N N ⟨bx, 0, none⟩ 1 1 _ 47 ((List.replicate k0 c).flatMap Ce.enc) Tryz.underlying38 sizeCe B2
  (by rw [flat_len Ce.enc_len, List.length_replicate, hk0]) (fun j v h => by
   rcases (show k0 = 0 ∨ k0 = 1 by omega) with e | e
   ·rw [e] at h; simp at h
   ·rw [e] at h
    have := hsrc0 j v (by simpa using h)
    cases j <;> simpa [Addr.add] using this)
  (by rw [flat_len Ce.enc_len, List.length_replicate, List.size_toArray, flat_len Ce.enc_len, repL_len c (Nat.zero_le _)]; omega) (flat_one' Ce.enc_one)
 rw [hk0] at hr0; have e0 := repL_step c (k := 0) (m := k0) (N := N) (by omega); rw [Nat.zero_mul, Nat.zero_add] at e0; rw [List.toList_toArray, Nat.zero_add, e0, Nat.zero_add] at hr0; obtain ⟨w3, hw3⟩ := exx (w2.setRow b ((repL c k0 N).flatMap Ce.enc).toArray); rw [hw3] at hr0
 have B3 : Blk w3 b ((repL c k0 N).flatMap Ce.enc) 47 := by rw [← hw3]; exact setRow_heap w2 b _ _ _ _ B2
 have hb3 : Below w1.heap.size w1 w3 := by rw [← hw3]; exact below_setRow hb2 (by omega) _
 clear hw3 e0 B2 hb2 hsrc0 y2 hxs; replace hk0 := hdh hk0
 go_upto_region 8 with (refine wpList_copy_runI w2 rfl _ _ _ _ rfl _ _ (by rfl) (by rfl) hr0 ?_)
 clear hr0
 go_loopw [8] (fun nv wr => ∃ k : Nat, k0 ≤ k ∧ k ≤ N ∧ nv = .int .i64 k ∧ Hid (Blk wr b ((repL c k N).flatMap Ce.enc) 47) ∧ Below w1.heap.size w1 wr) (fun nv _ => N - (intOf nv).toNat)
 case atStart => exact ⟨k0, Nat.le_refl _, hk1, rfl, hdh B3, hb3⟩
 case round =>
  clear B3 hb3; obtain ⟨k, h1, h2, rfl, hB, hbr⟩ := hrel
  by_cases hk : k < N
  ·have hki : (k : Int) < N := by omega
   have hkN : (k : Int) ≤ N := by omega
   have hkn : ¬ N = k := by omega
   have hk4 := hk2 (by omega)
   go_upto_region 9 with fail
   obtain ⟨m, hm⟩ := exx (Nat.min k (N - k))
   have m1 : m ≤ k := by rw [← hm]; exact Nat.min_le_left _ _
   have m2 : m ≤ N - k := by rw [← hm]; exact Nat.min_le_right _ _
   have m3 : 1 ≤ m := by rw [← hm]; exact Nat.le_min.2 ⟨by omega, by omega⟩
   have hBB := hB.out
   have hr9 := run_copy_big (P := Tryz.prog) wr.drew 38 38 3 47 11 b (k * 11) (N - k) (N - k) ⟨b, 0, none⟩ k N _ 47 ((List.replicate m c).flatMap Ce.enc) Tryz.underlying38 sizeCe hBB
    (by rw [flat_len Ce.enc_len, List.length_replicate, hm]) (fun j v h => by
     have hjl := (List.getElem?_eq_some_iff.1 h).1; rw [flat_len Ce.enc_len, List.length_replicate] at hjl
     have h2 : ((repL c k N).flatMap Ce.enc)[j]? = some v := by
      unfold repL; rw [← h, show k = m + (k - m) by omega, ← List.replicate_append_replicate, List.append_assoc, List.flatMap_append, List.getElem?_append_left (by rw [flat_len Ce.enc_len, List.length_replicate]; omega)]
     have := hBB.cell h2
     cases j <;> simpa [Addr.add] using this)
    (by rw [flat_len Ce.enc_len, List.length_replicate, List.size_toArray, flat_len Ce.enc_len, repL_len c h2]; omega) (flat_one' Ce.enc_one)
   have e0 := repL_step c (k := k) (m := m) (N := N) (by omega); rw [List.toList_toArray, e0, hm] at hr9; obtain ⟨w4, hw4⟩ := exx (wr.drew.setRow b ((repL c (k + m) N).flatMap Ce.enc).toArray); rw [hw4] at hr9
   have B4 : Blk w4 b ((repL c (k + m) N).flatMap Ce.enc) 47 := by rw [← hw4]; exact setRow_heap wr.drew b _ _ _ _ hBB
   have hb4 : Below w1.heap.size w1 w4 := by rw [← hw4]; exact below_setRow (Below.drew hbr) (by omega) _
   replace B4 := hdh B4; clear hw4 e0 hBB; replace hr9 := hdh hr9
   have km1 : IntKind.i64.wrap ((k : Int) + (m : Int)) = (k : Int) + (m : Int) := by rw [IntKind.wrap_i64]; omega
   refine held_begin (fun _ => True) (by kernel_rfl) trivial (fun hS => ?_)
   (refine' held_do (i := 0) _ (by kernel_rfl) (by kernel_rfl) (by kernel_rfl) _ _ trivial _ _; rotate_left 2; (focus exact geti); (focus exact fun _ _ _ h => h); (focus rfl); (focus (intro w1 hSS R hR; go_simp; (try go_bits); exact hR)); simp only [pu])
   (refine' held_do (i := 1) _ (by kernel_rfl) (by kernel_rfl) (by kernel_rfl) _ _ trivial _ _; rotate_left 2; (focus exact geti); (focus exact fun _ _ _ h => h); (focus rfl); (focus (intro w1 hSS R hR; go_simp; (try go_bits); exact hR)); simp only [pu])
   (refine' held_do (i := 2) _ (by kernel_rfl) (by kernel_rfl) (by kernel_rfl) _ _ trivial _ _; rotate_left 2; (focus exact geti); (focus exact fun _ _ _ h => h); (focus rfl); (focus (intro w1 hSS R hR; go_simp; (try go_bits); exact hR)); simp only [pu])
   (refine' held_do (i := 3) _ (by kernel_rfl) (by kernel_rfl) (by kernel_rfl) _ _ trivial _ _; rotate_left 2; (focus exact geti); (focus exact fun _ _ _ h => h); (focus rfl); (focus (intro w1 hSS R hR; go_simp; (try go_bits); exact hR)); simp only [pu])
   (refine' held_do (i := 4) _ (by kernel_rfl) (by kernel_rfl) (by kernel_rfl) _ _ trivial _ _; rotate_left 2; (focus exact geti); (focus exact fun _ _ _ h => h); (focus rfl); (focus (intro w1 hSS R hR; go_simp; (try go_bits); exact hR)); simp only [pu])
   (refine' held_do (i := 5) _ (by kernel_rfl) (by kernel_rfl) (by kernel_rfl) _ _ trivial _ _; rotate_left 2; (focus exact geti); (focus exact fun _ _ _ h => h); (focus rfl); (focus (intro w1 hSS R hR; go_simp; (try go_bits); exact hR)); simp only [pu])
   (refine' held_do (i := 6) _ (by kernel_rfl) (by kernel_rfl) (by kernel_rfl) _ _ trivial _ _; rotate_left 2; (focus exact geti); (focus exact fun _ _ _ h => h); (focus rfl); (focus (intro w1 hSS R hR; go_simp; (try go_bits); exact hR)); simp only [pu])
   (refine' held_one (i := 7) _ (by kernel_rfl) _ _; rotate_left; (focus exact geti); (focus rfl); intro K hK)
   refine wp_copy_runI wr.drew _ _ _ _ rfl _ _ (by rfl) (by rfl) hr9.out ?_; refine hK _ _ trivial ?_; clear hK; simp only [goInt]
   (try simp only [pu])
   (refine' held_do (i := 8) _ (by kernel_rfl) (by kernel_rfl) (by kernel_rfl) _ _ trivial _ _; rotate_left 2; (focus exact geti); (focus exact fun _ _ _ h => h); (focus rfl); (focus (intro w1 hSS R hR; go_simp; (try go_bits); exact hR)); simp only [pu])
   (refine' held_do (i := 9) _ (by kernel_rfl) (by kernel_rfl) (by kernel_rfl) _ _ trivial _ _; rotate_left 2; (focus exact geti); (focus exact fun _ _ _ h => h); (focus rfl); (focus (intro w1 hSS R hR; go_simp; (try go_bits); exact hR)); simp only [pu])
   refine wpAnyH_done (by kernel_rfl) ?_ _; go_wp2; go_roundw
   case rel => exact ⟨k + m, by omega, by omega, by go_num, B4, hb4⟩
   case measure => simp [intOf]; omega
  ·obtain rfl : k = N := by omega
   have hki : ¬ (k : Int) < k := by omega
   have hB := hB.out; rw [repL_full] at hB
   have ho : OwnsC b wr (.slice (some ⟨b, 0, none⟩) k k) (List.replicate k c) := by
    unfold OwnsC; refine ⟨by rw [flat_len Ce.enc_len], .inr ⟨b, k, _, by rw [List.length_replicate], Nat.le_refl _, hB, by rw [List.length_replicate]; exact Nat.le_refl _, by unfold maxLen; omega, by rw [List.size_toArray, flat_len Ce.enc_len, List.length_replicate], ?_⟩⟩; rw [List.toList_toArray, List.take_of_length_le]; rw [flat_len Ce.enc_len]; exact Nat.le_refl _
   replace ho := hdh ho; go_wp2; go_ret; exact ⟨_, rfl, ho.out, hb ▸ hbr⟩
def blkCe (back : Co) : Ce := ⟨32, ⟨0, 0, 0, 0⟩, back, false, false⟩
def blankE (wd ht : Int) : Int := if fitsS wd ht then 0 else 150
def blankZ (z wd ht : Int) : Int := if fitsS wd ht then z else 0
def blankC (wd ht : Int) (back : Co) : List Ce := if fitsS wd ht then List.replicate (wd * ht).toNat (blkCe back) else []
set_option maxRecDepth 100000 in
theorem cblank_any (wd ht : Int) (back : Co) (w : World) (h1 : I64 wd) (h2 : I64 ht) : Calls Tryz.prog 13 #[.agg #[.int .i64 (wd), .int .i64 (ht)], .agg #[.int .u8 (back.r), .int .u8 (back.g), .int .u8 (back.b), .int .u8 (back.a)]] w (OutS w.heap.size (blankE wd ht) (blankZ wd wd ht) (blankZ ht wd ht) (blankC wd ht back) w) := by
 have X := cfits_any wd ht; obtain ⟨E, hE⟩ := exx (blankE wd ht); obtain ⟨Z1, hZ1⟩ := exx (blankZ wd wd ht); obtain ⟨Z2, hZ2⟩ := exx (blankZ ht wd ht); obtain ⟨RC, hRC⟩ := exx (blankC wd ht back); rw [hE, hZ1, hZ2, hRC]; unfold blankE at hE; unfold blankZ at hZ1 hZ2; unfold blankC at hRC; obtain ⟨b0, b1, b2, b3⟩ := back; dsimp only
 go_enter Tryz.func13, Tryz.ntmps13
 go_upto_region 1 with fail
 obtain ⟨W, hW⟩ := exx (((w.alloc (.cells #[.int .i64 wd, .int .i64 ht] 24)).alloc (.cells #[.int .u8 b0, .int .u8 b1, .int .u8 b2, .int .u8 b3] 34)).alloc (.cells #[.int .i64 0, .int .i64 0, .slice none 0 0] 40))
 have B2 : Blk W w.heap.size [.int .i64 wd, .int .i64 ht] 24 := by rw [← hW]; exact ((Blk.new' rfl).alloc _).alloc _
 have B3 : Blk W (w.heap.size + 1) [.int .u8 b0, .int .u8 b1, .int .u8 b2, .int .u8 b3] 34 := by rw [← hW]; exact (Blk.new' (by simp)).alloc _
 have B4 : Blk W (w.heap.size + 1 + 1) [.int .i64 0, .int .i64 0, .slice none 0 0] 40 := by rw [← hW]; exact Blk.new' (by simp)
 have hbw : Below w.heap.size w W := by rw [← hW]; exact belt
 rw [hW]; clear hW; have yB2 := B2.lt; have yB3 := B3.lt; have yB4 := B4.lt; have q0 := B2.cell (o := 0) rfl; have q1 := B2.cell (o := 1) rfl
 cases hf : fitsS wd ht
 ·rw [hf] at X hE hZ1 hZ2 hRC
  simp only [Bool.false_eq_true, if_false] at hE hZ1 hZ2 hRC; subst hE hZ1 hZ2 hRC; replace X := hdh X
  go_wp2_with (go_at_call 47; (with_reducible refine cmm (X.out _ ‹_› ‹_›) fun w2 hb2 => ?_); replace B4 := B4.below hb2 yB4; replace hbw := hbw.trans (hb2.mono hbw.size); have k0 := B4.cell (o := 0) rfl; have k1 := B4.cell (o := 1) rfl; have k2 := B4.cell (o := 2) rfl; have kf := B4.free)
  clear k0 k1 k2 kf; have HZ := Blk.put3 B4 rfl (.int .i64 0) (.int .i64 0) (.slice none 0 0); have hbZ : Below w.heap.size w (((w2.setCell ⟨(w.heap.size + 1 + 1), 0, none⟩ (.int .i64 0)).setCell ⟨(w.heap.size + 1 + 1), 1, none⟩ (.int .i64 0)).setCell ⟨(w.heap.size + 1 + 1), 2, none⟩ (.slice none 0 0)) := ((hbw.setCell (p := ⟨(w.heap.size + 1 + 1), 0, none⟩) (by show w.heap.size ≤ (w.heap.size + 1 + 1); omega) _).setCell (p := ⟨(w.heap.size + 1 + 1), 1, none⟩) (by show w.heap.size ≤ (w.heap.size + 1 + 1); omega) _).setCell (p := ⟨(w.heap.size + 1 + 1), 2, none⟩) (by show w.heap.size ≤ (w.heap.size + 1 + 1); omega) _
  generalize ((w2.setCell ⟨(w.heap.size + 1 + 1), 0, none⟩ (.int .i64 0)).setCell ⟨(w.heap.size + 1 + 1), 1, none⟩ (.int .i64 0)).setCell ⟨(w.heap.size + 1 + 1), 2, none⟩ (.slice none 0 0) = wZ at HZ hbZ ⊢; have jz0 := HZ.cell (o := 0) rfl; have jz1 := HZ.cell (o := 1) rfl; have jz2 := HZ.cell (o := 2) rfl; refine bodyPost_ret (v := .tuple #[.agg #[.int .i64 0, .int .i64 0, .slice none 0 0], .int .i64 150]) (by simp [results, Tryz.results13, go_sem, jz0, jz1, jz2]) rfl ⟨hbZ, _, rfl, OwnsC.nil _ _⟩
 ·rw [hf] at X hE hZ1 hZ2 hRC
  simp only [if_true] at hE hZ1 hZ2 hRC; subst hE hZ1 hZ2; obtain ⟨a1, a2, a3, a4, a5⟩ := fitsS_true.1 hf; obtain ⟨N, hN⟩ : ∃ N : Nat, wd * ht = N := ⟨(wd * ht).toNat, by have := Int.mul_nonneg a1 a2; omega⟩; rw [hN, Int.toNat_natCast] at hRC; rw [hN] at a5; subst hRC; replace X := hdh X
  go_upto_region 3 with (go_at_call 47; (with_reducible refine cmm (X.out _ ‹_› ‹_›) fun w1 hb1 => ?_))
  replace B2 := B2.below hb1 yB2; replace B3 := B3.below hb1 yB3; replace B4 := B4.below hb1 yB4; replace hbw := hbw.trans (hb1.mono hbw.size); clear q0 q1 hb1 yB2 yB3 yB4 X; have yB2 := B2.lt; have yB3 := B3.lt; have yB4 := B4.lt; have q0 := B2.cell (o := 0) rfl; have q1 := B2.cell (o := 1) rfl; have p0 := B3.cell (o := 0) rfl; have p1 := B3.cell (o := 1) rfl; have p2 := B3.cell (o := 2) rfl; have p3 := B3.cell (o := 3) rfl; have hCL : Held w 3 [(⟨w.heap.size, 0, none⟩, .int .i64 wd), (⟨w.heap.size, 1, none⟩, .int .i64 ht), (⟨w.heap.size + 1, 0, none⟩, .int .u8 (b0)), (⟨w.heap.size + 1, 1, none⟩, .int .u8 (b1)), (⟨w.heap.size + 1, 2, none⟩, .int .u8 (b2)), (⟨w.heap.size + 1, 3, none⟩, .int .u8 (b3))] w1.drew := ⟨Below.drew hbw, (show w.heap.size + 3 ≤ w1.heap.size by omega), ⟨q0, B2.free 0, q1, B2.free 1, p0, B3.free 0, p1, B3.free 1, p2, B3.free 2, p3, B3.free 3, trivial⟩⟩
  refine held_begin (Held w 3 [(⟨w.heap.size, 0, none⟩, .int .i64 wd), (⟨w.heap.size, 1, none⟩, .int .i64 ht), (⟨w.heap.size + 1, 0, none⟩, .int .u8 (b0)), (⟨w.heap.size + 1, 1, none⟩, .int .u8 (b1)), (⟨w.heap.size + 1, 2, none⟩, .int .u8 (b2)), (⟨w.heap.size + 1, 3, none⟩, .int .u8 (b3))]) (by kernel_rfl) hCL (fun hS => ?_); have B5 : Blk w1.drew (w.heap.size + 1 + 1) [.int .i64 0, .int .i64 0, .slice none 0 0] 40 := B4; clear q0 q1 p0 p1 p2 p3 B2 B3 B4 yB2 yB3 yB4 hCL hbw; generalize w1.drew = u0 at hS B5 ⊢
  (refine' hdo 0 hS ?_; simp only [pu])
  (refine' hdo 1 hS ?_; simp only [pu])
  (refine' hdo 2 hS ?_; simp only [pu])
  (refine' hdo 4 hS ?_; simp only [pu])
  (refine' hdo 5 hS ?_; simp only [pu])
  (refine' hdo 6 hS ?_; simp only [pu])
  (refine' hdo 7 hS ?_; simp only [pu])
  (refine' hdo 8 hS ?_; simp only [pu])
  (refine honn 3 fun K hK => ?_; go_simp)
  have hT := hS.below ((Below.refl u0.heap.size u0).alloc lrr (.cells #[.int .i32 32, .int .u8 0, .int .u8 0, .int .u8 0, .int .u8 0, .int .u8 b0, .int .u8 b1, .int .u8 b2, .int .u8 b3, .bool false, .bool false] 47)); have B6 := B5.alloc (.cells #[.int .i32 32, .int .u8 0, .int .u8 0, .int .u8 0, .int .u8 0, .int .u8 b0, .int .u8 b1, .int .u8 b2, .int .u8 b3, .bool false, .bool false] 47); have Bx : Blk (u0.alloc (.cells #[.int .i32 32, .int .u8 0, .int .u8 0, .int .u8 0, .int .u8 0, .int .u8 b0, .int .u8 b1, .int .u8 b2, .int .u8 b3, .bool false, .bool false] 47)) u0.heap.size (blkCe ⟨b0, b1, b2, b3⟩).enc 47 := Blk.new' rfl
  generalize u0.alloc (.cells #[.int .i32 32, .int .u8 0, .int .u8 0, .int .u8 0, .int .u8 0, .int .u8 b0, .int .u8 b1, .int .u8 b2, .int .u8 b3, .bool false, .bool false] 47) = v2 at hT Bx B6 ⊢; generalize u0.heap.size = bx at Bx ⊢; have RP := hdh (repeat_any (blkCe ⟨b0, b1, b2, b3⟩) N bx v2 Bx (by omega)); have yB6 := B6.lt; refine hK _ _ hT ?_; clear hK hS B5
  (try simp only [pu])
  have hS := hT; clear hT
  (refine honn 9 fun K hK => ?_; go_simp)
  refine RP.out.mono ?_
  rintro e v3 ⟨vr, rfl, hown, hb3⟩
  have hT := hS.below hb3; have zv := hS.2.1; have B7 := B6.below hb3 yB6; obtain ⟨sr, cr, hsr⟩ := own_slice hown; rw [List.length_replicate] at hsr; subst hsr; refine hK _ _ hT ?_; clear hK hS hb3 RP B6 yB6
  (try simp only [pu])
  have hS := hT; clear hT
  (refine' hdo 10 hS ?_; simp only [pu])
  replace hown := hdh hown
  (refine' held_one (i := 11) _ (by kernel_rfl) _ _; rotate_left; (focus exact geti); (focus rfl); intro K hK)
  have k0 := B7.cell (o := 0) rfl; have k1 := B7.cell (o := 1) rfl; have k2 := B7.cell (o := 2) rfl; have kf := B7.free; have yB7 := B7.lt
  go_simp
  clear k0 k1 k2 kf
  have hT : Held w 3 [(⟨w.heap.size, 0, none⟩, .int .i64 wd), (⟨w.heap.size, 1, none⟩, .int .i64 ht), (⟨w.heap.size + 1, 0, none⟩, .int .u8 (b0)), (⟨w.heap.size + 1, 1, none⟩, .int .u8 (b1)), (⟨w.heap.size + 1, 2, none⟩, .int .u8 (b2)), (⟨w.heap.size + 1, 3, none⟩, .int .u8 (b3))] (((v3.setCell ⟨w.heap.size + 1 + 1, 0, none⟩ (.int .i64 wd)).setCell ⟨w.heap.size + 1 + 1, 1, none⟩ (.int .i64 ht)).setCell ⟨w.heap.size + 1 + 1, 2, none⟩ (.slice sr N cr)) := by
   refine ⟨((hS.1.setCell (p := ⟨w.heap.size + 1 + 1, 0, none⟩) (by show w.heap.size ≤ w.heap.size + 1 + 1; omega) _).setCell (p := ⟨w.heap.size + 1 + 1, 1, none⟩) (by show w.heap.size ≤ w.heap.size + 1 + 1; omega) _).setCell (p := ⟨w.heap.size + 1 + 1, 2, none⟩) (by show w.heap.size ≤ w.heap.size + 1 + 1; omega) _, by have := hS.2.1; simpa using this, ?_⟩; have hc := hS.2.2; simp only [Cells] at hc ⊢; obtain ⟨c0, f0, c1, f1, c2, f2, c3, f3, c4, f4, c5, f5, _⟩ := hc
   have hne : ∀ (b o o' : Nat), b ≠ w.heap.size + 1 + 1 → (⟨b, o, none⟩ : Addr) ≠ ⟨w.heap.size + 1 + 1, o', none⟩ := fun b o o' hb e => by injection e with e; exact hb e
   refine ⟨?_, by simpa using f0, ?_, by simpa using f1, ?_, by simpa using f2, ?_, by simpa using f3, ?_, by simpa using f4, ?_, by simpa using f5, trivial⟩ <;> (rw [World.cell?_setCell_other _ _ _ _ (hne _ _ _ (by omega)).symm, World.cell?_setCell_other _ _ _ _ (hne _ _ _ (by omega)).symm, World.cell?_setCell_other _ _ _ _ (hne _ _ _ (by omega)).symm]; assumption)
  have hoZ := OwnsC.set_ne (OwnsC.set_ne (OwnsC.set_ne hown.out (b := w.heap.size + 1 + 1) (o := 0) (by omega) (.int .i64 wd)) (b := w.heap.size + 1 + 1) (o := 1) (by omega) (.int .i64 ht)) (b := w.heap.size + 1 + 1) (o := 2) (by omega) (.slice sr N cr); have HZ := Blk.put3 B7 rfl (.int .i64 wd) (.int .i64 ht) (.slice sr N cr); generalize ((v3.setCell ⟨w.heap.size + 1 + 1, 0, none⟩ (.int .i64 wd)).setCell ⟨w.heap.size + 1 + 1, 1, none⟩ (.int .i64 ht)).setCell ⟨w.heap.size + 1 + 1, 2, none⟩ (.slice sr N cr) = wZ at HZ hT hoZ ⊢; refine hK _ _ hT ?_; clear hK hS B7 yB7 hown
  (try simp only [pu])
  have hS := hT; clear hT
  (refine' hdo 12 hS ?_; simp only [pu])
  refine wpAnyH_done (by kernel_rfl) ?_ _; have jz0 := HZ.cell (o := 0) rfl; have jz1 := HZ.cell (o := 1) rfl; have jz2 := HZ.cell (o := 2) rfl; go_wp2; refine bodyPost_ret (v := .tuple #[.agg #[.int .i64 wd, .int .i64 ht, .slice sr N cr], .int .i64 0]) (by simp [results, Tryz.results13, go_sem, jz0, jz1, jz2]) rfl ⟨hS.1, _, rfl, own_less hoZ (by omega)⟩
end Go.Proofs.YtfcphagmjijmkaaGreatDoor
