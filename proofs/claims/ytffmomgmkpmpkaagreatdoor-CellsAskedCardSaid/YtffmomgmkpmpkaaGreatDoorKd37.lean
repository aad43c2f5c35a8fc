/-
  Cells: runs, plain; rows of runs.
-/
import Derived.Shelf.SlSortCmp.WholeK
import Derived.Shelf.Slices.CompactI
import Derived.Shelf.Slices.In.SortNone
import Derived.Shelf.Sort.Plain
import Derived.Sort.OwnSortedInts
import Derived.Test.YtffmomgmkpmpkaaGreatDoorProg
import Derived.Test.YtffmomgmkpmpkaaGreatDoorKd36
namespace Go.Proofs.YtffmomgmkpmpkaaGreatDoor
open Go.RowKit
set_option linter.unusedVariables false
attribute [local go_sem] vwp vUpon_value vUpon_skip vUpon_enter vUpon_row
set_option linter.unusedSimpArgs false
set_option linter.unusedVariables false
structure Rn where
  x : Int
  y : Int
  cells : List Ce
/-! ### plain -/
def dif (ls ms : List Ce) (k : Nat) : Bool := match ls[k]?, ms[k]? with
  | some a, some b => !(a.eqb b)
  | _, _ => false
theorem dif_at {ls ms : List Ce} {k : Nat} {a b : Ce} (ha : ls[k]? = some a) (hb : ms[k]? = some b) : dif ls ms k = !(a.eqb b) := by
  unfold dif; rw [ha, hb]
def rEnd (ls ms : List Ce) (P N : Nat) : Nat → Nat → Nat
  | 0, x => x
  | f + 1, x => if x < N ∧ dif ls ms (P + x) = true then rEnd ls ms P N f (x + 1) else x
theorem rEnd_bd (ls ms : List Ce) (P N : Nat) : ∀ f x, x ≤ rEnd ls ms P N f x ∧ (x ≤ N → rEnd ls ms P N f x ≤ N)
  | 0, x => ⟨Nat.le_refl _, id⟩
  | f + 1, x => by
    rw [rEnd]
    split
    · rename_i h
      have := rEnd_bd ls ms P N f (x + 1)
      exact ⟨by omega, fun _ => this.2 (by omega)⟩
    · exact ⟨Nat.le_refl _, id⟩
def runTo (ls ms : List Ce) (P N x : Nat) : Nat := rEnd ls ms P N (N - x) x
theorem rEnd_more (ls ms : List Ce) (P N : Nat) : ∀ (n m x : Nat), N - x ≤ n → N - x ≤ m → rEnd ls ms P N n x = rEnd ls ms P N m x
  | 0, 0, _, _, _ => rfl
  | 0, m + 1, x, h1, _ => by rw [rEnd, rEnd, if_neg (by omega)]
  | n + 1, 0, x, _, h2 => by rw [rEnd, rEnd, if_neg (by omega)]
  | n + 1, m + 1, x, h1, h2 => by
    rw [rEnd, rEnd]
    split
    · exact rEnd_more ls ms P N n m _ (by omega) (by omega)
    · rfl
theorem runTo_step {ls ms : List Ce} {P N x : Nat} (hx : x < N) (hd : dif ls ms (P + x) = true) : runTo ls ms P N x = runTo ls ms P N (x + 1) := by
  unfold runTo
  obtain ⟨n, hn⟩ : ∃ n, N - x = n + 1 := ⟨N - x - 1, by omega⟩
  rw [hn, rEnd, if_pos ⟨hx, hd⟩]
  exact rEnd_more _ _ _ _ _ _ _ (by omega) (Nat.le_refl _)
theorem runTo_stop {ls ms : List Ce} {P N x : Nat} (h : ¬ (x < N ∧ dif ls ms (P + x) = true)) : runTo ls ms P N x = x := by
  unfold runTo
  cases hn : N - x with
  | zero => rfl
  | succ n => rw [rEnd, if_neg h]
def runOne (ms : List Ce) (P y x e : Nat) : List Rn := if x < e then [⟨x, y, (ms.drop (P + x)).take (e - x)⟩] else []
def runAt (ls ms : List Ce) (P N y : Nat) : Nat → Nat → List Rn
  | 0, _ => []
  | f + 1, x => if x < N then runOne ms P y x (runTo ls ms P N x) ++ runAt ls ms P N y f (runTo ls ms P N x + 1) else []
theorem runAt_more (ls ms : List Ce) (P N y : Nat) : ∀ (n m x : Nat), N - x ≤ n → N - x ≤ m → runAt ls ms P N y n x = runAt ls ms P N y m x
  | 0, 0, _, _, _ => rfl
  | 0, m + 1, x, h1, _ => by rw [runAt, runAt, if_neg (by omega)]
  | n + 1, 0, x, _, h2 => by rw [runAt, runAt, if_neg (by omega)]
  | n + 1, m + 1, x, h1, h2 => by
    rw [runAt, runAt]
    have := (rEnd_bd ls ms P N (N - x) x).1
    split
    · rw [runAt_more ls ms P N y n m _ (by unfold runTo; omega) (by unfold runTo; omega)]
    · rfl
def runRow (ls ms : List Ce) (P N y x : Nat) : List Rn := runAt ls ms P N y (N - x) x
theorem runRow_step {ls ms : List Ce} {P N y x : Nat} (hx : x < N) : runRow ls ms P N y x = runOne ms P y x (runTo ls ms P N x) ++ runRow ls ms P N y (runTo ls ms P N x + 1) := by
  unfold runRow
  obtain ⟨n, hn⟩ : ∃ n, N - x = n + 1 := ⟨N - x - 1, by omega⟩
  have := (rEnd_bd ls ms P N (N - x) x).1
  rw [hn, runAt, if_pos hx, runAt_more ls ms P N y n _ _ (by unfold runTo; omega) (Nat.le_refl _)]
theorem runRow_end {ls ms : List Ce} {P N y x : Nat} (hx : ¬ x < N) : runRow ls ms P N y x = [] := by
  unfold runRow
  rw [show N - x = 0 by omega]; rfl
def runsGo (ls ms : List Ce) (N : Nat) : Nat → Nat → List Rn
  | 0, _ => []
  | n + 1, y => runRow ls ms (y * N) N y 0 ++ runsGo ls ms N n (y + 1)
def runsOk (wa ha : Int) (ls : List Ce) (wb hb : Int) (ms : List Ce) : Bool := (chkS wa ha ls == 0) && ((chkS wb hb ms == 0) && ((wa == wb) && (ha == hb)))
def runsE (wa ha : Int) (ls : List Ce) (wb hb : Int) (ms : List Ce) : Int := if runsOk wa ha ls wb hb ms then 0 else 150
def runsL (wa ha : Int) (ls : List Ce) (wb hb : Int) (ms : List Ce) : List Rn := if runsOk wa ha ls wb hb ms then runsGo ls ms wa.toNat ha.toNat 0 else []
/-! ### rows of runs -/
def encRn (p : Rn × Value) : List Value := [.int .i64 p.1.x, .int .i64 p.1.y, p.2]
theorem encRn_len (p : Rn × Value) : (encRn p).length = 3 := rfl
theorem infoRn : (Tryz.prog.info? 67).map (fun i => (i.zero, i.size, i.bytes)) = some (some (.agg #[.int .i64 0, .int .i64 0, .slice none 0 0]), 3, 40) := by kernel_rfl
/-- A row of runs, the cells of each in a block of its own, behind base. -/
def RunRows (base : Nat) (W : World) (v : Value) (l : List Rn) : Prop :=
  ∃ vs : List Value, vs.length = l.length ∧ W.ownsRow base 67 3 v l.length ((l.zip vs).flatMap encRn) ∧ (∀ (j : Nat) u r, vs[j]? = some u → l[j]? = some r → OwnsC base W u r.cells) ∧
    ∀ (i j : Nat) u u', i < j → vs[i]? = some u → vs[j]? = some u' → ∀ g, u.ownBlock = some g → u'.ownBlock ≠ some g
theorem RunRows.nil (base : Nat) (W : World) : RunRows base W (.slice none 0 0) [] := ⟨[], rfl, World.ownsRow_nil _ _ _ _, fun j u r h => by simp at h, fun i j u u' _ h => by simp at h⟩
theorem RunRows.below {W W' : World} {base B : Nat} {v : Value} {l : List Rn} (h : RunRows base W v l) (hb : Below B W W') (hB : W.heap.size ≤ B) : RunRows base W' v l := by
  obtain ⟨vs, hl, hr, hj, hd⟩ := h
  exact ⟨vs, hl, ownsRow_below hr hb hB, fun j u r h1 h2 => (hj j u r h1 h2).below hb hB, hd⟩
theorem RunRows.low {W : World} {base B : Nat} {v : Value} {l : List Rn} (h : RunRows base W v l) (hB : B ≤ base) : RunRows B W v l := by
  obtain ⟨vs, hl, hr, hj, hd⟩ := h
  exact ⟨vs, hl, own_low hr hB, fun j u r h1 h2 => own_low (hj j u r h1 h2) hB, hd⟩
/-- One run more. -/
theorem RunRows.snoc {W w' : World} {base : Nat} {v v' u : Value} {l : List Rn} {r : Rn} {vs : List Value} (hl : vs.length = l.length) (hj : ∀ (j : Nat) u r, vs[j]? = some u → l[j]? = some r → OwnsC base W u r.cells)
  (hd : ∀ (i j : Nat) u u', i < j → vs[i]? = some u → vs[j]? = some u' → ∀ g, u.ownBlock = some g → u'.ownBlock ≠ some g) (hr : W.ownsRow base 67 3 v l.length ((l.zip vs).flatMap encRn)) (hu : OwnsC base W u r.cells)
  (hnew : ∀ (i : Nat) u', vs[i]? = some u' → ∀ g, u'.ownBlock = some g → u.ownBlock ≠ some g)
  (hown : w'.ownsRow base 67 3 v' (l.length + 1) ((l.zip vs).flatMap encRn ++ encRn (r, u))) (hg : W.grownBy w' v.ownBlock) : RunRows base w' v' (l ++ [r]) := by
 have key : ∀ {u : Value} {cs : List Ce}, OwnsC base W u cs → OwnsC base w' u cs := fun h => by
  refine h.kept hg ?_
  rcases h.2 with ⟨rfl, _⟩ | ⟨b, cap, cur, rfl, _⟩
  ·exact .inl rfl
  ·exact .inr (fun e => own_apart h hr (by decide) b rfl e.symm)
 refine ⟨vs ++ [u], by simp [hl], ?_, fun j u' r' h1 h2 => ?_, fun i j u1 u2 hij h1 h2 => ?_⟩
 ·rw [List.zip_append (by rw [hl])]
  simpa using hown
 ·by_cases c : j < vs.length
  ·rw [List.getElem?_append_left c] at h1
   rw [List.getElem?_append_left (by omega)] at h2
   exact key (hj j u' r' h1 h2)
  ·by_cases c2 : j = vs.length
   ·subst c2
    rw [List.getElem?_append_right (Nat.le_refl _), Nat.sub_self] at h1
    rw [hl, List.getElem?_append_right (Nat.le_refl _), Nat.sub_self] at h2
    simp at h1 h2
    subst h1 h2
    exact key hu
   ·rw [List.getElem?_eq_none (by simp; omega)] at h1
    cases h1
 ·have hjl := (List.getElem?_eq_some_iff.1 h2).1
  rw [List.length_append, List.length_singleton] at hjl
  rw [List.getElem?_append_left (by omega)] at h1
  by_cases c : j < vs.length
  ·rw [List.getElem?_append_left c] at h2
   exact hd i j u1 u2 hij h1 h2
  ·obtain rfl : j = vs.length := by omega
   rw [List.getElem?_append_right (Nat.le_refl _), Nat.sub_self] at h2
   simp at h2
   subst h2
   exact hnew i u1 h1
/-- A piece of a row. -/
theorem Row.piece {α : Type} {B sz : Nat} {enc : α → List Value} {w : World} {g o n cap : Nat} {xs : List α} (he : ∀ x, (enc x).length = sz) (h : Row B sz enc w (.slice (some ⟨g, o, none⟩) n cap) xs) (hn : xs.length = n) (p m : Nat) (hp : p + m ≤ n) :
    Row B sz enc w (.slice (some ⟨g, o + p * sz, none⟩) m (cap - p)) ((xs.drop p).take m) := by
  obtain ⟨s, c, e, hlc, hcm, hx⟩ := h
  have hl : ((xs.drop p).take m).length = m := by rw [List.length_take, List.length_drop]; omega
  injection e with e1 e2 e3
  subst e1 e3
  refine ⟨_, cap - p, by rw [hl], by rw [hl]; omega, by omega, fun h0 => ?_⟩
  rw [hl] at h0
  obtain ⟨b, o', e, hb, hc⟩ := hx (by omega)
  injection e with e
  injection e with e1 e2
  subst e1 e2
  refine ⟨_, _, rfl, hb, fun j x hj i u hi => ?_⟩
  rw [List.getElem?_take] at hj
  split at hj
  · rw [List.getElem?_drop] at hj
    have := hc (p + j) x hj i u hi
    rwa [Nat.add_mul, ← Nat.add_assoc] at this
  · cases hj
def OutR (base : Nat) (er : Int) (l : List Rn) (w : World) (e : Ending) (w' : World) : Prop := Below base w w' ∧ ∃ v, e = .returned (.tuple #[v, .int .i64 er]) ∧ RunRows base w' v l
end Go.Proofs.YtffmomgmkpmpkaaGreatDoor

namespace Go.Proofs.YtffmomgmkpmpkaaGreatDoor
open Go.RowKit
set_option linter.unusedVariables false
attribute [local go_sem] vwp vUpon_value vUpon_skip vUpon_enter vUpon_row
set_option linter.unusedSimpArgs false
set_option linter.unusedVariables false
def wholeC (c d : Ce) : Bool := pairC c d && (c.col.eqb d.col && c.back.eqb d.back)
def escCells : List UInt8 → Co → Co → List Ce → Option (List UInt8 × Co × Co)
  | o, x, y, [] => some (o, x, y)
  | o, x, y, [c] => if 1048576 < (o ++ cellL x y c false).length then none else some (o ++ cellL x y c false, c.col, c.back)
  | o, x, y, c :: d :: r =>
    if 1048576 < (o ++ cellL x y c (wholeC c d)).length then none
    else if wholeC c d then escCells (o ++ cellL x y c true) c.col c.back r else escCells (o ++ cellL x y c false) c.col c.back (d :: r)
def escRuns : List UInt8 → Co → Co → List Rn → Option (List UInt8)
  | o, _, _, [] => some o
  | o, x, y, r :: rs => match escCells (o ++ escL 72 [r.y + 1, r.x + 1]) x y r.cells with
    | none => none
    | some (o', x', y') => escRuns o' x' y' rs
def runOkC (r : Rn) : Bool := !(r.cells.length == 0) && (r.cells.all mayC && (decide (0 ≤ r.x) && (decide (0 ≤ r.y) && (decide (r.x < 16384) && decide (r.y < 16384)))))
def Co.zero : Co := ⟨0, 0, 0, 0⟩
def escR (l : List Rn) : Option (List UInt8) × Int :=
  if 262144 < l.length then (none, 4) else if l.all runOkC then (match escRuns [] Co.zero Co.zero l with | none => (none, 4) | some o => (some o, 0)) else (none, 150)
def escT (l : List Rn) : ByteArray := match (escR l).1 with | none => ⟨#[]⟩ | some o => ⟨o.toArray⟩
def escE (l : List Rn) : Int := (escR l).2
theorem cellL_len {x y : Co} {c : Ce} {wh : Bool} (hc : c.Wf) : (cellL x y c wh).length ≤ 300 := by
  have h1 := dipL_len (n := 38) (t := x) (c := c.col) (by unfold I64; omega) hc.2.1
  have h2 := dipL_len (n := 48) (t := y) (c := c.back) (by unfold I64; omega) hc.2.2
  have h3 := enc_len4 c.rune
  have h4 : (markL c wh).length ≤ 1 := by unfold markL; split; · simp
                                          · split <;> simp
  unfold cellL
  rw [List.length_append, List.length_append, List.length_append]
  omega
/-! ### runs as arguments -/
def RnWf (r : Rn) : Prop := I64 r.x ∧ I64 r.y ∧ CeL r.cells
/-- A row of runs below B, the rows of their cells below B too. -/
def RunsAt (B : Nat) (w : World) (v : Value) (l : List Rn) : Prop := ∃ ps : List (Rn × Value), ps.map Prod.fst = l ∧ Row B 3 encRn w v ps ∧ ∀ p ∈ ps, Row B 11 Ce.enc w p.2 p.1.cells
theorem RunsAt.below {B : Nat} {w w' : World} {v : Value} {l : List Rn} (h : RunsAt B w v l) (hb : Below B w w') : RunsAt B w' v l := by
  obtain ⟨ps, h1, h2, h3⟩ := h
  exact ⟨ps, h1, h2.below hb, fun p hp => (h3 p hp).below hb⟩
theorem RunsAt.mono {B B' : Nat} {w : World} {v : Value} {l : List Rn} (h : RunsAt B w v l) (hB : B ≤ B') : RunsAt B' w v l := by
  obtain ⟨ps, h1, h2, h3⟩ := h
  exact ⟨ps, h1, h2.mono hB, fun p hp => (h3 p hp).mono hB⟩
theorem RunsAt.shape {B : Nat} {w : World} {v : Value} {l : List Rn} (h : RunsAt B w v l) : ∃ s cap, v = .slice s l.length cap ∧ l.length ≤ maxLen := by
  obtain ⟨ps, h1, h2, h3⟩ := h
  obtain ⟨s, cap, e, hm⟩ := h2.shape
  have : ps.length = l.length := by rw [← h1, List.length_map]
  rw [this] at e hm
  exact ⟨s, cap, e, hm⟩
theorem RunsAt.open_ {B : Nat} {w : World} {v : Value} {l : List Rn} (h : RunsAt B w v l) (h0 : 0 < l.length) :
    ∃ g o cap, v = .slice (some ⟨g, o, none⟩) l.length cap ∧ g < B ∧ l.length ≤ cap ∧ cap ≤ maxLen ∧ ∀ (j : Nat) r, l[j]? = some r → ∃ s k, w.cell? ⟨g, o + j * 3, none⟩ = some (.int .i64 r.x) ∧ w.cell? ⟨g, o + j * 3 + 1, none⟩ = some (.int .i64 r.y) ∧
      w.cell? ⟨g, o + j * 3 + 2, none⟩ = some (.slice s r.cells.length k) ∧ Row B 11 Ce.enc w (.slice s r.cells.length k) r.cells := by
  obtain ⟨ps, h1, h2, h3⟩ := h
  have hl : ps.length = l.length := by rw [← h1, List.length_map]
  obtain ⟨g, o, cap, hv, hg, hc, hm, hx⟩ := h2.open_ (by omega)
  rw [hl] at hv hc
  refine ⟨g, o, cap, hv, hg, hc, hm, fun j r hj => ?_⟩
  rw [← h1, List.getElem?_map] at hj
  cases hp : ps[j]? with
  | none => rw [hp] at hj; cases hj
  | some p =>
    rw [hp] at hj
    have e : p.1 = r := by simpa using hj
    have hr := h3 p (List.mem_of_getElem? hp)
    obtain ⟨s, k, hs, _⟩ := hr.shape
    rw [e] at hr hs
    rw [hs] at hr
    refine ⟨s, k, ?_, ?_, ?_, hr⟩
    · rw [← e]; exact hx j p hp 0 _ rfl
    · rw [← e]; exact hx j p hp 1 _ rfl
    · rw [← hs]; exact hx j p hp 2 _ rfl
theorem allR_step {l : List Rn} {k : Nat} {c : Rn} (h : l[k]? = some c) : (l.drop k).all runOkC = (runOkC c && (l.drop (k + 1)).all runOkC) := by
  rw [drop_get h]; rfl
end Go.Proofs.YtffmomgmkpmpkaaGreatDoor
