/-
  Cells: a terminal reads a cell's rune.
-/
import Derived.Laws.CopyOwn
import Derived.Laws.CopyRow
import Derived.Laws.IdiomCopy
import Derived.Test.YtffmomgmkpmpkaaGreatDoorProg
import Derived.Test.YtffmomgmkpmpkaaGreatDoorKd13
import Derived.Test.YtffmomgmkpmpkaaGreatDoorKd14
import Derived.Test.YtffmomgmkpmpkaaGreatDoorKd16
namespace Go.Proofs.YtffmomgmkpmpkaaGreatDoor
open Go.RowKit
set_option linter.unusedVariables false
attribute [local go_sem] vwp vUpon_value vUpon_skip vUpon_enter vUpon_row
set_option linter.unusedSimpArgs false
set_option linter.unusedVariables false
/-- copy, at elements of any size, onto a row known whole. -/
theorem run_copy_rows {P : Program} (w : World) (dT sT ty elem : TypeId) (sz g o dLen dCap : Nat) (a : Addr) (sLen sCap : Nat) (cur : Array Value) (t : TypeId) (cs : List Value)
    (hu : P.underlying dT = some (.slice elem)) (hs : (P.info? elem).map (·.size) = some sz)
    (hg : w.heap[g]? = some (.cells cur t (0, 0))) (hn : cs.length = Nat.min sLen dLen * sz)
    (hsrc : ∀ j v, cs[j]? = some v → w.cell? (a.add j) = some v) (hfit : o + cs.length ≤ cur.size) (h1 : ∀ v ∈ cs, v.oneCell' = true) :
    (Builtin.copy_ #[dT, sT] ty #[.slice (some ⟨g, o, none⟩) dLen dCap, .slice (some a) sLen sCap]).run P w =
      .ok (goInt (Nat.min sLen dLen : Nat)) (w.setRow g (cur.toList.take o ++ cs ++ cur.toList.drop (o + cs.length)).toArray) := by
  have hl := run_loadCells_list (P := P) w a cs hsrc
  have hst := run_storeCells_at P g o t cs 0 cur w hg (by simpa using hfit) h1
  rw [hn] at hl
  cases hq : P.info? elem with
  | none => simp [hq] at hs
  | some i =>
    have hi : i.size = sz := by simpa [hq] using hs
    simp [Builtin.copy_, run_underlying hu, Builtin.lenOf, Builtin.firstCells, sizeOf, typeInfo, hq, hi, hl, hst]
theorem flat_one2 {α : Type} {enc : α → List Value} {xs : List α} (h : ∀ y, ∀ u ∈ enc y, u.oneCell' = true) : ∀ u ∈ xs.flatMap enc, u.oneCell' = true := by
  intro u hu
  obtain ⟨y, _, hy⟩ := List.mem_flatMap.1 hu
  exact h y u hy
theorem sizeCe2 : (Tryz.prog.info? 52).map (·.size) = some 11 := by kernel_rfl
theorem addr_add (g o j : Nat) : (⟨g, o, none⟩ : Addr).add j = ⟨g, o + j, none⟩ := by
  unfold Addr.add
  split
  · rename_i h; rw [h, Nat.add_zero]
  · rfl
/-- The library's tables that the decoder reads lie in this world. -/
def DecT (w : World) : Prop := Lib.Utf8Tabs (Tryz.lays197_ren.g 3) (Tryz.lays197_ren.g 4) w
theorem DecT.below {w w' : World} {B : Nat} (h : DecT w) (hb : Below B w w') (hB : w.heap.size ≤ B) : DecT w' := by
  unfold DecT Lib.Utf8Tabs at *
  refine ⟨fun c hc => ?_, fun i hi => ⟨?_, ?_⟩⟩
  · have h1 := h.1 c hc
    have := World.block_lt_of_cell? w _ h1
    exact (hb.cell (by show _ < B; omega)).trans h1
  · have h1 := (h.2 i hi).1
    have := World.block_lt_of_cell? w _ h1
    exact (hb.cell (by show _ < B; omega)).trans h1
  · have h1 := (h.2 i hi).2
    have := World.block_lt_of_cell? w _ h1
    exact (hb.cell (by show _ < B; omega)).trans h1
theorem KeptBut.setRow {X : Nat → Prop} {A B : World} (h : KeptBut X A B) (g : Nat) (cs : Array Value) (hg : X g) : KeptBut X A (B.setRow g cs) :=
  h.trans ⟨rfl, rfl, rfl, by simp, fun k _ hx => setRow_other B g k cs (fun e => hx (e ▸ hg))⟩
theorem Blk.setRow_ne {w : World} {b g : Nat} {cs : List Value} {t : TypeId} (h : Blk w b cs t) (hg : b ≠ g) (rs : Array Value) : Blk (w.setRow g rs) b cs t := (setRow_other w g b rs hg).trans h
theorem flatC_take (cs : List Ce) (i : Nat) : (cs.flatMap Ce.enc).take (i * 11) = (cs.take i).flatMap Ce.enc := by
  induction cs generalizing i with
  | nil => simp
  | cons c r ih =>
    cases i with
    | zero => simp
    | succ i =>
      rw [List.flatMap_cons, List.take_succ_cons, List.flatMap_cons, ← ih i, Nat.add_mul, Nat.one_mul, Nat.add_comm (i * 11) 11, ← Ce.enc_len c, List.take_length_add_append]
theorem flatC_drop (cs : List Ce) (i : Nat) : (cs.flatMap Ce.enc).drop (i * 11) = (cs.drop i).flatMap Ce.enc := by
  induction cs generalizing i with
  | nil => simp
  | cons c r ih =>
    cases i with
    | zero => simp
    | succ i =>
      rw [List.flatMap_cons, List.drop_succ_cons, ← ih i, Nat.add_mul, Nat.one_mul, Nat.add_comm (i * 11) 11, ← Ce.enc_len c, List.drop_length_add_append]
/-- A row of cells, opened. -/
theorem OwnsC.open_ {base : Nat} {w : World} {v : Value} {cs : List Ce} (h : OwnsC base w v cs) (h0 : 0 < cs.length) :
    ∃ g cap cur, v = .slice (some ⟨g, 0, none⟩) cs.length cap ∧ base ≤ g ∧ w.heap[g]? = some (.cells cur 52 (0, 0)) ∧ cs.length ≤ cap ∧ cap ≤ maxLen ∧ cap * 11 = cur.size ∧ cur.toList.take (cs.length * 11) = cs.flatMap Ce.enc := by
  rcases h.2 with ⟨_, h1⟩ | ⟨g, cap, cur, hv, hb, hg, hc, hm, hs, ht⟩
  · omega
  · exact ⟨g, cap, cur, hv, hb, hg, hc, hm, by first | exact hs | exact hs.symm | omega, ht⟩
/-- Cells laid over a row. -/
theorem OwnsC.splice {base : Nat} {w : World} {g cap : Nat} {cur : Array Value} {cs p : List Ce} {i : Nat} (hb : base ≤ g) (hg : w.heap[g]? = some (.cells cur 52 (0, 0))) (hc : cs.length ≤ cap) (hm : cap ≤ maxLen) (hs : cap * 11 = cur.size)
  (ht : cur.toList.take (cs.length * 11) = cs.flatMap Ce.enc) (hi : i + p.length ≤ cs.length) :
  OwnsC base (w.setRow g (cur.toList.take (i * 11) ++ p.flatMap Ce.enc ++ cur.toList.drop (i * 11 + (p.flatMap Ce.enc).length)).toArray) (.slice (some ⟨g, 0, none⟩) cs.length cap) (splC cs i p) := by
 have hpl : (p.flatMap Ce.enc).length = p.length * 11 := by rw [flat_len Ce.enc_len]
 have hcl : cur.toList.length = cap * 11 := by rw [hs]; simp
 have e1 : cur.toList.take (i * 11) = (cs.take i).flatMap Ce.enc := by
  rw [← flatC_take, ← ht, List.take_take, Nat.min_eq_left (by omega)]
 have e2 : (cur.toList.drop (i * 11 + p.length * 11)).take (cs.length * 11 - (i * 11 + p.length * 11)) = (cs.drop (i + p.length)).flatMap Ce.enc := by
  rw [← flatC_drop, ← ht, Nat.add_mul, List.drop_take]
 have hl : (splC cs i p).length = cs.length := splC_len hi
 unfold OwnsC
 rw [hl]
 refine ⟨by rw [flat_len Ce.enc_len, hl], .inr ⟨g, cap, _, rfl, hb, setRow_heap w g cur _ _ _ hg, hc, hm, ?_, ?_⟩⟩
 ·simp only [List.size_toArray, List.length_append, List.length_take, List.length_drop, hpl, hcl]
  have : i * 11 + p.length * 11 ≤ cap * 11 := by omega
  omega
 ·rw [List.toList_toArray, hpl]
  have hli : (cur.toList.take (i * 11) ++ p.flatMap Ce.enc).length = i * 11 + p.length * 11 := by rw [List.length_append, List.length_take, hpl, hcl]; omega
  rw [List.take_append, hli, List.take_of_length_le (by rw [hli]; omega), e2, e1]
  unfold splC
  rw [List.flatMap_append, List.flatMap_append]
/-- What a step with a rune gives. -/
def cellN (r : Option (List Ce × Tm × Nat)) : Int := match r with | none => 0 | some (_, _, n) => n
def cellC (cs : List Ce) (r : Option (List Ce × Tm × Nat)) : List Ce := match r with | none => cs | some (c, _, _) => c
def cellT (t : Tm) (r : Option (List Ce × Tm × Nat)) : Tm := match r with | none => t | some (_, t', _) => t'
/-- The terminal's block, its cells; what is not theirs stays. -/
def TmO (base b : Nat) (wd ht : Int) (v : Value) (cs : List Ce) (t : Tm) (w : World) : Prop := Blk w b (tmC wd ht v t) 97 ∧ OwnsC base w v cs
theorem wid3 (r : Int) : widR r = 0 ∨ widR r = 1 ∨ widR r = 2 := by have := widR_bd r; omega
theorem cellP_eq (wd ht : Int) (cs : List Ce) (t : Tm) (c : UInt8) (r : List UInt8) : cellP wd ht cs t (c :: r) =
    if (Lib.decodeGo (strL ((c :: r).drop (skipP c)))).1 = 65533 ∧ (Lib.decodeGo (strL ((c :: r).drop (skipP c)))).2 < 3 then none else
    if putL (halfP c) (Lib.decodeGo (strL ((c :: r).drop (skipP c)))).1 t.col t.back = [] ∨ plcS wd ht t.x t.y = false ∨ wd - t.x < (putL (halfP c) (Lib.decodeGo (strL ((c :: r).drop (skipP c)))).1 t.col t.back).length then none
    else some (splC cs (t.y * wd + t.x).toNat (putL (halfP c) (Lib.decodeGo (strL ((c :: r).drop (skipP c)))).1 t.col t.back), { t with x := t.x + (putL (halfP c) (Lib.decodeGo (strL ((c :: r).drop (skipP c)))).1 t.col t.back).length }, skipP c + (Lib.decodeGo (strL ((c :: r).drop (skipP c)))).2) := rfl
theorem strL_get (c : UInt8) (r : List UInt8) : bAt (strL (c :: r)) 0 = c.toNat := by
  rw [← bAt_eq (s := strL (c :: r)) (i := 0) (by rw [strL_size]; simp)]
  simp [strL]
  rfl
end Go.Proofs.YtffmomgmkpmpkaaGreatDoor
