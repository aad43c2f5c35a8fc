/-
  Rows of elements of any size in memory: read, kept, opened out of what comes in.
-/
import Derived.ChangeSame
import Derived.Deep.Fields
import Derived.Deep.RegionHeld3
import Derived.Deep.Slices
import Derived.Laws.EntriesVeiled
import Derived.Laws.MakeOwn
import Derived.Laws.OwnMore
import Derived.Lib.Hide
import Derived.Lib.SmallJoins
import Derived.Maps.AppendAt
import Derived.OneCell
import Derived.WalkLawsBesides
import Derived.WalkSpells
import Derived.Test.YtffmomgmkpmpkaaGreatDoorProg
import Derived.Test.YtffmomgmkpmpkaaGreatDoorKd1
namespace Go.Proofs.YtffmomgmkpmpkaaGreatDoor
open Go Go.RowKit Go.ChangeShapes Go.WideShapes Go.Deep Go.Joins
set_option linter.unusedVariables false
set_option linter.unusedSimpArgs false
def U8 (x : Int) : Prop := 0 ≤ x ∧ x ≤ 255
theorem u8_of {x : Int} (h : (Lit.int .u8 x).wf = true) : U8 x := by
  have : 0 ≤ x ∧ x ≤ 255 := by simpa [Lit.wf, IntKind.min, IntKind.max, IntKind.signed, IntKind.bits] using h
  exact this
def I64 (x : Int) : Prop := -9223372036854775808 ≤ x ∧ x ≤ 9223372036854775807
theorem i64_of {x : Int} (h : (Lit.int .i64 x).wf = true) : I64 x := by
  have : -9223372036854775808 ≤ x ∧ x ≤ 9223372036854775807 := by simpa [Lit.wf, IntKind.min, IntKind.max, IntKind.signed, IntKind.bits] using h
  exact this
section
variable {α : Type}
/-- 'v' is a slice that reads as 'xs', each of 'sz' cells; its block lies below B. -/
def Row (B sz : Nat) (enc : α → List Value) (w : World) (v : Value) (xs : List α) : Prop :=
  ∃ s cap, v = .slice s xs.length cap ∧ xs.length ≤ cap ∧ cap ≤ maxLen ∧ (0 < xs.length → ∃ b o, s = some ⟨b, o, none⟩ ∧ b < B ∧ ∀ j x, xs[j]? = some x → ∀ i u, (enc x)[i]? = some u → w.cell? ⟨b, o + j * sz + i, none⟩ = some u)
theorem Row.below {B sz : Nat} {enc : α → List Value} {w w' : World} {v : Value} {xs : List α} (h : Row B sz enc w v xs) (hb : Below B w w') : Row B sz enc w' v xs := by
  obtain ⟨s, cap, hv, hl, hc, h⟩ := h
  refine ⟨s, cap, hv, hl, hc, fun h0 => ?_⟩
  obtain ⟨b, o, hs, hlt, hx⟩ := h h0
  exact ⟨b, o, hs, hlt, fun j x hj i u hi => (hb.cell (p := ⟨b, _, none⟩) hlt).trans (hx j x hj i u hi)⟩
theorem Row.mono {B B' sz : Nat} {enc : α → List Value} {w : World} {v : Value} {xs : List α} (h : Row B sz enc w v xs) (hB : B ≤ B') : Row B' sz enc w v xs := by
  obtain ⟨s, cap, hv, hl, hc, h⟩ := h
  refine ⟨s, cap, hv, hl, hc, fun h0 => ?_⟩
  obtain ⟨b, o, hs, hlt, hx⟩ := h h0
  exact ⟨b, o, hs, by omega, hx⟩
/-- Opened: its address, and the cells of each element. -/
theorem Row.open_ {B sz : Nat} {enc : α → List Value} {w : World} {v : Value} {xs : List α} (h : Row B sz enc w v xs) (h0 : 0 < xs.length) :
    ∃ b o cap, v = .slice (some ⟨b, o, none⟩) xs.length cap ∧ b < B ∧ xs.length ≤ cap ∧ cap ≤ maxLen ∧ ∀ j x, xs[j]? = some x → ∀ i u, (enc x)[i]? = some u → w.cell? ⟨b, o + j * sz + i, none⟩ = some u := by
  obtain ⟨s, cap, hv, hl, hc, h⟩ := h
  obtain ⟨b, o, rfl, hlt, hx⟩ := h h0
  exact ⟨b, o, cap, hv, hlt, hl, hc, hx⟩
theorem Row.shape {B sz : Nat} {enc : α → List Value} {w : World} {v : Value} {xs : List α} (h : Row B sz enc w v xs) : ∃ s cap, v = .slice s xs.length cap ∧ xs.length ≤ maxLen := by
  obtain ⟨s, cap, hv, hl, hc, h⟩ := h
  exact ⟨s, cap, hv, by omega⟩
/-- What the call itself made is such a row. -/
theorem Row.own {B base sz : Nat} {e : TypeId} {enc : α → List Value} {w : World} {v : Value} {xs : List α} (he : ∀ x, (enc x).length = sz) (h : w.ownsRow base e sz v xs.length (xs.flatMap enc)) (hB : w.heap.size ≤ B) (hsz : 0 < sz) : Row B sz enc w v xs := by
 obtain ⟨hl, h2⟩ := h
 rcases h2 with ⟨rfl, h0⟩ | ⟨g, cap, cur, rfl, hg, hh, hnc, hcm, hcur, htake⟩
 ·refine ⟨none, 0, by rw [h0], by omega, by unfold maxLen; omega, fun h => by omega⟩
 ·have hlt : g < w.heap.size := by
   rcases Nat.lt_or_ge g w.heap.size with h | h
   ·exact h
   ·rw [Array.getElem?_eq_none h] at hh; cases hh
  refine ⟨_, cap, rfl, hnc, hcm, fun h0 => ⟨g, 0, rfl, by omega, fun j x hj i u hi => ?_⟩⟩
  have hil : i < sz := by rw [← he x]; exact (List.getElem?_eq_some_iff.1 hi).1
  have hjl := (List.getElem?_eq_some_iff.1 hj).1
  have key : ∀ (xs : List α) (j : Nat), xs[j]? = some x → (xs.flatMap enc)[j * sz + i]? = some u := by
   intro xs
   induction xs with
   | nil => intro j hj; simp at hj
   | cons y ys ih =>
    intro j hj
    rw [List.flatMap_cons]
    cases j with
    | zero =>
     simp at hj; subst hj
     rw [List.getElem?_append_left (by rw [he]; omega)]
     simpa using hi
    | succ j =>
     rw [List.getElem?_append_right (by rw [he, Nat.add_mul]; omega), he, show (j + 1) * sz + i - sz = j * sz + i by rw [Nat.add_mul]; omega]
     exact ih j (by simpa using hj)
  have hk := key xs j hj
  have hlen : j * sz + i < xs.length * sz := by
   have : (j + 1) * sz ≤ xs.length * sz := Nat.mul_le_mul_right _ hjl
   rw [Nat.add_mul] at this; omega
  rw [← htake, List.getElem?_take, if_pos hlen] at hk
  simp only [World.cell?, hh, Nat.zero_add]
  simpa using hk
end
theorem add_lit (b o k : Nat) : (⟨b, o, none⟩ : Addr).add k = ⟨b, o + k, none⟩ := by unfold Addr.add; split <;> simp_all
section
variable {H : Type} {enc : TypeId × Value → H} {P : Program} {w : World} {base : Nat} {spare : Nat → Bool} {held : Bool}
/-- A slice that came in, whatever its elements are: 'dec' says how the cells of one read. -/
theorem open_row {α : Type} [Inhabited α] {Ok : α → Prop} {sz : Nat} {encA : α → List Value} {r : Reach} {b0 : Nat} {t e : TypeId} {v : Value} {d : DataW H} {p : List MemPlace} (ht : P.underlying t = some (.slice e)) (hC : P.cellsOf e = sz) (hsz : 0 < sz)
  (dec : ∀ (n : Nat) (cs : List Value) (y : DataW H × List MemPlace), cs.length = sz → DataW.trod enc P w base spare held n e cs = some y → ∃ x, Ok x ∧ cs = encA x)
  (hv : Value.okWide P w r b0 t v) (h : DataW.Trod enc P w base spare held t v d p) :
  ∃ xs : List α, Row w.heap.size sz encA w v xs ∧ ∀ x ∈ xs, Ok x := by
 obtain ⟨a, len, cap, rfl⟩ := okWide_slice ht hv
 obtain ⟨fuel, hf⟩ := h
 rcases open_slice ht (by simpa [Value.cells] using hf) with ⟨h0, _⟩ | ⟨a', len', cap', m, n, D, Pl, hcs, hb, hl, hm, hmm, hx, hi⟩
 ·simp at h0
  obtain ⟨rfl, rfl, rfl⟩ := h0
  exact ⟨[], ⟨none, 0, rfl, by simp, by unfold maxLen; omega, fun h => by simp at h⟩, by simp⟩
 ·simp at hcs
  obtain ⟨rfl, rfl, rfl⟩ := hcs
  have hlm : len ≤ m := by rw [hmm]; split <;> omega
  have each : ∀ i, i < len → ∃ x : α, Ok x ∧ ∀ k u, (encA x)[k]? = some u → w.cell? ((a'.add (i * sz)).add k) = some u := by
   intro i hil
   obtain ⟨cs', hc, ht'⟩ := hi i (by omega)
   rw [hC] at hc
   obtain ⟨_, hcl, hat⟩ := World.cells?_some hc
   obtain ⟨x, hok, rfl⟩ := dec _ _ _ hcl ht'
   refine ⟨x, hok, fun k u hk => ?_⟩
   have hkl : k < sz := by rw [← hcl]; exact (List.getElem?_eq_some_iff.1 hk).1
   rw [hat k hkl, hk]
  obtain ⟨V, hV⟩ := choose_lt (α := α) (p := fun i x => Ok x ∧ ∀ k u, (encA x)[k]? = some u → w.cell? ((a'.add (i * sz)).add k) = some u) each
  refine ⟨(List.range len).map V, ⟨some a', cap, by simp, by simpa using hl, hm, fun h0 => ?_⟩, fun x hx => ?_⟩
  ·simp only [List.length_map, List.length_range] at h0
   obtain ⟨cs', hc, ht'⟩ := hi 0 (by omega)
   rw [hC] at hc
   obtain ⟨_, hcl, hat⟩ := World.cells?_some hc
   have h1 := hat 0 hsz
   rw [Nat.zero_mul] at h1
   obtain ⟨b, o, x⟩ := a'
   cases x with
   | some x =>
    exfalso
    have e0 : ((⟨b, o, some x⟩ : Addr).add 0).add 0 = ⟨b, o, some x⟩ := rfl
    rw [e0] at h1
    have : cs'[0]? = some (cs'[0]'(by omega)) := List.getElem?_eq_getElem (by omega)
    rw [this] at h1
    simp only [World.cell?] at h1
    split at h1 <;> simp at h1
   | none =>
    refine ⟨b, o, rfl, ?_, fun j x hj i u hi' => ?_⟩
    ·have : cs'[0]? = some (cs'[0]'(by omega)) := List.getElem?_eq_getElem (by omega)
     rw [this] at h1
     exact World.block_lt_of_cell? _ _ h1
    ·obtain ⟨hj', e⟩ := List.getElem?_eq_some_iff.1 hj
     simp at hj' e
     subst e
     have := (hV j hj').2 i u hi'
     rw [add_lit, add_lit] at this
     exact this
  ·obtain ⟨j, hj, rfl⟩ := List.mem_map.1 hx
   exact (hV j (List.mem_range.1 hj)).1
end
/-- Integers. -/
def encI (n : Int) : List Value := [.int .i64 n]
end Go.Proofs.YtffmomgmkpmpkaaGreatDoor

namespace Go.Proofs.YtffmomgmkpmpkaaGreatDoor
open Go Go.RowKit
set_option linter.unusedVariables false
set_option linter.unusedSimpArgs false
/-- Block b holds just these cells, none of them frozen. -/
def Blk (w : World) (b : Nat) (cs : List Value) (e : TypeId) : Prop := w.heap[b]? = some (.cells cs.toArray e (0, 0))
section
variable {w w' : World} {b : Nat} {cs : List Value} {e : TypeId}
theorem Blk.lt (h : Blk w b cs e) : b < w.heap.size := lt_of_block h
theorem Blk.cell (h : Blk w b cs e) {o : Nat} {v : Value} (ho : cs[o]? = some v) : w.cell? ⟨b, o, none⟩ = some v := by
  unfold Blk at h
  simp only [World.cell?, h]
  simpa using ho
theorem Blk.free (h : Blk w b cs e) (o : Nat) : w.frozen? ⟨b, o, none⟩ = false := by unfold Blk at h; simp [World.frozen?, h]
theorem Blk.set (h : Blk w b cs e) (o : Nat) (u : Value) : Blk (w.setCell ⟨b, o, none⟩ u) b (cs.set o u) e := by
  unfold Blk at *
  rw [heap_setCell_same _ _ _ _ _ _ h]
  simp
theorem Blk.set_ne (h : Blk w b cs e) {a : Addr} (ha : b ≠ a.block) (u : Value) : Blk (w.setCell a u) b cs e := by
  unfold Blk at *
  rw [heap_setCell_other _ _ _ _ ha]; exact h
theorem Blk.alloc (h : Blk w b cs e) (ob : Obj) : Blk (w.alloc ob) b cs e := by
  have hl := h.lt
  unfold Blk at *
  rw [← h]
  show (w.heap.push ob)[b]? = _
  rw [Array.getElem?_push, if_neg (by omega)]
theorem Blk.drew (h : Blk w b cs e) : Blk w.drew b cs e := h
theorem Blk.new (w : World) (cs : List Value) (e : TypeId) : Blk (w.alloc (.cells cs.toArray e)) w.heap.size cs e := by
  unfold Blk
  show (w.heap.push _)[w.heap.size]? = _
  simp
theorem Blk.below (h : Blk w b cs e) {B : Nat} (hb : Below B w w') (hB : b < B) : Blk w' b cs e := (hb.block b hB).trans h
theorem Blk.new' {w : World} {b : Nat} {cs : List Value} {e : TypeId} (h : b = w.heap.size) : Blk (w.alloc (.cells cs.toArray e)) b cs e := by subst h; exact Blk.new _ _ _
/-- What it is good for, as a row. -/
theorem Blk.row {α : Type} {enc : α → List Value} {xs : List α} {sz cap : Nat} (he : ∀ x, (enc x).length = sz) (h : Blk w b cs e) (hc : cs.take (xs.length * sz) = xs.flatMap enc) (hcap : xs.length ≤ cap) (hm : cap ≤ maxLen) {B : Nat} (hB : b < B) :
    Row B sz enc w (.slice (some ⟨b, 0, none⟩) xs.length cap) xs := by
  refine ⟨_, cap, rfl, hcap, hm, fun h0 => ⟨b, 0, rfl, hB, fun j x hj i u hi => ?_⟩⟩
  have hil : i < sz := by rw [← he x]; exact (List.getElem?_eq_some_iff.1 hi).1
  have hjl := (List.getElem?_eq_some_iff.1 hj).1
  have key : ∀ (xs : List α) (j : Nat), xs[j]? = some x → (xs.flatMap enc)[j * sz + i]? = some u := by
    intro xs
    induction xs with
    | nil => intro j hj; simp at hj
    | cons y ys ih =>
      intro j hj
      rw [List.flatMap_cons]
      cases j with
      | zero =>
        simp at hj; subst hj
        rw [List.getElem?_append_left (by rw [he]; omega)]
        simpa using hi
      | succ j =>
        rw [List.getElem?_append_right (by rw [he, Nat.add_mul]; omega), he, show (j + 1) * sz + i - sz = j * sz + i by rw [Nat.add_mul]; omega]
        exact ih j (by simpa using hj)
  have hk := key xs j hj
  have hlen : j * sz + i < xs.length * sz := by
    have : (j + 1) * sz ≤ xs.length * sz := Nat.mul_le_mul_right _ hjl
    rw [Nat.add_mul] at this; omega
  rw [← hc, List.getElem?_take, if_pos hlen] at hk
  exact h.cell (by simpa using hk)
end
end Go.Proofs.YtffmomgmkpmpkaaGreatDoor

namespace Go.Proofs.YtffmomgmkpmpkaaGreatDoor
open Go Go.RowKit
set_option linter.unusedVariables false
set_option linter.unusedSimpArgs false
theorem own_keep {w w' : World} {base : Nat} {ob : Option Nat} {e : TypeId} {size n : Nat} {v : Value} {xs : List Value} (h : w.ownsRow base e size v n xs) (hg : w.grownBy w' ob) (hr : ∀ g, v.ownBlock = some g → ob ≠ some g) : w'.ownsRow base e size v n xs := by
  obtain ⟨h1, h2⟩ := h
  refine ⟨h1, ?_⟩
  rcases h2 with h2 | ⟨g, cap, cur, rfl, hgb, hh, r'⟩
  · exact .inl h2
  · exact .inr ⟨g, cap, cur, rfl, hgb, by rw [hg.block g (Go.lt_of_block hh) (fun e => hr g (by simp [Value.ownBlock]) e.symm)]; exact hh, r'⟩
theorem own_less {w : World} {base B : Nat} {e : TypeId} {size n : Nat} {v : Value} {xs : List Value} (h : w.ownsRow base e size v n xs) (hB : B ≤ base) : w.ownsRow B e size v n xs := by
  obtain ⟨h1, h2⟩ := h
  refine ⟨h1, ?_⟩
  rcases h2 with h2 | ⟨g, cap, cur, hv, hg, r⟩
  · exact .inl h2
  · exact .inr ⟨g, cap, cur, hv, by omega, r⟩
theorem own_in {w : World} {base : Nat} {e : TypeId} {size n : Nat} {v : Value} {xs : List Value} (h : w.ownsRow base e size v n xs) : ∀ g, v.ownBlock = some g → base ≤ g ∧ g < w.heap.size := by
  intro g hg
  rcases h.2 with ⟨rfl, _⟩ | ⟨g', cap, cur, rfl, hb, hh, _⟩
  · cases hg
  · simp [Value.ownBlock] at hg
    subst hg
    exact ⟨hb, lt_of_block hh⟩
/-- Two rows lie in different blocks. -/
def Apart (v u : Value) : Prop := ∀ g, v.ownBlock = some g → u.ownBlock ≠ some g
theorem Apart.symm {v u : Value} (h : Apart v u) : Apart u v := fun g h1 h2 => h g h2 h1
theorem Apart.none (v : Value) (n c : Nat) : Apart (.slice none n c) v := fun g h => by cases h
theorem Blk.keep {w w' : World} {b : Nat} {cs : List Value} {e : TypeId} {ob : Option Nat} (h : Blk w b cs e) (hg : w.grownBy w' ob) (hr : ob ≠ some b) : Blk w' b cs e := by
  unfold Blk at *
  rw [hg.block b (lt_of_block h) (fun e => hr e.symm)]; exact h
theorem apart_next {a b v u : Value} {B C : Nat} (hap : Apart a b) (lo1 : ∀ g, a.ownBlock = some g → g < B) (lo2 : ∀ g, b.ownBlock = some g → g < B) (at5 : ∀ g, v.ownBlock = some g → a.ownBlock = some g ∨ B ≤ g) (hi5 : ∀ g, v.ownBlock = some g → g < C) (at6 : ∀ g, u.ownBlock = some g → b.ownBlock = some g ∨ C ≤ g) : Apart v u := by
  intro g h1 h2
  have := hi5 g h1
  rcases at5 g h1 with h | h <;> rcases at6 g h2 with h' | h'
  · exact hap g h h'
  · omega
  · have := lo2 g h'; omega
  · omega
theorem not_block {v : Value} {B : Nat} (h : ∀ g, v.ownBlock = some g → g < B) {l : List (Addr × Value)} (hl : ∀ p ∈ l, p.1.block = B) : ∀ p ∈ l, v.ownBlock ≠ some p.1.block := fun p hp he => by
  have := h _ he
  rw [hl p hp] at this
  omega
theorem cell_block {w w' : World} {a : Addr} (h : w'.heap[a.block]? = w.heap[a.block]?) : w'.cell? a = w.cell? a := by
  unfold World.cell?
  rw [h]
theorem frozen_block {w w' : World} {a : Addr} (h : w'.heap[a.block]? = w.heap[a.block]?) : w'.frozen? a = w.frozen? a := by
  unfold World.frozen?
  rw [h]
theorem cells_grown {w w' : World} {ob : Option Nat} (hg : w.grownBy w' ob) : ∀ {l : List (Addr × Value)}, (∀ p ∈ l, ob ≠ some p.1.block) → Cells l w → Cells l w'
  | [], _, _ => trivial
  | (a, v) :: r, hn, ⟨h, hf, hr⟩ => by
    have hlt : a.block < w.heap.size := World.block_lt_of_cell? w a h
    have hb := hg.block a.block hlt (fun e => hn (a, v) (by simp) e.symm)
    exact ⟨(cell_block hb).trans h, (frozen_block hb).trans hf, cells_grown hg (fun p hp => hn p (by simp [hp])) hr⟩
theorem held_grown {w0 w w' : World} {k : Nat} {l : List (Addr × Value)} {ob : Option Nat} (h : Held w0 k l w) (hg : w.grownBy w' ob) (hn : ∀ p ∈ l, ob ≠ some p.1.block) (hb : Below w0.heap.size w0 w') : Held w0 k l w' :=
  ⟨hb, Nat.le_trans h.2.1 hg.size, cells_grown hg hn h.2.2⟩
section
variable {P : Program} {ops : Array Oper} {Q : Exit → Act → World → Prop}
/-- 'append(s, x, y ..)' as a step: what is added lies in a block of its own, whole. -/
theorem wp_append_blk {o : Oper} {a : Act} {K : Act → World → Prop} (s x : Operand) (t : TypeId)
  (ho : o.op = .call { callee := .builtin .append, args := #[s, x], argTypes := #[t, t] })
  (base : Nat) (e : TypeId) (i : TypeInfo) (z : Value) (size bytes : Nat) (ht : P.underlying t = some (.slice e)) (hi : P.info? e = some i) (hz : i.zero = some z)
  (hsize : i.size = size) (hby : i.bytes = bytes) (hzs : z.cells.size = size) (hsz : 0 < size)
  (w : World) (m b : Nat) (us : List Value) (e' : TypeId) (v : Value) (n : Nat) (xs : List Value) (hs : a.eval s = v) (hown : w.ownsRow base e size v n xs) (hb : Blk w b us e')
  (hx : a.eval x = .slice (some ⟨b, 0, none⟩) m m) (hl : us.length = m * size) (h1 : ∀ u ∈ us, u.oneCell' = true)
  (hbytes : (n + m) * bytes ≤ 140737488355328) (h63 : n + m ≤ maxLen) (hbase : base ≤ w.heap.size)
  (h : ∀ v' w', w'.ownsRow base e size v' (n + m) (xs ++ us) → w.grownBy w' v.ownBlock → (∀ g, v'.ownBlock = some g → v.ownBlock = some g ∨ w.heap.size ≤ g) → Below base w w' → K (a.put o.dst v') w') :
  o.wp P a w K Q := by
 obtain ⟨v', w', hr, h2, h3, _, h5⟩ := run_append_own_at (P := P) w base t o.type e i z size bytes ht hi hz hsize hby hzs hsz v n xs hown ⟨b, 0, none⟩ m m us hl (fun j u hj => by
  rw [show (⟨b, 0, none⟩ : Addr).add j = ⟨b, j, none⟩ by unfold Addr.add; split <;> simp_all]
  exact hb.cell hj) h1 h63 hbytes hbase
 unfold Oper.wp execOp
 simp only [ho, resolve, invoke, builtin, Sem.run_bind, Sem.run_pure, Result.andThen_ok, List.map_toArray, List.map_cons, List.map_nil, hs, hx, hr]
 refine h v' w' h2 h3 ?_ ?_
 ·intro g hg
  rcases h5 with h5 | h5
  ·exact .inl (h5 ▸ hg)
  ·rw [h5] at hg
   injection hg with hg
   exact .inr (by omega)
 ·exact (Below.refl _ _).grown h3 (by omega) (fun k hk => (hown.lt k hk).1)
/-- Two are ready. -/
theorem held_two {S : World → Prop} {i j : Nat} {oi oj : Oper} {fuel : Nat} {listed : Array Bool} {a : Act} {w : World} (hi : ops[i]? = some oi) (hj : ops[j]? = some oj) (hr : Region.ready .any ops listed = [i, j])
    (wi : Region.wanted oi (yielded ops a.tmps) = true) (wj : Region.wanted oj (yielded ops a.tmps) = true)
    (h1 : ∀ K : Act → World → Prop, (∀ a w, S w → wpAnyH P .any ops Q S fuel (listed.setIfInBounds i true) a w → K a w) → oi.wp P a w K Q)
    (h2 : ∀ K : Act → World → Prop, (∀ a w, S w → wpAnyH P .any ops Q S fuel (listed.setIfInBounds j true) a w → K a w) → oj.wp P a w K Q) : wpAnyH P .any ops Q S (fuel + 1) listed a w := by
  refine wpAnyH_all hr (by simp) (fun k hk => ?_)
  rcases List.mem_cons.1 hk with rfl | hk
  · unfold wpOp
    simp only [hi, wi, if_true]
    exact .inl (h1 _ fun a w hS hW => ⟨hS, hW⟩)
  · obtain rfl : k = j := by simpa using hk
    unfold wpOp
    simp only [hj, wj, if_true]
    exact .inl (h2 _ fun a w hS hW => ⟨hS, hW⟩)
end
end Go.Proofs.YtffmomgmkpmpkaaGreatDoor
