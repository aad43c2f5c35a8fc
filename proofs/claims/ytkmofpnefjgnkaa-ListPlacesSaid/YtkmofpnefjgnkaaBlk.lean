/-
  A block of the call's own, known whole.
-/
import Derived.Test.YtkmofpnefjgnkaaRow
import Derived.OneCell
import Derived.Laws.MakeOwn
import Derived.Laws.OwnMore
namespace Go.Proofs.Ytkmofpnefjgnkaa
open Go Go.RowKit
set_option linter.unusedVariables false
set_option linter.unusedSimpArgs false
/-- Block b holds just these cells, none of them frozen. -/
def Blk (w : World) (b : Nat) (cs : List Value) (e : TypeId) : Prop := w.heap[b]? = some (.cells cs.toArray e (0, 0))
section
variable {w w' : World} {b : Nat} {cs : List Value} {e : TypeId}
theorem Blk.lt (h : Blk w b cs e) : b < w.heap.size := lt_of_block h
theorem Blk.cell (h : Blk w b cs e) {o : Nat} {v : Value} (ho : cs[o]? = some v) : w.cell? ⟨b, o, none⟩ = some v := by
  unfold Blk at h
  simp only [World.cell?, h]
  simpa using ho
theorem Blk.free (h : Blk w b cs e) (o : Nat) : w.frozen? ⟨b, o, none⟩ = false := by unfold Blk at h; simp [World.frozen?, h]
theorem Blk.set (h : Blk w b cs e) (o : Nat) (u : Value) : Blk (w.setCell ⟨b, o, none⟩ u) b (cs.set o u) e := by
  unfold Blk at *
  rw [heap_setCell_same _ _ _ _ _ _ h]
  simp
theorem Blk.set_ne (h : Blk w b cs e) {a : Addr} (ha : b ≠ a.block) (u : Value) : Blk (w.setCell a u) b cs e := by
  unfold Blk at *
  rw [heap_setCell_other _ _ _ _ ha]; exact h
theorem Blk.alloc (h : Blk w b cs e) (ob : Obj) : Blk (w.alloc ob) b cs e := by
  have hl := h.lt
  unfold Blk at *
  rw [← h]
  show (w.heap.push ob)[b]? = _
  rw [Array.getElem?_push, if_neg (by omega)]
theorem Blk.drew (h : Blk w b cs e) : Blk w.drew b cs e := h
theorem Blk.new (w : World) (cs : List Value) (e : TypeId) : Blk (w.alloc (.cells cs.toArray e)) w.heap.size cs e := by
  unfold Blk
  show (w.heap.push _)[w.heap.size]? = _
  simp
theorem Blk.below (h : Blk w b cs e) {B : Nat} (hb : Below B w w') (hB : b < B) : Blk w' b cs e := (hb.block b hB).trans h
theorem Blk.new' {w : World} {b : Nat} {cs : List Value} {e : TypeId} (h : b = w.heap.size) : Blk (w.alloc (.cells cs.toArray e)) b cs e := by subst h; exact Blk.new _ _ _
/-- What it is good for, as a row. -/
theorem Blk.row {α : Type} {enc : α → List Value} {xs : List α} {sz cap : Nat} (he : ∀ x, (enc x).length = sz) (h : Blk w b cs e) (hc : cs.take (xs.length * sz) = xs.flatMap enc) (hcap : xs.length ≤ cap) (hm : cap ≤ maxLen) {B : Nat} (hB : b < B) :
    Row B sz enc w (.slice (some ⟨b, 0, none⟩) xs.length cap) xs := by
  refine ⟨_, cap, rfl, hcap, hm, fun h0 => ⟨b, 0, rfl, hB, fun j x hj i u hi => ?_⟩⟩
  have hil : i < sz := by rw [← he x]; exact (List.getElem?_eq_some_iff.1 hi).1
  have hjl := (List.getElem?_eq_some_iff.1 hj).1
  have key : ∀ (xs : List α) (j : Nat), xs[j]? = some x → (xs.flatMap enc)[j * sz + i]? = some u := by
    intro xs
    induction xs with
    | nil => intro j hj; simp at hj
    | cons y ys ih =>
      intro j hj
      rw [List.flatMap_cons]
      cases j with
      | zero =>
        simp at hj; subst hj
        rw [List.getElem?_append_left (by rw [he]; omega)]
        simpa using hi
      | succ j =>
        rw [List.getElem?_append_right (by rw [he, Nat.add_mul]; omega), he, show (j + 1) * sz + i - sz = j * sz + i by rw [Nat.add_mul]; omega]
        exact ih j (by simpa using hj)
  have hk := key xs j hj
  have hlen : j * sz + i < xs.length * sz := by
    have : (j + 1) * sz ≤ xs.length * sz := Nat.mul_le_mul_right _ hjl
    rw [Nat.add_mul] at this; omega
  rw [← hc, List.getElem?_take, if_pos hlen] at hk
  exact h.cell (by simpa using hk)
end
theorem madeCells_ints (n : Nat) : madeCells (Value.int .i64 0).cells n = ((List.replicate n (0 : Int)).map (Value.int .i64)).toArray := by
  apply Array.ext'
  rw [show (Value.int .i64 0).cells = #[.int .i64 0] from rfl, toList_madeCells_one]
  simp
end Go.Proofs.Ytkmofpnefjgnkaa
