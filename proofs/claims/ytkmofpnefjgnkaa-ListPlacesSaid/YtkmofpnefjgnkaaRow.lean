/-
  Rows of elements of any size in memory: read, kept, opened out of what comes in.
-/
import Derived.Test.YtkmofpnefjgnkaaOwn
import Derived.Test.YtkmofpnefjgnkaaProg
import Derived.Deep.Slices
import Derived.Deep.Fields
import Derived.ChangeSame
import Derived.Lib.SmallJoins
import Derived.WalkSpells
import Derived.WalkLawsBesides
import Derived.Lib.Hide
import Derived.Laws.EntriesVeiled
import Derived.Deep.RegionHeld3
namespace Go.Proofs.Ytkmofpnefjgnkaa
open Go Go.RowKit Go.ChangeShapes Go.WideShapes Go.Deep Go.Joins
set_option linter.unusedVariables false
set_option linter.unusedSimpArgs false
def U8 (x : Int) : Prop := 0 ≤ x ∧ x ≤ 255
theorem u8_of {x : Int} (h : (Lit.int .u8 x).wf = true) : U8 x := by
  have : 0 ≤ x ∧ x ≤ 255 := by simpa [Lit.wf, IntKind.min, IntKind.max, IntKind.signed, IntKind.bits] using h
  exact this
def I64 (x : Int) : Prop := -9223372036854775808 ≤ x ∧ x ≤ 9223372036854775807
theorem i64_of {x : Int} (h : (Lit.int .i64 x).wf = true) : I64 x := by
  have : -9223372036854775808 ≤ x ∧ x ≤ 9223372036854775807 := by simpa [Lit.wf, IntKind.min, IntKind.max, IntKind.signed, IntKind.bits] using h
  exact this
section
variable {α : Type}
/-- 'v' is a slice that reads as 'xs', each of 'sz' cells; its block lies below B. -/
def Row (B sz : Nat) (enc : α → List Value) (w : World) (v : Value) (xs : List α) : Prop :=
  ∃ s cap, v = .slice s xs.length cap ∧ xs.length ≤ cap ∧ cap ≤ maxLen ∧ (0 < xs.length → ∃ b o, s = some ⟨b, o, none⟩ ∧ b < B ∧ ∀ j x, xs[j]? = some x → ∀ i u, (enc x)[i]? = some u → w.cell? ⟨b, o + j * sz + i, none⟩ = some u)
theorem Row.below {B sz : Nat} {enc : α → List Value} {w w' : World} {v : Value} {xs : List α} (h : Row B sz enc w v xs) (hb : Below B w w') : Row B sz enc w' v xs := by
  obtain ⟨s, cap, hv, hl, hc, h⟩ := h
  refine ⟨s, cap, hv, hl, hc, fun h0 => ?_⟩
  obtain ⟨b, o, hs, hlt, hx⟩ := h h0
  exact ⟨b, o, hs, hlt, fun j x hj i u hi => (hb.cell (p := ⟨b, _, none⟩) hlt).trans (hx j x hj i u hi)⟩
theorem Row.mono {B B' sz : Nat} {enc : α → List Value} {w : World} {v : Value} {xs : List α} (h : Row B sz enc w v xs) (hB : B ≤ B') : Row B' sz enc w v xs := by
  obtain ⟨s, cap, hv, hl, hc, h⟩ := h
  refine ⟨s, cap, hv, hl, hc, fun h0 => ?_⟩
  obtain ⟨b, o, hs, hlt, hx⟩ := h h0
  exact ⟨b, o, hs, by omega, hx⟩
/-- Opened: its address, and the cells of each element. -/
theorem Row.open_ {B sz : Nat} {enc : α → List Value} {w : World} {v : Value} {xs : List α} (h : Row B sz enc w v xs) (h0 : 0 < xs.length) :
    ∃ b o cap, v = .slice (some ⟨b, o, none⟩) xs.length cap ∧ b < B ∧ xs.length ≤ cap ∧ cap ≤ maxLen ∧ ∀ j x, xs[j]? = some x → ∀ i u, (enc x)[i]? = some u → w.cell? ⟨b, o + j * sz + i, none⟩ = some u := by
  obtain ⟨s, cap, hv, hl, hc, h⟩ := h
  obtain ⟨b, o, rfl, hlt, hx⟩ := h h0
  exact ⟨b, o, cap, hv, hlt, hl, hc, hx⟩
theorem Row.shape {B sz : Nat} {enc : α → List Value} {w : World} {v : Value} {xs : List α} (h : Row B sz enc w v xs) : ∃ s cap, v = .slice s xs.length cap ∧ xs.length ≤ maxLen := by
  obtain ⟨s, cap, hv, hl, hc, h⟩ := h
  exact ⟨s, cap, hv, by omega⟩
/-- What the call itself made is such a row. -/
theorem Row.own {B base sz : Nat} {e : TypeId} {enc : α → List Value} {w : World} {v : Value} {xs : List α} (he : ∀ x, (enc x).length = sz) (h : w.ownsRow base e sz v xs.length (xs.flatMap enc)) (hB : w.heap.size ≤ B) (hsz : 0 < sz) : Row B sz enc w v xs := by
  obtain ⟨hl, h2⟩ := h
  rcases h2 with ⟨rfl, h0⟩ | ⟨g, cap, cur, rfl, hg, hh, hnc, hcm, hcur, htake⟩
  · refine ⟨none, 0, by rw [h0], by omega, by unfold maxLen; omega, fun h => by omega⟩
  · have hlt : g < w.heap.size := by
      rcases Nat.lt_or_ge g w.heap.size with h | h
      · exact h
      · rw [Array.getElem?_eq_none h] at hh; cases hh
    refine ⟨_, cap, rfl, hnc, hcm, fun h0 => ⟨g, 0, rfl, by omega, fun j x hj i u hi => ?_⟩⟩
    have hil : i < sz := by rw [← he x]; exact (List.getElem?_eq_some_iff.1 hi).1
    have hjl := (List.getElem?_eq_some_iff.1 hj).1
    have key : ∀ (xs : List α) (j : Nat), xs[j]? = some x → (xs.flatMap enc)[j * sz + i]? = some u := by
      intro xs
      induction xs with
      | nil => intro j hj; simp at hj
      | cons y ys ih =>
        intro j hj
        rw [List.flatMap_cons]
        cases j with
        | zero =>
          simp at hj; subst hj
          rw [List.getElem?_append_left (by rw [he]; omega)]
          simpa using hi
        | succ j =>
          rw [List.getElem?_append_right (by rw [he, Nat.add_mul]; omega), he, show (j + 1) * sz + i - sz = j * sz + i by rw [Nat.add_mul]; omega]
          exact ih j (by simpa using hj)
    have hk := key xs j hj
    have hlen : j * sz + i < xs.length * sz := by
      have : (j + 1) * sz ≤ xs.length * sz := Nat.mul_le_mul_right _ hjl
      rw [Nat.add_mul] at this; omega
    rw [← htake, List.getElem?_take, if_pos hlen] at hk
    simp only [World.cell?, hh, Nat.zero_add]
    simpa using hk
end
theorem add_lit (b o k : Nat) : (⟨b, o, none⟩ : Addr).add k = ⟨b, o + k, none⟩ := by unfold Addr.add; split <;> simp_all
section
variable {H : Type} {enc : TypeId × Value → H} {P : Program} {w : World} {base : Nat} {spare : Nat → Bool} {held : Bool}
theorem fields_of {t : TypeId} {fs : Array Field} {fuel : Nat} {cs : List Value} {x : DataW H × List MemPlace} (hs : P.underlying t = some (.struct fs)) (hone : oneCellFields P fs = true) (hl : cs.length = fs.size)
    (h : DataW.trod enc P w base spare held fuel t cs = some x) :
    ∃ n, ∀ (j : Nat) (f : Field), fs[j]? = some f → ∃ (v : Value) (y : DataW H × List MemPlace), cs[j]? = some v ∧ DataW.trod enc P w base spare held n f.type [v] = some y := by
  obtain ⟨ys, n', hn', hy, hlen, hyl, hf⟩ := DataW.trod_struct hs h
  refine ⟨n', fun j f hj => ?_⟩
  obtain ⟨ho, hk⟩ := hone_of hone j f hj
  have hjl : j < fs.size := (Array.getElem?_eq_some_iff.1 hj).1
  have hv : cs[j]? = some (cs[j]'(by omega)) := List.getElem?_eq_getElem (by omega)
  have h1 := hf j f hj
  rw [ho, hk] at h1
  have hone' : (cs.drop j).take 1 = [cs[j]'(by omega)] := by
    rw [List.drop_eq_getElem_cons (by omega)]
    rfl
  rw [hone'] at h1
  have hys : ys[j]? = some (ys[j]'(by omega)) := List.getElem?_eq_getElem (by omega)
  exact ⟨_, _, hv, h1.trans hys⟩
theorem open_aggs {r : Reach} {b0 : Nat} {t : TypeId} {fs : Array Field} {v : Value} {d : DataW H} {p : List MemPlace} (hs : P.underlying t = some (.struct fs)) (hone : oneCellFields P fs = true) (hC : P.cellsOf t = fs.size)
    (hv : Value.okWide P w r b0 t v) (h : DataW.Trod enc P w base spare held t v d p) :
    ∃ (cs : List Value) (n : Nat), v = .agg cs.toArray ∧ cs.length = fs.size ∧ ∀ (j : Nat) (f : Field), fs[j]? = some f → ∃ (u : Value) (y : DataW H × List MemPlace), cs[j]? = some u ∧ DataW.trod enc P w base spare held n f.type [u] = some y := by
  obtain ⟨cs, rfl, hsz⟩ := okWide_struct hs hv
  obtain ⟨l⟩ := cs
  obtain ⟨fuel, hf⟩ := h
  have hl : l.length = fs.size := by rw [← hC, ← hsz]; simp
  obtain ⟨n, hn⟩ := fields_of hs hone hl hf
  exact ⟨l, n, rfl, hl, hn⟩
/-- A slice that came in, whatever its elements are: 'dec' says how the cells of one read. -/
theorem open_row {α : Type} [Inhabited α] {Ok : α → Prop} {sz : Nat} {encA : α → List Value} {r : Reach} {b0 : Nat} {t e : TypeId} {v : Value} {d : DataW H} {p : List MemPlace} (ht : P.underlying t = some (.slice e)) (hC : P.cellsOf e = sz) (hsz : 0 < sz)
    (dec : ∀ (n : Nat) (cs : List Value) (y : DataW H × List MemPlace), cs.length = sz → DataW.trod enc P w base spare held n e cs = some y → ∃ x, Ok x ∧ cs = encA x)
    (hv : Value.okWide P w r b0 t v) (h : DataW.Trod enc P w base spare held t v d p) :
    ∃ xs : List α, Row w.heap.size sz encA w v xs ∧ ∀ x ∈ xs, Ok x := by
  obtain ⟨a, len, cap, rfl⟩ := okWide_slice ht hv
  obtain ⟨fuel, hf⟩ := h
  rcases open_slice ht (by simpa [Value.cells] using hf) with ⟨h0, _⟩ | ⟨a', len', cap', m, n, D, Pl, hcs, hb, hl, hm, hmm, hx, hi⟩
  · simp at h0
    obtain ⟨rfl, rfl, rfl⟩ := h0
    exact ⟨[], ⟨none, 0, rfl, by simp, by unfold maxLen; omega, fun h => by simp at h⟩, by simp⟩
  · simp at hcs
    obtain ⟨rfl, rfl, rfl⟩ := hcs
    have hlm : len ≤ m := by rw [hmm]; split <;> omega
    have each : ∀ i, i < len → ∃ x : α, Ok x ∧ ∀ k u, (encA x)[k]? = some u → w.cell? ((a'.add (i * sz)).add k) = some u := by
      intro i hil
      obtain ⟨cs', hc, ht'⟩ := hi i (by omega)
      rw [hC] at hc
      obtain ⟨_, hcl, hat⟩ := World.cells?_some hc
      obtain ⟨x, hok, rfl⟩ := dec _ _ _ hcl ht'
      refine ⟨x, hok, fun k u hk => ?_⟩
      have hkl : k < sz := by rw [← hcl]; exact (List.getElem?_eq_some_iff.1 hk).1
      rw [hat k hkl, hk]
    obtain ⟨V, hV⟩ := choose_lt (α := α) (p := fun i x => Ok x ∧ ∀ k u, (encA x)[k]? = some u → w.cell? ((a'.add (i * sz)).add k) = some u) each
    refine ⟨(List.range len).map V, ⟨some a', cap, by simp, by simpa using hl, hm, fun h0 => ?_⟩, fun x hx => ?_⟩
    · simp only [List.length_map, List.length_range] at h0
      obtain ⟨cs', hc, ht'⟩ := hi 0 (by omega)
      rw [hC] at hc
      obtain ⟨_, hcl, hat⟩ := World.cells?_some hc
      have h1 := hat 0 hsz
      rw [Nat.zero_mul] at h1
      obtain ⟨b, o, x⟩ := a'
      cases x with
      | some x =>
        exfalso
        have e0 : ((⟨b, o, some x⟩ : Addr).add 0).add 0 = ⟨b, o, some x⟩ := rfl
        rw [e0] at h1
        have : cs'[0]? = some (cs'[0]'(by omega)) := List.getElem?_eq_getElem (by omega)
        rw [this] at h1
        simp only [World.cell?] at h1
        split at h1 <;> simp at h1
      | none =>
        refine ⟨b, o, rfl, ?_, fun j x hj i u hi' => ?_⟩
        · have : cs'[0]? = some (cs'[0]'(by omega)) := List.getElem?_eq_getElem (by omega)
          rw [this] at h1
          exact World.block_lt_of_cell? _ _ h1
        · obtain ⟨hj', e⟩ := List.getElem?_eq_some_iff.1 hj
          simp at hj' e
          subst e
          have := (hV j hj').2 i u hi'
          rw [add_lit, add_lit] at this
          exact this
    · obtain ⟨j, hj, rfl⟩ := List.mem_map.1 hx
      exact (hV j (List.mem_range.1 hj)).1
end
/-- Integers. -/
def encI (n : Int) : List Value := [.int .i64 n]
section
variable {H : Type} {enc : TypeId × Value → H} {w : World} {base : Nat} {spare : Nat → Bool} {held : Bool}
set_option maxRecDepth 100000 in
theorem open_introw {r : Reach} {b0 : Nat} {v : Value} {d : DataW H} {p : List MemPlace} (hv : Value.okWide Try.prog w r b0 95 v) (h : DataW.Trod enc Try.prog w base spare held 95 v d p) :
    ∃ xs : List Int, Row w.heap.size 1 encI w v xs ∧ ∀ x ∈ xs, I64 x := by
  refine open_row Try.underlying95 (by kernel_rfl) (by omega) (fun n cs y hl ht => ?_) hv h
  match cs, hl with
  | [c], _ =>
    obtain ⟨n0, e0, z0, wf0⟩ := DataW.trod_int Try.underlying3 ht
    simp at e0; subst e0
    exact ⟨n0, i64_of wf0, rfl⟩
end
end Go.Proofs.Ytkmofpnefjgnkaa
