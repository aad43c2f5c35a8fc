/-
  Bands, plain: what a closure that is called band by band keeps.
-/
import Derived.Test.YtlklmncjicgbgaaRegY
import Derived.Test.YtlklmncjicgbgaaRegZ
import Derived.Test.YtlklmncjicgbgaaRegV
namespace Go.Proofs.Ytlklmncjicgbgaa
open Go.RowKit
set_option linter.unusedVariables false
attribute [local go_sem] vwp vUpon_value vUpon_skip vUpon_enter vUpon_row
set_option linter.unusedSimpArgs false
set_option linter.unusedVariables false
/-- All blocks but two are as they were. -/
structure Kept (c : Nat) (gb : Option Nat) (w w' : World) : Prop where
  os : w'.os = w.os
  tape : w'.tape = w.tape
  output : w'.output = w.output
  size : w.heap.size ≤ w'.heap.size
  block : ∀ k, k < w.heap.size → k ≠ c → gb ≠ some k → w'.heap[k]? = w.heap[k]?
theorem Kept.of {c : Nat} {gb : Option Nat} {w w' : World} (h : Below w.heap.size w w') : Kept c gb w w' := ⟨h.os, h.tape, h.output, h.size, fun k hk _ _ => h.block k hk⟩
theorem Kept.trans {c : Nat} {g1 g2 : Option Nat} {a b d : World} (h : Kept c g1 a b) (k : Kept c g2 b d) (hg : ∀ x, g2 = some x → g1 = some x ∨ a.heap.size ≤ x) : Kept c g1 a d :=
  ⟨k.os.trans h.os, k.tape.trans h.tape, k.output.trans h.output, Nat.le_trans h.size k.size, fun x hx hc hg1 => by
    rw [k.block x (Nat.lt_of_lt_of_le hx h.size) hc (fun e => by rcases hg x e with h' | h'; exact hg1 h'; omega)]
    exact h.block x hx hc hg1⟩
theorem Kept.below {c B : Nat} {gb : Option Nat} {w w' : World} (h : Kept c gb w w') (hc : B ≤ c) (hB : B ≤ w.heap.size) (hg : ∀ k, gb = some k → B ≤ k) : Below B w w' :=
  ⟨h.os, h.tape, h.output, h.size, fun k hk => h.block k (by omega) (by omega) (fun e => by have := hg k e; omega)⟩
/-- A row that lies in neither of the two. -/
def RowX {α : Type} (c : Nat) (gb : Option Nat) (sz : Nat) (enc : α → List Value) (w : World) (v : Value) (l : List α) : Prop := Row w.heap.size sz enc w v l ∧ (0 < l.length → ∀ b, v.ownBlock = some b → b ≠ c ∧ gb ≠ some b)
theorem RowX.kept {α : Type} {c sz : Nat} {gb gb' : Option Nat} {enc : α → List Value} {w w' : World} {v : Value} {l : List α} (h : RowX c gb sz enc w v l) (hk : Kept c gb w w') (hg : ∀ k, gb' = some k → gb = some k ∨ w.heap.size ≤ k) : RowX c gb' sz enc w' v l := by
  obtain ⟨⟨s, cap, rfl, hl, hc, hx⟩, h2⟩ := h
  constructor
  · refine ⟨s, cap, rfl, hl, hc, fun h0 => ?_⟩
    obtain ⟨b, o, rfl, hlt, hx⟩ := hx h0
    obtain ⟨n1, n2⟩ := h2 h0 b rfl
    refine ⟨b, o, rfl, Nat.lt_of_lt_of_le hlt hk.size, fun j x hj i u hi => ?_⟩
    rw [cell_block (hk.block b hlt n1 n2)]
    exact hx j x hj i u hi
  · intro h0 b hb
    obtain ⟨b', o, rfl, hlt, _⟩ := hx h0
    obtain ⟨n1, n2⟩ := h2 h0 b' rfl
    simp [Value.ownBlock] at hb
    subst hb
    refine ⟨n1, fun e => ?_⟩
    rcases hg _ e with h | h
    · exact n2 h
    · omega
theorem RowX.stay {α : Type} {c sz : Nat} {gb : Option Nat} {enc : α → List Value} {w w' : World} {v : Value} {l : List α} (h : RowX c gb sz enc w v l) (hb : Below w.heap.size w w') : RowX c gb sz enc w' v l := h.kept (Kept.of hb) (fun k hk => .inl hk)
/-- A row made later. -/
theorem RowX.new {α : Type} {c sz B : Nat} {gb : Option Nat} {enc : α → List Value} {w : World} {e : TypeId} {v : Value} {l : List α} (he : ∀ x, (enc x).length = sz) (hsz : 0 < sz) (h : w.ownsRow B e sz v l.length (l.flatMap enc)) (hc : c < B) (hg : ∀ k, gb = some k → k < B) : RowX c gb sz enc w v l := by
  refine ⟨Row.own he h (Nat.le_refl _) hsz, fun _ b hb => ?_⟩
  have := (own_in h b hb).1
  exact ⟨by omega, fun e => by have := hg b e; omega⟩
theorem RowX.nil {α : Type} (c sz : Nat) (gb : Option Nat) (enc : α → List Value) (w : World) : RowX c gb sz enc w (.slice none 0 0) [] :=
  ⟨⟨none, 0, rfl, by simp, by unfold maxLen; omega, fun h => by simp at h⟩, fun h => by simp at h⟩
/-- Bands handed over one by one until told to stop. -/
def runM (more : List Bd → Bool) : List Bd → List Bd → List Bd
  | d, [] => d
  | d, t :: r => if more (d ++ [t]) then runM more (d ++ [t]) r else d ++ [t]
/-- What is asked of the closure. -/
structure Band (fb : Nat) (cb : Array Value) (c B0 : Nat) (more : List Bd → Bool) (R : List Bd) (I : List Bd → Option Nat → World → Prop) : Prop where
  enters : ∀ args w, (callFunc fb args).run Try.prog w = .ok (.enter fb args) w
  le : B0 ≤ c
  first : more [] = true
  at_ : ∀ {d g w}, I d g w → c < w.heap.size ∧ ∀ k, g = some k → B0 ≤ k ∧ k < w.heap.size
  stay : ∀ {d g w w'}, I d g w → Below w.heap.size w w' → I d g w'
  call : ∀ {d g w} (y h : Int) (vl : Value) (l : List Sp), I d g w → RowX c g 2 encS w vl l → more d = true → InM y → InM (y + h) → 0 < h → CanS l → (∀ s ∈ l, InM s.1 ∧ InM s.2) → l.length ≤ 200000 → (∃ r, runM more d ((y, h, l) :: r) = R) →
    Calls Try.prog fb (#[.int .i64 y, .int .i64 h, vl] ++ cb) w fun e w' => ∃ g', e = .returned (.bool (more (d ++ [(y, h, l)]))) ∧ I (d ++ [(y, h, l)]) g' w' ∧ Kept c g w w' ∧ ∀ k, g' = some k → g = some k ∨ w.heap.size ≤ k
def BandsPost (B0 : Nat) (I : List Bd → Option Nat → World → Prop) (R : List Bd) (w : World) (e : Ending) (w' : World) : Prop := e = .returned (.tuple #[]) ∧ Below B0 w w' ∧ ∃ g, I R g w'
/-! ### the rows one after another -/
theorem rise_lt : ∀ {l : List Int}, Rise l → ∀ {i j : Nat} {a b : Int}, i < j → l[i]? = some a → l[j]? = some b → a < b
  | [], _, i, j, a, b, _, h, _ => by simp at h
  | x :: l, hr, i, j, a, b, hij, h1, h2 => by
    obtain ⟨j, rfl⟩ : ∃ k, j = k + 1 := ⟨j - 1, by omega⟩
    cases i with
    | zero =>
      simp at h1 h2
      subst h1
      exact hr.above b (List.mem_of_getElem? h2)
    | succ i =>
      simp at h1 h2
      exact rise_lt hr.tail (i := i) (j := j) (by omega) h1 h2
theorem run_step {more : List Bd → Bool} {now : Int → List Sp} {last : List Sp} {frm y : Int} {d : List Bd} {X : List Int} {i : Nat} {z : Int} (h1 : X[i]? = some y) (h2 : X[i + 1]? = some z) :
    runM more d (bandGo now last frm (X.drop i)) = if now y = last then runM more d (bandGo now last frm (X.drop (i + 1))) else runM more d ((if last = [] then [] else [(frm, y - frm, last)]) ++ bandGo now (now y) y (X.drop (i + 1))) := by
  rw [drop_get h1, drop_get h2]
  show runM more d (if now y = last then bandGo now last frm (z :: X.drop (i + 1 + 1)) else _) = _
  split <;> rfl
theorem run_last {more : List Bd → Bool} {now : Int → List Sp} {last : List Sp} {frm y : Int} {d : List Bd} {X : List Int} {i : Nat} (h1 : X[i]? = some y) (h2 : X.length ≤ i + 1) :
    runM more d (bandGo now last frm (X.drop i)) = if last = [] then d else d ++ [(frm, y - frm, last)] := by
  rw [drop_get h1, List.drop_eq_nil_of_le h2]
  show runM more d (if last = [] then [] else [(frm, y - frm, last)]) = _
  split
  · rfl
  · unfold runM
    split <;> rfl
theorem run_end {more : List Bd → Bool} {now : Int → List Sp} {last : List Sp} {frm y : Int} {d : List Bd} {X : List Int} {i : Nat} (h1 : X[i]? = some y) (h2 : X.length ≤ i + 1) (hl : last ≠ []) :
    runM more d (bandGo now last frm (X.drop i)) = runM more d [(frm, y - frm, last)] := by
  rw [drop_get h1, List.drop_eq_nil_of_le h2]
  show runM more d (if last = [] then [] else [(frm, y - frm, last)]) = _
  rw [if_neg hl]
theorem spans_len2 {a b : List Re} (ha : Sane a) (hb : Sane b) (what y : Int) : (spansP a b what y).length ≤ a.length + b.length := by
  have := spans_len ha hb what y
  have h2 : actN (a ++ b) y ≤ (a ++ b).length := List.countP_le_length
  rw [List.length_append] at h2
  omega
/-- The program's mixed row is the document's. -/
theorem mixP_spans {a b : List Re} (ha : Sane a) (hb : Sane b) (what y : Int) : mixP (spansP a [] 1 y) (spansP b [] 1 y) what = spansP a b what y := by
  obtain ⟨_, h1⟩ := spans_spec ha sane_nil 1 y
  obtain ⟨_, h2⟩ := spans_spec hb sane_nil 1 y
  obtain ⟨o1, o2⟩ := onceI_spec (endsS (spansP a [] 1 y) ++ endsS (spansP b [] 1 y))
  exact mixed_eq ha hb (fun x => by rw [h1, kept_one]) (fun x => by rw [h2, kept_one]) o1 o2
theorem spans_can {a b : List Re} (ha : Sane a) (hb : Sane b) (what y : Int) : CanS (spansP a b what y) := (spans_spec ha hb what y).1
end Go.Proofs.Ytlklmncjicgbgaa
