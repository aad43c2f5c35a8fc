/-
  XGc: XRegT XRegU XRegV XRegW XRegX XRegY XRegZ.
-/
import Derived.Shelf.SlSortCmp.NoneTotal
import Derived.Shelf.SlSortCmp.WholeK
import Derived.Shelf.Slices.CompactI
import Derived.Shelf.Slices.In.SortNone
import Derived.Shelf.Sort.Plain
import Derived.Sort.OwnSortedInts
import Derived.Test.YtffmomgmkpmpkaaGreatDoorProg
import Derived.Test.YtffmomgmkpmpkaaGreatDoorKd16
namespace Go.Proofs.YtffmomgmkpmpkaaGreatDoor
open Go.RowKit
set_option linter.unusedVariables false
attribute [local go_sem] vwp vUpon_value vUpon_skip vUpon_enter vUpon_row
set_option linter.unusedSimpArgs false
set_option linter.unusedVariables false
section
set_option linter.unusedSimpArgs false
set_option linter.unusedVariables false
open Go.Sort Go.Shelf
/-- A span that can be. -/
abbrev SpB := { s : Sp // InM s.1 }
instance : Inhabited SpB := ⟨⟨(0, 0), by unfold InM; omega⟩⟩
end
section
set_option linter.unusedSimpArgs false
set_option linter.unusedVariables false
theorem neq_rect (w : World) (a b c e a' b' c' e' : Int) : (binOp .neq 42 (.agg #[.int .i64 a, .int .i64 b, .int .i64 c, .int .i64 e]) (.agg #[.int .i64 a', .int .i64 b', .int .i64 c', .int .i64 e'])).run Tryz.prog w = .ok (.bool (!eq4 a b c e a' b' c' e')) w := by
  rw [run_neq_struct, eq_rect 9997]
  rfl
theorem eql_rect (w : World) (a b c e a' b' c' e' : Int) : (binOp .eql 42 (.agg #[.int .i64 a, .int .i64 b, .int .i64 c, .int .i64 e]) (.agg #[.int .i64 a', .int .i64 b', .int .i64 c', .int .i64 e'])).run Tryz.prog w = .ok (.bool (eq4 a b c e a' b' c' e')) w := by
  rw [run_eql_struct, eq_rect 9997]
  rfl
theorem eq_span (d : Nat) (w : World) (a b a' b' : Int) : (Op.equalIn (d + 2) 213 (.agg #[.int .i64 a, .int .i64 b]) (.agg #[.int .i64 a', .int .i64 b'])).run Tryz.prog w = .ok ((a == a') && (b == b')) w := by
  have A := Tryz.underlying213
  have B := Tryz.underlying3
  rw [run_equalIn_agg w (d + 1) _ _ _ (by simp [Program.fieldsOf, A]) (by kernel_rfl)]
  simp only [Program.fieldsOf, A]
  by_cases h0 : a = a' <;> by_cases h1 : b = b' <;> simp [Op.eqFields, Go.part, isAgg, run_underlying B, run_equalIn_int _ _ _ _ _ _ _ B, h0, h1]
theorem neq_span (w : World) (a b a' b' : Int) : (binOp .neq 213 (.agg #[.int .i64 a, .int .i64 b]) (.agg #[.int .i64 a', .int .i64 b'])).run Tryz.prog w = .ok (.bool (!((a == a') && (b == b')))) w := by
  rw [run_neq_struct, eq_span 9998]
  rfl
attribute [local go_sem high] neq_rect neq_span
end
section
set_option linter.unusedSimpArgs false
set_option linter.unusedVariables false
/-- What stands in the row while it is merged. -/
def RowInv (m C : List Sp) (i nn : Nat) : Prop := C.length = m.length ∧ nn ≤ i ∧ C.take nn = (m.take i).foldl mergeS [] ∧ C.drop i = m.drop i ∧ ∀ s ∈ C, InM s.1 ∧ InM s.2
theorem RowInv.at_ {m C : List Sp} {i nn : Nat} {s : Sp} (h : RowInv m C i nn) (hs : m[i]? = some s) : C[i]? = some s := by
  have := congrArg List.head? h.2.2.2.1
  rw [List.head?_drop, List.head?_drop, hs] at this
  exact this
theorem set_mem {C : List Sp} {k : Nat} {a : Sp} (hC : ∀ s ∈ C, InM s.1 ∧ InM s.2) (ha : InM a.1 ∧ InM a.2) : ∀ s ∈ C.set k a, InM s.1 ∧ InM s.2 := fun s hs => by
  rcases List.mem_or_eq_of_mem_set hs with h | h
  · exact hC s h
  · rw [h]; exact ha
theorem fold_snoc {m : List Sp} {i : Nat} {s : Sp} (hs : m[i]? = some s) : (m.take (i + 1)).foldl mergeS [] = mergeS ((m.take i).foldl mergeS []) s := by
  rw [List.take_add_one, hs, List.foldl_append]; rfl
theorem RowInv.set_ {m C : List Sp} {i nn k : Nat} {s a : Sp} (h : RowInv m C i nn) (hs : m[i]? = some s) (hk : k ≤ i) (ha : InM a.1 ∧ InM a.2) (hn : k + 1 ≤ i + 1) (hf : C.take k ++ [a] = mergeS (C.take nn) s) : RowInv m (C.set k a) (i + 1) (k + 1) := by
  obtain ⟨h1, h2, h3, h4, h5⟩ := h
  have hl := (List.getElem?_eq_some_iff.1 hs).1
  refine ⟨by rw [List.length_set, h1], hn, ?_, ?_, set_mem h5 ha⟩
  · rw [List.take_add_one, List.getElem?_set_self (by omega), List.take_set_of_le (Nat.le_refl _), fold_snoc hs, ← h3, ← hf]; rfl
  · rw [List.drop_set_of_lt (by omega)]
    have := congrArg (List.drop 1) h4
    simpa [List.drop_drop] using this
theorem RowInv.first {m C : List Sp} {i : Nat} {s : Sp} (h : RowInv m C i 0) (hs : m[i]? = some s) : RowInv m (C.set 0 s) (i + 1) 1 :=
  h.set_ hs (Nat.zero_le _) (h.2.2.2.2 s (List.mem_of_getElem? (h.at_ hs))) (by omega) rfl
theorem RowInv.done {m C : List Sp} {nn : Nat} (h : RowInv m C m.length nn) : C.take nn = m.foldl mergeS [] := by
  have := h.2.2.1
  rwa [List.take_of_length_le (Nat.le_refl _)] at this
end
end Go.Proofs.YtffmomgmkpmpkaaGreatDoor

namespace Go.Proofs.YtffmomgmkpmpkaaGreatDoor
open Go.RowKit
set_option linter.unusedVariables false
attribute [local go_sem] vwp vUpon_value vUpon_skip vUpon_enter vUpon_row
set_option linter.unusedSimpArgs false
set_option linter.unusedVariables false
section
set_option linter.unusedSimpArgs false
set_option linter.unusedVariables false
/-- All blocks but two are as they were. -/
structure Kept (c : Nat) (gb : Option Nat) (w w' : World) : Prop where
  os : w'.os = w.os
  tape : w'.tape = w.tape
  output : w'.output = w.output
  size : w.heap.size ≤ w'.heap.size
  block : ∀ k, k < w.heap.size → k ≠ c → gb ≠ some k → w'.heap[k]? = w.heap[k]?
theorem Kept.of {c : Nat} {gb : Option Nat} {w w' : World} (h : Below w.heap.size w w') : Kept c gb w w' := ⟨h.os, h.tape, h.output, h.size, fun k hk _ _ => h.block k hk⟩
theorem Kept.trans {c : Nat} {g1 g2 : Option Nat} {a b d : World} (h : Kept c g1 a b) (k : Kept c g2 b d) (hg : ∀ x, g2 = some x → g1 = some x ∨ a.heap.size ≤ x) : Kept c g1 a d :=
  ⟨k.os.trans h.os, k.tape.trans h.tape, k.output.trans h.output, Nat.le_trans h.size k.size, fun x hx hc hg1 => by
    rw [k.block x (Nat.lt_of_lt_of_le hx h.size) hc (fun e => by rcases hg x e with h' | h'; exact hg1 h'; omega)]
    exact h.block x hx hc hg1⟩
theorem Kept.below {c B : Nat} {gb : Option Nat} {w w' : World} (h : Kept c gb w w') (hc : B ≤ c) (hB : B ≤ w.heap.size) (hg : ∀ k, gb = some k → B ≤ k) : Below B w w' :=
  ⟨h.os, h.tape, h.output, h.size, fun k hk => h.block k (by omega) (by omega) (fun e => by have := hg k e; omega)⟩
/-- A row that lies in neither of the two. -/
def RowX {α : Type} (c : Nat) (gb : Option Nat) (sz : Nat) (enc : α → List Value) (w : World) (v : Value) (l : List α) : Prop := Row w.heap.size sz enc w v l ∧ (0 < l.length → ∀ b, v.ownBlock = some b → b ≠ c ∧ gb ≠ some b)
theorem RowX.kept {α : Type} {c sz : Nat} {gb gb' : Option Nat} {enc : α → List Value} {w w' : World} {v : Value} {l : List α} (h : RowX c gb sz enc w v l) (hk : Kept c gb w w') (hg : ∀ k, gb' = some k → gb = some k ∨ w.heap.size ≤ k) : RowX c gb' sz enc w' v l := by
  obtain ⟨⟨s, cap, rfl, hl, hc, hx⟩, h2⟩ := h
  constructor
  · refine ⟨s, cap, rfl, hl, hc, fun h0 => ?_⟩
    obtain ⟨b, o, rfl, hlt, hx⟩ := hx h0
    obtain ⟨n1, n2⟩ := h2 h0 b rfl
    refine ⟨b, o, rfl, Nat.lt_of_lt_of_le hlt hk.size, fun j x hj i u hi => ?_⟩
    rw [cell_block (hk.block b hlt n1 n2)]
    exact hx j x hj i u hi
  · intro h0 b hb
    obtain ⟨b', o, rfl, hlt, _⟩ := hx h0
    obtain ⟨n1, n2⟩ := h2 h0 b' rfl
    simp [Value.ownBlock] at hb
    subst hb
    refine ⟨n1, fun e => ?_⟩
    rcases hg _ e with h | h
    · exact n2 h
    · omega
/-- A row made later. -/
theorem RowX.new {α : Type} {c sz B : Nat} {gb : Option Nat} {enc : α → List Value} {w : World} {e : TypeId} {v : Value} {l : List α} (he : ∀ x, (enc x).length = sz) (hsz : 0 < sz) (h : w.ownsRow B e sz v l.length (l.flatMap enc)) (hc : c < B) (hg : ∀ k, gb = some k → k < B) : RowX c gb sz enc w v l := by
  refine ⟨Row.own he h (Nat.le_refl _) hsz, fun _ b hb => ?_⟩
  have := (own_in h b hb).1
  exact ⟨by omega, fun e => by have := hg b e; omega⟩
theorem RowX.nil {α : Type} (c sz : Nat) (gb : Option Nat) (enc : α → List Value) (w : World) : RowX c gb sz enc w (.slice none 0 0) [] :=
  ⟨⟨none, 0, rfl, by simp, by unfold maxLen; omega, fun h => by simp at h⟩, fun h => by simp at h⟩
/-! ### the rows one after another -/
end
section
set_option linter.unusedSimpArgs false
set_option linter.unusedVariables false
/-- 'append(s, x, y ..)' onto a row of the call's own; what else it owns stays. -/
theorem wpList_append_two {P : Program} {ops : Array Oper} {rest : List Oper} {o : Oper} {a : Act} {Q : Exit → Act → World → Prop} (hgd : o.guard = none) (s x : Operand) (t : TypeId)
  (ho : o.op = .call { callee := .builtin .append, args := #[s, x], argTypes := #[t, t] })
  (base : Nat) (e : TypeId) (i : TypeInfo) (z : Value) (size bytes : Nat) (ht : P.underlying t = some (.slice e)) (hi : P.info? e = some i) (hz : i.zero = some z)
  (hsize : i.size = size) (hby : i.bytes = bytes) (hzs : z.cells.size = size) (hsz : 0 < size)
  (w : World) (m : Nat) (us : List Value) (v : Value) (n : Nat) (xs : List Value) (hs : a.eval s = v) (hown : w.ownsRow base e size v n xs)
  (hx : a.eval x = .slice (some ⟨w.heap.size, 0, none⟩) m m) (hl : us.length = m * size) (h1 : ∀ u ∈ us, u.oneCell' = true)
  (hbytes : (n + m) * bytes ≤ 140737488355328) (h63 : n + m ≤ maxLen) (hbase : base ≤ w.heap.size)
  (h : ∀ v' w', w'.ownsRow base e size v' (n + m) (xs ++ us) → w.grownBy w' v.ownBlock → (∀ g, v'.ownBlock = some g → v.ownBlock = some g ∨ w.heap.size < g) → Below base w w' → wpList P ops Q rest (a.put o.dst v') w') :
  wpList P ops Q (o :: rest) a (w.alloc (.cells us.toArray e)) := by
 refine wpList_append_own_at _ hgd s x t ho base e i z size bytes ht hi hz hsize hby hzs hsz v n xs hs (hown.alloc _) ⟨w.heap.size, 0, none⟩ m m us hx (by omega) (fun j u hj => ?_) h1 h63 hbytes (by simp; omega) (fun v' w' h2 h3 _ h5 => h v' w' h2 ?_ ?_ ?_)
 ·rw [show (⟨w.heap.size, 0, none⟩ : Addr).add j = ⟨w.heap.size, j, none⟩ by unfold Addr.add; split <;> simp_all]
  rw [World.cell?_alloc_at _ _ _ _ rfl]
  simpa using hj
 ·have hal : w.grownBy (w.alloc (.cells us.toArray e)) v.ownBlock := ⟨rfl, rfl, rfl, by simp, fun k hk _ => ((Below.refl w.heap.size w).alloc (Nat.le_refl _) _).block k hk⟩
  exact ⟨h3.os.trans hal.os, h3.tape.trans hal.tape, h3.output.trans hal.output, Nat.le_trans hal.size h3.size, fun k hk hne => (h3.block k (Nat.lt_of_lt_of_le hk hal.size) hne).trans (hal.block k hk hne)⟩
 ·intro g hg
  rcases h5 with h5 | h5
  ·exact .inl (h5 ▸ hg)
  ·rw [h5] at hg
   injection hg with hg
   simp at hg
   exact .inr (by omega)
 ·exact (((Below.refl _ _).alloc hbase _).grown h3 (by simp; omega) (fun k hk => (hown.lt k hk).1))
/-- What the captured list holds. -/
def FormI (c : Nat) (L : List Re) (g : Option Nat) (w : World) : Prop := ∃ v, Blk w c [v] 69 ∧ OwnsR (c + 1) w v L ∧ v.ownBlock = g ∧ L.length ≤ 300000
theorem FormI.at_ {c : Nat} {L : List Re} {g : Option Nat} {w : World} (h : FormI c L g w) : c < w.heap.size ∧ ∀ k, g = some k → c + 1 ≤ k ∧ k < w.heap.size := by
  obtain ⟨v, h1, h2, h3, h4⟩ := h
  refine ⟨h1.lt, fun k hk => ?_⟩
  have := own_in h2 k (by rw [h3]; exact hk)
  exact this
theorem flatR_snoc {l : List Re} {t : Re} {cs : List Value} (h : cs = t.enc) : l.flatMap Re.enc ++ cs = (l ++ [t]).flatMap Re.enc := by
  rw [h, List.flatMap_append]; simp
end
section
set_option linter.unusedSimpArgs false
set_option linter.unusedVariables false
/-- A row of the call's own, perhaps cut. -/
def CutR (base : Nat) (w : World) (v : Value) (l : List Re) : Prop := (v = .slice none 0 0 ∧ l = []) ∨ ∃ g cap cur, v = .slice (some ⟨g, 0, none⟩) l.length cap ∧ base ≤ g ∧ w.heap[g]? = some (.cells cur 42 (0, 0)) ∧ l.length ≤ cap ∧ cap ≤ maxLen ∧ cap * 4 ≤ cur.size ∧ cur.toList.take (l.length * 4) = l.flatMap Re.enc
theorem CutR.nil (base : Nat) (w : World) : CutR base w (.slice none 0 0) [] := .inl ⟨rfl, rfl⟩
theorem CutR.below {base B : Nat} {w w' : World} {v : Value} {l : List Re} (h : CutR base w v l) (hb : Below B w w') (hB : w.heap.size ≤ B) : CutR base w' v l := by
  rcases h with h | ⟨g, cap, cur, h1, h2, h3, h4⟩
  · exact .inl h
  · exact .inr ⟨g, cap, cur, h1, h2, (hb.block g (Nat.lt_of_lt_of_le (lt_of_block h3) hB)).trans h3, h4⟩
theorem CutR.shape {base : Nat} {w : World} {v : Value} {l : List Re} (h : CutR base w v l) : ∃ s cap, v = .slice s l.length cap := by
  rcases h with ⟨rfl, rfl⟩ | ⟨g, cap, cur, h1, _⟩
  · exact ⟨_, _, rfl⟩
  · exact ⟨_, _, h1⟩
theorem CutR.block {base : Nat} {w : World} {v : Value} {l : List Re} (h : CutR base w v l) : ∀ g, v.ownBlock = some g → base ≤ g ∧ g < w.heap.size := by
  intro g hg
  rcases h with ⟨rfl, _⟩ | ⟨g', cap, cur, rfl, h2, h3, _⟩
  · cases hg
  · simp [Value.ownBlock] at hg
    subst hg
    exact ⟨h2, lt_of_block h3⟩
theorem CutR.row {base B : Nat} {w : World} {v : Value} {l : List Re} (h : CutR base w v l) (hB : w.heap.size ≤ B) : Row B 4 Re.enc w v l := by
  rcases h with ⟨rfl, rfl⟩ | ⟨g, cap, cur, rfl, h2, h3, h4, h5, h6, h7⟩
  · exact ⟨none, 0, rfl, by simp, by unfold maxLen; omega, fun h => by simp at h⟩
  · refine ⟨_, cap, rfl, h4, h5, fun h0 => ⟨g, 0, rfl, Nat.lt_of_lt_of_le (lt_of_block h3) hB, fun j x hj i u hi => ?_⟩⟩
    have hjl := (List.getElem?_eq_some_iff.1 hj).1
    have hil : i < 4 := (List.getElem?_eq_some_iff.1 hi).1
    have hp : (l.flatMap Re.enc)[j * 4 + i]? = some u := by
      rw [flat_get Re.enc_len (by omega), show (j * 4 + i) / 4 = j by omega, show (j * 4 + i) % 4 = i by omega, hj]
      exact hi
    rw [← h7, List.getElem?_take, if_pos (by omega)] at hp
    simp only [World.cell?, h3, Nat.zero_add]
    simpa using hp
theorem CutR.of {base : Nat} {w : World} {s : Option Addr} {n cap : Nat} {l : List Re} (h : OwnsR base w (.slice s n cap) l) (hn : l.length = n) : CutR base w (.slice s n n) l := by
  unfold OwnsR at h
  rw [hn] at h
  rcases h.2 with ⟨e, h0⟩ | ⟨g, cap', cur, e, h2, h3, h4, h5, h6, h7⟩
  · injection e with e1 e2 e3
    subst e1
    subst h0
    exact .inl ⟨rfl, List.length_eq_zero_iff.1 hn⟩
  · injection e with e1 e2 e3
    subst e1
    refine .inr ⟨g, n, cur, by rw [hn], h2, h3, by omega, by omega, by rw [h6]; exact Nat.mul_le_mul_right 4 h4, by rw [hn]; exact h7⟩
end
end Go.Proofs.YtffmomgmkpmpkaaGreatDoor
