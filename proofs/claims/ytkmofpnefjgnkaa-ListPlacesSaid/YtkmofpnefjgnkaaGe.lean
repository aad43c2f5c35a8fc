/-
  XGe: XRegCa XRegCb XRegCc XRegCd.
-/
import Derived.Test.YtkmofpnefjgnkaaGd
import Derived.Deep.DeepCutAuto
import Derived.Laws.CopyOwn
namespace Go.Proofs.Ytkmofpnefjgnkaa
open Go.RowKit
set_option linter.unusedVariables false
attribute [local go_sem] vwp vUpon_value vUpon_skip vUpon_enter vUpon_row
set_option linter.unusedSimpArgs false
set_option linter.unusedVariables false
section
set_option linter.unusedSimpArgs false
set_option linter.unusedVariables false
theorem all_may_step {l : List Re} {k : Nat} {q : Re} (h : l[k]? = some q) : (l.drop k).all mayR = (mayR q && (l.drop (k + 1)).all mayR) := by
  rw [drop_get h]; rfl
theorem hasL_at {l : List Re} {k : Nat} {q : Re} (h : l[k]? = some q) (x y : Int) : hasL (l.drop k) x y = (hasR q x y || hasL (l.drop (k + 1)) x y) := by
  rw [drop_get h]; rfl
end
section
set_option linter.unusedSimpArgs false
set_option linter.unusedVariables false
theorem edgeI_has (n : Int) : ∀ (l : List Int) (a : Nat) (x : Int), (∀ (j : Nat) y, j < a → l[j]? = some y → y < n) → l[a]? = some x → x = n → edgeI l n = l
  | [], a, x, _, h, _ => by simp at h
  | y :: l, 0, x, _, h, e => by
    simp at h; subst h; subst e
    unfold edgeI
    rw [if_neg (by omega), if_pos rfl]
  | y :: l, a + 1, x, hl, h, e => by
    unfold edgeI
    rw [if_pos (hl 0 y (by omega) rfl), edgeI_has n l a x (fun j z hj hz => hl (j + 1) z (by omega) (by simpa using hz)) (by simpa using h) e]
theorem edgeI_ins (n : Int) : ∀ (l : List Int) (a : Nat), (∀ (j : Nat) y, j < a → l[j]? = some y → y < n) → (∀ y, l[a]? = some y → n < y) → a ≤ l.length → edgeI l n = l.take a ++ n :: l.drop a
  | [], a, _, _, h => by
    have : a = 0 := by simpa using h
    subst this; rfl
  | y :: l, 0, _, h2, _ => by
    have := h2 y rfl
    unfold edgeI
    rw [if_neg (by omega), if_neg (by omega)]
    rfl
  | y :: l, a + 1, hl, h2, h3 => by
    unfold edgeI
    rw [if_pos (hl 0 y (by omega) rfl), edgeI_ins n l a (fun j z hj hz => hl (j + 1) z (by omega) (by simpa using hz)) (fun z hz => h2 z (by simpa using hz)) (by simpa using h3)]
    rfl
theorem edgeI_len (l : List Int) (n : Int) : (edgeI l n).length ≤ l.length + 1 := by
  induction l with
  | nil => simp [edgeI]
  | cons a r ih =>
    unfold edgeI
    split
    · simp; omega
    · split <;> simp
def vI (n : Int) : Value := .int .i64 n
theorem own_insI {w7 : World} {base g cap L a : Nat} {n : Int} {ix : List Int} {cur : Array Value} {e : TypeId} (hh : w7.heap[g]? = some (.cells (splice cur.toList (a + 1) ((ix.map vI).drop a)).toArray e (0, 0))) (hbase : base ≤ g) (hnc : L + 1 ≤ cap) (hcm : cap ≤ maxLen) (hs : cur.size = cap * 1)
    (ht : cur.toList.take ((L + 1) * 1) = ix.map vI ++ [Value.int .i64 0]) (hL : ix.length = L) (ha : a ≤ L) :
    (w7.setCell ⟨g, a, none⟩ (.int .i64 n)).ownsRow base e 1 (.slice (some ⟨g, 0, none⟩) (L + 1) cap) (L + 1) ((ix.take a ++ n :: ix.drop a).map vI) := by
  have hsp := length_splice cur.toList (a + 1) ((ix.map vI).drop a) (by simp; omega)
  refine ⟨by simp; omega, .inr ⟨g, cap, _, rfl, hbase, heap_setCell_same _ _ _ _ _ _ hh, hnc, hcm, by rw [Array.size_setIfInBounds, List.size_toArray, hsp]; simpa using hs, ?_⟩⟩
  rw [Array.toList_setIfInBounds, Nat.mul_one]
  rw [Nat.mul_one] at ht
  have h1 : cur.toList.take (a + 1) = (ix.map vI ++ [Value.int .i64 0]).take (a + 1) := by rw [← ht, List.take_take, Nat.min_eq_left (by omega)]
  obtain ⟨z, h2⟩ : ∃ z, (ix.map vI ++ [Value.int .i64 0]).take (a + 1) = (ix.map vI).take a ++ [z] := by
    refine ⟨(ix.map vI ++ [Value.int .i64 0])[a]'(by simp; omega), ?_⟩
    rw [List.take_succ_eq_append_getElem (by simp; omega), List.take_append_of_le_length (by simp; omega)]
  unfold splice
  rw [h1, h2]
  have h3 : ((ix.map vI).take a ++ [z] ++ ((ix.map vI).drop a ++ cur.toList.drop (a + 1 + ((ix.map vI).drop a).length))).set a (.int .i64 n) = ((ix.map vI).take a ++ [.int .i64 n] ++ (ix.map vI).drop a) ++ cur.toList.drop (a + 1 + ((ix.map vI).drop a).length) := by
    rw [List.append_assoc, List.set_append_right _ _ (by simp; omega)]
    have : a - ((ix.map vI).take a).length = 0 := by simp; omega
    rw [this]
    simp
  rw [h3, List.take_left' (by simp; omega)]
  simp [vI, List.map_take, List.map_drop]
theorem flatVI (l : List Int) : l.flatMap encI = l.map vI := by
  induction l with
  | nil => rfl
  | cons a r ih => rw [List.flatMap_cons, ih]; rfl
theorem wpList_copy_grown {P : Program} {w : World} {ops : Array Oper} {rest : List Oper} {o : Oper} {a : Act} {Q : Exit → Act → World → Prop} (hgd : o.guard = none) (d s : Operand) (dT sT : TypeId)
    (ho : o.op = .call { callee := .builtin .copy, args := #[d, s], argTypes := #[dT, sT] }) (elem : TypeId) (hu : P.underlying dT = some (.slice elem)) (hsz : (P.info? elem).map (·.size) = some 1)
    (dp sp : Option Addr) (dLen dCap sLen sCap : Nat) (hd : a.eval d = .slice dp dLen dCap) (hs : a.eval s = .slice sp sLen sCap)
    (g off : Nat) (cur : List Value) (t : TypeId) (hg : w.heap[g]? = some (.cells cur.toArray t (0, 0))) (cs : List Value) (hn : cs.length = Nat.min sLen dLen)
    (hpos : 0 < cs.length → dp = some ⟨g, off, none⟩ ∧ ∃ ad, sp = some ad ∧ ∀ j v, cs[j]? = some v → w.cell? (ad.add j) = some v)
    (hfit : off + cs.length ≤ cur.length) (h1 : ∀ v ∈ cs, v.oneCell' = true)
    (h : ∀ w', Hid (w'.heap[g]? = some (.cells (splice cur off cs).toArray t (0, 0))) → w.grownBy w' (some g) → wpList P ops Q rest (a.put o.dst (goInt cs.length)) w') :
    wpList P ops Q (o :: rest) a w := by
  by_cases h0 : cs.length = 0
  · obtain rfl : cs = [] := List.eq_nil_of_length_eq_zero h0
    refine wpList_copy_nothing hgd d s dT sT ho elem hu hsz dp sp dLen dCap sLen sCap hd hs (by simpa using hn.symm) ?_
    exact h w (show _ = _ by simpa [splice] using hg) (grown_refl _ _)
  · obtain ⟨rfl, ad, rfl, hsrc⟩ := hpos (by omega)
    refine wpList_copy_own hgd d s dT sT ho elem hu hsz g off dLen dCap ad sLen sCap hd hs cur.toArray t hg cs hn hsrc (by simpa using hfit) h1 ?_
    refine h _ (show _ = _ by simpa [splice] using setRow_heap w g _ _ t _ hg) ⟨rfl, rfl, rfl, by simp [World.setRow], fun k hk hne => setRow_other w g k _ (by intro e; exact hne (by rw [e]))⟩
theorem edge_close {w w6 uE w7 : World} {r : Option Nat} {g6 : Nat} (h6 : w.grownBy w6 r) (t6 : r = some g6 ∨ w.heap.size < g6) (hE : Below w6.heap.size w6 uE) (h7 : uE.grownBy w7 (some g6)) (o : Nat) (x : Option (Nat × Nat)) (u : Value) :
    w.grownBy (w7.setCell ⟨g6, o, none⟩ u) r := by
  refine ⟨h7.os.trans (hE.os.trans h6.os), h7.tape.trans (hE.tape.trans h6.tape), h7.output.trans (hE.output.trans h6.output), ?_, fun k hk hne => ?_⟩
  · have e : (w7.setCell ⟨g6, o, none⟩ u).heap.size = w7.heap.size := by simp
    rw [e]
    exact Nat.le_trans h6.size (Nat.le_trans hE.size h7.size)
  · have hkg : k ≠ g6 := by
      rintro rfl
      rcases t6 with h | h
      · exact hne h.symm
      · omega
    have k6 := Nat.lt_of_lt_of_le hk h6.size
    rw [heap_setCell_other _ _ _ _ hkg, h7.block k (Nat.lt_of_lt_of_le k6 hE.size) (by intro e; injection e with e; exact hkg e), hE.block k k6, h6.block k hk hne]
def EdgePost (ns : List Int) (B : Nat) (v : Value) (w : World) (e : Ending) (w' : World) : Prop := w.grownBy w' v.ownBlock ∧ ∃ v', e = .returned v' ∧ OwnsI B w' v' ns ∧ ∀ g, v'.ownBlock = some g → v.ownBlock = some g ∨ w.heap.size ≤ g
end
section
set_option linter.unusedSimpArgs false
set_option linter.unusedVariables false
def edgF (down : Bool) (y : Int) (ts : List Int) (q : Re) : List Int := if down then edgY ts q else edgX y ts q
theorem edgF_len (down : Bool) (y : Int) (ts : List Int) (q : Re) : (edgF down y ts q).length ≤ ts.length + 2 := by
  have h1 := edgeI_len ts q.y
  have h2 := edgeI_len (edgeI ts q.y) (q.y + q.ht)
  have h3 := edgeI_len ts q.x
  have h4 := edgeI_len (edgeI ts q.x) (q.x + q.wd)
  unfold edgF edgY edgX
  split
  · split <;> omega
  · split
    · omega
    · split <;> omega
theorem edgF_fold (down : Bool) (y : Int) : ∀ (l : List Re) (ts : List Int), (l.foldl (edgF down y) ts).length ≤ ts.length + l.length * 2
  | [], ts => by simp
  | q :: l, ts => by
    have h1 := edgF_fold down y l (edgF down y ts q)
    have h2 := edgF_len down y ts q
    rw [List.foldl_cons, List.length_cons]
    omega
theorem edgF_step {l : List Re} {k : Nat} {q : Re} (h : l[k]? = some q) (down : Bool) (y : Int) (ts : List Int) : (l.drop k).foldl (edgF down y) ts = (l.drop (k + 1)).foldl (edgF down y) (edgF down y ts q) := by
  rw [drop_get h]; rfl
/-- Only the row that came in, or a new one, has turned. -/
def EdI (v : Value) (w : World) (tv : Value) (wr : World) : Prop := w.grownBy wr v.ownBlock ∧ ∀ g, tv.ownBlock = some g → v.ownBlock = some g ∨ w.heap.size ≤ g
theorem EdI.start (v : Value) (w : World) : EdI v w v w := ⟨grown_refl _ _, fun g hg => .inl hg⟩
theorem EdI.step {v tv v' : Value} {w wr w1 w2 : World} (h : EdI v w tv wr) (hb : Below wr.heap.size wr w1) (hg : w1.grownBy w2 tv.ownBlock) (tw : ∀ g, v'.ownBlock = some g → tv.ownBlock = some g ∨ w1.heap.size ≤ g) : EdI v w v' w2 := by
  obtain ⟨h1, h2⟩ := h
  have z1 := h1.size
  have z2 := hb.size
  refine ⟨⟨hg.os.trans (hb.os.trans h1.os), hg.tape.trans (hb.tape.trans h1.tape), hg.output.trans (hb.output.trans h1.output), Nat.le_trans (Nat.le_trans z1 z2) hg.size, fun k hk hne => ?_⟩, fun g hg' => ?_⟩
  · rw [hg.block k (by omega) (by
      intro e
      rcases h2 k e.symm with h | h
      · exact hne h.symm
      · omega), hb.block k (by omega), h1.block k hk hne]
  · rcases tw g hg' with h | h
    · exact h2 g h
    · exact .inr (by omega)
theorem EdI.stay {v tv : Value} {w wr w1 : World} (h : EdI v w tv wr) (hb : Below wr.heap.size wr w1) : EdI v w tv w1 :=
  h.step hb (grown_refl _ _) (fun g hg => .inl hg)
theorem grown_far {w w' : World} {r : Option Nat} (h : w.grownBy w' r) {b : Nat} (hb : b < w.heap.size) (hr : ∀ g, r = some g → g ≠ b) (o : Nat) : w'.cell? ⟨b, o, none⟩ = w.cell? ⟨b, o, none⟩ :=
  World.cell?_of_block (a := ⟨b, o, none⟩) (h.block b hb (fun e => hr b e.symm rfl))
theorem grown_below {B : Nat} {w w' : World} {r : Option Nat} (h : w.grownBy w' r) (hB : B ≤ w.heap.size) (hr : ∀ g, r = some g → B ≤ g) : Below B w w' :=
  ⟨h.os, h.tape, h.output, h.size, fun k hk => h.block k (by omega) (fun e => by have := hr k e.symm; omega)⟩
end
section
set_option linter.unusedSimpArgs false
set_option linter.unusedVariables false
theorem endsS_last : ∀ {M : List Sp} {p : Nat} {t : Sp}, M[p]? = some t → (endsS M)[2 * p + 1]? = some t.2
  | [], p, t, h => by simp at h
  | s :: M, 0, t, h => by simp at h; subst h; rfl
  | s :: M, p + 1, t, h => by
    have := endsS_last (M := M) (p := p) (t := t) (by simpa using h)
    rw [show endsS (s :: M) = s.1 :: s.2 :: endsS M from rfl, show 2 * (p + 1) + 1 = (2 * p + 1) + 1 + 1 by omega, List.getElem?_cons_succ, List.getElem?_cons_succ]
    exact this
theorem endsS_set : ∀ {M : List Sp} {p : Nat} {t : Sp} {y : Int}, M[p]? = some t → endsS (M.set p (t.1, y)) = (endsS M).set (2 * p + 1) y
  | [], p, t, y, h => by simp at h
  | s :: M, 0, t, y, h => by simp at h; subst h; rfl
  | s :: M, p + 1, t, y, h => by
    have := endsS_set (M := M) (p := p) (t := t) (y := y) (by simpa using h)
    rw [List.set_cons_succ, show endsS (s :: M.set p (t.1, y)) = s.1 :: s.2 :: endsS (M.set p (t.1, y)) from rfl, this, show endsS (s :: M) = s.1 :: s.2 :: endsS M from rfl, show 2 * (p + 1) + 1 = (2 * p + 1) + 1 + 1 by omega, List.set_cons_succ, List.set_cons_succ]
theorem endsS_app (M : List Sp) (x y : Int) : endsS (M ++ [(x, y)]) = endsS M ++ [x, y] := by
  unfold endsS
  rw [List.flatMap_append]
  rfl
theorem own_unfzI {w : World} {base g n cap : Nat} {C : List Int} (h : OwnsI base w (.slice (some ⟨g, 0, none⟩) n cap) C) (o : Nat) : w.frozen? ⟨g, o, none⟩ = false := by
  rcases h.2 with ⟨h0, _⟩ | ⟨g', cap', cur, hv, hg, hh, _⟩
  · cases h0
  · injection hv with hv _ _
    injection hv with hv
    injection hv with hv _ _
    subst hv
    simp [World.frozen?, hh]
theorem own_putI {w : World} {base g n cap k : Nat} {C : List Int} (h : OwnsI base w (.slice (some ⟨g, 0, none⟩) n cap) C) (hn : C.length = n) (hk : k < n) (u : Int) : OwnsI base (w.setCell ⟨g, k, none⟩ (.int .i64 u)) (.slice (some ⟨g, 0, none⟩) n cap) (C.set k u) := by
  unfold OwnsI at *
  rw [List.length_set, hn]
  rw [hn] at h
  have := own_put h (k := k) (by omega) (.int .i64 u)
  rw [flatVI] at this ⊢
  rw [List.map_set]
  exact this
theorem own_lessI {w : World} {base B : Nat} {v : Value} {C : List Int} (h : OwnsI base w v C) (hB : B ≤ base) : OwnsI B w v C := by
  unfold OwnsI at *
  obtain ⟨h1, h2⟩ := h
  refine ⟨h1, ?_⟩
  rcases h2 with h2 | ⟨g, cap, cur, hv, hg, r⟩
  · exact .inl h2
  · exact .inr ⟨g, cap, cur, hv, by omega, r⟩
theorem edgF_false (y : Int) : edgF false y = edgX y := by funext t q; rfl
theorem edgF_true (y : Int) : edgF true y = edgY := by funext t q; rfl
theorem edgesX_len (a b : List Re) (y : Int) : (edgesX a b y).length ≤ a.length * 2 + b.length * 2 := by
  unfold edgesX
  have h1 := edgF_fold false y a []
  have h2 := edgF_fold false y b (a.foldl (edgX y) [])
  rw [edgF_false] at h1 h2
  simp at h1
  omega
def SpansPost (l : List Sp) (w : World) (e : Ending) (w' : World) : Prop := Below w.heap.size w w' ∧ ∃ v, e = .returned v ∧ OwnsI w.heap.size w' v (endsS l)
end
end Go.Proofs.Ytkmofpnefjgnkaa
