/-
  slices.Delete of two strokes of a row of the call's own; idle pairs, plain.
-/
import Derived.Test.YtkmofpnefjgnkaaLisWi
import Derived.Laws.CopyRow
namespace Go.Proofs.Ytkmofpnefjgnkaa
open Go.RowKit
set_option linter.unusedVariables false
attribute [local go_sem] vwp vUpon_value vUpon_skip vUpon_enter vUpon_row
set_option linter.unusedSimpArgs false
set_option linter.unusedVariables false
/-! ### idle pairs -/
def pairB (c o : St) : Bool := decide (c.kind = 4) && decide (o.kind = 5)
def bGo : List St → List St → List St
  | st, [] => st.reverse
  | [], s :: r => bGo [s] r
  | c :: st, s :: r => if pairB c s then bGo st r else bGo (s :: c :: st) r
def busyL (xs : List St) : List St := bGo [] xs
theorem bGo_pair {c o : St} (h : pairB c o = true) : ∀ (a st b : List St), bGo st (a ++ c :: o :: b) = bGo st (a ++ b)
  | [], st, b => by
    have h4 : c.kind = 4 := by unfold pairB at h; simp at h; exact h.1
    have hn : ∀ d, pairB d c = false := fun d => by unfold pairB; simp; omega
    cases st with
    | nil => simp only [List.nil_append, bGo, h, if_true]
    | cons d st => simp only [List.nil_append, bGo, hn, h, if_true, Bool.false_eq_true, if_false]
  | x :: a, st, b => by
    cases st with
    | nil => simp only [List.cons_append, bGo]; exact bGo_pair h a [x] b
    | cons d st =>
      simp only [List.cons_append, bGo]
      cases pairB d x
      · simp only [Bool.false_eq_true, if_false]; exact bGo_pair h a _ b
      · simp only [if_true]; exact bGo_pair h a _ b
def NoPair : List St → Prop
  | [] => True
  | [_] => True
  | c :: o :: r => pairB c o = false ∧ NoPair (o :: r)
theorem bGo_none : ∀ (ys st : List St), NoPair ys → (∀ c ∈ st.head?, ∀ o ∈ ys.head?, pairB c o = false) → bGo st ys = st.reverse ++ ys
  | [], st, _, _ => by cases st <;> simp [bGo]
  | s :: r, st, h, hc => by
    have hr : NoPair r := by cases r with | nil => trivial | cons o r => exact h.2
    have hs : ∀ c ∈ [s].head?, ∀ o ∈ r.head?, pairB c o = false := by
      intro c hc o ho
      simp at hc; subst hc
      cases r with
      | nil => simp at ho
      | cons p r => simp at ho; subst ho; exact h.1
    cases st with
    | nil => rw [bGo, bGo_none r [s] hr hs]; simp
    | cons d st =>
      rw [bGo, if_neg (by rw [hc d (by simp) s (by simp)]; simp), bGo_none r (s :: d :: st) hr (fun c hc' o ho => hs c (by simpa using hc') o ho)]
      simp
theorem busy_none {ys : List St} (h : NoPair ys) : busyL ys = ys := by
  unfold busyL
  rw [bGo_none ys [] h (by simp)]
  rfl
theorem noPair_of : ∀ {ys : List St}, (∀ (j : Nat) c o, ys[j]? = some c → ys[j + 1]? = some o → pairB c o = false) → NoPair ys
  | [], _ => trivial
  | [_], _ => trivial
  | c :: o :: r, h => ⟨h 0 c o rfl rfl, noPair_of (ys := o :: r) (fun j a b ha hb => h (j + 1) a b (by simpa using ha) (by simpa using hb))⟩
theorem busy_del {ys : List St} {k : Nat} {c o : St} (hc : ys[k]? = some c) (ho : ys[k + 1]? = some o) (h : pairB c o = true) : busyL (ys.take k ++ ys.drop (k + 2)) = busyL ys := by
  obtain ⟨h1, e1⟩ := List.getElem?_eq_some_iff.1 hc
  obtain ⟨h2, e2⟩ := List.getElem?_eq_some_iff.1 ho
  have e : ys = ys.take k ++ c :: o :: ys.drop (k + 2) := by
    conv => lhs; rw [← List.take_append_drop k ys]
    congr 1
    rw [List.drop_eq_getElem_cons h1, e1, List.drop_eq_getElem_cons h2, e2]
  unfold busyL
  conv => rhs; rw [e]
  rw [bGo_pair h]
theorem bGo_le : ∀ (ys st : List St), (bGo st ys).length ≤ st.length + ys.length
  | [], st => by cases st <;> simp [bGo]
  | s :: r, [] => by rw [bGo]; have := bGo_le r [s]; simp at this ⊢; omega
  | s :: r, d :: st => by
    rw [bGo]
    split
    · have := bGo_le r st; simp at this ⊢; omega
    · have := bGo_le r (s :: d :: st); simp at this ⊢; omega
theorem busy_le (ys : List St) : (busyL ys).length ≤ ys.length := by have := bGo_le ys []; simpa [busyL] using this
theorem bGo_mem : ∀ (ys st : List St), ∀ s ∈ bGo st ys, s ∈ st ∨ s ∈ ys
  | [], st, s, h => by left; cases st with | nil => simp [bGo] at h | cons d r => rw [bGo] at h; simpa using List.mem_reverse.1 h
  | x :: r, [], s, h => by
    rw [bGo] at h
    rcases bGo_mem r [x] s h with h | h
    · simp at h; subst h; exact .inr (by simp)
    · exact .inr (by simp [h])
  | x :: r, d :: st, s, h => by
    rw [bGo] at h
    split at h
    · rcases bGo_mem r st s h with h | h
      · exact .inl (by simp [h])
      · exact .inr (by simp [h])
    · rcases bGo_mem r (x :: d :: st) s h with h | h
      · rcases List.mem_cons.1 h with rfl | h
        · exact .inr (by simp)
        · exact .inl h
      · exact .inr (by simp [h])
theorem busy_mem {ys : List St} {s : St} (h : s ∈ busyL ys) : s ∈ ys := by
  rcases bGo_mem ys [] s h with h | h
  · simp at h
  · exact h
/-! ### memory -/
theorem flat_take {α : Type} {enc : α → List Value} {sz : Nat} (he : ∀ y, (enc y).length = sz) : ∀ (ys : List α) (k : Nat), (ys.flatMap enc).take (k * sz) = (ys.take k).flatMap enc
  | [], k => by simp
  | y :: ys, 0 => by simp
  | y :: ys, k + 1 => by
    rw [List.flatMap_cons, List.take_succ_cons, List.flatMap_cons, ← flat_take he ys k, List.take_append, List.take_of_length_le (by rw [he, Nat.add_mul]; omega)]
    congr 2
    rw [he, Nat.add_mul]; omega
theorem flat_drop {α : Type} {enc : α → List Value} {sz : Nat} (he : ∀ y, (enc y).length = sz) : ∀ (ys : List α) (k : Nat), (ys.flatMap enc).drop (k * sz) = (ys.drop k).flatMap enc
  | [], k => by simp
  | y :: ys, 0 => by simp
  | y :: ys, k + 1 => by
    rw [List.flatMap_cons, List.drop_succ_cons, ← flat_drop he ys k, List.drop_append, List.drop_of_length_le (by rw [he, Nat.add_mul]; omega), List.nil_append]
    congr 1
    rw [he, Nat.add_mul]; omega
theorem run_clear_row {P : Program} (w : World) (t e : TypeId) (z : Value) (sz : Nat) (ht : P.underlying t = some (.slice e)) (hv : ∀ w, (zeroValue e).run P w = .ok z w) (hz : z.cells.size = sz) (h1 : ∀ u ∈ z.cells.toList, u.oneCell' = true)
    (g o n c : Nat) (cur : Array Value) (hn : 0 < n) (hsz : 0 < sz) (hg : w.heap[g]? = some (.cells cur e (0, 0))) (hl : o + n * sz ≤ cur.size) :
    ∃ zs : List Value, (∀ ty, (Builtin.clear_ #[t] ty #[.slice (some ⟨g, o, none⟩) n c]).run P w = .ok (.tuple #[]) (w.setRow g (cur.toList.take o ++ zs).toArray)) ∧ (cur.toList.take o ++ zs).length = cur.size := by
  have hzl : (Builtin.zeroCells z.cells n).toList.length = n * sz := by simp [size_zeroCells, hz]
  have hone : ∀ u ∈ (Builtin.zeroCells z.cells n).toList, u.oneCell' = true := by
    intro u hu
    unfold Builtin.zeroCells at hu
    simp only [Array.toList_map, Array.toList_range, List.mem_map] at hu
    obtain ⟨i, hi, rfl⟩ := hu
    rw [List.mem_range] at hi
    rw [getElem!_pos z.cells _ (Nat.mod_lt _ (by omega))]
    exact h1 _ (by simp)
  have hst := run_storeCells_at P g o e (Builtin.zeroCells z.cells n).toList 0 cur w hg (by rw [hzl]; simpa using hl) hone
  simp only [Nat.add_zero] at hst
  obtain ⟨m, rfl⟩ : ∃ m, n = m + 1 := ⟨n - 1, by omega⟩
  refine ⟨(Builtin.zeroCells z.cells (m + 1)).toList ++ cur.toList.drop (o + (Builtin.zeroCells z.cells (m + 1)).toList.length), ?_, ?_⟩
  · intro ty; simp [Builtin.clear_, run_underlying ht, hv, hst]
  · rw [List.length_append, List.length_append, List.length_drop, List.length_take, hzl]; simp; omega
/-- What stands in a row of the call's own once two elements are out, and the rest is cleared. -/
theorem own_del {w : World} {base g n cap i j sz : Nat} {e : TypeId} {α : Type} {enc : α → List Value} {xs : List α} (he : ∀ y, (enc y).length = sz) (hsz : 0 < sz) (h : w.ownsRow base e sz (.slice (some ⟨g, 0, none⟩) n cap) n (xs.flatMap enc)) (hn : xs.length = n) (hij : i ≤ j) (hj : j ≤ n) :
    ∃ cur : Array Value, w.heap[g]? = some (.cells cur e (0, 0)) ∧ cur.size = cap * sz ∧ n ≤ cap ∧ cap ≤ maxLen ∧ (∀ p u, ((xs.drop j).flatMap enc)[p]? = some u → w.cell? ⟨g, j * sz + p, none⟩ = some u) ∧
      ∀ (rest : List Value), ((cur.toList.take (i * sz) ++ (xs.drop j).flatMap enc ++ rest).take ((i + (n - j)) * sz) = (xs.take i ++ xs.drop j).flatMap enc) ∧ (cur.toList.take (i * sz) ++ (xs.drop j).flatMap enc).length = (i + (n - j)) * sz := by
  rcases h.2 with ⟨h0, _⟩ | ⟨g', cap', cur, hv, hg, hh, hnc, hcm, hcur, htake⟩
  · cases h0
  · injection hv with hv _ hc
    injection hv with hv
    injection hv with hv _ _
    subst hv
    subst hc
    have hti : cur.toList.take (i * sz) = (xs.take i).flatMap enc := by
      rw [← flat_take he, ← htake, List.take_take, Nat.min_eq_left (Nat.mul_le_mul_right _ (by omega))]
    have hlen : ((xs.take i).flatMap enc ++ (xs.drop j).flatMap enc).length = (i + (n - j)) * sz := by
      rw [List.length_append, flat_len he, flat_len he, List.length_take, List.length_drop, hn, Nat.min_eq_left (by omega), Nat.add_mul]
    refine ⟨cur, hh, hcur, hnc, hcm, fun p u hp => ?_, fun rest => ⟨?_, ?_⟩⟩
    · rw [← flat_drop he, List.getElem?_drop] at hp
      have hlt := (List.getElem?_eq_some_iff.1 hp).1
      rw [flat_len he, hn] at hlt
      rw [← htake, List.getElem?_take, if_pos hlt] at hp
      simp only [World.cell?, hh]
      simpa using hp
    · rw [hti, ← hlen, List.take_left, List.flatMap_append]
    · rw [hti]; exact hlen
section
variable {P : Program} {ops : Array Oper} {Q : Exit → Act → World → Prop}
theorem wpList_append_run {rest : List Oper} {o : Oper} {a : Act} (hgd : o.guard = none) (s x : Operand) (t : TypeId) (ho : o.op = .call { callee := .builtin .append, args := #[s, x], argTypes := #[t, t] })
    (v vx v' : Value) (w w' : World) (hs : a.eval s = v) (hx : a.eval x = vx) (hrun : (Builtin.append_ #[t, t] o.type #[v, vx]).run P w = .ok v' w') (h : wpList P ops Q rest (a.put o.dst v') w') : wpList P ops Q (o :: rest) a w := by
  refine wpList_plain hgd fun K hK => ?_
  unfold Oper.wp
  simp [execOp, ho, resolve, invoke, builtin, hs, hx, hrun, Result.andThen]
  exact hK _ _ h
theorem wpList_clear_run {rest : List Oper} {o : Oper} {a : Act} (hgd : o.guard = none) (s : Operand) (t : TypeId) (ho : o.op = .call { callee := .builtin .clear, args := #[s], argTypes := #[t] })
    (v v' : Value) (w w' : World) (hs : a.eval s = v) (hrun : (Builtin.clear_ #[t] o.type #[v]).run P w = .ok v' w') (h : wpList P ops Q rest (a.put o.dst v') w') : wpList P ops Q (o :: rest) a w := by
  refine wpList_plain hgd fun K hK => ?_
  unfold Oper.wp
  simp [execOp, ho, resolve, invoke, builtin, hs, hrun, Result.andThen]
  exact hK _ _ h
end
end Go.Proofs.Ytkmofpnefjgnkaa
