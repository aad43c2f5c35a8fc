/-
  XGj: XLisWi XLisDe XLisDf XLisBu XLisNo.
-/
import Derived.Laws.CopyRow
import Derived.ScopeJumps
import Derived.Test.YtffmomgmkpmpkaaGreatDoorProg
import Derived.Test.YtffmomgmkpmpkaaGreatDoorKp20
namespace Go.Proofs.YtffmomgmkpmpkaaGreatDoor
open Go.RowKit
set_option linter.unusedVariables false
attribute [local go_sem] vwp vUpon_value vUpon_skip vUpon_enter vUpon_row
set_option linter.unusedSimpArgs false
set_option linter.unusedVariables false
section
set_option linter.unusedSimpArgs false
set_option linter.unusedVariables false
/-- The first that a predicate holds of. -/
def fIdx (p : Re → Bool) : List Re → Int
  | [] => -1
  | q :: l => if p q then 0 else let i := fIdx p l; if i < 0 then -1 else i + 1
theorem fIdx_any (p : Re → Bool) : ∀ l : List Re, decide (0 ≤ fIdx p l) = l.any p
  | [] => by simp [fIdx]
  | q :: l => by
    have ih := fIdx_any p l
    unfold fIdx
    cases h : p q
    · simp only [Bool.false_eq_true, if_false, List.any_cons, h, Bool.false_or]
      rw [← ih]
      by_cases hi : fIdx p l < 0
      · rw [if_pos hi]; simp; omega
      · rw [if_neg hi]; simp; omega
    · simp [h]
theorem fIdx_hit {p : Re → Bool} {l : List Re} {k : Nat} {q : Re} (hq : l[k]? = some q) (hp : p q = true) (hb : ∀ j x, j < k → l[j]? = some x → p x = false) : fIdx p l = k := by
  induction l generalizing k with
  | nil => simp at hq
  | cons a l ih =>
    cases k with
    | zero => simp at hq; subst hq; unfold fIdx; rw [if_pos hp]; rfl
    | succ k =>
      have ha := hb 0 a (by omega) rfl
      have := ih (k := k) (by simpa using hq) (fun j x hj hx => hb (j + 1) x (by omega) (by simpa using hx))
      unfold fIdx
      rw [if_neg (by simp [ha]), this]
      simp only
      rw [if_neg (by omega)]; omega
theorem fIdx_miss {p : Re → Bool} {l : List Re} (hb : ∀ (j : Nat) x, l[j]? = some x → p x = false) : fIdx p l = -1 := by
  induction l with
  | nil => rfl
  | cons a l ih =>
    have ha := hb 0 a rfl
    have := ih (fun j x hx => hb (j + 1) x (by simpa using hx))
    unfold fIdx
    rw [if_neg (by simp [ha]), this]
    rfl
set_option maxHeartbeats 1000000 in
set_option maxRecDepth 100000 in
theorem idx_in (ps : List Re) (v : Value) (pred : Re → Bool) (b0 : Nat) (w : World) (hl : Row w.heap.size 4 Re.enc w v ps) (hm : ps.length ≤ 100000)
  (hp : ∀ (W : World) (x : Re), x ∈ ps → Below w.heap.size w W → Calls Tryz.prog 119 #[.agg #[.int .i64 (x).x, .int .i64 (x).y, .int .i64 (x).wd, .int .i64 (x).ht], .pointer (some ⟨b0, 0, none⟩)] W fun e w' => e = .returned (.bool (pred x)) ∧ Below W.heap.size W w') :
  Calls Tryz.prog 123 #[v, .func (.func 119) #[] #[.pointer (some ⟨b0, 0, none⟩)]] w fun e w' => e = .returned (.int .i64 (fIdx pred ps)) ∧ Below w.heap.size w w' := by
 obtain ⟨s0, cap, rfl, hmax⟩ := hl.shape
 have hopen := fun h0 => row_re hl h0
 clear hl
 obtain ⟨n, hn⟩ : ∃ n, ps.length = n := ⟨_, rfl⟩
 rw [hn] at hopen hm hmax ⊢
 replace hopen := Lib.hid hopen
 replace hn := Lib.hid hn
 replace hp := Lib.hid hp
 obtain ⟨R, hR⟩ : ∃ R, fIdx pred ps = R := ⟨_, rfl⟩
 rw [hR]
 replace hR := Lib.hid hR
 go_enter Tryz.func123, Tryz.ntmps123
 go_wp2
 go_loopw [8] (fun i wr => ∃ k : Nat, k ≤ n ∧ i = .int .i64 k ∧ Hid (∀ j x, j < k → ps[j]? = some x → pred x = false) ∧ Below w.heap.size w wr) (fun i _ => n - (intOf i).toNat)
 case atStart => exact ⟨0, Nat.zero_le _, rfl, Lib.hid (fun j x hj => absurd hj (Nat.not_lt_zero _)), Below.refl _ _⟩
 case round =>
  obtain ⟨k, hk, rfl, hno, hbr⟩ := hrel
  have zr := hbr.size
  obtain ⟨hcr, hfr⟩ := bcell hbr
  by_cases hkn : k < n
  ·obtain ⟨b, p, cap', e, hb, _, _, hel⟩ := hopen.out (by omega)
   simp at e
   obtain ⟨rfl, rfl⟩ := e
   obtain ⟨q, hq⟩ : ∃ s, ps[k]? = some s := ⟨ps[k]'(by have := hn.out; omega), List.getElem?_eq_getElem _⟩
   obtain ⟨g0, g1, g2, g3⟩ := hel k q hq
   have hkk : (k : Int) < n := by omega
   have yb : b < wr.heap.size := by omega
   have C := hp.out wr q (List.mem_of_getElem? hq) hbr
   cases hc : pred q
   ·have hno' : Hid (∀ j x, j < k + 1 → ps[j]? = some x → pred x = false) := Lib.hid (fun j x hj hx => by
     rcases Nat.lt_succ_iff_lt_or_eq.1 hj with hj | rfl
     ·exact hno.out j x hj hx
     ·rw [hq] at hx; injection hx with hx; rw [← hx]; exact hc)
    rw [hc] at C
    replace C := Lib.hid C
    clear hel hq hc
    go_wp2_with (first
     | (go_at_call 119; (with_reducible refine (C.out).mono ?_); rintro e w2 ⟨rfl, hb2⟩)
     | go_in)
    go_roundw
    case rel => exact ⟨k + 1, by omega, by go_num, hno', hbr.trans (hb2.mono zr)⟩
    case measure => simp [intOf]; omega
   ·have hit := fIdx_hit hq hc (fun j x hj hx => hno.out j x hj hx)
    rw [hR.out] at hit
    subst hit
    rw [hc] at C
    replace C := Lib.hid C
    clear hel hq hc
    go_wp2_with (first
     | (go_at_call 119; (with_reducible refine (C.out).mono ?_); rintro e w2 ⟨rfl, hb2⟩)
     | go_in)
    go_ret
    exact ⟨rfl, hbr.trans (hb2.mono zr)⟩
  ·obtain rfl : k = n := by omega
   have miss : fIdx pred ps = -1 := fIdx_miss (fun j x hx => hno.out j x (by have := (List.getElem?_eq_some_iff.1 hx).1; have := hn.out; omega) hx)
   rw [hR.out] at miss
   subst miss
   go_wp2
   go_ret
   exact ⟨rfl, hbr⟩
set_option maxHeartbeats 1000000 in
set_option maxRecDepth 100000 in
theorem contains_in (ps : List Re) (v : Value) (pred : Re → Bool) (b0 : Nat) (w : World) (hl : Row w.heap.size 4 Re.enc w v ps) (hm : ps.length ≤ 100000)
    (hp : ∀ (W : World) (x : Re), x ∈ ps → Below w.heap.size w W → Calls Tryz.prog 119 #[.agg #[.int .i64 (x).x, .int .i64 (x).y, .int .i64 (x).wd, .int .i64 (x).ht], .pointer (some ⟨b0, 0, none⟩)] W fun e w' => e = .returned (.bool (pred x)) ∧ Below W.heap.size W w') :
    Calls Tryz.prog 81 #[v, .func (.func 119) #[] #[.pointer (some ⟨b0, 0, none⟩)]] w fun e w' => e = .returned (.bool (ps.any pred)) ∧ Below w.heap.size w w' := by
  have I := idx_in ps v pred b0 w hl hm hp
  have hA := fIdx_any pred ps
  obtain ⟨s0, cap, rfl, hmax⟩ := hl.shape
  clear hl hp
  generalize fIdx pred ps = i at I hA
  generalize ps.any pred = r at hA
  replace I := Lib.hid I
  subst hA
  go_enter Tryz.func81, Tryz.ntmps81
  go_wp2_with (first
    | (go_at_call 123; (with_reducible refine (I.out).mono ?_); rintro e w2 ⟨rfl, hb2⟩)
    | go_in)
  go_ret
  exact ⟨rfl, hb2⟩
theorem within1_any (p q : Re) (b : Nat) (w : World) (hp : p.Wf) (hq : q.Wf) (hb : b < w.heap.size) (h0 : RMem w b 0 q) : Calls Tryz.prog 119 #[.agg #[.int .i64 (p).x, .int .i64 (p).y, .int .i64 (p).wd, .int .i64 (p).ht], .pointer (some ⟨b, 0, none⟩)] w fun e w' => e = .returned (.bool (!inR p q)) ∧ Below w.heap.size w w' := by
  have I := fun w => in_any p q w hp hq
  obtain ⟨g0, g1, g2, g3⟩ := h0
  simp only [Nat.zero_add] at g1 g2 g3
  generalize inR p q = r at I
  replace I := Lib.hid I
  go_enter Tryz.func119, Tryz.ntmps119
  go_wp2_with (first
    | (go_at_call 120; (with_reducible refine (I.out _).mono ?_); rintro e w2 ⟨rfl, hb2⟩)
    | go_in)
  go_ret
  exact ⟨rfl, belt⟩
/-- All of them in it. -/
def wthB (ps : List Re) (q : Re) : Bool := ps.all fun p => inR p q
theorem wth_not (ps : List Re) (q : Re) : (!(ps.any fun p => !inR p q)) = wthB ps q := by
  unfold wthB
  induction ps with
  | nil => rfl
  | cons p ps ih => simp only [List.any_cons, List.all_cons, Bool.not_or, Bool.not_not, ih]
set_option maxRecDepth 100000 in
theorem within_any (ps : List Re) (q : Re) (v : Value) (w : World) (hl : Row w.heap.size 4 Re.enc w v ps) (hm : ps.length ≤ 100000) (hp : ∀ p ∈ ps, p.Wf) (hq : q.Wf) : Calls Tryz.prog 77 #[v, .agg #[.int .i64 (q).x, .int .i64 (q).y, .int .i64 (q).wd, .int .i64 (q).ht]] w fun e w' => e = .returned (.bool (wthB ps q)) ∧ Below w.heap.size w w' := by
 have hw := wth_not ps q
 obtain ⟨s0, cap, rfl, hmax⟩ := hl.shape
 have C : ∀ w1 : World, w1 = w.alloc (.cells #[.int .i64 q.x, .int .i64 q.y, .int .i64 q.wd, .int .i64 q.ht] 42) → Calls Tryz.prog 81 #[.slice s0 ps.length cap, .func (.func 119) #[] #[.pointer (some ⟨w.heap.size, 0, none⟩)]] w1 fun e w' => e = .returned (.bool (ps.any fun p => !inR p q)) ∧ Below w1.heap.size w1 w' := by
  rintro w1 rfl
  have hb1 : Below w.heap.size w (w.alloc (.cells #[.int .i64 q.x, .int .i64 q.y, .int .i64 q.wd, .int .i64 q.ht] 42)) := (Below.refl _ _).alloc (Nat.le_refl _) _
  refine contains_in ps _ (fun p => !inR p q) w.heap.size _ ((hl.below hb1).mono hb1.size) hm (fun W x hx hb => ?_)
  have hs : w.heap.size < (w.alloc (.cells #[.int .i64 q.x, .int .i64 q.y, .int .i64 q.wd, .int .i64 q.ht] 42)).heap.size := by simp
  refine within1_any x q w.heap.size W (hp x hx) hq (Nat.lt_of_lt_of_le hs hb.size) ⟨?_, ?_, ?_, ?_⟩
  ·rw [hb.cell (p := ⟨w.heap.size, 0, none⟩) hs, World.cell?_alloc_at _ _ _ _ rfl]; rfl
  ·rw [hb.cell (p := ⟨w.heap.size, 1, none⟩) hs, World.cell?_alloc_at _ _ _ _ rfl]; rfl
  ·rw [hb.cell (p := ⟨w.heap.size, 2, none⟩) hs, World.cell?_alloc_at _ _ _ _ rfl]; rfl
  ·rw [hb.cell (p := ⟨w.heap.size, 3, none⟩) hs, World.cell?_alloc_at _ _ _ _ rfl]; rfl
 generalize wthB ps q = r at hw ⊢
 generalize (ps.any fun p => !inR p q) = r' at C hw
 subst hw
 clear hl hp
 replace C := Lib.hid C
 go_enter Tryz.func77, Tryz.ntmps77
 go_wp2_with (first
  | (go_at_call 81; (with_reducible refine (C.out _ ?_).mono ?_); (first | rfl | exact rfl); rintro e w2 ⟨rfl, hb2⟩)
  | go_in)
 go_ret
 exact ⟨rfl, (Below.alloc (Below.refl _ _) (Nat.le_refl _) _).trans (hb2.mono (by simp))⟩
end
section
set_option linter.unusedSimpArgs false
set_option linter.unusedVariables false
/-! ### idle pairs -/
def pairB (c o : St) : Bool := decide (c.kind = 4) && decide (o.kind = 5)
def bGo : List St → List St → List St
  | st, [] => st.reverse
  | [], s :: r => bGo [s] r
  | c :: st, s :: r => if pairB c s then bGo st r else bGo (s :: c :: st) r
def busyL (xs : List St) : List St := bGo [] xs
theorem bGo_pair {c o : St} (h : pairB c o = true) : ∀ (a st b : List St), bGo st (a ++ c :: o :: b) = bGo st (a ++ b)
  | [], st, b => by
    have h4 : c.kind = 4 := by unfold pairB at h; simp at h; exact h.1
    have hn : ∀ d, pairB d c = false := fun d => by unfold pairB; simp; omega
    cases st with
    | nil => simp only [List.nil_append, bGo, h, if_true]
    | cons d st => simp only [List.nil_append, bGo, hn, h, if_true, Bool.false_eq_true, if_false]
  | x :: a, st, b => by
    cases st with
    | nil => simp only [List.cons_append, bGo]; exact bGo_pair h a [x] b
    | cons d st =>
      simp only [List.cons_append, bGo]
      cases pairB d x
      · simp only [Bool.false_eq_true, if_false]; exact bGo_pair h a _ b
      · simp only [if_true]; exact bGo_pair h a _ b
def NoPair : List St → Prop
  | [] => True
  | [_] => True
  | c :: o :: r => pairB c o = false ∧ NoPair (o :: r)
theorem bGo_none : ∀ (ys st : List St), NoPair ys → (∀ c ∈ st.head?, ∀ o ∈ ys.head?, pairB c o = false) → bGo st ys = st.reverse ++ ys
  | [], st, _, _ => by cases st <;> simp [bGo]
  | s :: r, st, h, hc => by
    have hr : NoPair r := by cases r with | nil => trivial | cons o r => exact h.2
    have hs : ∀ c ∈ [s].head?, ∀ o ∈ r.head?, pairB c o = false := by
      intro c hc o ho
      simp at hc; subst hc
      cases r with
      | nil => simp at ho
      | cons p r => simp at ho; subst ho; exact h.1
    cases st with
    | nil => rw [bGo, bGo_none r [s] hr hs]; simp
    | cons d st =>
      rw [bGo, if_neg (by rw [hc d (by simp) s (by simp)]; simp), bGo_none r (s :: d :: st) hr (fun c hc' o ho => hs c (by simpa using hc') o ho)]
      simp
theorem busy_none {ys : List St} (h : NoPair ys) : busyL ys = ys := by
  unfold busyL
  rw [bGo_none ys [] h (by simp)]
  rfl
theorem noPair_of : ∀ {ys : List St}, (∀ (j : Nat) c o, ys[j]? = some c → ys[j + 1]? = some o → pairB c o = false) → NoPair ys
  | [], _ => trivial
  | [_], _ => trivial
  | c :: o :: r, h => ⟨h 0 c o rfl rfl, noPair_of (ys := o :: r) (fun j a b ha hb => h (j + 1) a b (by simpa using ha) (by simpa using hb))⟩
theorem busy_del {ys : List St} {k : Nat} {c o : St} (hc : ys[k]? = some c) (ho : ys[k + 1]? = some o) (h : pairB c o = true) : busyL (ys.take k ++ ys.drop (k + 2)) = busyL ys := by
  obtain ⟨h1, e1⟩ := List.getElem?_eq_some_iff.1 hc
  obtain ⟨h2, e2⟩ := List.getElem?_eq_some_iff.1 ho
  have e : ys = ys.take k ++ c :: o :: ys.drop (k + 2) := by
    conv => lhs; rw [← List.take_append_drop k ys]
    congr 1
    rw [List.drop_eq_getElem_cons h1, e1, List.drop_eq_getElem_cons h2, e2]
  unfold busyL
  conv => rhs; rw [e]
  rw [bGo_pair h]
theorem bGo_le : ∀ (ys st : List St), (bGo st ys).length ≤ st.length + ys.length
  | [], st => by cases st <;> simp [bGo]
  | s :: r, [] => by rw [bGo]; have := bGo_le r [s]; simp at this ⊢; omega
  | s :: r, d :: st => by
    rw [bGo]
    split
    · have := bGo_le r st; simp at this ⊢; omega
    · have := bGo_le r (s :: d :: st); simp at this ⊢; omega
theorem busy_le (ys : List St) : (busyL ys).length ≤ ys.length := by have := bGo_le ys []; simpa [busyL] using this
theorem bGo_mem : ∀ (ys st : List St), ∀ s ∈ bGo st ys, s ∈ st ∨ s ∈ ys
  | [], st, s, h => by left; cases st with | nil => simp [bGo] at h | cons d r => rw [bGo] at h; simpa using List.mem_reverse.1 h
  | x :: r, [], s, h => by
    rw [bGo] at h
    rcases bGo_mem r [x] s h with h | h
    · simp at h; subst h; exact .inr (by simp)
    · exact .inr (by simp [h])
  | x :: r, d :: st, s, h => by
    rw [bGo] at h
    split at h
    · rcases bGo_mem r st s h with h | h
      · exact .inl (by simp [h])
      · exact .inr (by simp [h])
    · rcases bGo_mem r (x :: d :: st) s h with h | h
      · rcases List.mem_cons.1 h with rfl | h
        · exact .inr (by simp)
        · exact .inl h
      · exact .inr (by simp [h])
theorem busy_mem {ys : List St} {s : St} (h : s ∈ busyL ys) : s ∈ ys := by
  rcases bGo_mem ys [] s h with h | h
  · simp at h
  · exact h
/-! ### memory -/
theorem flat_take {α : Type} {enc : α → List Value} {sz : Nat} (he : ∀ y, (enc y).length = sz) : ∀ (ys : List α) (k : Nat), (ys.flatMap enc).take (k * sz) = (ys.take k).flatMap enc
  | [], k => by simp
  | y :: ys, 0 => by simp
  | y :: ys, k + 1 => by
    rw [List.flatMap_cons, List.take_succ_cons, List.flatMap_cons, ← flat_take he ys k, List.take_append, List.take_of_length_le (by rw [he, Nat.add_mul]; omega)]
    congr 2
    rw [he, Nat.add_mul]; omega
theorem flat_drop {α : Type} {enc : α → List Value} {sz : Nat} (he : ∀ y, (enc y).length = sz) : ∀ (ys : List α) (k : Nat), (ys.flatMap enc).drop (k * sz) = (ys.drop k).flatMap enc
  | [], k => by simp
  | y :: ys, 0 => by simp
  | y :: ys, k + 1 => by
    rw [List.flatMap_cons, List.drop_succ_cons, ← flat_drop he ys k, List.drop_append, List.drop_of_length_le (by rw [he, Nat.add_mul]; omega), List.nil_append]
    congr 1
    rw [he, Nat.add_mul]; omega
theorem run_clear_row {P : Program} (w : World) (t e : TypeId) (z : Value) (sz : Nat) (ht : P.underlying t = some (.slice e)) (hv : ∀ w, (zeroValue e).run P w = .ok z w) (hz : z.cells.size = sz) (h1 : ∀ u ∈ z.cells.toList, u.oneCell' = true)
  (g o n c : Nat) (cur : Array Value) (hn : 0 < n) (hsz : 0 < sz) (hg : w.heap[g]? = some (.cells cur e (0, 0))) (hl : o + n * sz ≤ cur.size) :
  ∃ zs : List Value, (∀ ty, (Builtin.clear_ #[t] ty #[.slice (some ⟨g, o, none⟩) n c]).run P w = .ok (.tuple #[]) (w.setRow g (cur.toList.take o ++ zs).toArray)) ∧ (cur.toList.take o ++ zs).length = cur.size := by
 have hzl : (Builtin.zeroCells z.cells n).toList.length = n * sz := by simp [size_zeroCells, hz]
 have hone : ∀ u ∈ (Builtin.zeroCells z.cells n).toList, u.oneCell' = true := by
  intro u hu
  unfold Builtin.zeroCells at hu
  simp only [Array.toList_map, Array.toList_range, List.mem_map] at hu
  obtain ⟨i, hi, rfl⟩ := hu
  rw [List.mem_range] at hi
  rw [getElem!_pos z.cells _ (Nat.mod_lt _ (by omega))]
  exact h1 _ (by simp)
 have hst := run_storeCells_at P g o e (Builtin.zeroCells z.cells n).toList 0 cur w hg (by rw [hzl]; simpa using hl) hone
 simp only [Nat.add_zero] at hst
 obtain ⟨m, rfl⟩ : ∃ m, n = m + 1 := ⟨n - 1, by omega⟩
 refine ⟨(Builtin.zeroCells z.cells (m + 1)).toList ++ cur.toList.drop (o + (Builtin.zeroCells z.cells (m + 1)).toList.length), ?_, ?_⟩
 ·intro ty; simp [Builtin.clear_, run_underlying ht, hv, hst]
 ·rw [List.length_append, List.length_append, List.length_drop, List.length_take, hzl]; simp; omega
/-- What stands in a row of the call's own once two elements are out, and the rest is cleared. -/
theorem own_del {w : World} {base g n cap i j sz : Nat} {e : TypeId} {α : Type} {enc : α → List Value} {xs : List α} (he : ∀ y, (enc y).length = sz) (hsz : 0 < sz) (h : w.ownsRow base e sz (.slice (some ⟨g, 0, none⟩) n cap) n (xs.flatMap enc)) (hn : xs.length = n) (hij : i ≤ j) (hj : j ≤ n) :
  ∃ cur : Array Value, w.heap[g]? = some (.cells cur e (0, 0)) ∧ cur.size = cap * sz ∧ n ≤ cap ∧ cap ≤ maxLen ∧ (∀ p u, ((xs.drop j).flatMap enc)[p]? = some u → w.cell? ⟨g, j * sz + p, none⟩ = some u) ∧
   ∀ (rest : List Value), ((cur.toList.take (i * sz) ++ (xs.drop j).flatMap enc ++ rest).take ((i + (n - j)) * sz) = (xs.take i ++ xs.drop j).flatMap enc) ∧ (cur.toList.take (i * sz) ++ (xs.drop j).flatMap enc).length = (i + (n - j)) * sz := by
 rcases h.2 with ⟨h0, _⟩ | ⟨g', cap', cur, hv, hg, hh, hnc, hcm, hcur, htake⟩
 ·cases h0
 ·injection hv with hv _ hc
  injection hv with hv
  injection hv with hv _ _
  subst hv
  subst hc
  have hti : cur.toList.take (i * sz) = (xs.take i).flatMap enc := by
   rw [← flat_take he, ← htake, List.take_take, Nat.min_eq_left (Nat.mul_le_mul_right _ (by omega))]
  have hlen : ((xs.take i).flatMap enc ++ (xs.drop j).flatMap enc).length = (i + (n - j)) * sz := by
   rw [List.length_append, flat_len he, flat_len he, List.length_take, List.length_drop, hn, Nat.min_eq_left (by omega), Nat.add_mul]
  refine ⟨cur, hh, hcur, hnc, hcm, fun p u hp => ?_, fun rest => ⟨?_, ?_⟩⟩
  ·rw [← flat_drop he, List.getElem?_drop] at hp
   have hlt := (List.getElem?_eq_some_iff.1 hp).1
   rw [flat_len he, hn] at hlt
   rw [← htake, List.getElem?_take, if_pos hlt] at hp
   simp only [World.cell?, hh]
   simpa using hp
  ·rw [hti, ← hlen, List.take_left, List.flatMap_append]
  ·rw [hti]; exact hlen
section
variable {P : Program} {ops : Array Oper} {Q : Exit → Act → World → Prop}
theorem wpList_append_run {rest : List Oper} {o : Oper} {a : Act} (hgd : o.guard = none) (s x : Operand) (t : TypeId) (ho : o.op = .call { callee := .builtin .append, args := #[s, x], argTypes := #[t, t] })
    (v vx v' : Value) (w w' : World) (hs : a.eval s = v) (hx : a.eval x = vx) (hrun : (Builtin.append_ #[t, t] o.type #[v, vx]).run P w = .ok v' w') (h : wpList P ops Q rest (a.put o.dst v') w') : wpList P ops Q (o :: rest) a w := by
  refine wpList_plain hgd fun K hK => ?_
  unfold Oper.wp
  simp [execOp, ho, resolve, invoke, builtin, hs, hx, hrun, Result.andThen]
  exact hK _ _ h
theorem wpList_clear_run {rest : List Oper} {o : Oper} {a : Act} (hgd : o.guard = none) (s : Operand) (t : TypeId) (ho : o.op = .call { callee := .builtin .clear, args := #[s], argTypes := #[t] })
    (v v' : Value) (w w' : World) (hs : a.eval s = v) (hrun : (Builtin.clear_ #[t] o.type #[v]).run P w = .ok v' w') (h : wpList P ops Q rest (a.put o.dst v') w') : wpList P ops Q (o :: rest) a w := by
  refine wpList_plain hgd fun K hK => ?_
  unfold Oper.wp
  simp [execOp, ho, resolve, invoke, builtin, hs, hrun, Result.andThen]
  exact hK _ _ h
end
end
section
set_option linter.unusedSimpArgs false
set_option linter.unusedVariables false
theorem zero_stroke (w : World) : (zeroValue 46).run Tryz.prog w = .ok (.agg #[.int .u8 0, .int .i64 0, .int .i64 0, .int .i64 0, .int .i64 0, .int .u8 0, .int .u8 0, .int .u8 0, .int .u8 0, .int .u8 0, .int .u8 0, .int .u8 0, .int .u8 0, .string ⟨#[]⟩, .int .i64 0]) w := by kernel_rfl
set_option maxHeartbeats 2000000 in
set_option maxRecDepth 100000 in
theorem delete_any (base i j : Nat) (xs : List St) (v : Value) (w : World) (h : Owns base w v xs) (hij : i < j) (hj : j ≤ xs.length) (hm : xs.length ≤ 100000) :
  Calls Tryz.prog 121 #[v, .int .i64 i, .int .i64 j] w fun e w' => ∃ v', e = .returned v' ∧ Owns base w' v' (xs.take i ++ xs.drop j) ∧ w.grownBy w' v.ownBlock ∧ v'.ownBlock = v.ownBlock := by
 obtain ⟨s0, cap, rfl⟩ := own_slice h
 obtain ⟨n, hn⟩ : ∃ n, xs.length = n := ⟨_, rfl⟩
 unfold Owns at h
 rw [hn] at h hj hm ⊢
 obtain ⟨g, rfl, hg, hgl⟩ := own_addr h (by omega)
 obtain ⟨iM, hi0, hm0, hm1, hm2⟩ := info_parts infoSt
 have hcap : n ≤ cap ∧ cap ≤ maxLen := by
  rcases h.2 with ⟨h1, _⟩ | ⟨g', cap', cur, e, _, _, hnc, hcm, _⟩
  ·cases h1
  ·injection e with _ _ e3; subst e3; exact ⟨hnc, hcm⟩
 obtain ⟨hc1, hc2⟩ := hcap
 unfold maxLen at hc2
 have p1 : (i : Int) ≤ j := by omega
 have p2 : (j : Int) ≤ n := by omega
 have p3 : (n : Int) ≤ cap := by omega
 have p4 : ((i : Int) == j) = false := by simp; omega
 have p5 : (0 : Int) ≤ i := by omega
 have p6 : (0 : Int) ≤ j := by omega
 have p7 : (i : Int) ≤ cap := by omega
 have p8 : (i : Int) ≤ n := by omega
 replace hn := Lib.hid hn
 have hh0 := Lib.hid h
 clear h
 go_enter Tryz.func121, Tryz.ntmps121
 go_upto_region 5 with fail
 refine wp_region_steady_then (Held w 0 []) 6 (by kernel_rfl) (by kernel_rfl) (by decide) (by kernel_rfl) (by kernel_rfl) ⟨belt, (by (try simp) <;> omega), (by first | exact trivial | (simp only [Cells]; go_simp))⟩ ?_
 simp only [List.take_succ_cons, List.take_zero]
 repeat (first | (refine' sdo ?_; simp only [pu]) | (refine spa ?_; simp only [pu]))
 refine wpSteady_nil (fun u9 hS9 => ?_)
 obtain ⟨hc9, hb9, hz9, hco9, hfo9⟩ := hall hS9; clear hS9; simp only [Cells] at hc9
 simp only [List.drop_succ_cons, List.drop_zero, List.drop_nil]
 have h9 := ownsRow_below hh0.out hb9 (Nat.le_refl _)
 obtain ⟨cur, hh, hcs, hnc, hcm, hcell, hrest⟩ := own_del (i := i) (j := j) St.enc_len (by omega) h9 hn.out (by omega) hj
 have hone : ∀ u ∈ (xs.drop j).flatMap St.enc, u.oneCell' = true := by
  intro u hu
  obtain ⟨y, _, hy⟩ := List.mem_flatMap.1 hu
  exact St.enc_one y u hy
 obtain ⟨news, hnews⟩ : ∃ news, (xs.drop j).flatMap St.enc = news := ⟨_, rfl⟩
 rw [hnews] at hcell hrest hone
 have hnl : news.length = (n - j) * 15 := by rw [← hnews, flat_len St.enc_len, List.length_drop, hn.out]
 obtain ⟨A, hA, hsrc⟩ : ∃ A : Addr, (if cap = j then some (⟨g, 0, none⟩ : Addr) else some ⟨g, j * 15, none⟩) = some A ∧ (∀ p u, news[p]? = some u → u9.cell? (A.add p) = some u) := by
  by_cases hc : cap = j
  ·refine ⟨⟨g, 0, none⟩, by simp [hc], fun p u hp => ?_⟩
   have : news.length = 0 := by rw [hnl]; omega
   rw [List.length_eq_zero_iff.1 this] at hp
   simp at hp
  ·refine ⟨⟨g, j * 15, none⟩, by simp [hc], fun p u hp => ?_⟩
   rw [Addr.add_lit]
   exact hcell p u hp
 have R1 : ∀ ty, (Builtin.append_ #[27, 27] ty #[.slice (some ⟨g, 0, none⟩) i cap, .slice (some A) (n - j) (cap - j)]).run Tryz.prog u9 = _ := fun ty =>
  run_append_room (P := Tryz.prog) u9 27 ty 46 iM Tryz.underlying27 hi0 g i cap cur hh A (n - j) (cap - j) news (by rw [hm1, hnl]) hsrc hone (by omega) (by rw [hm1, hnl, hcs]; omega)
 rw [hm1] at R1
 obtain ⟨w1, hw1⟩ : ∃ w1, u9.setRow g (cur.toList.take (i * 15) ++ news ++ cur.toList.drop (i * 15 + news.length)).toArray = w1 := ⟨_, rfl⟩
 rw [hw1] at R1
 have hh1 : w1.heap[g]? = some (.cells (cur.toList.take (i * 15) ++ news ++ cur.toList.drop (i * 15 + news.length)).toArray 46 (0, 0)) := by rw [← hw1]; exact setRow_heap u9 g cur _ _ _ hh
 have hs1 : (cur.toList.take (i * 15) ++ news ++ cur.toList.drop (i * 15 + news.length)).length = cap * 15 := by
  have h2 := (hrest []).2
  rw [List.length_append, h2, List.length_drop, Array.length_toList, hcs, hnl]; omega
 obtain ⟨zs, R2, hzl⟩ := run_clear_row (P := Tryz.prog) w1 27 46 (.agg #[.int .u8 0, .int .i64 0, .int .i64 0, .int .i64 0, .int .i64 0, .int .u8 0, .int .u8 0, .int .u8 0, .int .u8 0, .int .u8 0, .int .u8 0, .int .u8 0, .int .u8 0, .string ⟨#[]⟩, .int .i64 0]) 15 Tryz.underlying27 zero_stroke rfl (by decide +kernel) g ((i + (n - j)) * 15) (n - (i + (n - j))) (cap - (i + (n - j))) _ (by omega) (by omega) hh1 (by simp only [List.size_toArray]; rw [hs1]; omega)
 simp only [List.toList_toArray, List.size_toArray] at hzl R2
 have own2 : (w1.setRow g ((cur.toList.take (i * 15) ++ news ++ cur.toList.drop (i * 15 + news.length)).take ((i + (n - j)) * 15) ++ zs).toArray).ownsRow base 46 15 (.slice (some ⟨g, 0, none⟩) (i + (n - j)) cap) (i + (n - j)) ((xs.take i ++ xs.drop j).flatMap St.enc) := by
  refine ⟨by rw [flat_len St.enc_len, List.length_append, List.length_take, List.length_drop, hn.out, Nat.min_eq_left (by omega)], .inr ⟨g, cap, _, rfl, hg, setRow_heap w1 g _ _ _ _ hh1, by omega, hcm, ?_, ?_⟩⟩
  ·rw [List.size_toArray, hzl, hs1]
  ·have := (hrest (cur.toList.drop (i * 15 + news.length))).1
   simp only [this]
   rw [List.take_left' (by rw [flat_len St.enc_len, List.length_append, List.length_take, List.length_drop, hn.out, Nat.min_eq_left (by omega)])]
 have gr1 : u9.grownBy w1 (some g) := by
  rw [← hw1]
  exact ⟨rfl, rfl, rfl, by simp, fun k _ hk => setRow_other u9 g k _ (fun e => hk (by simp [e]))⟩
 have gr2 : u9.grownBy (w1.setRow g ((cur.toList.take (i * 15) ++ news ++ cur.toList.drop (i * 15 + news.length)).take ((i + (n - j)) * 15) ++ zs).toArray) (some g) :=
  ⟨gr1.os, gr1.tape, gr1.output, by simpa using gr1.size, fun k hk hne => (setRow_other w1 g k _ (fun e => hne (by simp [e]))).trans (gr1.block k hk hne)⟩
 have gr3 : w.grownBy (w1.setRow g ((cur.toList.take (i * 15) ++ news ++ cur.toList.drop (i * 15 + news.length)).take ((i + (n - j)) * 15) ++ zs).toArray) (some g) :=
  ⟨gr2.os.trans hb9.os, gr2.tape.trans hb9.tape, gr2.output.trans hb9.output, Nat.le_trans hb9.size gr2.size, fun k hk hne => (gr2.block k (Nat.lt_of_lt_of_le hk hb9.size) hne).trans (hb9.block k hk)⟩
 rw [hA]
 obtain ⟨r, hr⟩ : ∃ r, i + (n - j) = r := ⟨_, rfl⟩
 rw [hr] at R1 R2 own2 gr2 gr3
 generalize w1.setRow g ((cur.toList.take (i * 15) ++ news ++ cur.toList.drop (i * 15 + news.length)).take (r * 15) ++ zs).toArray = w2 at R2 own2 gr2 gr3
 have q1 : r < n := by omega
 have q2 : ¬ cap = r := by omega
 have q3 : (r : Int) ≤ n := by omega
 have q4 : (0 : Int) ≤ r := by omega
 have q5 : (r : Int) ≤ cap := by omega
 refine wpList_append_run rfl (.tmp 22) (.tmp 25) _ rfl _ _ _ _ _ (by rfl) (by rfl) (R1 _) ?_
 have own2' := Lib.hid own2
 have gr3' := Lib.hid gr3
 have hr' := Lib.hid hr
 have R2' := fun ty => R2 ty
 clear own2 gr2 gr3 gr1 hr hw1 hh1 hs1 hzl hrest hcell hsrc hA hcs hh R1 hnews hnl hone h9 hcm hnc
 go_wp2_with (first
  | (refine wpList_clear_run rfl (.tmp 31) _ rfl _ _ _ _ (by rfl) (R2' _) ?_)
  | go_in)
 go_ret
 refine ⟨_, rfl, ?_, gr3'.out, rfl⟩
 unfold Owns
 rw [List.length_append, List.length_take, List.length_drop, hn.out, Nat.min_eq_left (by omega), hr'.out]
 exact own2'.out
end
section
set_option linter.unusedSimpArgs false
set_option linter.unusedVariables false
def BusyJ (base : Nat) (xs : List St) (vb : Option Nat) (w : World) (a' : Act) (w' : World) : Prop :=
  ∃ (ys : List St) (vy : Value) (x3 x4 x5 x6 x7 x8 x9 x10 x11 x12 x13 x14 x15 x16 x17 x18 x19 x20 x21 x22 x23 x24 x25 x26 x27 x28 x29 x30 x31 : Value), a' = { tmps := #[vy, undef, .slice none 0 0, x3, x4, x5, x6, x7, x8, x9, x10, x11, x12, x13, x14, x15, x16, x17, x18, x19, x20, x21, x22, x23, x24, x25, x26, x27, x28, x29, x30, x31], defers := [] } ∧ Owns base w' vy ys ∧ busyL ys = busyL xs ∧ w.grownBy w' vb ∧ vy.ownBlock = vb ∧ ys.length ≤ xs.length
def busyM (a' : Act) : Nat := match a'.tmps.getD 0 undef with | .slice _ n _ => n | _ => 0
theorem grown_trans {w w1 w2 : World} {o : Option Nat} (h1 : w.grownBy w1 o) (h2 : w1.grownBy w2 o) : w.grownBy w2 o :=
  ⟨h2.os.trans h1.os, h2.tape.trans h1.tape, h2.output.trans h1.output, Nat.le_trans h1.size h2.size, fun k hk hne => (h2.block k (Nat.lt_of_lt_of_le hk h1.size) hne).trans (h1.block k hk hne)⟩
set_option maxHeartbeats 2000000 in
set_option maxRecDepth 100000 in
theorem busy_any (base : Nat) (xs : List St) (v : Value) (w : World) (h : Owns base w v xs) (hm : xs.length ≤ 100000) :
  Calls Tryz.prog 78 #[v] w fun e w' => ∃ v', e = .returned v' ∧ Owns base w' v' (busyL xs) ∧ w.grownBy w' v.ownBlock ∧ v'.ownBlock = v.ownBlock := by
 obtain ⟨vb, hvb0⟩ : ∃ vb, v.ownBlock = vb := ⟨_, rfl⟩
 replace hvb0 := Lib.hid hvb0
 go_enter Tryz.func78, Tryz.ntmps78
 go_wp2
 refine wp_scope_jumps 0 (BusyJ base xs vb w) (fun a' _ => busyM a') rfl ?_ ?_
 ·go_wp2
  go_step3
  go_wp2
  obtain ⟨ys, hown, hbus, hle⟩ : ∃ ys, Owns base w v ys ∧ busyL ys = busyL xs ∧ ys.length ≤ xs.length := ⟨xs, h, rfl, Nat.le_refl _⟩
  have hgr : w.grownBy w vb := grown_refl _ _
  have hvb : v.ownBlock = vb := hvb0.out
  clear h
  obtain ⟨st, cap, rfl⟩ := own_slice hown
  obtain ⟨m, hm'⟩ : ∃ m, ys.length = m := ⟨_, rfl⟩
  have hD := fun (i j : Nat) hij hj => delete_any base i j ys _ w hown hij hj (by omega)
  have hsm := fun (g : Nat) (k : Nat) (s : St) (h : Owns base w (.slice (some ⟨g, 0, none⟩) m cap) ys) (hs : ys[k]? = some s) => own_smem h hs
  unfold Owns at hown
  rw [hm'] at hown hD hle hvb
  replace hD := Lib.hid hD
  replace hsm := Lib.hid hsm
  replace hm' := Lib.hid hm'
  replace hbus := Lib.hid hbus
  replace hgr := Lib.hid hgr
  replace hvb := Lib.hid hvb
  (try rw [hm'.out])
  replace hown := Lib.hid hown
  go_wp2
  go_loopw [0, 3] (fun l i wr => l = .slice st m cap ∧ w = wr ∧ ∃ k : Nat, 1 ≤ k ∧ (k ≤ m ∨ k = 1) ∧ i = .int .i64 k ∧ Hid (∀ (j : Nat) c o, j + 1 < k → ys[j]? = some c → ys[j + 1]? = some o → pairB c o = false)) (fun _ i _ => m + 1 - (intOf i).toNat)
  case atStart => exact ⟨by first | rfl | trivial, by first | rfl | trivial, 1, Nat.le_refl _, .inr rfl, rfl, Lib.hid (fun j c o hj => by omega)⟩
  case round =>
   obtain ⟨rfl, rfl, k, hk1, hk2, rfl, hno⟩ := hrel
   by_cases hkn : k < m
   ·obtain ⟨g, rfl, hg, hgl⟩ := own_addr hown.out (by omega)
    obtain ⟨c, hc⟩ : ∃ c, ys[k - 1]? = some c := ⟨ys[k - 1]'(by have := hm'.out; omega), List.getElem?_eq_getElem _⟩
    obtain ⟨o, ho⟩ : ∃ o, ys[k]? = some o := ⟨ys[k]'(by have := hm'.out; omega), List.getElem?_eq_getElem _⟩
    have hO : Owns base w (.slice (some ⟨g, 0, none⟩) m cap) ys := by unfold Owns; rw [hm'.out]; exact hown.out
    obtain ⟨g0, _⟩ := hsm.out g (k - 1) c hO hc
    obtain ⟨j0, _⟩ := hsm.out g k o hO ho
    have hkk : (k : Int) < m := by omega
    have p2 : (1 : Int) ≤ k := by omega
    have p3 : (k : Int) - 1 < m := by omega
    have p4 : ((k : Int) - 1).toNat = k - 1 := by omega
    have p5 : (0 : Int) ≤ (k : Int) - 1 := by omega
    have ho' : ys[k - 1 + 1]? = some o := by rw [show k - 1 + 1 = k by omega]; exact ho
    clear hO
    by_cases q4 : c.kind = 4
    ·by_cases q5 : o.kind = 5
     ·have hp : pairB c o = true := by unfold pairB; simp [q4, q5]
      have hbd := busy_del hc ho' hp
      have D := hD.out (k - 1) (k + 1) (by omega) (by omega)
      rw [show ((k - 1 : Nat) : Int) = (k : Int) - 1 by omega, show ((k + 1 : Nat) : Int) = (k : Int) + 1 by omega] at D
      rw [show k - 1 + 2 = k + 1 by omega] at hbd
      replace D := Lib.hid D
      replace hbd := Lib.hid hbd
      rw [q4] at g0
      rw [q5] at j0
      clear hc ho ho' hp q4 q5
      go_wp2_with (first
       | (go_at_call 121; (with_reducible refine (D.out).mono ?_); rintro e w2 ⟨v2, rfl, hown2, hgr2, hvb2⟩)
       | go_in)
      go_step3
      have hgr2' := hgr2
      rw [hvb.out] at hgr2' hvb2
      have hl2 : (ys.take (k - 1) ++ ys.drop (k + 1)).length < m := by rw [List.length_append, List.length_take, List.length_drop, hm'.out]; omega
      obtain ⟨s2, c2, rfl⟩ := own_slice hown2
      exact ⟨rfl, ⟨_, _, _, _, _, _, _, _, _, _, _, _, _, _, _, _, _, _, _, _, _, _, _, _, _, _, _, _, _, _, _, rfl, hown2, hbd.out.trans hbus.out, grown_trans hgr.out hgr2', hvb2, by omega⟩⟩
     ·have hp : pairB c o = false := by unfold pairB; simp [q5]
      have hno' : Hid (∀ (j : Nat) c o, j + 1 < k + 1 → ys[j]? = some c → ys[j + 1]? = some o → pairB c o = false) := Lib.hid (fun j c' o' hj h1 h2 => by
       by_cases hjk : j + 1 < k
       ·exact hno.out j c' o' hjk h1 h2
       ·obtain rfl : j = k - 1 := by omega
        rw [hc] at h1; rw [ho'] at h2
        injection h1 with h1; injection h2 with h2
        rw [← h1, ← h2]; exact hp)
      have q5b : (o.kind == 5) = false := by simp [q5]
      rw [q4] at g0
      clear hc ho ho' hp q4
      go_wp2
      go_roundw
      case rel => exact ⟨by first | rfl | trivial, by first | rfl | trivial, k + 1, by omega, by omega, by go_num, hno'⟩
      case measure => simp [intOf]; omega
    ·have hp : pairB c o = false := by unfold pairB; simp [q4]
     have hno' : Hid (∀ (j : Nat) c o, j + 1 < k + 1 → ys[j]? = some c → ys[j + 1]? = some o → pairB c o = false) := Lib.hid (fun j c' o' hj h1 h2 => by
      by_cases hjk : j + 1 < k
      ·exact hno.out j c' o' hjk h1 h2
      ·obtain rfl : j = k - 1 := by omega
       rw [hc] at h1; rw [ho'] at h2
       injection h1 with h1; injection h2 with h2
       rw [← h1, ← h2]; exact hp)
     have q4b : (c.kind == 4) = false := by simp [q4]
     clear hc ho ho' hp
     go_wp2
     go_roundw
     case rel => exact ⟨by first | rfl | trivial, by first | rfl | trivial, k + 1, by omega, by omega, by go_num, hno'⟩
     case measure => simp [intOf]; omega
   ·have hnp : busyL ys = ys := busy_none (noPair_of (fun j c o h1 h2 => hno.out j c o (by have := (List.getElem?_eq_some_iff.1 h2).1; have := hm'.out; omega) h1 h2))
    have hkk : ¬ (k : Int) < m := by omega
    have hby := hbus.out
    rw [hnp] at hby
    replace hby := Lib.hid hby
    clear hnp
    go_wp2
    simp only [Exit.jump]
    go_ret
    refine ⟨_, rfl, ?_, by rw [hvb0.out]; exact hgr.out, by rw [hvb0.out]; exact hvb.out⟩
    rw [← hby.out]
    unfold Owns
    rw [hm'.out]
    exact hown.out
 ·rintro a' w1 ⟨ys, vy, x3, x4, x5, x6, x7, x8, x9, x10, x11, x12, x13, x14, x15, x16, x17, x18, x19, x20, x21, x22, x23, x24, x25, x26, x27, x28, x29, x30, x31, rfl, hown, hbus, hgr, hvb, hle⟩
  clear h
  obtain ⟨st, cap, rfl⟩ := own_slice hown
  obtain ⟨m, hm'⟩ : ∃ m, ys.length = m := ⟨_, rfl⟩
  have hD := fun (i j : Nat) hij hj => delete_any base i j ys _ w1 hown hij hj (by omega)
  have hsm := fun (g : Nat) (k : Nat) (s : St) (h : Owns base w1 (.slice (some ⟨g, 0, none⟩) m cap) ys) (hs : ys[k]? = some s) => own_smem h hs
  unfold Owns at hown
  rw [hm'] at hown hD hle hvb
  replace hD := Lib.hid hD
  replace hsm := Lib.hid hsm
  replace hm' := Lib.hid hm'
  replace hbus := Lib.hid hbus
  replace hgr := Lib.hid hgr
  replace hvb := Lib.hid hvb
  (try rw [hm'.out])
  replace hown := Lib.hid hown
  go_wp2
  go_loopw [0, 3] (fun l i wr => l = .slice st m cap ∧ w1 = wr ∧ ∃ k : Nat, 1 ≤ k ∧ (k ≤ m ∨ k = 1) ∧ i = .int .i64 k ∧ Hid (∀ (j : Nat) c o, j + 1 < k → ys[j]? = some c → ys[j + 1]? = some o → pairB c o = false)) (fun _ i _ => m + 1 - (intOf i).toNat)
  case atStart => exact ⟨by first | rfl | trivial, by first | rfl | trivial, 1, Nat.le_refl _, .inr rfl, rfl, Lib.hid (fun j c o hj => by omega)⟩
  case round =>
   obtain ⟨rfl, rfl, k, hk1, hk2, rfl, hno⟩ := hrel
   by_cases hkn : k < m
   ·obtain ⟨g, rfl, hg, hgl⟩ := own_addr hown.out (by omega)
    obtain ⟨c, hc⟩ : ∃ c, ys[k - 1]? = some c := ⟨ys[k - 1]'(by have := hm'.out; omega), List.getElem?_eq_getElem _⟩
    obtain ⟨o, ho⟩ : ∃ o, ys[k]? = some o := ⟨ys[k]'(by have := hm'.out; omega), List.getElem?_eq_getElem _⟩
    have hO : Owns base w1 (.slice (some ⟨g, 0, none⟩) m cap) ys := by unfold Owns; rw [hm'.out]; exact hown.out
    obtain ⟨g0, _⟩ := hsm.out g (k - 1) c hO hc
    obtain ⟨j0, _⟩ := hsm.out g k o hO ho
    have hkk : (k : Int) < m := by omega
    have p2 : (1 : Int) ≤ k := by omega
    have p3 : (k : Int) - 1 < m := by omega
    have p4 : ((k : Int) - 1).toNat = k - 1 := by omega
    have p5 : (0 : Int) ≤ (k : Int) - 1 := by omega
    have ho' : ys[k - 1 + 1]? = some o := by rw [show k - 1 + 1 = k by omega]; exact ho
    clear hO
    by_cases q4 : c.kind = 4
    ·by_cases q5 : o.kind = 5
     ·have hp : pairB c o = true := by unfold pairB; simp [q4, q5]
      have hbd := busy_del hc ho' hp
      have D := hD.out (k - 1) (k + 1) (by omega) (by omega)
      rw [show ((k - 1 : Nat) : Int) = (k : Int) - 1 by omega, show ((k + 1 : Nat) : Int) = (k : Int) + 1 by omega] at D
      rw [show k - 1 + 2 = k + 1 by omega] at hbd
      replace D := Lib.hid D
      replace hbd := Lib.hid hbd
      rw [q4] at g0
      rw [q5] at j0
      clear hc ho ho' hp q4 q5
      go_wp2_with (first
       | (go_at_call 121; (with_reducible refine (D.out).mono ?_); rintro e w2 ⟨v2, rfl, hown2, hgr2, hvb2⟩)
       | go_in)
      go_step3
      have hgr2' := hgr2
      rw [hvb.out] at hgr2' hvb2
      have hl2 : (ys.take (k - 1) ++ ys.drop (k + 1)).length < m := by rw [List.length_append, List.length_take, List.length_drop, hm'.out]; omega
      obtain ⟨s2, c2, rfl⟩ := own_slice hown2
      exact ⟨rfl, ⟨_, _, _, _, _, _, _, _, _, _, _, _, _, _, _, _, _, _, _, _, _, _, _, _, _, _, _, _, _, _, _, rfl, hown2, hbd.out.trans hbus.out, grown_trans hgr.out hgr2', hvb2, by omega⟩, hl2⟩
     ·have hp : pairB c o = false := by unfold pairB; simp [q5]
      have hno' : Hid (∀ (j : Nat) c o, j + 1 < k + 1 → ys[j]? = some c → ys[j + 1]? = some o → pairB c o = false) := Lib.hid (fun j c' o' hj h1 h2 => by
       by_cases hjk : j + 1 < k
       ·exact hno.out j c' o' hjk h1 h2
       ·obtain rfl : j = k - 1 := by omega
        rw [hc] at h1; rw [ho'] at h2
        injection h1 with h1; injection h2 with h2
        rw [← h1, ← h2]; exact hp)
      have q5b : (o.kind == 5) = false := by simp [q5]
      rw [q4] at g0
      clear hc ho ho' hp q4
      go_wp2
      go_roundw
      case rel => exact ⟨by first | rfl | trivial, by first | rfl | trivial, k + 1, by omega, by omega, by go_num, hno'⟩
      case measure => simp [intOf]; omega
    ·have hp : pairB c o = false := by unfold pairB; simp [q4]
     have hno' : Hid (∀ (j : Nat) c o, j + 1 < k + 1 → ys[j]? = some c → ys[j + 1]? = some o → pairB c o = false) := Lib.hid (fun j c' o' hj h1 h2 => by
      by_cases hjk : j + 1 < k
      ·exact hno.out j c' o' hjk h1 h2
      ·obtain rfl : j = k - 1 := by omega
       rw [hc] at h1; rw [ho'] at h2
       injection h1 with h1; injection h2 with h2
       rw [← h1, ← h2]; exact hp)
     have q4b : (c.kind == 4) = false := by simp [q4]
     clear hc ho ho' hp
     go_wp2
     go_roundw
     case rel => exact ⟨by first | rfl | trivial, by first | rfl | trivial, k + 1, by omega, by omega, by go_num, hno'⟩
     case measure => simp [intOf]; omega
   ·have hnp : busyL ys = ys := busy_none (noPair_of (fun j c o h1 h2 => hno.out j c o (by have := (List.getElem?_eq_some_iff.1 h2).1; have := hm'.out; omega) h1 h2))
    have hkk : ¬ (k : Int) < m := by omega
    have hby := hbus.out
    rw [hnp] at hby
    replace hby := Lib.hid hby
    clear hnp
    go_wp2
    simp only [Exit.jump]
    go_ret
    refine ⟨_, rfl, ?_, by rw [hvb0.out]; exact hgr.out, by rw [hvb0.out]; exact hvb.out⟩
    rw [← hby.out]
    unfold Owns
    rw [hm'.out]
    exact hown.out
end
section
set_option linter.unusedSimpArgs false
set_option linter.unusedVariables false
def covB (P : List Re) (s : St) (r : Re) : Bool := decide (s.kind = 1) && (decide (s.col.a = 255) && wthB P r)
def anyCov (P : List Re) : List St → List Re → Bool
  | s :: xs, r :: rs => covB P s r || anyCov P xs rs
  | _, _ => false
def hidB (s : St) (r : Re) (xs : List St) (rs : List Re) : Bool := drB s && (decide ((plcL s r).length = 0) || anyCov (plcL s r) xs rs)
def nrmGo : List St → List Re → List St
  | s :: xs, r :: rs => (if hidB s r xs rs then [] else [s]) ++ nrmGo xs rs
  | _, _ => []
def normS (xs : List St) : List St := if chkL xs = 0 then busyL (nrmGo xs (shL xs)) else []
theorem nrm_step {xs : List St} {rs : List Re} {k : Nat} {s : St} {q : Re} (hs : xs[k]? = some s) (hq : rs[k]? = some q) : nrmGo (xs.drop k) (rs.drop k) = (if hidB s q (xs.drop (k + 1)) (rs.drop (k + 1)) then [] else [s]) ++ nrmGo (xs.drop (k + 1)) (rs.drop (k + 1)) := by
  rw [drop_get hs, drop_get hq]; rfl
theorem cov_step {P : List Re} {xs : List St} {rs : List Re} {k : Nat} {s : St} {q : Re} (hs : xs[k]? = some s) (hq : rs[k]? = some q) : anyCov P (xs.drop k) (rs.drop k) = (covB P s q || anyCov P (xs.drop (k + 1)) (rs.drop (k + 1))) := by
  rw [drop_get hs, drop_get hq]; rfl
theorem cov_end {P : List Re} {xs : List St} {rs : List Re} {k : Nat} (h : xs.length ≤ k) : anyCov P (xs.drop k) (rs.drop k) = false := by
  rw [List.drop_eq_nil_of_le h]; rfl
theorem nrm_le : ∀ (xs : List St) (rs : List Re), (nrmGo xs rs).length ≤ xs.length
  | [], _ => by simp [nrmGo]
  | _ :: _, [] => by simp [nrmGo]
  | s :: xs, r :: rs => by
    have := nrm_le xs rs
    simp only [nrmGo, List.length_append, List.length_cons]
    split <;> simp <;> omega
theorem nrm_mem : ∀ (xs : List St) (rs : List Re) (s : St), s ∈ nrmGo xs rs → s ∈ xs
  | [], _, _, h => by simp [nrmGo] at h
  | _ :: _, [], _, h => by simp [nrmGo] at h
  | x :: xs, r :: rs, s, h => by
    rw [nrmGo] at h
    rcases List.mem_append.1 h with h | h
    · split at h
      · simp at h
      · simp at h; subst h; simp
    · exact List.mem_cons_of_mem _ (nrm_mem xs rs s h)
/-- The relation of Norm's outer loop. -/
def NoRel (w2 : World) (xs : List St) (R : List Re) (N : List St) (k : Nat) (v : Value) (wr : World) : Prop := ∃ O, Owns w2.heap.size wr v O ∧ O ++ nrmGo (xs.drop k) (R.drop k) = N ∧ O.length ≤ k ∧ Below w2.heap.size w2 wr
theorem smem_box {w : World} {s : St} (w4 : World) (hb : Below (w.alloc (.cells #[.int .u8 (s).kind, .int .i64 (s).rect.x, .int .i64 (s).rect.y, .int .i64 (s).rect.wd, .int .i64 (s).rect.ht, .int .u8 (s).col.r, .int .u8 (s).col.g, .int .u8 (s).col.b, .int .u8 (s).col.a, .int .u8 (s).back.r, .int .u8 (s).back.g, .int .u8 (s).back.b, .int .u8 (s).back.a, .string (s).text, .int .i64 (s).node] 46)).heap.size (w.alloc (.cells #[.int .u8 (s).kind, .int .i64 (s).rect.x, .int .i64 (s).rect.y, .int .i64 (s).rect.wd, .int .i64 (s).rect.ht, .int .u8 (s).col.r, .int .u8 (s).col.g, .int .u8 (s).col.b, .int .u8 (s).col.a, .int .u8 (s).back.r, .int .u8 (s).back.g, .int .u8 (s).back.b, .int .u8 (s).back.a, .string (s).text, .int .i64 (s).node] 46)) w4) : SMem w4 w.heap.size 0 s := by
  have h : Blk w4 w.heap.size s.enc 46 := (Blk.new' (cs := s.enc) rfl).below hb (by simp)
  exact smem_of (fun i u hi => by rw [Nat.zero_add]; exact h.cell hi)
theorem SMem.below {w w' : World} {b p B : Nat} {s : St} (h : SMem w b p s) (hb : Below B w w') (hB : b < B) : SMem w' b p s := by
  obtain ⟨g0, g1, g2, g3, g4, g5, g6, g7, g8, g9, g10, g11, g12, g13, g14⟩ := h
  exact ⟨(hb.cell (p := ⟨b, p, none⟩) hB).trans g0, (hb.cell (p := ⟨b, p + 1, none⟩) hB).trans g1, (hb.cell (p := ⟨b, p + 2, none⟩) hB).trans g2, (hb.cell (p := ⟨b, p + 3, none⟩) hB).trans g3, (hb.cell (p := ⟨b, p + 4, none⟩) hB).trans g4, (hb.cell (p := ⟨b, p + 5, none⟩) hB).trans g5, (hb.cell (p := ⟨b, p + 6, none⟩) hB).trans g6, (hb.cell (p := ⟨b, p + 7, none⟩) hB).trans g7, (hb.cell (p := ⟨b, p + 8, none⟩) hB).trans g8, (hb.cell (p := ⟨b, p + 9, none⟩) hB).trans g9, (hb.cell (p := ⟨b, p + 10, none⟩) hB).trans g10, (hb.cell (p := ⟨b, p + 11, none⟩) hB).trans g11, (hb.cell (p := ⟨b, p + 12, none⟩) hB).trans g12, (hb.cell (p := ⟨b, p + 13, none⟩) hB).trans g13, (hb.cell (p := ⟨b, p + 14, none⟩) hB).trans g14⟩
set_option maxHeartbeats 4000000 in
set_option maxRecDepth 100000 in
theorem lnorm_any (xs : List St) (v : Value) (w : World) (hl : Row w.heap.size 15 St.enc w v xs) (k1 : ∀ s ∈ xs, s.Wf) : Calls Tryz.prog 35 #[v] w (OutU w.heap.size (normS xs) (chkL xs) w) := by
 obtain ⟨iM, hi0, hm0, hm1, hm2⟩ := info_parts infoSt
 have C1 := fun w' (hb : Below w.heap.size w w') => lcheck_any xs v w' ((hl.below hb).mono hb.size) k1
 have K1 := fun w' (hb : Below w.heap.size w w') hc => lshown_any xs v w' ((hl.below hb).mono hb.size) k1 hc
 obtain ⟨s0, cap, rfl, hmax⟩ := hl.shape
 have hopen := fun h0 => row_st hl h0
 obtain ⟨n, en⟩ : ∃ n, xs.length = n := ⟨_, rfl⟩
 clear hl
 by_cases c1 : chkL xs = 0
 ·have l1 := chk_len c1
  have hz := fun s hs => chk_mem c1 s hs
  have hfS : normS xs = busyL (nrmGo xs (shL xs)) := if_pos c1
  have hRl := shL_len xs
  have hRm := shGo_may xs [] (by simp) (fun s hs => err_may (hz s hs))
  have K1 := fun w' hb => K1 w' hb c1
  change ∀ q ∈ shL xs, mayR q = true at hRm
  obtain ⟨R, hR⟩ : ∃ R, shL xs = R := ⟨_, rfl⟩
  rw [hfS]
  rw [hR] at K1 hRl hRm ⊢
  obtain ⟨N, hN⟩ : ∃ N, nrmGo xs R = N := ⟨_, rfl⟩
  have hNl := nrm_le xs R
  rw [hN] at hNl ⊢
  rw [c1] at C1 ⊢
  rw [en] at l1 hmax hopen C1 K1 hRl hNl ⊢
  replace C1 := Lib.hid C1
  replace K1 := Lib.hid K1
  replace hopen := Lib.hid hopen
  replace en := Lib.hid en
  replace hRl := Lib.hid hRl
  replace hRm := Lib.hid hRm
  replace k1 := Lib.hid k1
  replace hz := Lib.hid hz
  replace hN := Lib.hid hN
  clear c1 hR hfS
  go_enter Tryz.func35, Tryz.ntmps35
  go_wp2_with (first
   | (go_at_call 73; (with_reducible refine (C1.out _ belt).mono ?_); rintro e w3 ⟨rfl, hb3⟩; have z3 := hb3.size)
   | (go_at_call 74; (with_reducible refine (K1.out _ hb3).mono ?_); rintro e w2 ⟨v2, rfl, hown2, hb2⟩; obtain ⟨s2, cap2, rfl⟩ := own_slice hown2; rw [hRl.out])
   | go_in)
  have hb02 : Below w.heap.size w w2 := hb3.trans (hb2.mono z3)
  have z02 := hb02.size
  have hrow := hown2.row (Nat.le_refl w2.heap.size)
  have hopR := fun h0 => row_re hrow h0
  rw [hRl.out] at hopR
  replace hopR := Lib.hid hopR
  clear hrow hown2 hb2 hb3 z3
  obtain ⟨hcw, hfw⟩ := bcell hb02
  go_loopg [6, 21] n (fun gg vo i wr => ∃ (k : Nat), k ≤ n ∧ n - k ≤ gg ∧ i = .int .i64 k ∧ NoRel w2 xs R N k vo wr)
  case atStart => exact ⟨0, Nat.zero_le _, by omega, rfl, [], World.ownsRow_nil _ _ _ _, by simpa using hN.out, by simp, Below.refl _ _⟩
  case round =>
   obtain ⟨k, hk, hgg, rfl, O, hown, hNO, hOk, hbr⟩ := hrel
   have zr := hbr.size
   obtain ⟨hcr, hfr⟩ := bcell hbr
   by_cases hkn : k < n
   ·obtain ⟨b, p, cap', e, hb, _, _, hel⟩ := hopen.out (by omega)
    simp at e
    obtain ⟨rfl, rfl⟩ := e
    obtain ⟨b2, p2, cap2', e, hb2, hn2, hm2', hel2⟩ := hopR.out (by omega)
    simp at e
    obtain ⟨rfl, rfl⟩ := e
    obtain ⟨s, hs⟩ : ∃ s, xs[k]? = some s := ⟨xs[k]'(by have := en.out; omega), List.getElem?_eq_getElem _⟩
    obtain ⟨q, hq⟩ : ∃ q, R[k]? = some q := ⟨R[k]'(by have := hRl.out; omega), List.getElem?_eq_getElem _⟩
    have hstep := nrm_step hs hq
    have hsw := k1.out s (List.mem_of_getElem? hs)
    have hsm := err_may (hz.out s (List.mem_of_getElem? hs))
    have hqm := hRm.out q (List.mem_of_getElem? hq)
    have D := fun w => draws_any s w hsw.1
    have hkk : (k : Int) < n := by omega
    have yb : b < wr.heap.size := by omega
    have ybw : b < w2.heap.size := by omega
    have yb2 : b2 < wr.heap.size := by omega
    have hO16 : O.length ≤ 16384 := by omega
    obtain ⟨g0, g1, g2, g3, g4, g5, g6, g7, g8, g9, g10, g11, g12, g13, g14⟩ := hel k s hs
    obtain ⟨st0, cap0, rfl⟩ := own_slice hown
    obtain ⟨j0, j1, j2, j3⟩ := (hel2 k q hq)
    have RQ : RMem wr b2 (p2 + k * 4) q := (show RMem w2 b2 (p2 + k * 4) q from ⟨j0, j1, j2, j3⟩).below hbr hb2
    rw [hstep] at hNO
    replace hel := Lib.hid hel
    replace hel2 := Lib.hid hel2
    replace hown := Lib.hid hown
    replace hNO := Lib.hid hNO
    replace RQ := Lib.hid RQ
    clear hs hq hstep j0 j1 j2 j3
    cases hd : drB s
    ·rw [show decide (s.kind ≤ 3) = false from hd] at D
     have hh : hidB s q (xs.drop (k + 1)) (R.drop (k + 1)) = false := by unfold hidB; rw [hd]; rfl
     replace hNO := hNO.out
     rw [hh] at hNO
     replace hNO := Lib.hid hNO
     replace D := Lib.hid D
     clear hh hd
     go_upto_region 17 with (first
      | (go_at_call 75; (with_reducible refine (D.out _).mono ?_); rintro e w4 ⟨rfl, hb4⟩)
      | go_in)
     have hbox := smem_box w4 hb4
     have hb4r : Below wr.heap.size wr w4 := belt
     have z4 := hb4r.size
     have y4 : wr.heap.size < w4.heap.size := by have := hb4.size; simp at this; omega
     clear hb4 g0 g1 g2 g3 g4 g5 g6 g7 g8 g9 g10 g11 g12 g13 g14
     obtain ⟨k0, k1', k2, k3, k4, k5, k6, k7, k8, k9, k10, k11, k12, k13, k14⟩ := hbox
     simp only [Nat.zero_add] at k1' k2 k3 k4 k5 k6 k7 k8 k9 k10 k11 k12 k13 k14
     have hownX := (hown.out.below hb4r (Nat.le_refl _))
     unfold Owns at hownX
     go_wp2_with (first
      | (at_builtin; refine wpList_append_new rfl _ _ _ rfl w2.heap.size 46 iM _ 15 72 Tryz.underlying27 hi0 hm0 hm1 hm2 rfl (by omega) w4 1 _ _ _ _ (by rfl) hownX (by rfl) rfl (by simp [Value.oneCell']) (by omega) (by unfold maxLen; omega) (by omega) ?_; intro v9 w9 hown9 hb9)
      | go_in)
     have hcs : [.int .u8 (s).kind, .int .i64 (s).rect.x, .int .i64 (s).rect.y, .int .i64 (s).rect.wd, .int .i64 (s).rect.ht, .int .u8 (s).col.r, .int .u8 (s).col.g, .int .u8 (s).col.b, .int .u8 (s).col.a, .int .u8 (s).back.r, .int .u8 (s).back.g, .int .u8 (s).back.b, .int .u8 (s).back.a, .string (s).text, .int .i64 (s).node] = s.enc := rfl
     rw [flat_snoc hcs] at hown9
     have hbX : Below w2.heap.size w2 w9 := ((hbr.trans (hb4r.mono zr))).trans hb9
     replace hown9 := Lib.hid hown9
     go_wp2
     go_roundg (n - (k + 1))
     case measure => omega
     case rel =>
      refine ⟨k + 1, by omega, by omega, by go_num, O ++ [s], ?_, ?_, by simp; omega, hbX⟩
      ·unfold Owns; rw [List.length_append]; exact hown9.out
      ·have := hNO.out; simpa using this
    ·rw [show decide (s.kind ≤ 3) = true from hd] at D
     have hPL := fun w => places_any s q w hsw hsm hqm
     have hple := plc_le s q
     have hpm := plc_may (s := s) hqm
     obtain ⟨HB, hHB⟩ : ∃ HB, hidB s q (xs.drop (k + 1)) (R.drop (k + 1)) = HB := ⟨_, rfl⟩
     replace hNO := hNO.out
     rw [hHB] at hNO
     unfold hidB at hHB
     rw [hd, Bool.true_and] at hHB
     generalize plcL s q = P at hPL hple hpm hHB
     obtain ⟨pl, hpl⟩ : ∃ pl, P.length = pl := ⟨_, rfl⟩
     obtain ⟨pb, hpb⟩ : ∃ pb, ((pl : Int) == 0) = pb := ⟨_, rfl⟩
     rw [hpl] at hple hHB
     rw [show decide (pl = 0) = pb by rw [← hpb, Bool.eq_iff_iff]; simp] at hHB
     have hpw : ∀ m ∈ P, m.Wf := fun m hm => may_wf (hpm m hm)
     replace hNO := Lib.hid hNO
     replace hHB := Lib.hid hHB
     replace hpl := Lib.hid hpl
     replace hpw := Lib.hid hpw
     replace hPL := Lib.hid hPL
     replace D := Lib.hid D
     clear hd hpm
     go_upto_region 10 with (first
      | (go_at_call 75; (with_reducible refine (D.out _).mono ?_); rintro e w4 ⟨rfl, hb4⟩)
      | go_in)
     have hbox := smem_box w4 hb4
     have hb4r : Below wr.heap.size wr w4 := belt
     have z4 := hb4r.size
     have y4 : wr.heap.size < w4.heap.size := by have := hb4.size; simp at this; omega
     have RQ4 := RQ.out.below hb4r yb2
     have hbr4 := hbr.trans (hb4r.mono zr)
     have hown4 := hown.out.below hb4r (Nat.le_refl _)
     have hboxh := Lib.hid hbox
     obtain ⟨r0, r1, r2, r3⟩ := RQ4
     obtain ⟨k0, k1', k2, k3, k4, k5, k6, k7, k8, k9, k10, k11, k12, k13, k14⟩ := hbox
     simp only [Nat.zero_add] at k1' k2 k3 k4 k5 k6 k7 k8 k9 k10 k11 k12 k13 k14
     have yb24 : b2 < w4.heap.size := by omega
     have yw4 := y4
     obtain ⟨wo, hwo⟩ : ∃ wo : World, wo = wr := ⟨_, rfl⟩
     subst hwo
     clear hb4 hb4r g0 g1 g2 g3 g4 g5 g6 g7 g8 g9 g10 g11 g12 g13 g14 hcr hfr hbr RQ hown
     replace hown4 := Lib.hid hown4
     refine wp_region_steady_then (Held w4 0 []) 5 (by kernel_rfl) (by kernel_rfl) (by decide) (by kernel_rfl) (by kernel_rfl) ⟨belt, (by (try simp) <;> omega), (by first | exact trivial | (simp only [Cells]; go_simp))⟩ ?_
     simp only [List.take_succ_cons, List.take_zero]
     repeat (first | (refine' sdo ?_; simp only [pu]) | (refine spa ?_; simp only [pu]))
     refine wpSteady_nil (fun uA hSA => ?_)
     obtain ⟨hcA, hbA, hzA, hcoA, hfoA⟩ := hall hSA; clear hSA; simp only [Cells] at hcA
     simp only [List.drop_succ_cons, List.drop_zero, List.drop_nil]
     go_wp2_with (first
      | (go_at_call 76; (with_reducible refine (hPL.out _).mono ?_); rintro e w5 ⟨pv, rfl, hownP, hb5⟩; obtain ⟨sp, cp, rfl⟩ := own_slice hownP; rw [hpl.out])
      | go_in)
     have hb45 : Below w4.heap.size w4 w5 := hbA.trans (hb5.mono hbA.size)
     have z45 := hb45.size
     have hrowP := hownP.row (Nat.le_refl w5.heap.size)
     have hbox5 := Lib.hid (hboxh.out.below hb45 y4)
     have hown5 := Lib.hid (hown4.out.below hb45 (Nat.le_refl _))
     have hbr5 := hbr4.trans (hb45.mono (by have := hbr4.size; omega))
     have z25 := hbr5.size
     rw [hpl.out] at hrowP
     replace hrowP := Lib.hid hrowP
     clear r0 r1 r2 r3 k0 k1' k2 k3 k4 k5 k6 k7 k8 k9 k10 k11 k12 k13 k14 hbA hcA hcoA hfoA hzA hb5 hown4 hboxh hownP
     go_loopw [10, 11] (fun h i wr => ∃ (kk : Nat) (hb : Bool), kk ≤ n ∧ k + 1 ≤ kk ∧ i = .int .i64 kk ∧ h = .bool hb ∧ Hid ((hb || anyCov P (xs.drop kk) (R.drop kk)) = HB) ∧ Below w5.heap.size w5 wr) (fun _ i _ => n - (intOf i).toNat)
     case atStart => exact ⟨k + 1, pb, by omega, Nat.le_refl _, by go_num, by first | rfl | rw [hpb], hHB, Below.refl _ _⟩
     case round =>
      obtain ⟨kk, hb, hkk1, hkk2, rfl, rfl, hcov, hbi⟩ := hrel
      have zi := hbi.size
      obtain ⟨hci, hfi⟩ := bcell hbi
      obtain ⟨hc5, hf5⟩ := bcell hbr5
      clear hpb
      cases hb
      ·by_cases hkn2 : kk < n
       ·obtain ⟨t, ht⟩ : ∃ s, xs[kk]? = some s := ⟨xs[kk]'(by have := en.out; omega), List.getElem?_eq_getElem _⟩
        obtain ⟨r, hr⟩ : ∃ q, R[kk]? = some q := ⟨R[kk]'(by have := hRl.out; omega), List.getElem?_eq_getElem _⟩
        have hbwi : Below w2.heap.size w2 wr := hbr5.trans (hbi.mono z25)
        have hcs := cov_step (P := P) ht hr
        have hcv := hcov.out
        rw [hcs, Bool.false_or] at hcv
        obtain ⟨g0, g1, g2, g3, g4, g5, g6, g7, g8, g9, g10, g11, g12, g13, g14⟩ := (hel.out kk t ht)
        have RR : RMem wr b2 (p2 + kk * 4) r := (hel2.out kk r hr).below hbwi hb2
        obtain ⟨r0, r1, r2, r3⟩ := RR
        have hrm := may_wf (hRm.out r (List.mem_of_getElem? hr))
        have ybi : b < wr.heap.size := by omega
        have ybi5 : b < w5.heap.size := by omega
        have yb2i : b2 < wr.heap.size := by omega
        have hkk3 : (kk : Int) < n := by omega
        have W := within_any P r (.slice sp pl cp) wr ((hrowP.out.below hbi).mono zi) (by rw [hpl.out]; omega) hpw.out hrm
        clear hcs ht hr g1 g2 g3 g4 g5 g6 g7 g9 g10 g11 g12 g13 g14
        by_cases q1 : t.kind = 1
        ·by_cases q2 : t.col.a = 255
         ·have e : covB P t r = wthB P r := by unfold covB; simp [q1, q2]
          rw [e] at hcv
          generalize wthB P r = rb at W hcv
          rw [q1] at g0
          rw [q2] at g8
          replace W := Lib.hid W
          replace hcv := Lib.hid hcv
          clear e q1 q2 hcov
          go_wp2_with (first
           | (go_at_call 77; (with_reducible refine (W.out).mono ?_); rintro e w6 ⟨rfl, hb6⟩)
           | go_in)
          go_roundw
          case rel => exact ⟨kk + 1, rb, by omega, by omega, by go_num, rfl, hcv, hbi.trans (hb6.mono zi)⟩
          case measure => simp [intOf]; omega
         ·have e : covB P t r = false := by unfold covB; simp [q2]
          rw [e] at hcv
          have q2b : (t.col.a == 255) = false := by simp [q2]
          rw [q1] at g0
          replace hcv := Lib.hid hcv
          clear e q1 hcov W
          go_wp2
          go_roundw
          case rel => exact ⟨kk + 1, false, by omega, by omega, by go_num, rfl, hcv, hbi⟩
          case measure => simp [intOf]; omega
        ·have e : covB P t r = false := by unfold covB; simp [q1]
         rw [e] at hcv
         have q1b : (t.kind == 1) = false := by simp [q1]
         replace hcv := Lib.hid hcv
         clear e hcov W
         go_wp2
         go_roundw
         case rel => exact ⟨kk + 1, false, by omega, by omega, by go_num, rfl, hcv, hbi⟩
         case measure => simp [intOf]; omega
       ·have hend := cov_end (P := P) (xs := xs) (rs := R) (k := kk) (by have := en.out; omega)
        have hcv := hcov.out
        rw [hend, Bool.or_false] at hcv
        have hNO2 := hNO.out
        rw [← hcv] at hNO2
        replace hNO2 := Lib.hid hNO2
        have hkk3 : ¬ (kk : Int) < n := by omega
        clear hcv hend hcov
        go_upto_region 17 with fail
        have hboxi := hbox5.out.below hbi (by omega)
        have ywi : wo.heap.size < wr.heap.size := by omega
        have hbri := hbr5.trans (hbi.mono z25)
        have zri := hbri.size
        obtain ⟨k0, k1', k2, k3, k4, k5, k6, k7, k8, k9, k10, k11, k12, k13, k14⟩ := hboxi
        simp only [Nat.zero_add] at k1' k2 k3 k4 k5 k6 k7 k8 k9 k10 k11 k12 k13 k14
        have hownX := (hown5.out.below hbi (Nat.le_refl _))
        unfold Owns at hownX
        go_wp2_with (first
         | (at_builtin; refine wpList_append_new rfl _ _ _ rfl w2.heap.size 46 iM _ 15 72 Tryz.underlying27 hi0 hm0 hm1 hm2 rfl (by omega) wr 1 _ _ _ _ (by rfl) hownX (by rfl) rfl (by simp [Value.oneCell']) (by omega) (by unfold maxLen; omega) zri ?_; intro v9 w9 hown9 hb9)
         | go_in)
        have hcs : [.int .u8 (s).kind, .int .i64 (s).rect.x, .int .i64 (s).rect.y, .int .i64 (s).rect.wd, .int .i64 (s).rect.ht, .int .u8 (s).col.r, .int .u8 (s).col.g, .int .u8 (s).col.b, .int .u8 (s).col.a, .int .u8 (s).back.r, .int .u8 (s).back.g, .int .u8 (s).back.b, .int .u8 (s).back.a, .string (s).text, .int .i64 (s).node] = s.enc := rfl
        rw [flat_snoc hcs] at hown9
        have hbX : Below w2.heap.size w2 w9 := (hbri).trans hb9
        replace hown9 := Lib.hid hown9
        go_wp2
        go_roundg (n - (k + 1))
        case measure => omega
        case rel =>
         refine ⟨k + 1, by omega, by omega, by go_num, O ++ [s], ?_, ?_, by simp; omega, hbX⟩
         ·unfold Owns; rw [List.length_append]; exact hown9.out
         ·have := hNO2.out; simpa using this
      ·have hcv := hcov.out
       rw [Bool.true_or] at hcv
       have hNO2 := hNO.out
       rw [← hcv] at hNO2
       replace hNO2 := Lib.hid hNO2
       have ho9 := Lib.hid (hown5.out.below hbi (Nat.le_refl _))
       clear hcv hcov
       go_wp2
       all_goals
        go_roundg (n - (k + 1))
        case measure => omega
        case rel =>
         refine ⟨k + 1, by omega, by omega, by go_num, O, ho9.out, ?_, by omega, hbr5.trans (hbi.mono z25)⟩
         have := hNO2.out; simpa using this
   ·obtain rfl : k = n := by omega
    obtain rfl : O = N := by
     have := hNO
     rw [List.drop_eq_nil_of_le (by have := en.out; omega)] at this
     simpa [nrmGo] using this
    have B := busy_any w2.heap.size O _ wr hown (by omega)
    obtain ⟨st0, cap0, rfl⟩ := own_slice hown
    have hlt := fun g hg => (own_in hown g hg).1
    replace B := Lib.hid B
    replace hown := Lib.hid hown
    replace hlt := Lib.hid hlt
    clear hNO
    go_wp2_with (first
     | (go_at_call 78; (with_reducible refine (B.out).mono ?_); rintro e w6 ⟨v6, rfl, hown6, hgr6, hvb6⟩)
     | go_in)
    have hb6 : Below w2.heap.size w2 w6 := hbr.grown hgr6 zr hlt.out
    replace hown6 := Lib.hid hown6
    go_ret2
    exact ⟨hb02.trans (hb6.mono z02), _, rfl, own_less hown6.out z02⟩
 ·have hfS : normS xs = [] := if_neg c1
  have hcb : (chkL xs == 0) = false := by simp [c1]
  rw [hfS]
  rw [en] at C1 ⊢
  replace C1 := Lib.hid C1
  clear c1 K1
  go_enter Tryz.func35, Tryz.ntmps35
  go_wp2_with (first
   | (go_at_call 73; (with_reducible refine (C1.out _ belt).mono ?_); rintro e w3 ⟨rfl, hb3⟩)
   | go_in)
  go_ret2
  exact ⟨hb3, _, rfl, Owns.nil _ _⟩
end
end Go.Proofs.YtffmomgmkpmpkaaGreatDoor
