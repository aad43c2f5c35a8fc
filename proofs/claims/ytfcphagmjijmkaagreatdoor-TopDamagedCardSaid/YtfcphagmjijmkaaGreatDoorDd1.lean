/-
  A statement whose order Go leaves open: one walk in the order of the text serves for all orders, where each operation yields the same value in every world that meets a condition S, and keeps S.
-/
import Derived.Below
import Derived.ChangeSame
import Derived.Deep.Fields
import Derived.Deep.RegionHeld3
import Derived.Deep.Slices
import Derived.KernelRfl
import Derived.Laws.EntriesVeiled
import Derived.Laws.MakeOwn
import Derived.Laws.OwnMore
import Derived.Lib.Hide
import Derived.Lib.SmallJoins
import Derived.OneCell
import Derived.OrdersHeld
import Derived.OwnWalk
import Derived.StillTail
import Derived.Tactics2
import Derived.WalkKit
import Derived.WalkLawsBesides
import Derived.WalkSpells
import Derived.Test.YtfcphagmjijmkaaGreatDoorProg
namespace Go.Proofs.YtfcphagmjijmkaaGreatDoor
open Go.RowKit
set_option linter.unusedVariables false
set_option linter.unusedSimpArgs false
set_option maxHeartbeats 16000000
section
open Go Go.RowKit
section
variable {P : Program} {ops : Array Oper} {S : World → Prop} {Q : Exit → Act → World → Prop}
/-- What an operation yields, and the world behind it. -/
def vUpon (P : Program) (R : Value → World → Prop) : Result Next → Prop
 | .ok (.value v) w' => R v w'
 | .ok .skip w' => R undef w'
 | .ok (.enter f args) w' => Calls P f args w' fun e w'' => ∃ v, e = .returned v ∧ R v w''
 | .ok (.row row args) w' => Rows P row args w' R
 | _ => False
theorem vUpon_value (R : Value → World → Prop) (v : Value) (w : World) : vUpon P R (.ok (.value v) w) = R v w := rfl
theorem vUpon_skip (R : Value → World → Prop) (w : World) : vUpon P R (.ok .skip w) = R undef w := rfl
theorem vUpon_enter (R : Value → World → Prop) (f : FuncId) (args : Array Value) (w : World) :
  vUpon P R (.ok (.enter f args) w) = Calls P f args w fun e w'' => ∃ v, e = .returned v ∧ R v w'' := rfl
theorem vUpon_row (R : Value → World → Prop) (row : String) (args : Array Value) (w : World) : vUpon P R (.ok (.row row args) w) = Rows P row args w R := rfl
def vwp (P : Program) (o : Oper) (a : Act) (w : World) (R : Value → World → Prop) : Prop := vUpon P R ((execOp a.eval o).run P w)
/-- In state 'a', in every world that meets S, 'o' yields 'v' and keeps S. -/
def Steady (P : Program) (ops : Array Oper) (S : World → Prop) (o : Oper) (v : Value) (a : Act) : Prop :=
 (Region.wanted o (yielded ops a.tmps) = true ∧ ∀ w, S w → vwp P o a w (fun u w' => u = v ∧ S w')) ∨
 (Region.wanted o (yielded ops a.tmps) = false ∧ v = undef)
theorem Steady.wpOp {i : Nat} {o : Oper} {v : Value} {a : Act} (hi : ops[i]? = some o) (hy : Steady P ops S o v a) {K : Act → World → Prop} {w : World} (hS : S w)
  (h : ∀ w', S w' → K (a.put o.dst v) w') : wpOp P ops Q i K a w := by
 unfold Go.wpOp
 simp only [hi]
 rcases hy with ⟨hw, hv⟩ | ⟨hw, rfl⟩
 ·simp only [hw, if_true]
  left
  have hv := hv w hS
  unfold vwp at hv
  unfold Oper.wp
  generalize (execOp a.eval o).run P w = r at *
  cases r with
  | ok n w' =>
   cases n <;> simp only [vUpon] at hv <;> simp only [Oper.upon]
   case value u => obtain ⟨rfl, hs⟩ := hv; exact h _ hs
   case skip => obtain ⟨rfl, hs⟩ := hv; exact h _ hs
   case enter f args => exact Calls.mono hv fun e w'' ⟨u, he, hu, hs⟩ => by subst he; subst hu; exact h _ hs
   case row row args => exact Rows.mono hv fun u w'' ⟨hu, hs⟩ => by subst hu; exact h _ hs
  | halt x w' => simp only [vUpon] at hv
 ·simp only [hw, Bool.false_eq_true, if_false]; exact h _ hS
theorem Steady.of_same {o : Oper} {v : Value} {a a' : Act} (hy : Steady P ops S o v a) (he : execOp a'.eval o = execOp a.eval o)
  (hw : Region.wanted o (yielded ops a'.tmps) = Region.wanted o (yielded ops a.tmps)) : Steady P ops S o v a' := by
 unfold Steady vwp at *
 rw [he, hw]
 exact hy
/-- Number j comes up behind number i in every order. -/
def R (M : Array Nat) (j i : Nat) : Prop := (M.getD j 0).testBit i = true
structure Good (ops : Array Oper) (M : Array Nat) : Prop where
 step : ∀ j o, ops[j]? = some o → ∀ i, R M j i → ∃ e ∈ o.after, Region.binds .any e = true ∧ (e.on = i ∨ R M e.on i)
 lt : ∀ j o, ops[j]? = some o → ∀ e ∈ o.after, Region.binds .any e = true → e.on < j
 apart : ∀ i j oi oj, ops[i]? = some oi → ops[j]? = some oj → i ≠ j → R M j i ∨ R M i j ∨ (oi.apart ops oj = true ∧ oj.apart ops oi = true)
def maskOf (M : Array Nat) (o : Oper) : Nat := o.after.toList.foldr (fun e s => if Region.binds .any e then s ||| 2 ^ e.on ||| M.getD e.on 0 else s) 0
theorem testBit_two_pow' (n i : Nat) (h : (2 ^ n).testBit i = true) : n = i := by
 rw [Nat.testBit_two_pow] at h; simpa using h
theorem maskOf_spec (M : Array Nat) (l : List Edge) (i : Nat) (h : (l.foldr (fun e s => if Region.binds .any e then s ||| 2 ^ e.on ||| M.getD e.on 0 else s) 0).testBit i = true) :
  ∃ e ∈ l, Region.binds .any e = true ∧ (e.on = i ∨ R M e.on i) := by
 induction l with
 | nil => simp at h
 | cons e l ih =>
  simp only [List.foldr_cons] at h
  by_cases hb : Region.binds .any e = true
  ·rw [if_pos hb, Nat.testBit_or, Nat.testBit_or] at h
   simp only [Bool.or_eq_true] at h
   rcases h with (h | h) | h
   ·obtain ⟨e', he, r⟩ := ih h
    exact ⟨e', List.mem_cons_of_mem _ he, r⟩
   ·exact ⟨e, List.mem_cons_self, hb, .inl (testBit_two_pow' _ _ h)⟩
   ·exact ⟨e, List.mem_cons_self, hb, .inr h⟩
  ·rw [if_neg hb] at h
   obtain ⟨e', he, r⟩ := ih h
   exact ⟨e', List.mem_cons_of_mem _ he, r⟩
def goodAt (M : Array Nat) (j : Nat) (o : Oper) : Bool :=
 o.after.toList.all (fun e => !Region.binds .any e || decide (e.on < j)) && M.getD j 0 == maskOf M o
def pairsB (ops : Array Oper) (M : Array Nat) : List (Oper × Nat) → Bool
 | [] => true
 | (o, i) :: r => r.all (fun (q, j) => (M.getD j 0).testBit i || (o.apart ops q && q.apart ops o)) && pairsB ops M r
def goodB (ops : Array Oper) (M : Array Nat) : Bool :=
 (ops.toList.zipIdx.all fun (o, j) => goodAt M j o) && pairsB ops M ops.toList.zipIdx && Region.noSelect ops
theorem pairsB_spec {M : Array Nat} : ∀ (l : List Oper) (k : Nat), pairsB ops M (l.zipIdx k) = true → ∀ i j oi oj, l[i]? = some oi → l[j]? = some oj → i < j → R M (k + j) (k + i) ∨ (oi.apart ops oj = true ∧ oj.apart ops oi = true)
 | [], _, _, i, _, _, _, hi, _, _ => by simp at hi
 | o :: l, k, h, i, j, oi, oj, hi, hj, hij => by
  simp only [List.zipIdx_cons, pairsB, Bool.and_eq_true, List.all_eq_true] at h
  cases j with
  | zero => omega
  | succ j =>
   have hj' : l[j]? = some oj := by simpa using hj
   cases i with
   | zero =>
    have hi' : o = oi := by simpa using hi
    subst hi'
    have hm : (oj, k + 1 + j) ∈ l.zipIdx (k + 1) := by
     rw [List.mem_zipIdx_iff_le_and_getElem?_sub]
     exact ⟨by omega, by simpa using hj'⟩
    have := h.1 _ hm
    simp only [Bool.or_eq_true, Bool.and_eq_true] at this
    rcases this with h1 | h1
    ·left; unfold R; rw [show k + (j + 1) = k + 1 + j by omega]; exact h1
    ·exact .inr h1
   | succ i =>
    have hi' : l[i]? = some oi := by simpa using hi
    have := pairsB_spec l (k + 1) h.2 i j oi oj hi' hj' (by omega)
    rwa [show k + 1 + j = k + (j + 1) by omega, show k + 1 + i = k + (i + 1) by omega] at this
theorem good_of {M : Array Nat} (h : goodB ops M = true) : Good ops M ∧ Region.noSelect ops = true := by
 simp only [goodB, Bool.and_eq_true, List.all_eq_true] at h
 obtain ⟨⟨h1, h2⟩, h3⟩ := h
 have at_ : ∀ j o, ops[j]? = some o → goodAt M j o = true := fun j o ho => by
  refine h1 (o, j) ?_
  rw [List.mem_zipIdx_iff_getElem?]
  simpa using ho
 refine ⟨⟨fun j o ho i hr => ?_, fun j o ho e he hb => ?_, fun i j oi oj hi hj hne => ?_⟩, h3⟩
 ·have := at_ j o ho
  simp only [goodAt, Bool.and_eq_true, beq_iff_eq] at this
  unfold R at hr
  rw [this.2] at hr
  obtain ⟨e, he, r⟩ := maskOf_spec M _ i hr
  exact ⟨e, by simpa using he, r⟩
 ·have := at_ j o ho
  simp only [goodAt, Bool.and_eq_true, List.all_eq_true] at this
  have := this.1 e (by simpa using he)
  simpa [hb] using this
 ·have hi' : ops.toList[i]? = some oi := by simpa using hi
  have hj' : ops.toList[j]? = some oj := by simpa using hj
  rcases Nat.lt_or_gt_of_ne hne with hlt | hgt
  ·have := pairsB_spec ops.toList 0 h2 i j oi oj hi' hj' hlt
   simp only [Nat.zero_add] at this
   rcases this with h | h
   ·exact .inl h
   ·exact .inr (.inr h)
  ·have := pairsB_spec ops.toList 0 h2 j i oj oi hj' hi' hgt
   simp only [Nat.zero_add] at this
   rcases this with h | h
   ·exact .inr (.inl h)
   ·exact .inr (.inr ⟨h.2, h.1⟩)
/-- What has come up holds with each operation all that it waits for. -/
def Closed (ops : Array Oper) (listed : Array Bool) : Prop :=
 ∀ j oj, ops[j]? = some oj → listed.getD j false = true → ∀ e ∈ oj.after, Region.binds .any e = true → listed.getD e.on false = true
theorem Closed.reach {M : Array Nat} (hg : Good ops M) {listed : Array Bool} (hc : Closed ops listed) : ∀ (j i : Nat), j < ops.size → listed.getD j false = true → R M j i → listed.getD i false = true := by
 intro j
 induction j using Nat.strongRecOn with
 | _ j ih =>
  intro i hj hl hr
  have ho : ops[j]? = some ops[j] := Array.getElem?_eq_getElem hj
  obtain ⟨e, he, hb, h⟩ := hg.step j _ ho i hr
  have hle := hc j _ ho hl e he hb
  rcases h with rfl | h
  ·exact hle
  ·have := hg.lt j _ ho e he hb
   exact ih e.on this i (by omega) hle h
theorem Closed.ready {M : Array Nat} (hg : Good ops M) {listed : Array Bool} (hc : Closed ops listed) {t i : Nat} (ht : t ∈ Region.ready .any ops listed) (hr : R M t i) : listed.getD i false = true := by
 obtain ⟨_, o, ho, hall⟩ := mem_ready.1 ht
 obtain ⟨e, he, hb, h⟩ := hg.step t o ho i hr
 have hle := hall e he hb
 rcases h with rfl | h
 ·exact hle
 ·have := hg.lt t _ ho e he hb
  have hts : t < ops.size := (Array.getElem?_eq_some_iff.1 ho).1
  exact hc.reach hg e.on i (by omega) hle h
theorem Closed.set {listed : Array Bool} (hc : Closed ops listed) {i : Nat} (hi : i ∈ Region.ready .any ops listed) : Closed ops (listed.setIfInBounds i true) := by
 obtain ⟨_, oi, hoi, hall⟩ := mem_ready.1 hi
 intro j oj hj hl e he hb
 by_cases hij : i = j
 ·subst hij
  have : oj = oi := Option.some.inj (hj.symm.trans hoi)
  subst this
  exact getD_set_true (hall e he hb)
 ·rw [getD_set_ne false hij] at hl
  exact getD_set_true (hc j oj hj hl e he hb)
/-- Whatever order is picked for the next 'f' operations, all of them below number n: each is steady; then L. -/
def stAny (P : Program) (ops : Array Oper) (S : World → Prop) (n : Nat) (L : Array Bool → Act → Prop) : Nat → Array Bool → Act → Prop
 | 0, listed, a => L listed a
 | f + 1, listed, a => Region.ready .any ops listed ≠ [] ∧
   ∀ i ∈ Region.ready .any ops listed, i < n ∧ ∃ o v, ops[i]? = some o ∧ Steady P ops S o v a ∧ stAny P ops S n L f (listed.setIfInBounds i true) (a.put o.dst v)
theorem wpAny_of_st {n g : Nat} {L : Array Bool → Act → Prop} (hL : ∀ listed a w, S w → L listed a → wpAny P .any ops Q g listed a w) :
  ∀ (f : Nat) (listed : Array Bool) (a : Act) (w : World), S w → stAny P ops S n L f listed a → wpAny P .any ops Q (f + g) listed a w
 | 0, listed, a, w, hS, h => by rw [Nat.zero_add]; exact hL _ _ _ hS h
 | f + 1, listed, a, w, hS, h => by
  rw [show f + 1 + g = (f + g) + 1 by omega]
  refine ⟨fun h0 => absurd h0 h.1, fun i hi => ?_⟩
  obtain ⟨_, o, v, ho, hy, hr⟩ := h.2 i hi
  exact hy.wpOp ho hS fun w' hS' => wpAny_of_st hL f _ _ w' hS' hr
theorem Steady.put {oi oj : Oper} {v u : Value} {a : Act} (hap : oi.apart ops oj = true) (hsi : ∀ cs b, oi.op ≠ .select cs b) (hy : Steady P ops S oi v a) : Steady P ops S oi v (a.put oj.dst u) := by
 obtain ⟨h1, h2, h3⟩ := Oper.apart_spec hap
 exact hy.of_same (execOp_put oi hsi a oj.dst u h3) (wanted_put oi a oj.dst u h3)
theorem Steady.unput {oi oj : Oper} {v u : Value} {a : Act} (hap : oi.apart ops oj = true) (hsi : ∀ cs b, oi.op ≠ .select cs b) (hy : Steady P ops S oi v (a.put oj.dst u)) : Steady P ops S oi v a := by
 obtain ⟨h1, h2, h3⟩ := Oper.apart_spec hap
 exact hy.of_same (execOp_put oi hsi a oj.dst u h3).symm (wanted_put oi a oj.dst u h3).symm
theorem stAny_first {M : Array Nat} (hg : Good ops M) (hsel : Region.noSelect ops = true) {m n i : Nat} {oi : Oper} {v : Value} {L : Array Bool → Act → Prop} (hi : ops[i]? = some oi) (hin : i < n) (him : m ≤ i)
  (htail : ∀ t, n ≤ t → t < ops.size → ∀ i, m ≤ i → i < n → R M t i)
  (hdone : ∀ listed a, L listed a → ∀ j ∈ Region.ready .any ops listed, n ≤ j) :
  ∀ (f : Nat) (listed : Array Bool) (a : Act), Closed ops listed →
   i ∈ Region.ready .any ops listed → Steady P ops S oi v a →
   stAny P ops S n L f (listed.setIfInBounds i true) (a.put oi.dst v) → stAny P ops S n L (f + 1) listed a := by
 have below : ∀ listed, Closed ops listed → i ∈ Region.ready .any ops listed → ∀ j ∈ Region.ready .any ops listed, j < n := by
  intro listed hc hr j hj
  rcases Nat.lt_or_ge j n with h | h
  ·exact h
  ·obtain ⟨_, oj, hoj, _⟩ := mem_ready.1 hj
   have hjs : j < ops.size := (Array.getElem?_eq_some_iff.1 hoj).1
   have h1 := hc.ready hg hj (htail j h hjs i him hin)
   rw [getD_both (mem_ready.1 hr).1] at h1
   cases h1
 intro f
 induction f with
 | zero =>
  intro listed a hc hr hy H
  refine ⟨fun h => (by rw [h] at hr; cases hr), fun j hj => ?_⟩
  have hjn := below listed hc hr j hj
  refine ⟨hjn, ?_⟩
  by_cases hji : j = i
  ·subst hji; exact ⟨oi, v, hi, hy, H⟩
  ·have := hdone _ _ H j (ready_mono hj hji)
   omega
 | succ f ih =>
  intro listed a hc hr hy H
  refine ⟨fun h => (by rw [h] at hr; cases hr), fun j hj => ?_⟩
  have hjn := below listed hc hr j hj
  refine ⟨hjn, ?_⟩
  by_cases hji : j = i
  ·subst hji; exact ⟨oi, v, hi, hy, H⟩
  ·obtain ⟨_, oj, u, hoj, hyj, hrest⟩ := H.2 j (ready_mono hj hji)
   obtain ⟨hjun, _⟩ := mem_ready.1 hj
   have hiun := (mem_ready.1 hr).1
   have hap : oi.apart ops oj = true ∧ oj.apart ops oi = true := by
    rcases hg.apart i j oi oj hi hoj (Ne.symm hji) with h | h | h
    ·have h1 := hc.ready hg hj h
     rw [getD_both hiun] at h1; cases h1
    ·have h1 := hc.ready hg hr h
     rw [getD_both hjun] at h1; cases h1
    ·exact h
   have hsi := fun cs b => Region.noSelect_spec hsel i oi cs b hi
   have hsj := fun cs b => Region.noSelect_spec hsel j oj cs b hoj
   refine ⟨oj, u, hoj, hyj.unput hap.2 hsj, ih _ _ (hc.set hj) (ready_mono hr (Ne.symm hji)) (hy.put hap.1 hsi) ?_⟩
   rw [Array.setIfInBounds_comm _ _ hji, Act.put_comm _ _ _ (Oper.apart_spec hap.2).2.1]
   exact hrest
/-- The operations in the order of the text. -/
def wpSteady (P : Program) (ops : Array Oper) (S : World → Prop) (F : Act → Prop) : List Oper → Act → Prop
 | [], a => F a
 | o :: rest, a => ∃ v, Steady P ops S o v a ∧ wpSteady P ops S F rest (a.put o.dst v)
theorem wpSteady_nil {F : Act → Prop} {a : Act} (h : F a) : wpSteady P ops S F [] a := h
/-- One operation that is carried out: show that it yields v in any world of S; then go on. -/
theorem wpSteady_do {F : Act → Prop} {a : Act} {o : Oper} {rest : List Oper} {v : Value} (hw : Region.wanted o (yielded ops a.tmps) = true)
  (h : ∀ w, S w → ∀ R : Value → World → Prop, (∀ w', S w' → R v w') → vwp P o a w R) (hr : wpSteady P ops S F rest (a.put o.dst v)) : wpSteady P ops S F (o :: rest) a :=
 ⟨v, .inl ⟨hw, fun w hS => h w hS _ fun w' hS' => ⟨rfl, hS'⟩⟩, hr⟩
/-- One that is not wanted. -/
theorem wpSteady_pass {F : Act → Prop} {a : Act} {o : Oper} {rest : List Oper} (hw : Region.wanted o (yielded ops a.tmps) = false)
  (hr : wpSteady P ops S F rest (a.put o.dst undef)) : wpSteady P ops S F (o :: rest) a := ⟨undef, .inr ⟨hw, rfl⟩, hr⟩
/-- The first k have come up. -/
def firstN (s k : Nat) : Array Bool := Array.ofFn (n := s) fun i => decide (i.val < k)
theorem firstN_getD (s k i : Nat) (d : Bool) : (firstN s k).getD i d = if i < s then decide (i < k) else d := by
 unfold firstN
 by_cases h : i < s
 ·simp [h]
 ·simp [h]
theorem firstN_set (s k : Nat) : (firstN s k).setIfInBounds k true = firstN s (k + 1) := by
 apply Array.ext (by simp [firstN])
 intro i h1 h2
 simp only [firstN, Array.size_setIfInBounds, Array.size_ofFn] at h1
 rw [Array.getElem_setIfInBounds (by simpa [firstN] using h1)]
 simp only [firstN, Array.getElem_ofFn]
 by_cases hki : k = i
 ·simp [hki]
 ·rw [if_neg hki]
  by_cases h : i < k
  ·simp [h, Nat.lt_succ_of_lt h]
  ·have : ¬ i < k + 1 := by omega
   simp [h, this]
theorem Closed.firstN {M : Array Nat} (hg : Good ops M) (k : Nat) : Closed ops (firstN ops.size k) := by
 intro j oj hj hl e he hb
 have hjs : j < ops.size := (Array.getElem?_eq_some_iff.1 hj).1
 have := hg.lt j oj hj e he hb
 rw [firstN_getD, if_pos hjs] at hl
 rw [firstN_getD, if_pos (by omega)]
 simp at hl ⊢
 omega
theorem ready_firstN {M : Array Nat} (hg : Good ops M) {k : Nat} (hk : k < ops.size) : k ∈ Region.ready .any ops (firstN ops.size k) := by
 rw [mem_ready]
 refine ⟨by rw [firstN_getD, if_pos hk]; simp, ops[k], Array.getElem?_eq_getElem hk, fun e he hb => ?_⟩
 have := hg.lt k _ (Array.getElem?_eq_getElem hk) e he hb
 rw [firstN_getD, if_pos (by omega)]
 simp
 omega
theorem ready_firstN_ge {k j : Nat} (hj : j ∈ Region.ready .any ops (firstN ops.size k)) : k ≤ j ∧ j < ops.size := by
 obtain ⟨h0, o, ho, _⟩ := mem_ready.1 hj
 have hjs : j < ops.size := (Array.getElem?_eq_some_iff.1 ho).1
 rw [firstN_getD, if_pos hjs] at h0
 simp at h0
 exact ⟨h0, hjs⟩
/-- The region from its k-th operation on, in whatever order. -/
def wpFrom (P : Program) (ops : Array Oper) (Q : Exit → Act → World → Prop) (k : Nat) (a : Act) (w : World) : Prop := wpAny P .any ops Q (ops.size - k) (firstN ops.size k) a w
theorem wpFrom_end {k : Nat} (hk : k = ops.size) {a : Act} {w : World} (h : Q .normal a w) : wpFrom P ops Q k a w := by
 subst hk
 unfold wpFrom
 have hr : Region.ready .any ops (firstN ops.size ops.size) = [] := by
  apply List.eq_nil_iff_forall_not_mem.2
  intro j hj
  have := ready_firstN_ge hj
  omega
 exact wpAny_done hr h _
def forcedB (ops : Array Oper) (M : Array Nat) (k : Nat) : Bool := (List.range ops.size).all fun t => decide (t ≤ k) || (M.getD t 0).testBit k
theorem wpFrom_one {M : Array Nat} (hg : Good ops M) {k : Nat} {o : Oper} (ho : ops[k]? = some o) (hf : forcedB ops M k = true) {a : Act} {w : World}
  (h : wpOp P ops Q k (wpFrom P ops Q (k + 1)) a w) : wpFrom P ops Q k a w := by
 have hk : k < ops.size := (Array.getElem?_eq_some_iff.1 ho).1
 unfold wpFrom
 rw [show ops.size - k = (ops.size - (k + 1)) + 1 by omega]
 have hkr := ready_firstN hg hk
 refine ⟨fun h0 => (by rw [h0] at hkr; cases hkr), fun i hi => ?_⟩
 have hik : i = k := by
  obtain ⟨h1, h2⟩ := ready_firstN_ge hi
  rcases Nat.lt_or_ge k i with hlt | hge
  ·have hr : R M i k := by
    have := List.all_eq_true.1 hf i (List.mem_range.2 h2)
    simp only [Bool.or_eq_true, decide_eq_true_eq] at this
    rcases this with h | h
    ·omega
    ·exact h
   have := (Closed.firstN hg k).ready hg hi hr
   rw [firstN_getD, if_pos hk] at this
   simp at this
  ·omega
 subst hik
 rw [firstN_set]
 exact h
/-- From number n on the order is forced. -/
def chainedB (ops : Array Oper) (M : Array Nat) (n : Nat) : Bool := (List.range ops.size).all fun k => decide (k < n) || forcedB ops M k
theorem wpFrom_list {M : Array Nat} (hg : Good ops M) : ∀ (c n : Nat), ops.size - n = c → chainedB ops M n = true → ∀ {a : Act} {w : World}, wpList P ops Q (ops.toList.drop n) a w → wpFrom P ops Q n a w := by
 intro c
 induction c with
 | zero =>
  intro n hn hc a w h
  rw [List.drop_eq_nil_of_le (by simp; omega)] at h
  unfold wpFrom
  have hr : Region.ready .any ops (firstN ops.size n) = [] := by
   apply List.eq_nil_iff_forall_not_mem.2
   intro j hj
   have := ready_firstN_ge hj
   omega
  exact wpAny_done hr h _
 | succ c ih =>
  intro n hn hc a w h
  have hns : n < ops.size := by omega
  have hd : ops.toList.drop n = ops[n] :: ops.toList.drop (n + 1) := by
   rw [List.drop_eq_getElem_cons (by simpa using hns)]; rfl
  rw [hd] at h
  have hc' : chainedB ops M (n + 1) = true := by
   simp only [chainedB, List.all_eq_true, List.mem_range, Bool.or_eq_true, decide_eq_true_eq] at hc ⊢
   intro x hx
   rcases hc x hx with h | h
   ·exact .inl (by omega)
   ·exact .inr h
  have hf : forcedB ops M n = true := by
   have := List.all_eq_true.1 hc n (List.mem_range.2 hns)
   simp only [Bool.or_eq_true, decide_eq_true_eq] at this
   rcases this with h | h
   ·omega
   ·exact h
  have hon : ops[n]? = some ops[n] := Array.getElem?_eq_getElem hns
  refine wpFrom_one hg hon hf ?_
  unfold wpOp
  simp only [hon]
  unfold wpList at h
  split
  ·rename_i hw; rw [if_pos hw] at h; exact h.imp (Oper.wp_mono fun a w h' => ih (n + 1) (by omega) hc' h') id
  ·rename_i hw; rw [if_neg hw] at h; exact ih (n + 1) (by omega) hc' h
def tailB (ops : Array Oper) (M : Array Nat) (m n : Nat) : Bool := (List.range ops.size).all fun t => decide (t < n) || (List.range n).all fun i => decide (i < m) || (M.getD t 0).testBit i
theorem wpFrom_steady {M : Array Nat} (hgb : goodB ops M = true) {m c n : Nat} (hn : n = m + c) (hns : n ≤ ops.size) (ht : tailB ops M m n = true) {a : Act} {w : World} (hS : S w)
  (h : wpSteady P ops S (fun a' => ∀ w', S w' → wpFrom P ops Q n a' w') ((ops.toList.drop m).take c) a) : wpFrom P ops Q m a w := by
 obtain ⟨hg, hsel⟩ := good_of hgb
 have htail : ∀ t, n ≤ t → t < ops.size → ∀ i, m ≤ i → i < n → R M t i := fun t h1 h2 i h3 h4 => by
  have := List.all_eq_true.1 ht t (List.mem_range.2 h2)
  simp only [Bool.or_eq_true, decide_eq_true_eq] at this
  rcases this with h | h
  ·omega
  ·have := List.all_eq_true.1 h i (List.mem_range.2 h4)
   simp only [Bool.or_eq_true, decide_eq_true_eq] at this
   rcases this with h | h
   ·omega
   ·exact h
 suffices hst : ∀ (c k : Nat) (a : Act), k + c = n → m ≤ k → wpSteady P ops S (fun a' => ∀ w', S w' → wpFrom P ops Q n a' w') ((ops.toList.drop k).take c) a →
   stAny P ops S n (fun listed a' => listed = firstN ops.size n ∧ ∀ w', S w' → wpFrom P ops Q n a' w') c (firstN ops.size k) a by
  have := hst c m a hn.symm (Nat.le_refl _) h
  unfold wpFrom
  rw [show ops.size - m = c + (ops.size - n) by omega]
  exact wpAny_of_st (fun listed a' w' hS' ⟨hl, h'⟩ => by subst hl; exact h' w' hS') c _ _ _ hS this
 intro c
 induction c with
 | zero =>
  intro k a hk hmk h
  simp only [List.take_zero, wpSteady] at h
  have : k = n := by omega
  subst this
  exact ⟨rfl, h⟩
 | succ c ih =>
  intro k a hk hmk h
  have hks : k < ops.size := by omega
  have hd : ops.toList.drop k = ops[k] :: ops.toList.drop (k + 1) := by
   rw [List.drop_eq_getElem_cons (by simpa using hks)]; rfl
  rw [hd, List.take_succ_cons] at h
  obtain ⟨v, hy, hr⟩ := h
  refine stAny_first hg hsel (m := m) (Array.getElem?_eq_getElem hks) (by omega) hmk htail (fun listed a' hl j hj => ?_) c _ _ (Closed.firstN hg k) (ready_firstN hg hks) hy ?_
  ·rw [hl.1] at hj; exact (ready_firstN_ge hj).1
  ·rw [firstN_set]
   exact ih (k + 1) _ (by omega) (by omega) hr
/-- The beginning. -/
theorem wp_region_from {id : Nat} {a : Act} {w : World} (hm : P.follows .mixedOrders = true) (h : wpFrom P ops Q 0 a w.drew) : (Code.region id ops true).wp P Q a w := by
 refine wp_region_any hm ?_
 have e : firstN ops.size 0 = Array.replicate ops.size false := by
  apply Array.ext (by simp [firstN])
  intro i h1 h2
  simp [firstN]
 unfold wpFrom at h
 rw [e, Nat.sub_zero] at h
 exact h
/-- ALL OF IT STEADY. -/
theorem wp_region_steady {id : Nat} {a : Act} {w : World} (S : World → Prop) (hm : P.follows .mixedOrders = true) (hgb : goodB ops (Region.before ops) = true) (hS : S w.drew)
  (h : wpSteady P ops S (fun a' => ∀ w', S w' → Q .normal a' w') ops.toList a) : (Code.region id ops true).wp P Q a w := by
 refine wp_region_from hm (wpFrom_steady hgb (c := ops.size) (n := ops.size) (by omega) (Nat.le_refl _) ?_ hS ?_)
 ·simp only [tailB, List.all_eq_true, List.mem_range, Bool.or_eq_true, decide_eq_true_eq]
  exact fun t ht => .inl ht
 ·rw [List.drop_zero, List.take_of_length_le (by simp)]
  refine (?_ : ∀ (l : List Oper) (a : Act), wpSteady P ops S (fun a' => ∀ w', S w' → Q .normal a' w') l a → wpSteady P ops S (fun a' => ∀ w', S w' → wpFrom P ops Q ops.size a' w') l a) _ _ h
  intro l
  induction l with
  | nil => intro a h w' hS'; exact wpFrom_end rfl (h w' hS')
  | cons o l ih => intro a ⟨v, hy, hr⟩; exact ⟨v, hy, ih _ hr⟩
theorem wpSteady_imp {F F' : Act → Prop} (hF : ∀ a, F a → F' a) : ∀ (l : List Oper) (a : Act), wpSteady P ops S F l a → wpSteady P ops S F' l a
 | [], a, h => hF a h
 | o :: l, a, ⟨v, hy, hr⟩ => ⟨v, hy, wpSteady_imp hF l _ hr⟩
/-- The first n steady; then the rest, forced. -/
theorem wp_region_steady_then {id : Nat} {a : Act} {w : World} (S : World → Prop) (n : Nat) (hm : P.follows .mixedOrders = true) (hgb : goodB ops (Region.before ops) = true) (hn : n ≤ ops.size)
  (ht : tailB ops (Region.before ops) 0 n = true) (hc : chainedB ops (Region.before ops) n = true) (hS : S w.drew)
  (h : wpSteady P ops S (fun a' => ∀ w', S w' → wpList P ops Q (ops.toList.drop n) a' w') (ops.toList.take n) a) : (Code.region id ops true).wp P Q a w :=
 wp_region_from hm (wpFrom_steady hgb (c := n) (n := n) (by omega) hn ht hS (by rw [List.drop_zero]; exact wpSteady_imp (fun a' h w' hS' => wpFrom_list (good_of hgb).1 _ n rfl hc (h w' hS')) _ _ h))
end
section
variable {P : Program} {ops : Array Oper} {S : World → Prop} {Q : Exit → Act → World → Prop}
/-- The operations that do nothing to the world are taken first, in whatever order is wanted ('held_do', 'held_pass'); what is left is forced ('held_one'). S holds all the way. -/
theorem held_do {i : Nat} {oi : Oper} {v : Value} {fuel : Nat} {listed : Array Bool} {a : Act} {w : World} (hi : ops[i]? = some oi)
  (hs : Region.noSelect ops = true) (hf : Region.free .any ops listed i = true) (hr : (Region.ready .any ops listed).contains i = true)
  (hQ : ∀ c a w, Q (.panic c) (a.put oi.dst v) w → Q (.panic c) a w) (hw : Region.wanted oi (yielded ops a.tmps) = true) (hS : S w)
  (hy : ∀ w, S w → ∀ R : Result Next → Prop, R (.ok (.value v) w) → R ((execOp a.eval oi).run P w))
  (h : wpAnyH P .any ops Q S fuel (listed.setIfInBounds i true) (a.put oi.dst v) w) : wpAnyH P .any ops Q S (fuel + 1) listed a w :=
 wpAnyH_take hi hs hf hr hQ (.inl ⟨hw, fun w hS => hy w hS (fun r => r = .ok (.value v) w) rfl⟩) hS h
theorem held_one {i : Nat} {o : Oper} {fuel : Nat} {listed : Array Bool} {a : Act} {w : World} (hi : ops[i]? = some o) (hr : Region.ready .any ops listed = [i]) (hw : Region.wanted o (yielded ops a.tmps) = true)
  (h : ∀ K : Act → World → Prop, (∀ a w, S w → wpAnyH P .any ops Q S fuel (listed.setIfInBounds i true) a w → K a w) → o.wp P a w K Q) : wpAnyH P .any ops Q S (fuel + 1) listed a w := by
 refine wpAnyH_all hr (by simp) (fun j hj => ?_)
 obtain rfl : j = i := by simpa using hj
 unfold wpOp
 simp only [hi, hw, if_true]
 exact .inl (h _ fun a w hS hW => ⟨hS, hW⟩)
theorem held_begin {id : Nat} {a : Act} {w : World} (S : World → Prop) (hm : P.follows .mixedOrders = true) (hS : S w.drew)
  (h : S w.drew → wpAnyH P .any ops Q S ops.size (Array.replicate ops.size false) a w.drew) : (Code.region id ops true).wp P Q a w :=
 wp_region_held hm (h hS)
end
/-! ### The usual S: what was there stands; the cells of the call's own that are named hold what is named -/
def Cells : List (Addr × Value) → World → Prop
 | [], _ => True
 | (a, v) :: r, w => w.cell? a = some v ∧ w.frozen? a = false ∧ Cells r w
def Held (w0 : World) (k : Nat) (l : List (Addr × Value)) (w : World) : Prop := Below w0.heap.size w0 w ∧ w0.heap.size + k ≤ w.heap.size ∧ Cells l w
theorem Cells.below {w w' : World} (hb : Below w.heap.size w w') : ∀ {l : List (Addr × Value)}, Cells l w → Cells l w'
 | [], _ => trivial
 | (a, v) :: r, ⟨h, hf, hr⟩ => by
  have hlt : a.block < w.heap.size := World.block_lt_of_cell? w a h
  exact ⟨(hb.cell hlt).trans h, (hb.frozen hlt).trans hf, hr.below hb⟩
theorem Held.below {w0 w w' : World} {k : Nat} {l : List (Addr × Value)} (h : Held w0 k l w) (hb : Below w.heap.size w w') : Held w0 k l w' :=
 ⟨h.1.trans (hb.mono h.1.size), Nat.le_trans h.2.1 hb.size, h.2.2.below hb⟩
theorem Held.cells {w0 w : World} {k : Nat} {l : List (Addr × Value)} (h : Held w0 k l w) : Cells l w := h.2.2
theorem Held.old {w0 w : World} {k : Nat} {l : List (Addr × Value)} (h : Held w0 k l w) : Below w0.heap.size w0 w := h.1
theorem Held.size {w0 w : World} {k : Nat} {l : List (Addr × Value)} (h : Held w0 k l w) : w0.heap.size + k ≤ w.heap.size := h.2.1
theorem bcell {W w1 : World} (hb : Below W.heap.size W w1) : (∀ b o, b < W.heap.size → w1.cell? ⟨b, o, none⟩ = W.cell? ⟨b, o, none⟩) ∧ (∀ b o, b < W.heap.size → w1.frozen? ⟨b, o, none⟩ = W.frozen? ⟨b, o, none⟩) :=
 ⟨fun b o h => hb.cell (p := ⟨b, o, none⟩) h, fun b o h => hb.frozen (p := ⟨b, o, none⟩) h⟩
theorem pu : (∀ (t : Array Value) (ds : List Deferred) (d : Tmp) (v : Value), Act.put ⟨t, ds⟩ (some d) v = ⟨t.setIfInBounds d v, ds⟩) ∧ (∀ (a : Act) (v : Value), Act.put a none v = a) ∧ (∀ {α : Type} (l : List α) (i : Nat) (v : α), l.toArray.setIfInBounds i v = (l.set i v).toArray) ∧ (∀ {α : Type} (x : α) (l : List α) (v : α), (x :: l).set 0 v = v :: l) ∧ (∀ {α : Type} (x : α) (l : List α) (i : Nat) (v : α), (x :: l).set (i + 1) v = x :: l.set i v) := ⟨fun _ _ _ _ => rfl, fun _ _ => rfl, fun _ _ _ => List.setIfInBounds_toArray .., fun _ _ _ => rfl, fun _ _ _ _ => rfl⟩
theorem geti {α : Type} {x y : α} (h : x = y := by simp only [List.getElem?_toArray, List.getElem?_cons_succ, List.getElem?_cons_zero]; rfl) : x = y := h
theorem belt {B : Nat} {w0 w : World} (h : Below B w0 w := by repeat (first | exact Below.refl _ _ | assumption | refine Below.drew ?_ | refine Below.alloc ?_ (by (try simp) <;> omega) _ | refine Below.setCell ?_ (by (try simp) <;> omega) _ | (refine Below.trans ?_ (Below.mono (by assumption) (by (try simp) <;> omega))))) : Below B w0 w := h
theorem sdo {P : Program} {ops : Array Oper} {S : World → Prop} {F : Act → Prop} {a : Act} {o : Oper} {rest : List Oper} {v : Value} (hr : wpSteady P ops S F rest (a.put o.dst v)) (hw : Region.wanted o (yielded ops a.tmps) = true := by rfl)
    (h : ∀ w, S w → ∀ R : Value → World → Prop, (∀ w', S w' → R v w') → vwp P o a w R := by intro w1 hS R hR; have hc := hS.cells; simp only [Cells] at hc; obtain ⟨hco, hfo⟩ := bcell hS.old; go_simp; (try go_bits); exact hR _ hS) : wpSteady P ops S F (o :: rest) a := wpSteady_do hw h hr
theorem spa {P : Program} {ops : Array Oper} {S : World → Prop} {F : Act → Prop} {a : Act} {o : Oper} {rest : List Oper} (hr : wpSteady P ops S F rest (a.put o.dst undef)) (hw : Region.wanted o (yielded ops a.tmps) = false := by rfl) : wpSteady P ops S F (o :: rest) a := wpSteady_pass hw hr
theorem hdo {P : Program} {ops : Array Oper} {S : World → Prop} {Q : Exit → Act → World → Prop} (i : Nat) {oi : Oper} {v : Value} {fuel : Nat} {listed : Array Bool} {a : Act} {w : World} (hS : S w) (h : wpAnyH P .any ops Q S fuel (listed.setIfInBounds i true) (a.put oi.dst v) w)
    (hi : ops[i]? = some oi := by exact geti) (hs : Region.noSelect ops = true := by kernel_rfl) (hf : Region.free .any ops listed i = true := by kernel_rfl) (hr : (Region.ready .any ops listed).contains i = true := by kernel_rfl)
    (hQ : ∀ c a w, Q (.panic c) (a.put oi.dst v) w → Q (.panic c) a w := by exact fun _ _ _ h => h) (hw : Region.wanted oi (yielded ops a.tmps) = true := by rfl)
    (hy : ∀ w, S w → ∀ R : Result Next → Prop, R (.ok (.value v) w) → R ((execOp a.eval oi).run P w) := by intro w1 hSS R hR; have hc := hSS.2.2; (try simp only [Cells] at hc); obtain ⟨hco, hfo⟩ := bcell hSS.1; go_simp; (try go_bits); exact hR) : wpAnyH P .any ops Q S (fuel + 1) listed a w :=
  held_do hi hs hf hr hQ hw hS hy h
theorem rst {P : Program} {ops : Array Oper} {Q : Exit → Act → World → Prop} {id : Nat} {a : Act} {w : World} (S : World → Prop) (h : wpSteady P ops S (fun a' => ∀ w', S w' → Q .normal a' w') ops.toList a)
    (hS : S w.drew := by exact ⟨belt, (by (try simp) <;> omega), (by first | exact trivial | (simp only [Cells]; go_simp))⟩) (hm : P.follows .mixedOrders = true := by kernel_rfl) (hgb : goodB ops (Region.before ops) = true := by kernel_rfl) : (Code.region id ops true).wp P Q a w := wp_region_steady S hm hgb hS h
theorem hall {w0 w : World} {k : Nat} {l : List (Addr × Value)} (h : Held w0 k l w) : Cells l w ∧ Below w0.heap.size w0 w ∧ w0.heap.size + k ≤ w.heap.size ∧ (∀ b o, b < w0.heap.size → w.cell? ⟨b, o, none⟩ = w0.cell? ⟨b, o, none⟩) ∧ (∀ b o, b < w0.heap.size → w.frozen? ⟨b, o, none⟩ = w0.frozen? ⟨b, o, none⟩) := ⟨h.cells, h.old, h.size, bcell h.old⟩
theorem cmm {P : Program} {f : FuncId} {a : Array Value} {w : World} {E : Ending} {R : World → Prop} {Q : Ending → World → Prop} (h : Calls P f a w fun e w' => e = E ∧ R w') (k : ∀ w', R w' → Q E w') : Calls P f a w Q := h.mono fun e w' ⟨he, hr⟩ => he ▸ k w' hr
theorem exx {α : Sort _} (x : α) : ∃ y, x = y := ⟨x, rfl⟩
theorem lrr {n : Nat} : n ≤ n := Nat.le_refl n
theorem hdh {p : Prop} (h : p) : Hid p := Lib.hid h
theorem honn {P : Program} {ops : Array Oper} {S : World → Prop} {Q : Exit → Act → World → Prop} (i : Nat) {o : Oper} {fuel : Nat} {listed : Array Bool} {a : Act} {w : World} (h : ∀ K : Act → World → Prop, (∀ a w, S w → wpAnyH P .any ops Q S fuel (listed.setIfInBounds i true) a w → K a w) → o.wp P a w K Q)
    (hi : ops[i]? = some o := by exact geti) (hr : Region.ready .any ops listed = [i] := by kernel_rfl) (hw : Region.wanted o (yielded ops a.tmps) = true := by rfl) : wpAnyH P .any ops Q S (fuel + 1) listed a w := held_one hi hr hw h
theorem bzz {w0 w : World} (h : Below w0.heap.size w0 w) : (∀ b o, b < w0.heap.size → w.cell? ⟨b, o, none⟩ = w0.cell? ⟨b, o, none⟩) ∧ (∀ b o, b < w0.heap.size → w.frozen? ⟨b, o, none⟩ = w0.frozen? ⟨b, o, none⟩) ∧ w0.heap.size ≤ w.heap.size := ⟨(bcell h).1, (bcell h).2, h.size⟩
end
section
section
variable {P : Program}
theorem wpList_append_new {ops : Array Oper} {rest : List Oper} {o : Oper} {a : Act} {Q : Exit → Act → World → Prop} (hgd : o.guard = none) (s x : Operand) (t : TypeId)
  (ho : o.op = .call { callee := .builtin .append, args := #[s, x], argTypes := #[t, t] })
  (base : Nat) (e : TypeId) (i : TypeInfo) (z : Value) (size bytes : Nat) (ht : P.underlying t = some (.slice e)) (hi : P.info? e = some i) (hz : i.zero = some z)
  (hsize : i.size = size) (hby : i.bytes = bytes) (hzs : z.cells.size = size) (hsz : 0 < size)
  (w : World) (m : Nat) (us : List Value) (v : Value) (n : Nat) (xs : List Value) (hs : a.eval s = v) (hown : w.ownsRow base e size v n xs)
  (hx : a.eval x = .slice (some ⟨w.heap.size, 0, none⟩) m m) (hl : us.length = m * size) (h1 : ∀ u ∈ us, u.oneCell' = true)
  (hbytes : (n + m) * bytes ≤ 140737488355328) (h63 : n + m ≤ maxLen) (hbase : base ≤ w.heap.size)
  (h : ∀ v' w', w'.ownsRow base e size v' (n + m) (xs ++ us) → Below base w w' → wpList P ops Q rest (a.put o.dst v') w') :
  wpList P ops Q (o :: rest) a (w.alloc (.cells us.toArray e)) := by
 refine wpList_append_own _ hgd s x t ho base e i z size bytes ht hi hz hsize hby hzs hsz v n xs hs (hown.alloc _) ⟨w.heap.size, 0, none⟩ m m us hx (by omega) (fun j u hj => ?_) h1 h63 hbytes (by simp; omega) (fun v' w' h2 h3 _ => h v' w' h2 ?_)
 ·rw [show (⟨w.heap.size, 0, none⟩ : Addr).add j = ⟨w.heap.size, j, none⟩ by unfold Addr.add; split <;> simp_all]
  rw [World.cell?_alloc_at _ _ _ _ rfl]
  simpa using hj
 ·exact (((Below.refl _ _).alloc hbase _).grown h3 (by simp; omega) (fun k hk => (hown.lt k hk).1))
theorem ownsRow_below {w w' : World} {base B : Nat} {e : TypeId} {size n : Nat} {v : Value} {xs : List Value} (h : w.ownsRow base e size v n xs) (hb : Below B w w') (hB : w.heap.size ≤ B) : w'.ownsRow base e size v n xs := by
 obtain ⟨h1, h2⟩ := h; refine ⟨h1, ?_⟩
 rcases h2 with h2 | ⟨g, cap, cur, hv, hg, hh, r⟩
 ·exact .inl h2
 ·have hlt : g < w.heap.size := by
   rcases Nat.lt_or_ge g w.heap.size with h | h
   ·exact h
   ·rw [Array.getElem?_eq_none h] at hh; cases hh
  exact .inr ⟨g, cap, cur, hv, hg, by rw [hb.block g (by omega)]; exact hh, r⟩
end
end
section
open Go Go.RowKit Go.ChangeShapes Go.WideShapes Go.Deep Go.Joins
def U8 (x : Int) : Prop := 0 ≤ x ∧ x ≤ 255
theorem u8_of {x : Int} (h : (Lit.int .u8 x).wf = true) : U8 x := by
 have : 0 ≤ x ∧ x ≤ 255 := by simpa [Lit.wf, IntKind.min, IntKind.max, IntKind.signed, IntKind.bits] using h
 exact this
def I64 (x : Int) : Prop := -9223372036854775808 ≤ x ∧ x ≤ 9223372036854775807
theorem i64_of {x : Int} (h : (Lit.int .i64 x).wf = true) : I64 x := by
 have : -9223372036854775808 ≤ x ∧ x ≤ 9223372036854775807 := by simpa [Lit.wf, IntKind.min, IntKind.max, IntKind.signed, IntKind.bits] using h
 exact this
section
variable {α : Type}
def Row (B sz : Nat) (enc : α → List Value) (w : World) (v : Value) (xs : List α) : Prop :=
 ∃ s cap, v = .slice s xs.length cap ∧ xs.length ≤ cap ∧ cap ≤ maxLen ∧ (0 < xs.length → ∃ b o, s = some ⟨b, o, none⟩ ∧ b < B ∧ ∀ j x, xs[j]? = some x → ∀ i u, (enc x)[i]? = some u → w.cell? ⟨b, o + j * sz + i, none⟩ = some u)
theorem Row.below {B sz : Nat} {enc : α → List Value} {w w' : World} {v : Value} {xs : List α} (h : Row B sz enc w v xs) (hb : Below B w w') : Row B sz enc w' v xs := by
 obtain ⟨s, cap, hv, hl, hc, h⟩ := h; refine ⟨s, cap, hv, hl, hc, fun h0 => ?_⟩; obtain ⟨b, o, hs, hlt, hx⟩ := h h0; exact ⟨b, o, hs, hlt, fun j x hj i u hi => (hb.cell (p := ⟨b, _, none⟩) hlt).trans (hx j x hj i u hi)⟩
theorem Row.mono {B B' sz : Nat} {enc : α → List Value} {w : World} {v : Value} {xs : List α} (h : Row B sz enc w v xs) (hB : B ≤ B') : Row B' sz enc w v xs := by
 obtain ⟨s, cap, hv, hl, hc, h⟩ := h; refine ⟨s, cap, hv, hl, hc, fun h0 => ?_⟩; obtain ⟨b, o, hs, hlt, hx⟩ := h h0; exact ⟨b, o, hs, by omega, hx⟩
theorem Row.open_ {B sz : Nat} {enc : α → List Value} {w : World} {v : Value} {xs : List α} (h : Row B sz enc w v xs) (h0 : 0 < xs.length) :
  ∃ b o cap, v = .slice (some ⟨b, o, none⟩) xs.length cap ∧ b < B ∧ xs.length ≤ cap ∧ cap ≤ maxLen ∧ ∀ j x, xs[j]? = some x → ∀ i u, (enc x)[i]? = some u → w.cell? ⟨b, o + j * sz + i, none⟩ = some u := by
 obtain ⟨s, cap, hv, hl, hc, h⟩ := h; obtain ⟨b, o, rfl, hlt, hx⟩ := h h0; exact ⟨b, o, cap, hv, hlt, hl, hc, hx⟩
theorem Row.shape {B sz : Nat} {enc : α → List Value} {w : World} {v : Value} {xs : List α} (h : Row B sz enc w v xs) : ∃ s cap, v = .slice s xs.length cap ∧ xs.length ≤ maxLen := by
 obtain ⟨s, cap, hv, hl, hc, h⟩ := h; exact ⟨s, cap, hv, by omega⟩
theorem Row.own {B base sz : Nat} {e : TypeId} {enc : α → List Value} {w : World} {v : Value} {xs : List α} (he : ∀ x, (enc x).length = sz) (h : w.ownsRow base e sz v xs.length (xs.flatMap enc)) (hB : w.heap.size ≤ B) (hsz : 0 < sz) : Row B sz enc w v xs := by
 obtain ⟨hl, h2⟩ := h
 rcases h2 with ⟨rfl, h0⟩ | ⟨g, cap, cur, rfl, hg, hh, hnc, hcm, hcur, htake⟩
 ·refine ⟨none, 0, by rw [h0], by omega, by unfold maxLen; omega, fun h => by omega⟩
 ·have hlt : g < w.heap.size := by
   rcases Nat.lt_or_ge g w.heap.size with h | h
   ·exact h
   ·rw [Array.getElem?_eq_none h] at hh; cases hh
  refine ⟨_, cap, rfl, hnc, hcm, fun h0 => ⟨g, 0, rfl, by omega, fun j x hj i u hi => ?_⟩⟩
  have hil : i < sz := by rw [← he x]; exact (List.getElem?_eq_some_iff.1 hi).1
  have hjl := (List.getElem?_eq_some_iff.1 hj).1
  have key : ∀ (xs : List α) (j : Nat), xs[j]? = some x → (xs.flatMap enc)[j * sz + i]? = some u := by
   intro xs
   induction xs with
   | nil => intro j hj; simp at hj
   | cons y ys ih =>
    intro j hj
    rw [List.flatMap_cons]
    cases j with
    | zero =>
     simp at hj; subst hj
     rw [List.getElem?_append_left (by rw [he]; omega)]
     simpa using hi
    | succ j =>
     rw [List.getElem?_append_right (by rw [he, Nat.add_mul]; omega), he, show (j + 1) * sz + i - sz = j * sz + i by rw [Nat.add_mul]; omega]; exact ih j (by simpa using hj)
  have hk := key xs j hj
  have hlen : j * sz + i < xs.length * sz := by
   have : (j + 1) * sz ≤ xs.length * sz := Nat.mul_le_mul_right _ hjl; rw [Nat.add_mul] at this; omega
  rw [← htake, List.getElem?_take, if_pos hlen] at hk; simp only [World.cell?, hh, Nat.zero_add]
  simpa using hk
end
theorem add_lit (b o k : Nat) : (⟨b, o, none⟩ : Addr).add k = ⟨b, o + k, none⟩ := by unfold Addr.add; split <;> simp_all
section
variable {H : Type} {enc : TypeId × Value → H} {P : Program} {w : World} {base : Nat} {spare : Nat → Bool} {held : Bool}
theorem open_row {α : Type} [Inhabited α] {Ok : α → Prop} {sz : Nat} {encA : α → List Value} {r : Reach} {b0 : Nat} {t e : TypeId} {v : Value} {d : DataW H} {p : List MemPlace} (ht : P.underlying t = some (.slice e)) (hC : P.cellsOf e = sz) (hsz : 0 < sz)
  (dec : ∀ (n : Nat) (cs : List Value) (y : DataW H × List MemPlace), cs.length = sz → DataW.trod enc P w base spare held n e cs = some y → ∃ x, Ok x ∧ cs = encA x)
  (hv : Value.okWide P w r b0 t v) (h : DataW.Trod enc P w base spare held t v d p) :
  ∃ xs : List α, Row w.heap.size sz encA w v xs ∧ ∀ x ∈ xs, Ok x := by
 obtain ⟨a, len, cap, rfl⟩ := okWide_slice ht hv; obtain ⟨fuel, hf⟩ := h
 rcases open_slice ht (by simpa [Value.cells] using hf) with ⟨h0, _⟩ | ⟨a', len', cap', m, n, D, Pl, hcs, hb, hl, hm, hmm, hx, hi⟩
 ·simp at h0
  obtain ⟨rfl, rfl, rfl⟩ := h0; exact ⟨[], ⟨none, 0, rfl, by simp, by unfold maxLen; omega, fun h => by simp at h⟩, by simp⟩
 ·simp at hcs
  obtain ⟨rfl, rfl, rfl⟩ := hcs
  have hlm : len ≤ m := by rw [hmm]; split <;> omega
  have each : ∀ i, i < len → ∃ x : α, Ok x ∧ ∀ k u, (encA x)[k]? = some u → w.cell? ((a'.add (i * sz)).add k) = some u := by
   intro i hil
   obtain ⟨cs', hc, ht'⟩ := hi i (by omega); rw [hC] at hc; obtain ⟨_, hcl, hat⟩ := World.cells?_some hc; obtain ⟨x, hok, rfl⟩ := dec _ _ _ hcl ht'; refine ⟨x, hok, fun k u hk => ?_⟩
   have hkl : k < sz := by rw [← hcl]; exact (List.getElem?_eq_some_iff.1 hk).1
   rw [hat k hkl, hk]
  obtain ⟨V, hV⟩ := choose_lt (α := α) (p := fun i x => Ok x ∧ ∀ k u, (encA x)[k]? = some u → w.cell? ((a'.add (i * sz)).add k) = some u) each; refine ⟨(List.range len).map V, ⟨some a', cap, by simp, by simpa using hl, hm, fun h0 => ?_⟩, fun x hx => ?_⟩
  ·simp only [List.length_map, List.length_range] at h0
   obtain ⟨cs', hc, ht'⟩ := hi 0 (by omega); rw [hC] at hc; obtain ⟨_, hcl, hat⟩ := World.cells?_some hc; have h1 := hat 0 hsz; rw [Nat.zero_mul] at h1; obtain ⟨b, o, x⟩ := a'
   cases x with
   | some x =>
    exfalso; have e0 : ((⟨b, o, some x⟩ : Addr).add 0).add 0 = ⟨b, o, some x⟩ := rfl; rw [e0] at h1; have : cs'[0]? = some (cs'[0]'(by omega)) := List.getElem?_eq_getElem (by omega); rw [this] at h1; simp only [World.cell?] at h1
    split at h1 <;> simp at h1
   | none =>
    refine ⟨b, o, rfl, ?_, fun j x hj i u hi' => ?_⟩
    ·have : cs'[0]? = some (cs'[0]'(by omega)) := List.getElem?_eq_getElem (by omega)
     rw [this] at h1; exact World.block_lt_of_cell? _ _ h1
    ·obtain ⟨hj', e⟩ := List.getElem?_eq_some_iff.1 hj
     simp at hj' e
     subst e; have := (hV j hj').2 i u hi'; rw [add_lit, add_lit] at this; exact this
  ·obtain ⟨j, hj, rfl⟩ := List.mem_map.1 hx
   exact (hV j (List.mem_range.1 hj)).1
end
def encI (n : Int) : List Value := [.int .i64 n]
end
section
open Go Go.RowKit
def Blk (w : World) (b : Nat) (cs : List Value) (e : TypeId) : Prop := w.heap[b]? = some (.cells cs.toArray e (0, 0))
section
variable {w w' : World} {b : Nat} {cs : List Value} {e : TypeId}
theorem Blk.lt (h : Blk w b cs e) : b < w.heap.size := lt_of_block h
theorem Blk.cell (h : Blk w b cs e) {o : Nat} {v : Value} (ho : cs[o]? = some v) : w.cell? ⟨b, o, none⟩ = some v := by
 unfold Blk at h; simp only [World.cell?, h]
 simpa using ho
theorem Blk.free (h : Blk w b cs e) (o : Nat) : w.frozen? ⟨b, o, none⟩ = false := by unfold Blk at h; simp [World.frozen?, h]
theorem Blk.set (h : Blk w b cs e) (o : Nat) (u : Value) : Blk (w.setCell ⟨b, o, none⟩ u) b (cs.set o u) e := by
 unfold Blk at *; rw [heap_setCell_same _ _ _ _ _ _ h]
 simp
theorem Blk.set_ne (h : Blk w b cs e) {a : Addr} (ha : b ≠ a.block) (u : Value) : Blk (w.setCell a u) b cs e := by
 unfold Blk at *; rw [heap_setCell_other _ _ _ _ ha]; exact h
theorem Blk.alloc (h : Blk w b cs e) (ob : Obj) : Blk (w.alloc ob) b cs e := by
 have hl := h.lt; unfold Blk at *; rw [← h]
 show (w.heap.push ob)[b]? = _
 rw [Array.getElem?_push, if_neg (by omega)]
theorem Blk.drew (h : Blk w b cs e) : Blk w.drew b cs e := h
theorem Blk.new (w : World) (cs : List Value) (e : TypeId) : Blk (w.alloc (.cells cs.toArray e)) w.heap.size cs e := by
 unfold Blk
 show (w.heap.push _)[w.heap.size]? = _
 simp
theorem Blk.below (h : Blk w b cs e) {B : Nat} (hb : Below B w w') (hB : b < B) : Blk w' b cs e := (hb.block b hB).trans h
theorem Blk.new' {w : World} {b : Nat} {cs : List Value} {e : TypeId} (h : b = w.heap.size) : Blk (w.alloc (.cells cs.toArray e)) b cs e := by subst h; exact Blk.new _ _ _
theorem Blk.row {α : Type} {enc : α → List Value} {xs : List α} {sz cap : Nat} (he : ∀ x, (enc x).length = sz) (h : Blk w b cs e) (hc : cs.take (xs.length * sz) = xs.flatMap enc) (hcap : xs.length ≤ cap) (hm : cap ≤ maxLen) {B : Nat} (hB : b < B) :
  Row B sz enc w (.slice (some ⟨b, 0, none⟩) xs.length cap) xs := by
 refine ⟨_, cap, rfl, hcap, hm, fun h0 => ⟨b, 0, rfl, hB, fun j x hj i u hi => ?_⟩⟩
 have hil : i < sz := by rw [← he x]; exact (List.getElem?_eq_some_iff.1 hi).1
 have hjl := (List.getElem?_eq_some_iff.1 hj).1
 have key : ∀ (xs : List α) (j : Nat), xs[j]? = some x → (xs.flatMap enc)[j * sz + i]? = some u := by
  intro xs
  induction xs with
  | nil => intro j hj; simp at hj
  | cons y ys ih =>
   intro j hj
   rw [List.flatMap_cons]
   cases j with
   | zero =>
    simp at hj; subst hj
    rw [List.getElem?_append_left (by rw [he]; omega)]
    simpa using hi
   | succ j =>
    rw [List.getElem?_append_right (by rw [he, Nat.add_mul]; omega), he, show (j + 1) * sz + i - sz = j * sz + i by rw [Nat.add_mul]; omega]; exact ih j (by simpa using hj)
 have hk := key xs j hj
 have hlen : j * sz + i < xs.length * sz := by
  have : (j + 1) * sz ≤ xs.length * sz := Nat.mul_le_mul_right _ hjl; rw [Nat.add_mul] at this; omega
 rw [← hc, List.getElem?_take, if_pos hlen] at hk; exact h.cell (by simpa using hk)
end
theorem Blk.c11 {w : World} {b : Nat} {e : TypeId} {x0 x1 x2 x3 x4 x5 x6 x7 x8 x9 x10 : Value} (h : Blk w b [x0, x1, x2, x3, x4, x5, x6, x7, x8, x9, x10] e) : w.cell? ⟨b, 0, none⟩ = some x0 ∧ w.cell? ⟨b, 1, none⟩ = some x1 ∧ w.cell? ⟨b, 2, none⟩ = some x2 ∧ w.cell? ⟨b, 3, none⟩ = some x3 ∧ w.cell? ⟨b, 4, none⟩ = some x4 ∧ w.cell? ⟨b, 5, none⟩ = some x5 ∧ w.cell? ⟨b, 6, none⟩ = some x6 ∧ w.cell? ⟨b, 7, none⟩ = some x7 ∧ w.cell? ⟨b, 8, none⟩ = some x8 ∧ w.cell? ⟨b, 9, none⟩ = some x9 ∧ w.cell? ⟨b, 10, none⟩ = some x10 := ⟨h.cell (o := 0) rfl, h.cell (o := 1) rfl, h.cell (o := 2) rfl, h.cell (o := 3) rfl, h.cell (o := 4) rfl, h.cell (o := 5) rfl, h.cell (o := 6) rfl, h.cell (o := 7) rfl, h.cell (o := 8) rfl, h.cell (o := 9) rfl, h.cell (o := 10) rfl⟩
end
end Go.Proofs.YtfcphagmjijmkaaGreatDoor
