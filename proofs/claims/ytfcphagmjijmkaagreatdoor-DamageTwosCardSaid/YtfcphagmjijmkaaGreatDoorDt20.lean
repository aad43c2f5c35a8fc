/-
  A region that draws its order and makes blocks in any order: first the steady operations, then those that make one block each, then a forced rest: one walk in the order of the text serves for all orders; the new blocks are apart, and whole.
-/
import Derived.Test.YtfcphagmjijmkaaGreatDoorDt17
import Derived.Test.YtfcphagmjijmkaaGreatDoorDt19
namespace Go.Proofs.YtfcphagmjijmkaaGreatDoor
open Go.RowKit
set_option linter.unusedVariables false
set_option linter.unusedSimpArgs false
attribute [local go_sem] vwp vUpon_value vUpon_skip vUpon_enter vUpon_row
set_option maxHeartbeats 16000000
section
open Go Go.RowKit
set_option linter.unusedSectionVars false
section
variable {P : Program} {ops : Array Oper} {S : World → Prop} {Q : Exit → Act → World → Prop} {obj : Nat → Obj}
abbrev ptrTo (b : Nat) : Value := .pointer (some ⟨b, 0, none⟩)
def StB (P : Program) (ops : Array Oper) (S : World → Prop) (o : Oper) (v : Value) (a : Act) : Prop :=
 (Region.wanted o (yielded ops a.tmps) = true ∧ ∀ w, S w → vwp P o a w (fun u w' => u = v ∧ Below w.heap.size w w')) ∨
 (Region.wanted o (yielded ops a.tmps) = false ∧ v = undef)
def NewB (P : Program) (ops : Array Oper) (S : World → Prop) (o : Oper) (ob : Obj) (a : Act) : Prop :=
 Region.wanted o (yielded ops a.tmps) = true ∧ ∀ w, S w → vwp P o a w (fun u w' => u = ptrTo w.heap.size ∧ w' = w.alloc ob)
theorem StB.of_same {o : Oper} {v : Value} {a a' : Act} (hy : StB P ops S o v a) (he : execOp a'.eval o = execOp a.eval o)
  (hw : Region.wanted o (yielded ops a'.tmps) = Region.wanted o (yielded ops a.tmps)) : StB P ops S o v a' := by
 unfold StB vwp at *; rw [he, hw]; exact hy
theorem NewB.of_same {o : Oper} {v : Obj} {a a' : Act} (hy : NewB P ops S o v a) (he : execOp a'.eval o = execOp a.eval o)
  (hw : Region.wanted o (yielded ops a'.tmps) = Region.wanted o (yielded ops a.tmps)) : NewB P ops S o v a' := by
 unfold NewB vwp at *; rw [he, hw]; exact hy
theorem StB.put {oi oj : Oper} {v u : Value} {a : Act} (hap : oi.apart ops oj = true) (hsi : ∀ cs b, oi.op ≠ .select cs b) (hy : StB P ops S oi v a) : StB P ops S oi v (a.put oj.dst u) := by
 obtain ⟨h1, h2, h3⟩ := Oper.apart_spec hap; exact hy.of_same (execOp_put oi hsi a oj.dst u h3) (wanted_put oi a oj.dst u h3)
theorem StB.unput {oi oj : Oper} {v u : Value} {a : Act} (hap : oi.apart ops oj = true) (hsi : ∀ cs b, oi.op ≠ .select cs b) (hy : StB P ops S oi v (a.put oj.dst u)) : StB P ops S oi v a := by
 obtain ⟨h1, h2, h3⟩ := Oper.apart_spec hap; exact hy.of_same (execOp_put oi hsi a oj.dst u h3).symm (wanted_put oi a oj.dst u h3).symm
theorem NewB.put {oi oj : Oper} {v : Obj} {u : Value} {a : Act} (hap : oi.apart ops oj = true) (hsi : ∀ cs b, oi.op ≠ .select cs b) (hy : NewB P ops S oi v a) : NewB P ops S oi v (a.put oj.dst u) := by
 obtain ⟨h1, h2, h3⟩ := Oper.apart_spec hap; exact hy.of_same (execOp_put oi hsi a oj.dst u h3) (wanted_put oi a oj.dst u h3)
theorem NewB.unput {oi oj : Oper} {v : Obj} {u : Value} {a : Act} (hap : oi.apart ops oj = true) (hsi : ∀ cs b, oi.op ≠ .select cs b) (hy : NewB P ops S oi v (a.put oj.dst u)) : NewB P ops S oi v a := by
 obtain ⟨h1, h2, h3⟩ := Oper.apart_spec hap; exact hy.of_same (execOp_put oi hsi a oj.dst u h3).symm (wanted_put oi a oj.dst u h3).symm
def Stab (U : World → Prop) : Prop := ∀ w w', U w → Below w.heap.size w w' → U w'
def andB (U : World → Prop) (b : Nat) (ob : Obj) : World → Prop := fun w => U w ∧ w.heap[b]? = some ob
def orB (N : Nat → Prop) (b : Nat) : Nat → Prop := fun x => N x ∨ x = b
theorem andB_comm (U : World → Prop) (b c : Nat) (x y : Obj) : andB (andB U b x) c y = andB (andB U c y) b x := by
 funext w; unfold andB; exact propext ⟨fun ⟨⟨h1, h2⟩, h3⟩ => ⟨⟨h1, h3⟩, h2⟩, fun ⟨⟨h1, h2⟩, h3⟩ => ⟨⟨h1, h3⟩, h2⟩⟩
theorem orB_comm (N : Nat → Prop) (b c : Nat) : orB (orB N b) c = orB (orB N c) b := by
 funext x; unfold orB; exact propext ⟨fun h => by rcases h with (h | h) | h <;> simp [h], fun h => by rcases h with (h | h) | h <;> simp [h]⟩
theorem Stab.and {U : World → Prop} (h : Stab U) (b : Nat) (ob : Obj) : Stab (andB U b ob) := by
 intro w w' ⟨h1, h2⟩ hb
 refine ⟨h w w' h1 hb, ?_⟩; have : b < w.heap.size := (Array.getElem?_eq_some_iff.1 h2).1; exact (hb.block b this).trans h2
def tmAny (P : Program) (ops : Array Oper) (S : World → Prop) (obj : Nat → Obj) (m n : Nat) (L : Array Bool → (World → Prop) → (Nat → Prop) → Act → Prop) : Nat → Array Bool → (World → Prop) → (Nat → Prop) → Act → Prop
  | 0, listed, U, N, a => L listed U N a
  | f + 1, listed, U, N, a => Region.ready .any ops listed ≠ [] ∧
      ∀ i ∈ Region.ready .any ops listed, i < n ∧ ∃ o, ops[i]? = some o ∧
        ((i < m ∧ ∃ v, StB P ops S o v a ∧ tmAny P ops S obj m n L f (listed.setIfInBounds i true) U N (a.put o.dst v)) ∨
         (m ≤ i ∧ NewB P ops S o (obj i) a ∧ ∀ b, ¬ N b → tmAny P ops S obj m n L f (listed.setIfInBounds i true) (andB U b (obj i)) (orB N b) (a.put o.dst (ptrTo b))))
theorem StB.wpOp {i : Nat} {o : Oper} {v : Value} {a : Act} (hi : ops[i]? = some o) (hy : StB P ops S o v a) {K : Act → World → Prop} {w : World} (hS : S w)
  (h : ∀ w', Below w.heap.size w w' → K (a.put o.dst v) w') : wpOp P ops Q i K a w := by
 unfold Go.wpOp; simp only [hi]
 rcases hy with ⟨hw, hv⟩ | ⟨hw, rfl⟩
 ·simp only [hw, if_true]
  left
  have hv := hv w hS; unfold vwp at hv; unfold Oper.wp; generalize (execOp a.eval o).run P w = r at *
  cases r with
  | ok n w' =>
   cases n <;> simp only [vUpon] at hv <;> simp only [Oper.upon]
   case value u => obtain ⟨rfl, hs⟩ := hv; exact h _ hs
   case skip => obtain ⟨rfl, hs⟩ := hv; exact h _ hs
   case enter f args => exact Calls.mono hv fun e w'' ⟨u, he, hu, hs⟩ => by subst he; subst hu; exact h _ hs
   case row row args => exact Rows.mono hv fun u w'' ⟨hu, hs⟩ => by subst hu; exact h _ hs
  | halt x w' => simp only [vUpon] at hv
 ·simp only [hw, Bool.false_eq_true, if_false]; exact h _ (Below.refl _ _)
theorem NewB.wpOp {i : Nat} {o : Oper} {ob : Obj} {a : Act} (hi : ops[i]? = some o) (hy : NewB P ops S o ob a) {K : Act → World → Prop} {w : World} (hS : S w)
  (h : K (a.put o.dst (ptrTo w.heap.size)) (w.alloc ob)) : wpOp P ops Q i K a w := by
 unfold Go.wpOp; simp only [hi]; obtain ⟨hw, hv⟩ := hy; simp only [hw, if_true]
 left
 have hv := hv w hS; unfold vwp at hv; unfold Oper.wp; generalize (execOp a.eval o).run P w = r at *
 cases r with
 | ok n w' =>
  cases n <;> simp only [vUpon] at hv <;> simp only [Oper.upon]
  case value u => obtain ⟨rfl, rfl⟩ := hv; exact h
  case skip => obtain ⟨e, rfl⟩ := hv; rw [e]; exact h
  case enter f args => exact Calls.mono hv fun e w'' ⟨u, he, hu, hs⟩ => by subst he; subst hu; subst hs; exact h
  case row row args => exact Rows.mono hv fun u w'' ⟨hu, hs⟩ => by subst hu; subst hs; exact h
 | halt x w' => simp only [vUpon] at hv
theorem wpAny_of_tm {m n g : Nat} {L : Array Bool → (World → Prop) → (Nat → Prop) → Act → Prop} (hSt : Stab S)
  (hL : ∀ listed U N a w, S w → U w → (∀ b, N b → b < w.heap.size) → L listed U N a → wpAny P .any ops Q g listed a w) :
  ∀ (f : Nat) (listed : Array Bool) (U : World → Prop) (N : Nat → Prop) (a : Act) (w : World), S w → U w → Stab U → (∀ b, N b → b < w.heap.size) → tmAny P ops S obj m n L f listed U N a → wpAny P .any ops Q (f + g) listed a w
 | 0, listed, U, N, a, w, hS, hU, hst, hN, h => by rw [Nat.zero_add]; exact hL _ _ _ _ _ hS hU hN h
 | f + 1, listed, U, N, a, w, hS, hU, hst, hN, h => by
  rw [show f + 1 + g = (f + g) + 1 by omega]; refine ⟨fun h0 => absurd h0 h.1, fun i hi => ?_⟩; obtain ⟨_, o, ho, h⟩ := h.2 i hi
  rcases h with ⟨_, v, hy, hr⟩ | ⟨_, hy, hr⟩
  ·exact hy.wpOp ho hS fun w' hb => wpAny_of_tm hSt hL f _ _ _ _ w' (hSt _ _ hS hb) (hst _ _ hU hb) hst (fun b h => Nat.lt_of_lt_of_le (hN b h) hb.size) hr
  ·refine hy.wpOp ho hS ?_
   have hb : Below w.heap.size w (w.alloc (obj i)) := (Below.refl _ _).alloc lrr _
   have hsz : (w.alloc (obj i)).heap.size = w.heap.size + 1 := by simp
   have e : (w.alloc (obj i)).heap[w.heap.size]? = some (obj i) := by
    have : (w.alloc (obj i)).heap = w.heap.push (obj i) := rfl; rw [this]
    simp
   have hN' : ∀ b, orB N w.heap.size b → b < (w.alloc (obj i)).heap.size := fun b h => by
    rw [hsz]
    rcases h with h | h
    ·have := hN b h; omega
    ·omega
   exact wpAny_of_tm hSt hL f _ _ _ _ _ (hSt _ _ hS hb) ⟨hst _ _ hU hb, e⟩ (hst.and _ _) hN' (hr w.heap.size (fun h => Nat.lt_irrefl _ (hN _ h)))
section
variable {M : Array Nat} (hg : Good ops M) (hsel : Region.noSelect ops = true) {s m n i : Nat} {oi : Oper} {L : Array Bool → (World → Prop) → (Nat → Prop) → Act → Prop}
include hg hsel
theorem tm_apart {j : Nat} {oj : Oper} {listed : Array Bool} (hi : ops[i]? = some oi) (hoj : ops[j]? = some oj) (hc : Closed ops listed) (hr : i ∈ Region.ready .any ops listed) (hj : j ∈ Region.ready .any ops listed) (hji : j ≠ i) :
  (oi.apart ops oj = true ∧ oj.apart ops oi = true) ∧ (∀ cs b, oi.op ≠ .select cs b) ∧ (∀ cs b, oj.op ≠ .select cs b) := by
 obtain ⟨hjun, _⟩ := mem_ready.1 hj; have hiun := (mem_ready.1 hr).1; refine ⟨?_, fun cs b => Region.noSelect_spec hsel i oi cs b hi, fun cs b => Region.noSelect_spec hsel j oj cs b hoj⟩
 rcases hg.apart i j oi oj hi hoj (Ne.symm hji) with h | h | h
 ·have h1 := hc.ready hg hj h
  rw [getD_both hiun] at h1; cases h1
 ·have h1 := hc.ready hg hr h
  rw [getD_both hjun] at h1; cases h1
 ·exact h
theorem tm_below (hin : i < n) (him : s ≤ i) (htail : ∀ t, n ≤ t → t < ops.size → ∀ i, s ≤ i → i < n → R M t i) {listed : Array Bool} (hc : Closed ops listed) (hr : i ∈ Region.ready .any ops listed) : ∀ j ∈ Region.ready .any ops listed, j < n := by
 intro j hj
 rcases Nat.lt_or_ge j n with h | h
 ·exact h
 ·obtain ⟨_, oj, hoj, _⟩ := mem_ready.1 hj
  have hjs : j < ops.size := (Array.getElem?_eq_some_iff.1 hoj).1; have h1 := hc.ready hg hj (htail j h hjs i him hin); rw [getD_both (mem_ready.1 hr).1] at h1
  cases h1
theorem tm_first_st (hi : ops[i]? = some oi) (hin : i < n) (him : s ≤ i) (hi_m : i < m)
  (htail : ∀ t, n ≤ t → t < ops.size → ∀ i, s ≤ i → i < n → R M t i)
  (hdone : ∀ listed U N a, L listed U N a → ∀ j ∈ Region.ready .any ops listed, n ≤ j) {v : Value} :
  ∀ (f : Nat) (listed : Array Bool) (U : World → Prop) (N : Nat → Prop) (a : Act), Closed ops listed →
   i ∈ Region.ready .any ops listed → StB P ops S oi v a →
   tmAny P ops S obj m n L f (listed.setIfInBounds i true) U N (a.put oi.dst v) → tmAny P ops S obj m n L (f + 1) listed U N a := by
 intro f
 induction f with
 | zero =>
  intro listed U N a hc hr hy H
  refine ⟨fun h => (by rw [h] at hr; cases hr), fun j hj => ?_⟩; have hjn := tm_below hg hsel hin him htail hc hr j hj; refine ⟨hjn, ?_⟩
  by_cases hji : j = i
  ·subst hji; exact ⟨oi, hi, .inl ⟨hi_m, v, hy, H⟩⟩
  ·have := hdone _ _ _ _ H j (ready_mono hj hji)
   omega
 | succ f ih =>
  intro listed U N a hc hr hy H
  refine ⟨fun h => (by rw [h] at hr; cases hr), fun j hj => ?_⟩; have hjn := tm_below hg hsel hin him htail hc hr j hj; refine ⟨hjn, ?_⟩
  by_cases hji : j = i
  ·subst hji; exact ⟨oi, hi, .inl ⟨hi_m, v, hy, H⟩⟩
  ·obtain ⟨_, oj, hoj, h⟩ := H.2 j (ready_mono hj hji)
   obtain ⟨hap, hsi, hsj⟩ := tm_apart hg hsel hi hoj hc hr hj hji; refine ⟨oj, hoj, ?_⟩
   rcases h with ⟨hjm, u, hyj, hrest⟩ | ⟨hjm, hyj, hrest⟩
   ·refine .inl ⟨hjm, u, hyj.unput hap.2 hsj, ih _ _ _ _ (hc.set hj) (ready_mono hr (Ne.symm hji)) (hy.put hap.1 hsi) ?_⟩
    rw [Array.setIfInBounds_comm _ _ hji, Act.put_comm _ _ _ (Oper.apart_spec hap.2).2.1]; exact hrest
   ·refine .inr ⟨hjm, hyj.unput hap.2 hsj, fun b hb => ih _ _ _ _ (hc.set hj) (ready_mono hr (Ne.symm hji)) (hy.put hap.1 hsi) ?_⟩
    rw [Array.setIfInBounds_comm _ _ hji, Act.put_comm _ _ _ (Oper.apart_spec hap.2).2.1]; exact hrest b hb
theorem tm_first_new (hi : ops[i]? = some oi) (hin : i < n) (him : s ≤ i) (hi_m : m ≤ i)
  (htail : ∀ t, n ≤ t → t < ops.size → ∀ i, s ≤ i → i < n → R M t i)
  (hdone : ∀ listed U N a, L listed U N a → ∀ j ∈ Region.ready .any ops listed, n ≤ j) :
  ∀ (f : Nat) (listed : Array Bool) (U : World → Prop) (N : Nat → Prop) (a : Act), Closed ops listed → (∀ j ∈ Region.ready .any ops listed, m ≤ j) → (∃ B, ∀ b, N b → b < B) →
   i ∈ Region.ready .any ops listed → NewB P ops S oi (obj i) a →
   (∀ b, ¬ N b → tmAny P ops S obj m n L f (listed.setIfInBounds i true) (andB U b (obj i)) (orB N b) (a.put oi.dst (ptrTo b))) → tmAny P ops S obj m n L (f + 1) listed U N a := by
 intro f
 induction f with
 | zero =>
  intro listed U N a hc hall ⟨B, hB⟩ hr hy H
  refine ⟨fun h => (by rw [h] at hr; cases hr), fun j hj => ?_⟩; have hjn := tm_below hg hsel hin him htail hc hr j hj; refine ⟨hjn, ?_⟩
  by_cases hji : j = i
  ·subst hji; exact ⟨oi, hi, .inr ⟨hi_m, hy, H⟩⟩
  ·have := hdone _ _ _ _ (H B (fun h => Nat.lt_irrefl _ (hB _ h))) j (ready_mono hj hji)
   omega
 | succ f ih =>
  intro listed U N a hc hall ⟨B, hB⟩ hr hy H
  refine ⟨fun h => (by rw [h] at hr; cases hr), fun j hj => ?_⟩; have hjn := tm_below hg hsel hin him htail hc hr j hj; refine ⟨hjn, ?_⟩
  by_cases hji : j = i
  ·subst hji; exact ⟨oi, hi, .inr ⟨hi_m, hy, H⟩⟩
  ·have hjm := hall j hj
   obtain ⟨_, oj, hoj, h⟩ := (H B (fun h => Nat.lt_irrefl _ (hB _ h))).2 j (ready_mono hj hji); obtain ⟨hap, hsi, hsj⟩ := tm_apart hg hsel hi hoj hc hr hj hji; refine ⟨oj, hoj, .inr ⟨hjm, ?_, fun c hcN => ?_⟩⟩
   ·rcases h with ⟨h, _⟩ | ⟨_, hyj, _⟩
    ·omega
    ·exact hyj.unput hap.2 hsj
   ·refine ih _ _ _ _ (hc.set hj) (fun k hk => ?_) ⟨max B (c + 1), fun b hb => ?_⟩ (ready_mono hr (Ne.symm hji)) (hy.put hap.1 hsi) (fun b hbN => ?_)
    ·rcases Nat.lt_or_ge k m with hlt | hge
     ·have hkr : k ∈ Region.ready .any ops listed := by
       obtain ⟨h0, ok, hok, hall'⟩ := mem_ready.1 hk
       have hkj : j ≠ k := by omega
       refine mem_ready.2 ⟨by rwa [getD_set_ne _ hkj] at h0, ok, hok, fun e he hb => ?_⟩; have hl := hall' e he hb; have hle := hg.lt k ok hok e he hb
       rwa [getD_set_ne false (by omega)] at hl
      have := hall k hkr; omega
     ·exact hge
    ·rcases hb with hb | hb
     ·have := hB b hb; omega
     ·omega
    ·have hb1 : ¬ N b := fun h => hbN (.inl h)
     have hcb : ¬ orB N b c := fun h => by
      rcases h with h | h
      ·exact hcN h
      ·exact hbN (.inr h.symm)
     obtain ⟨_, oj', hoj', h'⟩ := (H b hb1).2 j (ready_mono hj hji); obtain rfl : oj' = oj := Option.some.inj (hoj'.symm.trans hoj)
     rcases h' with ⟨h, _⟩ | ⟨_, _, hrest⟩
     ·omega
     ·have := hrest c hcb
      rw [Array.setIfInBounds_comm _ _ hji, Act.put_comm _ _ _ (Oper.apart_spec hap.2).2.1, andB_comm, orB_comm]; exact this
end
def wpStB (P : Program) (ops : Array Oper) (S : World → Prop) (F : Act → Prop) : List Oper → Act → Prop
 | [], a => F a
 | o :: rest, a => ∃ v, StB P ops S o v a ∧ wpStB P ops S F rest (a.put o.dst v)
theorem wpStB_nil {F : Act → Prop} {a : Act} (h : F a) : wpStB P ops S F [] a := h
theorem wpStB_do {F : Act → Prop} {a : Act} {o : Oper} {rest : List Oper} {v : Value} (hw : Region.wanted o (yielded ops a.tmps) = true)
  (h : ∀ w, S w → ∀ R : Value → World → Prop, (∀ w', Below w.heap.size w w' → R v w') → vwp P o a w R) (hr : wpStB P ops S F rest (a.put o.dst v)) : wpStB P ops S F (o :: rest) a :=
 ⟨v, .inl ⟨hw, fun w hS => h w hS _ fun w' hS' => ⟨rfl, hS'⟩⟩, hr⟩
def wpNews (P : Program) (ops : Array Oper) (S : World → Prop) (obj : Nat → Obj) (F : (World → Prop) → (Nat → Prop) → Act → Prop) : List Oper → Nat → (World → Prop) → (Nat → Prop) → Act → Prop
 | [], _, U, N, a => F U N a
 | o :: rest, i, U, N, a => NewB P ops S o (obj i) a ∧ ∀ b, ¬ N b → wpNews P ops S obj F rest (i + 1) (andB U b (obj i)) (orB N b) (a.put o.dst (ptrTo b))
theorem wpNews_nil {F : (World → Prop) → (Nat → Prop) → Act → Prop} {i : Nat} {U : World → Prop} {N : Nat → Prop} {a : Act} (h : F U N a) : wpNews P ops S obj F [] i U N a := h
theorem wpNews_do {F : (World → Prop) → (Nat → Prop) → Act → Prop} {i : Nat} {U : World → Prop} {N : Nat → Prop} {a : Act} {o : Oper} {rest : List Oper} (hw : Region.wanted o (yielded ops a.tmps) = true)
  (h : ∀ w, S w → ∀ R : Value → World → Prop, R (ptrTo w.heap.size) (w.alloc (obj i)) → vwp P o a w R)
  (hr : ∀ b, ¬ N b → wpNews P ops S obj F rest (i + 1) (andB U b (obj i)) (orB N b) (a.put o.dst (ptrTo b))) : wpNews P ops S obj F (o :: rest) i U N a :=
 ⟨⟨hw, fun w hS => h w hS _ ⟨rfl, rfl⟩⟩, hr⟩
theorem wp_region_tame {id : Nat} {a : Act} {w : World} (S : World → Prop) (obj : Nat → Obj) (K m n : Nat) (hm : P.follows .mixedOrders = true) (hgb : goodB ops (Region.before ops) = true) (hmn : m ≤ n) (hn : n ≤ ops.size)
  (ht : tailB ops (Region.before ops) 0 n = true) (hc : chainedB ops (Region.before ops) n = true) (hSt : Stab S) (hK : K ≤ w.heap.size) (hS : S w.drew)
  (h : wpStB P ops S (fun a' => wpNews P ops S obj (fun U N a'' => ∀ w', S w' → U w' → (∀ b, N b → b < w'.heap.size) → wpList P ops Q (ops.toList.drop n) a'' w') ((ops.toList.drop m).take (n - m)) m (fun _ => True) (fun b => b < K) a') (ops.toList.take m) a) :
  (Code.region id ops true).wp P Q a w := by
 obtain ⟨hg, hsel⟩ := good_of hgb
 have htail : ∀ t, n ≤ t → t < ops.size → ∀ i, 0 ≤ i → i < n → R (Region.before ops) t i := fun t h1 h2 i h3 h4 => by
  have := List.all_eq_true.1 ht t (List.mem_range.2 h2); simp only [Bool.or_eq_true, decide_eq_true_eq] at this
  rcases this with h | h
  ·omega
  ·have := List.all_eq_true.1 h i (List.mem_range.2 h4)
   simp only [Bool.or_eq_true, decide_eq_true_eq] at this
   rcases this with h | h
   ·omega
   ·exact h
 let F : (World → Prop) → (Nat → Prop) → Act → Prop := fun U N a'' => ∀ w', S w' → U w' → (∀ b, N b → b < w'.heap.size) → wpList P ops Q (ops.toList.drop n) a'' w'
 let L : Array Bool → (World → Prop) → (Nat → Prop) → Act → Prop := fun listed U N a' => listed = firstN ops.size n ∧ F U N a'
 have hdone : ∀ listed U N a, L listed U N a → ∀ j ∈ Region.ready .any ops listed, n ≤ j := fun listed U N a hl j hj => by
  rw [hl.1] at hj; exact (ready_firstN_ge hj).1
 have news : ∀ (c k : Nat) (U : World → Prop) (N : Nat → Prop) (a : Act), k + c = n → m ≤ k → (∃ B, ∀ b, N b → b < B) → wpNews P ops S obj F ((ops.toList.drop k).take c) k U N a → tmAny P ops S obj m n L c (firstN ops.size k) U N a := by
  intro c
  induction c with
  | zero =>
   intro k U N a hk hmk _ h
   simp only [List.take_zero, wpNews] at h
   have : k = n := by omega
   subst this; exact ⟨rfl, h⟩
  | succ c ih =>
   intro k U N a hk hmk hB h
   have hks : k < ops.size := by omega
   have hd : ops.toList.drop k = ops[k] :: ops.toList.drop (k + 1) := by
    rw [List.drop_eq_getElem_cons (by simpa using hks)]; rfl
   rw [hd, List.take_succ_cons] at h; obtain ⟨hy, hr⟩ := h; refine tm_first_new hg hsel (s := 0) (Array.getElem?_eq_getElem hks) (by omega) (Nat.zero_le _) hmk htail hdone c _ _ _ _ (Closed.firstN hg k) (fun j hj => Nat.le_trans hmk (ready_firstN_ge hj).1) hB (ready_firstN hg hks) hy (fun b hb => ?_); rw [firstN_set]; refine ih (k + 1) _ _ _ (by omega) (by omega) ?_ (hr b hb); obtain ⟨B, hB⟩ := hB
   exact ⟨max B (b + 1), fun x hx => by
    rcases hx with hx | hx
    ·have := hB x hx; omega
    ·omega⟩
 have steady : ∀ (c k : Nat) (a : Act), k + c = m → wpStB P ops S (fun a' => wpNews P ops S obj F ((ops.toList.drop m).take (n - m)) m (fun _ => True) (fun b => b < K) a') ((ops.toList.drop k).take c) a →
   tmAny P ops S obj m n L (c + (n - m)) (firstN ops.size k) (fun _ => True) (fun b => b < K) a := by
  intro c
  induction c with
  | zero =>
   intro k a hk h
   simp only [List.take_zero, wpStB] at h
   have : k = m := by omega
   subst this; rw [Nat.zero_add]; exact news (n - k) k _ _ _ (by omega) lrr ⟨K, fun b h => h⟩ h
  | succ c ih =>
   intro k a hk h
   have hks : k < ops.size := by omega
   have hd : ops.toList.drop k = ops[k] :: ops.toList.drop (k + 1) := by
    rw [List.drop_eq_getElem_cons (by simpa using hks)]; rfl
   rw [hd, List.take_succ_cons] at h; obtain ⟨v, hy, hr⟩ := h; rw [show c + 1 + (n - m) = (c + (n - m)) + 1 by omega]; refine tm_first_st hg hsel (s := 0) (Array.getElem?_eq_getElem hks) (by omega) (Nat.zero_le _) (by omega) htail hdone _ _ _ _ _ (Closed.firstN hg k) (ready_firstN hg hks) hy ?_; rw [firstN_set]; exact ih (k + 1) _ (by omega) hr
 refine wp_region_from hm ?_; have h0 := steady m 0 a (by omega) (by rw [List.drop_zero]; exact h); rw [show m + (n - m) = n by omega] at h0; unfold wpFrom; rw [show ops.size - 0 = n + (ops.size - n) by omega]; refine wpAny_of_tm hSt (fun listed U N a' w' hS' hU hN hl => ?_) n _ _ _ _ _ hS trivial (fun _ _ _ _ => trivial) (fun b hb => Nat.lt_of_lt_of_le hb hK) h0; obtain ⟨rfl, hF⟩ := hl; exact wpFrom_list hg _ n rfl hc (hF w' hS' hU hN)
theorem new_cell {w : World} {b : Nat} {cs : Array Value} {e : TypeId} {x : Nat × Nat} (h : w.heap[b]? = some (.cells cs e x)) {o : Nat} {v : Value} (ho : cs[o]? = some v) : w.cell? ⟨b, o, none⟩ = some v := by
 simp [World.cell?, h, ho]
theorem new_free {w : World} {b : Nat} {cs : Array Value} {e : TypeId} (h : w.heap[b]? = some (.cells cs e (0, 0))) (o : Nat) : w.frozen? ⟨b, o, none⟩ = false := by
 simp [World.frozen?, h]
theorem Held.stab (w : World) (k : Nat) (l : List (Addr × Value)) : Stab (Held w k l) := fun _ _ h hb => h.below hb
end
end
section
section
attribute [local go_sem high] eql_rect neq_rect
theorem kdraws_any (s : St) (w : World) (h : U8 s.kind) : Calls Tryz.prog 168 #[.agg #[.int .u8 (s).kind, .int .i64 (s).rect.x, .int .i64 (s).rect.y, .int .i64 (s).rect.wd, .int .i64 (s).rect.ht, .int .u8 (s).col.r, .int .u8 (s).col.g, .int .u8 (s).col.b, .int .u8 (s).col.a, .int .u8 (s).back.r, .int .u8 (s).back.g, .int .u8 (s).back.b, .int .u8 (s).back.a, .string (s).text, .int .i64 (s).node]] w fun e w' => e = .returned (.bool (decide (s.kind ≤ 3))) ∧ Below w.heap.size w w' := by
 obtain ⟨kd, ⟨x, y, wd, ht⟩, ⟨cr, cg, cb, ca⟩, ⟨br, bg, bb, ba⟩, tx, nd⟩ := s; simp only at h ⊢; obtain ⟨h1, h2⟩ := h
 by_cases c : kd < 4
 ·rw [show decide (kd ≤ 3) = true by simp; omega]
  have c1 : decide (kd < 4) = true := by simpa using c
  go_enter Tryz.func168, Tryz.ntmps168
  go_wp2; go_ret; exact ⟨rfl, belt⟩
 ·rw [show decide (kd ≤ 3) = false by simp; omega]
  have c1 : decide (kd < 4) = false := by simpa using c
  go_enter Tryz.func168, Tryz.ntmps168
  go_wp2; go_ret; exact ⟨rfl, belt⟩
theorem meet_em (p q : Re) : emptyR (meetR p q) = (meetR p q).eqb Re.none := by
 unfold meetR
 split
 ·decide
 ·rename_i h
  simp only [Bool.or_eq_true, not_or, Bool.not_eq_true] at h; obtain ⟨m1, a1, a2⟩ := full_bd h.1; obtain ⟨m2, b1, b2⟩ := full_bd h.2; have c1 := may_bd m1; have c2 := may_bd m2; have c3 := may_sum m1; have c4 := may_sum m2; unfold fromR
  split
  ·decide
  ·rename_i hn
   have hm : mayR ⟨max p.x q.x, max p.y q.y, min (p.x + p.wd) (q.x + q.wd) - max p.x q.x, min (p.y + p.ht) (q.y + q.ht) - max p.y q.y⟩ = true := may_of (by simp only; omega); rw [empty_none hm]
   have e1 : noneR ⟨max p.x q.x, max p.y q.y, min (p.x + p.wd) (q.x + q.wd) - max p.x q.x, min (p.y + p.ht) (q.y + q.ht) - max p.y q.y⟩ = false := by
    unfold noneR; simp only [Bool.or_eq_false_iff, decide_eq_false_iff_not]; omega
   rw [e1]
   symm
   unfold Re.eqb eq4 Re.none; simp only [Bool.and_eq_false_iff, beq_eq_false_iff_ne]; omega
end
end
section
set_option maxRecDepth 100000 in
theorem kflat_any (xs : List St) (v : Value) (w : World) (hl : Row w.heap.size 15 St.enc w v xs) (k1 : ∀ s ∈ xs, s.Wf) : Calls Tryz.prog 120 #[v] w (OutF w.heap.size (flS xs) (flR xs) (chkL xs) w) := by
 obtain ⟨iR, hr0, hr1, hr2, hr3⟩ := info_parts infoRe; obtain ⟨iM, hi0, hm0, hm1, hm2⟩ := info_parts infoSt
 have C1 := fun w' (hb : Below w.heap.size w w') => rcheck_any xs v w' ((hl.below hb).mono hb.size) k1
 have K1 := fun w' (hb : Below w.heap.size w w') hc => kshown_any xs v w' ((hl.below hb).mono hb.size) k1 hc
 obtain ⟨s0, cap, rfl, hmax⟩ := hl.shape
 have hopen := fun h0 => row_st hl h0
 obtain ⟨n, en⟩ := exx (xs.length); clear hl
 by_cases c1 : chkL xs = 0
 ·have l1 := chk_len c1
  have hfS : flS xs = fltS xs := if_pos c1; have hfR : flR xs = fltR xs (shL xs) := if_pos c1; have hRl := shL_len xs; obtain ⟨R, hR⟩ := exx (shL xs)
  have K1 := fun w' hb => K1 w' hb c1
  rw [hfS, hfR]; rw [hR] at K1 hRl ⊢; rw [c1] at C1 ⊢; rw [en] at l1 hmax hopen C1 K1 hRl ⊢; replace C1 := hdh C1; replace K1 := hdh K1; replace hopen := hdh hopen; replace en := hdh en; replace hRl := hdh hRl; replace k1 := hdh k1; clear c1 hR hfS hfR
  go_enter Tryz.func120, Tryz.ntmps120
  go_wp2_with (first
   | (go_at_call 12; (with_reducible refine cmm (C1.out _ belt) fun w3 hb3 => ?_); have z3 := hb3.size)
   | (go_at_call 167; (with_reducible refine (K1.out _ hb3).mono ?_); rintro e w2 ⟨v2, rfl, hown2, hb2⟩; obtain ⟨s2, cap2, rfl⟩ := own_slice hown2; rw [hRl.out])
   | go_in)
  have hb02 : Below w.heap.size w w2 := hb3.trans (hb2.mono z3); have z02 := hb02.size; have hrow := hown2.row (Nat.le_refl w2.heap.size)
  have hopR := fun h0 => row_re hrow h0
  rw [hRl.out] at hopR; replace hopR := hdh hopR; clear hrow hown2 hb2 hb3 z3
  go_loopw [7, 8, 9] (fun va vb i wr => ∃ k : Nat, k ≤ n ∧ i = .int .i64 k ∧ FlCut w2 (fltS (xs.take k)) (fltR (xs.take k) (R.take k)) va vb wr) (fun _ _ i _ => n - (intOf i).toNat)
  case atStart => exact ⟨0, Nat.zero_le _, rfl, World.ownsRow_nil _ _ _ _, World.ownsRow_nil _ _ _ _, Apart.none _ _ _, Below.refl _ _⟩
  case round =>
   obtain ⟨k, hk, rfl, hown, hownR, hap, hbr⟩ := hrel; have zr := hbr.size; obtain ⟨hcr, hfr⟩ := bcell hbr
   by_cases hkn : k < n
   ·obtain ⟨b, p, cap', e, hb, _, _, hel⟩ := hopen.out (by omega)
    simp at e
    obtain ⟨rfl, rfl⟩ := e; obtain ⟨b2, p2, cap2', e, hb2, _, _, hel2⟩ := hopR.out (by omega)
    simp at e
    obtain ⟨rfl, rfl⟩ := e; obtain ⟨s, hs⟩ := get_at en.out hkn; obtain ⟨q, hq⟩ := get_at hRl.out hkn; obtain ⟨hcw, hfw⟩ := bcell hb02; obtain ⟨g0, g1, g2, g3, g4, g5, g6, g7, g8, g9, g10, g11, g12, g13, g14⟩ := hel k s hs; obtain ⟨j0, j1, j2, j3⟩ := hel2 k q hq; have eS := fltS_snoc hs; have eR := fltR_snoc hs hq
    have D := fun w => kdraws_any s w ((k1.out s (List.mem_of_getElem? hs)).1)
    have hkk : (k : Int) < n := by omega
    have yb : b < wr.heap.size := by omega
    have ybw : b < w2.heap.size := by omega
    have yb2 : b2 < wr.heap.size := by omega
    have hln1 : (fltS (xs.take k)).length ≤ n := by have := fltS_le (xs.take k); simp at this; omega
    have hln2 : (fltR (xs.take k) (R.take k)).length ≤ n := by rw [fltS_len _ _ (by have := hRl.out; have := en.out; simp; omega)]; omega
    clear hel hel2 hs hq; replace hown := hdh hown; replace hownR := hdh hownR; replace hap := hdh hap
    cases hd : drB s
    ·rw [show decide (s.kind ≤ 3) = false from hd] at D
     rw [hd] at eS eR; simp only [Bool.false_eq_true, if_false, List.append_nil] at eS eR; replace eS := hdh eS; replace eR := hdh eR; replace D := hdh D; clear hd
     go_wp2_with (first
      | (go_at_call 168; (with_reducible refine cmm (D.out _) fun w4 hb4 => ?_))
      | go_in)
     have hb4r : Below wr.heap.size wr w4 := belt; go_roundw
     case measure => simp [intOf]; omega
     case rel =>
      refine ⟨k + 1, by omega, by go_num, ?_, ?_, hap.out, hbr.trans (hb4r.mono zr)⟩
      ·rw [eS.out]; exact hown.out.below hb4r lrr
      ·rw [eR.out]; exact hownR.out.below hb4r lrr
    ·rw [show decide (s.kind ≤ 3) = true from hd] at D
     rw [hd] at eS eR; simp only [if_true] at eS eR; replace eS := hdh eS; replace eR := hdh eR; replace D := hdh D; have lo1 := hdh (fun g hg => (own_in hown.out g hg).2); have lo2 := hdh (fun g hg => (own_in hownR.out g hg).2); clear hd
     go_upto_region 11 with (first
      | (go_at_call 168; (with_reducible refine cmm (D.out _) fun w4 hb4 => ?_); have hb4r : Below wr.heap.size wr w4 := belt; have z4 := hb4r.size; obtain ⟨hc4, hf4⟩ := bcell hb4r; have own4 := hown.out.below hb4r lrr; have ownR4 := hdh (hownR.out.below hb4r lrr); unfold Owns at own4)
      | go_in)
     have h24 : Below w2.heap.size w2 w4 := hbr.trans (hb4r.mono zr); have z24 := h24.size
     go_wp2_with (first
      | (at_builtin; refine wpList_append_two rfl _ _ _ rfl w2.heap.size 36 iM _ 15 72 Tryz.underlying22 hi0 hm0 hm1 hm2 rfl (by omega) w4 1 _ _ _ _ (by rfl) own4 (by rfl) rfl (by simp [Value.oneCell']) (by omega) (by unfold maxLen; omega) (by omega) ?_; intro v5 w5 hown5 hgr5 hat5 hb5; obtain ⟨hc5, hf5⟩ := bcell (h24.trans hb5); have z5 := hgr5.size; have ownR5 := hdh (own_keep ownR4.out hgr5 (fun g h1 h2 => hap.out g h2 h1)); have hown5 := hdh hown5)
      | (at_builtin; refine wpList_append_two rfl _ _ _ rfl w2.heap.size 32 iR _ 4 32 Tryz.underlying25 hr0 hr1 hr2 hr3 rfl (by omega) w5 1 _ _ _ _ (by rfl) ownR5.out (by rfl) rfl (by simp [Value.oneCell']) (by omega) (by unfold maxLen; omega) (by omega) ?_; intro v6 w6 hown6 hgr6 hat6 hb6)
      | go_in)
     have ap5 : Apart v5 _ := apart_next (C := w5.heap.size) hap.out lo1.out lo2.out (fun g h => (hat5 g h).imp id (fun h => by omega)) (fun g h => (own_in hown5.out g h).2) (fun g h => .inl h); have own5' := own_keep hown5.out hgr6 (fun g h1 h2 => ap5 g h1 h2); have ap6 : Apart v5 v6 := apart_next (C := w5.heap.size) hap.out lo1.out lo2.out (fun g h => (hat5 g h).imp id (fun h => by omega)) (fun g h => (own_in hown5.out g h).2) (fun g h => (hat6 g h).imp id (fun h => by omega)); have h26 : Below w2.heap.size w2 w6 := (h24.trans hb5).trans hb6; replace own5' := hdh own5'; replace hown6 := hdh hown6
     replace ap6 := hdh ap6; go_roundw
     case measure => simp [intOf]; omega
     case rel =>
      refine ⟨k + 1, by omega, by go_num, ?_, ?_, ap6.out, h26⟩
      ·rw [eS.out]
       unfold Owns; rw [List.length_append, List.flatMap_append]; exact own5'.out
      ·rw [eR.out]
       unfold OwnsR; rw [List.length_append, List.flatMap_append]; exact hown6.out
   ·obtain rfl : k = n := by omega
    rw [List.take_of_length_le (by have := en.out; omega), List.take_of_length_le (by have := hRl.out; omega)] at hownR; rw [List.take_of_length_le (by have := en.out; omega)] at hown; replace hown := hdh hown; replace hownR := hdh hownR; replace hap := hdh hap; go_wp2; go_ret3; exact ⟨hb02.trans (hbr.mono z02), _, _, rfl, own_less hown.out z02, own_less hownR.out z02, hap.out⟩
 ·have hfS : flS xs = [] := if_neg c1
  have hfR : flR xs = [] := if_neg c1
  have hcb : (chkL xs == 0) = false := by simp [c1]
  have hcn : (chkL xs != 0) = true := by simp [c1]
  rw [hfS, hfR]; rw [en] at C1 ⊢; replace C1 := hdh C1; clear c1 K1
  go_enter Tryz.func120, Tryz.ntmps120
  go_wp2_with (first
   | (go_at_call 12; (with_reducible refine cmm (C1.out _ belt) fun w3 hb3 => ?_))
   | go_in)
  go_ret3; exact ⟨hb3, _, _, rfl, Owns.nil _ _, World.ownsRow_nil _ _ _ _, Apart.none _ _ _⟩
end
section
theorem wf_of_may {l : List Re} (h : MayL l) : WfL l := fun q hq => may_wf (h q hq)
end
theorem draw_len {wd ht : Int} {cs : List Ce} {xs : List St} (h : drawE wd ht cs xs = 0) : (drawC glyS wd ht cs xs).length = cs.length := by
 have e : drawC glyS wd ht cs xs = drwGo wd.toNat glyS cs (flS xs) (flR xs) := if_pos h; rw [e, drwGo_len]
/-! ### within -/
structure Fl where
 s : St
 r : Re
def Fl.enc (f : Fl) : List Value := f.s.enc ++ f.r.enc
theorem Fl.enc_len (f : Fl) : f.enc.length = 19 := rfl
def Fl.eqb (f g : Fl) : Bool := f.s.eqb g.s && f.r.eqb g.r
theorem bytes_eq {a b : ByteArray} (h : a.toList = b.toList) : a = b := by
 rw [Lib.toList_data, Lib.toList_data] at h; exact ByteArray.ext (Array.ext' h)
theorem st_iff {s t : St} : s.eqb t = true ↔ s = t := by
 constructor
 ·intro h
  obtain ⟨k, r, c, b, x, n⟩ := s; obtain ⟨k', ⟨r0, r1, r2, r3⟩, ⟨c0, c1, c2, c3⟩, ⟨b0, b1, b2, b3⟩, x', n'⟩ := t; obtain ⟨r0', r1', r2', r3'⟩ := r; obtain ⟨c0', c1', c2', c3'⟩ := c; obtain ⟨b0', b1', b2', b3'⟩ := b; simp only [St.eqb, Re.eqb, Co.eqb, eq4, Bool.and_eq_true, beq_iff_eq] at h; obtain ⟨rfl, ⟨rfl, rfl, rfl, rfl⟩, ⟨rfl, rfl, rfl, rfl⟩, ⟨rfl, rfl, rfl, rfl⟩, h, rfl⟩ := h; rw [bytes_eq h]
 ·rintro rfl
  simp [St.eqb, Re.eqb, Co.eqb, eq4]
theorem Fl.eqb_iff {f g : Fl} : f.eqb g = true ↔ f = g := by
 obtain ⟨s, r⟩ := f; obtain ⟨s', r'⟩ := g; unfold Fl.eqb; rw [Bool.and_eq_true, st_iff, _root_.Go.Proofs.YtfcphagmjijmkaaGreatDoor.eqb_iff]
 constructor
 ·rintro ⟨rfl, rfl⟩; rfl
 ·intro h; injection h with h1 h2; exact ⟨h1, h2⟩
theorem Fl.eqb_refl (f : Fl) : f.eqb f = true := Fl.eqb_iff.2 rfl
theorem Fl.eqb_comm (f g : Fl) : f.eqb g = g.eqb f := by
 rw [Bool.eq_iff_iff, Fl.eqb_iff, Fl.eqb_iff]; exact ⟨Eq.symm, Eq.symm⟩
def fltZ (ss : List St) (rs : List Re) : List Fl := List.zipWith Fl.mk ss rs
def flts (xs : List St) : List Fl := fltZ (flS xs) (flR xs)
theorem flts_len (xs : List St) : (flts xs).length = (flS xs).length := by
 unfold flts fltZ; rw [List.length_zipWith, flsr_len]; omega
theorem flts_get {xs : List St} {i : Nat} {f : Fl} (h : (flts xs)[i]? = some f) : (flS xs)[i]? = some f.s ∧ (flR xs)[i]? = some f.r := by
 unfold flts fltZ at h; rw [List.getElem?_zipWith] at h
 cases h1 : (flS xs)[i]? with
 | none => rw [h1] at h; cases h
 | some s =>
  cases h2 : (flR xs)[i]? with
  | none => rw [h1, h2] at h; cases h
  | some r =>
   rw [h1, h2] at h
   injection h with h
   subst h; exact ⟨rfl, rfl⟩
def Fl.Ok (f : Fl) : Prop := f.s.Wf ∧ mayR f.s.rect = true ∧ (f.s.kind = 1 ∨ f.s.kind = 2 ∨ f.s.kind = 3) ∧ mayR f.r = true ∧ (f.r = Re.none ∨ emptyR f.r = false) ∧ ∀ x y, hasR f.r x y = true → hasR f.s.rect x y = true
theorem shR_form (M : List Re) (s : St) : shR M s = Re.none ∨ emptyR (shR M s) = false := by
 unfold shR
 split
 ·exact .inl rfl
 ·rename_i h
  exact .inr (by simpa using h)
theorem shGo_form : ∀ (xs : List St) (M : List Re), ∀ q ∈ shGo M xs, q = Re.none ∨ emptyR q = false
 | [], M, q, hq => by simp [shGo] at hq
 | s :: xs, M, q, hq => by
  simp only [shGo, List.mem_cons] at hq
  rcases hq with rfl | hq
  ·exact shR_form M s
  ·exact shGo_form xs _ q hq
theorem fltR_sub {xs : List St} {rs : List Re} : ∀ q ∈ fltR xs rs, q ∈ rs := by
 intro q hq
 unfold fltR at hq; obtain ⟨p, hp, rfl⟩ := List.mem_map.1 hq; exact (List.of_mem_zip (List.mem_filter.1 hp).1).2
theorem flts_ok {xs : List St} (h : chkL xs = 0) (hw : ∀ s ∈ xs, s.Wf) : ∀ f ∈ flts xs, f.Ok := by
 intro f hf
 obtain ⟨i, hi⟩ := List.getElem?_of_mem hf; obtain ⟨h1, h2⟩ := flts_get hi; obtain ⟨a, b, c, d, e⟩ := flat_at h hw h1 h2; refine ⟨a, b, c, d, ?_, e⟩; have hm := List.mem_of_getElem? h2; unfold flR at hm; rw [if_pos h] at hm; exact shGo_form xs [] _ (fltR_sub _ hm)
def cutPre : List Fl → List Fl → List Fl × List Fl
 | x :: xs, y :: ys => if x.eqb y then cutPre xs ys else (x :: xs, y :: ys)
 | xs, ys => (xs, ys)
theorem cutPre_nil_left (ys : List Fl) : cutPre [] ys = ([], ys) := by rw [cutPre]; simp
theorem cutPre_nil_right (xs : List Fl) : cutPre xs [] = (xs, []) := by rw [cutPre]; simp
theorem cutPre_spec : ∀ (xs ys : List Fl), ∃ p, xs = p ++ (cutPre xs ys).1 ∧ ys = p ++ (cutPre xs ys).2
 | [], ys => ⟨[], by rw [cutPre_nil_left]; exact ⟨rfl, rfl⟩⟩
 | x :: xs, [] => ⟨[], by rw [cutPre_nil_right]; exact ⟨rfl, rfl⟩⟩
 | x :: xs, y :: ys => by
  rw [cutPre]
  split
  ·rename_i h
   obtain ⟨p, h1, h2⟩ := cutPre_spec xs ys; have e := Fl.eqb_iff.1 h; subst e; exact ⟨x :: p, by rw [List.cons_append, ← h1], by rw [List.cons_append, ← h2]⟩
  ·exact ⟨[], rfl, rfl⟩
def midP (xs ys : List Fl) : List Fl × List Fl :=
 ((cutPre (cutPre xs ys).1.reverse (cutPre xs ys).2.reverse).1.reverse, (cutPre (cutPre xs ys).1.reverse (cutPre xs ys).2.reverse).2.reverse)
theorem mid_spec (xs ys : List Fl) : ∃ p q, xs = p ++ (midP xs ys).1 ++ q ∧ ys = p ++ (midP xs ys).2 ++ q := by
 obtain ⟨p, h1, h2⟩ := cutPre_spec xs ys; obtain ⟨q, h3, h4⟩ := cutPre_spec (cutPre xs ys).1.reverse (cutPre xs ys).2.reverse; refine ⟨p, q.reverse, ?_, ?_⟩
 ·have := congrArg List.reverse h3
  rw [List.reverse_reverse, List.reverse_append] at this; unfold midP; rw [List.append_assoc, ← this]; exact h1
 ·have := congrArg List.reverse h4
  rw [List.reverse_reverse, List.reverse_append] at this; unfold midP; rw [List.append_assoc, ← this]; exact h2
/-! ### what is painted at a place -/
def pieL (f : Fl) : List Re := plcL f.s f.r
theorem has_bd {q : Re} {x y : Int} : hasR q x y = true ↔ q.x ≤ x ∧ x < q.x + q.wd ∧ q.y ≤ y ∧ y < q.y + q.ht := by
 unfold hasR; simp only [Bool.and_eq_true, decide_eq_true_eq]; exact ⟨fun ⟨⟨⟨a, b⟩, c⟩, d⟩ => ⟨a, b, c, d⟩, fun ⟨a, b, c, d⟩ => ⟨⟨⟨a, b⟩, c⟩, d⟩⟩
def pieA (a b : List Fl) : List Re := (midP a b).1.flatMap pieL ++ (midP a b).2.flatMap pieL
theorem pie_may {f : Fl} (h : f.Ok) : MayL (pieL f) := by
 intro q hq
 unfold pieL plcL at hq; have hm := h.2.2.2.1
 split at hq
 ·simp at hq
 ·split at hq
  ·split at hq
   ·simp at hq
   ·simp at hq; rw [hq]; exact hm
  ·split at hq
   ·simp at hq
   ·split at hq
    ·simp at hq; rw [hq]; exact hm
    ·unfold meets at hq
     obtain ⟨p, _, rfl⟩ := List.mem_map.1 (List.mem_filter.1 hq).1; exact meet_may _ _
theorem pies_may {l : List Fl} (h : ∀ f ∈ l, f.Ok) : MayL (l.flatMap pieL) := by
 intro q hq
 obtain ⟨f, hf, hq⟩ := List.mem_flatMap.1 hq; exact pie_may (h f hf) q hq
def cntF (l : List Fl) (f : Fl) : Nat := l.countP fun g => g.eqb f
theorem cntF_cons (g : Fl) (l : List Fl) (f : Fl) : cntF (g :: l) f = cntF l f + if g.eqb f then 1 else 0 := by
 unfold cntF; rw [List.countP_cons]
theorem cntF_append (l m : List Fl) (f : Fl) : cntF (l ++ m) f = cntF l f + cntF m f := by
 unfold cntF; rw [List.countP_append]
theorem cntF_pos {l : List Fl} {f : Fl} : 0 < cntF l f ↔ f ∈ l := by
 unfold cntF; rw [List.countP_pos_iff]
 constructor
 ·rintro ⟨g, hg, h⟩
  rw [← Fl.eqb_iff.1 h]; exact hg
 ·intro h
  exact ⟨f, h, f.eqb_refl⟩
def NodP (a b : List Fl) (l : List Int) : Prop := Rise l ∧ ∀ n, n ∈ l ↔ ∃ f, cntF a f ≠ cntF b f ∧ f.s.node = n
theorem nod_unique {a b : List Fl} {l m : List Int} (h1 : NodP a b l) (h2 : NodP a b m) : l = m :=
 rise_unique h1.1 h2.1 fun x => by rw [h1.2, h2.2]
def nodStep (a b : List Fl) (o : List Int) (f : Fl) : List Int := if cntF a f = cntF b f then o else edgeI o f.s.node
def nodL (a b : List Fl) : List Int := (a ++ b).foldl (nodStep a b) []
theorem nod_is (a b : List Fl) : NodP a b (nodL a b) := by
 constructor
 ·refine foldl_rise (fun t q h => ?_) _ _ trivial
  unfold nodStep
  split
  ·exact h
  ·exact edgeI_rise h
 ·intro n
  unfold nodL; rw [foldl_mem (g := fun f x => cntF a f ≠ cntF b f ∧ f.s.node = x)]
  ·constructor
   ·rintro (h | ⟨f, _, h⟩)
    ·simp at h
    ·exact ⟨f, h⟩
   ·rintro ⟨f, h1, h2⟩
    refine .inr ⟨f, ?_, h1, h2⟩
    by_cases c : f ∈ a ++ b
    ·exact c
    ·have c1 : ¬ 0 < cntF a f := fun h => c (List.mem_append.2 (.inl (cntF_pos.1 h)))
     have c2 : ¬ 0 < cntF b f := fun h => c (List.mem_append.2 (.inr (cntF_pos.1 h)))
     omega
  ·intro t q x
   unfold nodStep
   split
   ·rename_i h
    constructor
    ·exact .inl
    ·rintro (h' | ⟨h', _⟩)
     ·exact h'
     ·exact absurd h h'
   ·rename_i h
    rw [mem_edgeI]
    constructor
    ·rintro (h' | h')
     ·exact .inr ⟨h, h'.symm⟩
     ·exact .inl h'
    ·rintro (h' | ⟨_, h'⟩)
     ·exact .inr h'
     ·exact .inl h'.symm
/-! ### one matched with one -/
def plainR (q : Re) : Re := if emptyR q then Re.none else q
def joinR (a b : Re) : Re := if emptyR a then plainR b else if emptyR b then a else fromR (min a.x b.x) (min a.y b.y) (max (a.x + a.wd) (b.x + b.wd)) (max (a.y + a.ht) (b.y + b.ht))
theorem empty_iff {q : Re} (h : mayR q = true) : emptyR q = true ↔ q.wd = 0 ∨ q.ht = 0 := by
 rw [empty_none h]; unfold noneR
 simp
theorem full_mk {q : Re} (h : mayR q = true) (hw : 0 < q.wd) (hh : 0 < q.ht) : emptyR q = false := by
 cases he : emptyR q
 ·rfl
 ·have := (empty_iff h).1 he
  omega
theorem join_full {a b : Re} (ha : emptyR a = false) (hb : emptyR b = false) : joinR a b = ⟨min a.x b.x, min a.y b.y, max (a.x + a.wd) (b.x + b.wd) - min a.x b.x, max (a.y + a.ht) (b.y + b.ht) - min a.y b.y⟩ ∧ emptyR (joinR a b) = false := by
 obtain ⟨ma, a1, a2⟩ := full_bd ha; obtain ⟨mb, b1, b2⟩ := full_bd hb; have p1 := may_bd ma; have p2 := may_bd mb; have p3 := may_sum ma; have p4 := may_sum mb
 have e : joinR a b = ⟨min a.x b.x, min a.y b.y, max (a.x + a.wd) (b.x + b.wd) - min a.x b.x, max (a.y + a.ht) (b.y + b.ht) - min a.y b.y⟩ := by
  unfold joinR; rw [ha, hb]; simp only [Bool.false_eq_true, if_false]; unfold fromR; rw [if_neg (by omega)]
 refine ⟨e, ?_⟩; rw [e]
 apply full_mk
 ·apply may_of
  simp only; omega
 ·simp only; omega
 ·simp only; omega
theorem join_none (q : Re) (h : emptyR q = false) : joinR Re.none q = q := by
 unfold joinR plainR; rw [Re.none_empty, h]
 rfl
theorem join_self {q : Re} (h : emptyR q = false) : joinR q q = q := by
 rw [(join_full h h).1]; obtain ⟨x, y, w, t⟩ := q; obtain ⟨_, a1, a2⟩ := full_bd h; simp only at a1 a2; simp only [Re.mk.injEq]; omega
def abtR (l : List Re) : Re := l.foldl joinR Re.none
def tldL (l : List Re) : List Re := if bothE l [] 1 = 0 then bothL l [] 1 else [abtR l]
theorem askR_one {l : List Re} : askR l [] = chkR l := by
 unfold askR
 split
 ·rename_i h; rw [h]; rfl
 ·rfl
theorem bothE_of {l : List Re} (hm : MayL l) : bothE l [] 1 = if l.length > 1024 then 4 else if (formR l [] 1).length > 1024 then 4 else 0 := by
 unfold bothE; rw [askR_one]; unfold chkR
 by_cases h : 1024 < l.length
 ·rw [if_pos h, if_pos h]; rfl
 ·rw [if_neg h, if_neg h, if_pos (List.all_eq_true.2 hm), if_pos rfl]; rfl
theorem pie_full {f : Fl} (h : f.Ok) : ∀ q ∈ pieL f, emptyR q = false := by
 intro q hq
 have hf : emptyR f.r = false ∨ f.r.eqb Re.none = true := by
  rcases h.2.2.2.2.1 with e | e
  ·exact .inr (_root_.Go.Proofs.YtfcphagmjijmkaaGreatDoor.eqb_iff.2 e)
  ·exact .inl e
 unfold pieL plcL at hq
 split at hq
 ·simp at hq
 ·rename_i h1
  simp only [Bool.or_eq_true, not_or, Bool.not_eq_true] at h1
  have hr : emptyR f.r = false := by
   rcases hf with e | e
   ·exact e
   ·rw [e] at h1; cases h1.1
  split at hq
  ·split at hq
   ·simp at hq
   ·simp at hq; rw [hq]; exact hr
  ·split at hq
   ·simp at hq
   ·split at hq
    ·simp at hq; rw [hq]; exact hr
    ·unfold meets at hq
     obtain ⟨hm, hn⟩ := List.mem_filter.1 hq; obtain ⟨p, _, rfl⟩ := List.mem_map.1 hm; rw [meet_em]
     simpa using hn
theorem pies_full {l : List Fl} (h : ∀ f ∈ l, f.Ok) : ∀ q ∈ l.flatMap pieL, emptyR q = false := by
 intro q hq
 obtain ⟨f, hf, hq⟩ := List.mem_flatMap.1 hq; exact pie_full (h f hf) q hq
/-! ### the damage of two lists -/
def dmgE (xs ys : List St) : Int := if chkL xs = 0 then chkL ys else chkL xs
def dmgL (xs ys : List St) : List Re := if dmgE xs ys = 0 then tldL (pieA (flts xs) (flts ys)) else []
theorem dmgE_zero {xs ys : List St} (h : dmgE xs ys = 0) : chkL xs = 0 ∧ chkL ys = 0 := by
 unfold dmgE at h
 split at h
 ·exact ⟨by assumption, h⟩
 ·contradiction
end Go.Proofs.YtfcphagmjijmkaaGreatDoor
