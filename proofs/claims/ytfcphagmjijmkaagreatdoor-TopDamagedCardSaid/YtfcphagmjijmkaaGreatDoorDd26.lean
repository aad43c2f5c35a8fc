/-
  A region that draws its order and makes blocks in any order: first the steady operations, then those that make one block each, then a forced rest: one walk in the order of the text serves for all orders; the new blocks are apart, and whole.
-/
import Derived.Test.YtfcphagmjijmkaaGreatDoorDd5
namespace Go.Proofs.YtfcphagmjijmkaaGreatDoor
open Go.RowKit
set_option linter.unusedVariables false
set_option linter.unusedSimpArgs false
attribute [local go_sem] vwp vUpon_value vUpon_skip vUpon_enter vUpon_row
set_option maxHeartbeats 16000000
section
open Go Go.RowKit
set_option linter.unusedSectionVars false
section
variable {P : Program} {ops : Array Oper} {S : World → Prop} {Q : Exit → Act → World → Prop} {obj : Nat → Obj}
abbrev ptrTo (b : Nat) : Value := .pointer (some ⟨b, 0, none⟩)
def StB (P : Program) (ops : Array Oper) (S : World → Prop) (o : Oper) (v : Value) (a : Act) : Prop :=
 (Region.wanted o (yielded ops a.tmps) = true ∧ ∀ w, S w → vwp P o a w (fun u w' => u = v ∧ Below w.heap.size w w')) ∨
 (Region.wanted o (yielded ops a.tmps) = false ∧ v = undef)
def NewB (P : Program) (ops : Array Oper) (S : World → Prop) (o : Oper) (ob : Obj) (a : Act) : Prop :=
 Region.wanted o (yielded ops a.tmps) = true ∧ ∀ w, S w → vwp P o a w (fun u w' => u = ptrTo w.heap.size ∧ w' = w.alloc ob)
theorem StB.of_same {o : Oper} {v : Value} {a a' : Act} (hy : StB P ops S o v a) (he : execOp a'.eval o = execOp a.eval o)
  (hw : Region.wanted o (yielded ops a'.tmps) = Region.wanted o (yielded ops a.tmps)) : StB P ops S o v a' := by
 unfold StB vwp at *; rw [he, hw]; exact hy
theorem NewB.of_same {o : Oper} {v : Obj} {a a' : Act} (hy : NewB P ops S o v a) (he : execOp a'.eval o = execOp a.eval o)
  (hw : Region.wanted o (yielded ops a'.tmps) = Region.wanted o (yielded ops a.tmps)) : NewB P ops S o v a' := by
 unfold NewB vwp at *; rw [he, hw]; exact hy
theorem StB.put {oi oj : Oper} {v u : Value} {a : Act} (hap : oi.apart ops oj = true) (hsi : ∀ cs b, oi.op ≠ .select cs b) (hy : StB P ops S oi v a) : StB P ops S oi v (a.put oj.dst u) := by
 obtain ⟨h1, h2, h3⟩ := Oper.apart_spec hap; exact hy.of_same (execOp_put oi hsi a oj.dst u h3) (wanted_put oi a oj.dst u h3)
theorem StB.unput {oi oj : Oper} {v u : Value} {a : Act} (hap : oi.apart ops oj = true) (hsi : ∀ cs b, oi.op ≠ .select cs b) (hy : StB P ops S oi v (a.put oj.dst u)) : StB P ops S oi v a := by
 obtain ⟨h1, h2, h3⟩ := Oper.apart_spec hap; exact hy.of_same (execOp_put oi hsi a oj.dst u h3).symm (wanted_put oi a oj.dst u h3).symm
theorem NewB.put {oi oj : Oper} {v : Obj} {u : Value} {a : Act} (hap : oi.apart ops oj = true) (hsi : ∀ cs b, oi.op ≠ .select cs b) (hy : NewB P ops S oi v a) : NewB P ops S oi v (a.put oj.dst u) := by
 obtain ⟨h1, h2, h3⟩ := Oper.apart_spec hap; exact hy.of_same (execOp_put oi hsi a oj.dst u h3) (wanted_put oi a oj.dst u h3)
theorem NewB.unput {oi oj : Oper} {v : Obj} {u : Value} {a : Act} (hap : oi.apart ops oj = true) (hsi : ∀ cs b, oi.op ≠ .select cs b) (hy : NewB P ops S oi v (a.put oj.dst u)) : NewB P ops S oi v a := by
 obtain ⟨h1, h2, h3⟩ := Oper.apart_spec hap; exact hy.of_same (execOp_put oi hsi a oj.dst u h3).symm (wanted_put oi a oj.dst u h3).symm
def Stab (U : World → Prop) : Prop := ∀ w w', U w → Below w.heap.size w w' → U w'
def andB (U : World → Prop) (b : Nat) (ob : Obj) : World → Prop := fun w => U w ∧ w.heap[b]? = some ob
def orB (N : Nat → Prop) (b : Nat) : Nat → Prop := fun x => N x ∨ x = b
theorem andB_comm (U : World → Prop) (b c : Nat) (x y : Obj) : andB (andB U b x) c y = andB (andB U c y) b x := by
 funext w; unfold andB; exact propext ⟨fun ⟨⟨h1, h2⟩, h3⟩ => ⟨⟨h1, h3⟩, h2⟩, fun ⟨⟨h1, h2⟩, h3⟩ => ⟨⟨h1, h3⟩, h2⟩⟩
theorem orB_comm (N : Nat → Prop) (b c : Nat) : orB (orB N b) c = orB (orB N c) b := by
 funext x; unfold orB; exact propext ⟨fun h => by rcases h with (h | h) | h <;> simp [h], fun h => by rcases h with (h | h) | h <;> simp [h]⟩
theorem Stab.and {U : World → Prop} (h : Stab U) (b : Nat) (ob : Obj) : Stab (andB U b ob) := by
 intro w w' ⟨h1, h2⟩ hb
 refine ⟨h w w' h1 hb, ?_⟩; have : b < w.heap.size := (Array.getElem?_eq_some_iff.1 h2).1; exact (hb.block b this).trans h2
def tmAny (P : Program) (ops : Array Oper) (S : World → Prop) (obj : Nat → Obj) (m n : Nat) (L : Array Bool → (World → Prop) → (Nat → Prop) → Act → Prop) : Nat → Array Bool → (World → Prop) → (Nat → Prop) → Act → Prop
  | 0, listed, U, N, a => L listed U N a
  | f + 1, listed, U, N, a => Region.ready .any ops listed ≠ [] ∧
      ∀ i ∈ Region.ready .any ops listed, i < n ∧ ∃ o, ops[i]? = some o ∧
        ((i < m ∧ ∃ v, StB P ops S o v a ∧ tmAny P ops S obj m n L f (listed.setIfInBounds i true) U N (a.put o.dst v)) ∨
         (m ≤ i ∧ NewB P ops S o (obj i) a ∧ ∀ b, ¬ N b → tmAny P ops S obj m n L f (listed.setIfInBounds i true) (andB U b (obj i)) (orB N b) (a.put o.dst (ptrTo b))))
theorem StB.wpOp {i : Nat} {o : Oper} {v : Value} {a : Act} (hi : ops[i]? = some o) (hy : StB P ops S o v a) {K : Act → World → Prop} {w : World} (hS : S w)
  (h : ∀ w', Below w.heap.size w w' → K (a.put o.dst v) w') : wpOp P ops Q i K a w := by
 unfold Go.wpOp; simp only [hi]
 rcases hy with ⟨hw, hv⟩ | ⟨hw, rfl⟩
 ·simp only [hw, if_true]
  left
  have hv := hv w hS; unfold vwp at hv; unfold Oper.wp; generalize (execOp a.eval o).run P w = r at *
  cases r with
  | ok n w' =>
   cases n <;> simp only [vUpon] at hv <;> simp only [Oper.upon]
   case value u => obtain ⟨rfl, hs⟩ := hv; exact h _ hs
   case skip => obtain ⟨rfl, hs⟩ := hv; exact h _ hs
   case enter f args => exact Calls.mono hv fun e w'' ⟨u, he, hu, hs⟩ => by subst he; subst hu; exact h _ hs
   case row row args => exact Rows.mono hv fun u w'' ⟨hu, hs⟩ => by subst hu; exact h _ hs
  | halt x w' => simp only [vUpon] at hv
 ·simp only [hw, Bool.false_eq_true, if_false]; exact h _ (Below.refl _ _)
theorem NewB.wpOp {i : Nat} {o : Oper} {ob : Obj} {a : Act} (hi : ops[i]? = some o) (hy : NewB P ops S o ob a) {K : Act → World → Prop} {w : World} (hS : S w)
  (h : K (a.put o.dst (ptrTo w.heap.size)) (w.alloc ob)) : wpOp P ops Q i K a w := by
 unfold Go.wpOp; simp only [hi]; obtain ⟨hw, hv⟩ := hy; simp only [hw, if_true]
 left
 have hv := hv w hS; unfold vwp at hv; unfold Oper.wp; generalize (execOp a.eval o).run P w = r at *
 cases r with
 | ok n w' =>
  cases n <;> simp only [vUpon] at hv <;> simp only [Oper.upon]
  case value u => obtain ⟨rfl, rfl⟩ := hv; exact h
  case skip => obtain ⟨e, rfl⟩ := hv; rw [e]; exact h
  case enter f args => exact Calls.mono hv fun e w'' ⟨u, he, hu, hs⟩ => by subst he; subst hu; subst hs; exact h
  case row row args => exact Rows.mono hv fun u w'' ⟨hu, hs⟩ => by subst hu; subst hs; exact h
 | halt x w' => simp only [vUpon] at hv
theorem wpAny_of_tm {m n g : Nat} {L : Array Bool → (World → Prop) → (Nat → Prop) → Act → Prop} (hSt : Stab S)
  (hL : ∀ listed U N a w, S w → U w → (∀ b, N b → b < w.heap.size) → L listed U N a → wpAny P .any ops Q g listed a w) :
  ∀ (f : Nat) (listed : Array Bool) (U : World → Prop) (N : Nat → Prop) (a : Act) (w : World), S w → U w → Stab U → (∀ b, N b → b < w.heap.size) → tmAny P ops S obj m n L f listed U N a → wpAny P .any ops Q (f + g) listed a w
 | 0, listed, U, N, a, w, hS, hU, hst, hN, h => by rw [Nat.zero_add]; exact hL _ _ _ _ _ hS hU hN h
 | f + 1, listed, U, N, a, w, hS, hU, hst, hN, h => by
  rw [show f + 1 + g = (f + g) + 1 by omega]; refine ⟨fun h0 => absurd h0 h.1, fun i hi => ?_⟩; obtain ⟨_, o, ho, h⟩ := h.2 i hi
  rcases h with ⟨_, v, hy, hr⟩ | ⟨_, hy, hr⟩
  ·exact hy.wpOp ho hS fun w' hb => wpAny_of_tm hSt hL f _ _ _ _ w' (hSt _ _ hS hb) (hst _ _ hU hb) hst (fun b h => Nat.lt_of_lt_of_le (hN b h) hb.size) hr
  ·refine hy.wpOp ho hS ?_
   have hb : Below w.heap.size w (w.alloc (obj i)) := (Below.refl _ _).alloc lrr _
   have hsz : (w.alloc (obj i)).heap.size = w.heap.size + 1 := by simp
   have e : (w.alloc (obj i)).heap[w.heap.size]? = some (obj i) := by
    have : (w.alloc (obj i)).heap = w.heap.push (obj i) := rfl; rw [this]
    simp
   have hN' : ∀ b, orB N w.heap.size b → b < (w.alloc (obj i)).heap.size := fun b h => by
    rw [hsz]
    rcases h with h | h
    ·have := hN b h; omega
    ·omega
   exact wpAny_of_tm hSt hL f _ _ _ _ _ (hSt _ _ hS hb) ⟨hst _ _ hU hb, e⟩ (hst.and _ _) hN' (hr w.heap.size (fun h => Nat.lt_irrefl _ (hN _ h)))
section
variable {M : Array Nat} (hg : Good ops M) (hsel : Region.noSelect ops = true) {s m n i : Nat} {oi : Oper} {L : Array Bool → (World → Prop) → (Nat → Prop) → Act → Prop}
include hg hsel
theorem tm_apart {j : Nat} {oj : Oper} {listed : Array Bool} (hi : ops[i]? = some oi) (hoj : ops[j]? = some oj) (hc : Closed ops listed) (hr : i ∈ Region.ready .any ops listed) (hj : j ∈ Region.ready .any ops listed) (hji : j ≠ i) :
  (oi.apart ops oj = true ∧ oj.apart ops oi = true) ∧ (∀ cs b, oi.op ≠ .select cs b) ∧ (∀ cs b, oj.op ≠ .select cs b) := by
 obtain ⟨hjun, _⟩ := mem_ready.1 hj; have hiun := (mem_ready.1 hr).1; refine ⟨?_, fun cs b => Region.noSelect_spec hsel i oi cs b hi, fun cs b => Region.noSelect_spec hsel j oj cs b hoj⟩
 rcases hg.apart i j oi oj hi hoj (Ne.symm hji) with h | h | h
 ·have h1 := hc.ready hg hj h
  rw [getD_both hiun] at h1; cases h1
 ·have h1 := hc.ready hg hr h
  rw [getD_both hjun] at h1; cases h1
 ·exact h
theorem tm_below (hin : i < n) (him : s ≤ i) (htail : ∀ t, n ≤ t → t < ops.size → ∀ i, s ≤ i → i < n → R M t i) {listed : Array Bool} (hc : Closed ops listed) (hr : i ∈ Region.ready .any ops listed) : ∀ j ∈ Region.ready .any ops listed, j < n := by
 intro j hj
 rcases Nat.lt_or_ge j n with h | h
 ·exact h
 ·obtain ⟨_, oj, hoj, _⟩ := mem_ready.1 hj
  have hjs : j < ops.size := (Array.getElem?_eq_some_iff.1 hoj).1; have h1 := hc.ready hg hj (htail j h hjs i him hin); rw [getD_both (mem_ready.1 hr).1] at h1
  cases h1
theorem tm_first_st (hi : ops[i]? = some oi) (hin : i < n) (him : s ≤ i) (hi_m : i < m)
  (htail : ∀ t, n ≤ t → t < ops.size → ∀ i, s ≤ i → i < n → R M t i)
  (hdone : ∀ listed U N a, L listed U N a → ∀ j ∈ Region.ready .any ops listed, n ≤ j) {v : Value} :
  ∀ (f : Nat) (listed : Array Bool) (U : World → Prop) (N : Nat → Prop) (a : Act), Closed ops listed →
   i ∈ Region.ready .any ops listed → StB P ops S oi v a →
   tmAny P ops S obj m n L f (listed.setIfInBounds i true) U N (a.put oi.dst v) → tmAny P ops S obj m n L (f + 1) listed U N a := by
 intro f
 induction f with
 | zero =>
  intro listed U N a hc hr hy H
  refine ⟨fun h => (by rw [h] at hr; cases hr), fun j hj => ?_⟩; have hjn := tm_below hg hsel hin him htail hc hr j hj; refine ⟨hjn, ?_⟩
  by_cases hji : j = i
  ·subst hji; exact ⟨oi, hi, .inl ⟨hi_m, v, hy, H⟩⟩
  ·have := hdone _ _ _ _ H j (ready_mono hj hji)
   omega
 | succ f ih =>
  intro listed U N a hc hr hy H
  refine ⟨fun h => (by rw [h] at hr; cases hr), fun j hj => ?_⟩; have hjn := tm_below hg hsel hin him htail hc hr j hj; refine ⟨hjn, ?_⟩
  by_cases hji : j = i
  ·subst hji; exact ⟨oi, hi, .inl ⟨hi_m, v, hy, H⟩⟩
  ·obtain ⟨_, oj, hoj, h⟩ := H.2 j (ready_mono hj hji)
   obtain ⟨hap, hsi, hsj⟩ := tm_apart hg hsel hi hoj hc hr hj hji; refine ⟨oj, hoj, ?_⟩
   rcases h with ⟨hjm, u, hyj, hrest⟩ | ⟨hjm, hyj, hrest⟩
   ·refine .inl ⟨hjm, u, hyj.unput hap.2 hsj, ih _ _ _ _ (hc.set hj) (ready_mono hr (Ne.symm hji)) (hy.put hap.1 hsi) ?_⟩
    rw [Array.setIfInBounds_comm _ _ hji, Act.put_comm _ _ _ (Oper.apart_spec hap.2).2.1]; exact hrest
   ·refine .inr ⟨hjm, hyj.unput hap.2 hsj, fun b hb => ih _ _ _ _ (hc.set hj) (ready_mono hr (Ne.symm hji)) (hy.put hap.1 hsi) ?_⟩
    rw [Array.setIfInBounds_comm _ _ hji, Act.put_comm _ _ _ (Oper.apart_spec hap.2).2.1]; exact hrest b hb
theorem tm_first_new (hi : ops[i]? = some oi) (hin : i < n) (him : s ≤ i) (hi_m : m ≤ i)
  (htail : ∀ t, n ≤ t → t < ops.size → ∀ i, s ≤ i → i < n → R M t i)
  (hdone : ∀ listed U N a, L listed U N a → ∀ j ∈ Region.ready .any ops listed, n ≤ j) :
  ∀ (f : Nat) (listed : Array Bool) (U : World → Prop) (N : Nat → Prop) (a : Act), Closed ops listed → (∀ j ∈ Region.ready .any ops listed, m ≤ j) → (∃ B, ∀ b, N b → b < B) →
   i ∈ Region.ready .any ops listed → NewB P ops S oi (obj i) a →
   (∀ b, ¬ N b → tmAny P ops S obj m n L f (listed.setIfInBounds i true) (andB U b (obj i)) (orB N b) (a.put oi.dst (ptrTo b))) → tmAny P ops S obj m n L (f + 1) listed U N a := by
 intro f
 induction f with
 | zero =>
  intro listed U N a hc hall ⟨B, hB⟩ hr hy H
  refine ⟨fun h => (by rw [h] at hr; cases hr), fun j hj => ?_⟩; have hjn := tm_below hg hsel hin him htail hc hr j hj; refine ⟨hjn, ?_⟩
  by_cases hji : j = i
  ·subst hji; exact ⟨oi, hi, .inr ⟨hi_m, hy, H⟩⟩
  ·have := hdone _ _ _ _ (H B (fun h => Nat.lt_irrefl _ (hB _ h))) j (ready_mono hj hji)
   omega
 | succ f ih =>
  intro listed U N a hc hall ⟨B, hB⟩ hr hy H
  refine ⟨fun h => (by rw [h] at hr; cases hr), fun j hj => ?_⟩; have hjn := tm_below hg hsel hin him htail hc hr j hj; refine ⟨hjn, ?_⟩
  by_cases hji : j = i
  ·subst hji; exact ⟨oi, hi, .inr ⟨hi_m, hy, H⟩⟩
  ·have hjm := hall j hj
   obtain ⟨_, oj, hoj, h⟩ := (H B (fun h => Nat.lt_irrefl _ (hB _ h))).2 j (ready_mono hj hji); obtain ⟨hap, hsi, hsj⟩ := tm_apart hg hsel hi hoj hc hr hj hji; refine ⟨oj, hoj, .inr ⟨hjm, ?_, fun c hcN => ?_⟩⟩
   ·rcases h with ⟨h, _⟩ | ⟨_, hyj, _⟩
    ·omega
    ·exact hyj.unput hap.2 hsj
   ·refine ih _ _ _ _ (hc.set hj) (fun k hk => ?_) ⟨max B (c + 1), fun b hb => ?_⟩ (ready_mono hr (Ne.symm hji)) (hy.put hap.1 hsi) (fun b hbN => ?_)
    ·rcases Nat.lt_or_ge k m with hlt | hge
     ·have hkr : k ∈ Region.ready .any ops listed := by
       obtain ⟨h0, ok, hok, hall'⟩ := mem_ready.1 hk
       have hkj : j ≠ k := by omega
       refine mem_ready.2 ⟨by rwa [getD_set_ne _ hkj] at h0, ok, hok, fun e he hb => ?_⟩; have hl := hall' e he hb; have hle := hg.lt k ok hok e he hb
       rwa [getD_set_ne false (by omega)] at hl
      have := hall k hkr; omega
     ·exact hge
    ·rcases hb with hb | hb
     ·have := hB b hb; omega
     ·omega
    ·have hb1 : ¬ N b := fun h => hbN (.inl h)
     have hcb : ¬ orB N b c := fun h => by
      rcases h with h | h
      ·exact hcN h
      ·exact hbN (.inr h.symm)
     obtain ⟨_, oj', hoj', h'⟩ := (H b hb1).2 j (ready_mono hj hji); obtain rfl : oj' = oj := Option.some.inj (hoj'.symm.trans hoj)
     rcases h' with ⟨h, _⟩ | ⟨_, _, hrest⟩
     ·omega
     ·have := hrest c hcb
      rw [Array.setIfInBounds_comm _ _ hji, Act.put_comm _ _ _ (Oper.apart_spec hap.2).2.1, andB_comm, orB_comm]; exact this
end
def wpStB (P : Program) (ops : Array Oper) (S : World → Prop) (F : Act → Prop) : List Oper → Act → Prop
 | [], a => F a
 | o :: rest, a => ∃ v, StB P ops S o v a ∧ wpStB P ops S F rest (a.put o.dst v)
theorem wpStB_nil {F : Act → Prop} {a : Act} (h : F a) : wpStB P ops S F [] a := h
theorem wpStB_do {F : Act → Prop} {a : Act} {o : Oper} {rest : List Oper} {v : Value} (hw : Region.wanted o (yielded ops a.tmps) = true)
  (h : ∀ w, S w → ∀ R : Value → World → Prop, (∀ w', Below w.heap.size w w' → R v w') → vwp P o a w R) (hr : wpStB P ops S F rest (a.put o.dst v)) : wpStB P ops S F (o :: rest) a :=
 ⟨v, .inl ⟨hw, fun w hS => h w hS _ fun w' hS' => ⟨rfl, hS'⟩⟩, hr⟩
def wpNews (P : Program) (ops : Array Oper) (S : World → Prop) (obj : Nat → Obj) (F : (World → Prop) → (Nat → Prop) → Act → Prop) : List Oper → Nat → (World → Prop) → (Nat → Prop) → Act → Prop
 | [], _, U, N, a => F U N a
 | o :: rest, i, U, N, a => NewB P ops S o (obj i) a ∧ ∀ b, ¬ N b → wpNews P ops S obj F rest (i + 1) (andB U b (obj i)) (orB N b) (a.put o.dst (ptrTo b))
theorem wpNews_nil {F : (World → Prop) → (Nat → Prop) → Act → Prop} {i : Nat} {U : World → Prop} {N : Nat → Prop} {a : Act} (h : F U N a) : wpNews P ops S obj F [] i U N a := h
theorem wpNews_do {F : (World → Prop) → (Nat → Prop) → Act → Prop} {i : Nat} {U : World → Prop} {N : Nat → Prop} {a : Act} {o : Oper} {rest : List Oper} (hw : Region.wanted o (yielded ops a.tmps) = true)
  (h : ∀ w, S w → ∀ R : Value → World → Prop, R (ptrTo w.heap.size) (w.alloc (obj i)) → vwp P o a w R)
  (hr : ∀ b, ¬ N b → wpNews P ops S obj F rest (i + 1) (andB U b (obj i)) (orB N b) (a.put o.dst (ptrTo b))) : wpNews P ops S obj F (o :: rest) i U N a :=
 ⟨⟨hw, fun w hS => h w hS _ ⟨rfl, rfl⟩⟩, hr⟩
theorem wp_region_tame {id : Nat} {a : Act} {w : World} (S : World → Prop) (obj : Nat → Obj) (K m n : Nat) (hm : P.follows .mixedOrders = true) (hgb : goodB ops (Region.before ops) = true) (hmn : m ≤ n) (hn : n ≤ ops.size)
  (ht : tailB ops (Region.before ops) 0 n = true) (hc : chainedB ops (Region.before ops) n = true) (hSt : Stab S) (hK : K ≤ w.heap.size) (hS : S w.drew)
  (h : wpStB P ops S (fun a' => wpNews P ops S obj (fun U N a'' => ∀ w', S w' → U w' → (∀ b, N b → b < w'.heap.size) → wpList P ops Q (ops.toList.drop n) a'' w') ((ops.toList.drop m).take (n - m)) m (fun _ => True) (fun b => b < K) a') (ops.toList.take m) a) :
  (Code.region id ops true).wp P Q a w := by
 obtain ⟨hg, hsel⟩ := good_of hgb
 have htail : ∀ t, n ≤ t → t < ops.size → ∀ i, 0 ≤ i → i < n → R (Region.before ops) t i := fun t h1 h2 i h3 h4 => by
  have := List.all_eq_true.1 ht t (List.mem_range.2 h2); simp only [Bool.or_eq_true, decide_eq_true_eq] at this
  rcases this with h | h
  ·omega
  ·have := List.all_eq_true.1 h i (List.mem_range.2 h4)
   simp only [Bool.or_eq_true, decide_eq_true_eq] at this
   rcases this with h | h
   ·omega
   ·exact h
 let F : (World → Prop) → (Nat → Prop) → Act → Prop := fun U N a'' => ∀ w', S w' → U w' → (∀ b, N b → b < w'.heap.size) → wpList P ops Q (ops.toList.drop n) a'' w'
 let L : Array Bool → (World → Prop) → (Nat → Prop) → Act → Prop := fun listed U N a' => listed = firstN ops.size n ∧ F U N a'
 have hdone : ∀ listed U N a, L listed U N a → ∀ j ∈ Region.ready .any ops listed, n ≤ j := fun listed U N a hl j hj => by
  rw [hl.1] at hj; exact (ready_firstN_ge hj).1
 have news : ∀ (c k : Nat) (U : World → Prop) (N : Nat → Prop) (a : Act), k + c = n → m ≤ k → (∃ B, ∀ b, N b → b < B) → wpNews P ops S obj F ((ops.toList.drop k).take c) k U N a → tmAny P ops S obj m n L c (firstN ops.size k) U N a := by
  intro c
  induction c with
  | zero =>
   intro k U N a hk hmk _ h
   simp only [List.take_zero, wpNews] at h
   have : k = n := by omega
   subst this; exact ⟨rfl, h⟩
  | succ c ih =>
   intro k U N a hk hmk hB h
   have hks : k < ops.size := by omega
   have hd : ops.toList.drop k = ops[k] :: ops.toList.drop (k + 1) := by
    rw [List.drop_eq_getElem_cons (by simpa using hks)]; rfl
   rw [hd, List.take_succ_cons] at h; obtain ⟨hy, hr⟩ := h; refine tm_first_new hg hsel (s := 0) (Array.getElem?_eq_getElem hks) (by omega) (Nat.zero_le _) hmk htail hdone c _ _ _ _ (Closed.firstN hg k) (fun j hj => Nat.le_trans hmk (ready_firstN_ge hj).1) hB (ready_firstN hg hks) hy (fun b hb => ?_); rw [firstN_set]; refine ih (k + 1) _ _ _ (by omega) (by omega) ?_ (hr b hb); obtain ⟨B, hB⟩ := hB
   exact ⟨max B (b + 1), fun x hx => by
    rcases hx with hx | hx
    ·have := hB x hx; omega
    ·omega⟩
 have steady : ∀ (c k : Nat) (a : Act), k + c = m → wpStB P ops S (fun a' => wpNews P ops S obj F ((ops.toList.drop m).take (n - m)) m (fun _ => True) (fun b => b < K) a') ((ops.toList.drop k).take c) a →
   tmAny P ops S obj m n L (c + (n - m)) (firstN ops.size k) (fun _ => True) (fun b => b < K) a := by
  intro c
  induction c with
  | zero =>
   intro k a hk h
   simp only [List.take_zero, wpStB] at h
   have : k = m := by omega
   subst this; rw [Nat.zero_add]; exact news (n - k) k _ _ _ (by omega) lrr ⟨K, fun b h => h⟩ h
  | succ c ih =>
   intro k a hk h
   have hks : k < ops.size := by omega
   have hd : ops.toList.drop k = ops[k] :: ops.toList.drop (k + 1) := by
    rw [List.drop_eq_getElem_cons (by simpa using hks)]; rfl
   rw [hd, List.take_succ_cons] at h; obtain ⟨v, hy, hr⟩ := h; rw [show c + 1 + (n - m) = (c + (n - m)) + 1 by omega]; refine tm_first_st hg hsel (s := 0) (Array.getElem?_eq_getElem hks) (by omega) (Nat.zero_le _) (by omega) htail hdone _ _ _ _ _ (Closed.firstN hg k) (ready_firstN hg hks) hy ?_; rw [firstN_set]; exact ih (k + 1) _ (by omega) hr
 refine wp_region_from hm ?_; have h0 := steady m 0 a (by omega) (by rw [List.drop_zero]; exact h); rw [show m + (n - m) = n by omega] at h0; unfold wpFrom; rw [show ops.size - 0 = n + (ops.size - n) by omega]; refine wpAny_of_tm hSt (fun listed U N a' w' hS' hU hN hl => ?_) n _ _ _ _ _ hS trivial (fun _ _ _ _ => trivial) (fun b hb => Nat.lt_of_lt_of_le hb hK) h0; obtain ⟨rfl, hF⟩ := hl; exact wpFrom_list hg _ n rfl hc (hF w' hS' hU hN)
theorem Held.stab (w : World) (k : Nat) (l : List (Addr × Value)) : Stab (Held w k l) := fun _ _ h hb => h.below hb
end
end
end Go.Proofs.YtfcphagmjijmkaaGreatDoor
