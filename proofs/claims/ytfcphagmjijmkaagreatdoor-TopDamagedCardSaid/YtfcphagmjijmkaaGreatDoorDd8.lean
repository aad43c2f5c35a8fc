/-
  XGc: XRegT XRegU XRegV XRegW XRegX XRegY XRegZ.
-/
import Derived.Shelf.SlSortCmp.NoneTotal
import Derived.Test.YtfcphagmjijmkaaGreatDoorDd7
namespace Go.Proofs.YtfcphagmjijmkaaGreatDoor
open Go.RowKit
set_option linter.unusedVariables false
set_option linter.unusedSimpArgs false
attribute [local go_sem] vwp vUpon_value vUpon_skip vUpon_enter vUpon_row
set_option maxHeartbeats 16000000
section
section
open Go.Sort in
theorem flatI (l : List Int) : l.flatMap encI = l.map (Value.int .i64) := by
 induction l with
 | nil => rfl
 | cons a l ih => rw [List.flatMap_cons, ih]; rfl
def srtI (ns : List Int) : List Int := ns.mergeSort fun x y => decide (x ≤ y)
theorem srtI_len (ns : List Int) : (srtI ns).length = ns.length := List.length_mergeSort ns
theorem srtI_mem {ns : List Int} {x : Int} : x ∈ srtI ns ↔ x ∈ ns := (List.mergeSort_perm ns (fun x y => decide (x ≤ y))).mem_iff
theorem srtI_up (ns : List Int) : (srtI ns).Pairwise (fun a b => a ≤ b) := by
 have h1 := List.pairwise_mergeSort (le := fun (x y : Int) => decide (x ≤ y)) (fun a b c => by simp; omega) (fun a b => by simp; omega) ns; exact h1.imp (fun h => by simpa using h)
theorem rise_snoc : ∀ {l : List Int} {a : Int}, Rise l → (∀ x ∈ l, x < a) → Rise (l ++ [a])
 | [], _, _, _ => trivial
 | b :: l, a, h, ha => Rise.mk (rise_snoc h.tail (fun x hx => ha x (by simp [hx]))) (fun x hx => by
  rcases List.mem_append.1 hx with hx | hx
  ·exact h.above x hx
  ·simp at hx; subst hx; exact ha b (by simp))
theorem compact_up (zs : List Int) (h : zs.Pairwise (fun a b => a ≤ b)) : ∀ m, m ≤ zs.length → Rise (Lib.compactUpTo zs.toArray m) ∧ (∀ x, x ∈ Lib.compactUpTo zs.toArray m ↔ ∃ j, j < m ∧ zs[j]? = some x)
 | 0, _ => ⟨by simp [Lib.compactUpTo]; trivial, fun x => by simp [Lib.compactUpTo]⟩
 | m + 1, hm => by
  obtain ⟨i1, i2⟩ := compact_up zs h m (by omega)
  have hg : ∀ j (hj : j < zs.length), zs.toArray[j]! = zs[j] := fun j hj => by simp [hj]
  have hp := List.pairwise_iff_getElem.1 h; rw [Lib.compactUpTo_succ]
  have hlt : m < zs.length := by omega
  cases hk : Lib.keeps zs.toArray m
  ·simp only [Bool.false_eq_true, if_false, List.append_nil]
   refine ⟨i1, fun x => ?_⟩; rw [i2]; unfold Lib.keeps at hk; simp only [ne_eq, decide_eq_false_iff_not, not_or, Classical.not_not] at hk
   constructor
   ·rintro ⟨j, hj, e⟩; exact ⟨j, by omega, e⟩
   ·rintro ⟨j, hj, e⟩
    by_cases hjm : j < m
    ·exact ⟨j, hjm, e⟩
    ·obtain rfl : j = m := by omega
     refine ⟨j - 1, by omega, ?_⟩; rw [List.getElem?_eq_getElem (by omega)]; rw [List.getElem?_eq_getElem hlt] at e; have := hk.2; rw [hg j hlt, hg (j - 1) (by omega)] at this; rw [← this]; exact e
  ·simp only [if_true]
   unfold Lib.keeps at hk; simp only [ne_eq, decide_eq_true_eq] at hk; refine ⟨rise_snoc i1 (fun x hx => ?_), fun x => ?_⟩
   ·obtain ⟨j, hj, e⟩ := (i2 x).1 hx
    rw [List.getElem?_eq_getElem (by omega)] at e
    injection e with e
    subst e
    rcases hk with hk | hk
    ·omega
    ·rw [hg m hlt]
     rw [hg m hlt, hg (m - 1) (by omega)] at hk; have h1 := hp (m - 1) m (by omega) hlt (by omega)
     have h2 : zs[j] ≤ zs[m - 1] := by
      by_cases e : j = m - 1
      ·subst e; exact Int.le_refl _
      ·exact hp j (m - 1) (by omega) (by omega) (by omega)
     omega
   ·rw [List.mem_append, i2, List.mem_singleton, hg m hlt]
    constructor
    ·rintro (⟨j, hj, e⟩ | e)
     ·exact ⟨j, by omega, e⟩
     ·exact ⟨m, by omega, by rw [List.getElem?_eq_getElem hlt, e]⟩
    ·rintro ⟨j, hj, e⟩
     by_cases hjm : j < m
     ·exact .inl ⟨j, hjm, e⟩
     ·obtain rfl : j = m := by omega
      rw [List.getElem?_eq_getElem hlt] at e
      injection e with e
      exact .inr e.symm
def onceI (ns : List Int) : List Int := Lib.compact (srtI ns)
theorem onceI_spec (ns : List Int) : Rise (onceI ns) ∧ ∀ x, x ∈ onceI ns ↔ x ∈ ns := by
 obtain ⟨h1, h2⟩ := compact_up (srtI ns) (srtI_up ns) _ lrr; refine ⟨h1, fun x => ?_⟩; rw [← srtI_mem (ns := ns)]; have := h2 x; refine Iff.trans this ?_; rw [List.mem_iff_getElem?]
 constructor
 ·rintro ⟨j, _, e⟩; exact ⟨j, e⟩
 ·rintro ⟨j, e⟩; exact ⟨j, (List.getElem?_eq_some_iff.1 e).1, e⟩
theorem onceI_len (ns : List Int) : (onceI ns).length ≤ ns.length := by
 have h := onceI_spec ns; exact sub_len (rise_nodup h.1) (fun x hx => (h.2 x).1 hx)
theorem isort_any (ns : List Int) (v : Value) (w : World) (base : Nat) (h : OwnsI base w v ns) (hl : ns.length ≤ 1048576) (hB : base ≤ w.heap.size) :
  Calls Tryz.prog 62 #[v] w fun e w' => e = .returned (.tuple #[]) ∧ OwnsI base w' v (srtI ns) ∧ w.grownBy w' v.ownBlock := by
 have hs := srtI_len ns; unfold OwnsI at *; rw [hs]; rw [flatI] at h ⊢
 rcases h.2 with ⟨rfl, h0⟩ | ⟨g, cap, cur, rfl, hg, hh, hnc, hcm, hcur, htake⟩
 ·have : ns = [] := List.length_eq_zero_iff.1 h0
  subst this; refine (Any.slices_Sort_int_none YtfcphagmjijmkaaGreatDoor.sortLays none 0 w).mono ?_
  rintro e w' ⟨rfl, rfl⟩
  exact ⟨rfl, by rw [show srtI [] = [] by simp [srtI]]; exact h, grown_refl _ _⟩
 ·have hgl : g < w.heap.size := Go.lt_of_block hh
  refine (Any.slices_Sort_int YtfcphagmjijmkaaGreatDoor.sortLays g 0 cap ns w (holds_of_blockI hh (by simpa using htake)) hgl (by omega)).mono ?_
  rintro e w' ⟨rfl, n, os, rfl⟩
  exact ⟨rfl, ownsRow_sortedI hs hg hh hnc hcm hcur, grownBy_sortedI _⟩
theorem icompact_any (ns : List Int) (v : Value) (w : World) (base : Nat) (h : OwnsI base w v ns) (hl : ns.length ≤ 1048576) (hB : base ≤ w.heap.size) :
  Calls Tryz.prog 63 #[v] w fun e w' => ∃ v', e = .returned v' ∧ OwnsI base w' v' (Lib.compact ns) ∧ w.grownBy w' v.ownBlock := by
 unfold OwnsI at *; rw [flatI] at h ⊢
 rcases h.2 with ⟨rfl, h0⟩ | ⟨g, cap, cur, rfl, hg, hh, hnc, hcm, hcur, htake⟩
 ·have : ns = [] := List.length_eq_zero_iff.1 h0
  subst this; refine (Any.slices_Compact_int_empty YtfcphagmjijmkaaGreatDoor.compactLays none 0 w).mono ?_
  rintro e w' ⟨rfl, rfl⟩
  exact ⟨_, rfl, h, grown_refl _ _⟩
 ·have hgl : g < w.heap.size := Go.lt_of_block hh
  refine (Any.slices_Compact_int YtfcphagmjijmkaaGreatDoor.compactLays g 0 cap ns w (holds_of_blockI hh (by simpa using htake)) (by omega) hnc).mono ?_
  rintro e w' ⟨rfl, n, rfl⟩
  have hle : (Lib.compact ns).length ≤ ns.length := by
   unfold Lib.compact Lib.compactUpTo; rw [List.length_map]; exact Nat.le_trans (List.length_filter_le _ _) (by simp)
  have hlen : (Lib.compact ns ++ List.replicate (ns.length - (Lib.compact ns).length) 0).length = ns.length := by
   rw [List.length_append, List.length_replicate]; omega
  have ho := ownsRow_sortedI (os := #[]) (n := n) hlen hg hh hnc hcm hcur; have hgr := grownBy_sortedI (w := w) (g := g) (n := n) (os := #[]) (Lib.compact ns ++ List.replicate (ns.length - (Lib.compact ns).length) 0).toArray
  have hempty : ∀ W : World, Sort.grow W #[] = W := fun W => by simp [Sort.grow]
  rw [hempty] at ho hgr; refine ⟨_, rfl, ?_, hgr⟩
  rcases ho.2 with ⟨e, _⟩ | ⟨g', cap', cur', e, hg', hh', hnc', hcm', hcur', htake'⟩
  ·cases e
  ·injection e with e1 _ e3
   injection e1 with e1
   injection e1 with e1 _ _
   subst e1; subst e3; refine ⟨by simp, .inr ⟨g, cap, cur', rfl, hg', hh', by omega, hcm', hcur', ?_⟩⟩; have := congrArg (fun l => l.take (Lib.compact ns).length) htake'; simp only [List.take_take, Nat.mul_one, List.map_append] at this ⊢; rw [Nat.min_eq_left hle] at this; rw [this, List.take_append_of_le_length (by simp), List.take_of_length_le (by simp)]
end
section
open Go.Sort Go.Shelf
theorem row1_any (s t : Sp) (w : World) (h1 : InM s.1) (h2 : InM t.1) : Calls Tryz.prog 224 #[.agg #[.int .i64 s.1, .int .i64 s.2], .agg #[.int .i64 t.1, .int .i64 t.2]] w fun e w' => e = .returned (.int .i64 (s.1 - t.1)) ∧ ∃ q os', w' = Go.Sort.grow (w.drewN q) os' := by
 obtain ⟨a0, a1⟩ := h1; obtain ⟨b0, b1⟩ := h2; obtain ⟨s1, s2⟩ := s; obtain ⟨t1, t2⟩ := t; simp only at a0 a1 b0 b1 ⊢
 go_enter Tryz.func224, Tryz.ntmps224
 go_wp2; go_ret; exact ⟨rfl, 0, _, by rw [alloc_eq_grow, alloc_eq_grow, grow_grow]; rfl⟩
theorem riseF_of : ∀ {m : List Sp}, (∀ (i j : Nat) (s t : Sp), i < j → m[i]? = some s → m[j]? = some t → s.1 ≤ t.1) → RiseF m
 | [], _ => trivial
 | s :: m, h => ⟨fun t ht => by
  obtain ⟨j, hj⟩ := List.mem_iff_getElem?.1 ht
  exact h 0 (j + 1) s t (by omega) rfl (by simpa using hj), riseF_of (fun i j s t hij hs ht => h (i + 1) (j + 1) s t (by omega) (by simpa using hs) (by simpa using ht))⟩
abbrev SpB := { s : Sp // InM s.1 }
instance : Inhabited SpB := ⟨⟨(0, 0), by unfold InM; omega⟩⟩
def encB (s : SpB) : List Value := encS s.1
def cmpB (s t : SpB) : Int := s.1.1 - t.1.1
theorem ltB (s t : SpB) : ltOf cmpB s t = decide (s.1.1 < t.1.1) := by
 unfold ltOf cmpB
 by_cases h : s.1.1 < t.1.1
 ·simp [h]; omega
 ·simp [h]; omega
theorem swoB : Sort.SWO (ltOf cmpB) where
 irrefl x := by rw [ltB]; simp
 trans x y z h1 h2 := by rw [ltB] at *; simp at *; omega
 ntrans x y z h1 h2 := by rw [ltB] at *; simp at *; omega
theorem lift_sp : ∀ {S : List Sp}, (∀ s ∈ S, InM s.1) → ∃ L : List SpB, L.map Subtype.val = S
 | [], _ => ⟨[], rfl⟩
 | s :: S, h => by
  obtain ⟨L, hL⟩ := lift_sp (S := S) (fun t ht => h t (by simp [ht])); exact ⟨⟨s, h s (by simp)⟩ :: L, by simp [hL]⟩
theorem flatB_list (L : List SpB) : L.flatMap encB = (L.map Subtype.val).flatMap encS := by
 induction L with
 | nil => rfl
 | cons s L ih => rw [List.flatMap_cons, ih, List.map_cons, List.flatMap_cons]; rfl
theorem flatK_list (d : Array SpB) : (Sort.flatK encB 2 d).toList = d.toList.flatMap encB := by
 apply List.ext_getElem?
 intro p
 rw [flat_get (enc := encB) (sz := 2) (fun y => rfl) (by omega)]
 by_cases hp : p < d.size * 2
 ·have h1 : p / 2 < d.toList.length := by simp; omega
  have h2 : p / 2 < d.size := by omega
  rw [List.getElem?_eq_getElem h1]; simp only [Option.bind_some]; have hlen : (encB d[p / 2]).length = 2 := rfl; rw [List.getElem?_eq_getElem (by simp [Sort.flatK]; exact hp), Array.getElem_toList, Array.getElem_toList, List.getElem?_eq_getElem (by rw [hlen]; omega)]; have := Sort.get_flatK encB 2 d p hp; rw [getElem!_pos (Sort.flatK encB 2 d) p (by simpa using hp), getElem!_pos d (p / 2) h2, getElem!_pos (encB d[p / 2]) (p % 2) (by rw [hlen]; omega)] at this; rw [this]
 ·have h1 : ¬ p / 2 < d.toList.length := by simp; omega
  rw [List.getElem?_eq_none (by simpa using hp), List.getElem?_eq_none (by omega)]
  rfl
theorem heap_put {w : World} {g n : Nat} {os : Array Obj} {cur : Array Value} {e : TypeId} {fr : Nat × Nat} (d : Array Value) (hb : w.heap[g]? = some (.cells cur e fr)) :
  (Sort.grow (Sort.putRow id (Sort.ahead w n) g 0 d) os).heap[g]? = some (.cells (Sort.putCells id 0 d cur) e fr) := by
 have hg : g < w.heap.size := (Array.getElem?_eq_some_iff.1 hb).1; rw [Sort.heap_grow_old _ _ (by simpa using hg)]
 simp [Sort.putRow, Sort.mapBlock, Sort.ahead, Array.getElem?_modify, hb, Sort.onCells]
theorem grown_put {w : World} {g n : Nat} {os : Array Obj} (d : Array Value) : w.grownBy (Sort.grow (Sort.putRow id (Sort.ahead w n) g 0 d) os) (some g) := by
 refine ⟨rfl, rfl, rfl, by simp, fun k hk hne => ?_⟩; rw [Sort.heap_grow_old _ _ (by simpa using hk)]
 have : g ≠ k := fun e => hne (by rw [e])
 simp [Sort.putRow, Sort.mapBlock, Sort.ahead, Array.getElem?_modify, this]
theorem take_put_id (cur : Array Value) (d : Array Value) (h : d.size ≤ cur.size) : (Sort.putCells id 0 d cur).toList.take d.size = d.toList := by
 apply List.ext_getElem?
 intro j
 by_cases hj : j < d.size
 ·rw [List.getElem?_take_of_lt hj, Array.getElem?_toList]
  simp [Sort.putCells, hj, show j < cur.size by omega]
 ·rw [List.getElem?_take_eq_none (by omega), List.getElem?_eq_none (by simp; omega)]
def SortPost (S : List Sp) (v : Value) (base : Nat) (w : World) (e : Ending) (w' : World) : Prop := e = .returned (.tuple #[]) ∧ w.grownBy w' v.ownBlock ∧ ∃ m : List Sp, m.Perm S ∧ RiseF m ∧ OwnsS base w' v m
theorem isortf_any (S : List Sp) (v : Value) (w : World) (base : Nat) (h : OwnsS base w v S) (hin : ∀ s ∈ S, InM s.1) (hl : S.length ≤ 1048576) (hB : base ≤ w.heap.size) :
  Calls Tryz.prog 223 #[v, .func (.func 224) #[] #[]] w (SortPost S v base w) := by
 obtain ⟨L, rfl⟩ := lift_sp hin; have h' := h; unfold OwnsS at h'
 rcases h'.2 with ⟨rfl, h0⟩ | ⟨g, cap, cur, rfl, hg, hh, hnc, hcm, hcur, htake⟩
 ·have : L.map Subtype.val = [] := List.length_eq_zero_iff.1 h0
  rw [this] at h ⊢; refine (AnyF.slices_SortFunc_none YtfcphagmjijmkaaGreatDoor.sortFuncLays none 0 _ w).mono ?_
  rintro e w' ⟨rfl, rfl⟩
  exact ⟨rfl, grown_refl _ _, [], List.Perm.refl _, trivial, h⟩
 ·have hgl : g < w.heap.size := Go.lt_of_block hh
  have hlen : (L.map Subtype.val).length = L.toArray.size := by simp
  have eg : ∀ args w, (callFunc 224 args).run Tryz.prog w = .ok (.enter 224 args) w := enters_of Tryz.func224 (by kernel_rfl) rfl
  have hcmp : CmpLays Tryz.prog 224 #[] encB 2 cmpB g 0 L.toArray.size w := fun m os dk _ x y => row1_any x.1 y.1 _ x.2 y.2
  have hH : Sort.HoldsK encB 2 w g 0 L.toArray := by
   intro j hj
   have hj' : j < (Sort.flatK encB 2 L.toArray).size := hj; refine ⟨?_, by simp [World.frozen?, hh]⟩; have hfl := flatK_list L.toArray
   have h1 : cur.toList[j]? = (Sort.flatK encB 2 L.toArray).toList[j]? := by
    rw [hfl, flatB_list, ← htake, List.getElem?_take_of_lt]
    simp at hj' ⊢; exact hj'
   simp only [World.cell?, hh, Nat.zero_add]; simp only [Option.isSome_none, Bool.false_eq_true, if_false, id]; rw [← Array.getElem?_toList, h1, List.getElem?_eq_getElem (by simpa using hj'), Array.getElem_toList, getElem!_pos _ j hj']
  have hcon := AnyQ.slices_SortFunc YtfcphagmjijmkaaGreatDoor.sortFuncLays 2 Tryz.isAgg244 Tryz.sizeOf244 encB (fun _ => rfl) (fun x v hv => by simp [encB, encS] at hv; rcases hv with rfl | rfl <;> rfl) cmpB swoB 224 #[] g 0 cap L.toArray w eg hcmp hH hgl (by rw [← hlen]; omega); rw [hlen]; refine hcon.mono ?_
  rintro e w' ⟨rfl, d', n, os, hp, hs, rfl⟩
  obtain ⟨p1, _, p3⟩ := hp
  have hd : d'.size = (L.map Subtype.val).length := by rw [p1]; simp
  refine ⟨rfl, grown_put _, d'.toList.map Subtype.val, ?_, riseF_of ?_, ?_⟩
  ·have e1 : (d'.extract 0 L.toArray.size).toList = d'.toList := by rw [← p1]; simp
   have e2 : (L.toArray.extract 0 L.toArray.size).toList = L := by simp
   rw [e1, e2] at p3; exact p3.map _
  ·intro i j s t hij hs' ht
   rw [List.getElem?_map] at hs' ht
   cases hi : d'.toList[i]? with
   | none => rw [hi] at hs'; cases hs'
   | some a =>
    cases hj : d'.toList[j]? with
    | none => rw [hj] at ht; cases ht
    | some b =>
     rw [hi] at hs'; rw [hj] at ht
     simp at hs' ht
     subst hs'; subst ht; rw [Array.getElem?_toList] at hi hj; obtain ⟨i1, i2⟩ := Array.getElem?_eq_some_iff.1 hi; obtain ⟨j1, j2⟩ := Array.getElem?_eq_some_iff.1 hj; have := hs i j (Nat.zero_le _) hij (by rw [← p1]; exact j1); rw [getElem!_pos d' j j1, getElem!_pos d' i i1, i2, j2, ltB] at this
     simp at this
     exact this
  ·have hlen2 : (d'.toList.map Subtype.val).length = L.toArray.size := by rw [← p1]; simp
   unfold OwnsS; rw [hlen2]; have hfl := flatK_list d'; refine ⟨by rw [flat_len encS_len, hlen2], .inr ⟨g, cap, _, rfl, hg, heap_put _ hh, by rw [← hlen]; exact hnc, hcm, by simp [Sort.putCells, hcur], ?_⟩⟩; rw [← flatB_list, ← hfl]
   have hsz : (Sort.flatK encB 2 d').size = L.toArray.size * 2 := by rw [Sort.size_flatK, p1]
   rw [← hsz]; exact take_put_id cur _ (by rw [hsz, hcur, ← hlen]; omega)
end
section
def eqG {α : Type} (e : α → α → Bool) : List α → List α → Bool
 | [], [] => true
 | x :: xs, y :: ys => e x y && eqG e xs ys
 | _, _ => false
theorem eqG_len {α : Type} {e : α → α → Bool} : ∀ {xs ys : List α}, xs.length ≠ ys.length → eqG e xs ys = false
 | [], [], h => absurd rfl h
 | [], _ :: _, _ => rfl
 | _ :: _, [], _ => rfl
 | x :: xs, y :: ys, h => by
  unfold eqG; rw [eqG_len (by simpa using h), Bool.and_false]
theorem eqG_iff {α : Type} {e : α → α → Bool} (he : ∀ x y, e x y = true ↔ x = y) : ∀ {xs ys : List α}, eqG e xs ys = true ↔ xs = ys
 | [], [] => by simp [eqG]
 | [], _ :: _ => by simp [eqG]
 | _ :: _, [] => by simp [eqG]
 | x :: xs, y :: ys => by
  unfold eqG; rw [Bool.and_eq_true, he, eqG_iff he]
  simp
theorem eqG_step {α : Type} {e : α → α → Bool} {xs ys : List α} {k : Nat} {x y : α} (hx : xs[k]? = some x) (hy : ys[k]? = some y) : eqG e (xs.drop k) (ys.drop k) = (e x y && eqG e (xs.drop (k + 1)) (ys.drop (k + 1))) := by
 obtain ⟨hk, e⟩ := List.getElem?_eq_some_iff.1 hx; obtain ⟨hk', e'⟩ := List.getElem?_eq_some_iff.1 hy; rw [List.drop_eq_getElem_cons hk, e, List.drop_eq_getElem_cons hk', e']
 rfl
def eqS1 (s t : Sp) : Bool := (s.1 == t.1) && (s.2 == t.2)
def eqSs (l m : List Sp) : Bool := eqG eqS1 l m
theorem eqSs_iff {l m : List Sp} : eqSs l m = true ↔ l = m := eqG_iff (fun x y => by unfold eqS1; cases x; cases y; simp)
theorem eqSs_dec (l m : List Sp) : eqSs l m = decide (l = m) := by rw [Bool.eq_iff_iff, eqSs_iff, decide_eq_true_eq]
theorem eqSs_step {xs ys : List Sp} {k : Nat} {x y : Sp} (hx : xs[k]? = some x) (hy : ys[k]? = some y) : eqSs (xs.drop k) (ys.drop k) = (eqS1 x y && eqSs (xs.drop (k + 1)) (ys.drop (k + 1))) := eqG_step hx hy
theorem eqSs_len {xs ys : List Sp} (h : xs.length ≠ ys.length) : eqSs xs ys = false := eqG_len h
theorem neq_rect (w : World) (a b c e a' b' c' e' : Int) : (binOp .neq 32 (.agg #[.int .i64 a, .int .i64 b, .int .i64 c, .int .i64 e]) (.agg #[.int .i64 a', .int .i64 b', .int .i64 c', .int .i64 e'])).run Tryz.prog w = .ok (.bool (!eq4 a b c e a' b' c' e')) w := by
 rw [run_neq_struct, eq_rect 9997]
 rfl
theorem eql_rect (w : World) (a b c e a' b' c' e' : Int) : (binOp .eql 32 (.agg #[.int .i64 a, .int .i64 b, .int .i64 c, .int .i64 e]) (.agg #[.int .i64 a', .int .i64 b', .int .i64 c', .int .i64 e'])).run Tryz.prog w = .ok (.bool (eq4 a b c e a' b' c' e')) w := by
 rw [run_eql_struct, eq_rect 9997]
 rfl
theorem eq_span (d : Nat) (w : World) (a b a' b' : Int) : (Op.equalIn (d + 2) 244 (.agg #[.int .i64 a, .int .i64 b]) (.agg #[.int .i64 a', .int .i64 b'])).run Tryz.prog w = .ok ((a == a') && (b == b')) w := by
 have A := Tryz.underlying244; have B := Tryz.underlying3; rw [run_equalIn_agg w (d + 1) _ _ _ (by simp [Program.fieldsOf, A]) (by kernel_rfl)]; simp only [Program.fieldsOf, A]
 by_cases h0 : a = a' <;> by_cases h1 : b = b' <;> simp [Op.eqFields, Go.part, isAgg, run_underlying B, run_equalIn_int _ _ _ _ _ _ _ B, h0, h1]
theorem neq_span (w : World) (a b a' b' : Int) : (binOp .neq 244 (.agg #[.int .i64 a, .int .i64 b]) (.agg #[.int .i64 a', .int .i64 b'])).run Tryz.prog w = .ok (.bool (!((a == a') && (b == b')))) w := by
 rw [run_neq_struct, eq_span 9998]
 rfl
attribute [local go_sem high] neq_rect neq_span
set_option maxRecDepth 100000 in
theorem equalS_any (xs ys : List Sp) (v1 v2 : Value) (w : World) (h1 : Row w.heap.size 2 encS w v1 xs) (h2 : Row w.heap.size 2 encS w v2 ys) (hmany : xs.length ≤ 2000000) (hmany2 : ys.length ≤ 2000000) : Calls Tryz.prog 212 #[v1, v2] w fun e w' => e = .returned (.bool (eqSs xs ys)) ∧ Below w.heap.size w w' := by
 obtain ⟨s1, c1, rfl, hmax1⟩ := h1.shape; obtain ⟨s2, c2, rfl, hmax2⟩ := h2.shape
 have o1 := fun h0 => row_sp h1 h0
 have o2 := fun h0 => row_sp h2 h0
 clear h1 h2; obtain ⟨n, en⟩ := exx (xs.length); obtain ⟨m, em⟩ := exx (ys.length)
 by_cases hnm : n = m
 ·subst hnm
  rw [en] at o1 hmany hmax1 ⊢; rw [em] at o2 hmany2 hmax2 ⊢; replace o1 := hdh o1; replace o2 := hdh o2; replace en := hdh en; replace em := hdh em; obtain ⟨res, hres⟩ := exx (eqSs xs ys); rw [hres]
  go_enter Tryz.func212, Tryz.ntmps212
  go_wp2
  go_loopw [13] (fun i wr => ∃ k : Nat, k ≤ n ∧ i = .int .i64 k ∧ eqSs (xs.drop k) (ys.drop k) = res ∧ Below w.heap.size w wr) (fun i _ => n - (intOf i).toNat)
  case atStart => exact ⟨0, Nat.zero_le _, rfl, by simpa using hres, belt⟩
  case round =>
   obtain ⟨k, hk, rfl, hgo, hbr⟩ := hrel; clear hres; have zr := hbr.size; obtain ⟨hcr, hfr⟩ := bcell hbr
   by_cases hkn : k < n
   ·obtain ⟨b, p, cap', e, hb, _, _, hel⟩ := o1.out (by omega)
    simp at e
    obtain ⟨rfl, rfl⟩ := e; obtain ⟨b', p', cap', e, hb', _, _, hex⟩ := o2.out (by omega)
    simp at e
    obtain ⟨rfl, rfl⟩ := e; obtain ⟨s, hs⟩ := get_at en.out hkn; obtain ⟨t, ht⟩ := get_at em.out hkn; have g := hel k s hs; have j := hex k t ht; rw [eqSs_step hs ht] at hgo
    have hkk : (k : Int) < n := by omega
    have yb : b < wr.heap.size := by omega
    have yb' : b' < wr.heap.size := by omega
    clear hel hex hs ht; obtain ⟨x, y⟩ := s; obtain ⟨x', y'⟩ := t; obtain ⟨g0, g1⟩ := g; obtain ⟨j0, j1⟩ := j; simp only at g0 g1 j0 j1; obtain ⟨bb, hc⟩ := exx (eqS1 (x, y) (x', y')); rw [hc] at hgo; replace hc : ((x == x') && (y == y')) = bb := hc
    cases bb
    ·rw [Bool.false_and] at hgo
     subst hgo; go_wp2; refine rst (Held wr 0 []) ?_
     repeat (first | (refine' sdo ?_; simp only [pu]) | (refine spa ?_; simp only [pu]))
     refine wpSteady_nil (fun uA hSA => ?_); obtain ⟨hcA, hbA, hzA, hcoA, hfoA⟩ := hall hSA; clear hSA; simp only [Cells] at hcA; go_wp2; go_ret; exact ⟨rfl, hbr.trans (hbA.mono zr)⟩
    ·rw [Bool.true_and] at hgo
     replace hgo := hdh hgo; go_wp2; refine rst (Held wr 0 []) ?_
     repeat (first | (refine' sdo ?_; simp only [pu]) | (refine spa ?_; simp only [pu]))
     refine wpSteady_nil (fun uA hSA => ?_); obtain ⟨hcA, hbA, hzA, hcoA, hfoA⟩ := hall hSA; clear hSA; simp only [Cells] at hcA; go_wp2; go_roundw
     case rel => exact ⟨k + 1, by omega, by go_num, hgo.out, hbr.trans (hbA.mono zr)⟩
     case measure => simp [intOf]; omega
   ·obtain rfl : k = n := by omega
    have e1 : xs.drop k = [] := List.drop_eq_nil_of_le (by have := en.out; omega); have e2 : ys.drop k = [] := List.drop_eq_nil_of_le (by have := em.out; omega); rw [e1, e2] at hgo; clear e1 e2; have hgo : true = res := hgo; subst hgo; go_wp2; go_ret; exact ⟨rfl, hbr⟩
 ·rw [eqSs_len (by rw [en, em]; exact hnm)]
  rw [en] at hmax1 ⊢; rw [em] at hmax2 ⊢
  have hni : ¬ (n : Int) = m := by omega
  clear o1 o2
  go_enter Tryz.func212, Tryz.ntmps212
  go_wp2; go_ret; exact ⟨rfl, belt⟩
end
section
theorem rowS_snoc {l : List Re} {k : Nat} {q : Re} (y : Int) (h : l[k]? = some q) : rowS (l.take (k + 1)) y = rowS (l.take k) y ++ if (inRow q y && decide (0 < q.wd)) = true then [(q.x, q.x + q.wd)] else [] := by
 unfold rowS; rw [List.take_add_one, h, List.filter_append, List.map_append]
 congr 1
 simp only [Option.toList_some, List.filter_cons, List.filter_nil]
 split <;> simp
theorem rowS_le (l : List Re) (y : Int) : (rowS l y).length ≤ l.length := by
 unfold rowS; rw [List.length_map]; exact List.length_filter_le _ _
theorem mergeS_end : ∀ (A : List Sp) (t s : Sp), mergeS (A ++ [t]) s = A ++ if s.1 ≤ t.2 then [(t.1, max t.2 s.2)] else [t, s]
 | [], t, s => rfl
 | [a], t, s => rfl
 | a :: b :: A, t, s => by
  have := mergeS_end (b :: A) t s
  show a :: mergeS (b :: (A ++ [t])) s = _
  rw [List.cons_append] at this; rw [this]; rfl
def RowInv (m C : List Sp) (i nn : Nat) : Prop := C.length = m.length ∧ nn ≤ i ∧ C.take nn = (m.take i).foldl mergeS [] ∧ C.drop i = m.drop i ∧ ∀ s ∈ C, InM s.1 ∧ InM s.2
theorem RowInv.start {m : List Sp} (h : ∀ s ∈ m, InM s.1 ∧ InM s.2) : RowInv m m 0 0 := ⟨rfl, Nat.le_refl _, rfl, rfl, h⟩
theorem RowInv.at_ {m C : List Sp} {i nn : Nat} {s : Sp} (h : RowInv m C i nn) (hs : m[i]? = some s) : C[i]? = some s := by
 have := congrArg List.head? h.2.2.2.1; rw [List.head?_drop, List.head?_drop, hs] at this; exact this
theorem set_mem {C : List Sp} {k : Nat} {a : Sp} (hC : ∀ s ∈ C, InM s.1 ∧ InM s.2) (ha : InM a.1 ∧ InM a.2) : ∀ s ∈ C.set k a, InM s.1 ∧ InM s.2 := fun s hs => by
 rcases List.mem_or_eq_of_mem_set hs with h | h
 ·exact hC s h
 ·rw [h]; exact ha
theorem fold_snoc {m : List Sp} {i : Nat} {s : Sp} (hs : m[i]? = some s) : (m.take (i + 1)).foldl mergeS [] = mergeS ((m.take i).foldl mergeS []) s := by
 rw [List.take_add_one, hs, List.foldl_append]; rfl
theorem RowInv.set_ {m C : List Sp} {i nn k : Nat} {s a : Sp} (h : RowInv m C i nn) (hs : m[i]? = some s) (hk : k ≤ i) (ha : InM a.1 ∧ InM a.2) (hn : k + 1 ≤ i + 1) (hf : C.take k ++ [a] = mergeS (C.take nn) s) : RowInv m (C.set k a) (i + 1) (k + 1) := by
 obtain ⟨h1, h2, h3, h4, h5⟩ := h; have hl := (List.getElem?_eq_some_iff.1 hs).1; refine ⟨by rw [List.length_set, h1], hn, ?_, ?_, set_mem h5 ha⟩
 ·rw [List.take_add_one, List.getElem?_set_self (by omega), List.take_set_of_le lrr, fold_snoc hs, ← h3, ← hf]; rfl
 ·rw [List.drop_set_of_lt (by omega)]
  have := congrArg (List.drop 1) h4
  simpa [List.drop_drop] using this
theorem RowInv.first {m C : List Sp} {i : Nat} {s : Sp} (h : RowInv m C i 0) (hs : m[i]? = some s) : RowInv m (C.set 0 s) (i + 1) 1 :=
 h.set_ hs (Nat.zero_le _) (h.2.2.2.2 s (List.mem_of_getElem? (h.at_ hs))) (by omega) rfl
theorem RowInv.next {m C : List Sp} {i p : Nat} {s t : Sp} (h : RowInv m C i (p + 1)) (hs : m[i]? = some s) (ht : C[p]? = some t) :
  (s.1 ≤ t.2 → RowInv m (C.set p (t.1, max t.2 s.2)) (i + 1) (p + 1)) ∧ (¬ s.1 ≤ t.2 → RowInv m (C.set (p + 1) s) (i + 1) (p + 2)) := by
 have hsC := h.2.2.2.2 s (List.mem_of_getElem? (h.at_ hs)); have htC := h.2.2.2.2 t (List.mem_of_getElem? ht)
 have e : C.take (p + 1) = C.take p ++ [t] := by rw [List.take_add_one, ht]; rfl
 have hle := h.2.1; refine ⟨fun hc => h.set_ hs (by omega) ⟨htC.1, ?_⟩ (by omega) ?_, fun hc => h.set_ hs (by omega) hsC (by omega) ?_⟩
 ·have := htC.2; have := hsC.2
  unfold InM at *; simp only; omega
 ·rw [e, mergeS_end, if_pos hc]
 ·rw [e, mergeS_end, if_neg hc]; simp
theorem RowInv.done {m C : List Sp} {nn : Nat} (h : RowInv m C m.length nn) : C.take nn = m.foldl mergeS [] := by
 have := h.2.2.1
 rwa [List.take_of_length_le lrr] at this
theorem row_take {α : Type} {enc : α → List Value} {sz B : Nat} {w : World} {s : Option Addr} {cap : Nat} {xs : List α} (h : Row B sz enc w (.slice s xs.length cap) xs) (k cap' : Nat) (hk : k ≤ xs.length) (hc : k ≤ cap') (hm : cap' ≤ maxLen) : Row B sz enc w (.slice s k cap') (xs.take k) := by
 obtain ⟨s', c', e, hl, hc', hx⟩ := h
 injection e with e1 _ e2
 subst e1; subst e2
 have hlen : (xs.take k).length = k := by rw [List.length_take]; omega
 refine ⟨s, cap', by rw [hlen], by rw [hlen]; exact hc, hm, fun h0 => ?_⟩; obtain ⟨b, o, hs, hlt, hx⟩ := hx (by omega); refine ⟨b, o, hs, hlt, fun j x hj => hx j x ?_⟩; rw [List.getElem?_take] at hj
 split at hj
 ·exact hj
 ·cases hj
theorem flatS_snoc {l : List Sp} {t : Sp} {cs : List Value} (h : cs = encS t) : l.flatMap encS ++ cs = (l ++ [t]).flatMap encS := by
 rw [h, List.flatMap_append]; simp
theorem own_put1 {w : World} {base g n cap k : Nat} {C : List Sp} {t : Sp} (h : OwnsS base w (.slice (some ⟨g, 0, none⟩) n cap) C) (hn : C.length = n) (ht : C[k]? = some t) (b : Int) : OwnsS base (w.setCell ⟨g, k * 2 + 1, none⟩ (.int .i64 b)) (.slice (some ⟨g, 0, none⟩) n cap) (C.set k (t.1, b)) := by
 have hk := (List.getElem?_eq_some_iff.1 ht).1; unfold OwnsS at *; rw [List.length_set, hn]; rw [hn] at h; have := own_put h (k := k * 2 + 1) (by omega) (.int .i64 b)
 rwa [flat_set encS_len 1 _ t (t.1, b) (by omega) rfl C k ht] at this
theorem own_put2 {w : World} {base g n cap k : Nat} {C : List Sp} {s : Sp} (h : OwnsS base w (.slice (some ⟨g, 0, none⟩) n cap) C) (hn : C.length = n) (hk : k < n) : OwnsS base ((w.setCell ⟨g, k * 2, none⟩ (.int .i64 s.1)).setCell ⟨g, k * 2 + 1, none⟩ (.int .i64 s.2)) (.slice (some ⟨g, 0, none⟩) n cap) (C.set k s) := by
 obtain ⟨t, ht⟩ := get_at hn hk; unfold OwnsS at *; rw [List.length_set, hn]; rw [hn] at h; have h1 := own_put h (k := k * 2) (by omega) (.int .i64 s.1); have h2 := own_put h1 (k := k * 2 + 1) (by omega) (.int .i64 s.2); have e1 := flat_set encS_len 0 (.int .i64 s.1) t (s.1, t.2) (by omega) rfl C k ht; rw [Nat.add_zero] at e1; rw [e1, flat_set encS_len 1 (.int .i64 s.2) (s.1, t.2) s (by omega) rfl _ k (by rw [List.getElem?_set_self (by omega)]), List.set_set] at h2; exact h2
end
section
theorem own_unfz {w : World} {base g n cap : Nat} {C : List Sp} (h : OwnsS base w (.slice (some ⟨g, 0, none⟩) n cap) C) (o : Nat) : w.frozen? ⟨g, o, none⟩ = false := by
 rcases h.2 with ⟨e, _⟩ | ⟨g', cap', cur, e, _, hh, _⟩
 ·cases e
 ·injection e with e _ _
  injection e with e
  injection e with e _ _
  subst e
  simp [World.frozen?, hh]
def RowPost (l : List Re) (y : Int) (w : World) (e : Ending) (w' : World) : Prop := Below w.heap.size w w' ∧ ∃ v, e = .returned v ∧ Row w'.heap.size 2 encS w' v (spansP l [] 1 y)
set_option maxRecDepth 100000 in
theorem row_any (l : List Re) (y : Int) (v : Value) (w : World) (hl : Row w.heap.size 4 Re.enc w v l) (hm : MayL l) (hln : l.length ≤ 100000) (hy : InM y) : Calls Tryz.prog 211 #[v, .int .i64 y] w (RowPost l y w) := by
 obtain ⟨iS, hi0, hm0, hm1, hm2⟩ := info_parts infoSp; obtain ⟨s0, cap, rfl, hmax⟩ := hl.shape
 have hopen := fun h0 => row_re hl h0
 obtain ⟨n, en⟩ := exx (l.length); rw [en] at hopen hmax hln ⊢; clear hl; obtain ⟨y0, y1⟩ := id hy; replace hopen := hdh hopen; replace en := hdh en; replace hm := hdh hm
 go_enter Tryz.func211, Tryz.ntmps211
 go_wp2
 go_loopw [5, 13] (fun vv iv wr => ∃ k : Nat, k ≤ n ∧ iv = .int .i64 k ∧ OwnsS w.heap.size wr vv (rowS (l.take k) y) ∧ Below w.heap.size w wr) (fun _ iv _ => n - (intOf iv).toNat)
 case atStart => exact ⟨0, Nat.zero_le _, rfl, OwnsS.nil _ _, Below.refl _ _⟩
 case round =>
  obtain ⟨k, hk, rfl, hown, hbr⟩ := hrel; have zr := hbr.size; obtain ⟨hcr, hfr⟩ := bcell hbr
  by_cases hkn : k < n
  ·obtain ⟨b, o, cap', e, hb, _, _, hel⟩ := hopen.out (by omega)
   simp at e
   obtain ⟨rfl, rfl⟩ := e; obtain ⟨q, hq⟩ := get_at en.out hkn; obtain ⟨g0, g1, g2, g3⟩ := hel k q hq; have hbd := may_sides (hm.out q (List.mem_of_getElem? hq)); unfold InM at hbd; have hsn := rowS_snoc y hq
   have hkk : (k : Int) < n := by omega
   have yb : b < wr.heap.size := by omega
   have hle : (rowS (l.take k) y).length ≤ 100000 := by have := rowS_le (l.take k) y; simp at this; omega
   clear hel hq; obtain ⟨st0, cap0, rfl⟩ := own_slice hown; unfold inRow at hsn
   by_cases c1 : q.y ≤ y
   ·by_cases c2 : y < q.y + q.ht
    ·by_cases c3 : 0 < q.wd
     ·rw [show (decide (q.y ≤ y) && decide (y < q.y + q.ht) && decide (0 < q.wd)) = true by simp [c1, c2, c3], if_pos rfl] at hsn
      unfold OwnsS at hown; replace hsn := hdh hsn; have hcs : [.int .i64 q.x, .int .i64 (q.x + q.wd)] = encS (q.x, q.x + q.wd) := rfl; replace hcs := hdh hcs
      go_upto_region 6 with fail
      have hb7 : Below wr.heap.size wr (wr.alloc (.cells #[.int .i64 q.x, .int .i64 q.y, .int .i64 q.wd, .int .i64 q.ht] 32)) := (Below.refl _ _).alloc lrr _
      have e0 : (wr.alloc (.cells #[.int .i64 q.x, .int .i64 q.y, .int .i64 q.wd, .int .i64 q.ht] 32)).cell? ⟨wr.heap.size, 0, none⟩ = some (.int .i64 q.x) := by go_simp
      have e2 : (wr.alloc (.cells #[.int .i64 q.x, .int .i64 q.y, .int .i64 q.wd, .int .i64 q.ht] 32)).cell? ⟨wr.heap.size, 2, none⟩ = some (.int .i64 q.wd) := by go_simp
      have h57 : wr.heap.size < (wr.alloc (.cells #[.int .i64 q.x, .int .i64 q.y, .int .i64 q.wd, .int .i64 q.ht] 32)).heap.size := by simp
      generalize wr.alloc (.cells #[.int .i64 q.x, .int .i64 q.y, .int .i64 q.wd, .int .i64 q.ht] 32) = w7 at hb7 e0 e2 h57 ⊢; have zr7 := hb7.size; clear g0 g1 g2 g3 hcr hfr
      go_wp2_with (first
       | (at_builtin; refine wpList_append_new rfl _ _ _ rfl w.heap.size 244 iS _ 2 16 Tryz.underlying242 hi0 hm0 hm1 hm2 rfl (by omega) w7 1 _ _ _ _ (by rfl) (ownsRow_below hown hb7 lrr) (by rfl) rfl (by simp [Value.oneCell']) (by omega) (by unfold maxLen; omega) (by omega) ?_; intro v6 w6 hown6 hb6)
       | go_in)
      have hb6' : Below w.heap.size w w6 := (hbr.trans (hb7.mono zr)).trans hb6; rw [flatS_snoc hcs.out] at hown6; replace hown6 := hdh hown6; clear hb6; go_wp2; go_roundw
      case rel =>
       refine ⟨k + 1, by omega, by go_num, ?_, hb6'⟩; unfold OwnsS; rw [hsn.out, List.length_append]; exact hown6.out
      case measure => simp [intOf]; omega
     ·rw [show (decide (q.y ≤ y) && decide (y < q.y + q.ht) && decide (0 < q.wd)) = false by simp [c3], if_neg (by decide), List.append_nil] at hsn
      replace hsn := hdh hsn; replace hown := hdh hown; go_wp2; have hb7 : Below wr.heap.size wr (wr.alloc (.cells #[.int .i64 q.x, .int .i64 q.y, .int .i64 q.wd, .int .i64 q.ht] 32)) := (Below.refl _ _).alloc lrr _; go_roundw
      case rel => exact ⟨k + 1, by omega, by go_num, by rw [hsn.out]; exact hown.out.below hb7 lrr, hbr.trans (hb7.mono zr)⟩
      case measure => simp [intOf]; omega
    ·rw [show (decide (q.y ≤ y) && decide (y < q.y + q.ht) && decide (0 < q.wd)) = false by simp [c2], if_neg (by decide), List.append_nil] at hsn
     replace hsn := hdh hsn; replace hown := hdh hown; go_wp2; have hb7 : Below wr.heap.size wr (wr.alloc (.cells #[.int .i64 q.x, .int .i64 q.y, .int .i64 q.wd, .int .i64 q.ht] 32)) := (Below.refl _ _).alloc lrr _; go_roundw
     case rel => exact ⟨k + 1, by omega, by go_num, by rw [hsn.out]; exact hown.out.below hb7 lrr, hbr.trans (hb7.mono zr)⟩
     case measure => simp [intOf]; omega
   ·rw [show (decide (q.y ≤ y) && decide (y < q.y + q.ht) && decide (0 < q.wd)) = false by simp [c1], if_neg (by decide), List.append_nil] at hsn
    replace hsn := hdh hsn; replace hown := hdh hown; go_wp2; have hb7 : Below wr.heap.size wr (wr.alloc (.cells #[.int .i64 q.x, .int .i64 q.y, .int .i64 q.wd, .int .i64 q.ht] 32)) := (Below.refl _ _).alloc lrr _; go_roundw
    case rel => exact ⟨k + 1, by omega, by go_num, by rw [hsn.out]; exact hown.out.below hb7 lrr, hbr.trans (hb7.mono zr)⟩
    case measure => simp [intOf]; omega
  ·obtain rfl : k = n := by omega
   rw [List.take_of_length_le (by have := en.out; omega)] at hown; obtain ⟨S, hS⟩ := exx (rowS l y)
   have hSl : S.length ≤ 100000 := by rw [← hS]; have := rowS_le l y; have := en.out; omega
   have hSin : ∀ s ∈ S, InM s.1 ∧ InM s.2 := by
    rw [← hS]
    intro s hs
    unfold rowS at hs; obtain ⟨q, hq, rfl⟩ := List.mem_map.1 hs; have := may_sides (hm.out q (List.mem_filter.1 hq).1); exact ⟨this.1, this.2.1⟩
   rw [hS] at hown; have SF := isortf_any S _ wr w.heap.size hown (fun s hs => (hSin s hs).1) (by omega) zr
   have hlt := fun g hg => (hown.lt g hg).1
   obtain ⟨st0, cap0, rfl⟩ := own_slice hown; replace SF := hdh SF; replace hS := hdh hS; replace hSin := hdh hSin; replace hlt := hdh hlt; clear hown hcr hfr hopen
   go_wp2_with (first
    | (go_at_call 223; (with_reducible refine (SF.out).mono ?_); rintro e w5 ⟨rfl, hgr, m, hp, hri, hown⟩)
    | go_in)
   have hb5 : Below w.heap.size w w5 := hbr.grown hgr zr hlt.out; have z05 := hb5.size; have hml := hp.length_eq
   have hmin : ∀ s ∈ m, InM s.1 ∧ InM s.2 := fun s hs => hSin.out s (hp.mem_iff.1 hs)
   have hrs : m.foldl mergeS [] = spansP l [] 1 y := by
    have := row_spec (l := l) (y := y) (m := m) (by rw [hS.out]; exact hp) hri; exact row_alone hm.out.sane this.1 this.2
   obtain ⟨N, hN⟩ := exx (S.length); rw [hN] at hown hml hSl ⊢
   obtain ⟨hNc, hcm⟩ : N ≤ cap0 ∧ cap0 ≤ maxLen := by
    have := hown; unfold OwnsS at this; rw [hml] at this; exact own_len this
   replace hml := hdh hml; replace hmin := hdh hmin; replace hrs := hdh hrs; have hst := hdh (RowInv.start hmin.out); clear SF hS hSin hlt hp hri hgr hN hbr
   go_loopw [8, 58] (fun nv iv wr => ∃ (i nn : Nat) (C : List Sp), i ≤ N ∧ iv = .int .i64 i ∧ nv = .int .i64 nn ∧ Hid (RowInv m C i nn) ∧ OwnsS w.heap.size wr (.slice st0 N cap0) C ∧ Below w.heap.size w wr) (fun _ iv _ => N - (intOf iv).toNat)
   case atStart => exact ⟨0, 0, m, Nat.zero_le _, rfl, rfl, hst, hown, hb5⟩
   case round =>
    obtain ⟨i, nn, C, hi, rfl, rfl, hinv, hown, hbr⟩ := hrel; clear hst hb5 z05; have zr := hbr.size; have hCl : C.length = N := hinv.out.1.trans hml.out; have hni : nn ≤ i := hinv.out.2.1
    by_cases hiN : i < N
    ·obtain ⟨g, rfl, hgB, hgl⟩ := own_addr (show wr.ownsRow w.heap.size 244 2 (.slice st0 N cap0) N (C.flatMap encS) by have := hown; unfold OwnsS at this; rw [hCl] at this; exact this) (by omega)
     obtain ⟨s, hs⟩ := get_at hml.out hiN; have hsC := hinv.out.at_ hs; obtain ⟨g0, g1⟩ := own_sp hown hsC; have hfz := own_unfz hown; obtain ⟨⟨b0, b1⟩, ⟨b2, b3⟩⟩ := hmin.out s (List.mem_of_getElem? hs)
     have hii : (i : Int) < N := by omega
     have hnn : (nn : Int) < N := by omega
     obtain ⟨s1, s2⟩ := s; simp only at g0 g1 b0 b1 b2 b3
     cases nn with
     | zero =>
      have hinv' := hdh (hinv.out.first hs); obtain ⟨x, hx⟩ := get_at (k := 0) hCl (by omega); obtain ⟨j0, j1⟩ := own_sp hown hx; simp only [Nat.zero_mul, Nat.zero_add] at j0 j1; clear hx; replace hown := hdh hown; clear hs hsC hinv; go_wp2; refine rst (Held wr 1 [(⟨wr.heap.size, 0, none⟩, .int .i64 s1), (⟨wr.heap.size, 1, none⟩, .int .i64 s2)]) ?_
      repeat (first | (refine' sdo ?_; simp only [pu]) | (refine spa ?_; simp only [pu]))
      refine wpSteady_nil (fun uA hSA => ?_); obtain ⟨hcA, hbA, hzA, hcoA, hfoA⟩ := hall hSA; clear hSA; simp only [Cells] at hcA
      have yA : g < uA.heap.size := by omega
      have hfzA : ∀ o, uA.frozen? ⟨g, o, none⟩ = false := fun o => (hfoA g o hgl).trans (hfz o)
      go_wp2; go_roundw
      case rel =>
       refine ⟨i + 1, 1, C.set 0 (s1, s2), by omega, by go_num, rfl, hinv', ?_, ?_⟩
       ·have := own_put2 (k := 0) (s := (s1, s2)) (hown.out.below hbA lrr) hCl (by omega)
        exact this
       ·exact ((hbr.trans (hbA.mono zr)).setCell (by simp; omega) _).setCell (by simp; omega) _
      case measure => simp [intOf]; omega
     | succ p =>
      obtain ⟨t, ht⟩ := get_at (k := p) hCl (by omega); obtain ⟨j0, j1⟩ := own_sp hown ht; obtain ⟨⟨d0, d1⟩, ⟨d2, d3⟩⟩ := hinv.out.2.2.2.2 t (List.mem_of_getElem? ht); obtain ⟨n1, n2⟩ := hinv.out.next hs ht; obtain ⟨t1, t2⟩ := t; simp only at j0 j1 d0 d1 d2 d3 n1 n2; replace n1 := hdh n1; replace n2 := hdh n2; replace hown := hdh hown; have hth := hdh ht
      have hpN : (p : Int) < N := by omega
      have hp0 : (0 : Int) < (p : Int) + 1 := by omega
      have hpN2 : (p : Int) + 1 < N := by omega
      clear hs hsC hinv ht; obtain ⟨x, hx⟩ := get_at (k := p + 1) hCl (by omega); obtain ⟨i0, i1⟩ := own_sp hown.out hx; clear hx
      by_cases hc : s1 ≤ t2
      ·go_wp2
       refine rst (Held wr 1 [(⟨wr.heap.size, 0, none⟩, .int .i64 s1), (⟨wr.heap.size, 1, none⟩, .int .i64 s2)]) ?_
       repeat (first | (refine' sdo ?_; simp only [pu]) | (refine spa ?_; simp only [pu]))
       refine wpSteady_nil (fun uA hSA => ?_); obtain ⟨hcA, hbA, hzA, hcoA, hfoA⟩ := hall hSA; clear hSA; simp only [Cells] at hcA
       have yA : g < uA.heap.size := by omega
       have yA2 : wr.heap.size < uA.heap.size := by omega
       have hfzA : ∀ o, uA.frozen? ⟨g, o, none⟩ = false := fun o => (hfoA g o hgl).trans (hfz o)
       go_wp2; refine wp_region_steady_then (Held uA 0 []) 14 (by kernel_rfl) (by kernel_rfl) (by decide) (by kernel_rfl) (by kernel_rfl) ⟨belt, (by (try simp) <;> omega), (by first | exact trivial | (simp only [Cells]; go_simp))⟩ ?_; simp only [List.take_succ_cons, List.take_zero]
       repeat (first | (refine' sdo ?_; simp only [pu]) | (refine spa ?_; simp only [pu]))
       refine wpSteady_nil (fun uB hSB => ?_); obtain ⟨hcB, hbB, hzB, hcoB, hfoB⟩ := hall hSB; clear hSB; simp only [Cells] at hcB; simp only [List.drop_succ_cons, List.drop_zero, List.drop_nil]
       have yB : g < uB.heap.size := by omega
       have hfzB : ∀ o, uB.frozen? ⟨g, o, none⟩ = false := fun o => (hfoB g o yA).trans (hfzA o)
       go_wp2; go_roundw
       case rel =>
        refine ⟨i + 1, p + 1, C.set p (t1, max t2 s2), by omega, by go_num, by go_num, hdh (n1.out hc), ?_, ?_⟩
        ·exact own_put1 ((hown.out.below hbA lrr).below hbB lrr) hCl hth.out (max t2 s2)
        ·exact ((hbr.trans (hbA.mono zr)).trans (hbB.mono (by omega))).setCell (by simp; omega) _
       case measure => simp [intOf]; omega
      ·go_wp2
       refine rst (Held wr 1 [(⟨wr.heap.size, 0, none⟩, .int .i64 s1), (⟨wr.heap.size, 1, none⟩, .int .i64 s2)]) ?_
       repeat (first | (refine' sdo ?_; simp only [pu]) | (refine spa ?_; simp only [pu]))
       refine wpSteady_nil (fun uA hSA => ?_); obtain ⟨hcA, hbA, hzA, hcoA, hfoA⟩ := hall hSA; clear hSA; simp only [Cells] at hcA
       have yA : g < uA.heap.size := by omega
       have hfzA : ∀ o, uA.frozen? ⟨g, o, none⟩ = false := fun o => (hfoA g o hgl).trans (hfz o)
       go_wp2; go_roundw
       case rel =>
        refine ⟨i + 1, p + 2, C.set (p + 1) (s1, s2), by omega, by go_num, by go_num, hdh (n2.out hc), ?_, ?_⟩
        ·have := own_put2 (k := p + 1) (s := (s1, s2)) (hown.out.below hbA lrr) hCl (by omega)
         exact this
        ·exact ((hbr.trans (hbA.mono zr)).setCell (by simp; omega) _).setCell (by simp; omega) _
       case measure => simp [intOf]; omega
    ·obtain rfl : i = N := by omega
     have hfin : C.take nn = spansP l [] 1 y := by
      rw [← hrs.out]; have := hinv.out; rw [← hml.out] at this; exact this.done
     have hrow : ∀ cap', nn ≤ cap' → cap' ≤ maxLen → Row wr.heap.size 2 encS wr (.slice st0 nn cap') (spansP l [] 1 y) := fun cap' h1 h2 => by
      rw [← hfin]; exact row_take (xs := C) (by rw [hCl]; exact hown.row lrr) nn cap' (by omega) h1 h2
     have hz : (nn : Int) ≤ cap0 := by omega
     have hnc : nn ≤ cap0 := by omega
     replace hrow := hdh hrow
     rcases hown.2 with ⟨e, hq⟩ | ⟨g, cap', cur, e, hq⟩
     ·injection e with e1 e2 e3
      subst e1; subst e3
      have hn0 : nn = 0 := by omega
      subst hn0; clear hfin hown hinv hq e2; go_wp2; go_ret; exact ⟨hbr, _, rfl, hrow.out 0 (by omega) (by omega)⟩
     ·injection e with e1 e2 e3
      subst e1; subst e3; clear hfin hown hinv hq e2; replace hcm := hdh hcm; go_wp2; go_ret; exact ⟨hbr, _, rfl, hrow.out nn lrr (Nat.le_trans hnc hcm.out)⟩
end
section
theorem putS_end : ∀ (A : List Sp) (t : Sp) (x y : Int), putS (A ++ [t]) x y = A ++ if t.2 = x then [(t.1, y)] else [t, (x, y)]
 | [], t, x, y => rfl
 | [a], t, x, y => rfl
 | a :: b :: A, t, x, y => by
  have := putS_end (b :: A) t x y
  show a :: putS (b :: (A ++ [t])) x y = _
  rw [List.cons_append] at this; rw [this]; rfl
def keepM (sa sb : List Sp) (what x : Int) : Bool := wantB what (inSB sa x) (inSB sb x)
def mixP (sa sb : List Sp) (what : Int) : List Sp := mixGo (keepM sa sb what) [] (onceI (endsS sa ++ endsS sb))
theorem mix_step {keep : Int → Bool} {M : List Sp} {X : List Int} {i : Nat} {x y : Int} (h1 : X[i]? = some x) (h2 : X[i + 1]? = some y) : mixGo keep M (X.drop i) = mixGo keep (if keep x then putS M x y else M) (X.drop (i + 1)) := by
 rw [drop_get h1, drop_get h2]
 rfl
theorem mix_end {keep : Int → Bool} {M : List Sp} {X : List Int} {i : Nat} (h : X.length ≤ i + 1) : mixGo keep M (X.drop i) = M := by
 have : (X.drop i).length ≤ 1 := by simp; omega
 match hX : X.drop i, this with
 | [], _ => rfl
 | [a], _ => rfl
 | a :: b :: r, h => simp at h
theorem putS_set {M : List Sp} {p : Nat} {t : Sp} {x y : Int} (hM : M.length = p + 1) (ht : M[p]? = some t) (h : t.2 = x) : putS M x y = M.set p (t.1, y) := by
 have e : M = M.take p ++ [t] := by
  have := List.take_add_one (l := M) (i := p); rw [ht, List.take_of_length_le (by omega)] at this; exact this
 have hl : (M.take p).length = p := by simp; omega
 conv => lhs; rw [e]
 conv => rhs; rw [e]
 rw [putS_end, if_pos h, List.set_append_right _ _ (by omega), hl, Nat.sub_self]
 rfl
theorem putS_app {M : List Sp} {p : Nat} {t : Sp} {x y : Int} (hM : M.length = p + 1) (ht : M[p]? = some t) (h : ¬ t.2 = x) : putS M x y = M ++ [(x, y)] := by
 have e : M = M.take p ++ [t] := by
  have := List.take_add_one (l := M) (i := p); rw [ht, List.take_of_length_le (by omega)] at this; exact this
 conv => lhs; rw [e]
 conv => rhs; rw [e]
 rw [putS_end, if_neg h]
 simp
def MixPost (sa sb : List Sp) (what : Int) (w : World) (e : Ending) (w' : World) : Prop := Below w.heap.size w w' ∧ ∃ v, e = .returned v ∧ OwnsS w.heap.size w' v (mixP sa sb what)
set_option maxRecDepth 100000 in
theorem mixed_any (sa sb : List Sp) (va vb : Value) (what : Int) (fw : Nat) (w : World)
  (ha : Row w.heap.size 2 encS w va sa) (hb : Row w.heap.size 2 encS w vb sb) (ca : CanS sa) (cb : CanS sb) (ia : ∀ s ∈ sa, InM s.1 ∧ InM s.2) (ib : ∀ s ∈ sb, InM s.1 ∧ InM s.2) (la : sa.length ≤ 100000) (lb : sb.length ≤ 100000)
  (eg : ∀ args w, (callFunc fw args).run Tryz.prog w = .ok (.enter fw args) w) (hw : ∀ a b w, Calls Tryz.prog fw #[.bool a, .bool b] w fun e w' => e = .returned (.bool (wantB what a b)) ∧ Below w.heap.size w w') :
  Calls Tryz.prog 210 #[va, vb, .func (.func fw) #[] #[]] w (MixPost sa sb what w) := by
 obtain ⟨iS, hi0, hm0, hm1, hm2⟩ := info_parts infoSp; have E1 := ends2_any [] sa (.slice none 0 0) va w.heap.size w (OwnsI.nil _ _) ha lrr (by simp) la; rw [List.nil_append] at E1
 have E2 := fun w1 v1 (h : OwnsI w.heap.size w1 v1 (endsS sa)) (h2 : Below w.heap.size w w1) => ends2_any (endsS sa) sb v1 vb w.heap.size w1 h (hb.below h2) h2.size (by rw [endsS_len]; omega) lb
 obtain ⟨ns, hns⟩ := exx (endsS sa ++ endsS sb)
 have hnl : ns.length ≤ 400000 := by rw [← hns, List.length_append, endsS_len, endsS_len]; omega
 have hnin : ∀ x ∈ ns, InM x := by
  intro x hx
  rw [← hns, List.mem_append, mem_endsS, mem_endsS] at hx
  rcases hx with ⟨s, hs, rfl | rfl⟩ | ⟨s, hs, rfl | rfl⟩
  ·exact (ia s hs).1
  ·exact (ia s hs).2
  ·exact (ib s hs).1
  ·exact (ib s hs).2
 have SO := fun w1 v1 (h : OwnsI w.heap.size w1 v1 ns) (h2 : Below w.heap.size w w1) => isort_any ns v1 w1 w.heap.size h (by omega) h2.size
 have CO := fun w1 v1 (h : OwnsI w.heap.size w1 v1 (srtI ns)) (h2 : Below w.heap.size w w1) => icompact_any (srtI ns) v1 w1 w.heap.size h (by rw [srtI_len]; omega) h2.size
 have WA := fun x hx w1 (h : Below w.heap.size w w1) => swithin_any sa x va w1 ((ha.below h).mono h.size) ca (fun s hs => (ia s hs).1) hx la
 have WB := fun x hx w1 (h : Below w.heap.size w w1) => swithin_any sb x vb w1 ((hb.below h).mono h.size) cb (fun s hs => (ib s hs).1) hx lb
 obtain ⟨X, hX⟩ := exx (onceI ns)
 have hXl : X.length ≤ 400000 := by rw [← hX]; have := onceI_len ns; omega
 have hXin : ∀ x ∈ X, InM x := fun x hx => by rw [← hX] at hx; exact hnin x ((onceI_spec ns).2 x |>.1 hx)
 have hXd : Lib.compact (srtI ns) = X := hX; obtain ⟨R, hR⟩ := exx (mixP sa sb what)
 have hgo : mixGo (keepM sa sb what) [] (X.drop 0) = R := by rw [List.drop_zero, ← hX, ← hns]; exact hR
 obtain ⟨s1, c1, rfl, hmax1⟩ := ha.shape; obtain ⟨s2, c2, rfl, hmax2⟩ := hb.shape; unfold MixPost; rw [hR]; rw [hXd] at CO; rw [hns] at E2; replace E1 := hdh E1; replace E2 := hdh E2; replace SO := hdh SO; replace CO := hdh CO; replace WA := hdh WA; replace WB := hdh WB; replace hgo := hdh hgo; replace hXin := hdh hXin; replace hw := hdh hw; clear ha hb ca cb ia ib hns hX hXd hR hnin hnl
 go_enter Tryz.func210, Tryz.ntmps210
 go_wp2_with (first
  | (go_at_call 221; (with_reducible refine (E1.out).mono ?_); rintro e w1 ⟨v1, rfl, ow1, hb1⟩; replace ow1 := hdh ow1)
  | (go_at_call 221; (with_reducible refine (E2.out _ _ ow1.out hb1).mono ?_); rintro e w2 ⟨v2, rfl, ow2, hb2⟩; replace ow2 := hdh ow2; have hb02 := hb1.trans (hb2.mono lrr))
  | (go_at_call 62; (with_reducible refine (SO.out _ _ ow2.out hb02).mono ?_); rintro e w3 ⟨rfl, ow3, gr3⟩; have hb03 := hb02.grown gr3 hb02.size (fun g hg => (ow2.out.lt g hg).1); replace ow3 := hdh ow3)
  | (go_at_call 63; (with_reducible refine (CO.out _ _ ow3.out hb03).mono ?_); rintro e w4 ⟨v4, rfl, ow4, gr4⟩; have hb04 := hb03.grown gr4 hb03.size (fun g hg => (ow3.out.lt g hg).1))
  | go_in)
 clear hb1 hb2 hb02 hb03 gr3 gr4 ow1 ow2 ow3 E1 E2 SO CO; obtain ⟨s4, c4, rfl⟩ := own_slice ow4
 have hX4 := fun (wr : World) (hb : Below w4.heap.size w4 wr) h0 => row_in ((ow4.row lrr).below hb) h0
 have z04 := hb04.size; obtain ⟨L, hL⟩ := exx (X.length); rw [hL] at hX4 hXl ⊢; replace hX4 := hdh hX4; replace hL := hdh hL; clear ow4
 go_loopw [8, 9] (fun ov iv wr => ∃ (i : Nat) (M : List Sp), i ≤ L ∧ iv = .int .i64 i ∧ M.length ≤ i ∧ Hid (mixGo (keepM sa sb what) M (X.drop i) = R) ∧ OwnsS w4.heap.size wr ov M ∧ Below w4.heap.size w4 wr) (fun _ iv _ => L - (intOf iv).toNat)
 case atStart => exact ⟨0, [], Nat.zero_le _, rfl, Nat.zero_le _, hgo, OwnsS.nil _ _, Below.refl _ _⟩
 case round =>
  obtain ⟨i, M, hi, rfl, hMl, hgo, hown, hb4r⟩ := hrel; have hbr := hb04.trans (hb4r.mono z04); have zr := hbr.size; have z4r := hb4r.size
  by_cases hiL : i + 1 < L
  ·obtain ⟨b, o, cap', e, hb, _, _, hel⟩ := hX4.out w4 (Below.refl _ _) (by omega)
   simp at e
   obtain ⟨rfl, rfl⟩ := e; obtain ⟨x, hx⟩ := get_at hL.out (show i < L by omega); obtain ⟨y, hy⟩ := get_at hL.out hiL; have g0 := hel i x hx; have g1 := hel (i + 1) y hy; obtain ⟨hcr, hfr⟩ := bcell hb4r; obtain ⟨x0, x1⟩ := id (hXin.out x (List.mem_of_getElem? hx)); obtain ⟨y0, y1⟩ := id (hXin.out y (List.mem_of_getElem? hy)); have WA := WA.out x (hXin.out x (List.mem_of_getElem? hx)); have WB := WB.out x (hXin.out x (List.mem_of_getElem? hx)); have hgo := hgo.out; rw [mix_step hx hy] at hgo
   have hii : (i : Int) < L := by omega
   have hii2 : (i : Int) + 1 < L := by omega
   have yb : b < wr.heap.size := by omega
   clear hel hx hy; unfold keepM at hgo; generalize inSB sa x = ba at WA hgo; generalize inSB sb x = bb at WB hgo; have FW := hw.out ba bb; generalize wantB what ba bb = kb at FW hgo; replace WA := hdh WA; replace WB := hdh WB; replace FW := hdh FW
   cases kb
   ·rw [if_neg (by decide)] at hgo
    replace hgo := hdh hgo; replace hown := hdh hown; go_wp2; refine rst (Held wr 0 []) ?_
    repeat (first | (refine' wpSteady_do _ _ _; rotate_left; (focus rfl); (focus (intro w1 hS R hR; have hc := hS.cells; simp only [Cells] at hc; obtain ⟨hco, hfo⟩ := bcell hS.old; go_simp; (try go_bits); first | exact hR _ hS | (first
             | (go_at_call 222; (with_reducible refine cmm (WA.out _ (hbr.trans (hS.old.mono zr))) fun w2 hb2 => ?_); exact ⟨_, rfl, hR _ (hS.below hb2)⟩)
             | (go_at_call 222; (with_reducible refine cmm (WB.out _ (hbr.trans (hS.old.mono zr))) fun w2 hb2 => ?_); exact ⟨_, rfl, hR _ (hS.below hb2)⟩)
             | (go_at_fn fw; (with_reducible refine cmm (FW.out _) fun w2 hb2 => ?_); exact ⟨_, rfl, hR _ (hS.below hb2)⟩)))); simp only [pu]) | (refine spa ?_; simp only [pu]))
    refine wpSteady_nil (fun uA hSA => ?_); obtain ⟨hcA, hbA, hzA, hcoA, hfoA⟩ := hall hSA; clear hSA; simp only [Cells] at hcA; go_wp2; go_roundw
    case rel => exact ⟨i + 1, M, by omega, by go_num, by omega, hgo, hown.out.below hbA lrr, hb4r.trans (hbA.mono z4r)⟩
    case measure => simp [intOf]; omega
   ·rw [if_pos rfl] at hgo
    obtain ⟨st0, cap0, rfl⟩ := own_slice hown; obtain ⟨k, hk⟩ := exx (M.length); rw [hk] at hMl hown ⊢
    cases k with
    | zero =>
     have hM : M = [] := List.length_eq_zero_iff.1 hk; rw [show putS M x y = M ++ [(x, y)] by rw [hM]; rfl] at hgo; clear hM; replace hgo := hdh hgo; replace hown := hdh hown; replace hk := hdh hk; go_wp2; refine rst (Held wr 0 []) ?_
     repeat (first | (refine' wpSteady_do _ _ _; rotate_left; (focus rfl); (focus (intro w1 hS R hR; have hc := hS.cells; simp only [Cells] at hc; obtain ⟨hco, hfo⟩ := bcell hS.old; go_simp; (try go_bits); first | exact hR _ hS | (first
                | (go_at_call 222; (with_reducible refine cmm (WA.out _ (hbr.trans (hS.old.mono zr))) fun w2 hb2 => ?_); exact ⟨_, rfl, hR _ (hS.below hb2)⟩)
                | (go_at_call 222; (with_reducible refine cmm (WB.out _ (hbr.trans (hS.old.mono zr))) fun w2 hb2 => ?_); exact ⟨_, rfl, hR _ (hS.below hb2)⟩)
                | (go_at_fn fw; (with_reducible refine cmm (FW.out _) fun w2 hb2 => ?_); exact ⟨_, rfl, hR _ (hS.below hb2)⟩)))); simp only [pu]) | (refine spa ?_; simp only [pu]))
     refine wpSteady_nil (fun uA hSA => ?_); obtain ⟨hcA, hbA, hzA, hcoA, hfoA⟩ := hall hSA; clear hSA; simp only [Cells] at hcA
     have yA : b < uA.heap.size := by omega
     clear WA WB FW; go_wp2; refine rst (Held uA 0 []) ?_
     repeat (first | (refine' sdo ?_; simp only [pu]) | (refine spa ?_; simp only [pu]))
     refine wpSteady_nil (fun uB hSB => ?_); obtain ⟨hcB, hbB, hzB, hcoB, hfoB⟩ := hall hSB; clear hSB; simp only [Cells] at hcB; go_wp2; have hownB := (hown.out.below hbA lrr).below hbB lrr; unfold OwnsS at hownB; rw [hk.out] at hownB; have hb4B := (hb4r.trans (hbA.mono z4r)).trans (hbB.mono (by omega)); have zB := hb4B.size; refine held_begin (Held w4 0 []) (by kernel_rfl) ⟨Below.drew hb4B, by simp; omega, trivial⟩ (fun hS => ?_); replace hownB := hdh hownB
     (refine' hdo 0 hS ?_; simp only [pu])
     (refine' hdo 1 hS ?_; simp only [pu])
     (refine' hdo 2 hS ?_; simp only [pu])
     (refine' hdo 3 hS ?_; simp only [pu])
     (refine' hdo 4 hS ?_; simp only [pu])
     (refine' hdo 5 hS ?_; simp only [pu])
     (refine' hdo 6 hS ?_; simp only [pu])
     (refine' hdo 7 hS ?_; simp only [pu])
     (refine' hdo 8 hS ?_; simp only [pu])
     (refine' hdo 9 hS ?_; simp only [pu])
     (refine' hdo 10 hS ?_; simp only [pu])
     (refine honn 11 fun K hK => ?_; go_simp)
     have hS1 := hS.below ((Below.refl _ _).alloc lrr (.cells #[.int .i64 x, .int .i64 y] 244)); refine hK _ _ hS1 ?_; clear hK
     (try simp only [pu])
     (refine' held_one (i := 12) _ (by kernel_rfl) _ _; rotate_left; (focus exact geti); (focus rfl); intro K hK)
     refine wp_append_blk _ _ _ rfl w4.heap.size 244 iS _ 2 16 Tryz.underlying242 hi0 hm0 hm1 hm2 rfl (by omega) _ 1 _ _ _ _ _ _ (by rfl) (hownB.out.drew.alloc _) (Blk.new' rfl) (by rfl) (by rfl) (by simp [Value.oneCell']) (by omega) (by unfold maxLen; omega) (by simp; omega) ?_
     intro v6 w6 own6 gr6 at6 hb6
     have hS2 : Held w4 0 [] w6 := ⟨hS1.1.trans hb6, Nat.le_trans hS1.2.1 gr6.size, trivial⟩; refine hK _ _ hS2 ?_; clear hK
     (try simp only [pu])
     have hown6 := own6; rw [flatS_snoc (t := (x, y)) (cs := [.int .i64 x, .int .i64 y]) rfl] at hown6; clear own6; replace hown6 := hdh hown6
     (refine honn 13 fun K hK => ?_; go_simp)
     refine hK _ _ hS2 ?_; clear hK
     (try simp only [pu])
     refine wpAnyH_done (by kernel_rfl) ?_ _; go_wp2; go_roundw
     case rel =>
      refine ⟨i + 1, M ++ [(x, y)], by omega, by go_num, by rw [List.length_append, hk.out]; simp <;> omega, hgo, ?_, hS2.1⟩; unfold OwnsS; rw [List.length_append, hk.out]; exact hown6.out
     case measure => simp [intOf]; omega
    | succ p =>
     obtain ⟨t, ht⟩ := get_at (k := p) hk (by omega); have hown' := hown; unfold OwnsS at hown'; rw [hk] at hown'; obtain ⟨g, rfl, hgB, hgl⟩ := own_addr hown' (by omega); obtain ⟨j0, j1⟩ := own_sp hown ht; have hfz := own_unfz hown
     have hpi : (0 : Int) < (p : Int) + 1 := by omega
     have hpi2 : (p : Int) < (p : Int) + 1 := by omega
     clear hown'; replace hown := hdh hown
     by_cases htx : t.2 = x
     ·rw [putS_set hk ht htx] at hgo
      have hth := hdh ht; replace hgo := hdh hgo; have hkh := hdh hk; clear hk ht; obtain ⟨t1, t2⟩ := t; simp only at j0 j1 htx; subst htx; go_wp2; refine rst (Held wr 0 []) ?_
      repeat (first | (refine' wpSteady_do _ _ _; rotate_left; (focus rfl); (focus (intro w1 hS R hR; have hc := hS.cells; simp only [Cells] at hc; obtain ⟨hco, hfo⟩ := bcell hS.old; go_simp; (try go_bits); first | exact hR _ hS | (first
                   | (go_at_call 222; (with_reducible refine cmm (WA.out _ (hbr.trans (hS.old.mono zr))) fun w2 hb2 => ?_); exact ⟨_, rfl, hR _ (hS.below hb2)⟩)
                   | (go_at_call 222; (with_reducible refine cmm (WB.out _ (hbr.trans (hS.old.mono zr))) fun w2 hb2 => ?_); exact ⟨_, rfl, hR _ (hS.below hb2)⟩)
                   | (go_at_fn fw; (with_reducible refine cmm (FW.out _) fun w2 hb2 => ?_); exact ⟨_, rfl, hR _ (hS.below hb2)⟩)))); simp only [pu]) | (refine spa ?_; simp only [pu]))
      refine wpSteady_nil (fun uA hSA => ?_); obtain ⟨hcA, hbA, hzA, hcoA, hfoA⟩ := hall hSA; clear hSA; simp only [Cells] at hcA
      have yA : b < uA.heap.size := by omega
      have yAg : g < uA.heap.size := by omega
      clear WA WB FW; go_wp2; refine rst (Held uA 0 []) ?_
      repeat (first | (refine' sdo ?_; simp only [pu]) | (refine spa ?_; simp only [pu]))
      refine wpSteady_nil (fun uB hSB => ?_); obtain ⟨hcB, hbB, hzB, hcoB, hfoB⟩ := hall hSB; clear hSB; simp only [Cells] at hcB
      have yB : b < uB.heap.size := by omega
      have yBg : g < uB.heap.size := by omega
      have hfzB : ∀ o, uB.frozen? ⟨g, o, none⟩ = false := fun o => (hfoB g o yAg).trans ((hfoA g o hgl).trans (hfz o))
      go_wp2; go_roundw
      case rel =>
       refine ⟨i + 1, M.set p (t1, y), by omega, by go_num, by rw [List.length_set, hkh.out]; omega, hgo, ?_, ?_⟩
       ·exact own_put1 ((hown.out.below hbA lrr).below hbB lrr) hkh.out hth.out y
       ·exact ((hb4r.trans (hbA.mono z4r)).trans (hbB.mono (by omega))).setCell (by simp; omega) _
      case measure => simp [intOf]; omega
     ·rw [putS_app hk ht htx] at hgo
      replace hgo := hdh hgo; obtain ⟨t1, t2⟩ := t; simp only at j0 j1 htx
      have htx' : (t2 == x) = false := by simp [htx]
      have htx2 : decide (t2 = x) = false := by simp [htx]
      clear ht; replace hk := hdh hk; go_wp2; refine rst (Held wr 0 []) ?_
      repeat (first | (refine' wpSteady_do _ _ _; rotate_left; (focus rfl); (focus (intro w1 hS R hR; have hc := hS.cells; simp only [Cells] at hc; obtain ⟨hco, hfo⟩ := bcell hS.old; go_simp; (try go_bits); first | exact hR _ hS | (first
                   | (go_at_call 222; (with_reducible refine cmm (WA.out _ (hbr.trans (hS.old.mono zr))) fun w2 hb2 => ?_); exact ⟨_, rfl, hR _ (hS.below hb2)⟩)
                   | (go_at_call 222; (with_reducible refine cmm (WB.out _ (hbr.trans (hS.old.mono zr))) fun w2 hb2 => ?_); exact ⟨_, rfl, hR _ (hS.below hb2)⟩)
                   | (go_at_fn fw; (with_reducible refine cmm (FW.out _) fun w2 hb2 => ?_); exact ⟨_, rfl, hR _ (hS.below hb2)⟩)))); simp only [pu]) | (refine spa ?_; simp only [pu]))
      refine wpSteady_nil (fun uA hSA => ?_); obtain ⟨hcA, hbA, hzA, hcoA, hfoA⟩ := hall hSA; clear hSA; simp only [Cells] at hcA
      have yA : b < uA.heap.size := by omega
      have yAg : g < uA.heap.size := by omega
      clear WA WB FW; go_wp2; refine rst (Held uA 0 []) ?_
      repeat (first | (refine' sdo ?_; simp only [pu]) | (refine spa ?_; simp only [pu]))
      refine wpSteady_nil (fun uB hSB => ?_); obtain ⟨hcB, hbB, hzB, hcoB, hfoB⟩ := hall hSB; clear hSB; simp only [Cells] at hcB; go_wp2; have hownB := (hown.out.below hbA lrr).below hbB lrr; unfold OwnsS at hownB; rw [hk.out] at hownB; have hb4B := (hb4r.trans (hbA.mono z4r)).trans (hbB.mono (by omega)); have zB := hb4B.size; refine held_begin (Held w4 0 []) (by kernel_rfl) ⟨Below.drew hb4B, by simp; omega, trivial⟩ (fun hS => ?_); replace hownB := hdh hownB
      (refine' hdo 0 hS ?_; simp only [pu])
      (refine' hdo 1 hS ?_; simp only [pu])
      (refine' hdo 2 hS ?_; simp only [pu])
      (refine' hdo 3 hS ?_; simp only [pu])
      (refine' hdo 4 hS ?_; simp only [pu])
      (refine' hdo 5 hS ?_; simp only [pu])
      (refine' hdo 6 hS ?_; simp only [pu])
      (refine' hdo 7 hS ?_; simp only [pu])
      (refine' hdo 8 hS ?_; simp only [pu])
      (refine' hdo 9 hS ?_; simp only [pu])
      (refine' hdo 10 hS ?_; simp only [pu])
      (refine honn 11 fun K hK => ?_; go_simp)
      have hS1 := hS.below ((Below.refl _ _).alloc lrr (.cells #[.int .i64 x, .int .i64 y] 244)); refine hK _ _ hS1 ?_; clear hK
      (try simp only [pu])
      (refine' held_one (i := 12) _ (by kernel_rfl) _ _; rotate_left; (focus exact geti); (focus rfl); intro K hK)
      refine wp_append_blk _ _ _ rfl w4.heap.size 244 iS _ 2 16 Tryz.underlying242 hi0 hm0 hm1 hm2 rfl (by omega) _ 1 _ _ _ _ _ _ (by rfl) (hownB.out.drew.alloc _) (Blk.new' rfl) (by rfl) (by rfl) (by simp [Value.oneCell']) (by omega) (by unfold maxLen; omega) (by simp; omega) ?_
      intro v6 w6 own6 gr6 at6 hb6
      have hS2 : Held w4 0 [] w6 := ⟨hS1.1.trans hb6, Nat.le_trans hS1.2.1 gr6.size, trivial⟩; refine hK _ _ hS2 ?_; clear hK
      (try simp only [pu])
      have hown6 := own6; rw [flatS_snoc (t := (x, y)) (cs := [.int .i64 x, .int .i64 y]) rfl] at hown6; clear own6; replace hown6 := hdh hown6
      (refine honn 13 fun K hK => ?_; go_simp)
      refine hK _ _ hS2 ?_; clear hK
      (try simp only [pu])
      refine wpAnyH_done (by kernel_rfl) ?_ _; go_wp2; go_roundw
      case rel =>
       refine ⟨i + 1, M ++ [(x, y)], by omega, by go_num, by rw [List.length_append, hk.out]; simp <;> omega, hgo, ?_, hS2.1⟩; unfold OwnsS; rw [List.length_append, hk.out]; exact hown6.out
      case measure => simp [intOf]; omega
  ·have hgo := hgo.out
   rw [mix_end (by have := hL.out; omega)] at hgo; subst hgo; obtain ⟨st0, cap0, rfl⟩ := own_slice hown; replace hown := hdh hown
   have hii2 : ¬ (i : Int) + 1 < L := by omega
   go_wp2; go_ret; exact ⟨hbr, _, rfl, own_less hown.out z04⟩
end
section
def yOf (q : Re) : List Int := if noneR q then [] else [q.y, q.y + q.ht]
def ysL (ls : List (List Re)) : List Int := ls.flatMap fun l => l.flatMap yOf
theorem yOf_len (l : List Re) : (l.flatMap yOf).length ≤ l.length * 2 := by
 induction l with
 | nil => simp
 | cons q l ih =>
  rw [List.flatMap_cons, List.length_append, List.length_cons]
  have : (yOf q).length ≤ 2 := by unfold yOf; split <;> simp
  omega
theorem mem_yOf {l : List Re} {x : Int} : x ∈ l.flatMap yOf ↔ ∃ q ∈ l, OnY q x := by
 rw [List.mem_flatMap]
 constructor
 ·rintro ⟨q, hq, h⟩
  refine ⟨q, hq, ?_⟩; unfold yOf at h; unfold OnY
  cases hn : noneR q
  ·rw [hn] at h; simpa using h
  ·rw [hn] at h; simp at h
 ·rintro ⟨q, hq, h1, h2⟩
  refine ⟨q, hq, ?_⟩; unfold yOf; rw [h1]
  simpa using h2
theorem ys_two (a b : List Re) : onceI (ysL [a, b]) = edgesY a b := by
 obtain ⟨h1, h2⟩ := onceI_spec (ysL [a, b]); refine rise_unique h1 (edgesY_rise a b) (fun x => ?_); rw [h2, mem_edgesY]; unfold ysL; simp only [List.flatMap_cons, List.flatMap_nil, List.append_nil, List.mem_append, mem_yOf]
 constructor
 ·rintro (⟨q, hq, h⟩ | ⟨q, hq, h⟩)
  ·exact ⟨q, .inl hq, h⟩
  ·exact ⟨q, .inr hq, h⟩
 ·rintro ⟨q, hq | hq, h⟩
  ·exact .inl ⟨q, hq, h⟩
  ·exact .inr ⟨q, hq, h⟩
theorem ysL_snoc {ls : List (Value × List Re)} {k : Nat} {p : Value × List Re} (h : ls[k]? = some p) : ysL (sndL (ls.take (k + 1))) = ysL (sndL (ls.take k)) ++ p.2.flatMap yOf := by
 unfold ysL sndL; rw [List.take_add_one, h, List.map_append, List.flatMap_append]
 simp
theorem yOf_snoc {l : List Re} {j : Nat} {q : Re} (h : l[j]? = some q) : (l.take (j + 1)).flatMap yOf = (l.take j).flatMap yOf ++ yOf q := by
 rw [List.take_add_one, h, List.flatMap_append]
 simp
theorem ysL_len : ∀ (ls : List (Value × List Re)), (∀ p ∈ ls, p.2.length ≤ 100000) → (ysL (sndL ls)).length ≤ ls.length * 200000
 | [], _ => by simp [ysL, sndL]
 | p :: ls, h => by
  have ih := ysL_len ls (fun q hq => h q (by simp [hq])); have h1 := h p (by simp); have h2 := yOf_len p.2
  have e : ysL (sndL (p :: ls)) = p.2.flatMap yOf ++ ysL (sndL ls) := by simp [ysL, sndL]
  rw [e, List.length_append, List.length_cons]; omega
def RowsPost (ys : List Int) (w : World) (e : Ending) (w' : World) : Prop := Below w.heap.size w w' ∧ ∃ v, e = .returned v ∧ OwnsI w.heap.size w' v ys
set_option maxRecDepth 100000 in
theorem rows_any (ls : List (Value × List Re)) (g n : Nat) (w : World) (hn : n ≤ 2) (h : Lists w g n ls) (hm : ∀ p ∈ ls, MayL p.2 ∧ p.2.length ≤ 100000) : Calls Tryz.prog 209 #[.slice (some ⟨g, 0, none⟩) n n] w (RowsPost (onceI (ysL (sndL ls))) w) := by
 obtain ⟨iI, hi0, hm0, hm1, hm2⟩ := info_parts infoIn; obtain ⟨en, hg, hc⟩ := h; obtain ⟨ns, hns⟩ := exx (ysL (sndL ls))
 have hnl : ns.length ≤ 400000 := by rw [← hns]; have := ysL_len ls (fun p hp => (hm p hp).2); omega
 have SO := fun w1 v1 (h : OwnsI w.heap.size w1 v1 ns) (h2 : Below w.heap.size w w1) => isort_any ns v1 w1 w.heap.size h (by omega) h2.size
 have CO := fun w1 v1 (h : OwnsI w.heap.size w1 v1 (srtI ns)) (h2 : Below w.heap.size w w1) => icompact_any (srtI ns) v1 w1 w.heap.size h (by rw [srtI_len]; omega) h2.size
 rw [hns]; unfold onceI; obtain ⟨R, hR⟩ := exx (Lib.compact (srtI ns)); rw [hR] at CO ⊢
 have hlen : ∀ k, (ysL (sndL (ls.take k))).length ≤ 400000 := fun k => by
  have := ysL_len (ls.take k) (fun p hp => (hm p (List.mem_of_mem_take hp)).2)
  simp at this
  have : min k ls.length ≤ 2 := by omega
  omega
 clear hR; replace hc := hdh hc; replace en := hdh en; replace hm := hdh hm; replace hns := hdh hns; replace SO := hdh SO; replace CO := hdh CO; replace hlen := hdh hlen
 go_enter Tryz.func209, Tryz.ntmps209
 go_wp2
 go_loopw [3, 10] (fun ov iv wr => ∃ k : Nat, k ≤ n ∧ iv = .int .i64 k ∧ OwnsI w.heap.size wr ov (ysL (sndL (ls.take k))) ∧ Below w.heap.size w wr) (fun _ iv _ => n - (intOf iv).toNat)
 case atStart => exact ⟨0, Nat.zero_le _, rfl, OwnsI.nil _ _, Below.refl _ _⟩
 case round =>
  obtain ⟨k, hk, rfl, hown, hbr⟩ := hrel; have zr := hbr.size; obtain ⟨hcr, hfr⟩ := bcell hbr
  by_cases hkn : k < n
  ·obtain ⟨⟨v, l⟩, hp⟩ := get_at en.out hkn
   obtain ⟨c0, hrow, hwf⟩ := hc.out k _ hp; obtain ⟨hml, hll⟩ := hm.out _ (List.mem_of_getElem? hp); have hsn := ysL_snoc hp; have hpre := hlen.out k; simp only at c0 hrow hml hll hsn; obtain ⟨s, cap, rfl, hmax⟩ := hrow.shape
   have hopen := fun h0 => row_re hrow h0
   obtain ⟨m, em⟩ := exx (l.length); rw [em] at hopen hmax c0 hll; obtain ⟨P, hP⟩ := exx (ysL (sndL (ls.take k))); rw [hP] at hown hsn hpre; clear hp hrow hwf hP
   have yg : g < wr.heap.size := by omega
   have hkk : (k : Int) < n := by omega
   replace hopen := hdh hopen; replace em := hdh em; replace hml := hdh hml; replace hsn := hdh hsn; go_wp2; obtain ⟨W1, hW1⟩ : ∃ W1 : World, W1 = wr := ⟨_, rfl⟩; subst hW1
   go_loopw [3, 16] (fun ov iv wr => ∃ j : Nat, j ≤ m ∧ iv = .int .i64 j ∧ OwnsI w.heap.size wr ov (P ++ (l.take j).flatMap yOf) ∧ Below w.heap.size w wr) (fun _ iv _ => m - (intOf iv).toNat)
   case atStart => exact ⟨0, Nat.zero_le _, rfl, by simpa using hown, hbr⟩
   case round =>
    obtain ⟨j, hj, rfl, hown, hb2⟩ := hrel; clear hcr hfr; have z2 := hb2.size; obtain ⟨hcr, hfr⟩ := bcell hb2
    by_cases hjm : j < m
    ·obtain ⟨b, o, cap', e, hb, _, _, hel⟩ := hopen.out (by omega)
     simp at e
     obtain ⟨rfl, rfl⟩ := e; obtain ⟨q, hq⟩ := get_at em.out hjm; obtain ⟨g0, g1, g2, g3⟩ := hel j q hq; have hqm := hml.out q (List.mem_of_getElem? hq)
     have A := fun w => empty_any q w (may_wf hqm)
     rw [empty_none hqm] at A; have hsj := yOf_snoc hq
     have hjj : (j : Int) < m := by omega
     have yb : b < wr.heap.size := by omega
     have hbd := may_bd hqm
     have hln : (P ++ (l.take j).flatMap yOf).length ≤ 800000 := by
      have h1 := yOf_len (l.take j)
      have h2 : (l.take j).length ≤ j := by rw [List.length_take]; exact Nat.min_le_left _ _
      rw [List.length_append]; omega
     clear hel hq
     have hyo : yOf q = if noneR q = true then [] else [q.y, q.y + q.ht] := rfl
     rw [hyo] at hsj; clear hyo
     cases hn : noneR q
     ·rw [hn] at A hsj
      rw [if_neg (by decide)] at hsj; replace hsj := hdh hsj; replace A := hdh A; obtain ⟨D, hD⟩ := exx (P ++ (l.take j).flatMap yOf); rw [hD] at hown hln; replace hD := hdh hD; unfold OwnsI at hown; obtain ⟨st0, cap0, rfl⟩ := own_slice hown; clear hn
      go_upto_region 9 with (first
       | (go_at_call 52; (with_reducible refine cmm (A.out _) fun w5 hb5 => ?_))
       | go_in)
      have z5 := hb5.size
      simp at z5
      have hb7 : Below wr.heap.size wr w5 := belt
      have e1 : w5.cell? ⟨wr.heap.size, 1, none⟩ = some (.int .i64 q.y) := by rw [hb5.cell (p := ⟨wr.heap.size, 1, none⟩) (by simp)]; go_simp
      have e3 : w5.cell? ⟨wr.heap.size, 3, none⟩ = some (.int .i64 q.ht) := by rw [hb5.cell (p := ⟨wr.heap.size, 3, none⟩) (by simp)]; go_simp
      have h57 : wr.heap.size < w5.heap.size := by omega
      clear g0 g1 g2 g3 hcr hfr hb5
      go_wp2_with (first
       | (at_builtin; refine wpList_append_new rfl _ _ _ rfl w.heap.size 3 iI _ 1 8 Tryz.underlying52 hi0 hm0 hm1 hm2 rfl (by omega) w5 2 _ _ _ _ (by rfl) (ownsRow_below hown hb7 lrr) (by rfl) rfl (by simp [Value.oneCell']) (by omega) (by unfold maxLen; omega) (by omega) ?_; intro v6 w6 hown6 hb6)
       | go_in)
      have hb6' : Below w.heap.size w w6 := (hb2.trans (hb7.mono z2)).trans hb6; rw [flatI2 _ q.y (q.y + q.ht) rfl] at hown6; replace hown6 := hdh hown6; clear hb6; go_wp2; go_roundw
      case rel =>
       refine ⟨j + 1, by omega, by go_num, ?_, hb6'⟩; unfold OwnsI; rw [hsj.out, ← List.append_assoc, hD.out, List.length_append]; exact hown6.out
      case measure => simp [intOf]; omega
     ·rw [hn] at A hsj
      rw [if_pos rfl, List.append_nil] at hsj; replace hsj := hdh hsj; replace A := hdh A; replace hown := hdh hown; clear hn
      go_wp2_with (first
       | (go_at_call 52; (with_reducible refine cmm (A.out _) fun w5 hb5 => ?_))
       | go_in)
      have hb7 : Below wr.heap.size wr w5 := belt; go_roundw
      case rel => exact ⟨j + 1, by omega, by go_num, by rw [hsj.out]; exact hown.out.below hb7 lrr, hb2.trans (hb7.mono z2)⟩
      case measure => simp [intOf]; omega
    ·obtain rfl : j = m := by omega
     rw [List.take_of_length_le (by have := em.out; omega)] at hown; replace hown := hdh hown; go_wp2; go_roundw
     case rel => exact ⟨k + 1, by omega, by go_num, by rw [hsn.out]; exact hown.out, hb2⟩
     case measure => simp [intOf]; omega
  ·obtain rfl : k = n := by omega
   rw [List.take_of_length_le (by have := en.out; omega), hns.out] at hown; replace hown := hdh hown
   go_wp2_with (first
    | (go_at_call 62; (with_reducible refine (SO.out _ _ hown.out hbr).mono ?_); rintro e w3 ⟨rfl, ow3, gr3⟩; have hb03 := hbr.grown gr3 zr (fun g hg => (hown.out.lt g hg).1); replace ow3 := hdh ow3)
    | (go_at_call 63; (with_reducible refine (CO.out _ _ ow3.out hb03).mono ?_); rintro e w4 ⟨v4, rfl, ow4, gr4⟩; have hb04 := hb03.grown gr4 hb03.size (fun g hg => (ow3.out.lt g hg).1); replace ow4 := hdh ow4)
    | go_in)
   go_ret; exact ⟨hb04, _, rfl, ow4.out⟩
end
end
end Go.Proofs.YtfcphagmjijmkaaGreatDoor
