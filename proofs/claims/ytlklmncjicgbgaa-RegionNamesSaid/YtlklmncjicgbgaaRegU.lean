/-
  The spans of a row of the call's own, sorted: slices.SortFunc.
-/
import Derived.Test.YtlklmncjicgbgaaRegT
import Derived.Shelf.SlSortCmp.NoneTotal
import Derived.Test.YtlklmncjicgbgaaRegB
namespace Go.Proofs.Ytlklmncjicgbgaa
open Go.RowKit
set_option linter.unusedVariables false
attribute [local go_sem] vwp vUpon_value vUpon_skip vUpon_enter vUpon_row
set_option linter.unusedSimpArgs false
set_option linter.unusedVariables false
open Go.Sort Go.Shelf
theorem row1_any (s t : Sp) (w : World) (h1 : InM s.1) (h2 : InM t.1) : Calls Try.prog 70 #[.agg #[.int .i64 s.1, .int .i64 s.2], .agg #[.int .i64 t.1, .int .i64 t.2]] w fun e w' => e = .returned (.int .i64 (s.1 - t.1)) ∧ ∃ q os', w' = Go.Sort.grow (w.drewN q) os' := by
  obtain ⟨a0, a1⟩ := h1
  obtain ⟨b0, b1⟩ := h2
  obtain ⟨s1, s2⟩ := s
  obtain ⟨t1, t2⟩ := t
  simp only at a0 a1 b0 b1 ⊢
  go_enter Try.func70, Try.ntmps70
  go_wp2
  go_ret
  exact ⟨rfl, 0, _, by rw [alloc_eq_grow, alloc_eq_grow, grow_grow]; rfl⟩
theorem riseF_of : ∀ {m : List Sp}, (∀ (i j : Nat) (s t : Sp), i < j → m[i]? = some s → m[j]? = some t → s.1 ≤ t.1) → RiseF m
  | [], _ => trivial
  | s :: m, h => ⟨fun t ht => by
    obtain ⟨j, hj⟩ := List.mem_iff_getElem?.1 ht
    exact h 0 (j + 1) s t (by omega) rfl (by simpa using hj), riseF_of (fun i j s t hij hs ht => h (i + 1) (j + 1) s t (by omega) (by simpa using hs) (by simpa using ht))⟩
/-- A span that can be. -/
abbrev SpB := { s : Sp // InM s.1 }
instance : Inhabited SpB := ⟨⟨(0, 0), by unfold InM; omega⟩⟩
def encB (s : SpB) : List Value := encS s.1
def cmpB (s t : SpB) : Int := s.1.1 - t.1.1
theorem ltB (s t : SpB) : ltOf cmpB s t = decide (s.1.1 < t.1.1) := by
  unfold ltOf cmpB
  by_cases h : s.1.1 < t.1.1
  · simp [h]; omega
  · simp [h]; omega
theorem swoB : Sort.SWO (ltOf cmpB) where
  irrefl x := by rw [ltB]; simp
  trans x y z h1 h2 := by rw [ltB] at *; simp at *; omega
  ntrans x y z h1 h2 := by rw [ltB] at *; simp at *; omega
theorem lift_sp : ∀ {S : List Sp}, (∀ s ∈ S, InM s.1) → ∃ L : List SpB, L.map Subtype.val = S
  | [], _ => ⟨[], rfl⟩
  | s :: S, h => by
    obtain ⟨L, hL⟩ := lift_sp (S := S) (fun t ht => h t (by simp [ht]))
    exact ⟨⟨s, h s (by simp)⟩ :: L, by simp [hL]⟩
theorem flatB_list (L : List SpB) : L.flatMap encB = (L.map Subtype.val).flatMap encS := by
  induction L with
  | nil => rfl
  | cons s L ih => rw [List.flatMap_cons, ih, List.map_cons, List.flatMap_cons]; rfl
theorem flatK_list (d : Array SpB) : (Sort.flatK encB 2 d).toList = d.toList.flatMap encB := by
  apply List.ext_getElem?
  intro p
  rw [flat_get (enc := encB) (sz := 2) (fun y => rfl) (by omega)]
  by_cases hp : p < d.size * 2
  · have h1 : p / 2 < d.toList.length := by simp; omega
    have h2 : p / 2 < d.size := by omega
    rw [List.getElem?_eq_getElem h1]
    simp only [Option.bind_some]
    have hlen : (encB d[p / 2]).length = 2 := rfl
    rw [List.getElem?_eq_getElem (by simp [Sort.flatK]; exact hp), Array.getElem_toList, Array.getElem_toList, List.getElem?_eq_getElem (by rw [hlen]; omega)]
    have := Sort.get_flatK encB 2 d p hp
    rw [getElem!_pos (Sort.flatK encB 2 d) p (by simpa using hp), getElem!_pos d (p / 2) h2, getElem!_pos (encB d[p / 2]) (p % 2) (by rw [hlen]; omega)] at this
    rw [this]
  · have h1 : ¬ p / 2 < d.toList.length := by simp; omega
    rw [List.getElem?_eq_none (by simpa using hp), List.getElem?_eq_none (by omega)]
    rfl
theorem heap_put {w : World} {g n : Nat} {os : Array Obj} {cur : Array Value} {e : TypeId} {fr : Nat × Nat} (d : Array Value) (hb : w.heap[g]? = some (.cells cur e fr)) :
    (Sort.grow (Sort.putRow id (Sort.ahead w n) g 0 d) os).heap[g]? = some (.cells (Sort.putCells id 0 d cur) e fr) := by
  have hg : g < w.heap.size := (Array.getElem?_eq_some_iff.1 hb).1
  rw [Sort.heap_grow_old _ _ (by simpa using hg)]
  simp [Sort.putRow, Sort.mapBlock, Sort.ahead, Array.getElem?_modify, hb, Sort.onCells]
theorem grown_put {w : World} {g n : Nat} {os : Array Obj} (d : Array Value) : w.grownBy (Sort.grow (Sort.putRow id (Sort.ahead w n) g 0 d) os) (some g) := by
  refine ⟨rfl, rfl, rfl, by simp, fun k hk hne => ?_⟩
  rw [Sort.heap_grow_old _ _ (by simpa using hk)]
  have : g ≠ k := fun e => hne (by rw [e])
  simp [Sort.putRow, Sort.mapBlock, Sort.ahead, Array.getElem?_modify, this]
theorem take_put_id (cur : Array Value) (d : Array Value) (h : d.size ≤ cur.size) : (Sort.putCells id 0 d cur).toList.take d.size = d.toList := by
  apply List.ext_getElem?
  intro j
  by_cases hj : j < d.size
  · rw [List.getElem?_take_of_lt hj, Array.getElem?_toList]
    simp [Sort.putCells, hj, show j < cur.size by omega]
  · rw [List.getElem?_take_eq_none (by omega), List.getElem?_eq_none (by simp; omega)]
/-- What the sort leaves. -/
def SortPost (S : List Sp) (v : Value) (base : Nat) (w : World) (e : Ending) (w' : World) : Prop := e = .returned (.tuple #[]) ∧ w.grownBy w' v.ownBlock ∧ ∃ m : List Sp, m.Perm S ∧ RiseF m ∧ OwnsS base w' v m
theorem isortf_any (S : List Sp) (v : Value) (w : World) (base : Nat) (h : OwnsS base w v S) (hin : ∀ s ∈ S, InM s.1) (hl : S.length ≤ 1048576) (hB : base ≤ w.heap.size) :
    Calls Try.prog 69 #[v, .func (.func 70) #[] #[]] w (SortPost S v base w) := by
  obtain ⟨L, rfl⟩ := lift_sp hin
  have h' := h
  unfold OwnsS at h'
  rcases h'.2 with ⟨rfl, h0⟩ | ⟨g, cap, cur, rfl, hg, hh, hnc, hcm, hcur, htake⟩
  · have : L.map Subtype.val = [] := List.length_eq_zero_iff.1 h0
    rw [this] at h ⊢
    refine (AnyF.slices_SortFunc_none Ytlklmncjicgbgaa.sortFuncLays none 0 _ w).mono ?_
    rintro e w' ⟨rfl, rfl⟩
    exact ⟨rfl, grown_refl _ _, [], List.Perm.refl _, trivial, h⟩
  · have hgl : g < w.heap.size := Go.lt_of_block hh
    have hlen : (L.map Subtype.val).length = L.toArray.size := by simp
    have eg : ∀ args w, (callFunc 70 args).run Try.prog w = .ok (.enter 70 args) w := enters_of Try.func70 (by kernel_rfl) rfl
    have hcmp : CmpLays Try.prog 70 #[] encB 2 cmpB g 0 L.toArray.size w := fun m os dk _ x y => row1_any x.1 y.1 _ x.2 y.2
    have hH : Sort.HoldsK encB 2 w g 0 L.toArray := by
      intro j hj
      have hj' : j < (Sort.flatK encB 2 L.toArray).size := hj
      refine ⟨?_, by simp [World.frozen?, hh]⟩
      have hfl := flatK_list L.toArray
      have h1 : cur.toList[j]? = (Sort.flatK encB 2 L.toArray).toList[j]? := by
        rw [hfl, flatB_list, ← htake, List.getElem?_take_of_lt]
        simp at hj' ⊢; exact hj'
      simp only [World.cell?, hh, Nat.zero_add]
      simp only [Option.isSome_none, Bool.false_eq_true, if_false, id]
      rw [← Array.getElem?_toList, h1, List.getElem?_eq_getElem (by simpa using hj'), Array.getElem_toList, getElem!_pos _ j hj']
    have hcon := AnyQ.slices_SortFunc Ytlklmncjicgbgaa.sortFuncLays 2 Try.isAgg63 Try.sizeOf63 encB (fun _ => rfl) (fun x v hv => by simp [encB, encS] at hv; rcases hv with rfl | rfl <;> rfl) cmpB swoB 70 #[] g 0 cap L.toArray w eg hcmp hH hgl (by rw [← hlen]; omega)
    rw [hlen]
    refine hcon.mono ?_
    rintro e w' ⟨rfl, d', n, os, hp, hs, rfl⟩
    obtain ⟨p1, _, p3⟩ := hp
    have hd : d'.size = (L.map Subtype.val).length := by rw [p1]; simp
    refine ⟨rfl, grown_put _, d'.toList.map Subtype.val, ?_, riseF_of ?_, ?_⟩
    · have e1 : (d'.extract 0 L.toArray.size).toList = d'.toList := by rw [← p1]; simp
      have e2 : (L.toArray.extract 0 L.toArray.size).toList = L := by simp
      rw [e1, e2] at p3
      exact p3.map _
    · intro i j s t hij hs' ht
      rw [List.getElem?_map] at hs' ht
      cases hi : d'.toList[i]? with
      | none => rw [hi] at hs'; cases hs'
      | some a =>
        cases hj : d'.toList[j]? with
        | none => rw [hj] at ht; cases ht
        | some b =>
          rw [hi] at hs'
          rw [hj] at ht
          simp at hs' ht
          subst hs'
          subst ht
          rw [Array.getElem?_toList] at hi hj
          obtain ⟨i1, i2⟩ := Array.getElem?_eq_some_iff.1 hi
          obtain ⟨j1, j2⟩ := Array.getElem?_eq_some_iff.1 hj
          have := hs i j (Nat.zero_le _) hij (by rw [← p1]; exact j1)
          rw [getElem!_pos d' j j1, getElem!_pos d' i i1, i2, j2, ltB] at this
          simp at this
          exact this
    · have hlen2 : (d'.toList.map Subtype.val).length = L.toArray.size := by rw [← p1]; simp
      unfold OwnsS
      rw [hlen2]
      have hfl := flatK_list d'
      refine ⟨by rw [flat_len encS_len, hlen2], .inr ⟨g, cap, _, rfl, hg, heap_put _ hh, by rw [← hlen]; exact hnc, hcm, by simp [Sort.putCells, hcur], ?_⟩⟩
      rw [← flatB_list, ← hfl]
      have hsz : (Sort.flatK encB 2 d').size = L.toArray.size * 2 := by rw [Sort.size_flatK, p1]
      rw [← hsz]
      exact take_put_id cur _ (by rw [hsz, hcur, ← hlen]; omega)
end Go.Proofs.Ytlklmncjicgbgaa
