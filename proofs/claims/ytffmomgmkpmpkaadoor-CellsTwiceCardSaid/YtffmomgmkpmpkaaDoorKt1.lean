/-
  Rows of elements of any size in memory: read, kept, opened out of what comes in.
-/
import Derived.Below
import Derived.ChangeSame
import Derived.Deep.DeepCutAuto
import Derived.Deep.Fields
import Derived.Deep.RegionHeld3
import Derived.Deep.Slices
import Derived.KernelRfl
import Derived.Laws.AppendOwnNone
import Derived.Laws.BitsLemmas
import Derived.Laws.CopyRow
import Derived.Laws.EntriesVeiled
import Derived.Laws.Externs
import Derived.Laws.MakeOwn
import Derived.Laws.OwnMore
import Derived.Laws.StructEq
import Derived.Lib.Bytealg
import Derived.Lib.DecodeNEq
import Derived.Lib.Hide
import Derived.Lib.IndexBytes
import Derived.Lib.MinMax
import Derived.Lib.OthersKept
import Derived.Lib.SlicesCompact
import Derived.Lib.SmallJoins
import Derived.LoopIn
import Derived.LoopNIn
import Derived.Maps.AppendAt
import Derived.OneCell
import Derived.OrdersHeld
import Derived.OwnWalk
import Derived.OwnWalkIn
import Derived.RangeFuncBound
import Derived.RangeFuncCalls
import Derived.RangeFuncLeaves
import Derived.RangeFuncNested
import Derived.ScopeJumps
import Derived.Shelf.RegionOpen
import Derived.Shelf.Spec.SlicesGrow
import Derived.StillTail
import Derived.Tactics2
import Derived.TacticsInMore
import Derived.WalkKit
import Derived.WalkLawsBesides
import Derived.WalkSpells
import Derived.Test.YtffmomgmkpmpkaaDoorKb18
import Derived.Test.YtffmomgmkpmpkaaDoorProg
namespace Go.Proofs.YtffmomgmkpmpkaaDoor
open Go Go.RowKit Go.ChangeShapes Go.WideShapes Go.Deep Go.Joins
set_option linter.unusedVariables false
set_option linter.unusedSimpArgs false
section
variable {H : Type} {enc : TypeId × Value → H} {P : Program} {w : World} {base : Nat} {spare : Nat → Bool} {held : Bool}
/-- A slice that came in, whatever its elements are: 'dec' says how the cells of one read. -/
theorem open_row {α : Type} [Inhabited α] {Ok : α → Prop} {sz : Nat} {encA : α → List Value} {r : Reach} {b0 : Nat} {t e : TypeId} {v : Value} {d : DataW H} {p : List MemPlace} (ht : P.underlying t = some (.slice e)) (hC : P.cellsOf e = sz) (hsz : 0 < sz)
  (dec : ∀ (n : Nat) (cs : List Value) (y : DataW H × List MemPlace), cs.length = sz → DataW.trod enc P w base spare held n e cs = some y → ∃ x, Ok x ∧ cs = encA x)
  (hv : Value.okWide P w r b0 t v) (h : DataW.Trod enc P w base spare held t v d p) :
  ∃ xs : List α, Row w.heap.size sz encA w v xs ∧ ∀ x ∈ xs, Ok x := by
 obtain ⟨a, len, cap, rfl⟩ := okWide_slice ht hv
 obtain ⟨fuel, hf⟩ := h
 rcases open_slice ht (by simpa [Value.cells] using hf) with ⟨h0, _⟩ | ⟨a', len', cap', m, n, D, Pl, hcs, hb, hl, hm, hmm, hx, hi⟩
 ·simp at h0
  obtain ⟨rfl, rfl, rfl⟩ := h0
  exact ⟨[], ⟨none, 0, rfl, by simp, by unfold maxLen; omega, fun h => by simp at h⟩, by simp⟩
 ·simp at hcs
  obtain ⟨rfl, rfl, rfl⟩ := hcs
  have hlm : len ≤ m := by rw [hmm]; split <;> omega
  have each : ∀ i, i < len → ∃ x : α, Ok x ∧ ∀ k u, (encA x)[k]? = some u → w.cell? ((a'.add (i * sz)).add k) = some u := by
   intro i hil
   obtain ⟨cs', hc, ht'⟩ := hi i (by omega)
   rw [hC] at hc
   obtain ⟨_, hcl, hat⟩ := World.cells?_some hc
   obtain ⟨x, hok, rfl⟩ := dec _ _ _ hcl ht'
   refine ⟨x, hok, fun k u hk => ?_⟩
   have hkl : k < sz := by rw [← hcl]; exact (List.getElem?_eq_some_iff.1 hk).1
   rw [hat k hkl, hk]
  obtain ⟨V, hV⟩ := choose_lt (α := α) (p := fun i x => Ok x ∧ ∀ k u, (encA x)[k]? = some u → w.cell? ((a'.add (i * sz)).add k) = some u) each
  refine ⟨(List.range len).map V, ⟨some a', cap, by simp, by simpa using hl, hm, fun h0 => ?_⟩, fun x hx => ?_⟩
  ·simp only [List.length_map, List.length_range] at h0
   obtain ⟨cs', hc, ht'⟩ := hi 0 (by omega)
   rw [hC] at hc
   obtain ⟨_, hcl, hat⟩ := World.cells?_some hc
   have h1 := hat 0 hsz
   rw [Nat.zero_mul] at h1
   obtain ⟨b, o, x⟩ := a'
   cases x with
   | some x =>
    exfalso
    have e0 : ((⟨b, o, some x⟩ : Addr).add 0).add 0 = ⟨b, o, some x⟩ := rfl
    rw [e0] at h1
    have : cs'[0]? = some (cs'[0]'(by omega)) := List.getElem?_eq_getElem (by omega)
    rw [this] at h1
    simp only [World.cell?] at h1
    split at h1 <;> simp at h1
   | none =>
    refine ⟨b, o, rfl, ?_, fun j x hj i u hi' => ?_⟩
    ·have : cs'[0]? = some (cs'[0]'(by omega)) := List.getElem?_eq_getElem (by omega)
     rw [this] at h1
     exact World.block_lt_of_cell? _ _ h1
    ·obtain ⟨hj', e⟩ := List.getElem?_eq_some_iff.1 hj
     simp at hj' e
     subst e
     have := (hV j hj').2 i u hi'
     rw [add_lit, add_lit] at this
     exact this
  ·obtain ⟨j, hj, rfl⟩ := List.mem_map.1 hx
   exact (hV j (List.mem_range.1 hj)).1
end
end Go.Proofs.YtffmomgmkpmpkaaDoor

namespace Go.Proofs.YtffmomgmkpmpkaaDoor
open Go.RowKit
set_option linter.unusedVariables false
attribute [local go_sem] vwp vUpon_value vUpon_skip vUpon_enter vUpon_row
set_option linter.unusedSimpArgs false
set_option linter.unusedVariables false
section
set_option linter.unusedSimpArgs false
instance : Inhabited Re := ⟨⟨0, 0, 0, 0⟩⟩
end
section
set_option linter.unusedSimpArgs false
set_option linter.unusedVariables false
instance : Inhabited St := ⟨⟨0, default, ⟨0, 0, 0, 0⟩, ⟨0, 0, 0, 0⟩, default, 0⟩⟩
section
variable {H : Type} {enc : TypeId × Value → H} {w : World} {base : Nat} {spare : Nat → Bool} {held : Bool}
theorem point_of {fuel : Nat} {c0 c1 : Value} {x : DataW H × List MemPlace} (h : DataW.trod enc Tryd.prog w base spare held fuel 51 [c0, c1] = some x) : ∃ a b : Int, I64 a ∧ I64 b ∧ c0 = .int .i64 a ∧ c1 = .int .i64 b := by
  obtain ⟨m0, y0, h0⟩ := field_of Tryd.underlying51 h 0 0 1 3 _ rfl rfl rfl (by kernel_rfl)
  obtain ⟨m1, y1, h1⟩ := field_of Tryd.underlying51 h 1 1 1 3 _ rfl rfl rfl (by kernel_rfl)
  simp only [List.drop_zero, List.drop_succ_cons, List.take_succ_cons, List.take_zero] at h0 h1
  obtain ⟨n0, e0, z0, wf0⟩ := DataW.trod_int Tryd.underlying3 h0; simp at e0; subst e0
  obtain ⟨n1, e1, z1, wf1⟩ := DataW.trod_int Tryd.underlying3 h1; simp at e1; subst e1
  exact ⟨n0, n1, i64_of wf0, i64_of wf1, rfl, rfl⟩
theorem rect_of {fuel : Nat} {c0 c1 c2 c3 : Value} {x : DataW H × List MemPlace} (h : DataW.trod enc Tryd.prog w base spare held fuel 53 [c0, c1, c2, c3] = some x) : ∃ q : Re, q.Wf ∧ [c0, c1, c2, c3] = q.enc := by
  obtain ⟨m0, y0, h0⟩ := field_of Tryd.underlying53 h 0 0 2 51 _ rfl rfl rfl (by kernel_rfl)
  obtain ⟨m1, y1, h1⟩ := field_of Tryd.underlying53 h 1 2 2 23 _ rfl rfl rfl (by kernel_rfl)
  simp only [List.drop_zero, List.drop_succ_cons, List.take_succ_cons, List.take_zero] at h0 h1
  obtain ⟨a, b, wa, wb, rfl, rfl⟩ := point_of h0
  obtain ⟨c, d, wc, wd, rfl, rfl⟩ := size_of h1
  exact ⟨⟨a, b, c, d⟩, ⟨wa, wb, wc, wd⟩, rfl⟩
theorem list15 {cs : List Value} (h : cs.length = 15) : ∃ a b c d e f g i j k l m n o p, cs = [a, b, c, d, e, f, g, i, j, k, l, m, n, o, p] := by
  match cs, h with
  | [a, b, c, d, e, f, g, i, j, k, l, m, n, o, p], _ => exact ⟨a, b, c, d, e, f, g, i, j, k, l, m, n, o, p, rfl⟩
theorem stroke_of {fuel : Nat} {cs : List Value} {x : DataW H × List MemPlace} (hl : cs.length = 15) (h : DataW.trod enc Tryd.prog w base spare held fuel 56 cs = some x) : ∃ s : St, s.Wf ∧ cs = s.enc := by
  obtain ⟨a, b, c, d, e, f, g, i, j, k, l, m, n, o, p, rfl⟩ := list15 hl
  obtain ⟨m0, y0, h0⟩ := field_of Tryd.underlying56 h 0 0 1 5 _ rfl rfl rfl (by kernel_rfl)
  obtain ⟨m1, y1, h1⟩ := field_of Tryd.underlying56 h 1 1 4 53 _ rfl rfl rfl (by kernel_rfl)
  obtain ⟨m2, y2, h2⟩ := field_of Tryd.underlying56 h 2 5 4 48 _ rfl rfl rfl (by kernel_rfl)
  obtain ⟨m3, y3, h3⟩ := field_of Tryd.underlying56 h 3 9 4 48 _ rfl rfl rfl (by kernel_rfl)
  obtain ⟨m4, y4, h4⟩ := field_of Tryd.underlying56 h 4 13 1 9 _ rfl rfl rfl (by kernel_rfl)
  obtain ⟨m5, y5, h5⟩ := field_of Tryd.underlying56 h 5 14 1 3 _ rfl rfl rfl (by kernel_rfl)
  simp only [List.drop_zero, List.drop_succ_cons, List.take_succ_cons, List.take_zero] at h0 h1 h2 h3 h4 h5
  obtain ⟨n0, e0, z0, wf0⟩ := DataW.trod_int Tryd.underlying5 h0; simp at e0; subst e0
  obtain ⟨q, wq, eq⟩ := rect_of h1
  obtain ⟨c1, w1, e1⟩ := colour_of h2
  obtain ⟨c2, w2, e2⟩ := colour_of h3
  obtain ⟨t, e4, z4, wt⟩ := DataW.trod_string Tryd.underlying9 h4; simp at e4; subst e4
  obtain ⟨n5, e5, z5, wf5⟩ := DataW.trod_int Tryd.underlying3 h5; simp at e5; subst e5
  refine ⟨⟨n0, q, c1, c2, t, n5⟩, ⟨u8_of wf0, wq, w1, w2, wt, i64_of wf5⟩, ?_⟩
  unfold St.enc
  rw [← eq, ← e1, ← e2]
  rfl
set_option maxRecDepth 100000 in
theorem open_strokes {r : Reach} {b0 : Nat} {v : Value} {d : DataW H} {p : List MemPlace} (hv : Value.okWide Tryd.prog w r b0 42 v) (h : DataW.Trod enc Tryd.prog w base spare held 42 v d p) :
    ∃ xs : List St, Row w.heap.size 15 St.enc w v xs ∧ ∀ x ∈ xs, x.Wf :=
  open_row Tryd.underlying42 (by kernel_rfl) (by omega) (fun n cs y hl ht => stroke_of hl ht) hv h
end
end
end Go.Proofs.YtffmomgmkpmpkaaDoor

namespace Go.Proofs.YtffmomgmkpmpkaaDoor
open Go.RowKit
set_option linter.unusedVariables false
attribute [local go_sem] vwp vUpon_value vUpon_skip vUpon_enter vUpon_row
set_option linter.unusedSimpArgs false
set_option linter.unusedVariables false
instance : Inhabited Gl := ⟨⟨0, false, false⟩⟩
end Go.Proofs.YtffmomgmkpmpkaaDoor

namespace Go.Proofs.YtffmomgmkpmpkaaDoor
open Go.RowKit
set_option linter.unusedVariables false
attribute [local go_sem] vwp vUpon_value vUpon_skip vUpon_enter vUpon_row
set_option linter.unusedSimpArgs false
set_option linter.unusedVariables false
/-! ### one rune, plain -/
instance (b : Nat) : Decidable (contN b) := by unfold contN; exact inferInstance
/-! ### one rune, walked -/
end Go.Proofs.YtffmomgmkpmpkaaDoor

namespace Go.Proofs.YtffmomgmkpmpkaaDoor
open Go.RowKit
set_option linter.unusedVariables false
attribute [local go_sem] vwp vUpon_value vUpon_skip vUpon_enter vUpon_row
set_option linter.unusedSimpArgs false
set_option linter.unusedVariables false
instance : Inhabited Ce := ⟨⟨0, ⟨0, 0, 0, 0⟩, ⟨0, 0, 0, 0⟩, false, false⟩⟩
/-! ### rows of cells -/
end Go.Proofs.YtffmomgmkpmpkaaDoor

namespace Go.Proofs.YtffmomgmkpmpkaaDoor
open Go.RowKit
set_option linter.unusedVariables false
attribute [local go_sem] vwp vUpon_value vUpon_skip vUpon_enter vUpon_row
set_option linter.unusedSimpArgs false
set_option linter.unusedVariables false
/-! ### plain -/
theorem drwGo_len (W : Nat) (gf : ByteArray → List (List Gl)) : ∀ (cs : List Ce) (ss : List St) (rs : List Re), (drwGo W gf cs ss rs).length = cs.length
  | cs, s :: ss, r :: rs => by rw [drwGo, drwGo_len W gf _ ss rs, strokeD_len]
  | cs, [], _ => by rw [drwGo]; simp
  | cs, _ :: _, [] => by rw [drwGo]; simp
/-! ### a whole cell of an own row -/
end Go.Proofs.YtffmomgmkpmpkaaDoor

namespace Go.Proofs.YtffmomgmkpmpkaaDoor
open Go.RowKit
set_option linter.unusedVariables false
attribute [local go_sem] vwp vUpon_value vUpon_skip vUpon_enter vUpon_row
set_option linter.unusedSimpArgs false
set_option linter.unusedVariables false
section
set_option linter.unusedSimpArgs false
set_option linter.unusedVariables false
def joinE (xs ys : List St) : Int := if chkL xs ≠ 0 then chkL xs else if chkL ys ≠ 0 then chkL ys else if xs.length + ys.length > 16384 then 4 else 0
def joinL (xs ys : List St) : List St := if joinE xs ys = 0 then xs ++ ys else []
/-- What a call tells that hands out a list and an error. -/
def OutU (base : Nat) (l : List St) (er : Int) (w : World) (e : Ending) (w' : World) : Prop := Below base w w' ∧ ∃ v, e = .returned (.tuple #[v, .int .i64 er]) ∧ Owns base w' v l
theorem join_a {xs ys : List St} (c1 : chkL xs ≠ 0) : joinE xs ys = chkL xs ∧ joinL xs ys = [] := by
  have e1 : joinE xs ys = chkL xs := by unfold joinE; rw [if_pos c1]
  exact ⟨e1, by unfold joinL; rw [if_neg (by rw [e1]; exact c1)]⟩
theorem join_b {xs ys : List St} (c1 : chkL xs = 0) (c2 : chkL ys ≠ 0) : joinE xs ys = chkL ys ∧ joinL xs ys = [] := by
  have e1 : joinE xs ys = chkL ys := by unfold joinE; rw [if_neg (by simp [c1]), if_pos c2]
  exact ⟨e1, by unfold joinL; rw [if_neg (by rw [e1]; exact c2)]⟩
theorem join_c {xs ys : List St} (c1 : chkL xs = 0) (c2 : chkL ys = 0) (c3 : xs.length + ys.length > 16384) : joinE xs ys = 4 ∧ joinL xs ys = [] := by
  have e1 : joinE xs ys = 4 := by unfold joinE; rw [if_neg (by simp [c1]), if_neg (by simp [c2]), if_pos c3]
  exact ⟨e1, by unfold joinL; rw [if_neg (by rw [e1]; decide)]⟩
theorem join_d {xs ys : List St} (c1 : chkL xs = 0) (c2 : chkL ys = 0) (c3 : ¬ xs.length + ys.length > 16384) : joinE xs ys = 0 ∧ joinL xs ys = xs ++ ys := by
  have e1 : joinE xs ys = 0 := by unfold joinE; rw [if_neg (by simp [c1]), if_neg (by simp [c2]), if_neg c3]
  exact ⟨e1, by unfold joinL; rw [if_pos e1]⟩
end
end Go.Proofs.YtffmomgmkpmpkaaDoor

namespace Go.Proofs.YtffmomgmkpmpkaaDoor
open Go.RowKit
set_option linter.unusedVariables false
attribute [local go_sem] vwp vUpon_value vUpon_skip vUpon_enter vUpon_row
set_option linter.unusedSimpArgs false
set_option linter.unusedVariables false
/-! ### what is drawn may be -/
/-- What lies of a text in a place may be a cell's. -/
def mayG (g : Gl) : Bool := validR g.rune && (if widR g.rune = 1 then !g.wide && !g.tail else if widR g.rune = 2 then g.wide != g.tail else false)
theorem glyR_may {r : Int} (hv : validR r = true) : ∀ g ∈ glyR r (widR r), mayG g = true := by
  intro g hg
  unfold glyR at hg
  split at hg
  · rename_i h
    simp only [List.mem_singleton] at hg
    subst hg
    simp [mayG, hv, h]
  · split at hg
    · rename_i h1 h
      simp only [List.mem_cons, List.not_mem_nil, or_false] at hg
      rcases hg with rfl | rfl <;> simp [mayG, hv, h]
    · cases hg
theorem runesF_valid (s : ByteArray) : ∀ (n p : Nat), ∀ r ∈ runesF n s p, validR r = true
  | 0, p, r, h => by cases h
  | n + 1, p, r, h => by
    rw [runesF] at h
    split at h
    · rcases List.mem_cons.1 h with rfl | h
      · exact dec_valid s p
      · exact runesF_valid s n _ r h
    · cases h
theorem lineG_may (l : ByteArray) : ∀ g ∈ lineG l, mayG g = true := by
  intro g hg
  unfold lineG rowG at hg
  obtain ⟨r, hr, hg⟩ := List.mem_flatMap.1 hg
  exact glyR_may (runesF_valid l _ _ r hr) g hg
theorem glyAt_may {s : ByteArray} {X Y : Nat} {g : Gl} (h : glyAt (glyS s) X Y = some g) : mayG g = true := by
  unfold glyAt at h
  cases hr : (glyS s)[Y]? with
  | none => rw [hr] at h; cases h
  | some row =>
    rw [hr] at h
    have h2 : row[X]? = some g := h
    have hm := List.mem_of_getElem? hr
    unfold glyS at hm
    obtain ⟨l, _, rfl⟩ := List.mem_map.1 hm
    exact lineG_may l g (List.mem_of_getElem? h2)
theorem frm_may (l r a b w h : Bool) : frmV l r a b w h = 0 ∨ mayG ⟨frmV l r a b w h, false, false⟩ = true := by
  cases l <;> cases r <;> cases a <;> cases b <;> cases w <;> cases h <;> first | (left; decide) | (right; kernel_rfl)
theorem mayC_of {g : Gl} (h : mayG g = true) (c b : Co) : mayC ⟨g.rune, c, b, g.wide, g.tail⟩ = true := h
theorem may_blank : mayG ⟨32, false, false⟩ = true := by kernel_rfl
theorem madeC_may {c : Ce} (hc : mayC c = true) (s : St) (x y : Int) : mayC (madeC c s (glyS s.text) x y) = true := by
  unfold madeC
  split
  · split
    · exact hc
    · rename_i k hk
      exact mayC_of (glyAt_may hk) _ _
  · split
    · exact hc
    · split
      · unfold fillC
        split
        · exact mayC_of may_blank _ _
        · exact hc
      · split
        · exact hc
        · rename_i h0
          unfold frmP at h0 ⊢
          exact mayC_of ((frm_may _ _ _ _ _ _).resolve_left h0) _ _
theorem strokeD_may {W : Nat} {s : St} {q : Re} {cs : List Ce} (h : cs.all mayC = true) : (strokeD W s (glyS s.text) q cs).all mayC = true := by
  rw [List.all_eq_true] at h ⊢
  intro c hc
  obtain ⟨k, hk⟩ := List.getElem?_of_mem hc
  unfold strokeD at hk
  rw [updP_get] at hk
  cases hd : cs[k]? with
  | none => rw [hd] at hk; cases hk
  | some d =>
    rw [hd] at hk
    have hd2 := h d (List.mem_of_getElem? hd)
    simp only [Option.map_some, Option.some.injEq] at hk
    rw [← hk]
    split
    · exact madeC_may hd2 s _ _
    · exact hd2
theorem drwGo_nil (W : Nat) (gf : ByteArray → List (List Gl)) (cs : List Ce) (rs : List Re) : drwGo W gf cs [] rs = cs := by rw [drwGo]; simp
theorem drwGo_nil2 (W : Nat) (gf : ByteArray → List (List Gl)) (cs : List Ce) (ss : List St) : drwGo W gf cs ss [] = cs := by rw [drwGo]; simp
theorem drwGo_may (W : Nat) : ∀ (ss : List St) (rs : List Re) (cs : List Ce), cs.all mayC = true → (drwGo W glyS cs ss rs).all mayC = true
  | [], rs, cs, h => by rw [drwGo_nil]; exact h
  | s :: ss, [], cs, h => by rw [drwGo_nil2]; exact h
  | s :: ss, r :: rs, cs, h => by
    rw [drwGo]
    exact drwGo_may W ss rs _ (strokeD_may h)
theorem drwGo_wf (W : Nat) (gf : ByteArray → List (List Gl)) : ∀ (ss : List St) (rs : List Re) (cs : List Ce), (∀ s ∈ ss, s.Wf) → CeL cs → CeL (drwGo W gf cs ss rs)
  | [], rs, cs, _, h => by rw [drwGo_nil]; exact h
  | s :: ss, [], cs, _, h => by rw [drwGo_nil2]; exact h
  | s :: ss, r :: rs, cs, hs, h => by
    rw [drwGo]
    exact drwGo_wf W gf ss rs _ (fun t ht => hs t (List.mem_cons_of_mem _ ht)) (strokeD_wf (hs s List.mem_cons_self) h)
theorem drwGo_app (W : Nat) (gf : ByteArray → List (List Gl)) : ∀ (ss : List St) (rs : List Re) (ss' : List St) (rs' : List Re) (cs : List Ce), rs.length = ss.length → drwGo W gf cs (ss ++ ss') (rs ++ rs') = drwGo W gf (drwGo W gf cs ss rs) ss' rs'
  | [], [], ss', rs', cs, _ => by
    have e : drwGo W gf cs [] [] = cs := by rw [drwGo]; simp
    rw [e]; rfl
  | [], r :: rs, _, _, _, h => by cases h
  | s :: ss, [], _, _, _, h => by cases h
  | s :: ss, r :: rs, ss', rs', cs, h => by
    rw [List.cons_append, List.cons_append, drwGo, drwGo]
    exact drwGo_app W gf ss rs ss' rs' _ (by simpa using h)
/-! ### clips close -/
theorem shGo_app : ∀ (a b : List St) (M : List Re), shGo M (a ++ b) = shGo M a ++ shGo (a.foldl shN M) b
  | [], b, M => rfl
  | s :: a, b, M => by
    rw [List.cons_append, shGo, shGo, shGo_app a b]
    rfl
theorem chk_iff2 {o : Int} {s : St} {xs : List St} : chkGo o (s :: xs) = 0 ↔ errS s = 0 ∧ ¬ opn o s < 0 ∧ chkGo (opn o s) xs = 0 := by
  rw [chkGo]
  by_cases h : errS s = 0
  · rw [if_neg (by simpa using h)]
    by_cases ho : opn o s < 0
    · rw [if_pos ho]; simp [ho]
    · rw [if_neg ho]; simp [h, ho]
  · rw [if_pos (by simpa using h)]; simp [h]
theorem shN_opn {M : List Re} {s : St} (h : ¬ opn M.length s < 0) : ((shN M s).length : Int) = opn M.length s := by
  unfold opn at h ⊢
  unfold shN
  split
  · rename_i h4
    rw [List.length_append]; rfl
  · rename_i h4
    rw [if_neg h4] at h
    split
    · rename_i h5
      rw [if_pos h5] at h
      rw [List.length_dropLast]
      omega
    · rfl
theorem shN_closed : ∀ (a : List St) (M : List Re), chkGo M.length a = 0 → a.foldl shN M = []
  | [], M, h => by
    unfold chkGo at h
    split at h
    · cases h
    · show M = []
      exact List.length_eq_zero_iff.1 (by omega)
  | s :: a, M, h => by
    obtain ⟨_, h2, h3⟩ := chk_iff2.1 h
    rw [← shN_opn h2] at h3
    exact shN_closed a _ h3
theorem chk_app2 : ∀ (a b : List St) (o : Int), 0 ≤ o → chkGo o a = 0 → chkGo o (a ++ b) = chkGo 0 b
  | [], b, o, h0, h => by
    unfold chkGo at h
    split at h
    · cases h
    · rw [show o = 0 by omega]; rfl
  | s :: a, b, o, h0, h => by
    obtain ⟨h1, h2, h3⟩ := chk_iff2.1 h
    rw [List.cons_append, chkGo, if_neg (by simp [h1]), if_neg h2]
    exact chk_app2 a b _ (by omega) h3
theorem chk_go2 {xs : List St} (h : chkL xs = 0) : chkGo 0 xs = 0 := by
  unfold chkL at h
  split at h
  · omega
  · exact h
/-- Two lists that may be, joined, are flat one behind the other. -/
theorem flat_app {a b : List St} (ha : chkL a = 0) (hb : chkL b = 0) (hl : a.length + b.length ≤ 16384) :
    chkL (a ++ b) = 0 ∧ flS (a ++ b) = flS a ++ flS b ∧ flR (a ++ b) = flR a ++ flR b := by
  have hc : chkL (a ++ b) = 0 := by
    unfold chkL
    rw [if_neg (by rw [List.length_append]; omega), chk_app2 a b 0 (Int.le_refl _) (chk_go2 ha)]
    exact chk_go2 hb
  have e1 : shL (a ++ b) = shL a ++ shL b := by
    unfold shL
    rw [shGo_app, shN_closed a [] (chk_go2 ha)]
  refine ⟨hc, ?_, ?_⟩
  · unfold flS fltS
    rw [if_pos hc, if_pos ha, if_pos hb, List.filter_append]
  · unfold flR fltR
    rw [if_pos hc, if_pos ha, if_pos hb, e1, List.zip_append (shL_len a).symm, List.filter_append, List.map_append]
/-- What is drawn of two lists, one behind the other. -/
theorem draw_twice {wd ht : Int} {cs : List Ce} {l m : List St} (h : drawE wd ht cs l = 0) (hl : l.length + m.length ≤ 16384) :
  drawE wd ht (drawC glyS wd ht cs l) m = joinE l m ∧ (joinE l m = 0 → drawE wd ht cs (joinL l m) = 0 ∧ drawC glyS wd ht cs (joinL l m) = drawC glyS wd ht (drawC glyS wd ht cs l) m) := by
 have h0 := h
 unfold drawE at h
 split at h
 ·rename_i hk
  obtain ⟨hfit, hlen, hall⟩ := chkS_zero hk
  have eA : drawC glyS wd ht cs l = drwGo wd.toNat glyS cs (flS l) (flR l) := if_pos h0
  have hkA : chkS wd ht (drawC glyS wd ht cs l) = 0 := by
   rw [eA]
   unfold chkS
   rw [hfit, drwGo_len, hlen, drwGo_may _ _ _ _ hall]
   simp
  have e1 : drawE wd ht (drawC glyS wd ht cs l) m = chkL m := by unfold drawE; rw [if_pos hkA]
  have e2 : joinE l m = chkL m := by
   unfold joinE
   rw [if_neg (by simp [h])]
   split
   ·rfl
   ·rename_i hm
    rw [if_neg (by omega)]
    have : chkL m = 0 := by simpa using hm
    exact this.symm
  refine ⟨by rw [e1, e2], fun hj => ?_⟩
  have hm : chkL m = 0 := by rw [← e2]; exact hj
  obtain ⟨c1, c2, c3⟩ := flat_app h hm hl
  have eJ : joinL l m = l ++ m := if_pos hj
  have eE : drawE wd ht cs (l ++ m) = 0 := by unfold drawE; rw [if_pos hk, c1]
  rw [eJ]
  refine ⟨eE, ?_⟩
  have e3 : drawC glyS wd ht cs (l ++ m) = drwGo wd.toNat glyS cs (flS (l ++ m)) (flR (l ++ m)) := if_pos eE
  have e4 : drawC glyS wd ht (drawC glyS wd ht cs l) m = drwGo wd.toNat glyS (drawC glyS wd ht cs l) (flS m) (flR m) := if_pos (by rw [e1, hm])
  rw [e3, e4, eA, c2, c3, drwGo_app _ _ _ _ _ _ _ flsr_len]
 ·cases h
theorem drawC_wf {wd ht : Int} {cs : List Ce} {l : List St} (hc : CeL cs) (hw : ∀ s ∈ l, s.Wf) : CeL (drawC glyS wd ht cs l) := by
  unfold drawC
  split
  · refine drwGo_wf _ _ _ _ _ (fun s hs => ?_) hc
    unfold flS at hs
    split at hs
    · exact hw s (List.mem_filter.1 hs).1
    · cases hs
  · intro c h; cases h
end Go.Proofs.YtffmomgmkpmpkaaDoor

namespace Go.Proofs
open Go.Shelf
def YtffmomgmkpmpkaaDoor.growRen : Go.Shelf.Ren := ⟨fun | 4 => 59 | n => n, fun | 22 => 42 | 25 => 56 | n => n, fun n => n⟩
theorem YtffmomgmkpmpkaaDoor.growLays : Lays8.n4 Tryd.prog YtffmomgmkpmpkaaDoor.growRen := {
  mixed := by kernel_rfl
  f4 := ⟨Tryd.f59.name, by decide, Tryd.func59.trans (congrArg some (by kernel_rfl))⟩
  t0 := Tryd.underlying0
  a0 := Tryd.isAgg0
  z0 := Tryd.sizeOf0
  v0 := Tryd.zeroValue0
  t3 := Tryd.underlying3
  a3 := Tryd.isAgg3
  z3 := Tryd.sizeOf3
  v3 := Tryd.zeroValue3
  t4 := Tryd.underlying4
  a4 := Tryd.isAgg4
  z4 := Tryd.sizeOf4
  v4 := Tryd.zeroValue4
  t9 := Tryd.underlying9
  a9 := Tryd.isAgg9
  z9 := Tryd.sizeOf9
  v9 := Tryd.zeroValue9
  t20 := Tryd.underlying20
  a20 := Tryd.isAgg20
  z20 := Tryd.sizeOf20
  v20 := Tryd.zeroValue20
  t22 := Tryd.underlying42
  a22 := Tryd.isAgg42
  z22 := Tryd.sizeOf42
  v22 := Tryd.zeroValue42 }
end Go.Proofs
namespace Go.Proofs.YtffmomgmkpmpkaaDoor
open Go.RowKit
set_option linter.unusedVariables false
attribute [local go_sem] vwp vUpon_value vUpon_skip vUpon_enter vUpon_row
set_option linter.unusedSimpArgs false
set_option linter.unusedVariables false
section
set_option linter.unusedSimpArgs false
set_option linter.unusedVariables false
theorem grow_any (n : Nat) (w : World) (hn : n ≤ 65536) : Calls Tryd.prog 59 #[.slice none 0 0, .int .i64 n] w fun e w' => ∃ v, e = .returned v ∧ w'.ownsRow w.heap.size 56 15 v 0 [] ∧ Below w.heap.size w w' := by
  obtain ⟨iM, hi0, hm0, hm1, hm2⟩ := info_parts infoSt
  rcases Nat.eq_zero_or_pos n with rfl | h0
  · refine (Any8.slices_Grow_room YtffmomgmkpmpkaaDoor.growLays none 0 0 0 w (Nat.le_refl _) (by omega) (by omega) (by omega)).mono ?_
    rintro e w' ⟨rfl, rfl⟩
    exact ⟨_, rfl, World.ownsRow_nil _ _ _ _, Below.refl _ _⟩
  · refine (Any8.slices_Grow_grow YtffmomgmkpmpkaaDoor.growLays iM _ hi0 hm0 (by omega) none 0 0 n [] w (Nat.le_refl _) (by omega) (by rw [hm2]; omega) (by omega) (by simp) (fun _ => rfl) (fun a h => by cases h)).mono ?_
    rintro e w' ⟨rfl, rfl⟩
    have hge := grownCap_ge w (0 + n) 0 (YtffmomgmkpmpkaaDoor.growRen.t 25)
    have hle := grownCap_le_maxLen w (0 + n) 0 (YtffmomgmkpmpkaaDoor.growRen.t 25) (by unfold maxLen; omega)
    refine ⟨_, rfl, ⟨by simp, .inr ⟨w.heap.size, _, _, rfl, Nat.le_refl _, heap_alloc_new w.drew _, Nat.zero_le _, hle, ?_, by simp⟩⟩, (Below.refl _ _).drew.alloc (Nat.le_refl _) _⟩
    simp only [Array.size_append, List.size_toArray, size_zeroCells, List.length_nil]
    rw [show (Value.agg #[.int .u8 0, .int .i64 0, .int .i64 0, .int .i64 0, .int .i64 0, .int .u8 0, .int .u8 0, .int .u8 0, .int .u8 0, .int .u8 0, .int .u8 0, .int .u8 0, .int .u8 0, .string ⟨#[]⟩, .int .i64 0]).cells.size = 15 from rfl]
    omega
end
section
set_option linter.unusedSimpArgs false
set_option linter.unusedVariables false
set_option maxRecDepth 100000 in
set_option maxHeartbeats 1000000 in
theorem concat_any (xs ys : List St) (v1 v2 : Value) (b : Nat) (w : World) (h1 : Row w.heap.size 15 St.enc w v1 xs) (h2 : Row w.heap.size 15 St.enc w v2 ys) (hn : xs.length ≤ 20000) (hm : ys.length ≤ 20000)
  (hb : b < w.heap.size) (g0 : w.cell? ⟨b, 0, none⟩ = some v1) (g1 : w.cell? ⟨b, 1, none⟩ = some v2) : Calls Tryd.prog 37 #[.slice (some ⟨b, 0, none⟩) 2 2] w fun e w' => ∃ v', e = .returned v' ∧ Owns w.heap.size w' v' (xs ++ ys) ∧ Below w.heap.size w w' := by
 obtain ⟨iM, hi0, hm0, hm1, hm2⟩ := info_parts infoSt
 obtain ⟨s1, c1, rfl, hmax1⟩ := h1.shape
 obtain ⟨s2, c2, rfl, hmax2⟩ := h2.shape
 replace h1 := Lib.hid h1
 replace h2 := Lib.hid h2
 obtain ⟨n, en⟩ : ∃ n, xs.length = n := ⟨_, rfl⟩
 obtain ⟨m, em⟩ : ∃ n, ys.length = n := ⟨_, rfl⟩
 rw [en] at g0 hn hmax1
 rw [em] at g1 hm hmax2
 replace en := Lib.hid en
 replace em := Lib.hid em
 have GA := fun w => grow_any (n + m) w (by omega)
 rw [show ((n + m : Nat) : Int) = (n : Int) + m by omega] at GA
 replace GA := Lib.hid GA
 go_enter Tryd.func37, Tryd.ntmps37
 go_wp2
 go_loopw [3, 11] (fun z i wr => ((i = .int .i64 0 ∧ z = .int .i64 0) ∨ (i = .int .i64 1 ∧ z = .int .i64 n) ∨ (i = .int .i64 2 ∧ z = .int .i64 ((n : Int) + m))) ∧ Below w.heap.size w wr) (fun _ i _ => 2 - (intOf i).toNat)
 case atStart => exact ⟨.inl ⟨rfl, rfl⟩, (by repeat (first | exact Below.refl _ _ | assumption | refine Below.drew ?_ | refine Below.alloc ?_ (by (try simp) <;> omega) _ | refine Below.setCell ?_ (by (try simp) <;> omega) _))⟩
 case round =>
  obtain ⟨hk, hbr⟩ := hrel
  have zr := hbr.size
  obtain ⟨hcr, hfr⟩ := bcell hbr
  have yb : b < wr.heap.size := by omega
  rcases hk with ⟨rfl, rfl⟩ | ⟨rfl, rfl⟩ | ⟨rfl, rfl⟩
  ·go_wp2
   go_roundw
   case rel => exact ⟨.inr (.inl ⟨rfl, rfl⟩), hbr⟩
   case measure => simp [intOf]
  ·go_wp2
   go_roundw
   case rel => exact ⟨.inr (.inr ⟨rfl, rfl⟩), hbr⟩
   case measure => simp [intOf]
  ·go_wp2_with (first
    | (go_at_call 59; (with_reducible refine (GA.out _).mono ?_); rintro e w3 ⟨v3, rfl, hown3, hb3⟩)
    | go_in)
   have hb03 : Below w.heap.size w w3 := hbr.trans (hb3.mono zr)
   have z3 := hb03.size
   have hown03 : w3.ownsRow w.heap.size 56 15 v3 0 [] := ⟨hown3.1, hown3.2.imp id (fun ⟨g, cap, cur, e, hg, r⟩ => ⟨g, cap, cur, e, Nat.le_trans zr hg, r⟩)⟩
   clear hown3 hb3 hcr hfr hbr zr yb
   go_wp2
   go_loopw [6, 27] (fun v i wr => ((i = .int .i64 0 ∧ wr.ownsRow w.heap.size 56 15 v 0 []) ∨ (i = .int .i64 1 ∧ wr.ownsRow w.heap.size 56 15 v n (xs.flatMap St.enc)) ∨ (i = .int .i64 2 ∧ wr.ownsRow w.heap.size 56 15 v (n + m) (xs.flatMap St.enc ++ ys.flatMap St.enc))) ∧ Below w.heap.size w wr) (fun _ i _ => 2 - (intOf i).toNat)
   case atStart => exact ⟨.inl ⟨rfl, hown03⟩, hb03⟩
   case round =>
    obtain ⟨hk, hbr⟩ := hrel
    have zr := hbr.size
    obtain ⟨hcr, hfr⟩ := bcell hbr
    have yb : b < wr.heap.size := by omega
    rcases hk with ⟨rfl, hown⟩ | ⟨rfl, hown⟩ | ⟨rfl, hown⟩
    ·have hrow : Row w.heap.size 15 St.enc wr (.slice s1 n c1) xs := by have := h1.out.below hbr; rw [en.out] at this; exact this
     have en' := en.out
     go_wp2_with (first
      | (at_builtin; refine wpList_append_row rfl _ _ _ rfl w.heap.size 56 iM _ 15 72 Tryd.underlying42 hi0 hm0 hm1 hm2 rfl (by omega) wr _ _ _ (by rfl) hown St.enc_len St.enc_one w.heap.size _ xs hrow (by rfl) (by unfold maxLen; omega) (by omega) zr ?_; intro v4 w4 hown4 hgr4)
      | go_in)
     have hb4 : Below w.heap.size w w4 := hbr.grown hgr4 zr (fun g hg => (hown.lt g hg).1)
     rw [Nat.zero_add, List.nil_append, en'] at hown4
     replace hown4 := Lib.hid hown4
     go_wp2
     go_roundw
     case rel => exact ⟨.inr (.inl ⟨rfl, hown4.out⟩), hb4⟩
     case measure => simp [intOf]
    ·have hrow : Row w.heap.size 15 St.enc wr (.slice s2 m c2) ys := by have := h2.out.below hbr; rw [em.out] at this; exact this
     have em' := em.out
     go_wp2_with (first
      | (at_builtin; refine wpList_append_row rfl _ _ _ rfl w.heap.size 56 iM _ 15 72 Tryd.underlying42 hi0 hm0 hm1 hm2 rfl (by omega) wr _ _ _ (by rfl) hown St.enc_len St.enc_one w.heap.size _ ys hrow (by rfl) (by unfold maxLen; omega) (by omega) zr ?_; intro v4 w4 hown4 hgr4)
      | go_in)
     have hb4 : Below w.heap.size w w4 := hbr.grown hgr4 zr (fun g hg => (hown.lt g hg).1)
     rw [em'] at hown4
     replace hown4 := Lib.hid hown4
     go_wp2
     go_roundw
     case rel => exact ⟨.inr (.inr ⟨rfl, hown4.out⟩), hb4⟩
     case measure => simp [intOf]
    ·replace hown := Lib.hid hown
     go_wp2
     go_ret
     refine ⟨_, rfl, ?_, hbr⟩
     have := hown.out
     unfold Owns
     rw [List.length_append, List.flatMap_append, en.out, em.out]
     exact this
end
section
set_option linter.unusedSimpArgs false
set_option linter.unusedVariables false
theorem Owns.less {B base : Nat} {w : World} {v : Value} {xs : List St} (h : Owns base w v xs) (hB : B ≤ base) : Owns B w v xs := by
  obtain ⟨h1, h2⟩ := h
  refine ⟨h1, ?_⟩
  rcases h2 with h2 | ⟨g, cap, cur, hv, hg, r⟩
  · exact .inl h2
  · exact .inr ⟨g, cap, cur, hv, by omega, r⟩
theorem idx_zero (a b : Value) (w : World) : (Instr.index 94 (.agg #[a, b]) (.int .i64 0)).run Tryd.prog w = .ok a w := by
  have A := Tryd.underlying94
  have B := Tryd.underlying42
  have C := Tryd.sizeOf42 w
  simp [Instr.index, asIntOf, run_underlying A, Go.part, isAgg, run_underlying B, C]
theorem idx_one (a b : Value) (w : World) : (Instr.index 94 (.agg #[a, b]) (.int .i64 1)).run Tryd.prog w = .ok b w := by
  have A := Tryd.underlying94
  have B := Tryd.underlying42
  have C := Tryd.sizeOf42 w
  simp [Instr.index, asIntOf, run_underlying A, Go.part, isAgg, run_underlying B, C]
set_option maxHeartbeats 1000000 in
set_option maxRecDepth 100000 in
theorem ljoin_any (xs ys : List St) (v1 v2 : Value) (w : World) (h1 : Row w.heap.size 15 St.enc w v1 xs) (h2 : Row w.heap.size 15 St.enc w v2 ys) (k1 : ∀ s ∈ xs, s.Wf) (k2 : ∀ s ∈ ys, s.Wf) : Calls Tryd.prog 15 #[v1, v2] w (OutU w.heap.size (joinL xs ys) (joinE xs ys) w) := by
 obtain ⟨iM, hi0, hm0, hm1, hm2⟩ := info_parts infoSt
 have C1 := fun w' (hb : Below w.heap.size w w') => lcheck_any xs v1 w' ((h1.below hb).mono hb.size) k1
 have C2 := fun w' (hb : Below w.heap.size w w') => lcheck_any ys v2 w' ((h2.below hb).mono hb.size) k2
 obtain ⟨s1, cc1, rfl, hmax1⟩ := h1.shape
 obtain ⟨s2, cc2, rfl, hmax2⟩ := h2.shape
 replace h1 := Lib.hid h1
 replace h2 := Lib.hid h2
 clear k1 k2
 obtain ⟨n, en⟩ : ∃ n, xs.length = n := ⟨_, rfl⟩
 obtain ⟨m, em⟩ : ∃ n, ys.length = n := ⟨_, rfl⟩
 obtain ⟨eR, hR1⟩ : ∃ e, joinE xs ys = e := ⟨_, rfl⟩
 obtain ⟨lR, hR2⟩ : ∃ l, joinL xs ys = l := ⟨_, rfl⟩
 rw [hR1, hR2]
 rw [en] at C1 hmax1 ⊢
 rw [em] at C2 hmax2 ⊢
 replace C1 := Lib.hid C1
 replace C2 := Lib.hid C2
 replace en := Lib.hid en
 replace em := Lib.hid em
 have I0 := idx_zero (.slice s1 n cc1) (.slice s2 m cc2)
 have I1 := idx_one (.slice s1 n cc1) (.slice s2 m cc2)
 go_enter Tryd.func15, Tryd.ntmps15
 go_wp2
 go_loopw [12] (fun i wr => (i = .int .i64 0 ∨ (i = .int .i64 1 ∧ chkL xs = 0) ∨ (i = .int .i64 2 ∧ chkL xs = 0 ∧ chkL ys = 0)) ∧ Below w.heap.size w wr) (fun i _ => 2 - (intOf i).toNat)
 case atStart => exact ⟨.inl rfl, (by repeat (first | exact Below.refl _ _ | assumption | refine Below.drew ?_ | refine Below.alloc ?_ (by (try simp) <;> omega) _ | refine Below.setCell ?_ (by (try simp) <;> omega) _))⟩
 case round =>
  obtain ⟨hk, hbr⟩ := hrel
  have zr := hbr.size
  rcases hk with rfl | ⟨rfl, c1⟩ | ⟨rfl, c1, c2⟩
  ·by_cases c1 : chkL xs = 0
   ·have c1' := Lib.hid c1
    replace C1 := C1.out
    rw [c1] at C1
    replace C1 := Lib.hid C1
    clear c1
    go_wp2_with (first
     | (go_at_call 36; (with_reducible refine (C1.out _ belt).mono ?_); rintro e w3 ⟨rfl, hb3⟩; have z3 := hb3.size)
     | (go_at_call 36; (with_reducible refine (C2.out _ belt).mono ?_); rintro e w3 ⟨rfl, hb3⟩; have z3 := hb3.size)
     | go_in)
    go_roundw
    case rel => exact ⟨.inr (.inl ⟨rfl, c1'.out⟩), hbr.trans (hb3.mono zr)⟩
    case measure => simp [intOf]
   ·have hcb : (chkL xs == 0) = false := by simp [c1]
    obtain ⟨e1, e2⟩ := join_a (ys := ys) c1
    rw [hR1] at e1
    rw [hR2] at e2
    subst e1
    subst e2
    clear c1 hR1 hR2
    go_wp2_with (first
     | (go_at_call 36; (with_reducible refine (C1.out _ belt).mono ?_); rintro e w3 ⟨rfl, hb3⟩; have z3 := hb3.size)
     | (go_at_call 36; (with_reducible refine (C2.out _ belt).mono ?_); rintro e w3 ⟨rfl, hb3⟩; have z3 := hb3.size)
     | go_in)
    go_ret2
    exact ⟨hbr.trans (hb3.mono zr), _, rfl, Owns.nil _ _⟩
  ·by_cases c2 : chkL ys = 0
   ·have c1' := Lib.hid c1
    have c2' := Lib.hid c2
    replace C2 := C2.out
    rw [c2] at C2
    replace C2 := Lib.hid C2
    clear c1 c2
    go_wp2_with (first
     | (go_at_call 36; (with_reducible refine (C1.out _ belt).mono ?_); rintro e w3 ⟨rfl, hb3⟩; have z3 := hb3.size)
     | (go_at_call 36; (with_reducible refine (C2.out _ belt).mono ?_); rintro e w3 ⟨rfl, hb3⟩; have z3 := hb3.size)
     | go_in)
    go_roundw
    case rel => exact ⟨.inr (.inr ⟨rfl, c1'.out, c2'.out⟩), hbr.trans (hb3.mono zr)⟩
    case measure => simp [intOf]
   ·have hcb : (chkL ys == 0) = false := by simp [c2]
    obtain ⟨e1, e2⟩ := join_b c1 c2
    rw [hR1] at e1
    rw [hR2] at e2
    subst e1
    subst e2
    clear c1 c2 hR1 hR2
    go_wp2_with (first
     | (go_at_call 36; (with_reducible refine (C1.out _ belt).mono ?_); rintro e w3 ⟨rfl, hb3⟩; have z3 := hb3.size)
     | (go_at_call 36; (with_reducible refine (C2.out _ belt).mono ?_); rintro e w3 ⟨rfl, hb3⟩; have z3 := hb3.size)
     | go_in)
    go_ret2
    exact ⟨hbr.trans (hb3.mono zr), _, rfl, Owns.nil _ _⟩
  ·have l1 := chk_len c1
   have l2 := chk_len c2
   rw [en.out] at l1
   rw [em.out] at l2
   by_cases c3 : n + m > 16384
   ·obtain ⟨e1, e2⟩ := join_c c1 c2 (by rw [en.out, em.out]; exact c3)
    rw [hR1] at e1
    rw [hR2] at e2
    subst e1
    subst e2
    clear c1 c2 hR1 hR2
    go_wp2
    go_ret2
    exact ⟨hbr, _, rfl, Owns.nil _ _⟩
   ·obtain ⟨e1, e2⟩ := join_d c1 c2 (by rw [en.out, em.out]; exact c3)
    rw [hR1] at e1
    rw [hR2] at e2
    subst e1
    subst e2
    clear c1 c2 hR1 hR2
    have CAT : ∀ (w1 : World), w1 = wr.alloc (.cells #[.slice s1 n cc1, .slice s2 m cc2] 42) → Calls Tryd.prog 37 #[.slice (some ⟨wr.heap.size, 0, none⟩) 2 2] w1 fun e w' => ∃ v', e = .returned v' ∧ Owns w1.heap.size w' v' (xs ++ ys) ∧ Below w1.heap.size w1 w' := by
     rintro w1 rfl
     have hbw : Below w.heap.size w (wr.alloc (.cells #[.slice s1 n cc1, .slice s2 m cc2] 42)) := hbr.alloc zr _
     refine concat_any xs ys (.slice s1 n cc1) (.slice s2 m cc2) _ _ ?_ ?_ (by rw [en.out]; omega) (by rw [em.out]; omega) (by simp) ?_ ?_
     ·have := (h1.out.below hbw).mono hbw.size
      rw [en.out] at this
      exact this
     ·have := (h2.out.below hbw).mono hbw.size
      rw [em.out] at this
      exact this
     ·rw [World.cell?_alloc_at _ _ _ _ rfl]; rfl
     ·rw [World.cell?_alloc_at _ _ _ _ rfl]; rfl
    replace CAT := Lib.hid CAT
    go_wp2_with (first
     | (go_at_call 37; (with_reducible refine (CAT.out _ ?_).mono ?_); (first | rfl | exact rfl); rintro e w4 ⟨v4, rfl, hown4, hb4⟩)
     | go_in)
    have hb04 : Below w.heap.size w w4 := hbr.trans ((Below.alloc (Below.refl _ _) (Nat.le_refl _) _).trans (hb4.mono (by simp)) |>.mono zr)
    replace hown4 := Lib.hid hown4
    go_wp2
    go_ret2
    exact ⟨hb04, _, rfl, hown4.out.less (by simp; omega)⟩
end
section
set_option linter.unusedSimpArgs false
set_option linter.unusedVariables false
def max4 (a b c d : Int) : Int := max (max (max a b) c) d
theorem run_max_int4 {P : Program} (w : World) (ts : Array TypeId) (t : TypeId) (a b c d : Int) : (Builtin.max_ ts t #[.int .i64 a, .int .i64 b, .int .i64 c, .int .i64 d]).run P w = .ok (.int .i64 (max4 a b c d)) w := by
  have e : ∀ x y : Int, (if y > x then y else x) = max x y := by intro x y; split <;> omega
  simp [Builtin.max_, Builtin.max2, max4, e]
attribute [local go_sem high] run_max_int4
end
end Go.Proofs.YtffmomgmkpmpkaaDoor
