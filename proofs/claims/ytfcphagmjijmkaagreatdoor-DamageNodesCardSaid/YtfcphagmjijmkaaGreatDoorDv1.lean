/-
  XGa: XLisA XLisB XLisC XLisD XLisE XRegP XRegQ XRegR XRegPa.
-/
import Derived.Below
import Derived.ChangeSame
import Derived.Deep.DeepCutAuto
import Derived.Deep.Fields
import Derived.Deep.RegionHeld3
import Derived.Deep.Slices
import Derived.KernelRfl
import Derived.Laws.AppendOwnNone
import Derived.Laws.CopyOwn
import Derived.Laws.CopyRow
import Derived.Laws.EntriesVeiled
import Derived.Laws.MakeOwn
import Derived.Laws.OwnMore
import Derived.Laws.StructEq
import Derived.Lib.DecodeNEq
import Derived.Lib.Hide
import Derived.Lib.SmallJoins
import Derived.Maps.AppendAt
import Derived.OneCell
import Derived.OrdersHeld
import Derived.OwnWalk
import Derived.ScopeJumps
import Derived.Shelf.SlSortCmp.NoneTotal
import Derived.Shelf.SlSortCmp.WholeK
import Derived.Shelf.Slices.CompactI
import Derived.Shelf.Slices.In.SortNone
import Derived.Shelf.Sort.Plain
import Derived.Shelf.Spec.SlicesGrow
import Derived.Sort.OwnSortedInts
import Derived.StillTail
import Derived.Tactics2
import Derived.WalkKit
import Derived.WalkLawsBesides
import Derived.WalkSpells
import Derived.Test.YtfcphagmjijmkaaGreatDoorDq18
import Derived.Test.YtfcphagmjijmkaaGreatDoorProg
namespace Go.Proofs.YtfcphagmjijmkaaGreatDoor
open Go.RowKit
set_option linter.unusedVariables false
attribute [local go_sem] vwp vUpon_value vUpon_skip vUpon_enter vUpon_row
set_option linter.unusedSimpArgs false
set_option linter.unusedVariables false
section
set_option linter.unusedSimpArgs false
instance : Inhabited Re := ⟨⟨0, 0, 0, 0⟩⟩
end
section
set_option linter.unusedSimpArgs false
set_option linter.unusedVariables false
instance : Inhabited St := ⟨⟨0, default, ⟨0, 0, 0, 0⟩, ⟨0, 0, 0, 0⟩, default, 0⟩⟩
end
end Go.Proofs.YtfcphagmjijmkaaGreatDoor

namespace Go.Proofs.YtfcphagmjijmkaaGreatDoor
open Go.RowKit
set_option linter.unusedVariables false
attribute [local go_sem] vwp vUpon_value vUpon_skip vUpon_enter vUpon_row
set_option linter.unusedSimpArgs false
set_option linter.unusedVariables false
instance : Inhabited Gl := ⟨⟨0, false, false⟩⟩
end Go.Proofs.YtfcphagmjijmkaaGreatDoor

namespace Go.Proofs.YtfcphagmjijmkaaGreatDoor
open Go.RowKit
set_option linter.unusedVariables false
attribute [local go_sem] vwp vUpon_value vUpon_skip vUpon_enter vUpon_row
set_option linter.unusedSimpArgs false
set_option linter.unusedVariables false
instance : Inhabited Ce := ⟨⟨0, ⟨0, 0, 0, 0⟩, ⟨0, 0, 0, 0⟩, false, false⟩⟩
/-! ### rows of cells -/
end Go.Proofs.YtfcphagmjijmkaaGreatDoor

namespace Go.Proofs.YtfcphagmjijmkaaGreatDoor
open Go.RowKit
set_option linter.unusedVariables false
attribute [local go_sem] vwp vUpon_value vUpon_skip vUpon_enter vUpon_row
set_option linter.unusedSimpArgs false
set_option linter.unusedVariables false
section
set_option linter.unusedSimpArgs false
set_option linter.unusedVariables false
open Go.Sort Go.Shelf
instance : Inhabited SpB := ⟨⟨(0, 0), by unfold InM; omega⟩⟩
end
end Go.Proofs.YtfcphagmjijmkaaGreatDoor

namespace Go.Proofs.YtfcphagmjijmkaaGreatDoor
open Go.RowKit
set_option linter.unusedVariables false
attribute [local go_sem] vwp vUpon_value vUpon_skip vUpon_enter vUpon_row
set_option linter.unusedSimpArgs false
set_option linter.unusedVariables false
/-! ### one matched with one -/
/-- The first one that is like f and not taken. -/
def fstU (f : Fl) : List Fl → List Bool → Nat → Option Nat
  | g :: ys, b :: bs, k => if !b && f.eqb g then some k else fstU f ys bs (k + 1)
  | _, _, _ => none
/-- Those taken that are like f. -/
def mrkF (f : Fl) : List Fl → List Bool → Nat
  | g :: ys, b :: bs => mrkF f ys bs + if b && g.eqb f then 1 else 0
  | _, _ => 0
def resF : List Fl → List Bool → List Fl
  | g :: ys, b :: bs => if b then resF ys bs else g :: resF ys bs
  | _, _ => []
theorem res_cnt (f : Fl) : ∀ (ys : List Fl) (bs : List Bool), bs.length = ys.length → cntF (resF ys bs) f + mrkF f ys bs = cntF ys f
  | [], [], _ => rfl
  | g :: ys, b :: bs, h => by
    have ih := res_cnt f ys bs (by simpa using h)
    rw [resF, mrkF, cntF_cons]
    cases b
    · simp only [Bool.false_eq_true, if_false, Bool.false_and]
      rw [cntF_cons]
      omega
    · simp only [if_true, Bool.true_and]
      omega
  | [], _ :: _, h => by cases h
  | _ :: _, [], h => by cases h
theorem fstU_some {f : Fl} : ∀ {ys : List Fl} {bs : List Bool} {k j : Nat}, fstU f ys bs k = some j → k ≤ j ∧ ys[j - k]? = some f ∧ bs[j - k]? = some false
  | [], _, _, _, h => by simp [fstU] at h
  | _ :: _, [], _, _, h => by simp [fstU] at h
  | g :: ys, b :: bs, k, j, h => by
    rw [fstU] at h
    split at h
    · rename_i hc
      injection h with h
      subst h
      simp only [Bool.and_eq_true, Bool.not_eq_true'] at hc
      rw [Nat.sub_self, Fl.eqb_iff.1 hc.2]
      exact ⟨Nat.le_refl _, rfl, by simp [hc.1]⟩
    · obtain ⟨h1, h2, h3⟩ := fstU_some h
      refine ⟨by omega, ?_, ?_⟩
      · rw [show j - k = (j - (k + 1)) + 1 by omega]; simpa using h2
      · rw [show j - k = (j - (k + 1)) + 1 by omega]; simpa using h3
theorem fstU_none {f : Fl} : ∀ {ys : List Fl} {bs : List Bool} {k : Nat}, bs.length = ys.length → fstU f ys bs k = none → mrkF f ys bs = cntF ys f
  | [], [], _, _, _ => rfl
  | g :: ys, b :: bs, k, hl, h => by
    rw [fstU] at h
    split at h
    · cases h
    · rename_i hc
      have ih := fstU_none (by simpa using hl) h
      rw [mrkF, cntF_cons, ih, Fl.eqb_comm g f]
      cases b
      · cases he : f.eqb g
        · simp
        · rw [he] at hc; exact absurd rfl hc
      · simp
  | [], _ :: _, _, hl, _ => by cases hl
  | _ :: _, [], _, hl, _ => by cases hl
theorem mrk_set (f : Fl) : ∀ {ys : List Fl} {bs : List Bool} {j : Nat} {g : Fl}, ys[j]? = some g → bs[j]? = some false → mrkF f ys (bs.set j true) = mrkF f ys bs + if g.eqb f then 1 else 0
  | [], _, _, _, h, _ => by simp at h
  | _ :: _, [], _, _, _, h => by simp at h
  | g :: ys, b :: bs, 0, g', h1, h2 => by
    simp at h1 h2
    subst h1 h2
    rw [List.set_cons_zero, mrkF, mrkF]
    simp
  | g :: ys, b :: bs, j + 1, g', h1, h2 => by
    have ih := mrk_set f (ys := ys) (bs := bs) (j := j) (g := g') (by simpa using h1) (by simpa using h2)
    rw [List.set_cons_succ, mrkF, mrkF, ih]
    omega
def mtcGo (ys : List Fl) : List Fl → List Bool → List Int → List Bool × List Int
  | [], bs, u => (bs, u)
  | f :: xs, bs, u => match fstU f ys bs 0 with
    | some k => mtcGo ys xs (bs.set k true) u
    | none => mtcGo ys xs bs (u ++ [f.s.node])
/-- The nodes of those that found none, and of those that were not found. -/
def unlN (xs ys : List Fl) : List Int := (mtcGo ys xs (List.replicate ys.length false) []).2 ++ (resF ys (mtcGo ys xs (List.replicate ys.length false) []).1).map fun g => g.s.node
theorem mtc_spec (ys : List Fl) : ∀ (xs done : List Fl) (bs : List Bool) (u : List Int) (lo : List Fl), bs.length = ys.length → (∀ f, mrkF f ys bs + cntF lo f = cntF done f ∧ (0 < cntF lo f → mrkF f ys bs = cntF ys f)) → u = lo.map (fun g => g.s.node) →
  ∃ lo', (mtcGo ys xs bs u).1.length = ys.length ∧ (∀ f, mrkF f ys (mtcGo ys xs bs u).1 + cntF lo' f = cntF (done ++ xs) f ∧ (0 < cntF lo' f → mrkF f ys (mtcGo ys xs bs u).1 = cntF ys f)) ∧ (mtcGo ys xs bs u).2 = lo'.map (fun g => g.s.node)
 | [], done, bs, u, lo, hl, hi, hu => ⟨lo, hl, by rw [List.append_nil]; exact hi, hu⟩
 | f :: xs, done, bs, u, lo, hl, hi, hu => by
  rw [mtcGo]
  cases hf : fstU f ys bs 0 with
  | some k =>
   obtain ⟨_, h1, h2⟩ := fstU_some hf
   rw [Nat.sub_zero] at h1 h2
   obtain ⟨lo', a, b, c⟩ := mtc_spec ys xs (done ++ [f]) (bs.set k true) u lo (by rw [List.length_set]; exact hl) (fun g => by
    obtain ⟨i1, i2⟩ := hi g
    rw [mrk_set g h1 h2, cntF_append]
    have e : cntF [f] g = if f.eqb g then 1 else 0 := by rw [cntF_cons]; simp [cntF]
    rw [e]
    refine ⟨by omega, fun h0 => ?_⟩
    have i3 := i2 h0
    have i4 := res_cnt g ys (bs.set k true) (by rw [List.length_set]; exact hl)
    rw [mrk_set g h1 h2] at i4
    omega) hu
   exact ⟨lo', a, by rw [show done ++ f :: xs = done ++ [f] ++ xs by simp]; exact b, c⟩
  | none =>
   have hn := fstU_none hl hf
   obtain ⟨lo', a, b, c⟩ := mtc_spec ys xs (done ++ [f]) bs (u ++ [f.s.node]) (lo ++ [f]) hl (fun g => by
    obtain ⟨i1, i2⟩ := hi g
    rw [cntF_append, cntF_append]
    refine ⟨by omega, fun h0 => ?_⟩
    have e : cntF [f] g = if f.eqb g then 1 else 0 := by rw [cntF_cons]; simp [cntF]
    rw [e] at h0
    split at h0
    ·rename_i he
     rw [← Fl.eqb_iff.1 he]
     exact hn
    ·exact i2 (by omega)) (by rw [hu, List.map_append]; rfl)
   exact ⟨lo', a, by rw [show done ++ f :: xs = done ++ [f] ++ xs by simp]; exact b, c⟩
theorem mrk_false (f : Fl) : ∀ (ys : List Fl), mrkF f ys (List.replicate ys.length false) = 0
  | [] => rfl
  | g :: ys => by
    rw [List.length_cons, List.replicate_succ, mrkF, mrk_false f ys]
    rfl
/-- Just the nodes that are told. -/
theorem unl_mem (xs ys : List Fl) (n : Int) : n ∈ unlN xs ys ↔ n ∈ nodL xs ys := by
  obtain ⟨lo, h1, h2, h3⟩ := mtc_spec ys xs [] (List.replicate ys.length false) [] [] (by simp) (fun f => by rw [mrk_false]; simp [cntF]) rfl
  rw [List.nil_append] at h2
  rw [(nod_is xs ys).2]
  unfold unlN
  rw [h3, List.mem_append, List.mem_map, List.mem_map]
  constructor
  · rintro (⟨f, hf, rfl⟩ | ⟨f, hf, rfl⟩)
    · have hp := cntF_pos.2 hf
      obtain ⟨i1, i2⟩ := h2 f
      have i3 := i2 hp
      exact ⟨f, by omega, rfl⟩
    · have hp := cntF_pos.2 hf
      have i4 := res_cnt f ys _ h1
      obtain ⟨i1, i2⟩ := h2 f
      refine ⟨f, ?_, rfl⟩
      by_cases c : 0 < cntF lo f
      · have := i2 c; omega
      · omega
  · rintro ⟨f, hne, rfl⟩
    have i4 := res_cnt f ys _ h1
    obtain ⟨i1, i2⟩ := h2 f
    by_cases c : 0 < cntF lo f
    · exact .inl ⟨f, cntF_pos.1 c, rfl⟩
    · refine .inr ⟨f, cntF_pos.1 ?_, rfl⟩
      omega
end Go.Proofs.YtfcphagmjijmkaaGreatDoor

namespace Go.Proofs
open Go.Shelf
end Go.Proofs
namespace Go.Proofs.YtfcphagmjijmkaaGreatDoor
open Go.RowKit
set_option linter.unusedVariables false
attribute [local go_sem] vwp vUpon_value vUpon_skip vUpon_enter vUpon_row
set_option linter.unusedSimpArgs false
set_option linter.unusedVariables false
section
set_option linter.unusedSimpArgs false
set_option linter.unusedVariables false
theorem Owns.less {B base : Nat} {w : World} {v : Value} {xs : List St} (h : Owns base w v xs) (hB : B ≤ base) : Owns B w v xs := by
  obtain ⟨h1, h2⟩ := h
  refine ⟨h1, ?_⟩
  rcases h2 with h2 | ⟨g, cap, cur, hv, hg, r⟩
  · exact .inl h2
  · exact .inr ⟨g, cap, cur, hv, by omega, r⟩
end
section
set_option linter.unusedSimpArgs false
set_option linter.unusedVariables false
def max4 (a b c d : Int) : Int := max (max (max a b) c) d
theorem run_max_int4 {P : Program} (w : World) (ts : Array TypeId) (t : TypeId) (a b c d : Int) : (Builtin.max_ ts t #[.int .i64 a, .int .i64 b, .int .i64 c, .int .i64 d]).run P w = .ok (.int .i64 (max4 a b c d)) w := by
  have e : ∀ x y : Int, (if y > x then y else x) = max x y := by intro x y; split <;> omega
  simp [Builtin.max_, Builtin.max2, max4, e]
attribute [local go_sem high] run_max_int4
end
end Go.Proofs.YtfcphagmjijmkaaGreatDoor
