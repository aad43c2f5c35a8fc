/-
  XGa: XLisA XLisB XLisC XLisD XLisE XRegP XRegQ XRegR XRegPa.
-/
import Derived.Below
import Derived.ChangeSame
import Derived.Deep.DeepCutAuto
import Derived.Deep.Fields
import Derived.Deep.RegionHeld3
import Derived.Deep.Slices
import Derived.KernelRfl
import Derived.Laws.AppendOwnNone
import Derived.Laws.BitsLemmas
import Derived.Laws.CopyOwn
import Derived.Laws.CopyRow
import Derived.Laws.EntriesVeiled
import Derived.Laws.Externs
import Derived.Laws.IdiomCopy
import Derived.Laws.MakeOwn
import Derived.Laws.OwnMore
import Derived.Laws.StructEq
import Derived.Lib.Bytealg
import Derived.Lib.DecodeNEq
import Derived.Lib.Hide
import Derived.Lib.IndexBytes
import Derived.Lib.OthersKept
import Derived.Lib.SmallJoins
import Derived.LoopIn
import Derived.LoopNIn
import Derived.Maps.AppendAt
import Derived.OneCell
import Derived.OrdersHeld
import Derived.OwnWalk
import Derived.OwnWalkIn
import Derived.RangeFuncBound
import Derived.RangeFuncCalls
import Derived.RangeFuncLeaves
import Derived.RangeFuncNested
import Derived.ScopeJumps
import Derived.Shelf.Bits.Mul64
import Derived.Shelf.LaysM
import Derived.Shelf.RegionOpen
import Derived.Shelf.SlSortCmp.NoneTotal
import Derived.Shelf.SlSortCmp.WholeK
import Derived.Shelf.Slices.CompactI
import Derived.Shelf.Slices.In.SortNone
import Derived.Shelf.Small.Bits
import Derived.Shelf.Small.Wraps
import Derived.Shelf.Sort.Plain
import Derived.Shelf.Spec.SlicesGrow
import Derived.Shelf.Spec.SlicesInsert
import Derived.Shelf.Strconv.Itoa0
import Derived.Shelf.Strconv.Itoa1
import Derived.Shelf.Strconv.Itoa2
import Derived.Shelf.Strconv.Itoa3
import Derived.Shelf.Strings.Builder1
import Derived.Shelf.Strings.BuilderCap
import Derived.Shelf.Strings.BuilderF
import Derived.Shelf.Strings.BuilderK
import Derived.Shelf.Strings.BuilderRune
import Derived.Shelf.Strings.Prefix
import Derived.Shelf.Unicode.Decode
import Derived.Shelf.Unicode.DecodeAny
import Derived.Shelf.Unicode.DecodeSlow
import Derived.Shelf.Utf8.AppendRune
import Derived.Shelf.Utf8.AppendRunePlain
import Derived.Sort.OwnSortedInts
import Derived.StillTail
import Derived.Tactics2
import Derived.TacticsInMore
import Derived.WalkKit
import Derived.WalkLawsBesides
import Derived.WalkSpells
import Derived.Test.YtfcphagmjijmkaaGreatDoorDq22
import Derived.Test.YtfcphagmjijmkaaGreatDoorProg
namespace Go.Proofs.YtfcphagmjijmkaaGreatDoor
open Go.RowKit
set_option linter.unusedVariables false
attribute [local go_sem] vwp vUpon_value vUpon_skip vUpon_enter vUpon_row
set_option linter.unusedSimpArgs false
set_option linter.unusedVariables false
section
set_option linter.unusedSimpArgs false
instance : Inhabited Re := ⟨⟨0, 0, 0, 0⟩⟩
end
section
set_option linter.unusedSimpArgs false
set_option linter.unusedVariables false
instance : Inhabited St := ⟨⟨0, default, ⟨0, 0, 0, 0⟩, ⟨0, 0, 0, 0⟩, default, 0⟩⟩
end
end Go.Proofs.YtfcphagmjijmkaaGreatDoor

namespace Go.Proofs.YtfcphagmjijmkaaGreatDoor
open Go.RowKit
set_option linter.unusedVariables false
attribute [local go_sem] vwp vUpon_value vUpon_skip vUpon_enter vUpon_row
set_option linter.unusedSimpArgs false
set_option linter.unusedVariables false
instance : Inhabited Gl := ⟨⟨0, false, false⟩⟩
end Go.Proofs.YtfcphagmjijmkaaGreatDoor

namespace Go.Proofs.YtfcphagmjijmkaaGreatDoor
open Go.RowKit
set_option linter.unusedVariables false
attribute [local go_sem] vwp vUpon_value vUpon_skip vUpon_enter vUpon_row
set_option linter.unusedSimpArgs false
set_option linter.unusedVariables false
instance : Inhabited Ce := ⟨⟨0, ⟨0, 0, 0, 0⟩, ⟨0, 0, 0, 0⟩, false, false⟩⟩
/-! ### rows of cells -/
end Go.Proofs.YtfcphagmjijmkaaGreatDoor

namespace Go.Proofs.YtfcphagmjijmkaaGreatDoor
open Go.RowKit
set_option linter.unusedVariables false
attribute [local go_sem] vwp vUpon_value vUpon_skip vUpon_enter vUpon_row
set_option linter.unusedSimpArgs false
set_option linter.unusedVariables false
section
set_option linter.unusedSimpArgs false
set_option linter.unusedVariables false
open Go.Sort Go.Shelf
instance : Inhabited SpB := ⟨⟨(0, 0), by unfold InM; omega⟩⟩
end
end Go.Proofs.YtfcphagmjijmkaaGreatDoor

namespace Go.Proofs.YtfcphagmjijmkaaGreatDoor
open Go.RowKit
set_option linter.unusedVariables false
attribute [local go_sem] vwp vUpon_value vUpon_skip vUpon_enter vUpon_row
set_option linter.unusedSimpArgs false
set_option linter.unusedVariables false
section
set_option linter.unusedSimpArgs false
set_option linter.unusedVariables false
def joinE (xs ys : List St) : Int := if chkL xs ≠ 0 then chkL xs else if chkL ys ≠ 0 then chkL ys else if xs.length + ys.length > 16384 then 4 else 0
def joinL (xs ys : List St) : List St := if joinE xs ys = 0 then xs ++ ys else []
/-- What a call tells that hands out a list and an error. -/
def OutU (base : Nat) (l : List St) (er : Int) (w : World) (e : Ending) (w' : World) : Prop := Below base w w' ∧ ∃ v, e = .returned (.tuple #[v, .int .i64 er]) ∧ Owns base w' v l
theorem join_a {xs ys : List St} (c1 : chkL xs ≠ 0) : joinE xs ys = chkL xs ∧ joinL xs ys = [] := by
  have e1 : joinE xs ys = chkL xs := by unfold joinE; rw [if_pos c1]
  exact ⟨e1, by unfold joinL; rw [if_neg (by rw [e1]; exact c1)]⟩
theorem join_b {xs ys : List St} (c1 : chkL xs = 0) (c2 : chkL ys ≠ 0) : joinE xs ys = chkL ys ∧ joinL xs ys = [] := by
  have e1 : joinE xs ys = chkL ys := by unfold joinE; rw [if_neg (by simp [c1]), if_pos c2]
  exact ⟨e1, by unfold joinL; rw [if_neg (by rw [e1]; exact c2)]⟩
theorem join_c {xs ys : List St} (c1 : chkL xs = 0) (c2 : chkL ys = 0) (c3 : xs.length + ys.length > 16384) : joinE xs ys = 4 ∧ joinL xs ys = [] := by
  have e1 : joinE xs ys = 4 := by unfold joinE; rw [if_neg (by simp [c1]), if_neg (by simp [c2]), if_pos c3]
  exact ⟨e1, by unfold joinL; rw [if_neg (by rw [e1]; decide)]⟩
theorem join_d {xs ys : List St} (c1 : chkL xs = 0) (c2 : chkL ys = 0) (c3 : ¬ xs.length + ys.length > 16384) : joinE xs ys = 0 ∧ joinL xs ys = xs ++ ys := by
  have e1 : joinE xs ys = 0 := by unfold joinE; rw [if_neg (by simp [c1]), if_neg (by simp [c2]), if_neg c3]
  exact ⟨e1, by unfold joinL; rw [if_pos e1]⟩
end
end Go.Proofs.YtfcphagmjijmkaaGreatDoor

namespace Go.Proofs.YtfcphagmjijmkaaGreatDoor
open Go.RowKit
set_option linter.unusedVariables false
attribute [local go_sem] vwp vUpon_value vUpon_skip vUpon_enter vUpon_row
set_option linter.unusedSimpArgs false
set_option linter.unusedVariables false
/-! ### what is drawn may be -/
/-! ### clips close -/
theorem shGo_app : ∀ (a b : List St) (M : List Re), shGo M (a ++ b) = shGo M a ++ shGo (a.foldl shN M) b
  | [], b, M => rfl
  | s :: a, b, M => by
    rw [List.cons_append, shGo, shGo, shGo_app a b]
    rfl
theorem chk_iff2 {o : Int} {s : St} {xs : List St} : chkGo o (s :: xs) = 0 ↔ errS s = 0 ∧ ¬ opn o s < 0 ∧ chkGo (opn o s) xs = 0 := by
  rw [chkGo]
  by_cases h : errS s = 0
  · rw [if_neg (by simpa using h)]
    by_cases ho : opn o s < 0
    · rw [if_pos ho]; simp [ho]
    · rw [if_neg ho]; simp [h, ho]
  · rw [if_pos (by simpa using h)]; simp [h]
theorem shN_opn {M : List Re} {s : St} (h : ¬ opn M.length s < 0) : ((shN M s).length : Int) = opn M.length s := by
  unfold opn at h ⊢
  unfold shN
  split
  · rename_i h4
    rw [List.length_append]; rfl
  · rename_i h4
    rw [if_neg h4] at h
    split
    · rename_i h5
      rw [if_pos h5] at h
      rw [List.length_dropLast]
      omega
    · rfl
theorem shN_closed : ∀ (a : List St) (M : List Re), chkGo M.length a = 0 → a.foldl shN M = []
  | [], M, h => by
    unfold chkGo at h
    split at h
    · cases h
    · show M = []
      exact List.length_eq_zero_iff.1 (by omega)
  | s :: a, M, h => by
    obtain ⟨_, h2, h3⟩ := chk_iff2.1 h
    rw [← shN_opn h2] at h3
    exact shN_closed a _ h3
theorem chk_app2 : ∀ (a b : List St) (o : Int), 0 ≤ o → chkGo o a = 0 → chkGo o (a ++ b) = chkGo 0 b
  | [], b, o, h0, h => by
    unfold chkGo at h
    split at h
    · cases h
    · rw [show o = 0 by omega]; rfl
  | s :: a, b, o, h0, h => by
    obtain ⟨h1, h2, h3⟩ := chk_iff2.1 h
    rw [List.cons_append, chkGo, if_neg (by simp [h1]), if_neg h2]
    exact chk_app2 a b _ (by omega) h3
theorem chk_go2 {xs : List St} (h : chkL xs = 0) : chkGo 0 xs = 0 := by
  unfold chkL at h
  split at h
  · omega
  · exact h
/-- Two lists that may be, joined, are flat one behind the other. -/
theorem flat_app {a b : List St} (ha : chkL a = 0) (hb : chkL b = 0) (hl : a.length + b.length ≤ 16384) :
    chkL (a ++ b) = 0 ∧ flS (a ++ b) = flS a ++ flS b ∧ flR (a ++ b) = flR a ++ flR b := by
  have hc : chkL (a ++ b) = 0 := by
    unfold chkL
    rw [if_neg (by rw [List.length_append]; omega), chk_app2 a b 0 (Int.le_refl _) (chk_go2 ha)]
    exact chk_go2 hb
  have e1 : shL (a ++ b) = shL a ++ shL b := by
    unfold shL
    rw [shGo_app, shN_closed a [] (chk_go2 ha)]
  refine ⟨hc, ?_, ?_⟩
  · unfold flS fltS
    rw [if_pos hc, if_pos ha, if_pos hb, List.filter_append]
  · unfold flR fltR
    rw [if_pos hc, if_pos ha, if_pos hb, e1, List.zip_append (shL_len a).symm, List.filter_append, List.map_append]
end Go.Proofs.YtfcphagmjijmkaaGreatDoor

namespace Go.Proofs.YtfcphagmjijmkaaGreatDoor
open Go.RowKit
set_option linter.unusedVariables false
attribute [local go_sem] vwp vUpon_value vUpon_skip vUpon_enter vUpon_row
set_option linter.unusedSimpArgs false
set_option linter.unusedVariables false
theorem cutPre_swap : ∀ (xs ys : List Fl), cutPre ys xs = ((cutPre xs ys).2, (cutPre xs ys).1)
  | [], ys => by rw [cutPre_nil_left, cutPre_nil_right]
  | x :: xs, [] => by rw [cutPre_nil_left, cutPre_nil_right]
  | x :: xs, y :: ys => by
    rw [cutPre, cutPre, Fl.eqb_comm]
    split
    · exact cutPre_swap xs ys
    · rfl
theorem cutPre_self : ∀ (xs : List Fl), cutPre xs xs = ([], [])
  | [] => by rw [cutPre_nil_left]
  | x :: xs => by rw [cutPre, Fl.eqb_refl, if_pos rfl, cutPre_self xs]
theorem cutPre_more : ∀ (xs ys : List Fl), cutPre xs (xs ++ ys) = ([], ys)
  | [], ys => by rw [cutPre_nil_left]; rfl
  | x :: xs, ys => by rw [List.cons_append, cutPre, Fl.eqb_refl, if_pos rfl, cutPre_more xs ys]
theorem mid_swap (xs ys : List Fl) : midP ys xs = ((midP xs ys).2, (midP xs ys).1) := by
  unfold midP
  rw [cutPre_swap xs ys]
  dsimp only
  rw [cutPre_swap (cutPre xs ys).1.reverse (cutPre xs ys).2.reverse]
theorem mid_self (xs : List Fl) : midP xs xs = ([], []) := by
  unfold midP
  rw [cutPre_self]
  rfl
theorem mid_more (xs ys : List Fl) : midP xs (xs ++ ys) = ([], ys) := by
  unfold midP
  rw [cutPre_more]
  dsimp only
  rw [List.reverse_nil, cutPre_nil_left, List.reverse_reverse]
  rfl
/-! ### what is painted at a place -/
end Go.Proofs.YtfcphagmjijmkaaGreatDoor

namespace Go.Proofs.YtfcphagmjijmkaaGreatDoor
open Go.RowKit
set_option linter.unusedVariables false
attribute [local go_sem] vwp vUpon_value vUpon_skip vUpon_enter vUpon_row
set_option linter.unusedSimpArgs false
set_option linter.unusedVariables false
theorem nod_swap {a b : List Fl} {l : List Int} (h : NodP a b l) : NodP b a l :=
  ⟨h.1, fun n => by
    rw [h.2]
    constructor <;> (rintro ⟨f, h1, h2⟩; exact ⟨f, fun e => h1 e.symm, h2⟩)⟩
theorem nod_self (a : List Fl) : NodP a a [] := ⟨trivial, fun n => by simp⟩
/-! ### one matched with one -/
end Go.Proofs.YtfcphagmjijmkaaGreatDoor

namespace Go.Proofs.YtfcphagmjijmkaaGreatDoor
open Go.RowKit
set_option linter.unusedVariables false
attribute [local go_sem] vwp vUpon_value vUpon_skip vUpon_enter vUpon_row
set_option linter.unusedSimpArgs false
set_option linter.unusedVariables false
theorem join_right {a b c : Re} (ha : a = Re.none ∨ emptyR a = false) (hb : emptyR b = false) (hc : emptyR c = false) : joinR (joinR a b) c = joinR (joinR a c) b := by
  rcases ha with rfl | ha
  · rw [join_none b hb, join_none c hc, (join_full hb hc).1, (join_full hc hb).1]
    simp only [Re.mk.injEq]
    omega
  · obtain ⟨e1, n1⟩ := join_full ha hb
    obtain ⟨e2, n2⟩ := join_full ha hc
    rw [(join_full n1 hc).1, (join_full n2 hb).1, e1, e2]
    simp only [Re.mk.injEq]
    omega
theorem abt_perm {l m : List Re} (h : l.Perm m) : ∀ (o : Re), (o = Re.none ∨ emptyR o = false) → (∀ q ∈ l, emptyR q = false) → l.foldl joinR o = m.foldl joinR o := by
  induction h with
  | nil => intro o _ _; rfl
  | cons x _ ih => intro o ho hl; exact ih (joinR o x) (.inr (join_ok ho (hl x (by simp)))) (fun q hq => hl q (List.mem_cons_of_mem _ hq))
  | swap x y l =>
    intro o ho hl
    simp only [List.foldl_cons]
    rw [join_right ho (hl y (by simp)) (hl x (by simp))]
  | trans h1 h2 ih1 ih2 => intro o ho hl; rw [ih1 o ho hl, ih2 o ho (fun q hq => hl q (h1.mem_iff.2 hq))]
theorem tld_same {l m : List Re} (hl : MayL l) (hm : MayL m) (he : ∀ q ∈ l, emptyR q = false) (hp : l.Perm m) : tldL l = tldL m := by
  have hs : formR l [] 1 = formR m [] 1 := form_same hl.sane mayL_nil.sane hm.sane mayL_nil.sane (fun x z => by
    rw [want1, want1]
    have : hasL l x z = hasL m x z := by
      unfold hasL
      rw [Bool.eq_iff_iff, List.any_eq_true, List.any_eq_true]
      constructor
      · rintro ⟨q, hq, h⟩; exact ⟨q, hp.mem_iff.1 hq, h⟩
      · rintro ⟨q, hq, h⟩; exact ⟨q, hp.mem_iff.2 hq, h⟩
    rw [this])
  have h1 : bothE l [] 1 = bothE m [] 1 := by rw [bothE_of hl, bothE_of hm, hp.length_eq, hs]
  unfold tldL
  rw [h1]
  split
  · rename_i h0
    rw [(both_is (h1.trans h0)).1, (both_is h0).1, hs]
  · unfold abtR
    rw [abt_perm hp _ (.inl rfl) he]
/-! ### the damage of two lists -/
theorem pieA_swap (a b : List Fl) : (pieA b a).Perm (pieA a b) := by
  unfold pieA
  rw [mid_swap a b]
  exact List.perm_append_comm
/-- Either way round. -/
theorem dmg_swap {xs ys : List St} (h : dmgE xs ys = 0) (hx : ∀ s ∈ xs, s.Wf) (hy : ∀ s ∈ ys, s.Wf) : dmgE ys xs = 0 ∧ dmgL ys xs = dmgL xs ys := by
  obtain ⟨c1, c2⟩ := dmgE_zero h
  have h2 : dmgE ys xs = 0 := by unfold dmgE; rw [if_pos c2, c1]
  have o1 := flts_ok c1 hx
  have o2 := flts_ok c2 hy
  refine ⟨h2, ?_⟩
  unfold dmgL
  rw [if_pos h, if_pos h2]
  exact tld_same (pieA_may o2 o1) (pieA_may o1 o2) (pieA_full o2 o1) (pieA_swap _ _)
/-- A list and itself. -/
theorem dmg_self (xs : List St) : dmgL xs xs = [] := by
  unfold dmgL
  split
  · unfold pieA
    rw [mid_self]
    rfl
  · rfl
end Go.Proofs.YtfcphagmjijmkaaGreatDoor

namespace Go.Proofs.YtfcphagmjijmkaaGreatDoor
open Go.RowKit
set_option linter.unusedVariables false
attribute [local go_sem] vwp vUpon_value vUpon_skip vUpon_enter vUpon_row
set_option linter.unusedSimpArgs false
set_option linter.unusedVariables false
/-! ### less -/
/-! ### the form of what changed is no longer than the runs -/
/-! ### more behind a list -/
theorem flts_app {a b : List St} (ha : chkL a = 0) (hb : chkL b = 0) (hl : a.length + b.length ≤ 16384) : chkL (a ++ b) = 0 ∧ flts (a ++ b) = flts a ++ flts b := by
  obtain ⟨h1, h2, h3⟩ := flat_app ha hb hl
  refine ⟨h1, ?_⟩
  unfold flts fltZ
  rw [h2, h3, List.zipWith_append flsr_len.symm]
theorem flts_nil : flts [] = [] := rfl
theorem dmg_more {a b : List St} (ha : chkL a = 0) (hb : chkL b = 0) (hl : a.length + b.length ≤ 16384) : dmgE a (a ++ b) = 0 ∧ dmgE [] b = 0 ∧ dmgL a (a ++ b) = dmgL [] b := by
  obtain ⟨h1, h2⟩ := flts_app ha hb hl
  have e1 : dmgE a (a ++ b) = 0 := by unfold dmgE; rw [if_pos ha, h1]
  have e2 : dmgE [] b = 0 := by unfold dmgE; rw [if_pos (show chkL [] = 0 from rfl), hb]
  refine ⟨e1, e2, ?_⟩
  unfold dmgL
  rw [if_pos e1, if_pos e2, h2, flts_nil]
  unfold pieA
  rw [mid_more, show midP [] (flts b) = ([], flts b) from mid_more [] (flts b)]
/-! ### what changed lies in the damage -/
end Go.Proofs.YtfcphagmjijmkaaGreatDoor

namespace Go.Proofs
open Go.Shelf
def YtfcphagmjijmkaaGreatDoor.growRen : Go.Shelf.Ren := ⟨fun | 4 => 133 | n => n, fun | 22 => 22 | 25 => 36 | n => n, fun n => n⟩
theorem YtfcphagmjijmkaaGreatDoor.growLays : Lays8.n4 Tryz.prog YtfcphagmjijmkaaGreatDoor.growRen := {
  mixed := by kernel_rfl
  f4 := ⟨Tryz.f133.name, by decide, Tryz.func133.trans (congrArg some (by kernel_rfl))⟩
  t0 := Tryz.underlying0
  a0 := Tryz.isAgg0
  z0 := Tryz.sizeOf0
  v0 := Tryz.zeroValue0
  t3 := Tryz.underlying3
  a3 := Tryz.isAgg3
  z3 := Tryz.sizeOf3
  v3 := Tryz.zeroValue3
  t4 := Tryz.underlying4
  a4 := Tryz.isAgg4
  z4 := Tryz.sizeOf4
  v4 := Tryz.zeroValue4
  t9 := Tryz.underlying9
  a9 := Tryz.isAgg9
  z9 := Tryz.sizeOf9
  v9 := Tryz.zeroValue9
  t20 := Tryz.underlying20
  a20 := Tryz.isAgg20
  z20 := Tryz.sizeOf20
  v20 := Tryz.zeroValue20
  t22 := Tryz.underlying22
  a22 := Tryz.isAgg22
  z22 := Tryz.sizeOf22
  v22 := Tryz.zeroValue22 }
end Go.Proofs
namespace Go.Proofs.YtfcphagmjijmkaaGreatDoor
open Go.RowKit
set_option linter.unusedVariables false
attribute [local go_sem] vwp vUpon_value vUpon_skip vUpon_enter vUpon_row
set_option linter.unusedSimpArgs false
set_option linter.unusedVariables false
section
set_option linter.unusedSimpArgs false
set_option linter.unusedVariables false
theorem grow_any (n : Nat) (w : World) (hn : n ≤ 65536) : Calls Tryz.prog 133 #[.slice none 0 0, .int .i64 n] w fun e w' => ∃ v, e = .returned v ∧ w'.ownsRow w.heap.size 36 15 v 0 [] ∧ Below w.heap.size w w' := by
 obtain ⟨iM, hi0, hm0, hm1, hm2⟩ := info_parts infoSt
 rcases Nat.eq_zero_or_pos n with rfl | h0
 ·refine (Any8.slices_Grow_room YtfcphagmjijmkaaGreatDoor.growLays none 0 0 0 w (Nat.le_refl _) (by omega) (by omega) (by omega)).mono ?_
  rintro e w' ⟨rfl, rfl⟩
  exact ⟨_, rfl, World.ownsRow_nil _ _ _ _, Below.refl _ _⟩
 ·refine (Any8.slices_Grow_grow YtfcphagmjijmkaaGreatDoor.growLays iM _ hi0 hm0 (by omega) none 0 0 n [] w (Nat.le_refl _) (by omega) (by rw [hm2]; omega) (by omega) (by simp) (fun _ => rfl) (fun a h => by cases h)).mono ?_
  rintro e w' ⟨rfl, rfl⟩
  have hge := grownCap_ge w (0 + n) 0 (YtfcphagmjijmkaaGreatDoor.growRen.t 25)
  have hle := grownCap_le_maxLen w (0 + n) 0 (YtfcphagmjijmkaaGreatDoor.growRen.t 25) (by unfold maxLen; omega)
  refine ⟨_, rfl, ⟨by simp, .inr ⟨w.heap.size, _, _, rfl, Nat.le_refl _, heap_alloc_new w.drew _, Nat.zero_le _, hle, ?_, by simp⟩⟩, (Below.refl _ _).drew.alloc (Nat.le_refl _) _⟩
  simp only [Array.size_append, List.size_toArray, size_zeroCells, List.length_nil]
  rw [show (Value.agg #[.int .u8 0, .int .i64 0, .int .i64 0, .int .i64 0, .int .i64 0, .int .u8 0, .int .u8 0, .int .u8 0, .int .u8 0, .int .u8 0, .int .u8 0, .int .u8 0, .int .u8 0, .string ⟨#[]⟩, .int .i64 0]).cells.size = 15 from rfl]
  omega
end
section
set_option linter.unusedSimpArgs false
set_option linter.unusedVariables false
set_option maxRecDepth 100000 in
set_option maxHeartbeats 1000000 in
theorem concat_any (xs ys : List St) (v1 v2 : Value) (b : Nat) (w : World) (h1 : Row w.heap.size 15 St.enc w v1 xs) (h2 : Row w.heap.size 15 St.enc w v2 ys) (hn : xs.length ≤ 20000) (hm : ys.length ≤ 20000)
  (hb : b < w.heap.size) (g0 : w.cell? ⟨b, 0, none⟩ = some v1) (g1 : w.cell? ⟨b, 1, none⟩ = some v2) : Calls Tryz.prog 88 #[.slice (some ⟨b, 0, none⟩) 2 2] w fun e w' => ∃ v', e = .returned v' ∧ Owns w.heap.size w' v' (xs ++ ys) ∧ Below w.heap.size w w' := by
 obtain ⟨iM, hi0, hm0, hm1, hm2⟩ := info_parts infoSt
 obtain ⟨s1, c1, rfl, hmax1⟩ := h1.shape
 obtain ⟨s2, c2, rfl, hmax2⟩ := h2.shape
 replace h1 := Lib.hid h1
 replace h2 := Lib.hid h2
 obtain ⟨n, en⟩ : ∃ n, xs.length = n := ⟨_, rfl⟩
 obtain ⟨m, em⟩ : ∃ n, ys.length = n := ⟨_, rfl⟩
 rw [en] at g0 hn hmax1
 rw [em] at g1 hm hmax2
 replace en := Lib.hid en
 replace em := Lib.hid em
 have GA := fun w => grow_any (n + m) w (by omega)
 rw [show ((n + m : Nat) : Int) = (n : Int) + m by omega] at GA
 replace GA := Lib.hid GA
 go_enter Tryz.func88, Tryz.ntmps88
 go_wp2
 go_loopw [3, 11] (fun z i wr => ((i = .int .i64 0 ∧ z = .int .i64 0) ∨ (i = .int .i64 1 ∧ z = .int .i64 n) ∨ (i = .int .i64 2 ∧ z = .int .i64 ((n : Int) + m))) ∧ Below w.heap.size w wr) (fun _ i _ => 2 - (intOf i).toNat)
 case atStart => exact ⟨.inl ⟨rfl, rfl⟩, (by repeat (first | exact Below.refl _ _ | assumption | refine Below.drew ?_ | refine Below.alloc ?_ (by (try simp) <;> omega) _ | refine Below.setCell ?_ (by (try simp) <;> omega) _))⟩
 case round =>
  obtain ⟨hk, hbr⟩ := hrel
  have zr := hbr.size
  obtain ⟨hcr, hfr⟩ := bcell hbr
  have yb : b < wr.heap.size := by omega
  rcases hk with ⟨rfl, rfl⟩ | ⟨rfl, rfl⟩ | ⟨rfl, rfl⟩
  ·go_wp2
   go_roundw
   case rel => exact ⟨.inr (.inl ⟨rfl, rfl⟩), hbr⟩
   case measure => simp [intOf]
  ·go_wp2
   go_roundw
   case rel => exact ⟨.inr (.inr ⟨rfl, rfl⟩), hbr⟩
   case measure => simp [intOf]
  ·go_wp2_with (first
    | (go_at_call 133; (with_reducible refine (GA.out _).mono ?_); rintro e w3 ⟨v3, rfl, hown3, hb3⟩)
    | go_in)
   have hb03 : Below w.heap.size w w3 := hbr.trans (hb3.mono zr)
   have z3 := hb03.size
   have hown03 : w3.ownsRow w.heap.size 36 15 v3 0 [] := ⟨hown3.1, hown3.2.imp id (fun ⟨g, cap, cur, e, hg, r⟩ => ⟨g, cap, cur, e, Nat.le_trans zr hg, r⟩)⟩
   clear hown3 hb3 hcr hfr hbr zr yb
   go_wp2
   go_loopw [6, 27] (fun v i wr => ((i = .int .i64 0 ∧ wr.ownsRow w.heap.size 36 15 v 0 []) ∨ (i = .int .i64 1 ∧ wr.ownsRow w.heap.size 36 15 v n (xs.flatMap St.enc)) ∨ (i = .int .i64 2 ∧ wr.ownsRow w.heap.size 36 15 v (n + m) (xs.flatMap St.enc ++ ys.flatMap St.enc))) ∧ Below w.heap.size w wr) (fun _ i _ => 2 - (intOf i).toNat)
   case atStart => exact ⟨.inl ⟨rfl, hown03⟩, hb03⟩
   case round =>
    obtain ⟨hk, hbr⟩ := hrel
    have zr := hbr.size
    obtain ⟨hcr, hfr⟩ := bcell hbr
    have yb : b < wr.heap.size := by omega
    rcases hk with ⟨rfl, hown⟩ | ⟨rfl, hown⟩ | ⟨rfl, hown⟩
    ·have hrow : Row w.heap.size 15 St.enc wr (.slice s1 n c1) xs := by have := h1.out.below hbr; rw [en.out] at this; exact this
     have en' := en.out
     go_wp2_with (first
      | (at_builtin; refine wpList_append_row rfl _ _ _ rfl w.heap.size 36 iM _ 15 72 Tryz.underlying22 hi0 hm0 hm1 hm2 rfl (by omega) wr _ _ _ (by rfl) hown St.enc_len St.enc_one w.heap.size _ xs hrow (by rfl) (by unfold maxLen; omega) (by omega) zr ?_; intro v4 w4 hown4 hgr4)
      | go_in)
     have hb4 : Below w.heap.size w w4 := hbr.grown hgr4 zr (fun g hg => (hown.lt g hg).1)
     rw [Nat.zero_add, List.nil_append, en'] at hown4
     replace hown4 := Lib.hid hown4
     go_wp2
     go_roundw
     case rel => exact ⟨.inr (.inl ⟨rfl, hown4.out⟩), hb4⟩
     case measure => simp [intOf]
    ·have hrow : Row w.heap.size 15 St.enc wr (.slice s2 m c2) ys := by have := h2.out.below hbr; rw [em.out] at this; exact this
     have em' := em.out
     go_wp2_with (first
      | (at_builtin; refine wpList_append_row rfl _ _ _ rfl w.heap.size 36 iM _ 15 72 Tryz.underlying22 hi0 hm0 hm1 hm2 rfl (by omega) wr _ _ _ (by rfl) hown St.enc_len St.enc_one w.heap.size _ ys hrow (by rfl) (by unfold maxLen; omega) (by omega) zr ?_; intro v4 w4 hown4 hgr4)
      | go_in)
     have hb4 : Below w.heap.size w w4 := hbr.grown hgr4 zr (fun g hg => (hown.lt g hg).1)
     rw [em'] at hown4
     replace hown4 := Lib.hid hown4
     go_wp2
     go_roundw
     case rel => exact ⟨.inr (.inr ⟨rfl, hown4.out⟩), hb4⟩
     case measure => simp [intOf]
    ·replace hown := Lib.hid hown
     go_wp2
     go_ret
     refine ⟨_, rfl, ?_, hbr⟩
     have := hown.out
     unfold Owns
     rw [List.length_append, List.flatMap_append, en.out, em.out]
     exact this
end
section
set_option linter.unusedSimpArgs false
set_option linter.unusedVariables false
theorem Owns.less {B base : Nat} {w : World} {v : Value} {xs : List St} (h : Owns base w v xs) (hB : B ≤ base) : Owns B w v xs := by
  obtain ⟨h1, h2⟩ := h
  refine ⟨h1, ?_⟩
  rcases h2 with h2 | ⟨g, cap, cur, hv, hg, r⟩
  · exact .inl h2
  · exact .inr ⟨g, cap, cur, hv, by omega, r⟩
theorem idx_zero (a b : Value) (w : World) : (Instr.index 131 (.agg #[a, b]) (.int .i64 0)).run Tryz.prog w = .ok a w := by
  have A := Tryz.underlying131
  have B := Tryz.underlying22
  have C := Tryz.sizeOf22 w
  simp [Instr.index, asIntOf, run_underlying A, Go.part, isAgg, run_underlying B, C]
theorem idx_one (a b : Value) (w : World) : (Instr.index 131 (.agg #[a, b]) (.int .i64 1)).run Tryz.prog w = .ok b w := by
  have A := Tryz.underlying131
  have B := Tryz.underlying22
  have C := Tryz.sizeOf22 w
  simp [Instr.index, asIntOf, run_underlying A, Go.part, isAgg, run_underlying B, C]
set_option maxHeartbeats 1000000 in
set_option maxRecDepth 100000 in
theorem ljoin_any (xs ys : List St) (v1 v2 : Value) (w : World) (h1 : Row w.heap.size 15 St.enc w v1 xs) (h2 : Row w.heap.size 15 St.enc w v2 ys) (k1 : ∀ s ∈ xs, s.Wf) (k2 : ∀ s ∈ ys, s.Wf) : Calls Tryz.prog 40 #[v1, v2] w (OutU w.heap.size (joinL xs ys) (joinE xs ys) w) := by
 obtain ⟨iM, hi0, hm0, hm1, hm2⟩ := info_parts infoSt
 have C1 := fun w' (hb : Below w.heap.size w w') => lcheck_any xs v1 w' ((h1.below hb).mono hb.size) k1
 have C2 := fun w' (hb : Below w.heap.size w w') => lcheck_any ys v2 w' ((h2.below hb).mono hb.size) k2
 obtain ⟨s1, cc1, rfl, hmax1⟩ := h1.shape
 obtain ⟨s2, cc2, rfl, hmax2⟩ := h2.shape
 replace h1 := Lib.hid h1
 replace h2 := Lib.hid h2
 clear k1 k2
 obtain ⟨n, en⟩ : ∃ n, xs.length = n := ⟨_, rfl⟩
 obtain ⟨m, em⟩ : ∃ n, ys.length = n := ⟨_, rfl⟩
 obtain ⟨eR, hR1⟩ : ∃ e, joinE xs ys = e := ⟨_, rfl⟩
 obtain ⟨lR, hR2⟩ : ∃ l, joinL xs ys = l := ⟨_, rfl⟩
 rw [hR1, hR2]
 rw [en] at C1 hmax1 ⊢
 rw [em] at C2 hmax2 ⊢
 replace C1 := Lib.hid C1
 replace C2 := Lib.hid C2
 replace en := Lib.hid en
 replace em := Lib.hid em
 have I0 := idx_zero (.slice s1 n cc1) (.slice s2 m cc2)
 have I1 := idx_one (.slice s1 n cc1) (.slice s2 m cc2)
 go_enter Tryz.func40, Tryz.ntmps40
 go_wp2
 go_loopw [12] (fun i wr => (i = .int .i64 0 ∨ (i = .int .i64 1 ∧ chkL xs = 0) ∨ (i = .int .i64 2 ∧ chkL xs = 0 ∧ chkL ys = 0)) ∧ Below w.heap.size w wr) (fun i _ => 2 - (intOf i).toNat)
 case atStart => exact ⟨.inl rfl, (by repeat (first | exact Below.refl _ _ | assumption | refine Below.drew ?_ | refine Below.alloc ?_ (by (try simp) <;> omega) _ | refine Below.setCell ?_ (by (try simp) <;> omega) _))⟩
 case round =>
  obtain ⟨hk, hbr⟩ := hrel
  have zr := hbr.size
  rcases hk with rfl | ⟨rfl, c1⟩ | ⟨rfl, c1, c2⟩
  ·by_cases c1 : chkL xs = 0
   ·have c1' := Lib.hid c1
    replace C1 := C1.out
    rw [c1] at C1
    replace C1 := Lib.hid C1
    clear c1
    go_wp2_with (first
     | (go_at_call 38; (with_reducible refine (C1.out _ belt).mono ?_); rintro e w3 ⟨rfl, hb3⟩; have z3 := hb3.size)
     | (go_at_call 38; (with_reducible refine (C2.out _ belt).mono ?_); rintro e w3 ⟨rfl, hb3⟩; have z3 := hb3.size)
     | go_in)
    go_roundw
    case rel => exact ⟨.inr (.inl ⟨rfl, c1'.out⟩), hbr.trans (hb3.mono zr)⟩
    case measure => simp [intOf]
   ·have hcb : (chkL xs == 0) = false := by simp [c1]
    obtain ⟨e1, e2⟩ := join_a (ys := ys) c1
    rw [hR1] at e1
    rw [hR2] at e2
    subst e1
    subst e2
    clear c1 hR1 hR2
    go_wp2_with (first
     | (go_at_call 38; (with_reducible refine (C1.out _ belt).mono ?_); rintro e w3 ⟨rfl, hb3⟩; have z3 := hb3.size)
     | (go_at_call 38; (with_reducible refine (C2.out _ belt).mono ?_); rintro e w3 ⟨rfl, hb3⟩; have z3 := hb3.size)
     | go_in)
    go_ret2
    exact ⟨hbr.trans (hb3.mono zr), _, rfl, Owns.nil _ _⟩
  ·by_cases c2 : chkL ys = 0
   ·have c1' := Lib.hid c1
    have c2' := Lib.hid c2
    replace C2 := C2.out
    rw [c2] at C2
    replace C2 := Lib.hid C2
    clear c1 c2
    go_wp2_with (first
     | (go_at_call 38; (with_reducible refine (C1.out _ belt).mono ?_); rintro e w3 ⟨rfl, hb3⟩; have z3 := hb3.size)
     | (go_at_call 38; (with_reducible refine (C2.out _ belt).mono ?_); rintro e w3 ⟨rfl, hb3⟩; have z3 := hb3.size)
     | go_in)
    go_roundw
    case rel => exact ⟨.inr (.inr ⟨rfl, c1'.out, c2'.out⟩), hbr.trans (hb3.mono zr)⟩
    case measure => simp [intOf]
   ·have hcb : (chkL ys == 0) = false := by simp [c2]
    obtain ⟨e1, e2⟩ := join_b c1 c2
    rw [hR1] at e1
    rw [hR2] at e2
    subst e1
    subst e2
    clear c1 c2 hR1 hR2
    go_wp2_with (first
     | (go_at_call 38; (with_reducible refine (C1.out _ belt).mono ?_); rintro e w3 ⟨rfl, hb3⟩; have z3 := hb3.size)
     | (go_at_call 38; (with_reducible refine (C2.out _ belt).mono ?_); rintro e w3 ⟨rfl, hb3⟩; have z3 := hb3.size)
     | go_in)
    go_ret2
    exact ⟨hbr.trans (hb3.mono zr), _, rfl, Owns.nil _ _⟩
  ·have l1 := chk_len c1
   have l2 := chk_len c2
   rw [en.out] at l1
   rw [em.out] at l2
   by_cases c3 : n + m > 16384
   ·obtain ⟨e1, e2⟩ := join_c c1 c2 (by rw [en.out, em.out]; exact c3)
    rw [hR1] at e1
    rw [hR2] at e2
    subst e1
    subst e2
    clear c1 c2 hR1 hR2
    go_wp2
    go_ret2
    exact ⟨hbr, _, rfl, Owns.nil _ _⟩
   ·obtain ⟨e1, e2⟩ := join_d c1 c2 (by rw [en.out, em.out]; exact c3)
    rw [hR1] at e1
    rw [hR2] at e2
    subst e1
    subst e2
    clear c1 c2 hR1 hR2
    have CAT : ∀ (w1 : World), w1 = wr.alloc (.cells #[.slice s1 n cc1, .slice s2 m cc2] 22) → Calls Tryz.prog 88 #[.slice (some ⟨wr.heap.size, 0, none⟩) 2 2] w1 fun e w' => ∃ v', e = .returned v' ∧ Owns w1.heap.size w' v' (xs ++ ys) ∧ Below w1.heap.size w1 w' := by
     rintro w1 rfl
     have hbw : Below w.heap.size w (wr.alloc (.cells #[.slice s1 n cc1, .slice s2 m cc2] 22)) := hbr.alloc zr _
     refine concat_any xs ys (.slice s1 n cc1) (.slice s2 m cc2) _ _ ?_ ?_ (by rw [en.out]; omega) (by rw [em.out]; omega) (by simp) ?_ ?_
     ·have := (h1.out.below hbw).mono hbw.size
      rw [en.out] at this
      exact this
     ·have := (h2.out.below hbw).mono hbw.size
      rw [em.out] at this
      exact this
     ·rw [World.cell?_alloc_at _ _ _ _ rfl]; rfl
     ·rw [World.cell?_alloc_at _ _ _ _ rfl]; rfl
    replace CAT := Lib.hid CAT
    go_wp2_with (first
     | (go_at_call 88; (with_reducible refine (CAT.out _ ?_).mono ?_); (first | rfl | exact rfl); rintro e w4 ⟨v4, rfl, hown4, hb4⟩)
     | go_in)
    have hb04 : Below w.heap.size w w4 := hbr.trans ((Below.alloc (Below.refl _ _) (Nat.le_refl _) _).trans (hb4.mono (by simp)) |>.mono zr)
    replace hown4 := Lib.hid hown4
    go_wp2
    go_ret2
    exact ⟨hb04, _, rfl, hown4.out.less (by simp; omega)⟩
end
section
set_option linter.unusedSimpArgs false
set_option linter.unusedVariables false
def max4 (a b c d : Int) : Int := max (max (max a b) c) d
theorem run_max_int4 {P : Program} (w : World) (ts : Array TypeId) (t : TypeId) (a b c d : Int) : (Builtin.max_ ts t #[.int .i64 a, .int .i64 b, .int .i64 c, .int .i64 d]).run P w = .ok (.int .i64 (max4 a b c d)) w := by
  have e : ∀ x y : Int, (if y > x then y else x) = max x y := by intro x y; split <;> omega
  simp [Builtin.max_, Builtin.max2, max4, e]
attribute [local go_sem high] run_max_int4
end
end Go.Proofs.YtfcphagmjijmkaaGreatDoor
