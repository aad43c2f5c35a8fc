/-
  Cells, plain: what is drawn may be; one list drawn behind another one.
-/
import Derived.Deep.DeepCutAuto
import Derived.Laws.CopyOwn
import Derived.Test.YtffmomgmkpmpkaaGreatDoorProg
import Derived.Test.YtffmomgmkpmpkaaGreatDoorKp23
namespace Go.Proofs.YtffmomgmkpmpkaaGreatDoor
open Go.RowKit
set_option linter.unusedVariables false
attribute [local go_sem] vwp vUpon_value vUpon_skip vUpon_enter vUpon_row
set_option linter.unusedSimpArgs false
set_option linter.unusedVariables false
/-! ### what is drawn may be -/
/-- What lies of a text in a place may be a cell's. -/
def mayG (g : Gl) : Bool := validR g.rune && (if widR g.rune = 1 then !g.wide && !g.tail else if widR g.rune = 2 then g.wide != g.tail else false)
theorem glyR_may {r : Int} (hv : validR r = true) : ∀ g ∈ glyR r (widR r), mayG g = true := by
  intro g hg
  unfold glyR at hg
  split at hg
  · rename_i h
    simp only [List.mem_singleton] at hg
    subst hg
    simp [mayG, hv, h]
  · split at hg
    · rename_i h1 h
      simp only [List.mem_cons, List.not_mem_nil, or_false] at hg
      rcases hg with rfl | rfl <;> simp [mayG, hv, h]
    · cases hg
theorem runesF_valid (s : ByteArray) : ∀ (n p : Nat), ∀ r ∈ runesF n s p, validR r = true
  | 0, p, r, h => by cases h
  | n + 1, p, r, h => by
    rw [runesF] at h
    split at h
    · rcases List.mem_cons.1 h with rfl | h
      · exact dec_valid s p
      · exact runesF_valid s n _ r h
    · cases h
theorem lineG_may (l : ByteArray) : ∀ g ∈ lineG l, mayG g = true := by
  intro g hg
  unfold lineG rowG at hg
  obtain ⟨r, hr, hg⟩ := List.mem_flatMap.1 hg
  exact glyR_may (runesF_valid l _ _ r hr) g hg
theorem glyAt_may {s : ByteArray} {X Y : Nat} {g : Gl} (h : glyAt (glyS s) X Y = some g) : mayG g = true := by
  unfold glyAt at h
  cases hr : (glyS s)[Y]? with
  | none => rw [hr] at h; cases h
  | some row =>
    rw [hr] at h
    have h2 : row[X]? = some g := h
    have hm := List.mem_of_getElem? hr
    unfold glyS at hm
    obtain ⟨l, _, rfl⟩ := List.mem_map.1 hm
    exact lineG_may l g (List.mem_of_getElem? h2)
theorem frm_may (l r a b w h : Bool) : frmV l r a b w h = 0 ∨ mayG ⟨frmV l r a b w h, false, false⟩ = true := by
  cases l <;> cases r <;> cases a <;> cases b <;> cases w <;> cases h <;> first | (left; decide) | (right; kernel_rfl)
theorem mayC_of {g : Gl} (h : mayG g = true) (c b : Co) : mayC ⟨g.rune, c, b, g.wide, g.tail⟩ = true := h
theorem may_blank : mayG ⟨32, false, false⟩ = true := by kernel_rfl
theorem madeC_may {c : Ce} (hc : mayC c = true) (s : St) (x y : Int) : mayC (madeC c s (glyS s.text) x y) = true := by
  unfold madeC
  split
  · split
    · exact hc
    · rename_i k hk
      exact mayC_of (glyAt_may hk) _ _
  · split
    · exact hc
    · split
      · unfold fillC
        split
        · exact mayC_of may_blank _ _
        · exact hc
      · split
        · exact hc
        · rename_i h0
          unfold frmP at h0 ⊢
          exact mayC_of ((frm_may _ _ _ _ _ _).resolve_left h0) _ _
theorem strokeD_may {W : Nat} {s : St} {q : Re} {cs : List Ce} (h : cs.all mayC = true) : (strokeD W s (glyS s.text) q cs).all mayC = true := by
  rw [List.all_eq_true] at h ⊢
  intro c hc
  obtain ⟨k, hk⟩ := List.getElem?_of_mem hc
  unfold strokeD at hk
  rw [updP_get] at hk
  cases hd : cs[k]? with
  | none => rw [hd] at hk; cases hk
  | some d =>
    rw [hd] at hk
    have hd2 := h d (List.mem_of_getElem? hd)
    simp only [Option.map_some, Option.some.injEq] at hk
    rw [← hk]
    split
    · exact madeC_may hd2 s _ _
    · exact hd2
theorem drwGo_nil (W : Nat) (gf : ByteArray → List (List Gl)) (cs : List Ce) (rs : List Re) : drwGo W gf cs [] rs = cs := by rw [drwGo]; simp
theorem drwGo_nil2 (W : Nat) (gf : ByteArray → List (List Gl)) (cs : List Ce) (ss : List St) : drwGo W gf cs ss [] = cs := by rw [drwGo]; simp
theorem drwGo_may (W : Nat) : ∀ (ss : List St) (rs : List Re) (cs : List Ce), cs.all mayC = true → (drwGo W glyS cs ss rs).all mayC = true
  | [], rs, cs, h => by rw [drwGo_nil]; exact h
  | s :: ss, [], cs, h => by rw [drwGo_nil2]; exact h
  | s :: ss, r :: rs, cs, h => by
    rw [drwGo]
    exact drwGo_may W ss rs _ (strokeD_may h)
/-! ### clips close -/
end Go.Proofs.YtffmomgmkpmpkaaGreatDoor

namespace Go.Proofs.YtffmomgmkpmpkaaGreatDoor
open Go.RowKit
set_option linter.unusedVariables false
attribute [local go_sem] vwp vUpon_value vUpon_skip vUpon_enter vUpon_row
set_option linter.unusedSimpArgs false
set_option linter.unusedVariables false
theorem paint_plc {s : St} {q : Re} {x y : Int} (hs : s.Wf) (hk : 1 ≤ s.kind) (hm : mayR s.rect = true) (hqm : mayR q = true) (hd : drB s = true) (hin : hasR s.rect x y = true) (hh : hasR q x y = true) (hno : ∀ m ∈ plcL s q, hasR m x y = false) (out : List St) : paintP s x y out = out := by
 have hqn : q.eqb Re.none = false := by
  cases h : q.eqb Re.none
  ·rfl
  ·rw [eqb_iff.1 h, show hasR Re.none x y = false from has_none (by decide) (by decide)] at hh; cases hh
 unfold plcL at hno
 rw [hqn, hd] at hno
 simp only [Bool.not_true, Bool.or_self, Bool.false_eq_true, if_false] at hno
 have ha : 0 ≤ s.col.a := hs.2.2.1.2.2.2.1
 unfold paintP
 by_cases h3 : s.kind = 3
 ·rw [if_neg (by omega), if_neg (by omega)]
  rw [if_pos h3] at hno
  by_cases ht : s.text.toList = []
  ·rw [if_pos ht]
  ·rw [if_neg ht] at hno
   have := hno q (by simp)
   rw [hh] at this; cases this
 ·rw [if_neg h3] at hno
  by_cases h0 : s.col.a = 0
  ·rw [h0]
   split
   ·rw [if_neg (by omega), if_neg (by omega)]
   ·split
    ·simp
    ·have : decide (s.kind ≤ 3) = true := hd
     simp at this
     omega
  ·rw [if_neg h0] at hno
   by_cases h1 : s.kind = 1
   ·rw [if_pos h1] at hno
    have := hno q (by simp)
    rw [hh] at this; cases this
   ·rw [if_neg h1] at hno
    have h2 : s.kind = 2 := by
     have : decide (s.kind ≤ 3) = true := hd
     simp at this
     omega
    rw [if_neg h1, if_pos h2]
    rw [if_neg]
    intro he
    simp only [Bool.and_eq_true, decide_eq_true_eq] at he
    have hE := he.1
    unfold edgeP at hE
    simp only [Bool.or_eq_true, beq_iff_eq] at hE
    have hi := has_iff.1 hin
    have key : ∀ p ∈ sidesR s.rect, mayR p = true → hasR p x y = true → False := by
     intro p hp hpm hpx
     have hmt := has_meet (x := x) (y := y) hpm hqm
     rw [hpx, hh] at hmt
     have hmem : meetR p q ∈ meets (sidesR s.rect) q := by
      unfold meets
      rw [List.mem_filter]
      refine ⟨List.mem_map_of_mem hp, ?_⟩
      cases h : (meetR p q).eqb Re.none
      ·rfl
      ·rw [eqb_iff.1 h, show hasR Re.none x y = false from has_none (by decide) (by decide)] at hmt; cases hmt
     have := hno _ hmem
     rw [hmt] at this; cases this
    have hb := may_bd hm
    have hsum := may_sum hm
    rcases hE with ((h | h) | h) | h
    ·exact key ⟨s.rect.x, s.rect.y, 1, s.rect.ht⟩ (by simp [sidesR]) (may_of (by simp only; omega)) (has_iff.2 (by simp only; omega))
    ·exact key ⟨s.rect.x, s.rect.y, s.rect.wd, 1⟩ (by simp [sidesR]) (may_of (by simp only; omega)) (has_iff.2 (by simp only; omega))
    ·exact key ⟨s.rect.x + (s.rect.wd - 1), s.rect.y, 1, s.rect.ht⟩ (by simp [sidesR]) (may_of (by simp only; omega)) (has_iff.2 (by simp only; omega))
    ·exact key ⟨s.rect.x, s.rect.y + (s.rect.ht - 1), s.rect.wd, 1⟩ (by simp [sidesR]) (may_of (by simp only; omega)) (has_iff.2 (by simp only; omega))
end Go.Proofs.YtffmomgmkpmpkaaGreatDoor

namespace Go.Proofs.YtffmomgmkpmpkaaGreatDoor
open Go.RowKit
set_option linter.unusedVariables false
attribute [local go_sem] vwp vUpon_value vUpon_skip vUpon_enter vUpon_row
set_option linter.unusedSimpArgs false
set_option linter.unusedVariables false
/-- Where the strokes that stay show. -/
def nrmR : List St → List Re → List Re
  | s :: xs, r :: rs => (if hidB s r xs rs then [] else [r]) ++ nrmR xs rs
  | _, _ => []
/-- Each stroke of a list with where it shows. -/
def ShowsIn (xs : List St) (rs : List Re) (x y : Int) : Prop := ∀ (k : Nat) s q, xs[k]? = some s → rs[k]? = some q → hasR q x y = true → hasR s.rect x y = true
theorem ShowsIn.tail {s : St} {xs : List St} {q : Re} {rs : List Re} {x y : Int} (h : ShowsIn (s :: xs) (q :: rs) x y) : ShowsIn xs rs x y := fun k s' q' h1 h2 => h (k + 1) s' q' (by simpa using h1) (by simpa using h2)
theorem nrm_sh (x y : Int) : ∀ (xs : List St) (rs : List Re), (∀ s ∈ xs, s.Wf ∧ 1 ≤ s.kind ∧ mayR s.rect = true) → (∀ q ∈ rs, mayR q = true) → ShowsIn xs rs x y → ∀ out, atSh x y (nrmGo xs rs) (nrmR xs rs) out = atSh x y xs rs out
 | [], _, _, _, _, out => by simp [nrmGo, nrmR, atSh]
 | s :: xs, [], _, _, _, out => by simp [nrmGo, nrmR, atSh]
 | s :: xs, q :: rs, hx, hr, hi, out => by
  have ih := nrm_sh x y xs rs (fun t ht => hx t (List.mem_cons_of_mem _ ht)) (fun t ht => hr t (List.mem_cons_of_mem _ ht)) hi.tail
  rw [nrmGo, nrmR]
  cases hb : hidB s q xs rs
  ·simp only [Bool.false_eq_true, if_false, List.cons_append, List.nil_append]
   rw [atSh, atSh]
   exact ih _
  ·simp only [if_true, List.nil_append]
   rw [ih, atSh]
   unfold hidB at hb
   rw [Bool.and_eq_true, Bool.or_eq_true, decide_eq_true_eq] at hb
   obtain ⟨hd, hb⟩ := hb
   cases hh : hasR q x y
   ·rw [Bool.and_false]
    rfl
   ·rw [hd]
    simp only [Bool.and_self, if_true]
    obtain ⟨hs, hk, hm⟩ := hx s (by simp)
    have hq := hr q (by simp)
    have hin := hi 0 s q rfl rfl hh
    by_cases hex : ∃ m ∈ plcL s q, hasR m x y = true
    ·obtain ⟨m, hmm, hmh⟩ := hex
     rcases hb with hb | hb
     ·rw [List.length_eq_zero_iff.1 hb] at hmm
      simp at hmm
     ·exact cov_forget x y (plc_may hq) hmm hmh xs rs (fun t ht => hr t (List.mem_cons_of_mem _ ht)) hb _ _
    ·rw [paint_plc hs hk hm hq hd hin hh (fun m hm' => by
      cases h : hasR m x y
      ·rfl
      ·exact absurd ⟨m, hm', h⟩ hex)]
theorem nrm_shGo : ∀ (xs : List St) (M : List Re), (∀ s ∈ xs, 1 ≤ s.kind) → shGo M (nrmGo xs (shGo M xs)) = nrmR xs (shGo M xs)
  | [], M, _ => rfl
  | s :: xs, M, h => by
    have ih := nrm_shGo xs (shN M s) (fun t ht => h t (List.mem_cons_of_mem _ ht))
    rw [shGo, nrmGo, nrmR]
    cases hb : hidB s (shR M s) xs (shGo (shN M s) xs)
    · simp only [Bool.false_eq_true, if_false, List.cons_append, List.nil_append]
      rw [shGo, ih]
    · simp only [if_true, List.nil_append]
      unfold hidB at hb
      rw [Bool.and_eq_true] at hb
      have hd : decide (s.kind ≤ 3) = true := hb.1
      simp at hd
      have e : shN M s = M := by unfold shN; rw [if_neg (by omega), if_neg (by omega)]
      rw [e] at ih ⊢
      exact ih
end Go.Proofs.YtffmomgmkpmpkaaGreatDoor

namespace Go.Proofs.YtffmomgmkpmpkaaGreatDoor
open Go.RowKit
set_option linter.unusedVariables false
attribute [local go_sem] vwp vUpon_value vUpon_skip vUpon_enter vUpon_row
set_option linter.unusedSimpArgs false
set_option linter.unusedVariables false
def flagN (x y : Int) : List Re → Bool
  | [] => true
  | t :: _ => hasR t x y
def clN (x y : Int) : List Re → List Bool
  | [] => []
  | t :: N => flagN x y N :: clN x y N
theorem has_shR {N : List Re} {s : St} {x y : Int} (hN : ∀ q ∈ N, mayR q = true) (hs : mayR s.rect = true) : hasR (shR N.reverse s) x y = (flagN x y N && hasR s.rect x y) := by
  have hq : mayR (shQ N.reverse s) = true := shQ_may (fun q hq => hN q (List.mem_reverse.1 hq)) hs
  have e : hasR (shQ N.reverse s) x y = (flagN x y N && hasR s.rect x y) := by
    unfold shQ
    cases N with
    | nil => simp [flagN]
    | cons t N =>
      have hl : (t :: N).reverse.getLast? = some t := by simp
      rw [hl]
      simp only [flagN]
      rw [has_meet hs (hN t (by simp)), Bool.and_comm]
  unfold shR
  split
  · rename_i h
    rw [show hasR Re.none x y = false from has_none (by decide) (by decide), ← e, has_of_empty hq h]
  · exact e
theorem at_shGo (x y : Int) : ∀ (xs : List St) (N : List Re) (out : List St), (∀ q ∈ N, mayR q = true) → (∀ s ∈ xs, mayR s.rect = true) → (∀ s ∈ xs, s.kind = 4 ∨ s.kind = 5 ∨ s.kind ≤ 3) → chkGo N.length xs = 0 → atGo x y xs (flagN x y N) (clN x y N) out = atSh x y xs (shGo N.reverse xs) out
 | [], N, out, _, _, _, _ => by simp [atGo, shGo, atSh]
 | s :: xs, N, out, hN, hx, hk, hc => by
  have hs := hx s (by simp)
  have hsh := has_shR (x := x) (y := y) hN hs
  have hmr : mayR (shR N.reverse s) = true := by
   unfold shR
   split
   ·decide
   ·exact shQ_may (fun q hq => hN q (List.mem_reverse.1 hq)) hs
  unfold chkGo at hc
  have he : errS s = 0 := by
   by_cases h : errS s = 0
   ·exact h
   ·rw [if_pos h] at hc; exact absurd hc h
  rw [if_neg (by simpa using he)] at hc
  have ho : ¬ opn N.length s < 0 := by intro h; rw [if_pos h] at hc; omega
  rw [if_neg ho] at hc
  rw [at_cons, shGo, atSh]
  by_cases h4 : s.kind = 4
  ·rw [if_pos h4]
   have hd : drB s = false := by unfold drB; simp; omega
   have e : shN N.reverse s = (shR N.reverse s :: N).reverse := by unfold shN; rw [if_pos h4]; simp
   rw [hd, e]
   have := at_shGo x y xs (shR N.reverse s :: N) out (by intro q hq; rcases List.mem_cons.1 hq with rfl | hq; exact hmr; exact hN q hq) (fun t ht => hx t (List.mem_cons_of_mem _ ht)) (fun t ht => hk t (List.mem_cons_of_mem _ ht)) (by rw [List.length_cons]; unfold opn at hc; simp [h4] at hc; simpa using hc)
   have this : atGo x y xs (hasR (shR N.reverse s) x y) (flagN x y N :: clN x y N) out = atSh x y xs (shGo (shR N.reverse s :: N).reverse xs) out := this
   rw [hsh] at this
   rw [Bool.false_and]
   exact this
  ·rw [if_neg h4]
   by_cases h5 : s.kind = 5
   ·rw [if_pos h5]
    have hd : drB s = false := by unfold drB; simp; omega
    cases N with
    | nil => unfold opn at ho; simp [h4, h5] at ho
    | cons t N =>
     have e : shN (t :: N).reverse s = N.reverse := by unfold shN; rw [if_neg h4, if_pos h5]; simp
     rw [hd, e]
     have := at_shGo x y xs N out (fun q hq => hN q (List.mem_cons_of_mem _ hq)) (fun t ht => hx t (List.mem_cons_of_mem _ ht)) (fun t ht => hk t (List.mem_cons_of_mem _ ht)) (by unfold opn at hc; simp [h4, h5] at hc; simpa using hc)
     simpa [clN] using this
   ·rw [if_neg h5]
    have h3 : s.kind ≤ 3 := by rcases hk s (by simp) with h | h | h <;> omega
    have hd : drB s = true := by unfold drB; simpa using h3
    have e : shN N.reverse s = N.reverse := by unfold shN; rw [if_neg h4, if_neg h5]
    rw [hd, e, hsh, Bool.true_and]
    exact at_shGo x y xs N _ hN (fun t ht => hx t (List.mem_cons_of_mem _ ht)) (fun t ht => hk t (List.mem_cons_of_mem _ ht)) (by unfold opn at hc; simp [h4, h5] at hc; simpa using hc)
end Go.Proofs.YtffmomgmkpmpkaaGreatDoor

namespace Go.Proofs.YtffmomgmkpmpkaaGreatDoor
open Go.RowKit
set_option linter.unusedVariables false
attribute [local go_sem] vwp vUpon_value vUpon_skip vUpon_enter vUpon_row
set_option linter.unusedSimpArgs false
set_option linter.unusedVariables false
theorem chk_iff {o : Int} {s : St} {xs : List St} : chkGo o (s :: xs) = 0 ↔ errS s = 0 ∧ ¬ opn o s < 0 ∧ chkGo (opn o s) xs = 0 := by
  rw [chkGo]
  by_cases h : errS s = 0
  · rw [if_neg (by simpa using h)]
    by_cases ho : opn o s < 0
    · rw [if_pos ho]; simp [ho]
    · rw [if_neg ho]; simp [h, ho]
  · rw [if_pos (by simpa using h)]; simp [h]
theorem chk_nrm : ∀ (xs : List St) (rs : List Re) (o : Int), rs.length = xs.length → chkGo o xs = 0 → chkGo o (nrmGo xs rs) = 0
  | [], _, o, _, h => by simpa [nrmGo] using h
  | s :: xs, [], o, hl, h => by simp at hl
  | s :: xs, q :: rs, o, hl, h => by
    obtain ⟨h1, h2, h3⟩ := chk_iff.1 h
    have ih := chk_nrm xs rs (opn o s) (by simpa using hl) h3
    rw [nrmGo]
    cases hb : hidB s q xs rs
    · simp only [Bool.false_eq_true, if_false, List.cons_append, List.nil_append]
      exact chk_iff.2 ⟨h1, h2, ih⟩
    · simp only [if_true, List.nil_append]
      unfold hidB at hb
      rw [Bool.and_eq_true] at hb
      have hd : decide (s.kind ≤ 3) = true := hb.1
      simp at hd
      have e : opn o s = o := by unfold opn; rw [if_neg (by omega), if_neg (by omega)]
      rw [e] at ih
      exact ih
theorem chk_pair {c d : St} (h : pairB c d = true) : ∀ (a b : List St) (o : Int), chkGo o (a ++ c :: d :: b) = 0 → chkGo o (a ++ b) = 0
  | [], b, o, hc => by
    have h4 : c.kind = 4 := by unfold pairB at h; simp at h; exact h.1
    have h5 : d.kind = 5 := by unfold pairB at h; simp at h; exact h.2
    obtain ⟨_, _, hc⟩ := chk_iff.1 hc
    obtain ⟨_, _, hc⟩ := chk_iff.1 hc
    have e : opn (opn o c) d = o := by
      have e1 : opn o c = o + 1 := by unfold opn; rw [if_pos h4]
      unfold opn at e1 ⊢
      rw [e1, if_neg (by omega), if_pos h5]; omega
    rw [e] at hc
    exact hc
  | s :: a, b, o, hc => by
    obtain ⟨h1, h2, h3⟩ := chk_iff.1 hc
    exact chk_iff.2 ⟨h1, h2, chk_pair h a b _ h3⟩
theorem chk_bGo : ∀ (xs st : List St) (o : Int), chkGo o (st.reverse ++ xs) = 0 → chkGo o (bGo st xs) = 0
  | [], st, o, h => by cases st <;> simpa [bGo] using h
  | s :: r, [], o, h => by
    rw [bGo]
    exact chk_bGo r [s] o (by simpa using h)
  | s :: r, c :: st, o, h => by
    rw [bGo]
    cases hp : pairB c s
    · rw [if_neg (by decide)]
      exact chk_bGo r (s :: c :: st) o (by simpa using h)
    · rw [if_pos rfl]
      refine chk_bGo r st o (chk_pair hp st.reverse r o ?_)
      simpa using h
theorem chk_go0 {xs : List St} (h : chkL xs = 0) : chkGo 0 xs = 0 := by
  unfold chkL at h
  split at h
  · omega
  · exact h
theorem chk_norm {xs : List St} (h : chkL xs = 0) : chkL (normS xs) = 0 := by
  have hl := chk_len h
  have e : normS xs = busyL (nrmGo xs (shL xs)) := if_pos h
  have h1 := chk_bGo (nrmGo xs (shL xs)) [] 0 (by simpa using chk_nrm xs (shL xs) 0 (shL_len xs) (chk_go0 h))
  have hn : (normS xs).length ≤ xs.length := by rw [e]; exact Nat.le_trans (busy_le _) (nrm_le _ _)
  unfold chkL
  rw [if_neg (by omega), e]
  exact h1
end Go.Proofs.YtffmomgmkpmpkaaGreatDoor

namespace Go.Proofs.YtffmomgmkpmpkaaGreatDoor
open Go.RowKit
set_option linter.unusedVariables false
attribute [local go_sem] vwp vUpon_value vUpon_skip vUpon_enter vUpon_row
set_option linter.unusedSimpArgs false
set_option linter.unusedVariables false
section
set_option linter.unusedSimpArgs false
set_option linter.unusedVariables false
/-- Only the row that came in, or a new one, has turned. -/
def EdI (v : Value) (w : World) (tv : Value) (wr : World) : Prop := w.grownBy wr v.ownBlock ∧ ∀ g, tv.ownBlock = some g → v.ownBlock = some g ∨ w.heap.size ≤ g
theorem EdI.start (v : Value) (w : World) : EdI v w v w := ⟨grown_refl _ _, fun g hg => .inl hg⟩
theorem EdI.step {v tv v' : Value} {w wr w1 w2 : World} (h : EdI v w tv wr) (hb : Below wr.heap.size wr w1) (hg : w1.grownBy w2 tv.ownBlock) (tw : ∀ g, v'.ownBlock = some g → tv.ownBlock = some g ∨ w1.heap.size ≤ g) : EdI v w v' w2 := by
  obtain ⟨h1, h2⟩ := h
  have z1 := h1.size
  have z2 := hb.size
  refine ⟨⟨hg.os.trans (hb.os.trans h1.os), hg.tape.trans (hb.tape.trans h1.tape), hg.output.trans (hb.output.trans h1.output), Nat.le_trans (Nat.le_trans z1 z2) hg.size, fun k hk hne => ?_⟩, fun g hg' => ?_⟩
  · rw [hg.block k (by omega) (by
      intro e
      rcases h2 k e.symm with h | h
      · exact hne h.symm
      · omega), hb.block k (by omega), h1.block k hk hne]
  · rcases tw g hg' with h | h
    · exact h2 g h
    · exact .inr (by omega)
theorem EdI.stay {v tv : Value} {w wr w1 : World} (h : EdI v w tv wr) (hb : Below wr.heap.size wr w1) : EdI v w tv w1 :=
  h.step hb (grown_refl _ _) (fun g hg => .inl hg)
end
end Go.Proofs.YtffmomgmkpmpkaaGreatDoor

namespace Go.Proofs.YtffmomgmkpmpkaaGreatDoor
open Go.RowKit
set_option linter.unusedVariables false
attribute [local go_sem] vwp vUpon_value vUpon_skip vUpon_enter vUpon_row
set_option linter.unusedSimpArgs false
set_option linter.unusedVariables false
section
set_option linter.unusedSimpArgs false
set_option linter.unusedVariables false
def MadePost (E : Int) (L : List Re) (w : World) (e : Ending) (w' : World) : Prop := Below w.heap.size w w' ∧ ∃ v, e = .returned (.tuple #[v, .int .i64 E]) ∧ OwnsR w.heap.size w' v L
end
section
set_option linter.unusedSimpArgs false
set_option linter.unusedVariables false
theorem MadePost.mono {E : Int} {L : List Re} {w w1 : World} {e : Ending} {w' : World} (hb : Below w.heap.size w w1) (h : MadePost E L w1 e w') : MadePost E L w e w' := by
  obtain ⟨h1, v, h2, h3⟩ := h
  exact ⟨hb.trans (h1.mono hb.size), v, h2, own_less h3 hb.size⟩
end
end Go.Proofs.YtffmomgmkpmpkaaGreatDoor

namespace Go.Proofs.YtffmomgmkpmpkaaGreatDoor
open Go.RowKit
set_option linter.unusedVariables false
attribute [local go_sem] vwp vUpon_value vUpon_skip vUpon_enter vUpon_row
set_option linter.unusedSimpArgs false
set_option linter.unusedVariables false
section
set_option linter.unusedSimpArgs false
set_option linter.unusedVariables false
/-- What shows of a stroke is nothing, or a rectangle with places within one with places. -/
theorem shR_full {M : List Re} {s : St} (h : (shR M s).eqb Re.none = false) : emptyR (shR M s) = false ∧ emptyR s.rect = false := by
  unfold shR at h ⊢
  cases he : emptyR (shQ M s)
  · rw [he] at h
    simp only [Bool.false_eq_true, if_false] at h ⊢
    refine ⟨he, ?_⟩
    unfold shQ at he
    split at he
    · exact he
    · rename_i t _
      cases hs : emptyR s.rect
      · rfl
      · unfold meetR at he
        rw [hs] at he
        simp at he
        exact absurd he (by decide)
  · rw [he] at h
    simp only [if_true] at h
    exact absurd h (by decide)
theorem shGo_full : ∀ (xs : List St) (M : List Re) (k : Nat) (s : St) (q : Re), xs[k]? = some s → (shGo M xs)[k]? = some q → q.eqb Re.none = false → emptyR q = false ∧ emptyR s.rect = false
  | [], _, k, s, q, h, _, _ => by simp at h
  | t :: xs, M, 0, s, q, h, hq, hn => by
    simp at h
    subst h
    have e : shGo M (t :: xs) = shR M t :: shGo (shN M t) xs := by
      have := shGo_drop (M := M) (xs := t :: xs) (k := 0) (s := t) rfl
      simpa using this
    rw [e] at hq
    simp at hq
    subst hq
    exact shR_full hn
  | t :: xs, M, k + 1, s, q, h, hq, hn => by
    have e : shGo M (t :: xs) = shR M t :: shGo (shN M t) xs := by
      have := shGo_drop (M := M) (xs := t :: xs) (k := 0) (s := t) rfl
      simpa using this
    rw [e] at hq
    exact shGo_full xs (shN M t) k s q (by simpa using h) (by simpa using hq) hn
theorem shL_may {xs : List St} (h : chkL xs = 0) : ∀ q ∈ shL xs, mayR q = true := shGo_may xs [] (by simp) (fun s hs => err_may (chk_mem h s hs))
theorem err_kind {s : St} (h : errS s = 0) (hs : s.Wf) : 1 ≤ s.kind := by
  have h0 := hs.1.1
  by_cases c : 1 ≤ s.kind
  · exact c
  · have : s.kind = 0 := by omega
    unfold errS mis1 at h
    simp [this] at h
theorem blk_re {w : World} {b : Nat} {q : Re} {e : TypeId} (h : Blk w b q.enc e) : RMem w b 0 q := ⟨h.cell (o := 0) rfl, h.cell (o := 1) rfl, h.cell (o := 2) rfl, h.cell (o := 3) rfl⟩
end
end Go.Proofs.YtffmomgmkpmpkaaGreatDoor

namespace Go.Proofs.YtffmomgmkpmpkaaGreatDoor
open Go.RowKit
set_option linter.unusedVariables false
attribute [local go_sem] vwp vUpon_value vUpon_skip vUpon_enter vUpon_row
set_option linter.unusedSimpArgs false
set_option linter.unusedVariables false
theorem shN_rev {N : List Re} {s : St} (hN : ∀ q ∈ N, mayR q = true) (hs : mayR s.rect = true) : ∃ N' : List Re, shN N.reverse s = N'.reverse ∧ ∀ q ∈ N', mayR q = true := by
  have hmr : mayR (shR N.reverse s) = true := by
    unfold shR
    split
    · decide
    · exact shQ_may (fun q hq => hN q (List.mem_reverse.1 hq)) hs
  unfold shN
  split
  · exact ⟨shR N.reverse s :: N, by simp, by intro q hq; rcases List.mem_cons.1 hq with rfl | hq; exact hmr; exact hN q hq⟩
  · split
    · exact ⟨N.tail, by simp, fun q hq => hN q (List.mem_of_mem_tail hq)⟩
    · exact ⟨N, rfl, hN⟩
theorem shows_in (x y : Int) : ∀ (xs : List St) (N : List Re), (∀ q ∈ N, mayR q = true) → (∀ s ∈ xs, mayR s.rect = true) → ShowsIn xs (shGo N.reverse xs) x y
  | [], N, _, _ => fun k s q h => by simp at h
  | t :: xs, N, hN, hx => by
    obtain ⟨N', e, hN'⟩ := shN_rev hN (hx t (by simp))
    have ih := shows_in x y xs N' hN' (fun s hs => hx s (List.mem_cons_of_mem _ hs))
    rw [shGo, e]
    intro k s q h1 h2 hh
    cases k with
    | zero =>
      simp at h1 h2
      subst h1
      subst h2
      rw [has_shR hN (hx t (by simp)), Bool.and_eq_true] at hh
      exact hh.2
    | succ k => exact ih k s q (by simpa using h1) (by simpa using h2) hh
theorem at_sh {xs : List St} (h : chkL xs = 0) (hk : ∀ s ∈ xs, s.kind = 4 ∨ s.kind = 5 ∨ s.kind ≤ 3) (x y : Int) : atL xs x y = atSh x y xs (shL xs) [] :=
  at_shGo x y xs [] [] (by simp) (fun s hs => err_may (chk_mem h s hs)) hk (chk_go0 h)
theorem at_norm {xs : List St} (h : chkL xs = 0) (hw : ∀ s ∈ xs, s.Wf) (hk : ∀ s ∈ xs, s.kind = 4 ∨ s.kind = 5 ∨ s.kind ≤ 3) (x y : Int) : atL (normS xs) x y = atL xs x y := by
  have e : normS xs = busyL (nrmGo xs (shL xs)) := if_pos h
  have hmem := nrm_mem xs (shL xs)
  have hc := chk_nrm xs (shL xs) 0 (shL_len xs) (chk_go0 h)
  have hm := fun s hs => err_may (chk_mem h s hs)
  rw [e, at_busy, at_sh h hk]
  have h1 : atL (nrmGo xs (shL xs)) x y = atSh x y (nrmGo xs (shL xs)) (shGo ([] : List Re).reverse (nrmGo xs (shL xs))) [] :=
    at_shGo x y (nrmGo xs (shL xs)) [] [] (by simp) (fun s hs => hm s (hmem s hs)) (fun s hs => hk s (hmem s hs)) hc
  have hk1 : ∀ s ∈ xs, 1 ≤ s.kind := fun s hs => err_kind (chk_mem h s hs) (hw s hs)
  rw [h1]
  have h2 : shGo ([] : List Re).reverse (nrmGo xs (shL xs)) = nrmR xs (shL xs) := nrm_shGo xs [] hk1
  rw [h2]
  exact nrm_sh x y xs (shL xs) (fun s hs => ⟨hw s hs, hk1 s hs, hm s hs⟩) (shGo_may xs [] (by simp) hm) (shows_in x y xs [] (by simp) hm) []
end Go.Proofs.YtffmomgmkpmpkaaGreatDoor

namespace Go.Proofs.YtffmomgmkpmpkaaGreatDoor
open Go.RowKit
set_option linter.unusedVariables false
attribute [local go_sem] vwp vUpon_value vUpon_skip vUpon_enter vUpon_row
set_option linter.unusedSimpArgs false
set_option linter.unusedVariables false
section
set_option linter.unusedSimpArgs false
set_option linter.unusedVariables false
def ovrB (ps : List Re) (q : Re) : Bool := ps.any fun p => overR p q
end
end Go.Proofs.YtffmomgmkpmpkaaGreatDoor

namespace Go.Proofs.YtffmomgmkpmpkaaGreatDoor
open Go.RowKit
set_option linter.unusedVariables false
attribute [local go_sem] vwp vUpon_value vUpon_skip vUpon_enter vUpon_row
set_option linter.unusedSimpArgs false
set_option linter.unusedVariables false
section
set_option linter.unusedSimpArgs false
set_option linter.unusedVariables false
def clipS (r : Re) : St := ⟨4, r, ⟨0, 0, 0, 0⟩, ⟨0, 0, 0, 0⟩, ⟨#[]⟩, 0⟩
def openS : St := ⟨5, ⟨0, 0, 0, 0⟩, ⟨0, 0, 0, 0⟩, ⟨0, 0, 0, 0⟩, ⟨#[]⟩, 0⟩
def keepB (r : Re) (s : St) (q : Re) : Bool := !drB s || ovrB (plcL s q) r
def selGo (r : Re) : List St → List Re → List St
  | s :: xs, q :: rs => (if keepB r s q then [s] else []) ++ selGo r xs rs
  | _, _ => []
theorem sel_step {r : Re} {xs : List St} {rs : List Re} {k : Nat} {s : St} {q : Re} (hs : xs[k]? = some s) (hq : rs[k]? = some q) : selGo r (xs.drop k) (rs.drop k) = (if keepB r s q then [s] else []) ++ selGo r (xs.drop (k + 1)) (rs.drop (k + 1)) := by
  rw [drop_get hs, drop_get hq]; rfl
theorem sel_end {r : Re} {xs : List St} {rs : List Re} {k : Nat} (h : xs.length ≤ k) : selGo r (xs.drop k) (rs.drop k) = [] := by
  rw [List.drop_eq_nil_of_le h]; rfl
theorem sel_le (r : Re) : ∀ (xs : List St) (rs : List Re), (selGo r xs rs).length ≤ xs.length
  | [], _ => by simp [selGo]
  | _ :: _, [] => by simp [selGo]
  | s :: xs, q :: rs => by
    have := sel_le r xs rs
    simp only [selGo, List.length_append, List.length_cons]
    split <;> simp <;> omega
def cutL (xs : List St) (R : List Re) (r : Re) : List St := [clipS r] ++ selGo r xs R ++ [openS]
theorem cut_le (xs : List St) (R : List Re) (r : Re) : (cutL xs R r).length ≤ xs.length + 2 := by
  have := sel_le r xs R
  unfold cutL
  simp
  omega
def wiGo (xs : List St) (R : List Re) : List Re → List St → Option (List St)
  | [], out => some out
  | r :: l, out => if 16384 < (out ++ busyL (cutL xs R r)).length then none else wiGo xs R l (out ++ busyL (cutL xs R r))
theorem wi_step {xs : List St} {R : List Re} {L : List Re} {k : Nat} {r : Re} {out : List St} (h : L[k]? = some r) : wiGo xs R (L.drop k) out = if 16384 < (out ++ busyL (cutL xs R r)).length then none else wiGo xs R (L.drop (k + 1)) (out ++ busyL (cutL xs R r)) := by
  rw [drop_get h]; rfl
theorem wi_end {xs : List St} {R : List Re} {L : List Re} {k : Nat} {out : List St} (h : L.length ≤ k) : wiGo xs R (L.drop k) out = some out := by
  rw [List.drop_eq_nil_of_le h]; rfl
def optS : Option (List St) → List St
  | some l => l
  | none => []
def optE : Option (List St) → Int
  | some _ => 0
  | none => 4
def wiS (xs : List St) (qs : List Re) : List St := if chkL xs = 0 then (if bothE qs [] 1 = 0 then optS (wiGo xs (shL xs) (bothL qs [] 1) []) else []) else []
def wiE (xs : List St) (qs : List Re) : Int := if chkL xs = 0 then (if bothE qs [] 1 = 0 then optE (wiGo xs (shL xs) (bothL qs [] 1) []) else bothE qs [] 1) else chkL xs
theorem wi_le {xs : List St} {R : List Re} : ∀ (l : List Re) (out : List St), out.length ≤ 16384 → (optS (wiGo xs R l out)).length ≤ 16384
  | [], out, h => by simpa [wiGo, optS] using h
  | r :: l, out, h => by
    unfold wiGo
    split
    · simp [optS]
    · exact wi_le l _ (by omega)
theorem wiS_le (xs : List St) (qs : List Re) : (wiS xs qs).length ≤ 16384 := by
  unfold wiS
  split
  · split
    · exact wi_le _ _ (by simp)
    · simp
  · simp
theorem wf_of_may {l : List Re} (h : MayL l) : WfL l := fun q hq => may_wf (h q hq)
theorem owns_blk {base : Nat} {w : World} {b : Nat} {s : St} (h : Blk w b s.enc 46) (hb : base ≤ b) : Owns base w (.slice (some ⟨b, 0, none⟩) 1 1) [s] :=
  ⟨rfl, .inr ⟨b, 1, s.enc.toArray, rfl, hb, h, Nat.le_refl _, by unfold maxLen; omega, rfl, rfl⟩⟩
end
end Go.Proofs.YtffmomgmkpmpkaaGreatDoor

namespace Go.Proofs.YtffmomgmkpmpkaaGreatDoor
open Go.RowKit
set_option linter.unusedVariables false
attribute [local go_sem] vwp vUpon_value vUpon_skip vUpon_enter vUpon_row
set_option linter.unusedSimpArgs false
set_option linter.unusedVariables false
/-- No place in two. -/
def Apart1 (x z : Int) (l : List Re) : Prop := l.Pairwise fun p q => hasR p x z = true → hasR q x z = false
theorem rects_apart (y h x z : Int) : ∀ {l : List Sp}, CanS l → Apart1 x z (rectsOf y h l)
  | [], _ => List.Pairwise.nil
  | s :: l, hc => by
    refine List.Pairwise.cons ?_ (rects_apart y h x z hc.tail)
    intro q hq hp
    obtain ⟨t, ht, rfl⟩ := List.mem_map.1 hq
    have := hc.above t ht
    have hp := has_iff.1 hp
    simp only at hp
    rw [Bool.eq_false_iff]
    intro hh
    have hh := has_iff.1 hh
    simp only at hh
    omega
theorem flat_apart (x z : Int) : ∀ {l : List Bd}, CanB l → Apart1 x z (flatB l)
  | [], _ => List.Pairwise.nil
  | t :: l, hc => by
    rw [show flatB (t :: l) = rectsOf t.1 t.2.1 t.2.2 ++ flatB l from rfl]
    refine List.pairwise_append.2 ⟨rects_apart _ _ x z hc.good.2.2, flat_apart x z hc.tail, ?_⟩
    intro p hp q hq hh
    obtain ⟨s, hs, rfl⟩ := List.mem_map.1 hp
    have hh := has_iff.1 hh
    simp only at hh
    rw [Bool.eq_false_iff]
    intro hq2
    have h1 : hasL (flatB l) x z = true := by unfold hasL; rw [List.any_eq_true]; exact ⟨q, hq, hq2⟩
    exact hc.below_ (by omega) (has_flat.1 h1)
theorem form_apart {a b : List Re} (ha : Sane a) (hb : Sane b) (what x z : Int) : Apart1 x z (formR a b what) := flat_apart x z (bands_spec ha hb what).1
/-! ### what may be -/
theorem opn_add (o d : Int) (s : St) : opn (o + d) s = opn o s + d := by
  unfold opn
  split
  · omega
  · split <;> omega
theorem chk_app : ∀ (a b : List St) (o d : Int), 0 ≤ o → 0 ≤ d → chkGo o a = 0 → chkGo (o + d) (a ++ b) = chkGo d b
  | [], b, o, d, h0, hd, h => by
    have : o = 0 := by
      unfold chkGo at h
      split at h
      · cases h
      · omega
    subst this
    rw [List.nil_append, Int.zero_add]
  | s :: a, b, o, d, h0, hd, h => by
    obtain ⟨h1, h2, h3⟩ := chk_iff.1 h
    rw [List.cons_append, chkGo, if_neg (by simp [h1]), opn_add, if_neg (by omega)]
    exact chk_app a b (opn o s) d (by omega) hd h3
theorem chk_sel (r : Re) : ∀ (xs : List St) (rs : List Re) (o : Int), rs.length = xs.length → chkGo o xs = 0 → chkGo o (selGo r xs rs) = 0
  | [], _, o, _, h => by simpa [selGo] using h
  | s :: xs, [], o, hl, h => by simp at hl
  | s :: xs, q :: rs, o, hl, h => by
    obtain ⟨h1, h2, h3⟩ := chk_iff.1 h
    have ih := chk_sel r xs rs (opn o s) (by simpa using hl) h3
    rw [selGo]
    cases hb : keepB r s q
    · simp only [Bool.false_eq_true, if_false, List.nil_append]
      have hd : decide (s.kind ≤ 3) = true := by
        unfold keepB at hb
        rw [Bool.or_eq_false_iff] at hb
        have := hb.1
        unfold drB at this
        simpa using this
      simp at hd
      have e : opn o s = o := by unfold opn; rw [if_neg (by omega), if_neg (by omega)]
      rw [e] at ih
      exact ih
    · simp only [if_true, List.cons_append, List.nil_append]
      exact chk_iff.2 ⟨h1, h2, ih⟩
theorem err_clip {r : Re} (h : mayR r = true) : errS (clipS r) = 0 := by
  unfold errS
  have : (mis1 (clipS r) || mis2 (clipS r)) = false := by
    have h1 : mis1 (clipS ⟨0, 0, 0, 0⟩) = false := by kernel_rfl
    have h2 : mis2 (clipS ⟨0, 0, 0, 0⟩) = false := by kernel_rfl
    have e1 : mis1 (clipS r) = mis1 (clipS ⟨0, 0, 0, 0⟩) := rfl
    have e2 : mis2 (clipS r) = mis2 (clipS ⟨0, 0, 0, 0⟩) := by simp [mis2, clipS]
    rw [e1, e2, h1, h2]; rfl
  rw [this]
  simp [clipS, h]
theorem chk_cut {xs : List St} {R : List Re} (hl : R.length = xs.length) (hc : chkGo 0 xs = 0) {r : Re} (hr : mayR r = true) : chkGo 0 (cutL xs R r) = 0 := by
  unfold cutL
  rw [List.append_assoc, List.singleton_append]
  refine chk_iff.2 ⟨err_clip hr, by simp [opn, clipS], ?_⟩
  have e : opn 0 (clipS r) = 0 + 1 := by simp [opn, clipS]
  rw [e, chk_app _ [openS] 0 1 (by omega) (by omega) (chk_sel r xs R 0 hl hc)]
  have : chkGo 1 [openS] = 0 := by kernel_rfl
  exact this
theorem chk_seg {xs : List St} {R : List Re} (hl : R.length = xs.length) (hc : chkGo 0 xs = 0) {r : Re} (hr : mayR r = true) : chkGo 0 (busyL (cutL xs R r)) = 0 :=
  chk_bGo (cutL xs R r) [] 0 (by simpa using chk_cut hl hc hr)
theorem chk_segs {xs : List St} {R : List Re} (hl : R.length = xs.length) (hc : chkGo 0 xs = 0) : ∀ (F : List Re), (∀ r ∈ F, mayR r = true) → chkGo 0 (F.flatMap fun r => busyL (cutL xs R r)) = 0
  | [], _ => by simp [chkGo]
  | r :: F, h => by
    rw [List.flatMap_cons]
    have := chk_app (busyL (cutL xs R r)) (F.flatMap fun r => busyL (cutL xs R r)) 0 0 (by omega) (by omega) (chk_seg hl hc (h r (by simp)))
    rw [Int.add_zero] at this
    rw [this]
    exact chk_segs hl hc F (fun q hq => h q (List.mem_cons_of_mem _ hq))
/-! ### what shows -/
theorem at_app (x y : Int) (b : List St) (cl0 : List Bool) : ∀ (a : List St) (f : Bool) (cl : List Bool) (out : List St), chkGo cl.length a = 0 → atGo x y (a ++ b) f (cl ++ cl0) out = atGo x y b ((f :: cl).getLast (by simp)) cl0 (atGo x y a f cl out)
  | [], f, cl, out, h => by
    have : cl = [] := by
      unfold chkGo at h
      split at h
      · cases h
      · rename_i h1
        exact List.length_eq_zero_iff.1 (by omega)
    subst this
    simp [atGo]
  | s :: a, f, cl, out, h => by
    obtain ⟨h1, h2, h3⟩ := chk_iff.1 h
    rw [List.cons_append, at_cons, at_cons]
    by_cases h4 : s.kind = 4
    · rw [if_pos h4, if_pos h4]
      have := at_app x y b cl0 a (f && hasR s.rect x y) (f :: cl) out (by rw [List.length_cons]; unfold opn at h3; rw [if_pos h4] at h3; exact_mod_cast h3)
      rw [List.cons_append] at this
      rw [this, List.getLast_cons_cons]
    · rw [if_neg h4, if_neg h4]
      by_cases h5 : s.kind = 5
      · rw [if_pos h5, if_pos h5]
        cases cl with
        | nil => unfold opn at h2; simp [h5] at h2
        | cons c cl =>
          have := at_app x y b cl0 a c cl out (by unfold opn at h3; rw [if_neg h4, if_pos h5] at h3; simp at h3; exact h3)
          simp only [List.cons_append]
          rw [this, List.getLast_cons_cons]
      · rw [if_neg h5, if_neg h5]
        exact at_app x y b cl0 a f cl _ (by unfold opn at h3; rw [if_neg h4, if_neg h5] at h3; exact h3)
theorem at_off (x y : Int) : ∀ (a : List St) (cl : List Bool) (out : List St), (∀ c ∈ cl, c = false) → chkGo cl.length a = 0 → atGo x y a false cl out = out
  | [], cl, out, _, _ => by simp [atGo]
  | s :: a, cl, out, hf, h => by
    obtain ⟨h1, h2, h3⟩ := chk_iff.1 h
    rw [at_cons]
    by_cases h4 : s.kind = 4
    · rw [if_pos h4, Bool.false_and]
      exact at_off x y a (false :: cl) out (by intro c hc; rcases List.mem_cons.1 hc with rfl | hc; rfl; exact hf c hc) (by rw [List.length_cons]; unfold opn at h3; rw [if_pos h4] at h3; exact_mod_cast h3)
    · rw [if_neg h4]
      by_cases h5 : s.kind = 5
      · rw [if_pos h5]
        cases cl with
        | nil => unfold opn at h2; simp [h5] at h2
        | cons c cl =>
          have : c = false := hf c (by simp)
          subst this
          exact at_off x y a cl out (fun c hc => hf c (List.mem_cons_of_mem _ hc)) (by unfold opn at h3; rw [if_neg h4, if_pos h5] at h3; simp at h3; exact h3)
      · rw [if_neg h5, Bool.false_and]
        exact at_off x y a cl out hf (by unfold opn at h3; rw [if_neg h4, if_neg h5] at h3; exact h3)
/-- Where the strokes that a cut keeps show. -/
def selR (r : Re) : List St → List Re → List Re
  | s :: xs, q :: rs => (if keepB r s q then [q] else []) ++ selR r xs rs
  | _, _ => []
theorem sel_shGo (r : Re) : ∀ (xs : List St) (M : List Re), shGo M (selGo r xs (shGo M xs)) = selR r xs (shGo M xs)
  | [], M => rfl
  | s :: xs, M => by
    have ih := sel_shGo r xs (shN M s)
    rw [shGo, selGo, selR]
    cases hb : keepB r s (shR M s)
    · simp only [Bool.false_eq_true, if_false, List.nil_append]
      have hd : decide (s.kind ≤ 3) = true := by
        unfold keepB at hb
        rw [Bool.or_eq_false_iff] at hb
        have := hb.1
        unfold drB at this
        simpa using this
      simp at hd
      have e : shN M s = M := by unfold shN; rw [if_neg (by omega), if_neg (by omega)]
      rw [e] at ih ⊢
      exact ih
    · simp only [if_true, List.cons_append, List.nil_append]
      rw [shGo, ih]
theorem over_has {p q : Re} {x y : Int} (hp : mayR p = true) (hq : mayR q = true) (h1 : hasR p x y = true) (h2 : hasR q x y = true) : overR p q = true := by
  unfold overR
  have := has_meet (x := x) (y := y) hp hq
  rw [h1, h2] at this
  cases h : (meetR p q).eqb Re.none
  · rfl
  · rw [eqb_iff.1 h, show hasR Re.none x y = false from has_none (by decide) (by decide)] at this; cases this
theorem sel_sh (r : Re) (x y : Int) (hr : mayR r = true) (hh : hasR r x y = true) : ∀ (xs : List St) (rs : List Re), (∀ s ∈ xs, s.Wf ∧ 1 ≤ s.kind ∧ mayR s.rect = true) → (∀ q ∈ rs, mayR q = true) → ShowsIn xs rs x y → ∀ out, atSh x y (selGo r xs rs) (selR r xs rs) out = atSh x y xs rs out
  | [], _, _, _, _, out => by simp [selGo, selR, atSh]
  | s :: xs, [], _, _, _, out => by simp [selGo, selR, atSh]
  | s :: xs, q :: rs, hx, hrs, hi, out => by
    have ih := sel_sh r x y hr hh xs rs (fun t ht => hx t (List.mem_cons_of_mem _ ht)) (fun t ht => hrs t (List.mem_cons_of_mem _ ht)) hi.tail
    rw [selGo, selR]
    cases hb : keepB r s q
    · simp only [Bool.false_eq_true, if_false, List.nil_append]
      rw [ih, atSh]
      unfold keepB at hb
      rw [Bool.or_eq_false_iff] at hb
      obtain ⟨hd, hb⟩ := hb
      have hd : drB s = true := by simpa using hd
      cases hqh : hasR q x y
      · rw [Bool.and_false]
        rfl
      · rw [hd]
        simp only [Bool.and_self, if_true]
        obtain ⟨hs, hk, hm⟩ := hx s (by simp)
        have hq := hrs q (by simp)
        rw [paint_plc hs hk hm hq hd (hi 0 s q rfl rfl hqh) hqh (fun m hm' => by
          cases h : hasR m x y
          · rfl
          · unfold ovrB at hb
            rw [List.any_eq_false] at hb
            exact absurd (over_has (plc_may hq m hm') hr h hh) (hb m hm'))]
    · simp only [if_true, List.cons_append, List.nil_append]
      rw [atSh, atSh]
      exact ih _
theorem at_seg {xs : List St} (h : chkL xs = 0) (hw : ∀ s ∈ xs, s.Wf) (hk : ∀ s ∈ xs, s.kind = 4 ∨ s.kind = 5 ∨ s.kind ≤ 3) {r : Re} (hr : mayR r = true) (x y : Int) (b out : List St) :
  atGo x y (busyL (cutL xs (shL xs) r) ++ b) true [] out = atGo x y b true [] (if hasR r x y then atGo x y xs true [] out else out) := by
 have hl := shL_len xs
 have hc := chk_go0 h
 have hm := fun s hs => err_may (chk_mem h s hs)
 have hk1 : ∀ s ∈ xs, 1 ≤ s.kind := fun s hs => err_kind (chk_mem h s hs) (hw s hs)
 have e1 := at_app x y b [] (busyL (cutL xs (shL xs) r)) true [] out (by simpa using chk_seg hl hc hr)
 simp only [List.append_nil, List.getLast_singleton] at e1
 rw [e1]
 congr 1
 unfold busyL
 rw [at_bGo]
 simp only [List.reverse_nil, List.nil_append]
 unfold cutL
 rw [List.append_assoc, List.singleton_append, at_cons, if_pos (show (clipS r).kind = 4 from rfl)]
 have hsel := chk_sel r xs (shL xs) 0 hl hc
 have e2 := at_app x y [openS] [true] (selGo r xs (shL xs)) (true && hasR (clipS r).rect x y) [] out (by simpa using hsel)
 simp only [List.nil_append, List.getLast_singleton] at e2
 rw [e2, at_cons, if_neg (by decide), if_pos (show openS.kind = 5 from rfl)]
 simp only [atGo, Bool.true_and]
 show atGo x y (selGo r xs (shL xs)) (hasR r x y) [] out = _
 cases hh : hasR r x y
 ·rw [if_neg (by decide)]
  exact at_off x y _ [] out (by simp) (by simpa using hsel)
 ·rw [if_pos rfl]
  have hsm : ∀ s ∈ selGo r xs (shL xs), s ∈ xs := by
   have key : ∀ (xs : List St) (rs : List Re), ∀ s ∈ selGo r xs rs, s ∈ xs := by
    intro xs
    induction xs with
    | nil => intro rs s hs; simp [selGo] at hs
    | cons t xs ih =>
     intro rs s hs
     cases rs with
     | nil => simp [selGo] at hs
     | cons q rs =>
      rw [selGo] at hs
      rcases List.mem_append.1 hs with hs | hs
      ·split at hs
       ·simp at hs; subst hs; simp
       ·simp at hs
      ·exact List.mem_cons_of_mem _ (ih rs s hs)
   exact key xs _
  have h1 : atGo x y (selGo r xs (shL xs)) true [] out = atSh x y (selGo r xs (shL xs)) (shGo ([] : List Re).reverse (selGo r xs (shL xs))) out :=
   at_shGo x y (selGo r xs (shL xs)) [] out (by simp) (fun s hs => hm s (hsm s hs)) (fun s hs => hk s (hsm s hs)) (by simpa using hsel)
  have h2 : shGo ([] : List Re).reverse (selGo r xs (shL xs)) = selR r xs (shL xs) := sel_shGo r xs []
  have h3 : atGo x y xs true [] out = atSh x y xs (shL xs) out := at_shGo x y xs [] out (by simp) hm hk hc
  rw [h1, h2, h3]
  exact sel_sh r x y hr hh xs (shL xs) (fun s hs => ⟨hw s hs, hk1 s hs, hm s hs⟩) (shL_may h) (shows_in x y xs [] (by simp) hm) out
theorem at_segs {xs : List St} (h : chkL xs = 0) (hw : ∀ s ∈ xs, s.Wf) (hk : ∀ s ∈ xs, s.kind = 4 ∨ s.kind = 5 ∨ s.kind ≤ 3) (x y : Int) : ∀ (F : List Re), (∀ r ∈ F, mayR r = true) → Apart1 x y F → ∀ out, (hasL F x y = true → out = []) →
    atGo x y (F.flatMap fun r => busyL (cutL xs (shL xs) r)) true [] out = if hasL F x y then atL xs x y else out
  | [], _, _, out, _ => by simp [atGo, hasL]
  | r :: F, hm, ha, out, ho => by
    obtain ⟨a1, a2⟩ := List.pairwise_cons.1 ha
    have e : hasL (r :: F) x y = (hasR r x y || hasL F x y) := by simp [hasL]
    rw [e] at ho ⊢
    rw [List.flatMap_cons, at_seg h hw hk (hm r (by simp))]
    cases hh : hasR r x y
    · rw [hh, Bool.false_or] at ho
      rw [if_neg (by decide), Bool.false_or]
      exact at_segs h hw hk x y F (fun q hq => hm q (List.mem_cons_of_mem _ hq)) a2 out ho
    · have hF : hasL F x y = false := by
        unfold hasL
        rw [List.any_eq_false]
        intro q hq
        rw [a1 q hq hh]
        decide
      rw [hh, Bool.true_or] at ho
      have ho := ho rfl
      subst ho
      rw [if_pos rfl, at_segs h hw hk x y F (fun q hq => hm q (List.mem_cons_of_mem _ hq)) a2 _ (by rw [hF]; intro h; cases h), hF]
      rfl
end Go.Proofs.YtffmomgmkpmpkaaGreatDoor

namespace Go.Proofs.YtffmomgmkpmpkaaGreatDoor
open Go.RowKit
set_option linter.unusedVariables false
attribute [local go_sem] vwp vUpon_value vUpon_skip vUpon_enter vUpon_row
set_option linter.unusedSimpArgs false
set_option linter.unusedVariables false
theorem kinds_of {xs : List St} (h : chkL xs = 0) : ∀ s ∈ xs, s.kind = 4 ∨ s.kind = 5 ∨ s.kind ≤ 3 := by
  intro s hs
  have he := chk_mem h s hs
  unfold errS at he
  split at he
  · cases he
  · rename_i hh
    have h1 : mis1 s = false := by
      cases hm : mis1 s
      · rfl
      · exact absurd (by rw [hm, Bool.true_or]) hh
    unfold mis1 at h1
    simp only [Bool.or_eq_false_iff, decide_eq_false_iff_not] at h1
    omega
theorem norm_wf {xs : List St} (h : chkL xs = 0) (hw : ∀ s ∈ xs, s.Wf) : ∀ s ∈ normS xs, s.Wf := by
  intro s hs
  rw [show normS xs = busyL (nrmGo xs (shL xs)) from if_pos h] at hs
  exact hw s (nrm_mem _ _ s (busy_mem hs))
theorem clip_wf {r : Re} (h : mayR r = true) : (clipS r).Wf :=
  ⟨(by unfold U8; decide : U8 4), may_wf h, ⟨(by unfold U8; decide : U8 0), (by unfold U8; decide : U8 0), (by unfold U8; decide : U8 0), (by unfold U8; decide : U8 0)⟩, ⟨(by unfold U8; decide : U8 0), (by unfold U8; decide : U8 0), (by unfold U8; decide : U8 0), (by unfold U8; decide : U8 0)⟩, (by unfold maxLen; exact Nat.zero_le _ : (⟨#[]⟩ : ByteArray).size ≤ maxLen), (by unfold I64; decide : I64 0)⟩
theorem open_wf : openS.Wf :=
  ⟨(by unfold U8; decide : U8 5), ⟨(by unfold I64; decide : I64 0), (by unfold I64; decide : I64 0), (by unfold I64; decide : I64 0), (by unfold I64; decide : I64 0)⟩, ⟨(by unfold U8; decide : U8 0), (by unfold U8; decide : U8 0), (by unfold U8; decide : U8 0), (by unfold U8; decide : U8 0)⟩, ⟨(by unfold U8; decide : U8 0), (by unfold U8; decide : U8 0), (by unfold U8; decide : U8 0), (by unfold U8; decide : U8 0)⟩, (by unfold maxLen; exact Nat.zero_le _ : (⟨#[]⟩ : ByteArray).size ≤ maxLen), (by unfold I64; decide : I64 0)⟩
theorem sel_mem (r : Re) : ∀ (xs : List St) (rs : List Re), ∀ s ∈ selGo r xs rs, s ∈ xs
  | [], rs, s, hs => by simp [selGo] at hs
  | t :: xs, [], s, hs => by simp [selGo] at hs
  | t :: xs, q :: rs, s, hs => by
    rw [selGo] at hs
    rcases List.mem_append.1 hs with hs | hs
    · split at hs
      · simp at hs; subst hs; simp
      · simp at hs
    · exact List.mem_cons_of_mem _ (sel_mem r xs rs s hs)
theorem cut_wf {xs : List St} {R : List Re} {r : Re} (hr : mayR r = true) (hw : ∀ s ∈ xs, s.Wf) : ∀ s ∈ busyL (cutL xs R r), s.Wf := by
  intro s hs
  have hs := busy_mem hs
  unfold cutL at hs
  rcases List.mem_append.1 hs with hs | hs
  · rcases List.mem_append.1 hs with hs | hs
    · simp at hs; subst hs; exact clip_wf hr
    · exact hw s (sel_mem r _ _ s hs)
  · simp at hs; subst hs; exact open_wf
theorem wi_wf {xs : List St} {R : List Re} (hw : ∀ s ∈ xs, s.Wf) : ∀ (l : List Re) (out : List St), (∀ r ∈ l, mayR r = true) → (∀ s ∈ out, s.Wf) → ∀ s ∈ optS (wiGo xs R l out), s.Wf
  | [], out, _, ho => by simpa [wiGo, optS] using ho
  | r :: l, out, hm, ho => by
    unfold wiGo
    split
    · intro s hs; simp [optS] at hs
    · refine wi_wf hw l _ (fun q hq => hm q (List.mem_cons_of_mem _ hq)) ?_
      intro s hs
      rcases List.mem_append.1 hs with hs | hs
      · exact ho s hs
      · exact cut_wf (hm r (by simp)) hw s hs
theorem both_may {a : List Re} (ha : MayL a) : MayL (bothL a [] 1) ∧ (bothL a [] 1).length ≤ 1024 := by
  unfold bothL
  split
  · unfold madeL
    split
    · exact ⟨mayL_nil, by simp⟩
    · exact ⟨form_may ha mayL_nil 1, by omega⟩
  · exact ⟨mayL_nil, by simp⟩
theorem within_wf {xs : List St} {qs : List Re} (h : chkL xs = 0) (hw : ∀ s ∈ xs, s.Wf) (hq : MayL qs) : ∀ s ∈ wiS xs qs, s.Wf := by
  unfold wiS
  rw [if_pos h]
  split
  · exact wi_wf hw _ _ (both_may hq).1 (by simp)
  · intro s hs; simp at hs
end Go.Proofs.YtffmomgmkpmpkaaGreatDoor
