/-
  Cells, plain: what is drawn may be; one list drawn behind another one.
-/
import Derived.Deep.DeepCutAuto
import Derived.Laws.CopyOwn
import Derived.Test.YtfcphagmjijmkaaGreatDoorProg
import Derived.Test.YtfcphagmjijmkaaGreatDoorDq17
namespace Go.Proofs.YtfcphagmjijmkaaGreatDoor
open Go.RowKit
set_option linter.unusedVariables false
attribute [local go_sem] vwp vUpon_value vUpon_skip vUpon_enter vUpon_row
set_option linter.unusedSimpArgs false
set_option linter.unusedVariables false
/-! ### what is drawn may be -/
/-- What lies of a text in a place may be a cell's. -/
def mayG (g : Gl) : Bool := validR g.rune && (if widR g.rune = 1 then !g.wide && !g.tail else if widR g.rune = 2 then g.wide != g.tail else false)
theorem glyR_may {r : Int} (hv : validR r = true) : ∀ g ∈ glyR r (widR r), mayG g = true := by
  intro g hg
  unfold glyR at hg
  split at hg
  · rename_i h
    simp only [List.mem_singleton] at hg
    subst hg
    simp [mayG, hv, h]
  · split at hg
    · rename_i h1 h
      simp only [List.mem_cons, List.not_mem_nil, or_false] at hg
      rcases hg with rfl | rfl <;> simp [mayG, hv, h]
    · cases hg
theorem runesF_valid (s : ByteArray) : ∀ (n p : Nat), ∀ r ∈ runesF n s p, validR r = true
  | 0, p, r, h => by cases h
  | n + 1, p, r, h => by
    rw [runesF] at h
    split at h
    · rcases List.mem_cons.1 h with rfl | h
      · exact dec_valid s p
      · exact runesF_valid s n _ r h
    · cases h
theorem lineG_may (l : ByteArray) : ∀ g ∈ lineG l, mayG g = true := by
  intro g hg
  unfold lineG rowG at hg
  obtain ⟨r, hr, hg⟩ := List.mem_flatMap.1 hg
  exact glyR_may (runesF_valid l _ _ r hr) g hg
theorem glyAt_may {s : ByteArray} {X Y : Nat} {g : Gl} (h : glyAt (glyS s) X Y = some g) : mayG g = true := by
  unfold glyAt at h
  cases hr : (glyS s)[Y]? with
  | none => rw [hr] at h; cases h
  | some row =>
    rw [hr] at h
    have h2 : row[X]? = some g := h
    have hm := List.mem_of_getElem? hr
    unfold glyS at hm
    obtain ⟨l, _, rfl⟩ := List.mem_map.1 hm
    exact lineG_may l g (List.mem_of_getElem? h2)
theorem frm_may (l r a b w h : Bool) : frmV l r a b w h = 0 ∨ mayG ⟨frmV l r a b w h, false, false⟩ = true := by
  cases l <;> cases r <;> cases a <;> cases b <;> cases w <;> cases h <;> first | (left; decide) | (right; kernel_rfl)
theorem mayC_of {g : Gl} (h : mayG g = true) (c b : Co) : mayC ⟨g.rune, c, b, g.wide, g.tail⟩ = true := h
theorem may_blank : mayG ⟨32, false, false⟩ = true := by kernel_rfl
theorem madeC_may {c : Ce} (hc : mayC c = true) (s : St) (x y : Int) : mayC (madeC c s (glyS s.text) x y) = true := by
  unfold madeC
  split
  · split
    · exact hc
    · rename_i k hk
      exact mayC_of (glyAt_may hk) _ _
  · split
    · exact hc
    · split
      · unfold fillC
        split
        · exact mayC_of may_blank _ _
        · exact hc
      · split
        · exact hc
        · rename_i h0
          unfold frmP at h0 ⊢
          exact mayC_of ((frm_may _ _ _ _ _ _).resolve_left h0) _ _
theorem strokeD_may {W : Nat} {s : St} {q : Re} {cs : List Ce} (h : cs.all mayC = true) : (strokeD W s (glyS s.text) q cs).all mayC = true := by
  rw [List.all_eq_true] at h ⊢
  intro c hc
  obtain ⟨k, hk⟩ := List.getElem?_of_mem hc
  unfold strokeD at hk
  rw [updP_get] at hk
  cases hd : cs[k]? with
  | none => rw [hd] at hk; cases hk
  | some d =>
    rw [hd] at hk
    have hd2 := h d (List.mem_of_getElem? hd)
    simp only [Option.map_some, Option.some.injEq] at hk
    rw [← hk]
    split
    · exact madeC_may hd2 s _ _
    · exact hd2
theorem drwGo_nil (W : Nat) (gf : ByteArray → List (List Gl)) (cs : List Ce) (rs : List Re) : drwGo W gf cs [] rs = cs := by rw [drwGo]; simp
theorem drwGo_nil2 (W : Nat) (gf : ByteArray → List (List Gl)) (cs : List Ce) (ss : List St) : drwGo W gf cs ss [] = cs := by rw [drwGo]; simp
theorem drwGo_may (W : Nat) : ∀ (ss : List St) (rs : List Re) (cs : List Ce), cs.all mayC = true → (drwGo W glyS cs ss rs).all mayC = true
  | [], rs, cs, h => by rw [drwGo_nil]; exact h
  | s :: ss, [], cs, h => by rw [drwGo_nil2]; exact h
  | s :: ss, r :: rs, cs, h => by
    rw [drwGo]
    exact drwGo_may W ss rs _ (strokeD_may h)
/-! ### clips close -/
end Go.Proofs.YtfcphagmjijmkaaGreatDoor

namespace Go.Proofs.YtfcphagmjijmkaaGreatDoor
open Go.RowKit
set_option linter.unusedVariables false
attribute [local go_sem] vwp vUpon_value vUpon_skip vUpon_enter vUpon_row
set_option linter.unusedSimpArgs false
set_option linter.unusedVariables false
/-- Each stroke of a list with where it shows. -/
def ShowsIn (xs : List St) (rs : List Re) (x y : Int) : Prop := ∀ (k : Nat) s q, xs[k]? = some s → rs[k]? = some q → hasR q x y = true → hasR s.rect x y = true
theorem ShowsIn.tail {s : St} {xs : List St} {q : Re} {rs : List Re} {x y : Int} (h : ShowsIn (s :: xs) (q :: rs) x y) : ShowsIn xs rs x y := fun k s' q' h1 h2 => h (k + 1) s' q' (by simpa using h1) (by simpa using h2)
end Go.Proofs.YtfcphagmjijmkaaGreatDoor

namespace Go.Proofs.YtfcphagmjijmkaaGreatDoor
open Go.RowKit
set_option linter.unusedVariables false
attribute [local go_sem] vwp vUpon_value vUpon_skip vUpon_enter vUpon_row
set_option linter.unusedSimpArgs false
set_option linter.unusedVariables false
def flagN (x y : Int) : List Re → Bool
  | [] => true
  | t :: _ => hasR t x y
def clN (x y : Int) : List Re → List Bool
  | [] => []
  | t :: N => flagN x y N :: clN x y N
theorem has_shR {N : List Re} {s : St} {x y : Int} (hN : ∀ q ∈ N, mayR q = true) (hs : mayR s.rect = true) : hasR (shR N.reverse s) x y = (flagN x y N && hasR s.rect x y) := by
  have hq : mayR (shQ N.reverse s) = true := shQ_may (fun q hq => hN q (List.mem_reverse.1 hq)) hs
  have e : hasR (shQ N.reverse s) x y = (flagN x y N && hasR s.rect x y) := by
    unfold shQ
    cases N with
    | nil => simp [flagN]
    | cons t N =>
      have hl : (t :: N).reverse.getLast? = some t := by simp
      rw [hl]
      simp only [flagN]
      rw [has_meet hs (hN t (by simp)), Bool.and_comm]
  unfold shR
  split
  · rename_i h
    rw [show hasR Re.none x y = false from has_none (by decide) (by decide), ← e, has_of_empty hq h]
  · exact e
theorem at_shGo (x y : Int) : ∀ (xs : List St) (N : List Re) (out : List St), (∀ q ∈ N, mayR q = true) → (∀ s ∈ xs, mayR s.rect = true) → (∀ s ∈ xs, s.kind = 4 ∨ s.kind = 5 ∨ s.kind ≤ 3) → chkGo N.length xs = 0 → atGo x y xs (flagN x y N) (clN x y N) out = atSh x y xs (shGo N.reverse xs) out
 | [], N, out, _, _, _, _ => by simp [atGo, shGo, atSh]
 | s :: xs, N, out, hN, hx, hk, hc => by
  have hs := hx s (by simp)
  have hsh := has_shR (x := x) (y := y) hN hs
  have hmr : mayR (shR N.reverse s) = true := by
   unfold shR
   split
   ·decide
   ·exact shQ_may (fun q hq => hN q (List.mem_reverse.1 hq)) hs
  unfold chkGo at hc
  have he : errS s = 0 := by
   by_cases h : errS s = 0
   ·exact h
   ·rw [if_pos h] at hc; exact absurd hc h
  rw [if_neg (by simpa using he)] at hc
  have ho : ¬ opn N.length s < 0 := by intro h; rw [if_pos h] at hc; omega
  rw [if_neg ho] at hc
  rw [at_cons, shGo, atSh]
  by_cases h4 : s.kind = 4
  ·rw [if_pos h4]
   have hd : drB s = false := by unfold drB; simp; omega
   have e : shN N.reverse s = (shR N.reverse s :: N).reverse := by unfold shN; rw [if_pos h4]; simp
   rw [hd, e]
   have := at_shGo x y xs (shR N.reverse s :: N) out (by intro q hq; rcases List.mem_cons.1 hq with rfl | hq; exact hmr; exact hN q hq) (fun t ht => hx t (List.mem_cons_of_mem _ ht)) (fun t ht => hk t (List.mem_cons_of_mem _ ht)) (by rw [List.length_cons]; unfold opn at hc; simp [h4] at hc; simpa using hc)
   have this : atGo x y xs (hasR (shR N.reverse s) x y) (flagN x y N :: clN x y N) out = atSh x y xs (shGo (shR N.reverse s :: N).reverse xs) out := this
   rw [hsh] at this
   rw [Bool.false_and]
   exact this
  ·rw [if_neg h4]
   by_cases h5 : s.kind = 5
   ·rw [if_pos h5]
    have hd : drB s = false := by unfold drB; simp; omega
    cases N with
    | nil => unfold opn at ho; simp [h4, h5] at ho
    | cons t N =>
     have e : shN (t :: N).reverse s = N.reverse := by unfold shN; rw [if_neg h4, if_pos h5]; simp
     rw [hd, e]
     have := at_shGo x y xs N out (fun q hq => hN q (List.mem_cons_of_mem _ hq)) (fun t ht => hx t (List.mem_cons_of_mem _ ht)) (fun t ht => hk t (List.mem_cons_of_mem _ ht)) (by unfold opn at hc; simp [h4, h5] at hc; simpa using hc)
     simpa [clN] using this
   ·rw [if_neg h5]
    have h3 : s.kind ≤ 3 := by rcases hk s (by simp) with h | h | h <;> omega
    have hd : drB s = true := by unfold drB; simpa using h3
    have e : shN N.reverse s = N.reverse := by unfold shN; rw [if_neg h4, if_neg h5]
    rw [hd, e, hsh, Bool.true_and]
    exact at_shGo x y xs N _ hN (fun t ht => hx t (List.mem_cons_of_mem _ ht)) (fun t ht => hk t (List.mem_cons_of_mem _ ht)) (by unfold opn at hc; simp [h4, h5] at hc; simpa using hc)
end Go.Proofs.YtfcphagmjijmkaaGreatDoor

namespace Go.Proofs.YtfcphagmjijmkaaGreatDoor
open Go.RowKit
set_option linter.unusedVariables false
attribute [local go_sem] vwp vUpon_value vUpon_skip vUpon_enter vUpon_row
set_option linter.unusedSimpArgs false
set_option linter.unusedVariables false
theorem chk_go0 {xs : List St} (h : chkL xs = 0) : chkGo 0 xs = 0 := by
  unfold chkL at h
  split at h
  · omega
  · exact h
end Go.Proofs.YtfcphagmjijmkaaGreatDoor

namespace Go.Proofs.YtfcphagmjijmkaaGreatDoor
open Go.RowKit
set_option linter.unusedVariables false
attribute [local go_sem] vwp vUpon_value vUpon_skip vUpon_enter vUpon_row
set_option linter.unusedSimpArgs false
set_option linter.unusedVariables false
section
set_option linter.unusedSimpArgs false
set_option linter.unusedVariables false
/-- Only the row that came in, or a new one, has turned. -/
def EdI (v : Value) (w : World) (tv : Value) (wr : World) : Prop := w.grownBy wr v.ownBlock ∧ ∀ g, tv.ownBlock = some g → v.ownBlock = some g ∨ w.heap.size ≤ g
theorem EdI.start (v : Value) (w : World) : EdI v w v w := ⟨grown_refl _ _, fun g hg => .inl hg⟩
theorem EdI.step {v tv v' : Value} {w wr w1 w2 : World} (h : EdI v w tv wr) (hb : Below wr.heap.size wr w1) (hg : w1.grownBy w2 tv.ownBlock) (tw : ∀ g, v'.ownBlock = some g → tv.ownBlock = some g ∨ w1.heap.size ≤ g) : EdI v w v' w2 := by
  obtain ⟨h1, h2⟩ := h
  have z1 := h1.size
  have z2 := hb.size
  refine ⟨⟨hg.os.trans (hb.os.trans h1.os), hg.tape.trans (hb.tape.trans h1.tape), hg.output.trans (hb.output.trans h1.output), Nat.le_trans (Nat.le_trans z1 z2) hg.size, fun k hk hne => ?_⟩, fun g hg' => ?_⟩
  · rw [hg.block k (by omega) (by
      intro e
      rcases h2 k e.symm with h | h
      · exact hne h.symm
      · omega), hb.block k (by omega), h1.block k hk hne]
  · rcases tw g hg' with h | h
    · exact h2 g h
    · exact .inr (by omega)
theorem EdI.stay {v tv : Value} {w wr w1 : World} (h : EdI v w tv wr) (hb : Below wr.heap.size wr w1) : EdI v w tv w1 :=
  h.step hb (grown_refl _ _) (fun g hg => .inl hg)
end
end Go.Proofs.YtfcphagmjijmkaaGreatDoor

namespace Go.Proofs.YtfcphagmjijmkaaGreatDoor
open Go.RowKit
set_option linter.unusedVariables false
attribute [local go_sem] vwp vUpon_value vUpon_skip vUpon_enter vUpon_row
set_option linter.unusedSimpArgs false
set_option linter.unusedVariables false
section
set_option linter.unusedSimpArgs false
set_option linter.unusedVariables false
theorem grown_set {w w' : World} {r : Option Nat} {g : Nat} (h : w.grownBy w' r) (hr : r = some g) (o : Nat) (u : Value) : w.grownBy (w'.setCell ⟨g, o, none⟩ u) r := by
  subst hr
  refine ⟨h.os, h.tape, h.output, ?_, fun k hk hne => ?_⟩
  · have e : (w'.setCell ⟨g, o, none⟩ u).heap.size = w'.heap.size := by simp
    rw [e]; exact h.size
  · rw [heap_setCell_other _ _ _ _ (by rintro rfl; exact hne rfl)]
    exact h.block k hk hne
theorem own_putR {w : World} {base g n cap k : Nat} {C : List Re} {q : Re} (h : OwnsR base w (.slice (some ⟨g, 0, none⟩) n cap) C) (hn : C.length = n) (hq : C[k]? = some q) (u : Int) : OwnsR base (w.setCell ⟨g, k * 4 + 3, none⟩ (.int .i64 u)) (.slice (some ⟨g, 0, none⟩) n cap) (C.set k ⟨q.x, q.y, q.wd, u⟩) := by
  have hk := (List.getElem?_eq_some_iff.1 hq).1
  unfold OwnsR at *
  rw [List.length_set, hn]
  rw [hn] at h
  have := own_put h (k := k * 4 + 3) (by omega) (.int .i64 u)
  rw [flat_set Re.enc_len 3 (.int .i64 u) q ⟨q.x, q.y, q.wd, u⟩ (by omega) rfl C k hq] at this
  exact this
theorem own_unfzR {w : World} {base g n cap : Nat} {C : List Re} (h : OwnsR base w (.slice (some ⟨g, 0, none⟩) n cap) C) (o : Nat) : w.frozen? ⟨g, o, none⟩ = false := by
  rcases h.2 with ⟨h0, _⟩ | ⟨g', cap', cur, hv, hg, hh, _⟩
  · cases h0
  · injection hv with hv _ _
    injection hv with hv
    injection hv with hv _ _
    subst hv
    simp [World.frozen?, hh]
def MadePost (E : Int) (L : List Re) (w : World) (e : Ending) (w' : World) : Prop := Below w.heap.size w w' ∧ ∃ v, e = .returned (.tuple #[v, .int .i64 E]) ∧ OwnsR w.heap.size w' v L
end
section
set_option linter.unusedSimpArgs false
set_option linter.unusedVariables false
theorem MadePost.mono {E : Int} {L : List Re} {w w1 : World} {e : Ending} {w' : World} (hb : Below w.heap.size w w1) (h : MadePost E L w1 e w') : MadePost E L w e w' := by
  obtain ⟨h1, v, h2, h3⟩ := h
  exact ⟨hb.trans (h1.mono hb.size), v, h2, own_less h3 hb.size⟩
end
end Go.Proofs.YtfcphagmjijmkaaGreatDoor

namespace Go.Proofs.YtfcphagmjijmkaaGreatDoor
open Go Go.RowKit
set_option linter.unusedVariables false
set_option linter.unusedSimpArgs false
set_option linter.unusedSectionVars false
section
variable {P : Program} {ops : Array Oper} {S : World → Prop} {Q : Exit → Act → World → Prop} {obj : Nat → Obj}
abbrev ptrTo (b : Nat) : Value := .pointer (some ⟨b, 0, none⟩)
/-- In state 'a', in every world that meets S, 'o' yields 'v' and leaves what is there. -/
def StB (P : Program) (ops : Array Oper) (S : World → Prop) (o : Oper) (v : Value) (a : Act) : Prop :=
  (Region.wanted o (yielded ops a.tmps) = true ∧ ∀ w, S w → vwp P o a w (fun u w' => u = v ∧ Below w.heap.size w w')) ∨
  (Region.wanted o (yielded ops a.tmps) = false ∧ v = undef)
/-- It makes a block. -/
def NewB (P : Program) (ops : Array Oper) (S : World → Prop) (o : Oper) (ob : Obj) (a : Act) : Prop :=
  Region.wanted o (yielded ops a.tmps) = true ∧ ∀ w, S w → vwp P o a w (fun u w' => u = ptrTo w.heap.size ∧ w' = w.alloc ob)
theorem StB.of_same {o : Oper} {v : Value} {a a' : Act} (hy : StB P ops S o v a) (he : execOp a'.eval o = execOp a.eval o)
    (hw : Region.wanted o (yielded ops a'.tmps) = Region.wanted o (yielded ops a.tmps)) : StB P ops S o v a' := by
  unfold StB vwp at *
  rw [he, hw]
  exact hy
theorem NewB.of_same {o : Oper} {v : Obj} {a a' : Act} (hy : NewB P ops S o v a) (he : execOp a'.eval o = execOp a.eval o)
    (hw : Region.wanted o (yielded ops a'.tmps) = Region.wanted o (yielded ops a.tmps)) : NewB P ops S o v a' := by
  unfold NewB vwp at *
  rw [he, hw]
  exact hy
theorem StB.put {oi oj : Oper} {v u : Value} {a : Act} (hap : oi.apart ops oj = true) (hsi : ∀ cs b, oi.op ≠ .select cs b) (hy : StB P ops S oi v a) : StB P ops S oi v (a.put oj.dst u) := by
  obtain ⟨h1, h2, h3⟩ := Oper.apart_spec hap
  exact hy.of_same (execOp_put oi hsi a oj.dst u h3) (wanted_put oi a oj.dst u h3)
theorem StB.unput {oi oj : Oper} {v u : Value} {a : Act} (hap : oi.apart ops oj = true) (hsi : ∀ cs b, oi.op ≠ .select cs b) (hy : StB P ops S oi v (a.put oj.dst u)) : StB P ops S oi v a := by
  obtain ⟨h1, h2, h3⟩ := Oper.apart_spec hap
  exact hy.of_same (execOp_put oi hsi a oj.dst u h3).symm (wanted_put oi a oj.dst u h3).symm
theorem NewB.put {oi oj : Oper} {v : Obj} {u : Value} {a : Act} (hap : oi.apart ops oj = true) (hsi : ∀ cs b, oi.op ≠ .select cs b) (hy : NewB P ops S oi v a) : NewB P ops S oi v (a.put oj.dst u) := by
  obtain ⟨h1, h2, h3⟩ := Oper.apart_spec hap
  exact hy.of_same (execOp_put oi hsi a oj.dst u h3) (wanted_put oi a oj.dst u h3)
theorem NewB.unput {oi oj : Oper} {v : Obj} {u : Value} {a : Act} (hap : oi.apart ops oj = true) (hsi : ∀ cs b, oi.op ≠ .select cs b) (hy : NewB P ops S oi v (a.put oj.dst u)) : NewB P ops S oi v a := by
  obtain ⟨h1, h2, h3⟩ := Oper.apart_spec hap
  exact hy.of_same (execOp_put oi hsi a oj.dst u h3).symm (wanted_put oi a oj.dst u h3).symm
theorem StB.wpOp {i : Nat} {o : Oper} {v : Value} {a : Act} (hi : ops[i]? = some o) (hy : StB P ops S o v a) {K : Act → World → Prop} {w : World} (hS : S w)
    (h : ∀ w', Below w.heap.size w w' → K (a.put o.dst v) w') : wpOp P ops Q i K a w := by
  unfold Go.wpOp
  simp only [hi]
  rcases hy with ⟨hw, hv⟩ | ⟨hw, rfl⟩
  · simp only [hw, if_true]
    left
    have hv := hv w hS
    unfold vwp at hv
    unfold Oper.wp
    generalize (execOp a.eval o).run P w = r at *
    cases r with
    | ok n w' =>
      cases n <;> simp only [vUpon] at hv <;> simp only [Oper.upon]
      case value u => obtain ⟨rfl, hs⟩ := hv; exact h _ hs
      case skip => obtain ⟨rfl, hs⟩ := hv; exact h _ hs
      case enter f args => exact Calls.mono hv fun e w'' ⟨u, he, hu, hs⟩ => by subst he; subst hu; exact h _ hs
      case row row args => exact Rows.mono hv fun u w'' ⟨hu, hs⟩ => by subst hu; exact h _ hs
    | halt x w' => simp only [vUpon] at hv
  · simp only [hw, Bool.false_eq_true, if_false]; exact h _ (Below.refl _ _)
theorem NewB.wpOp {i : Nat} {o : Oper} {ob : Obj} {a : Act} (hi : ops[i]? = some o) (hy : NewB P ops S o ob a) {K : Act → World → Prop} {w : World} (hS : S w)
    (h : K (a.put o.dst (ptrTo w.heap.size)) (w.alloc ob)) : wpOp P ops Q i K a w := by
  unfold Go.wpOp
  simp only [hi]
  obtain ⟨hw, hv⟩ := hy
  simp only [hw, if_true]
  left
  have hv := hv w hS
  unfold vwp at hv
  unfold Oper.wp
  generalize (execOp a.eval o).run P w = r at *
  cases r with
  | ok n w' =>
    cases n <;> simp only [vUpon] at hv <;> simp only [Oper.upon]
    case value u => obtain ⟨rfl, rfl⟩ := hv; exact h
    case skip => obtain ⟨e, rfl⟩ := hv; rw [e]; exact h
    case enter f args => exact Calls.mono hv fun e w'' ⟨u, he, hu, hs⟩ => by subst he; subst hu; subst hs; exact h
    case row row args => exact Rows.mono hv fun u w'' ⟨hu, hs⟩ => by subst hu; subst hs; exact h
  | halt x w' => simp only [vUpon] at hv
section
variable {M : Array Nat} (hg : Good ops M) (hsel : Region.noSelect ops = true) {s m n i : Nat} {oi : Oper} {L : Array Bool → (World → Prop) → (Nat → Prop) → Act → Prop}
include hg hsel
end
end
end Go.Proofs.YtfcphagmjijmkaaGreatDoor

namespace Go.Proofs.YtfcphagmjijmkaaGreatDoor
open Go.RowKit
set_option linter.unusedVariables false
attribute [local go_sem] vwp vUpon_value vUpon_skip vUpon_enter vUpon_row
set_option linter.unusedSimpArgs false
set_option linter.unusedVariables false
section
set_option linter.unusedSimpArgs false
set_option linter.unusedVariables false
attribute [local go_sem high] eql_rect neq_rect
theorem meet_em (p q : Re) : emptyR (meetR p q) = (meetR p q).eqb Re.none := by
  unfold meetR
  split
  · decide
  · rename_i h
    simp only [Bool.or_eq_true, not_or, Bool.not_eq_true] at h
    obtain ⟨m1, a1, a2⟩ := full_bd h.1
    obtain ⟨m2, b1, b2⟩ := full_bd h.2
    have c1 := may_bd m1; have c2 := may_bd m2; have c3 := may_sum m1; have c4 := may_sum m2
    unfold fromR
    split
    · decide
    · rename_i hn
      have hm : mayR ⟨max p.x q.x, max p.y q.y, min (p.x + p.wd) (q.x + q.wd) - max p.x q.x, min (p.y + p.ht) (q.y + q.ht) - max p.y q.y⟩ = true := may_of (by simp only; omega)
      rw [empty_none hm]
      have e1 : noneR ⟨max p.x q.x, max p.y q.y, min (p.x + p.wd) (q.x + q.wd) - max p.x q.x, min (p.y + p.ht) (q.y + q.ht) - max p.y q.y⟩ = false := by
        unfold noneR
        simp only [Bool.or_eq_false_iff, decide_eq_false_iff_not]
        omega
      rw [e1]
      symm
      unfold Re.eqb eq4 Re.none
      simp only [Bool.and_eq_false_iff, beq_eq_false_iff_ne]
      omega
end
end Go.Proofs.YtfcphagmjijmkaaGreatDoor

namespace Go.Proofs.YtfcphagmjijmkaaGreatDoor
open Go.RowKit
set_option linter.unusedVariables false
attribute [local go_sem] vwp vUpon_value vUpon_skip vUpon_enter vUpon_row
set_option linter.unusedSimpArgs false
set_option linter.unusedVariables false
theorem at_sh {xs : List St} (h : chkL xs = 0) (hk : ∀ s ∈ xs, s.kind = 4 ∨ s.kind = 5 ∨ s.kind ≤ 3) (x y : Int) : atL xs x y = atSh x y xs (shL xs) [] :=
  at_shGo x y xs [] [] (by simp) (fun s hs => err_may (chk_mem h s hs)) hk (chk_go0 h)
end Go.Proofs.YtfcphagmjijmkaaGreatDoor

namespace Go.Proofs.YtfcphagmjijmkaaGreatDoor
open Go.RowKit
set_option linter.unusedVariables false
attribute [local go_sem] vwp vUpon_value vUpon_skip vUpon_enter vUpon_row
set_option linter.unusedSimpArgs false
set_option linter.unusedVariables false
section
set_option linter.unusedSimpArgs false
set_option linter.unusedVariables false
theorem wf_of_may {l : List Re} (h : MayL l) : WfL l := fun q hq => may_wf (h q hq)
end
end Go.Proofs.YtfcphagmjijmkaaGreatDoor

namespace Go.Proofs.YtfcphagmjijmkaaGreatDoor
open Go.RowKit
set_option linter.unusedVariables false
attribute [local go_sem] vwp vUpon_value vUpon_skip vUpon_enter vUpon_row
set_option linter.unusedSimpArgs false
set_option linter.unusedVariables false
theorem kinds_of {xs : List St} (h : chkL xs = 0) : ∀ s ∈ xs, s.kind = 4 ∨ s.kind = 5 ∨ s.kind ≤ 3 := by
  intro s hs
  have he := chk_mem h s hs
  unfold errS at he
  split at he
  · cases he
  · rename_i hh
    have h1 : mis1 s = false := by
      cases hm : mis1 s
      · rfl
      · exact absurd (by rw [hm, Bool.true_or]) hh
    unfold mis1 at h1
    simp only [Bool.or_eq_false_iff, decide_eq_false_iff_not] at h1
    omega
theorem both_may {a : List Re} (ha : MayL a) : MayL (bothL a [] 1) ∧ (bothL a [] 1).length ≤ 1024 := by
  unfold bothL
  split
  · unfold madeL
    split
    · exact ⟨mayL_nil, by simp⟩
    · exact ⟨form_may ha mayL_nil 1, by omega⟩
  · exact ⟨mayL_nil, by simp⟩
end Go.Proofs.YtfcphagmjijmkaaGreatDoor

namespace Go.Proofs.YtfcphagmjijmkaaGreatDoor
open Go.RowKit
set_option linter.unusedVariables false
attribute [local go_sem] vwp vUpon_value vUpon_skip vUpon_enter vUpon_row
set_option linter.unusedSimpArgs false
set_option linter.unusedVariables false
/-- What the strokes that show at a place make of its cell. -/
def pntC (x y : Int) (c : Ce) (l : List St) : Ce := l.foldl (fun c s => madeC c s (glyS s.text) x y) c
theorem pnt_snoc (x y : Int) (c : Ce) (l : List St) (s : St) : pntC x y c (l ++ [s]) = madeC (pntC x y c l) s (glyS s.text) x y := by
  unfold pntC; rw [List.foldl_append]; rfl
theorem text_nil {s : ByteArray} (h : s.toList = []) : s = ⟨#[]⟩ := by
  rw [Lib.toList_data] at h
  apply ByteArray.ext
  apply Array.ext'
  exact h
theorem gly_none (X Y : Nat) : glyAt (glyS ⟨#[]⟩) X Y = none := by
  have e : glyS ⟨#[]⟩ = [[]] := by rfl
  rw [e]
  unfold glyAt
  cases Y with
  | zero => rfl
  | succ Y => rfl
theorem frm_edge (q : Re) (x y : Int) : frmP q x y = 0 ↔ edgeP q x y = false := by
  have h : ∀ l r a b w h : Bool, frmV l r a b w h = 0 ↔ (l || a || r || b) = false := by decide
  unfold frmP edgeP
  rw [h]
  have e1 : (x - q.x == 0) = (x == q.x) := by rw [Bool.eq_iff_iff]; simp; omega
  have e2 : (y - q.y == 0) = (y == q.y) := by rw [Bool.eq_iff_iff]; simp; omega
  have e3 : (x - q.x == q.wd - 1) = (x == q.x + q.wd - 1) := by rw [Bool.eq_iff_iff]; simp; omega
  have e4 : (y - q.y == q.ht - 1) = (y == q.y + q.ht - 1) := by rw [Bool.eq_iff_iff]; simp; omega
  rw [e1, e2, e3, e4]
theorem pnt_paint {s : St} (hw : s.Wf) (hk : s.kind = 1 ∨ s.kind = 2 ∨ s.kind = 3) (x y : Int) (c : Ce) (out : List St) : pntC x y c (paintP s x y out) = madeC (pntC x y c out) s (glyS s.text) x y := by
  have ha : 0 ≤ s.col.a := hw.2.2.1.2.2.2.1
  unfold paintP
  rcases hk with hk | hk | hk
  · rw [if_pos hk]
    by_cases h1 : s.col.a = 255
    · rw [if_pos h1]
      show madeC c s (glyS s.text) x y = _
      unfold madeC
      rw [if_neg (by omega), if_neg (by omega), if_pos hk, if_neg (by omega), if_neg (by omega), if_pos hk]
      unfold fillC
      rw [if_pos h1, if_pos h1]
    · rw [if_neg h1]
      by_cases h2 : 0 < s.col.a
      · rw [if_pos h2, pnt_snoc]
      · rw [if_neg h2]
        unfold madeC
        rw [if_neg (by omega), if_pos (by omega)]
  · rw [if_neg (by omega), if_pos hk]
    by_cases h : (edgeP s.rect x y && decide (0 < s.col.a)) = true
    · rw [if_pos h, pnt_snoc]
    · rw [if_neg h]
      unfold madeC
      rw [if_neg (by omega)]
      by_cases h2 : s.col.a = 0
      · rw [if_pos h2]
      · rw [if_neg h2, if_neg (by omega), if_pos]
        rw [frm_edge]
        cases he : edgeP s.rect x y
        · rfl
        · exact absurd (by rw [he]; simp; omega) h
  · rw [if_neg (by omega), if_neg (by omega)]
    by_cases h : s.text.toList = []
    · rw [if_pos h]
      unfold madeC
      rw [if_pos hk, text_nil h, gly_none]
    · rw [if_neg h, pnt_snoc]
theorem flt_cons (s : St) (xs : List St) (q : Re) (rs : List Re) : fltS (s :: xs) = (if drB s then s :: fltS xs else fltS xs) ∧ fltR (s :: xs) (q :: rs) = (if drB s then q :: fltR xs rs else fltR xs rs) := by
  unfold fltS fltR
  rw [List.filter_cons, List.zip_cons_cons, List.filter_cons]
  cases drB s <;> simp
theorem drw_at (W : Nat) (c : Ce) (k : Nat) : ∀ (xs : List St) (rs : List Re) (cs : List Ce) (out : List St), (∀ s ∈ xs, s.Wf ∧ (drB s = true → s.kind = 1 ∨ s.kind = 2 ∨ s.kind = 3)) → rs.length = xs.length → cs[k]? = some (pntC ((k % W : Nat) : Int) ((k / W : Nat) : Int) c out) →
    (drwGo W glyS cs (fltS xs) (fltR xs rs))[k]? = some (pntC ((k % W : Nat) : Int) ((k / W : Nat) : Int) c (atSh ((k % W : Nat) : Int) ((k / W : Nat) : Int) xs rs out))
  | [], [], cs, out, _, _, h => by
    have e : fltR [] [] = [] := rfl
    rw [show fltS [] = [] from rfl, drwGo_nil]
    exact h
  | [], _ :: _, _, _, _, h, _ => by cases h
  | _ :: _, [], _, _, _, h, _ => by cases h
  | s :: xs, q :: rs, cs, out, hx, hl, h => by
    obtain ⟨e1, e2⟩ := flt_cons s xs q rs
    obtain ⟨hw, hk⟩ := hx s (by simp)
    rw [e1, e2, atSh]
    cases hd : drB s
    · simp only [Bool.false_and, Bool.false_eq_true, if_false]
      exact drw_at W c k xs rs cs out (fun t ht => hx t (by simp [ht])) (by simpa using hl) h
    · simp only [if_true, Bool.true_and]
      rw [drwGo]
      refine drw_at W c k xs rs _ _ (fun t ht => hx t (by simp [ht])) (by simpa using hl) ?_
      unfold strokeD
      rw [updP_get, h]
      simp only [Option.map_some]
      cases hq : hasR q ((k % W : Nat) : Int) ((k / W : Nat) : Int)
      · simp
      · simp only [if_true]
        rw [pnt_paint hw (hk hd)]
/-- A drawn screen's cells. -/
theorem draw_at {wd ht : Int} {cs : List Ce} {xs : List St} (h : drawE wd ht cs xs = 0) (hw : ∀ s ∈ xs, s.Wf) {k : Nat} {c : Ce} (hc : cs[k]? = some c) :
    (drawC glyS wd ht cs xs)[k]? = some (pntC ((k % wd.toNat : Nat) : Int) ((k / wd.toNat : Nat) : Int) c (atL xs ((k % wd.toNat : Nat) : Int) ((k / wd.toNat : Nat) : Int))) := by
  have h0 := h
  unfold drawE at h
  split at h
  · have e : drawC glyS wd ht cs xs = drwGo wd.toNat glyS cs (flS xs) (flR xs) := if_pos h0
    have e1 : flS xs = fltS xs := if_pos h
    have e2 : flR xs = fltR xs (shL xs) := if_pos h
    rw [e, e1, e2, at_sh h (kinds_of h)]
    exact drw_at wd.toNat c k xs (shL xs) cs [] (fun s hs => ⟨hw s hs, kind_of h hs⟩) (shL_len xs) hc
  · cases h
theorem draw_len {wd ht : Int} {cs : List Ce} {xs : List St} (h : drawE wd ht cs xs = 0) : (drawC glyS wd ht cs xs).length = cs.length := by
  have e : drawC glyS wd ht cs xs = drwGo wd.toNat glyS cs (flS xs) (flR xs) := if_pos h
  rw [e, drwGo_len]
theorem draw_chk {wd ht : Int} {cs : List Ce} {xs : List St} (h : drawE wd ht cs xs = 0) : chkS wd ht (drawC glyS wd ht cs xs) = 0 := by
  have h0 := h
  unfold drawE at h
  split at h
  · rename_i hk
    obtain ⟨hfit, hlen, hall⟩ := chkS_zero hk
    have e : drawC glyS wd ht cs xs = drwGo wd.toNat glyS cs (flS xs) (flR xs) := if_pos h0
    unfold chkS
    rw [e, hfit, drwGo_len, hlen, drwGo_may _ _ _ _ hall]
    simp
  · cases h
/-! ### within -/
theorem both_is {qs : List Re} (hf : bothE qs [] 1 = 0) : bothL qs [] 1 = formR qs [] 1 ∧ askR qs [] = 0 := by
  unfold bothE at hf
  split at hf
  · rename_i h
    unfold madeE at hf
    split at hf
    · cases hf
    · rename_i h2
      unfold bothL madeL
      rw [if_pos h, if_neg h2]
      exact ⟨rfl, h⟩
  · rename_i h
    exact absurd hf h
theorem ask_may {qs : List Re} (h : askR qs [] = 0) : MayL qs := by
  unfold askR at h
  split at h
  · rename_i h2; exact (chkR_may h2).1
  · rename_i h2; exact absurd h h2
theorem bothL_has {qs : List Re} (hf : bothE qs [] 1 = 0) (x y : Int) : hasL (bothL qs [] 1) x y = hasL qs x y := by
  have hq := ask_may (both_is hf).2
  rw [(both_is hf).1, form_places hq.sane mayL_nil.sane, want1, has_nil, Bool.or_false]
end Go.Proofs.YtfcphagmjijmkaaGreatDoor

namespace Go.Proofs.YtfcphagmjijmkaaGreatDoor
open Go.RowKit
set_option linter.unusedVariables false
attribute [local go_sem] vwp vUpon_value vUpon_skip vUpon_enter vUpon_row
set_option linter.unusedSimpArgs false
set_option linter.unusedVariables false
/-- A flat stroke, and where it shows. -/
structure Fl where
  s : St
  r : Re
def Fl.enc (f : Fl) : List Value := f.s.enc ++ f.r.enc
theorem Fl.enc_len (f : Fl) : f.enc.length = 19 := rfl
def Fl.eqb (f g : Fl) : Bool := f.s.eqb g.s && f.r.eqb g.r
theorem bytes_eq {a b : ByteArray} (h : a.toList = b.toList) : a = b := by
  rw [Lib.toList_data, Lib.toList_data] at h
  exact ByteArray.ext (Array.ext' h)
theorem st_iff {s t : St} : s.eqb t = true ↔ s = t := by
  constructor
  · intro h
    obtain ⟨k, r, c, b, x, n⟩ := s
    obtain ⟨k', ⟨r0, r1, r2, r3⟩, ⟨c0, c1, c2, c3⟩, ⟨b0, b1, b2, b3⟩, x', n'⟩ := t
    obtain ⟨r0', r1', r2', r3'⟩ := r
    obtain ⟨c0', c1', c2', c3'⟩ := c
    obtain ⟨b0', b1', b2', b3'⟩ := b
    simp only [St.eqb, Re.eqb, Co.eqb, eq4, Bool.and_eq_true, beq_iff_eq] at h
    obtain ⟨rfl, ⟨rfl, rfl, rfl, rfl⟩, ⟨rfl, rfl, rfl, rfl⟩, ⟨rfl, rfl, rfl, rfl⟩, h, rfl⟩ := h
    rw [bytes_eq h]
  · rintro rfl
    simp [St.eqb, Re.eqb, Co.eqb, eq4]
theorem Fl.eqb_iff {f g : Fl} : f.eqb g = true ↔ f = g := by
  obtain ⟨s, r⟩ := f
  obtain ⟨s', r'⟩ := g
  unfold Fl.eqb
  rw [Bool.and_eq_true, st_iff, _root_.Go.Proofs.YtfcphagmjijmkaaGreatDoor.eqb_iff]
  constructor
  · rintro ⟨rfl, rfl⟩; rfl
  · intro h; injection h with h1 h2; exact ⟨h1, h2⟩
theorem Fl.eqb_refl (f : Fl) : f.eqb f = true := Fl.eqb_iff.2 rfl
theorem Fl.eqb_comm (f g : Fl) : f.eqb g = g.eqb f := by
  rw [Bool.eq_iff_iff, Fl.eqb_iff, Fl.eqb_iff]
  exact ⟨Eq.symm, Eq.symm⟩
/-- The flat strokes of a list. -/
def fltZ (ss : List St) (rs : List Re) : List Fl := List.zipWith Fl.mk ss rs
def flts (xs : List St) : List Fl := fltZ (flS xs) (flR xs)
theorem flts_len (xs : List St) : (flts xs).length = (flS xs).length := by
  unfold flts fltZ
  rw [List.length_zipWith, flsr_len]
  omega
theorem flts_get {xs : List St} {i : Nat} {f : Fl} (h : (flts xs)[i]? = some f) : (flS xs)[i]? = some f.s ∧ (flR xs)[i]? = some f.r := by
  unfold flts fltZ at h
  rw [List.getElem?_zipWith] at h
  cases h1 : (flS xs)[i]? with
  | none => rw [h1] at h; cases h
  | some s =>
    cases h2 : (flR xs)[i]? with
    | none => rw [h1, h2] at h; cases h
    | some r =>
      rw [h1, h2] at h
      injection h with h
      subst h
      exact ⟨rfl, rfl⟩
/-- What a flat stroke of a list that may be is like. -/
def Fl.Ok (f : Fl) : Prop := f.s.Wf ∧ mayR f.s.rect = true ∧ (f.s.kind = 1 ∨ f.s.kind = 2 ∨ f.s.kind = 3) ∧ mayR f.r = true ∧ (f.r = Re.none ∨ emptyR f.r = false) ∧ ∀ x y, hasR f.r x y = true → hasR f.s.rect x y = true
theorem shR_form (M : List Re) (s : St) : shR M s = Re.none ∨ emptyR (shR M s) = false := by
  unfold shR
  split
  · exact .inl rfl
  · rename_i h
    exact .inr (by simpa using h)
theorem shGo_form : ∀ (xs : List St) (M : List Re), ∀ q ∈ shGo M xs, q = Re.none ∨ emptyR q = false
  | [], M, q, hq => by simp [shGo] at hq
  | s :: xs, M, q, hq => by
    simp only [shGo, List.mem_cons] at hq
    rcases hq with rfl | hq
    · exact shR_form M s
    · exact shGo_form xs _ q hq
theorem fltR_sub {xs : List St} {rs : List Re} : ∀ q ∈ fltR xs rs, q ∈ rs := by
  intro q hq
  unfold fltR at hq
  obtain ⟨p, hp, rfl⟩ := List.mem_map.1 hq
  exact (List.of_mem_zip (List.mem_filter.1 hp).1).2
theorem flts_ok {xs : List St} (h : chkL xs = 0) (hw : ∀ s ∈ xs, s.Wf) : ∀ f ∈ flts xs, f.Ok := by
  intro f hf
  obtain ⟨i, hi⟩ := List.getElem?_of_mem hf
  obtain ⟨h1, h2⟩ := flts_get hi
  obtain ⟨a, b, c, d, e⟩ := flat_at h hw h1 h2
  refine ⟨a, b, c, d, ?_, e⟩
  have hm := List.mem_of_getElem? h2
  unfold flR at hm
  rw [if_pos h] at hm
  exact shGo_form xs [] _ (fltR_sub _ hm)
/-- Without what both begin with. -/
def cutPre : List Fl → List Fl → List Fl × List Fl
  | x :: xs, y :: ys => if x.eqb y then cutPre xs ys else (x :: xs, y :: ys)
  | xs, ys => (xs, ys)
theorem cutPre_nil_left (ys : List Fl) : cutPre [] ys = ([], ys) := by rw [cutPre]; simp
theorem cutPre_nil_right (xs : List Fl) : cutPre xs [] = (xs, []) := by rw [cutPre]; simp
theorem cutPre_spec : ∀ (xs ys : List Fl), ∃ p, xs = p ++ (cutPre xs ys).1 ∧ ys = p ++ (cutPre xs ys).2
  | [], ys => ⟨[], by rw [cutPre_nil_left]; exact ⟨rfl, rfl⟩⟩
  | x :: xs, [] => ⟨[], by rw [cutPre_nil_right]; exact ⟨rfl, rfl⟩⟩
  | x :: xs, y :: ys => by
    rw [cutPre]
    split
    · rename_i h
      obtain ⟨p, h1, h2⟩ := cutPre_spec xs ys
      have e := Fl.eqb_iff.1 h
      subst e
      exact ⟨x :: p, by rw [List.cons_append, ← h1], by rw [List.cons_append, ← h2]⟩
    · exact ⟨[], rfl, rfl⟩
/-- Without what both begin and end with. -/
def midP (xs ys : List Fl) : List Fl × List Fl :=
  ((cutPre (cutPre xs ys).1.reverse (cutPre xs ys).2.reverse).1.reverse, (cutPre (cutPre xs ys).1.reverse (cutPre xs ys).2.reverse).2.reverse)
theorem mid_spec (xs ys : List Fl) : ∃ p q, xs = p ++ (midP xs ys).1 ++ q ∧ ys = p ++ (midP xs ys).2 ++ q := by
  obtain ⟨p, h1, h2⟩ := cutPre_spec xs ys
  obtain ⟨q, h3, h4⟩ := cutPre_spec (cutPre xs ys).1.reverse (cutPre xs ys).2.reverse
  refine ⟨p, q.reverse, ?_, ?_⟩
  · have := congrArg List.reverse h3
    rw [List.reverse_reverse, List.reverse_append] at this
    unfold midP
    rw [List.append_assoc, ← this]
    exact h1
  · have := congrArg List.reverse h4
    rw [List.reverse_reverse, List.reverse_append] at this
    unfold midP
    rw [List.append_assoc, ← this]
    exact h2
/-! ### what is painted at a place -/
def pntF (x y : Int) (out : List St) (l : List Fl) : List St := l.foldl (fun o f => if hasR f.r x y then paintP f.s x y o else o) out
theorem at_flats (x y : Int) : ∀ (xs : List St) (rs : List Re) (out : List St), rs.length = xs.length → atSh x y xs rs out = pntF x y out (fltZ (fltS xs) (fltR xs rs))
  | [], [], out, _ => by
    rw [atSh]
    · rfl
    · intro s xs q rs h
      cases h
  | s :: xs, q :: rs, out, h => by
    rw [atSh, at_flats x y xs rs _ (by simpa using h)]
    obtain ⟨e1, e2⟩ := flt_cons s xs q rs
    rw [e1, e2]
    cases hd : drB s
    · simp
    · simp only [Bool.true_and, if_true]
      rfl
  | [], _ :: _, _, h => by cases h
  | _ :: _, [], _, h => by cases h
theorem at_flts {xs : List St} (h : chkL xs = 0) (x y : Int) : atL xs x y = pntF x y [] (flts xs) := by
  rw [at_sh h (kinds_of h), at_flats x y xs (shL xs) [] (shL_len xs)]
  unfold flts flS flR
  rw [if_pos h, if_pos h]
theorem pnt_app (x y : Int) (out : List St) (a b : List Fl) : pntF x y out (a ++ b) = pntF x y (pntF x y out a) b := by
  unfold pntF
  rw [List.foldl_append]
/-- The pieces of a flat stroke. -/
def pieL (f : Fl) : List Re := plcL f.s f.r
theorem meets_has {l : List Re} {q : Re} {x y : Int} (hl : ∀ p ∈ l, mayR p = true) (hq : mayR q = true) : hasL (meets l q) x y = (hasL l x y && hasR q x y) := by
  unfold meets hasL
  rw [Bool.eq_iff_iff, Bool.and_eq_true, List.any_eq_true, List.any_eq_true]
  constructor
  · rintro ⟨m, hm, hh⟩
    obtain ⟨hm, _⟩ := List.mem_filter.1 hm
    obtain ⟨p, hp, rfl⟩ := List.mem_map.1 hm
    rw [has_meet (hl p hp) hq, Bool.and_eq_true] at hh
    exact ⟨⟨p, hp, hh.1⟩, hh.2⟩
  · rintro ⟨⟨p, hp, h1⟩, h2⟩
    have hh : hasR (meetR p q) x y = true := by rw [has_meet (hl p hp) hq, h1, h2]; rfl
    refine ⟨meetR p q, List.mem_filter.2 ⟨List.mem_map.2 ⟨p, hp, rfl⟩, ?_⟩, hh⟩
    cases he : (meetR p q).eqb Re.none
    · rfl
    · rw [_root_.Go.Proofs.YtfcphagmjijmkaaGreatDoor.eqb_iff.1 he] at hh
      have : hasR Re.none x y = false := by unfold hasR Re.none; simp
      rw [this] at hh
      cases hh
theorem has_bd {q : Re} {x y : Int} : hasR q x y = true ↔ q.x ≤ x ∧ x < q.x + q.wd ∧ q.y ≤ y ∧ y < q.y + q.ht := by
  unfold hasR
  simp only [Bool.and_eq_true, decide_eq_true_eq]
  exact ⟨fun ⟨⟨⟨a, b⟩, c⟩, d⟩ => ⟨a, b, c, d⟩, fun ⟨a, b, c, d⟩ => ⟨⟨⟨a, b⟩, c⟩, d⟩⟩
theorem sides_may {p : Re} (h : mayR p = true) (hw : 0 < p.wd) (hh : 0 < p.ht) : ∀ q ∈ sidesR p, mayR q = true := by
  have b := may_bd h
  have c := may_sum h
  intro q hq
  unfold sidesR at hq
  simp only [List.mem_cons, List.not_mem_nil, or_false] at hq
  rcases hq with rfl | rfl | rfl | rfl <;> (apply may_of; simp only; omega)
theorem sides_has {p : Re} {x y : Int} (hin : hasR p x y = true) : hasL (sidesR p) x y = edgeP p x y := by
  have b := has_bd.1 hin
  unfold hasL sidesR edgeP
  simp only [List.any_cons, List.any_nil, Bool.or_false]
  rw [Bool.eq_iff_iff]
  simp only [Bool.or_eq_true, has_bd, beq_iff_eq]
  omega
/-- Where none of a stroke's pieces lies it paints nothing. -/
theorem pie_out {f : Fl} (h : f.Ok) {x y : Int} (hn : hasL (pieL f) x y = false) (hh : hasR f.r x y = true) (out : List St) : paintP f.s x y out = out := by
 obtain ⟨hw, hm, hk, hmr, hf, hin⟩ := h
 have hr := hin x y hh
 have hne : f.r.eqb Re.none = false := by
  cases he : f.r.eqb Re.none
  ·rfl
  ·rw [_root_.Go.Proofs.YtfcphagmjijmkaaGreatDoor.eqb_iff.1 he] at hh
   have := has_bd.1 hh
   simp only [Re.none] at this
   omega
 have hd : drB f.s = true := by unfold drB; simp; omega
 have hone : hasL [f.r] x y = true := by unfold hasL; simp [hh]
 unfold pieL plcL at hn
 rw [hne, hd] at hn
 simp only [Bool.not_true, Bool.or_self, Bool.false_eq_true, if_false] at hn
 have ha : 0 ≤ f.s.col.a := hw.2.2.1.2.2.2.1
 unfold paintP
 rcases hk with hk | hk | hk
 ·rw [if_neg (by omega)] at hn
  rw [if_pos hk]
  by_cases h0 : f.s.col.a = 0
  ·rw [if_neg (by omega), if_neg (by omega)]
  ·rw [if_neg h0, if_pos hk, hone] at hn
   cases hn
 ·rw [if_neg (by omega)] at hn
  rw [if_neg (by omega), if_pos hk]
  by_cases h0 : f.s.col.a = 0
  ·rw [if_neg]
   simp
   omega
  ·rw [if_neg h0, if_neg (by omega)] at hn
   have hb := has_bd.1 hr
   rw [meets_has (sides_may hm (by omega) (by omega)) hmr, hh, Bool.and_true, sides_has hr] at hn
   rw [hn]
   simp
 ·rw [if_pos hk] at hn
  rw [if_neg (by omega), if_neg (by omega)]
  by_cases h0 : f.s.text.toList = []
  ·rw [if_pos h0]
  ·rw [if_neg h0, hone] at hn
   cases hn
theorem pnt_out {x y : Int} : ∀ (l : List Fl) (out : List St), (∀ f ∈ l, f.Ok) → hasL (l.flatMap pieL) x y = false → pntF x y out l = out
  | [], out, _, _ => rfl
  | f :: l, out, hl, h => by
    rw [List.flatMap_cons, has_append, Bool.or_eq_false_iff] at h
    have e : pntF x y out (f :: l) = pntF x y (if hasR f.r x y then paintP f.s x y out else out) l := rfl
    rw [e, pnt_out l _ (fun g hg => hl g (List.mem_cons_of_mem _ hg)) h.2]
    cases hh : hasR f.r x y
    · rfl
    · simp only [if_true]
      exact pie_out (hl f (by simp)) h.1 hh out
/-- The pieces of the middles of two lists. -/
def pieA (a b : List Fl) : List Re := (midP a b).1.flatMap pieL ++ (midP a b).2.flatMap pieL
/-- Outside of the pieces of the middles, the same is painted. -/
theorem pnt_mid {a b : List Fl} (ha : ∀ f ∈ a, f.Ok) (hb : ∀ f ∈ b, f.Ok) {x y : Int} (h : hasL (pieA a b) x y = false) : pntF x y [] a = pntF x y [] b := by
  obtain ⟨p, q, h1, h2⟩ := mid_spec a b
  unfold pieA at h
  rw [has_append, Bool.or_eq_false_iff] at h
  have m1 : ∀ f ∈ (midP a b).1, f.Ok := fun f hf => ha f (by rw [h1]; simp [hf])
  have m2 : ∀ f ∈ (midP a b).2, f.Ok := fun f hf => hb f (by rw [h2]; simp [hf])
  have e1 : pntF x y [] a = pntF x y (pntF x y [] p) q := by
    conv => lhs; rw [h1]
    rw [pnt_app, pnt_app, pnt_out _ _ m1 h.1]
  have e2 : pntF x y [] b = pntF x y (pntF x y [] p) q := by
    conv => lhs; rw [h2]
    rw [pnt_app, pnt_app, pnt_out _ _ m2 h.2]
  rw [e1, e2]
/-- The pieces of strokes may be. -/
theorem pie_may {f : Fl} (h : f.Ok) : MayL (pieL f) := by
  intro q hq
  unfold pieL plcL at hq
  have hm := h.2.2.2.1
  split at hq
  · simp at hq
  · split at hq
    · split at hq
      · simp at hq
      · simp at hq; rw [hq]; exact hm
    · split at hq
      · simp at hq
      · split at hq
        · simp at hq; rw [hq]; exact hm
        · unfold meets at hq
          obtain ⟨p, _, rfl⟩ := List.mem_map.1 (List.mem_filter.1 hq).1
          exact meet_may _ _
theorem pies_may {l : List Fl} (h : ∀ f ∈ l, f.Ok) : MayL (l.flatMap pieL) := by
  intro q hq
  obtain ⟨f, hf, hq⟩ := List.mem_flatMap.1 hq
  exact pie_may (h f hf) q hq
theorem pieA_may {a b : List Fl} (ha : ∀ f ∈ a, f.Ok) (hb : ∀ f ∈ b, f.Ok) : MayL (pieA a b) := by
  obtain ⟨p, q, h1, h2⟩ := mid_spec a b
  exact (pies_may fun f hf => ha f (by rw [h1]; simp [hf])).append (pies_may fun f hf => hb f (by rw [h2]; simp [hf]))
end Go.Proofs.YtfcphagmjijmkaaGreatDoor

namespace Go.Proofs.YtfcphagmjijmkaaGreatDoor
open Go.RowKit
set_option linter.unusedVariables false
attribute [local go_sem] vwp vUpon_value vUpon_skip vUpon_enter vUpon_row
set_option linter.unusedSimpArgs false
set_option linter.unusedVariables false
def cntF (l : List Fl) (f : Fl) : Nat := l.countP fun g => g.eqb f
theorem cntF_cons (g : Fl) (l : List Fl) (f : Fl) : cntF (g :: l) f = cntF l f + if g.eqb f then 1 else 0 := by
  unfold cntF
  rw [List.countP_cons]
theorem cntF_append (l m : List Fl) (f : Fl) : cntF (l ++ m) f = cntF l f + cntF m f := by
  unfold cntF
  rw [List.countP_append]
theorem cntF_pos {l : List Fl} {f : Fl} : 0 < cntF l f ↔ f ∈ l := by
  unfold cntF
  rw [List.countP_pos_iff]
  constructor
  · rintro ⟨g, hg, h⟩
    rw [← Fl.eqb_iff.1 h]
    exact hg
  · intro h
    exact ⟨f, h, f.eqb_refl⟩
/-- The nodes of the flat strokes that two rows have not each as often. -/
def NodP (a b : List Fl) (l : List Int) : Prop := Rise l ∧ ∀ n, n ∈ l ↔ ∃ f, cntF a f ≠ cntF b f ∧ f.s.node = n
theorem nod_unique {a b : List Fl} {l m : List Int} (h1 : NodP a b l) (h2 : NodP a b m) : l = m :=
  rise_unique h1.1 h2.1 fun x => by rw [h1.2, h2.2]
def nodStep (a b : List Fl) (o : List Int) (f : Fl) : List Int := if cntF a f = cntF b f then o else edgeI o f.s.node
def nodL (a b : List Fl) : List Int := (a ++ b).foldl (nodStep a b) []
theorem nod_is (a b : List Fl) : NodP a b (nodL a b) := by
  constructor
  · refine foldl_rise (fun t q h => ?_) _ _ trivial
    unfold nodStep
    split
    · exact h
    · exact edgeI_rise h
  · intro n
    unfold nodL
    rw [foldl_mem (g := fun f x => cntF a f ≠ cntF b f ∧ f.s.node = x)]
    · constructor
      · rintro (h | ⟨f, _, h⟩)
        · simp at h
        · exact ⟨f, h⟩
      · rintro ⟨f, h1, h2⟩
        refine .inr ⟨f, ?_, h1, h2⟩
        by_cases c : f ∈ a ++ b
        · exact c
        · have c1 : ¬ 0 < cntF a f := fun h => c (List.mem_append.2 (.inl (cntF_pos.1 h)))
          have c2 : ¬ 0 < cntF b f := fun h => c (List.mem_append.2 (.inr (cntF_pos.1 h)))
          omega
    · intro t q x
      unfold nodStep
      split
      · rename_i h
        constructor
        · exact .inl
        · rintro (h' | ⟨h', _⟩)
          · exact h'
          · exact absurd h h'
      · rename_i h
        rw [mem_edgeI]
        constructor
        · rintro (h' | h')
          · exact .inr ⟨h, h'.symm⟩
          · exact .inl h'
        · rintro (h' | ⟨_, h'⟩)
          · exact .inr h'
          · exact .inl h'.symm
/-! ### one matched with one -/
end Go.Proofs.YtfcphagmjijmkaaGreatDoor
