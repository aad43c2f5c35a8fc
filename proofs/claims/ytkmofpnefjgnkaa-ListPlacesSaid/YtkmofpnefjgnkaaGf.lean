/-
  XGf: XRegCe XRegCf.
-/
import Derived.Test.YtkmofpnefjgnkaaGe
namespace Go.Proofs.Ytkmofpnefjgnkaa
open Go.RowKit
set_option linter.unusedVariables false
attribute [local go_sem] vwp vUpon_value vUpon_skip vUpon_enter vUpon_row
set_option linter.unusedSimpArgs false
set_option linter.unusedVariables false
section
set_option linter.unusedSimpArgs false
set_option linter.unusedVariables false
def HtB (out : List Re) (c : Int) : Prop := ∀ q ∈ out, 0 ≤ q.ht ∧ q.ht ≤ c + 16384
theorem endsS_inj : ∀ {l m : List Sp}, endsS l = endsS m → l = m
  | [], [], _ => rfl
  | [], t :: m, h => by simp [endsS] at h
  | s :: l, [], h => by simp [endsS] at h
  | s :: l, t :: m, h => by
    rw [show endsS (s :: l) = s.1 :: s.2 :: endsS l from rfl, show endsS (t :: m) = t.1 :: t.2 :: endsS m from rfl] at h
    injection h with h1 h
    injection h with h2 h
    rw [endsS_inj h, Prod.ext h1 h2]
theorem alike_ends (l m : List Sp) : eqIs (endsS l) (endsS m) = decide (l = m) := by
  rw [Bool.eq_iff_iff, eqIs_iff, decide_eq_true_eq]
  exact ⟨endsS_inj, fun h => by rw [h]⟩
theorem growL_zero (out : List Re) (d : Int) : growL out 0 d = out := by unfold growL; simp
theorem growL_at {out : List Re} {k m : Nat} {d : Int} (hn : out.length = k + m + 1) : (growL out k d)[m]? = out[m]? := by
  unfold growL
  rw [List.getElem?_append_left (by rw [List.length_take]; omega), List.getElem?_take_of_lt (by omega)]
theorem growL_step {out : List Re} {k m : Nat} {d : Int} {q : Re} (hn : out.length = k + m + 1) (hq : out[m]? = some q) : growL out (k + 1) d = (growL out k d).set m ⟨q.x, q.y, q.wd, q.ht + d⟩ := by
  unfold growL
  rw [show out.length - (k + 1) = m by omega, show out.length - k = m + 1 by omega, List.set_append_left _ _ (by rw [List.length_take]; omega)]
  rw [drop_get hq, List.map_cons]
  have : out.take (m + 1) = out.take m ++ [q] := by rw [List.take_add_one, hq]; rfl
  rw [this, List.set_append_right _ _ (by rw [List.length_take]; omega)]
  have : m - (out.take m).length = 0 := by rw [List.length_take]; omega
  rw [this]
  simp
theorem growL_bd {out : List Re} {k : Nat} {y z : Int} (h : HtB out y) (hyz : y ≤ z) : HtB (growL out k (z - y)) z := by
  intro q hq
  unfold growL at hq
  rcases List.mem_append.1 hq with hq | hq
  · have := h q (List.mem_of_mem_take hq)
    omega
  · obtain ⟨p, hp, rfl⟩ := List.mem_map.1 hq
    have := h p (List.mem_of_mem_drop hp)
    simp only
    omega
theorem rects_bd {out : List Re} {l : List Sp} {y z : Int} (h : HtB out y) (hyz : y ≤ z) (hy : InM y) : HtB (out ++ rectsOf y (z - y) l) z := by
  intro q hq
  rcases List.mem_append.1 hq with hq | hq
  · have := h q hq
    omega
  · obtain ⟨p, hp, rfl⟩ := List.mem_map.1 hq
    unfold InM at hy
    simp only
    omega
theorem ref_step {now : Int → List Sp} {out : List Re} {last : List Sp} {X : List Int} {i : Nat} {y z : Int} (h1 : X[i]? = some y) (h2 : X[i + 1]? = some z) :
    refGo now out last (X.drop i) = if now y = last then refGo now (growL out last.length (z - y)) last (X.drop (i + 1)) else refGo now (out ++ rectsOf y (z - y) (now y)) (now y) (X.drop (i + 1)) := by
  rw [drop_get h1, drop_get h2]
  rfl
theorem ref_end {now : Int → List Sp} {out : List Re} {last : List Sp} {X : List Int} {i : Nat} (h : X.length ≤ i + 1) : refGo now out last (X.drop i) = out := by
  have : (X.drop i).length ≤ 1 := by rw [List.length_drop]; omega
  match hX : X.drop i, this with
  | [], _ => rfl
  | [_], _ => rfl
theorem rise_le {X : List Int} (h : Rise X) {i : Nat} {y z : Int} (h1 : X[i]? = some y) (h2 : X[i + 1]? = some z) : y ≤ z := by
  have hd := drop_get h1
  rw [drop_get h2] at hd
  have : ∀ (l : List Int) (k : Nat), Rise l → Rise (l.drop k) := by
    intro l k
    induction k generalizing l with
    | zero => intro h; simpa using h
    | succ k ih =>
      intro h
      cases l with
      | nil => simpa using h
      | cons a r => exact ih r h.tail
  have hr := this X i h
  rw [hd] at hr
  exact Int.le_of_lt (hr.above z (by simp))
theorem endsS_fst : ∀ {M : List Sp} {p : Nat} {t : Sp}, M[p]? = some t → (endsS M)[2 * p]? = some t.1
  | [], p, t, h => by simp at h
  | s :: M, 0, t, h => by simp at h; subst h; rfl
  | s :: M, p + 1, t, h => by
    have := endsS_fst (M := M) (p := p) (t := t) (by simpa using h)
    rw [show endsS (s :: M) = s.1 :: s.2 :: endsS M from rfl, show 2 * (p + 1) = (2 * p) + 1 + 1 by omega, List.getElem?_cons_succ, List.getElem?_cons_succ]
    exact this
theorem grown_set {w w' : World} {r : Option Nat} {g : Nat} (h : w.grownBy w' r) (hr : r = some g) (o : Nat) (u : Value) : w.grownBy (w'.setCell ⟨g, o, none⟩ u) r := by
  subst hr
  refine ⟨h.os, h.tape, h.output, ?_, fun k hk hne => ?_⟩
  · have e : (w'.setCell ⟨g, o, none⟩ u).heap.size = w'.heap.size := by simp
    rw [e]; exact h.size
  · rw [heap_setCell_other _ _ _ _ (by rintro rfl; exact hne rfl)]
    exact h.block k hk hne
theorem grown_stay {w w1 w2 : World} {r : Option Nat} (h : w.grownBy w1 r) (hb : Below w1.heap.size w1 w2) : w.grownBy w2 r :=
  ⟨hb.os.trans h.os, hb.tape.trans h.tape, hb.output.trans h.output, Nat.le_trans h.size hb.size, fun k hk hne => (hb.block k (Nat.lt_of_lt_of_le hk h.size)).trans (h.block k hk hne)⟩
theorem own_putR {w : World} {base g n cap k : Nat} {C : List Re} {q : Re} (h : OwnsR base w (.slice (some ⟨g, 0, none⟩) n cap) C) (hn : C.length = n) (hq : C[k]? = some q) (u : Int) : OwnsR base (w.setCell ⟨g, k * 4 + 3, none⟩ (.int .i64 u)) (.slice (some ⟨g, 0, none⟩) n cap) (C.set k ⟨q.x, q.y, q.wd, u⟩) := by
  have hk := (List.getElem?_eq_some_iff.1 hq).1
  unfold OwnsR at *
  rw [List.length_set, hn]
  rw [hn] at h
  have := own_put h (k := k * 4 + 3) (by omega) (.int .i64 u)
  rw [flat_set Re.enc_len 3 (.int .i64 u) q ⟨q.x, q.y, q.wd, u⟩ (by omega) rfl C k hq] at this
  exact this
theorem own_unfzR {w : World} {base g n cap : Nat} {C : List Re} (h : OwnsR base w (.slice (some ⟨g, 0, none⟩) n cap) C) (o : Nat) : w.frozen? ⟨g, o, none⟩ = false := by
  rcases h.2 with ⟨h0, _⟩ | ⟨g', cap', cur, hv, hg, hh, _⟩
  · cases h0
  · injection hv with hv _ _
    injection hv with hv
    injection hv with hv _ _
    subst hv
    simp [World.frozen?, hh]
theorem edgesY_len (a b : List Re) : (edgesY a b).length ≤ a.length * 2 + b.length * 2 := by
  unfold edgesY
  have h1 := edgF_fold true 0 a []
  have h2 := edgF_fold true 0 b (a.foldl edgY [])
  rw [edgF_true] at h1 h2
  simp at h1
  omega
def MadePost (E : Int) (L : List Re) (w : World) (e : Ending) (w' : World) : Prop := Below w.heap.size w w' ∧ ∃ v, e = .returned (.tuple #[v, .int .i64 E]) ∧ OwnsR w.heap.size w' v L
end
section
set_option linter.unusedSimpArgs false
set_option linter.unusedVariables false
theorem MadePost.mono {E : Int} {L : List Re} {w w1 : World} {e : Ending} {w' : World} (hb : Below w.heap.size w w1) (h : MadePost E L w1 e w') : MadePost E L w e w' := by
  obtain ⟨h1, v, h2, h3⟩ := h
  exact ⟨hb.trans (h1.mono hb.size), v, h2, own_less h3 hb.size⟩
end
end Go.Proofs.Ytkmofpnefjgnkaa
