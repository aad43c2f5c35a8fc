/-
  Damage, plain: the form of some rectangles, or the one about them; damage is the same either way round; what it misses stays.
-/
import Derived.Test.YtfcphagmjijmkaaGreatDoorProg
import Derived.Test.YtfcphagmjijmkaaGreatDoorDq18
namespace Go.Proofs.YtfcphagmjijmkaaGreatDoor
open Go.RowKit
set_option linter.unusedVariables false
attribute [local go_sem] vwp vUpon_value vUpon_skip vUpon_enter vUpon_row
set_option linter.unusedSimpArgs false
set_option linter.unusedVariables false
def plainR (q : Re) : Re := if emptyR q then Re.none else q
def joinR (a b : Re) : Re := if emptyR a then plainR b else if emptyR b then a else fromR (min a.x b.x) (min a.y b.y) (max (a.x + a.wd) (b.x + b.wd)) (max (a.y + a.ht) (b.y + b.ht))
theorem empty_iff {q : Re} (h : mayR q = true) : emptyR q = true ↔ q.wd = 0 ∨ q.ht = 0 := by
  rw [empty_none h]
  unfold noneR
  simp
theorem full_mk {q : Re} (h : mayR q = true) (hw : 0 < q.wd) (hh : 0 < q.ht) : emptyR q = false := by
  cases he : emptyR q
  · rfl
  · have := (empty_iff h).1 he
    omega
/-- Two that have places, joined. -/
theorem join_full {a b : Re} (ha : emptyR a = false) (hb : emptyR b = false) : joinR a b = ⟨min a.x b.x, min a.y b.y, max (a.x + a.wd) (b.x + b.wd) - min a.x b.x, max (a.y + a.ht) (b.y + b.ht) - min a.y b.y⟩ ∧ emptyR (joinR a b) = false := by
  obtain ⟨ma, a1, a2⟩ := full_bd ha
  obtain ⟨mb, b1, b2⟩ := full_bd hb
  have p1 := may_bd ma
  have p2 := may_bd mb
  have p3 := may_sum ma
  have p4 := may_sum mb
  have e : joinR a b = ⟨min a.x b.x, min a.y b.y, max (a.x + a.wd) (b.x + b.wd) - min a.x b.x, max (a.y + a.ht) (b.y + b.ht) - min a.y b.y⟩ := by
    unfold joinR
    rw [ha, hb]
    simp only [Bool.false_eq_true, if_false]
    unfold fromR
    rw [if_neg (by omega)]
  refine ⟨e, ?_⟩
  rw [e]
  apply full_mk
  · apply may_of
    simp only
    omega
  · simp only; omega
  · simp only; omega
theorem join_none (q : Re) (h : emptyR q = false) : joinR Re.none q = q := by
  unfold joinR plainR
  rw [Re.none_empty, h]
  rfl
theorem join_self {q : Re} (h : emptyR q = false) : joinR q q = q := by
  rw [(join_full h h).1]
  obtain ⟨x, y, w, t⟩ := q
  obtain ⟨_, a1, a2⟩ := full_bd h
  simp only at a1 a2
  simp only [Re.mk.injEq]
  omega
theorem join_ok {a b : Re} (ha : a = Re.none ∨ emptyR a = false) (hb : emptyR b = false) : emptyR (joinR a b) = false := by
  rcases ha with rfl | ha
  · rw [join_none b hb]; exact hb
  · exact (join_full ha hb).2
theorem join_has {a b : Re} (ha : a = Re.none ∨ emptyR a = false) (hb : emptyR b = false) {x y : Int} (h : hasR a x y = true ∨ hasR b x y = true) : hasR (joinR a b) x y = true := by
  rcases ha with rfl | ha
  · rw [join_none b hb]
    rcases h with h | h
    · have := has_bd.1 h
      simp only [Re.none] at this
      omega
    · exact h
  · rw [(join_full ha hb).1, has_bd]
    rw [has_bd, has_bd] at h
    simp only
    omega
/-- The least one about some. -/
def abtR (l : List Re) : Re := l.foldl joinR Re.none
theorem abt_go : ∀ (l : List Re) (o : Re), (o = Re.none ∨ emptyR o = false) → (∀ q ∈ l, emptyR q = false) → (l = [] ∨ emptyR (l.foldl joinR o) = false) ∧ ∀ x y, (hasR o x y = true ∨ hasL l x y = true) → hasR (l.foldl joinR o) x y = true
  | [], o, _, _ => ⟨.inl rfl, fun x y h => by
      rcases h with h | h
      · exact h
      · cases h⟩
  | q :: l, o, ho, hl => by
    have hq := hl q (by simp)
    have hj := join_ok ho hq
    obtain ⟨h1, h2⟩ := abt_go l (joinR o q) (.inr hj) (fun p hp => hl p (List.mem_cons_of_mem _ hp))
    rw [List.foldl_cons]
    refine ⟨.inr ?_, fun x y h => h2 x y ?_⟩
    · rcases h1 with rfl | h1
      · exact hj
      · exact h1
    · have e : hasL (q :: l) x y = (hasR q x y || hasL l x y) := rfl
      rw [e, Bool.or_eq_true] at h
      rcases h with h | h | h
      · exact .inl (join_has ho hq (.inl h))
      · exact .inl (join_has ho hq (.inr h))
      · exact .inr h
/-- The form of some, or the one about them. -/
def tldL (l : List Re) : List Re := if bothE l [] 1 = 0 then bothL l [] 1 else [abtR l]
theorem askR_one {l : List Re} : askR l [] = chkR l := by
  unfold askR
  split
  · rename_i h; rw [h]; rfl
  · rfl
theorem tld_has {l : List Re} (hl : ∀ q ∈ l, emptyR q = false) (x y : Int) (h : hasL l x y = true) : hasL (tldL l) x y = true := by
  unfold tldL
  split
  · rename_i h0
    rw [bothL_has h0]
    exact h
  · have := (abt_go l Re.none (.inl rfl) hl).2 x y (.inr h)
    show hasL [abtR l] x y = true
    unfold hasL
    simpa [abtR] using this
/-- Where no damage lies, nothing of them lies. -/
theorem tld_not {l : List Re} (hl : ∀ q ∈ l, emptyR q = false) {x y : Int} (h : hasL (tldL l) x y = false) : hasL l x y = false := by
  cases hh : hasL l x y
  · rfl
  · rw [tld_has hl x y hh] at h; cases h
theorem bothE_of {l : List Re} (hm : MayL l) : bothE l [] 1 = if l.length > 1024 then 4 else if (formR l [] 1).length > 1024 then 4 else 0 := by
  unfold bothE
  rw [askR_one]
  unfold chkR
  by_cases h : 1024 < l.length
  · rw [if_pos h, if_pos h]; rfl
  · rw [if_neg h, if_neg h, if_pos (List.all_eq_true.2 hm), if_pos rfl]; rfl
theorem pie_full {f : Fl} (h : f.Ok) : ∀ q ∈ pieL f, emptyR q = false := by
  intro q hq
  have hf : emptyR f.r = false ∨ f.r.eqb Re.none = true := by
    rcases h.2.2.2.2.1 with e | e
    · exact .inr (_root_.Go.Proofs.YtfcphagmjijmkaaGreatDoor.eqb_iff.2 e)
    · exact .inl e
  unfold pieL plcL at hq
  split at hq
  · simp at hq
  · rename_i h1
    simp only [Bool.or_eq_true, not_or, Bool.not_eq_true] at h1
    have hr : emptyR f.r = false := by
      rcases hf with e | e
      · exact e
      · rw [e] at h1; cases h1.1
    split at hq
    · split at hq
      · simp at hq
      · simp at hq; rw [hq]; exact hr
    · split at hq
      · simp at hq
      · split at hq
        · simp at hq; rw [hq]; exact hr
        · unfold meets at hq
          obtain ⟨hm, hn⟩ := List.mem_filter.1 hq
          obtain ⟨p, _, rfl⟩ := List.mem_map.1 hm
          rw [meet_em]
          simpa using hn
theorem pies_full {l : List Fl} (h : ∀ f ∈ l, f.Ok) : ∀ q ∈ l.flatMap pieL, emptyR q = false := by
  intro q hq
  obtain ⟨f, hf, hq⟩ := List.mem_flatMap.1 hq
  exact pie_full (h f hf) q hq
theorem pieA_full {a b : List Fl} (ha : ∀ f ∈ a, f.Ok) (hb : ∀ f ∈ b, f.Ok) : ∀ q ∈ pieA a b, emptyR q = false := by
  obtain ⟨p, q, h1, h2⟩ := mid_spec a b
  intro r hr
  unfold pieA at hr
  rcases List.mem_append.1 hr with hr | hr
  · exact pies_full (fun f hf => ha f (by rw [h1]; simp [hf])) r hr
  · exact pies_full (fun f hf => hb f (by rw [h2]; simp [hf])) r hr
/-! ### the damage of two lists -/
def dmgE (xs ys : List St) : Int := if chkL xs = 0 then chkL ys else chkL xs
def dmgL (xs ys : List St) : List Re := if dmgE xs ys = 0 then tldL (pieA (flts xs) (flts ys)) else []
theorem dmgE_zero {xs ys : List St} (h : dmgE xs ys = 0) : chkL xs = 0 ∧ chkL ys = 0 := by
  unfold dmgE at h
  split at h
  · exact ⟨by assumption, h⟩
  · contradiction
/-- Outside of the damage the same strokes are painted. -/
theorem dmg_out {xs ys : List St} (h : dmgE xs ys = 0) (hx : ∀ s ∈ xs, s.Wf) (hy : ∀ s ∈ ys, s.Wf) {x y : Int} (hn : hasL (dmgL xs ys) x y = false) : atL xs x y = atL ys x y := by
  obtain ⟨c1, c2⟩ := dmgE_zero h
  have o1 := flts_ok c1 hx
  have o2 := flts_ok c2 hy
  unfold dmgL at hn
  rw [if_pos h] at hn
  rw [at_flts c1, at_flts c2]
  exact pnt_mid o1 o2 (tld_not (pieA_full o1 o2) hn)
/-- What is drawn of two lists on one screen is the same outside of their damage. -/
theorem draw_out {wd ht : Int} {cs : List Ce} {xs ys : List St} (h1 : drawE wd ht cs xs = 0) (h2 : drawE wd ht cs ys = 0) (hx : ∀ s ∈ xs, s.Wf) (hy : ∀ s ∈ ys, s.Wf) {k : Nat} (hn : hasL (dmgL xs ys) ((k % wd.toNat : Nat) : Int) ((k / wd.toNat : Nat) : Int) = false) :
    (drawC glyS wd ht cs xs)[k]? = (drawC glyS wd ht cs ys)[k]? := by
  have c1 : chkL xs = 0 := by
    unfold drawE at h1
    split at h1
    · exact h1
    · cases h1
  have c2 : chkL ys = 0 := by
    unfold drawE at h2
    split at h2
    · exact h2
    · cases h2
  have hd : dmgE xs ys = 0 := by unfold dmgE; rw [if_pos c1, c2]
  cases hc : cs[k]? with
  | some c => rw [draw_at h1 hx hc, draw_at h2 hy hc, dmg_out hd hx hy hn]
  | none =>
    have hl : cs.length ≤ k := by simpa using hc
    rw [List.getElem?_eq_none (by rw [draw_len h1]; exact hl), List.getElem?_eq_none (by rw [draw_len h2]; exact hl)]
theorem tld_may {l : List Re} (hm : MayL l) (he : ∀ q ∈ l, emptyR q = false) : MayL (tldL l) ∧ (tldL l).length ≤ 1024 := by
  unfold tldL
  split
  · exact both_may hm
  · rename_i h0
    refine ⟨fun q hq => ?_, by simp⟩
    simp at hq
    rw [hq]
    rcases (abt_go l Re.none (.inl rfl) he).1 with rfl | h
    · decide
    · exact (full_bd h).1
theorem dmg_may {xs ys : List St} (hx : ∀ s ∈ xs, s.Wf) (hy : ∀ s ∈ ys, s.Wf) : MayL (dmgL xs ys) ∧ (dmgL xs ys).length ≤ 1024 := by
  unfold dmgL
  split
  · rename_i h
    obtain ⟨c1, c2⟩ := dmgE_zero h
    exact tld_may (pieA_may (flts_ok c1 hx) (flts_ok c2 hy)) (pieA_full (flts_ok c1 hx) (flts_ok c2 hy))
  · exact ⟨mayL_nil, by simp⟩
end Go.Proofs.YtfcphagmjijmkaaGreatDoor
