/-
  Sets of places, plain: a form has just the places that are wanted; a set has one form; how many rectangles a form has.
-/
import Derived.Test.YtlklmncjicgbgaaRegP
namespace Go.Proofs.Ytlklmncjicgbgaa
open Go.RowKit
set_option linter.unusedVariables false
attribute [local go_sem] vwp vUpon_value vUpon_skip vUpon_enter vUpon_row
set_option linter.unusedSimpArgs false
/-! ### forms as sets of places -/
abbrev Bd := Int × Int × List Sp
def OnB (l : List Bd) (x z : Int) : Prop := ∃ t ∈ l, t.1 ≤ z ∧ z < t.1 + t.2.1 ∧ InS t.2.2 x
def GoodB (t : Bd) : Prop := 0 < t.2.1 ∧ t.2.2 ≠ [] ∧ CanS t.2.2
def CanB : List Bd → Prop
  | [] => True
  | [t] => GoodB t
  | t :: u :: r => GoodB t ∧ t.1 + t.2.1 ≤ u.1 ∧ (t.1 + t.2.1 = u.1 → t.2.2 ≠ u.2.2) ∧ CanB (u :: r)
theorem CanB.tail {t : Bd} {r : List Bd} (h : CanB (t :: r)) : CanB r := by
  cases r with
  | nil => trivial
  | cons u r => exact h.2.2.2
theorem CanB.good {t : Bd} {r : List Bd} (h : CanB (t :: r)) : GoodB t := by
  cases r with
  | nil => exact h
  | cons u r => exact h.1
theorem CanB.above {t : Bd} {r : List Bd} (h : CanB (t :: r)) : ∀ u ∈ r, t.1 + t.2.1 ≤ u.1 ∧ GoodB u := by
  induction r generalizing t with
  | nil => simp
  | cons v r ih =>
    intro u hu
    rcases List.mem_cons.1 hu with rfl | hu
    · exact ⟨h.2.1, h.2.2.2.good⟩
    · have := ih h.2.2.2 u hu
      have := h.2.1
      have := h.2.2.2.good.1
      exact ⟨by omega, (ih h.2.2.2 u hu).2⟩
theorem OnB.nil (x z : Int) : ¬ OnB [] x z := by simp [OnB]
theorem OnB.cons {t : Bd} {r : List Bd} {x z : Int} : OnB (t :: r) x z ↔ (t.1 ≤ z ∧ z < t.1 + t.2.1 ∧ InS t.2.2 x) ∨ OnB r x z := by simp [OnB]
theorem OnB.append {l m : List Bd} {x z : Int} : OnB (l ++ m) x z ↔ OnB l x z ∨ OnB m x z := by
  unfold OnB
  simp only [List.mem_append]
  constructor
  · rintro ⟨t, h | h, h'⟩
    · exact .inl ⟨t, h, h'⟩
    · exact .inr ⟨t, h, h'⟩
  · rintro (⟨t, h, h'⟩ | ⟨t, h, h'⟩)
    · exact ⟨t, .inl h, h'⟩
    · exact ⟨t, .inr h, h'⟩
theorem CanS.some {l : List Sp} (h : CanS l) (hn : l ≠ []) : ∃ x, InS l x := by
  cases l with
  | nil => exact absurd rfl hn
  | cons s r => exact ⟨s.1, InS.cons.2 (.inl ⟨Int.le_refl _, h.pos⟩)⟩
theorem CanB.below_ {t : Bd} {r : List Bd} (h : CanB (t :: r)) {x z : Int} (hz : z < t.1 + t.2.1) : ¬ OnB r x z := by
  rintro ⟨u, hu, h1, _⟩
  have := (h.above u hu).1
  omega
theorem canB_unique : ∀ {l m : List Bd}, CanB l → CanB m → (∀ x z, OnB l x z ↔ OnB m x z) → l = m
  | [], [], _, _, _ => rfl
  | [], t :: r, _, hm, h => by
    obtain ⟨x, hx⟩ := hm.good.2.2.some hm.good.2.1
    have := hm.good.1
    exact absurd ((h x t.1).2 (OnB.cons.2 (.inl ⟨Int.le_refl _, by omega, hx⟩))) (OnB.nil _ _)
  | t :: r, [], hl, _, h => by
    obtain ⟨x, hx⟩ := hl.good.2.2.some hl.good.2.1
    have := hl.good.1
    exact absurd ((h x t.1).1 (OnB.cons.2 (.inl ⟨Int.le_refl _, by omega, hx⟩))) (OnB.nil _ _)
  | t :: r, u :: q, hl, hm, h => by
    obtain ⟨gt1, gt2, gt3⟩ := hl.good
    obtain ⟨gu1, gu2, gu3⟩ := hm.good
    obtain ⟨xt, hxt⟩ := gt3.some gt2
    obtain ⟨xu, hxu⟩ := gu3.some gu2
    have lo : ∀ {v : Bd} {w : List Bd}, CanB (v :: w) → ∀ x z, OnB (v :: w) x z → v.1 ≤ z := by
      intro v w hv x z ho
      rcases OnB.cons.1 ho with h' | ⟨k, hk, h1, _⟩
      · exact h'.1
      · have := (hv.above k hk).1; have := hv.good.1; omega
    have a1 := lo hm _ _ ((h xt t.1).1 (OnB.cons.2 (.inl ⟨Int.le_refl _, by omega, hxt⟩)))
    have a2 := lo hl _ _ ((h xu u.1).2 (OnB.cons.2 (.inl ⟨Int.le_refl _, by omega, hxu⟩)))
    have e1 : t.1 = u.1 := by omega
    have e2 : t.2.2 = u.2.2 := by
      refine canS_unique gt3 gu3 (fun x => ?_)
      constructor
      · intro hx
        rcases OnB.cons.1 ((h x t.1).1 (OnB.cons.2 (.inl ⟨Int.le_refl _, by omega, hx⟩))) with h' | h'
        · exact h'.2.2
        · exact absurd h' (hm.below_ (by omega))
      · intro hx
        rcases OnB.cons.1 ((h x t.1).2 (OnB.cons.2 (.inl ⟨by omega, by omega, hx⟩))) with h' | h'
        · exact h'.2.2
        · exact absurd h' (hl.below_ (by omega))
    have up : ∀ {v k : Bd} {w p : List Bd}, CanB (v :: w) → CanB (k :: p) → v.1 = k.1 → v.2.2 = k.2.2 → (∀ x z, OnB (v :: w) x z ↔ OnB (k :: p) x z) → k.2.1 ≤ v.2.1 := by
      intro v k w p hv hk e e' hh
      rcases Int.lt_or_le v.2.1 k.2.1 with hlt | hle
      · exfalso
        have hvp := hv.good.1
        cases w with
        | nil =>
          obtain ⟨x, hx⟩ := hk.good.2.2.some hk.good.2.1
          have := (hh x (v.1 + v.2.1)).2 (OnB.cons.2 (.inl ⟨by omega, by omega, hx⟩))
          rcases OnB.cons.1 this with h' | h'
          · omega
          · exact OnB.nil _ _ h'
        | cons n w =>
          by_cases hn : n.1 = v.1 + v.2.1
          · have hg := hv.2.2.2.good
            have : v.2.2 = n.2.2 := by
              rw [e']
              refine canS_unique hk.good.2.2 hg.2.2 (fun x => ?_)
              constructor
              · intro hx
                have := (hh x n.1).2 (OnB.cons.2 (.inl ⟨by omega, by omega, hx⟩))
                rcases OnB.cons.1 this with h' | h'
                · omega
                · rcases OnB.cons.1 h' with h' | h'
                  · exact h'.2.2
                  · exact absurd h' (hv.2.2.2.below_ (by have := hg.1; omega))
              · intro hx
                have := (hh x n.1).1 (OnB.cons.2 (.inr (OnB.cons.2 (.inl ⟨Int.le_refl _, by have := hg.1; omega, hx⟩))))
                rcases OnB.cons.1 this with h' | h'
                · exact h'.2.2
                · exact absurd h' (hk.below_ (by omega))
            exact hv.2.2.1 hn.symm this
          · have hge := hv.2.1
            obtain ⟨x, hx⟩ := hk.good.2.2.some hk.good.2.1
            have := (hh x (v.1 + v.2.1)).2 (OnB.cons.2 (.inl ⟨by omega, by omega, hx⟩))
            rcases OnB.cons.1 this with h' | h'
            · omega
            · have := lo hv.2.2.2 _ _ h'
              omega
      · exact hle
    have b1 := up hl hm e1 e2 h
    have b2 := up hm hl e1.symm e2.symm (fun x z => (h x z).symm)
    obtain rfl : t = u := by
      obtain ⟨t1, t2, t3⟩ := t
      obtain ⟨u1, u2, u3⟩ := u
      simp only at e1 e2 b1 b2
      rw [e1, e2, show t2 = u2 by omega]
    have : r = q := canB_unique hl.tail hm.tail (fun x z => by
      constructor
      · intro hx
        rcases OnB.cons.1 ((h x z).1 (OnB.cons.2 (.inr hx))) with h' | h'
        · exact absurd hx (hl.below_ h'.2.1)
        · exact h'
      · intro hx
        rcases OnB.cons.1 ((h x z).2 (OnB.cons.2 (.inr hx))) with h' | h'
        · exact absurd hx (hm.below_ h'.2.1)
        · exact h')
    rw [this]
theorem canB_cons {t : Bd} {l : List Bd} (ht : GoodB t) (hl : CanB l) (h : ∀ u ∈ l.head?, t.1 + t.2.1 ≤ u.1 ∧ (t.1 + t.2.1 = u.1 → t.2.2 ≠ u.2.2)) : CanB (t :: l) := by
  cases l with
  | nil => exact ht
  | cons u r => obtain ⟨h1, h2⟩ := h u rfl; exact ⟨ht, h1, h2, hl⟩
/-- The bands from an open one on. 'N' says what each row holds. -/
theorem band_spec {now N : Int → List Sp} (hc : ∀ y, CanS (now y)) : ∀ (r : List Int) (y : Int) (last : List Sp) (frm : Int), Rise (y :: r) → (∀ a b, (a, b) ∈ (y :: r).zip r → ∀ z, a ≤ z → z < b → N z = now a) → CanS last → (last ≠ [] → frm < y) →
    CanB (bandGo now last frm (y :: r)) ∧ (∀ x z, OnB (bandGo now last frm (y :: r)) x z ↔ (frm ≤ z ∧ z < y ∧ InS last x) ∨ (y ≤ z ∧ (∃ b ∈ (y :: r).getLast?, z < b) ∧ InS (N z) x)) ∧ (∀ t ∈ (bandGo now last frm (y :: r)).head?, if last = [] then y ≤ t.1 else t.1 = frm ∧ t.2.2 = last)
  | [], y, last, frm, _, _, hl, hf => by
    show CanB (if last = [] then [] else [(frm, y - frm, last)]) ∧ (∀ x z, OnB (if last = [] then [] else [(frm, y - frm, last)]) x z ↔ _) ∧ (∀ t ∈ (if last = [] then [] else [(frm, y - frm, last)]).head?, _)
    by_cases e : last = []
    · subst e
      refine ⟨trivial, fun x z => ?_, by simp⟩
      simp only [if_pos, OnB.nil, InS.nil, List.getLast?_singleton, Option.mem_def, Option.some.injEq, exists_eq_left', false_iff, and_false, false_or]
      omega
    · rw [if_neg e]
      have := hf e
      refine ⟨⟨by show 0 < y - frm; omega, e, hl⟩, fun x z => ?_, fun t ht => ?_⟩
      · simp only [OnB.cons, OnB.nil, or_false, List.getLast?_singleton, Option.mem_def, Option.some.injEq, exists_eq_left']
        constructor
        · rintro ⟨h1, h2, h3⟩; exact .inl ⟨h1, by omega, h3⟩
        · rintro (⟨h1, h2, h3⟩ | h)
          · exact ⟨h1, by omega, h3⟩
          · omega
      · simp at ht
        rw [if_neg e, ← ht]
        exact ⟨rfl, rfl⟩
  | z :: r, y, last, frm, hr, hN, hl, hf => by
    have hyz : y < z := hr.1
    have hN1 : ∀ v, y ≤ v → v < z → N v = now y := hN y z (by simp)
    have hN' : ∀ a b, (a, b) ∈ (z :: r).zip r → ∀ v, a ≤ v → v < b → N v = now a := fun a b hab => hN a b (by simp only [List.zip_cons_cons]; exact List.mem_cons_of_mem _ hab)
    have hlast : ∃ b, (z :: r).getLast? = some b ∧ z ≤ b := by
      obtain ⟨_, _, b, hb, _, h⟩ := rise_bounds hr.2 (v := z) (by simp)
      exact ⟨b, hb, h⟩
    obtain ⟨b, hgb, hzb⟩ := hlast
    have hg2 : (y :: z :: r).getLast? = some b := by rw [List.getLast?_cons_cons]; exact hgb
    by_cases e : now y = last
    · have e0 : bandGo now last frm (y :: z :: r) = bandGo now last frm (z :: r) := by
        show (if now y = last then _ else _) = _
        rw [if_pos e]
      rw [e0]
      obtain ⟨i1, i2, i3⟩ := band_spec (N := N) hc r z last frm hr.2 hN' hl (fun h => by have := hf h; omega)
      refine ⟨i1, fun x v => ?_, fun t ht => ?_⟩
      · rw [i2, hg2, hgb]
        simp only [Option.mem_def, Option.some.injEq, exists_eq_left']
        constructor
        · rintro (⟨h1, h2, h3⟩ | ⟨h1, h2, h3⟩)
          · rcases Int.lt_or_le v y with hv | hv
            · exact .inl ⟨h1, hv, h3⟩
            · exact .inr ⟨hv, by omega, by rw [hN1 v hv h2, e]; exact h3⟩
          · exact .inr ⟨by omega, h2, h3⟩
        · rintro (⟨h1, h2, h3⟩ | ⟨h1, h2, h3⟩)
          · exact .inl ⟨h1, by omega, h3⟩
          · rcases Int.lt_or_le v z with hv | hv
            · rw [hN1 v h1 hv, e] at h3
              have hne : last ≠ [] := by rintro rfl; exact InS.nil _ h3
              exact .inl ⟨by have := hf hne; omega, hv, h3⟩
            · exact .inr ⟨hv, h2, h3⟩
      · have := i3 t ht
        split at this
        · rename_i h; rw [if_pos h]; omega
        · rename_i h; rw [if_neg h]; exact this
    · have e0 : bandGo now last frm (y :: z :: r) = (if last = [] then [] else [(frm, y - frm, last)]) ++ bandGo now (now y) y (z :: r) := by
        show (if now y = last then _ else _) = _
        rw [if_neg e]
      rw [e0]
      obtain ⟨i1, i2, i3⟩ := band_spec (N := N) hc r z (now y) y hr.2 hN' (hc y) (fun _ => hyz)
      have hmid : ∀ x v, OnB (bandGo now (now y) y (z :: r)) x v ↔ (y ≤ v ∧ v < b ∧ InS (N v) x) := by
        intro x v
        rw [i2, hgb]
        simp only [Option.mem_def, Option.some.injEq, exists_eq_left']
        constructor
        · rintro (⟨h1, h2, h3⟩ | ⟨h1, h2, h3⟩)
          · exact ⟨h1, by omega, by rw [hN1 v h1 h2]; exact h3⟩
          · exact ⟨by omega, h2, h3⟩
        · rintro ⟨h1, h2, h3⟩
          rcases Int.lt_or_le v z with hv | hv
          · exact .inl ⟨h1, hv, by rw [← hN1 v h1 hv]; exact h3⟩
          · exact .inr ⟨hv, h2, h3⟩
      have hhead : ∀ t ∈ (bandGo now (now y) y (z :: r)).head?, y ≤ t.1 ∧ (t.1 = y → t.2.2 = now y) := by
        intro t ht
        have := i3 t ht
        split at this
        · exact ⟨by omega, fun h => by omega⟩
        · exact ⟨by omega, fun _ => this.2⟩
      by_cases hle : last = []
      · subst hle
        rw [if_pos rfl, List.nil_append]
        refine ⟨i1, fun x v => ?_, fun t ht => ?_⟩
        · rw [hmid, hg2]
          simp only [Option.mem_def, Option.some.injEq, exists_eq_left', InS.nil, and_false, false_or]
        · rw [if_pos rfl]; exact (hhead t ht).1
      · rw [if_neg hle]
        have hfy := hf hle
        refine ⟨canB_cons ⟨by show 0 < y - frm; omega, hle, hl⟩ i1 (fun u hu => ?_), fun x v => ?_, fun t ht => ?_⟩
        · have := hhead u hu
          refine ⟨by show frm + (y - frm) ≤ u.1; omega, fun h => ?_⟩
          have h' : frm + (y - frm) = u.1 := h
          rw [this.2 (by omega)]
          exact fun h2 => e h2.symm
        · rw [List.singleton_append, OnB.cons, hmid, hg2]
          simp only [Option.mem_def, Option.some.injEq, exists_eq_left']
          constructor
          · rintro (⟨h1, h2, h3⟩ | h)
            · exact .inl ⟨h1, by omega, h3⟩
            · exact .inr h
          · rintro (⟨h1, h2, h3⟩ | h)
            · exact .inl ⟨h1, by omega, h3⟩
            · exact .inr h
        · rw [if_neg hle]
          have ht' : some (frm, y - frm, last) = some t := ht
          injection ht' with ht'
          rw [← ht']
          exact ⟨rfl, rfl⟩
theorem has_constY {l : List Re} {ys : List Int} (hs : Sane l) (hm : ∀ q ∈ l, ∀ v, OnY q v → v ∈ ys) (hr : Rise ys) {a b : Int} (hab : (a, b) ∈ ys.zip ys.tail) {z : Int} (h1 : a ≤ z) (h2 : z < b) (x : Int) : hasL l x z = hasL l x a := by
  unfold hasL
  rw [Bool.eq_iff_iff, List.any_eq_true, List.any_eq_true]
  have key : ∀ q ∈ l, (hasR q x z = true ↔ hasR q x a = true) := by
    intro q hq
    obtain ⟨s1, s2⟩ := hs q hq
    unfold hasR
    simp only [Bool.and_eq_true, decide_eq_true_eq]
    by_cases hrow : q.x ≤ x ∧ x < q.x + q.wd
    · by_cases hw : q.ht = 0
      · omega
      · have hn : noneR q = false := by unfold noneR; simp; omega
        have e1 := rise_gap hr hab _ (hm q hq q.y ⟨hn, .inl rfl⟩)
        have e2 := rise_gap hr hab _ (hm q hq (q.y + q.ht) ⟨hn, .inr rfl⟩)
        omega
    · omega
  constructor
  · rintro ⟨q, hq, h⟩; exact ⟨q, hq, (key q hq).1 h⟩
  · rintro ⟨q, hq, h⟩; exact ⟨q, hq, (key q hq).2 h⟩
theorem has_withinY {l : List Re} {ys : List Int} {x z : Int} (hm : ∀ q ∈ l, ∀ v, OnY q v → v ∈ ys) (hr : Rise ys) (h : hasL l x z = true) : ∃ a ∈ ys.head?, ∃ b ∈ ys.getLast?, a ≤ z ∧ z < b := by
  unfold hasL at h
  obtain ⟨q, hq, h⟩ := List.any_eq_true.1 h
  unfold hasR at h
  simp only [Bool.and_eq_true, decide_eq_true_eq] at h
  have hn : noneR q = false := by unfold noneR; simp; omega
  obtain ⟨a, ha, b, hb, h1, h2⟩ := rise_bounds hr (hm q hq q.y ⟨hn, .inl rfl⟩)
  obtain ⟨a', ha', b', hb', h1', h2'⟩ := rise_bounds hr (hm q hq (q.y + q.ht) ⟨hn, .inr rfl⟩)
  exact ⟨a, ha, b', hb', by omega, by omega⟩
theorem spans_congr {a b a' b' : List Re} {what what' y y' : Int} (ha : Sane a) (hb : Sane b) (ha' : Sane a') (hb' : Sane b') (h : ∀ x, keptB a b what x y = keptB a' b' what' x y') : spansP a b what y = spansP a' b' what' y' := by
  obtain ⟨c1, c2⟩ := spans_spec ha hb what y
  obtain ⟨d1, d2⟩ := spans_spec ha' hb' what' y'
  refine canS_unique c1 d1 (fun x => ?_)
  rw [c2, d2, h]
theorem bands_spec {a b : List Re} (ha : Sane a) (hb : Sane b) (what : Int) : CanB (bandsP a b what) ∧ ∀ x z, OnB (bandsP a b what) x z ↔ keptB a b what x z = true := by
  have hr := edgesY_rise a b
  have m1 : ∀ q ∈ a, ∀ v, OnY q v → v ∈ edgesY a b := fun q hq v h => mem_edgesY.2 ⟨q, by simp [hq], h⟩
  have m2 : ∀ q ∈ b, ∀ v, OnY q v → v ∈ edgesY a b := fun q hq v h => mem_edgesY.2 ⟨q, by simp [hq], h⟩
  have hin : ∀ x z, keptB a b what x z = true → ∃ p ∈ (edgesY a b).head?, ∃ q ∈ (edgesY a b).getLast?, p ≤ z ∧ z < q := fun x z h => by
    rcases want_some h with h | h
    · exact has_withinY m1 hr h
    · exact has_withinY m2 hr h
  have hgap : ∀ u v, (u, v) ∈ (edgesY a b).zip (edgesY a b).tail → ∀ z, u ≤ z → z < v → spansP a b what z = spansP a b what u := fun u v huv z h1 h2 => by
    refine spans_congr ha hb ha hb (fun x => ?_)
    unfold keptB
    rw [has_constY ha m1 hr huv h1 h2, has_constY hb m2 hr huv h1 h2]
  unfold bandsP
  cases he : edgesY a b with
  | nil =>
    refine ⟨trivial, fun x z => ?_⟩
    constructor
    · intro h; exact absurd h (OnB.nil _ _)
    · intro h
      obtain ⟨p, hp, _⟩ := hin x z h
      rw [he] at hp
      simp at hp
  | cons y r =>
    rw [he] at hr hgap
    obtain ⟨c1, c2, _⟩ := band_spec (now := fun y => spansP a b what y) (N := fun y => spansP a b what y) (fun y => (spans_spec ha hb what y).1) r y [] 0 hr (fun u v huv z h1 h2 => hgap u v huv z h1 h2) trivial (fun h => absurd rfl h)
    refine ⟨c1, fun x z => ?_⟩
    rw [c2]
    show _ ∨ (y ≤ z ∧ _ ∧ InS (spansP a b what z) x) ↔ _
    rw [(spans_spec ha hb what z).2]
    constructor
    · rintro (⟨_, _, h⟩ | ⟨_, _, h⟩)
      · exact absurd h (InS.nil _)
      · exact h
    · intro h
      obtain ⟨p, hp, q, hq, h1, h2⟩ := hin x z h
      rw [he] at hp hq
      simp only [List.head?_cons, Option.mem_def, Option.some.injEq] at hp
      subst hp
      exact .inr ⟨h1, ⟨q, hq, h2⟩, h⟩
theorem has_rects {y h x z : Int} {l : List Sp} : hasL (rectsOf y h l) x z = true ↔ (y ≤ z ∧ z < y + h ∧ InS l x) := by
  unfold hasL rectsOf InS
  rw [List.any_eq_true]
  constructor
  · rintro ⟨q, hq, hh⟩
    obtain ⟨s, hs, rfl⟩ := List.mem_map.1 hq
    unfold hasR at hh
    simp only [Bool.and_eq_true, decide_eq_true_eq] at hh
    exact ⟨by omega, by omega, s, hs, by omega, by omega⟩
  · rintro ⟨h1, h2, s, hs, h3, h4⟩
    refine ⟨_, List.mem_map.2 ⟨s, hs, rfl⟩, ?_⟩
    unfold hasR
    simp only [Bool.and_eq_true, decide_eq_true_eq]
    omega
theorem has_append {l m : List Re} {x z : Int} : hasL (l ++ m) x z = (hasL l x z || hasL m x z) := by unfold hasL; rw [List.any_append]
theorem has_flat {l : List Bd} {x z : Int} : hasL (flatB l) x z = true ↔ OnB l x z := by
  induction l with
  | nil => simp [flatB, hasL, OnB]
  | cons t l ih =>
    rw [show flatB (t :: l) = rectsOf t.1 t.2.1 t.2.2 ++ flatB l from rfl, has_append, Bool.or_eq_true, ih, has_rects, OnB.cons]
/-- THE FORM HAS JUST THE PLACES THAT ARE WANTED. -/
theorem form_has {a b : List Re} (ha : Sane a) (hb : Sane b) (what x z : Int) : hasL (formR a b what) x z = keptB a b what x z := by
  rw [Bool.eq_iff_iff]
  unfold formR
  rw [has_flat, (bands_spec ha hb what).2]
/-- A SET HAS ONE FORM. -/
theorem form_congr {a b a' b' : List Re} {what what' : Int} (ha : Sane a) (hb : Sane b) (ha' : Sane a') (hb' : Sane b') (h : ∀ x z, keptB a b what x z = keptB a' b' what' x z) : formR a b what = formR a' b' what' := by
  obtain ⟨c1, c2⟩ := bands_spec ha hb what
  obtain ⟨d1, d2⟩ := bands_spec ha' hb' what'
  unfold formR
  rw [canB_unique c1 d1 (fun x z => by rw [c2, d2, h])]
theorem band_good : ∀ {l : List Bd}, CanB l → ∀ t ∈ l, GoodB t
  | [], _, t, ht => by simp at ht
  | u :: l, h, t, ht => by
    rcases List.mem_cons.1 ht with rfl | ht
    · exact h.good
    · exact (h.above t ht).2
/-- No rectangle of a form is empty. -/
theorem form_pos {a b : List Re} (ha : Sane a) (hb : Sane b) (what : Int) : ∀ q ∈ formR a b what, 0 < q.wd ∧ 0 < q.ht := by
  intro q hq
  unfold formR flatB at hq
  obtain ⟨t, ht, hq⟩ := List.mem_flatMap.1 hq
  obtain ⟨g1, g2, g3⟩ := band_good (bands_spec ha hb what).1 t ht
  obtain ⟨s, hs, rfl⟩ := List.mem_map.1 hq
  have := g3.all_pos s hs
  exact ⟨by simp only; omega, by simp only; omega⟩
theorem form_sane {a b : List Re} (ha : Sane a) (hb : Sane b) (what : Int) : Sane (formR a b what) := fun q hq => by
  have := form_pos ha hb what q hq; omega
theorem sane_nil : Sane [] := fun q hq => by simp at hq
theorem sane_append {a b : List Re} (ha : Sane a) (hb : Sane b) : Sane (a ++ b) := fun q hq => by
  rcases List.mem_append.1 hq with h | h
  · exact ha q h
  · exact hb q h
theorem kept_one (a : List Re) (x z : Int) : keptB a [] 1 x z = hasL a x z := by
  unfold keptB wantB; simp [hasL]
/-- A form is its own form. -/
theorem form_form {a b : List Re} (ha : Sane a) (hb : Sane b) (what : Int) : formR (formR a b what) [] 1 = formR a b what :=
  form_congr (form_sane ha hb what) sane_nil ha hb (fun x z => by rw [kept_one, form_has ha hb])
/-- The corners of a place of the form lie within the given rectangles' ends. -/
theorem form_corner {a b : List Re} (ha : Sane a) (hb : Sane b) {what : Int} {q : Re} (hq : q ∈ formR a b what) (x z : Int) (h : hasR q x z = true) : ∃ p ∈ a ++ b, hasR p x z = true := by
  have h1 : hasL (formR a b what) x z = true := by unfold hasL; rw [List.any_eq_true]; exact ⟨q, hq, h⟩
  rw [form_has ha hb] at h1
  rcases want_some h1 with h | h
  · unfold hasL at h; obtain ⟨p, hp, h⟩ := List.any_eq_true.1 h; exact ⟨p, by simp [hp], h⟩
  · unfold hasL at h; obtain ⟨p, hp, h⟩ := List.any_eq_true.1 h; exact ⟨p, by simp [hp], h⟩
/-! ### how many rectangles a form has -/
def sumN : List Nat → Nat
  | [] => 0
  | a :: r => a + sumN r
theorem sumN_append (a b : List Nat) : sumN (a ++ b) = sumN a + sumN b := by
  induction a with
  | nil => simp [sumN]
  | cons x a ih => simp only [List.cons_append, sumN, ih]; omega
theorem sub_len {α : Type} [BEq α] [LawfulBEq α] : ∀ {V C : List α}, V.Nodup → (∀ v ∈ V, v ∈ C) → V.length ≤ C.length
  | [], _, _, _ => Nat.zero_le _
  | v :: V, C, hn, h => by
    have hv := h v (by simp)
    obtain ⟨h1, h2⟩ := List.nodup_cons.1 hn
    have := sub_len (V := V) (C := C.erase v) h2 (fun u hu => (List.mem_erase_of_ne (by rintro rfl; exact h1 hu)).2 (h u (by simp [hu])))
    rw [List.length_erase_of_mem hv] at this
    have := List.length_pos_of_mem hv
    simp only [List.length_cons]; omega
theorem rise_nodup : ∀ {l : List Int}, Rise l → l.Nodup
  | [], _ => List.nodup_nil
  | a :: r, h => List.nodup_cons.2 ⟨fun ha => by have := h.above a ha; omega, rise_nodup h.tail⟩
theorem cnt_inj {α : Type} {V : List Int} {L : List α} {P : Int → Bool} {Q : α → Bool} (f : α → Int) (hV : V.Nodup) (h : ∀ v ∈ V, P v = true → ∃ j ∈ L, Q j = true ∧ f j = v) : V.countP P ≤ L.countP Q := by
  rw [List.countP_eq_length_filter, List.countP_eq_length_filter, show (L.filter Q).length = ((L.filter Q).map f).length from (List.length_map _).symm]
  refine sub_len (hV.filter _) (fun v hv => ?_)
  obtain ⟨h1, h2⟩ := List.mem_filter.1 hv
  obtain ⟨j, hj, hq, e⟩ := h v h1 h2
  exact List.mem_map.2 ⟨j, List.mem_filter.2 ⟨hj, hq⟩, e⟩
theorem cnt_disj {α : Type} {P Q : α → Bool} : ∀ {L : List α}, (∀ j ∈ L, P j = true → Q j = true → False) → L.countP P + L.countP Q ≤ L.length
  | [], _ => by simp
  | a :: L, h => by
    have ih := cnt_disj (P := P) (Q := Q) (L := L) (fun j hj => h j (by simp [hj]))
    rw [List.countP_cons, List.countP_cons, List.length_cons]
    have := h a (by simp)
    cases hp : P a <;> cases hq : Q a <;> simp_all <;> omega
def actB (v : Int) (q : Re) : Bool := decide (q.y ≤ v) && decide (v < q.y + q.ht)
def actN (L : List Re) (v : Int) : Nat := L.countP (actB v)
def actV (L : List Re) (V : List Int) : Nat := sumN (V.map (actN L))
theorem actV_cons (q : Re) (L : List Re) (V : List Int) : actV (q :: L) V = actV L V + V.countP (fun v => actB v q) := by
  unfold actV
  induction V with
  | nil => simp [sumN]
  | cons v V ih =>
    simp only [List.map_cons, sumN, ih, List.countP_cons]
    have : actN (q :: L) v = actN L v + if actB v q = true then 1 else 0 := by unfold actN; rw [List.countP_cons]
    omega
theorem actV_split (L : List Re) (p : Int → Bool) (V : List Int) : actV L V = actV L (V.filter p) + actV L (V.filter fun v => !p v) := by
  unfold actV
  induction V with
  | nil => simp [sumN]
  | cons v V ih =>
    simp only [List.map_cons, sumN, List.filter_cons]
    cases p v
    · simp only [Bool.false_eq_true, if_false, Bool.not_false, if_true, List.map_cons, sumN]; omega
    · simp only [Bool.not_true, Bool.false_eq_true, if_false, if_true, List.map_cons, sumN]; omega
theorem only_one {V : List Int} {c : Int} (hn : V.Nodup) (h : ∀ v ∈ V, v = c) : V = [] ∨ V = [c] := by
  match V, hn, h with
  | [], _, _ => exact .inl rfl
  | [v], _, h => exact .inr (by rw [h v (by simp)])
  | v :: u :: V, hn, h =>
    have := (List.nodup_cons.1 hn).1
    exact absurd (by rw [h v (by simp), h u (by simp)]; simp) this
theorem act_starts : ∀ (L : List Re) (V : List Int), V.Nodup → (∀ v ∈ V, ∃ q ∈ L, q.y = v) → 2 * actV L V ≤ L.length * (L.length + 1)
  | [], V, _, h => by
    have : V = [] := List.eq_nil_iff_forall_not_mem.2 (fun v hv => by obtain ⟨q, hq, _⟩ := h v hv; simp at hq)
    subst this
    simp [actV, sumN]
  | q :: L, V, hn, h => by
    rw [actV_cons, actV_split L (fun v => decide (∃ j ∈ L, j.y = v)) V]
    have ih := act_starts L (V.filter fun v => decide (∃ j ∈ L, j.y = v)) (hn.filter _) (fun v hv => by
      have := (List.mem_filter.1 hv).2
      simpa using this)
    have h2 : ∀ v ∈ V.filter (fun v => !decide (∃ j ∈ L, j.y = v)), v = q.y := fun v hv => by
      obtain ⟨hv1, hv2⟩ := List.mem_filter.1 hv
      obtain ⟨j, hj, e⟩ := h v hv1
      rcases List.mem_cons.1 hj with rfl | hj
      · exact e.symm
      · have hno : ¬ ∃ j ∈ L, j.y = v := by simpa using hv2
        exact absurd ⟨j, hj, e⟩ hno
    have key : V.countP (fun v => actB v q) + actV L (V.filter fun v => !decide (∃ j ∈ L, j.y = v)) ≤ L.length + 1 := by
      rcases only_one (hn.filter _) h2 with e | e
      · rw [e]
        have h3 : V.countP (fun v => actB v q) ≤ L.countP (fun _ => true) := by
          refine cnt_inj (fun j => j.y) hn (fun v hv _ => ?_)
          by_cases hd : ∃ j ∈ L, j.y = v
          · obtain ⟨j, hj, hjv⟩ := hd; exact ⟨j, hj, rfl, hjv⟩
          · have : v ∈ V.filter (fun v => !decide (∃ j ∈ L, j.y = v)) := List.mem_filter.2 ⟨hv, by simpa using hd⟩
            rw [e] at this; simp at this
        have : L.countP (fun _ => true) ≤ L.length := List.countP_le_length
        simp only [actV, List.map_nil, sumN]; omega
      · rw [e]
        have hq : ¬ ∃ j ∈ L, j.y = q.y := by
          have : q.y ∈ V.filter (fun v => !decide (∃ j ∈ L, j.y = v)) := by rw [e]; simp
          have := (List.mem_filter.1 this).2
          simpa using this
        have h3 : V.countP (fun v => actB v q) ≤ 1 + L.countP (fun j => decide (q.y < j.y)) := by
          have : V.countP (fun v => actB v q) ≤ (q :: L).countP (fun j => decide (j.y = q.y) || decide (q.y < j.y)) := by
            refine cnt_inj (fun j => j.y) hn (fun v hv ha => ?_)
            obtain ⟨j, hj, ejv⟩ := h v hv
            unfold actB at ha
            simp only [Bool.and_eq_true, decide_eq_true_eq] at ha
            refine ⟨j, hj, ?_, ejv⟩
            simp only [Bool.or_eq_true, decide_eq_true_eq]
            omega
          rw [List.countP_cons] at this
          have e2 : L.countP (fun j => decide (j.y = q.y) || decide (q.y < j.y)) = L.countP (fun j => decide (q.y < j.y)) := by
            apply List.countP_congr
            intro j hj
            have : j.y ≠ q.y := fun e => hq ⟨j, hj, e⟩
            simp [this]
          rw [e2] at this
          simp at this
          omega
        have h4 : L.countP (fun j => decide (q.y < j.y)) + L.countP (actB q.y) ≤ L.length := cnt_disj (fun j _ h1 h2 => by
          unfold actB at h2
          simp only [Bool.and_eq_true, decide_eq_true_eq] at h1 h2
          omega)
        simp only [actV, List.map_cons, List.map_nil, sumN]
        unfold actN; omega
    simp only [List.length_cons]
    have e1 : (L.length + 1) * (L.length + 1 + 1) = L.length * (L.length + 1) + 2 * (L.length + 1) := by
      rw [show L.length + 1 + 1 = L.length + 2 from rfl, Nat.mul_add (L.length + 1) L.length 2, Nat.mul_comm (L.length + 1) L.length]; omega
    omega
theorem act_ends : ∀ (L : List Re) (V : List Int), V.Nodup → (∀ v ∈ V, ∃ q ∈ L, q.y + q.ht = v) → 2 * actV L V + L.length ≤ L.length * L.length
  | [], V, _, h => by
    have : V = [] := List.eq_nil_iff_forall_not_mem.2 (fun v hv => by obtain ⟨q, hq, _⟩ := h v hv; simp at hq)
    subst this
    simp [actV, sumN]
  | q :: L, V, hn, h => by
    rw [actV_cons, actV_split L (fun v => decide (∃ j ∈ L, j.y + j.ht = v)) V]
    have ih := act_ends L (V.filter fun v => decide (∃ j ∈ L, j.y + j.ht = v)) (hn.filter _) (fun v hv => by
      have := (List.mem_filter.1 hv).2
      simpa using this)
    have h2 : ∀ v ∈ V.filter (fun v => !decide (∃ j ∈ L, j.y + j.ht = v)), v = q.y + q.ht := fun v hv => by
      obtain ⟨hv1, hv2⟩ := List.mem_filter.1 hv
      obtain ⟨j, hj, e⟩ := h v hv1
      rcases List.mem_cons.1 hj with rfl | hj
      · exact e.symm
      · have hno : ¬ ∃ j ∈ L, j.y + j.ht = v := by simpa using hv2
        exact absurd ⟨j, hj, e⟩ hno
    have h3 : V.countP (fun v => actB v q) ≤ L.countP (fun j => decide (j.y + j.ht < q.y + q.ht)) := by
      refine cnt_inj (fun j => j.y + j.ht) hn (fun v hv ha => ?_)
      obtain ⟨j, hj, ejv⟩ := h v hv
      unfold actB at ha
      simp only [Bool.and_eq_true, decide_eq_true_eq] at ha
      rcases List.mem_cons.1 hj with rfl | hj
      · omega
      · exact ⟨j, hj, by simp only [decide_eq_true_eq]; omega, ejv⟩
    have key : V.countP (fun v => actB v q) + actV L (V.filter fun v => !decide (∃ j ∈ L, j.y + j.ht = v)) ≤ L.length := by
      rcases only_one (hn.filter _) h2 with e | e
      · rw [e]
        have : L.countP (fun j => decide (j.y + j.ht < q.y + q.ht)) ≤ L.length := List.countP_le_length
        simp only [actV, List.map_nil, sumN]; omega
      · rw [e]
        have h4 : L.countP (fun j => decide (j.y + j.ht < q.y + q.ht)) + L.countP (actB (q.y + q.ht)) ≤ L.length := cnt_disj (fun j _ h1 h2 => by
          unfold actB at h2
          simp only [Bool.and_eq_true, decide_eq_true_eq] at h1 h2
          omega)
        simp only [actV, List.map_cons, List.map_nil, sumN]
        unfold actN; omega
    simp only [List.length_cons]
    have e1 : (L.length + 1) * (L.length + 1) = L.length * L.length + 2 * L.length + 1 := by
      rw [Nat.mul_add, Nat.add_mul]; omega
    omega
/-- The edges' rows have at most the square of the number of rectangles. -/
theorem act_all (L : List Re) (V : List Int) (hn : V.Nodup) (h : ∀ v ∈ V, ∃ q ∈ L, q.y = v ∨ q.y + q.ht = v) : actV L V ≤ L.length * L.length := by
  rw [actV_split L (fun v => decide (∃ j ∈ L, j.y = v)) V]
  have h1 := act_starts L (V.filter fun v => decide (∃ j ∈ L, j.y = v)) (hn.filter _) (fun v hv => by
    have := (List.mem_filter.1 hv).2
    simpa using this)
  have h2 := act_ends L (V.filter fun v => !decide (∃ j ∈ L, j.y = v)) (hn.filter _) (fun v hv => by
    obtain ⟨hv1, hv2⟩ := List.mem_filter.1 hv
    obtain ⟨j, hj, e | e⟩ := h v hv1
    · have hno : ¬ ∃ j ∈ L, j.y = v := by simpa using hv2
      exact absurd ⟨j, hj, e⟩ hno
    · exact ⟨j, hj, e⟩)
  have : L.length * (L.length + 1) = L.length * L.length + L.length := by rw [Nat.mul_add]; omega
  omega
theorem band_len (now : Int → List Sp) : ∀ (r : List Int) (y : Int) (last : List Sp) (frm : Int), (flatB (bandGo now last frm (y :: r))).length ≤ last.length + sumN (((y :: r).dropLast).map fun v => (now v).length)
  | [], y, last, frm => by
    show (flatB (if last = [] then [] else [(frm, y - frm, last)])).length ≤ _
    rw [flatB_if]; simp [rectsOf]
  | z :: r, y, last, frm => by
    show (flatB (if now y = last then bandGo now last frm (z :: r) else (if last = [] then [] else [(frm, y - frm, last)]) ++ bandGo now (now y) y (z :: r))).length ≤ last.length + sumN ((y :: (z :: r).dropLast).map fun v => (now v).length)
    simp only [List.map_cons, sumN]
    split
    · have := band_len now r z last frm; omega
    · rw [flatB_append, flatB_if, List.length_append]
      have := band_len now r z (now y) y
      simp only [rectsOf, List.length_map] at this ⊢
      omega
theorem starts_rise : ∀ {l : List Sp}, CanS l → Rise (l.map Prod.fst)
  | [], _ => trivial
  | s :: r, h => Rise.mk (starts_rise h.tail) (fun x hx => by
    obtain ⟨t, ht, rfl⟩ := List.mem_map.1 hx
    have := h.above t ht
    have := h.pos
    omega)
theorem start_not : ∀ {l : List Sp}, CanS l → ∀ s ∈ l, ¬ InS l (s.1 - 1)
  | [], _, s, hs => by simp at hs
  | t :: r, h, s, hs => by
    intro hin
    rcases List.mem_cons.1 hs with rfl | hs
    · rcases InS.cons.1 hin with h' | h'
      · omega
      · exact h.not_in (by have := h.pos; omega) h'
    · rcases InS.cons.1 hin with h' | h'
      · have := (h.above s hs).1; omega
      · exact start_not h.tail s hs h'
theorem has_gain {l : List Re} {x y : Int} (h1 : hasL l x y = true) (h2 : hasL l (x - 1) y = false) : ∃ q ∈ l, q.x = x ∧ noneR q = false ∧ actB y q = true := by
  unfold hasL at h1 h2
  obtain ⟨q, hq, h⟩ := List.any_eq_true.1 h1
  have h3 := List.any_eq_false.1 h2 q hq
  unfold hasR at h h3
  simp only [Bool.and_eq_true, decide_eq_true_eq, not_and] at h h3
  refine ⟨q, hq, ?_, by unfold noneR; simp; omega, by unfold actB; simp; omega⟩
  by_cases hx : q.x = x
  · exact hx
  · exact (h3 ⟨⟨by omega, by omega⟩, h.1.2⟩ h.2).elim
theorem has_loss {l : List Re} {x y : Int} (h1 : hasL l x y = false) (h2 : hasL l (x - 1) y = true) : ∃ q ∈ l, q.x + q.wd = x ∧ noneR q = false ∧ actB y q = true := by
  unfold hasL at h1 h2
  obtain ⟨q, hq, h⟩ := List.any_eq_true.1 h2
  have h3 := List.any_eq_false.1 h1 q hq
  unfold hasR at h h3
  simp only [Bool.and_eq_true, decide_eq_true_eq, not_and] at h h3
  refine ⟨q, hq, ?_, by unfold noneR; simp; omega, by unfold actB; simp; omega⟩
  by_cases hx : q.x + q.wd = x
  · exact hx
  · exact (h3 ⟨⟨by omega, by omega⟩, h.1.2⟩ h.2).elim
theorem want_gain {what : Int} {o1 p1 o2 p2 : Bool} (h1 : wantB what o1 p1 = true) (h2 : wantB what o2 p2 = false) : (o1 = true ∧ o2 = false) ∨ (if what = 1 ∨ what = 2 then p1 = true ∧ p2 = false else p1 = false ∧ p2 = true) := by
  unfold wantB at h1 h2
  by_cases w1 : what = 1
  · subst w1
    cases o1 <;> cases p1 <;> cases o2 <;> cases p2 <;> simp_all
  · by_cases w2 : what = 2
    · subst w2
      cases o1 <;> cases p1 <;> cases o2 <;> cases p2 <;> simp_all
    · rw [if_neg w1, if_neg w2] at h1 h2
      rw [if_neg (by omega)]
      cases o1 <;> cases p1 <;> cases o2 <;> cases p2 <;> simp_all
theorem spans_len {a b : List Re} (ha : Sane a) (hb : Sane b) (what y : Int) : (spansP a b what y).length ≤ actN (a ++ b) y := by
  obtain ⟨c1, c2⟩ := spans_spec ha hb what y
  have hst : ∀ v ∈ (spansP a b what y).map Prod.fst, (∃ q ∈ a, q.x = v ∧ actB y q = true) ∨ (∃ q ∈ b, (if what = 1 ∨ what = 2 then q.x else q.x + q.wd) = v ∧ actB y q = true) := by
    intro v hv
    obtain ⟨s, hs, rfl⟩ := List.mem_map.1 hv
    have h1 := (c2 s.1).1 ⟨s, hs, Int.le_refl _, c1.all_pos s hs⟩
    have h2 : keptB a b what (s.1 - 1) y = false := by
      cases h : keptB a b what (s.1 - 1) y
      · rfl
      · exact absurd ((c2 _).2 h) (start_not c1 s hs)
    unfold keptB at h1 h2
    rcases want_gain h1 h2 with ⟨g1, g2⟩ | g
    · obtain ⟨q, hq, e, _, h⟩ := has_gain g1 g2
      exact .inl ⟨q, hq, e, h⟩
    · by_cases hw : what = 1 ∨ what = 2
      · rw [if_pos hw] at g
        obtain ⟨q, hq, e, _, h⟩ := has_gain g.1 g.2
        exact .inr ⟨q, hq, by rw [if_pos hw]; exact e, h⟩
      · rw [if_neg hw] at g
        obtain ⟨q, hq, e, _, h⟩ := has_loss g.1 g.2
        exact .inr ⟨q, hq, by rw [if_neg hw]; exact e, h⟩
  have hn := rise_nodup (starts_rise c1)
  have hle : ((spansP a b what y).map Prod.fst).length ≤ ((a.filter (actB y)).map (fun q => q.x) ++ (b.filter (actB y)).map fun q => if what = 1 ∨ what = 2 then q.x else q.x + q.wd).length := by
    refine sub_len hn (fun v hv => ?_)
    rcases hst v hv with ⟨q, hq, e, h⟩ | ⟨q, hq, e, h⟩
    · exact List.mem_append.2 (.inl (List.mem_map.2 ⟨q, List.mem_filter.2 ⟨hq, h⟩, e⟩))
    · exact List.mem_append.2 (.inr (List.mem_map.2 ⟨q, List.mem_filter.2 ⟨hq, h⟩, e⟩))
  unfold actN
  rw [List.countP_append, List.countP_eq_length_filter, List.countP_eq_length_filter]
  simpa using hle
theorem sumN_mono {f g : Int → Nat} : ∀ {l : List Int}, (∀ v ∈ l, f v ≤ g v) → sumN (l.map f) ≤ sumN (l.map g)
  | [], _ => Nat.le_refl _
  | v :: l, h => by
    have := h v (by simp)
    have := sumN_mono (f := f) (g := g) (l := l) (fun u hu => h u (by simp [hu]))
    simp only [List.map_cons, sumN]; omega
/-- A form of n rectangles has at most n * n. -/
theorem form_len {a b : List Re} (ha : Sane a) (hb : Sane b) (what : Int) : (formR a b what).length ≤ (a.length + b.length) * (a.length + b.length) := by
  unfold formR bandsP
  have hr := edgesY_rise a b
  have hm : ∀ v ∈ edgesY a b, ∃ q ∈ a ++ b, q.y = v ∨ q.y + q.ht = v := fun v hv => by
    obtain ⟨q, hq, _, h⟩ := mem_edgesY.1 hv
    exact ⟨q, hq, by omega⟩
  cases he : edgesY a b with
  | nil => simp [bandGo, flatB]
  | cons y r =>
    rw [he] at hr hm
    have h1 := band_len (fun y => spansP a b what y) r y [] 0
    have h2 : sumN (((y :: r).dropLast).map fun v => (spansP a b what v).length) ≤ actV (a ++ b) ((y :: r).dropLast) := sumN_mono (fun v _ => spans_len ha hb what v)
    have h3 := act_all (a ++ b) ((y :: r).dropLast) ((rise_nodup hr).sublist (List.dropLast_sublist _)) (fun v hv => hm v (List.dropLast_subset _ hv))
    rw [List.length_append] at h3
    simp only [List.length_nil, Nat.zero_add] at h1
    exact Nat.le_trans h1 (Nat.le_trans h2 h3)
end Go.Proofs.Ytlklmncjicgbgaa
