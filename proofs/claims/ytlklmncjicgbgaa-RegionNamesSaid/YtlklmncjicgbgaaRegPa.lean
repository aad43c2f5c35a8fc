/-
  Sets of places, plain: the rules of sets.
-/
import Derived.Test.YtlklmncjicgbgaaRegR
namespace Go.Proofs.Ytlklmncjicgbgaa
open Go.RowKit
set_option linter.unusedVariables false
attribute [local go_sem] vwp vUpon_value vUpon_skip vUpon_enter vUpon_row
set_option linter.unusedSimpArgs false
set_option linter.unusedVariables false
theorem chk_of {l : List Re} (h : MayL l) (hl : l.length ≤ 1024) : chkR l = 0 := by
  unfold chkR
  rw [if_neg (by omega), if_pos (List.all_eq_true.2 h)]
theorem both_of {a b : List Re} {what : Int} (ha : MayL a) (hb : MayL b) (la : a.length ≤ 1024) (lb : b.length ≤ 1024) (hf : (formR a b what).length ≤ 1024) : bothE a b what = 0 ∧ bothL a b what = formR a b what := by
  have e : askR a b = 0 := by unfold askR; rw [if_pos (chk_of ha la), chk_of hb lb]
  unfold bothE bothL
  rw [if_pos e, if_pos e]
  unfold madeE madeL
  rw [if_neg (by omega), if_neg (by omega)]
  exact ⟨rfl, rfl⟩
theorem form_small {a b : List Re} (what : Int) (ha : MayL a) (hb : MayL b) (n : Nat) (hn : a.length + b.length ≤ n) (h32 : n ≤ 32) : (formR a b what).length ≤ 1024 := by
  have h1 := form_len ha.sane hb.sane what
  have h2 : (a.length + b.length) * (a.length + b.length) ≤ 32 * 32 := Nat.mul_le_mul (by omega) (by omega)
  omega
theorem has_nil (x z : Int) : hasL [] x z = false := rfl
/-- Lists with the same places. -/
def SameP (a b : List Re) : Prop := ∀ x z, hasL a x z = hasL b x z
theorem form_places {a b : List Re} (ha : Sane a) (hb : Sane b) (what : Int) (x z : Int) : hasL (formR a b what) x z = wantB what (hasL a x z) (hasL b x z) := form_has ha hb what x z
theorem form_same {a b a' b' : List Re} {what what' : Int} (ha : Sane a) (hb : Sane b) (ha' : Sane a') (hb' : Sane b') (h : ∀ x z, wantB what (hasL a x z) (hasL b x z) = wantB what' (hasL a' x z) (hasL b' x z)) : formR a b what = formR a' b' what' := form_congr ha hb ha' hb' h
theorem want1 (o p : Bool) : wantB 1 o p = (o || p) := rfl
theorem want2 (o p : Bool) : wantB 2 o p = (o && p) := rfl
theorem want3 (o p : Bool) : wantB 3 o p = (o && !p) := rfl
theorem join_comm {a b : List Re} (ha : Sane a) (hb : Sane b) : formR a b 1 = formR b a 1 := form_same ha hb hb ha (fun x z => by rw [want1, want1, Bool.or_comm])
theorem meet_comm {a b : List Re} (ha : Sane a) (hb : Sane b) : formR a b 2 = formR b a 2 := form_same ha hb hb ha (fun x z => by rw [want2, want2, Bool.and_comm])
theorem join_assoc {a b c : List Re} (ha : Sane a) (hb : Sane b) (hc : Sane c) : formR (formR a b 1) c 1 = formR a (formR b c 1) 1 :=
  form_same (form_sane ha hb 1) hc ha (form_sane hb hc 1) (fun x z => by rw [form_places ha hb, form_places hb hc, want1, want1, want1, want1, Bool.or_assoc])
theorem join_left {a b c : List Re} (ha : Sane a) (hb : Sane b) (hc : Sane c) : formR (formR a b 1) c 1 = formR (a ++ b) c 1 :=
  form_same (form_sane ha hb 1) hc (sane_append ha hb) hc (fun x z => by rw [form_places ha hb, has_append, want1, want1, want1])
theorem whole_eq {a b : List Re} (ha : Sane a) (hb : Sane b) : formR (formR a b 2) (formR a b 3) 1 = formR a [] 1 :=
  form_same (form_sane ha hb 2) (form_sane ha hb 3) ha sane_nil (fun x z => by
    rw [form_places ha hb, form_places ha hb, want1, want2, want3, want1, has_nil]
    cases hasL a x z <;> cases hasL b x z <;> rfl)
theorem none_eq {a b : List Re} (ha : Sane a) (hb : Sane b) : formR (formR a b 3) b 2 = [] := by
  have : formR (formR a b 3) b 2 = formR [] [] 1 := form_same (form_sane ha hb 3) hb sane_nil sane_nil (fun x z => by
    rw [form_places ha hb, want2, want3, want1, has_nil]
    cases hasL a x z <;> cases hasL b x z <;> rfl)
  rw [this]
  rfl
def backL (a : List Re) : List Re := a.reverse ++ a.take 1
theorem has_mem {a b : List Re} (h : ∀ q, q ∈ a ↔ q ∈ b) : SameP a b := by
  intro x z
  unfold hasL
  rw [Bool.eq_iff_iff, List.any_eq_true, List.any_eq_true]
  constructor
  · rintro ⟨q, hq, e⟩; exact ⟨q, (h q).1 hq, e⟩
  · rintro ⟨q, hq, e⟩; exact ⟨q, (h q).2 hq, e⟩
theorem back_mem (a : List Re) (q : Re) : q ∈ backL a ↔ q ∈ a := by
  unfold backL
  rw [List.mem_append, List.mem_reverse]
  constructor
  · rintro (h | h)
    · exact h
    · exact List.mem_of_mem_take h
  · intro h; exact .inl h
theorem back_form {a : List Re} (ha : Sane a) : formR (backL a) [] 1 = formR a [] 1 :=
  form_same (fun q hq => ha q ((back_mem a q).1 hq)) sane_nil ha sane_nil (fun x z => by rw [has_mem (back_mem a) x z])
theorem back_len (a : List Re) : (backL a).length ≤ a.length + 1 := by
  unfold backL
  rw [List.length_append, List.length_reverse, List.length_take]
  omega
/-! ### the same places just if the same form -/
theorem rise_find : ∀ {X : List Int}, Rise X → ∀ {z : Int}, (∃ a ∈ X.head?, ∃ b ∈ X.getLast?, a ≤ z ∧ z < b) → ∃ u v, (u, v) ∈ X.zip X.tail ∧ u ≤ z ∧ z < v
  | [], _, z, h => by obtain ⟨a, ha, _⟩ := h; simp at ha
  | [x], _, z, h => by
    obtain ⟨a, ha, b, hb, h1, h2⟩ := h
    simp at ha hb
    omega
  | x :: y :: X, hr, z, h => by
    obtain ⟨a, ha, b, hb, h1, h2⟩ := h
    simp at ha
    subst ha
    by_cases hz : z < y
    · exact ⟨x, y, by simp, h1, hz⟩
    · obtain ⟨u, v, huv, h3, h4⟩ := rise_find hr.2 (z := z) ⟨y, by simp, b, by rw [List.getLast?_cons_cons] at hb; exact hb, by omega, h2⟩
      exact ⟨u, v, by simp only [List.tail_cons, List.zip_cons_cons] at huv ⊢; exact List.mem_cons_of_mem _ huv, h3, h4⟩
theorem mem_zip_left {X : List Int} {u v : Int} (h : (u, v) ∈ X.zip X.tail) : u ∈ X := (List.of_mem_zip h).1
theorem same_places {a b : List Re} (ha : Sane a) (hb : Sane b) (h : ∀ y ∈ edgesY a b, spansP a [] 1 y = spansP b [] 1 y) : SameP a b := by
  have hr := edgesY_rise a b
  have m1 : ∀ q ∈ a, ∀ v, OnY q v → v ∈ edgesY a b := fun q hq v h => mem_edgesY.2 ⟨q, by simp [hq], h⟩
  have m2 : ∀ q ∈ b, ∀ v, OnY q v → v ∈ edgesY a b := fun q hq v h => mem_edgesY.2 ⟨q, by simp [hq], h⟩
  obtain hA := fun y => (spans_spec ha sane_nil 1 y).2
  obtain hB := fun y => (spans_spec hb sane_nil 1 y).2
  have key : ∀ (c : List Re), Sane c → (∀ q ∈ c, ∀ v, OnY q v → v ∈ edgesY a b) → ∀ x z, hasL c x z = true → ∃ y ∈ edgesY a b, hasL a x z = hasL a x y ∧ hasL b x z = hasL b x y := by
    intro c hc mc x z hz
    obtain ⟨u, v, huv, h1, h2⟩ := rise_find hr (has_withinY mc hr hz)
    exact ⟨u, mem_zip_left huv, has_constY ha m1 hr huv h1 h2 x, has_constY hb m2 hr huv h1 h2 x⟩
  have row : ∀ x, ∀ y ∈ edgesY a b, hasL a x y = hasL b x y := by
    intro x y hy
    have e := h y hy
    have h1 := hA y x
    have h2 := hB y x
    rw [kept_one] at h1 h2
    rw [Bool.eq_iff_iff, ← h1, ← h2, e]
  intro x z
  rw [Bool.eq_iff_iff]
  constructor
  · intro hz
    obtain ⟨y, hy, e1, e2⟩ := key a ha m1 x z hz
    rw [e2, ← row x y hy, ← e1]; exact hz
  · intro hz
    obtain ⟨y, hy, e1, e2⟩ := key b hb m2 x z hz
    rw [e1, row x y hy, ← e2]; exact hz
theorem same_forms {a b : List Re} (ha : Sane a) (hb : Sane b) : sameR a b = eqRs (formR a [] 1) (formR b [] 1) := by
  rw [Bool.eq_iff_iff, eqRs_iff]
  unfold sameR
  rw [List.all_eq_true]
  constructor
  · intro h
    have hs := same_places ha hb (fun y hy => by simpa using h y hy)
    exact form_same ha sane_nil hb sane_nil (fun x z => by rw [hs x z])
  · intro h y _
    rw [decide_eq_true_eq]
    refine spans_congr ha sane_nil hb sane_nil (fun x => ?_)
    rw [kept_one, kept_one]
    have h1 := form_places ha sane_nil 1 x y
    have h2 := form_places hb sane_nil 1 x y
    rw [h] at h1
    rw [h1, want1, want1, has_nil, Bool.or_false, Bool.or_false] at h2
    exact h2
theorem eqRs_refl (l : List Re) : eqRs l l = true := eqRs_iff.2 rfl
end Go.Proofs.Ytlklmncjicgbgaa
