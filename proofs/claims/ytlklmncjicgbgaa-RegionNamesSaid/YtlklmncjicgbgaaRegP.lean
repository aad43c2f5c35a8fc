/-
  Sets of places, plain: spans of a row, bands, forms; the program's way and the document's way come to the same.
-/
import Derived.Test.YtlklmncjicgbgaaLisB
namespace Go.Proofs.Ytlklmncjicgbgaa
open Go.RowKit
set_option linter.unusedVariables false
attribute [local go_sem] vwp vUpon_value vUpon_skip vUpon_enter vUpon_row
set_option linter.unusedSimpArgs false
/-- Spans of a row: (from, to), from the left, none beside another one. -/
abbrev Sp := Int × Int
def InS (l : List Sp) (x : Int) : Prop := ∃ s ∈ l, s.1 ≤ x ∧ x < s.2
def CanS : List Sp → Prop
  | [] => True
  | [s] => s.1 < s.2
  | s :: t :: r => s.1 < s.2 ∧ s.2 < t.1 ∧ CanS (t :: r)
theorem CanS.tail {s : Sp} {r : List Sp} (h : CanS (s :: r)) : CanS r := by
  cases r with
  | nil => trivial
  | cons t r => exact h.2.2
theorem CanS.pos {s : Sp} {r : List Sp} (h : CanS (s :: r)) : s.1 < s.2 := by
  cases r with
  | nil => exact h
  | cons t r => exact h.1
theorem CanS.above {s : Sp} {r : List Sp} (h : CanS (s :: r)) : ∀ t ∈ r, s.2 < t.1 ∧ t.1 < t.2 := by
  induction r generalizing s with
  | nil => simp
  | cons u r ih =>
    intro t ht
    obtain ⟨h1, h2, h3⟩ := h
    rcases List.mem_cons.1 ht with rfl | ht
    · exact ⟨h2, h3.pos⟩
    · have := ih h3 t ht
      have := h3.pos
      omega
theorem InS.nil (x : Int) : ¬ InS [] x := by simp [InS]
theorem InS.cons {s : Sp} {r : List Sp} {x : Int} : InS (s :: r) x ↔ (s.1 ≤ x ∧ x < s.2) ∨ InS r x := by
  simp [InS]
theorem CanS.not_in {s : Sp} {r : List Sp} (h : CanS (s :: r)) {x : Int} (hx : x ≤ s.2) : ¬ InS r x := by
  rintro ⟨t, ht, h1, h2⟩
  have := h.above t ht
  omega
/-- A set of places of a row has one form. -/
theorem canS_unique : ∀ {l m : List Sp}, CanS l → CanS m → (∀ x, InS l x ↔ InS m x) → l = m
  | [], [], _, _, _ => rfl
  | [], s :: r, _, hm, h => by
    have := (h s.1).2 (InS.cons.2 (.inl ⟨Int.le_refl _, hm.pos⟩))
    exact absurd this (InS.nil _)
  | s :: r, [], hl, _, h => by
    have := (h s.1).1 (InS.cons.2 (.inl ⟨Int.le_refl _, hl.pos⟩))
    exact absurd this (InS.nil _)
  | s :: r, t :: q, hl, hm, h => by
    have p1 := hl.pos
    have p2 := hm.pos
    have lo : ∀ {u : Sp} {w : List Sp}, CanS (u :: w) → ∀ x, InS (u :: w) x → u.1 ≤ x := by
      intro u w hu x hx
      rcases InS.cons.1 hx with hx | ⟨v, hv, h1, h2⟩
      · exact hx.1
      · have := hu.above v hv; have := hu.pos; omega
    have a1 := lo hm _ ((h s.1).1 (InS.cons.2 (.inl ⟨Int.le_refl _, p1⟩)))
    have a2 := lo hl _ ((h t.1).2 (InS.cons.2 (.inl ⟨Int.le_refl _, p2⟩)))
    have e1 : s.1 = t.1 := by omega
    have up : ∀ {u v : Sp} {w z : List Sp}, CanS (u :: w) → CanS (v :: z) → u.1 = v.1 → (∀ x, InS (u :: w) x ↔ InS (v :: z) x) → u.2 ≤ v.2 := by
      intro u v w z hu hv e hh
      rcases Int.lt_or_le v.2 u.2 with hlt | hle
      · exfalso
        have hp := hv.pos
        have := (hh v.2).1 (InS.cons.2 (.inl ⟨by omega, hlt⟩))
        rcases InS.cons.1 this with h' | h'
        · omega
        · exact hv.not_in (Int.le_refl _) h'
      · exact hle
    have b1 := up hl hm e1 h
    have b2 := up hm hl e1.symm (fun x => (h x).symm)
    have e2 : s.2 = t.2 := by omega
    obtain rfl : s = t := by cases s; cases t; simp_all
    have : r = q := canS_unique hl.tail hm.tail (fun x => by
      constructor
      · intro hx
        rcases InS.cons.1 ((h x).1 (InS.cons.2 (.inr hx))) with h' | h'
        · exact absurd hx (hl.not_in (by omega))
        · exact h'
      · intro hx
        rcases InS.cons.1 ((h x).2 (InS.cons.2 (.inr hx))) with h' | h'
        · exact absurd hx (hm.not_in (by omega))
        · exact h')
    rw [this]
/-! ### rising lists -/
def Rise : List Int → Prop
  | [] => True
  | [_] => True
  | a :: b :: r => a < b ∧ Rise (b :: r)
theorem Rise.tail {a : Int} {r : List Int} (h : Rise (a :: r)) : Rise r := by
  cases r with
  | nil => trivial
  | cons b r => exact h.2
theorem Rise.above {a : Int} {r : List Int} (h : Rise (a :: r)) : ∀ x ∈ r, a < x := by
  induction r generalizing a with
  | nil => simp
  | cons b r ih =>
    intro x hx
    rcases List.mem_cons.1 hx with rfl | hx
    · exact h.1
    · have := ih h.2 x hx; have := h.1; omega
theorem Rise.mk {a : Int} {r : List Int} (h : Rise r) (ha : ∀ x ∈ r, a < x) : Rise (a :: r) := by
  cases r with
  | nil => trivial
  | cons b r => exact ⟨ha b (by simp), h⟩
theorem rise_unique : ∀ {l m : List Int}, Rise l → Rise m → (∀ x, x ∈ l ↔ x ∈ m) → l = m
  | [], [], _, _, _ => rfl
  | [], a :: r, _, _, h => absurd ((h a).2 (by simp)) (by simp)
  | a :: r, [], _, _, h => absurd ((h a).1 (by simp)) (by simp)
  | a :: r, b :: q, hl, hm, h => by
    have h1 := (h a).1 (by simp)
    have h2 := (h b).2 (by simp)
    have e : a = b := by
      rcases List.mem_cons.1 h1 with e | h1
      · exact e
      · rcases List.mem_cons.1 h2 with e | h2
        · exact e.symm
        · have := hm.above a h1; have := hl.above b h2; omega
    subst e
    have : r = q := rise_unique hl.tail hm.tail (fun x => by
      constructor
      · intro hx
        have := hl.above x hx
        rcases List.mem_cons.1 ((h x).1 (by simp [hx])) with e | h'
        · omega
        · exact h'
      · intro hx
        have := hm.above x hx
        rcases List.mem_cons.1 ((h x).2 (by simp [hx])) with e | h'
        · omega
        · exact h')
    rw [this]
/-- A number put into a rising list, once. -/
def edgeI : List Int → Int → List Int
  | [], n => [n]
  | a :: r, n => if a < n then a :: edgeI r n else if a = n then a :: r else n :: a :: r
theorem mem_edgeI {l : List Int} {n x : Int} : x ∈ edgeI l n ↔ x = n ∨ x ∈ l := by
  induction l with
  | nil => simp [edgeI]
  | cons a r ih =>
    unfold edgeI
    split
    · simp only [List.mem_cons, ih]
      constructor
      · rintro (h | h | h) <;> simp [h]
      · rintro (h | h | h) <;> simp [h]
    · split
      · rename_i h; subst h
        simp only [List.mem_cons]
        constructor
        · intro h; exact .inr h
        · rintro (h | h)
          · exact .inl h
          · exact h
      · simp only [List.mem_cons]
theorem edgeI_rise {l : List Int} {n : Int} (h : Rise l) : Rise (edgeI l n) := by
  induction l with
  | nil => trivial
  | cons a r ih =>
    unfold edgeI
    split
    · rename_i h1
      refine Rise.mk (ih h.tail) (fun x hx => ?_)
      rcases mem_edgeI.1 hx with rfl | hx
      · exact h1
      · exact h.above x hx
    · split
      · exact h
      · refine Rise.mk h (fun x hx => ?_)
        rcases List.mem_cons.1 hx with rfl | hx
        · omega
        · have := h.above x hx; omega
/-! ### what is wanted between edges -/
/-- One more stretch. -/
def putS : List Sp → Int → Int → List Sp
  | [], x, y => [(x, y)]
  | [s], x, y => if s.2 = x then [(s.1, y)] else [s, (x, y)]
  | s :: t :: r, x, y => s :: putS (t :: r) x y
def mixGo (keep : Int → Bool) : List Sp → List Int → List Sp
  | out, x :: y :: r => mixGo keep (if keep x then putS out x y else out) (y :: r)
  | out, _ => out
theorem CanS.putS {x y : Int} (hxy : x < y) : ∀ {l : List Sp}, CanS l → (∀ s ∈ l, s.2 ≤ x) → CanS (putS l x y)
  | [], _, _ => hxy
  | [s], h, hx => by
    have := hx s (by simp)
    unfold Go.Proofs.Ytlklmncjicgbgaa.putS
    have h' : s.1 < s.2 := h
    split
    · show s.1 < y; omega
    · exact ⟨h, by show s.2 < x; omega, hxy⟩
  | s :: t :: r, h, hx => by
    have ih := CanS.putS hxy h.2.2 (fun u hu => hx u (by simp [List.mem_cons.1 hu]))
    show CanS (s :: Go.Proofs.Ytlklmncjicgbgaa.putS (t :: r) x y)
    cases r with
    | nil =>
      simp only [Go.Proofs.Ytlklmncjicgbgaa.putS] at ih ⊢
      split
      · rename_i e; rw [if_pos e] at ih
        exact ⟨h.1, h.2.1, ih⟩
      · rename_i e; rw [if_neg e] at ih
        exact ⟨h.1, h.2.1, ih⟩
    | cons u r => exact ⟨h.1, h.2.1, ih⟩
theorem InS.putS {x y : Int} : ∀ {l : List Sp}, (∀ s ∈ l, s.1 < s.2) → ∀ z, x < y → (InS (putS l x y) z ↔ InS l z ∨ (x ≤ z ∧ z < y))
  | [], _, z, _ => by simp [Go.Proofs.Ytlklmncjicgbgaa.putS, InS]
  | [s], h, z, hxy => by
    have := h s (by simp)
    unfold Go.Proofs.Ytlklmncjicgbgaa.putS
    split
    · rename_i e
      simp only [InS.cons, InS.nil, or_false]
      omega
    · simp only [InS.cons, InS.nil, or_false]
  | s :: t :: r, h, z, hxy => by
    show InS (s :: Go.Proofs.Ytlklmncjicgbgaa.putS (t :: r) x y) z ↔ _
    rw [InS.cons, InS.putS (fun u hu => h u (by simp [List.mem_cons.1 hu])) z hxy, InS.cons (s := s), or_assoc]
theorem putS_le {x y : Int} (hxy : x < y) : ∀ {l : List Sp}, (∀ s ∈ l, s.2 ≤ x) → ∀ s ∈ putS l x y, s.2 ≤ y
  | [], _, s, hs => by simp [Go.Proofs.Ytlklmncjicgbgaa.putS] at hs; subst hs; exact Int.le_refl _
  | [t], h, s, hs => by
    have := h t (by simp)
    unfold Go.Proofs.Ytlklmncjicgbgaa.putS at hs
    split at hs
    · simp at hs; subst hs; exact Int.le_refl _
    · simp at hs
      rcases hs with rfl | rfl
      · omega
      · exact Int.le_refl _
  | t :: u :: r, h, s, hs => by
    have hs' : s ∈ t :: Go.Proofs.Ytlklmncjicgbgaa.putS (u :: r) x y := hs
    rcases List.mem_cons.1 hs' with rfl | hs'
    · have := h s (by simp); omega
    · exact putS_le hxy (fun v hv => h v (by simp [List.mem_cons.1 hv])) s hs'
theorem mix_spec {keep : Int → Bool} {p : Int → Bool} : ∀ (xs : List Int) (out : List Sp), Rise xs → CanS out → (∀ x y, (x, y) ∈ xs.zip xs.tail → ∀ z, x ≤ z → z < y → p z = keep x) → (∀ s ∈ out, ∀ x ∈ xs, s.2 ≤ x) →
    CanS (mixGo keep out xs) ∧ ∀ z, InS (mixGo keep out xs) z ↔ InS out z ∨ (p z = true ∧ ∃ a ∈ xs.head?, ∃ b ∈ xs.getLast?, a ≤ z ∧ z < b)
  | [], out, _, hc, _, _ => ⟨hc, fun z => by simp [mixGo]⟩
  | [x], out, _, hc, _, _ => ⟨hc, fun z => by simp [mixGo]; omega⟩
  | x :: y :: r, out, hr, hc, hk, hb => by
    have hxy : x < y := hr.1
    have hkx : ∀ z, x ≤ z → z < y → p z = keep x := hk x y (by simp)
    have hk' : ∀ a b, (a, b) ∈ (y :: r).zip (y :: r).tail → ∀ z, a ≤ z → z < b → p z = keep a := fun a b hab => hk a b (by simp only [List.tail_cons, List.zip_cons_cons] at *; exact List.mem_cons_of_mem _ hab)
    have hlast : ∃ b, (y :: r).getLast? = some b ∧ y ≤ b := by
      cases hg : (y :: r).getLast? with
      | none => simp at hg
      | some b =>
        refine ⟨b, rfl, ?_⟩
        have hm := List.mem_of_getLast? hg
        rcases List.mem_cons.1 hm with rfl | hm
        · exact Int.le_refl _
        · have := hr.2.above b hm; omega
    obtain ⟨b, hgb, hyb⟩ := hlast
    have hg2 : (x :: y :: r).getLast? = some b := by rw [List.getLast?_cons_cons]; exact hgb
    have ho : ∀ s ∈ out, s.1 < s.2 := by
      intro s hs
      have : ∀ (l : List Sp), CanS l → ∀ s ∈ l, s.1 < s.2 := by
        intro l
        cases l with
        | nil => simp
        | cons u l =>
          intro h s hs
          rcases List.mem_cons.1 hs with rfl | hs
          · exact h.pos
          · exact (h.above s hs).2
      exact this out hc s hs
    unfold mixGo
    cases hkp : keep x
    · rw [if_neg (by simp)]
      obtain ⟨h1, h2⟩ := mix_spec (keep := keep) (p := p) (y :: r) out hr.2 hc hk' (fun s hs u hu => hb s hs u (by simp [List.mem_cons.1 hu]))
      refine ⟨h1, fun z => ?_⟩
      rw [h2 z, hg2, hgb]
      simp only [List.head?_cons, Option.mem_def, Option.some.injEq, exists_eq_left']
      constructor
      · rintro (h | ⟨h3, h4, h5⟩)
        · exact .inl h
        · exact .inr ⟨h3, by omega, h5⟩
      · rintro (h | ⟨h3, h4, h5⟩)
        · exact .inl h
        · rcases Int.lt_or_le z y with hz | hz
          · rw [hkx z h4 hz, hkp] at h3; cases h3
          · exact .inr ⟨h3, hz, h5⟩
    · rw [if_pos rfl]
      have hbx : ∀ s ∈ out, s.2 ≤ x := fun s hs => hb s hs x (by simp)
      have hle := putS_le hxy hbx
      obtain ⟨h1, h2⟩ := mix_spec (keep := keep) (p := p) (y :: r) (putS out x y) hr.2 (hc.putS hxy hbx) hk' (fun s hs u hu => by
        have := hle s hs
        rcases List.mem_cons.1 hu with rfl | hu
        · exact this
        · have := hr.2.above u hu; omega)
      refine ⟨h1, fun z => ?_⟩
      rw [h2 z, hg2, hgb, InS.putS ho z hxy]
      simp only [List.head?_cons, Option.mem_def, Option.some.injEq, exists_eq_left']
      constructor
      · rintro ((h | ⟨h3, h4⟩) | ⟨h3, h4, h5⟩)
        · exact .inl h
        · exact .inr ⟨by rw [hkx z h3 h4, hkp], h3, by omega⟩
        · exact .inr ⟨h3, by omega, h5⟩
      · rintro (h | ⟨h3, h4, h5⟩)
        · exact .inl (.inl h)
        · rcases Int.lt_or_le z y with hz | hz
          · exact .inl (.inr ⟨h4, hz⟩)
          · exact .inr ⟨h3, hz, h5⟩
/-! ### rectangles as sets of places (those that may be: sides not below 0) -/
def hasR (q : Re) (x y : Int) : Bool := decide (q.x ≤ x) && decide (x < q.x + q.wd) && decide (q.y ≤ y) && decide (y < q.y + q.ht)
def hasL (l : List Re) (x y : Int) : Bool := l.any fun q => hasR q x y
def noneR (q : Re) : Bool := decide (q.wd = 0) || decide (q.ht = 0)
def inRow (q : Re) (y : Int) : Bool := decide (q.y ≤ y) && decide (y < q.y + q.ht)
def edgY (to : List Int) (q : Re) : List Int := if noneR q then to else edgeI (edgeI to q.y) (q.y + q.ht)
def edgX (y : Int) (to : List Int) (q : Re) : List Int := if noneR q then to else if inRow q y then edgeI (edgeI to q.x) (q.x + q.wd) else to
def edgesY (a b : List Re) : List Int := b.foldl edgY (a.foldl edgY [])
def edgesX (a b : List Re) (y : Int) : List Int := b.foldl (edgX y) (a.foldl (edgX y) [])
/-- What is made of two: 1 joined, 2 met, 3 less. -/
def wantB (what : Int) (one other : Bool) : Bool := if what = 1 then one || other else if what = 2 then one && other else one && !other
def keptB (a b : List Re) (what x y : Int) : Bool := wantB what (hasL a x y) (hasL b x y)
/-- The spans of a row. -/
def spansP (a b : List Re) (what y : Int) : List Sp := mixGo (fun x => keptB a b what x y) [] (edgesX a b y)
def Sane (l : List Re) : Prop := ∀ q ∈ l, 0 ≤ q.wd ∧ 0 ≤ q.ht
theorem foldl_rise {α : Type} {f : List Int → α → List Int} (hf : ∀ t q, Rise t → Rise (f t q)) : ∀ (l : List α) (t : List Int), Rise t → Rise (l.foldl f t)
  | [], _, h => h
  | q :: l, t, h => foldl_rise hf l _ (hf t q h)
theorem foldl_mem {α : Type} {f : List Int → α → List Int} {g : α → Int → Prop} (hf : ∀ t q x, x ∈ f t q ↔ x ∈ t ∨ g q x) : ∀ (l : List α) (t : List Int) (x : Int), x ∈ l.foldl f t ↔ x ∈ t ∨ ∃ q ∈ l, g q x
  | [], t, x => by simp
  | q :: l, t, x => by
    rw [List.foldl_cons, foldl_mem hf l, hf]
    simp only [List.mem_cons, exists_eq_or_imp, or_assoc]
theorem edgY_rise (t : List Int) (q : Re) (h : Rise t) : Rise (edgY t q) := by
  unfold edgY; split
  · exact h
  · exact edgeI_rise (edgeI_rise h)
theorem edgX_rise (y : Int) (t : List Int) (q : Re) (h : Rise t) : Rise (edgX y t q) := by
  unfold edgX; split
  · exact h
  · split
    · exact edgeI_rise (edgeI_rise h)
    · exact h
def OnY (q : Re) (v : Int) : Prop := noneR q = false ∧ (v = q.y ∨ v = q.y + q.ht)
def OnX (y : Int) (q : Re) (v : Int) : Prop := noneR q = false ∧ inRow q y = true ∧ (v = q.x ∨ v = q.x + q.wd)
theorem mem_edgY (t : List Int) (q : Re) (x : Int) : x ∈ edgY t q ↔ x ∈ t ∨ OnY q x := by
  unfold edgY OnY
  cases noneR q
  · simp only [Bool.false_eq_true, if_false, mem_edgeI, true_and]
    constructor
    · rintro (h | h | h) <;> simp [h]
    · rintro (h | h | h) <;> simp [h]
  · simp
theorem mem_edgX (y : Int) (t : List Int) (q : Re) (x : Int) : x ∈ edgX y t q ↔ x ∈ t ∨ OnX y q x := by
  unfold edgX OnX
  cases noneR q
  · cases inRow q y
    · simp
    · simp only [Bool.false_eq_true, if_false, if_true, mem_edgeI, true_and]
      constructor
      · rintro (h | h | h) <;> simp [h]
      · rintro (h | h | h) <;> simp [h]
  · simp
theorem edgesY_rise (a b : List Re) : Rise (edgesY a b) := foldl_rise edgY_rise _ _ (foldl_rise edgY_rise _ _ trivial)
theorem edgesX_rise (a b : List Re) (y : Int) : Rise (edgesX a b y) := foldl_rise (edgX_rise y) _ _ (foldl_rise (edgX_rise y) _ _ trivial)
theorem mem_edgesY {a b : List Re} {v : Int} : v ∈ edgesY a b ↔ ∃ q ∈ a ++ b, OnY q v := by
  unfold edgesY
  rw [foldl_mem mem_edgY, foldl_mem mem_edgY]
  simp only [List.not_mem_nil, false_or, List.mem_append]
  constructor
  · rintro (⟨q, h, h'⟩ | ⟨q, h, h'⟩)
    · exact ⟨q, .inl h, h'⟩
    · exact ⟨q, .inr h, h'⟩
  · rintro ⟨q, h | h, h'⟩
    · exact .inl ⟨q, h, h'⟩
    · exact .inr ⟨q, h, h'⟩
theorem mem_edgesX {a b : List Re} {y v : Int} : v ∈ edgesX a b y ↔ ∃ q ∈ a ++ b, OnX y q v := by
  unfold edgesX
  rw [foldl_mem (mem_edgX y), foldl_mem (mem_edgX y)]
  simp only [List.not_mem_nil, false_or, List.mem_append]
  constructor
  · rintro (⟨q, h, h'⟩ | ⟨q, h, h'⟩)
    · exact ⟨q, .inl h, h'⟩
    · exact ⟨q, .inr h, h'⟩
  · rintro ⟨q, h | h, h'⟩
    · exact .inl ⟨q, h, h'⟩
    · exact .inr ⟨q, h, h'⟩
theorem rise_gap : ∀ {xs : List Int}, Rise xs → ∀ {x y : Int}, (x, y) ∈ xs.zip xs.tail → ∀ v ∈ xs, v ≤ x ∨ y ≤ v
  | [], _, _, _, h, _, _ => by simp at h
  | [_], _, _, _, h, _, _ => by simp at h
  | a :: b :: r, hr, x, y, h, v, hv => by
    simp only [List.tail_cons, List.zip_cons_cons] at h
    rcases List.mem_cons.1 h with e | h2
    · obtain ⟨rfl, rfl⟩ := Prod.mk.inj e
      rcases List.mem_cons.1 hv with rfl | hv
      · exact .inl (Int.le_refl _)
      · rcases List.mem_cons.1 hv with rfl | hv
        · exact .inr (Int.le_refl _)
        · have := hr.2.above v hv; exact .inr (by omega)
    · rcases List.mem_cons.1 hv with e | hv
      · have hx : x ∈ b :: r := (List.of_mem_zip h2).1
        have := hr.above x hx
        exact .inl (by omega)
      · exact rise_gap (xs := b :: r) hr.2 h2 v hv
theorem has_const {l : List Re} {xs : List Int} {y : Int} (hs : Sane l) (hm : ∀ q ∈ l, ∀ v, OnX y q v → v ∈ xs) (hr : Rise xs) {a b : Int} (hab : (a, b) ∈ xs.zip xs.tail) {z : Int} (h1 : a ≤ z) (h2 : z < b) : hasL l z y = hasL l a y := by
  unfold hasL
  rw [Bool.eq_iff_iff, List.any_eq_true, List.any_eq_true]
  have key : ∀ q ∈ l, (hasR q z y = true ↔ hasR q a y = true) := by
    intro q hq
    obtain ⟨s1, s2⟩ := hs q hq
    unfold hasR
    simp only [Bool.and_eq_true, decide_eq_true_eq]
    by_cases hrow : q.y ≤ y ∧ y < q.y + q.ht
    · by_cases hw : q.wd = 0
      · omega
      · have hn : noneR q = false := by unfold noneR; simp; omega
        have hi : inRow q y = true := by unfold inRow; simp; omega
        have e1 := rise_gap hr hab _ (hm q hq q.x ⟨hn, hi, .inl rfl⟩)
        have e2 := rise_gap hr hab _ (hm q hq (q.x + q.wd) ⟨hn, hi, .inr rfl⟩)
        omega
    · omega
  constructor
  · rintro ⟨q, hq, h⟩; exact ⟨q, hq, (key q hq).1 h⟩
  · rintro ⟨q, hq, h⟩; exact ⟨q, hq, (key q hq).2 h⟩
theorem rise_bounds : ∀ {xs : List Int}, Rise xs → ∀ {v : Int}, v ∈ xs → ∃ a ∈ xs.head?, ∃ b ∈ xs.getLast?, a ≤ v ∧ v ≤ b
  | [], _, _, h => by simp at h
  | [x], _, v, h => by simp at h; subst h; exact ⟨v, rfl, v, rfl, Int.le_refl _, Int.le_refl _⟩
  | x :: y :: r, hr, v, h => by
    rw [List.getLast?_cons_cons]
    obtain ⟨a, ha, b, hb, h1, h2⟩ := rise_bounds hr.2 (v := y) (by simp)
    rcases List.mem_cons.1 h with rfl | h
    · exact ⟨v, rfl, b, hb, Int.le_refl _, by have := hr.1; omega⟩
    · obtain ⟨a', ha', b', hb', h1', h2'⟩ := rise_bounds hr.2 h
      refine ⟨x, rfl, b', hb', ?_, h2'⟩
      simp at ha'
      subst ha'
      have := hr.1; omega
theorem has_within {l : List Re} {xs : List Int} {y z : Int} (hm : ∀ q ∈ l, ∀ v, OnX y q v → v ∈ xs) (hr : Rise xs) (h : hasL l z y = true) : ∃ a ∈ xs.head?, ∃ b ∈ xs.getLast?, a ≤ z ∧ z < b := by
  unfold hasL at h
  obtain ⟨q, hq, h⟩ := List.any_eq_true.1 h
  unfold hasR at h
  simp only [Bool.and_eq_true, decide_eq_true_eq] at h
  have hn : noneR q = false := by unfold noneR; simp; omega
  have hi : inRow q y = true := by unfold inRow; simp; omega
  obtain ⟨a, ha, b, hb, h1, h2⟩ := rise_bounds hr (hm q hq q.x ⟨hn, hi, .inl rfl⟩)
  obtain ⟨a', ha', b', hb', h1', h2'⟩ := rise_bounds hr (hm q hq (q.x + q.wd) ⟨hn, hi, .inr rfl⟩)
  exact ⟨a, ha, b', hb', by omega, by omega⟩
theorem want_some {what : Int} {one other : Bool} (h : wantB what one other = true) : one = true ∨ other = true := by
  unfold wantB at h
  cases one <;> cases other <;> simp at h ⊢
/-- WHAT A ROW's SPANS ARE. -/
theorem spans_spec {a b : List Re} (ha : Sane a) (hb : Sane b) (what y : Int) : CanS (spansP a b what y) ∧ ∀ x, InS (spansP a b what y) x ↔ keptB a b what x y = true := by
  have hr := edgesX_rise a b y
  have m1 : ∀ q ∈ a, ∀ v, OnX y q v → v ∈ edgesX a b y := fun q hq v h => mem_edgesX.2 ⟨q, by simp [hq], h⟩
  have m2 : ∀ q ∈ b, ∀ v, OnX y q v → v ∈ edgesX a b y := fun q hq v h => mem_edgesX.2 ⟨q, by simp [hq], h⟩
  obtain ⟨h1, h2⟩ := mix_spec (keep := fun x => keptB a b what x y) (p := fun x => keptB a b what x y) (edgesX a b y) [] hr trivial (fun x x' hx z h1 h2 => by
    show keptB a b what z y = keptB a b what x y
    unfold keptB
    rw [has_const ha m1 hr hx h1 h2, has_const hb m2 hr hx h1 h2]) (by simp)
  refine ⟨h1, fun x => ?_⟩
  show InS (mixGo (fun x => keptB a b what x y) [] (edgesX a b y)) x ↔ _
  rw [h2 x]
  constructor
  · rintro (h | h)
    · exact absurd h (InS.nil _)
    · exact h.1
  · intro h
    refine .inr ⟨h, ?_⟩
    rcases want_some h with h | h
    · exact has_within m1 hr h
    · exact has_within m2 hr h
/-! ### the program's way: rows merged, mixed -/
def inSB (l : List Sp) (x : Int) : Bool := l.any fun s => decide (s.1 ≤ x) && decide (x < s.2)
theorem inSB_iff {l : List Sp} {x : Int} : inSB l x = true ↔ InS l x := by
  unfold inSB InS
  simp [List.any_eq_true]
def mergeS : List Sp → Sp → List Sp
  | [], s => [s]
  | [t], s => if s.1 ≤ t.2 then [(t.1, max t.2 s.2)] else [t, s]
  | t :: u :: r, s => t :: mergeS (u :: r) s
theorem mergeS_spec {s : Sp} (hs : s.1 < s.2) : ∀ {l : List Sp}, CanS l → (∀ t ∈ l, t.1 ≤ s.1) → CanS (mergeS l s) ∧ (∀ t ∈ mergeS l s, t.1 ≤ s.1) ∧ (∀ x, InS (mergeS l s) x ↔ InS l x ∨ (s.1 ≤ x ∧ x < s.2)) ∧ (∀ t ∈ l.head?, ∃ u ∈ (mergeS l s).head?, u.1 = t.1)
  | [], _, _ => ⟨hs, by simp [mergeS], fun x => by simp [mergeS, InS], by simp⟩
  | [t], h, ht => by
    have h0 : t.1 < t.2 := h
    have h1 := ht t (by simp)
    unfold mergeS
    split
    · refine ⟨by show t.1 < max t.2 s.2; omega, by simp; exact h1, fun x => ?_, by simp⟩
      simp only [InS.cons, InS.nil, or_false]
      omega
    · refine ⟨⟨h0, by omega, hs⟩, by simp; exact h1, fun x => ?_, by simp⟩
      simp only [InS.cons, InS.nil, or_false]
  | t :: u :: r, h, ht => by
    obtain ⟨i1, i2, i3, i4⟩ := mergeS_spec hs h.2.2 (fun v hv => ht v (by simp [List.mem_cons.1 hv]))
    show CanS (t :: mergeS (u :: r) s) ∧ (∀ v ∈ t :: mergeS (u :: r) s, v.1 ≤ s.1) ∧ (∀ x, InS (t :: mergeS (u :: r) s) x ↔ _) ∧ _
    refine ⟨?_, ?_, fun x => ?_, fun t' ht' => ⟨t, rfl, by simp at ht'; rw [ht']⟩⟩
    · obtain ⟨v, hv, e⟩ := i4 u (by simp)
      cases hm : mergeS (u :: r) s with
      | nil => rw [hm] at hv; simp at hv
      | cons w q =>
        rw [hm] at hv i1
        simp at hv
        subst hv
        exact ⟨h.1, by rw [e]; exact h.2.1, i1⟩
    · intro v hv
      rcases List.mem_cons.1 hv with rfl | hv
      · exact ht v (by simp)
      · exact i2 v hv
    · rw [InS.cons, i3, InS.cons (s := t), or_assoc]
/-- The spans that rectangles have in a row. -/
def rowS (l : List Re) (y : Int) : List Sp := (l.filter fun q => inRow q y && decide (0 < q.wd)).map fun q => (q.x, q.x + q.wd)
theorem rowS_in {l : List Re} {x y : Int} : InS (rowS l y) x ↔ hasL l x y = true := by
  unfold rowS InS hasL
  rw [List.any_eq_true]
  constructor
  · rintro ⟨s, hs, h1, h2⟩
    obtain ⟨q, hq, rfl⟩ := List.mem_map.1 hs
    obtain ⟨hq, h⟩ := List.mem_filter.1 hq
    refine ⟨q, hq, ?_⟩
    unfold inRow at h
    unfold hasR
    simp only [Bool.and_eq_true, decide_eq_true_eq] at h ⊢
    simp only at h1 h2
    omega
  · rintro ⟨q, hq, h⟩
    unfold hasR at h
    simp only [Bool.and_eq_true, decide_eq_true_eq] at h
    refine ⟨(q.x, q.x + q.wd), List.mem_map.2 ⟨q, List.mem_filter.2 ⟨hq, ?_⟩, rfl⟩, by simp only; omega, by simp only; omega⟩
    unfold inRow
    simp only [Bool.and_eq_true, decide_eq_true_eq]
    omega
theorem rowS_pos {l : List Re} {y : Int} : ∀ s ∈ rowS l y, s.1 < s.2 := by
  intro s hs
  unfold rowS at hs
  obtain ⟨q, hq, rfl⟩ := List.mem_map.1 hs
  obtain ⟨_, h⟩ := List.mem_filter.1 hq
  simp only [Bool.and_eq_true, decide_eq_true_eq] at h
  simp only; omega
def RiseF : List Sp → Prop
  | [] => True
  | s :: r => (∀ t ∈ r, s.1 ≤ t.1) ∧ RiseF r
theorem fold_merge : ∀ (m acc : List Sp), (∀ s ∈ m, s.1 < s.2) → RiseF m → CanS acc → (∀ t ∈ acc, ∀ s ∈ m, t.1 ≤ s.1) → CanS (m.foldl mergeS acc) ∧ ∀ x, InS (m.foldl mergeS acc) x ↔ InS acc x ∨ InS m x
  | [], acc, _, _, h, _ => ⟨h, fun x => by simp [InS]⟩
  | s :: m, acc, hp, hr, h, ha => by
    obtain ⟨i1, i2, i3, _⟩ := mergeS_spec (hp s (by simp)) h (fun t ht => ha t ht s (by simp))
    obtain ⟨j1, j2⟩ := fold_merge m (mergeS acc s) (fun t ht => hp t (by simp [ht])) hr.2 i1 (fun t ht u hu => by
      have := i2 t ht; have := hr.1 u hu; omega)
    refine ⟨j1, fun x => ?_⟩
    rw [List.foldl_cons, j2, i3, InS.cons, or_assoc]
/-- A row of the program's: sorted by their beginnings, merged. -/
theorem row_spec {l : List Re} {y : Int} {m : List Sp} (hp : m.Perm (rowS l y)) (hr : RiseF m) : CanS (m.foldl mergeS []) ∧ ∀ x, InS (m.foldl mergeS []) x ↔ hasL l x y = true := by
  obtain ⟨h1, h2⟩ := fold_merge m [] (fun s hs => rowS_pos s (hp.mem_iff.1 hs)) hr trivial (by simp)
  refine ⟨h1, fun x => ?_⟩
  rw [h2, ← rowS_in]
  constructor
  · rintro (h | ⟨s, hs, h⟩)
    · exact absurd h (InS.nil _)
    · exact ⟨s, hp.mem_iff.1 hs, h⟩
  · rintro ⟨s, hs, h⟩
    exact .inr ⟨s, hp.mem_iff.2 hs, h⟩
def endsS (l : List Sp) : List Int := l.flatMap fun s => [s.1, s.2]
theorem mem_endsS {l : List Sp} {v : Int} : v ∈ endsS l ↔ ∃ s ∈ l, v = s.1 ∨ v = s.2 := by
  unfold endsS
  simp [List.mem_flatMap]
theorem CanS.all_pos : ∀ {l : List Sp}, CanS l → ∀ s ∈ l, s.1 < s.2
  | [], _, s, hs => by simp at hs
  | u :: l, h, s, hs => by
    rcases List.mem_cons.1 hs with rfl | hs
    · exact h.pos
    · exact (h.above s hs).2
theorem in_const {l : List Sp} {xs : List Int} (hm : ∀ v ∈ endsS l, v ∈ xs) (hr : Rise xs) {a b : Int} (hab : (a, b) ∈ xs.zip xs.tail) {z : Int} (h1 : a ≤ z) (h2 : z < b) : inSB l z = inSB l a := by
  rw [Bool.eq_iff_iff, inSB_iff, inSB_iff]
  have key : ∀ s ∈ l, ((s.1 ≤ z ∧ z < s.2) ↔ (s.1 ≤ a ∧ a < s.2)) := by
    intro s hs
    have e1 := rise_gap hr hab _ (hm s.1 (mem_endsS.2 ⟨s, hs, .inl rfl⟩))
    have e2 := rise_gap hr hab _ (hm s.2 (mem_endsS.2 ⟨s, hs, .inr rfl⟩))
    omega
  constructor
  · rintro ⟨s, hs, h⟩; exact ⟨s, hs, (key s hs).1 h⟩
  · rintro ⟨s, hs, h⟩; exact ⟨s, hs, (key s hs).2 h⟩
theorem in_within {l : List Sp} {xs : List Int} {z : Int} (hm : ∀ v ∈ endsS l, v ∈ xs) (hr : Rise xs) (h : inSB l z = true) : ∃ a ∈ xs.head?, ∃ b ∈ xs.getLast?, a ≤ z ∧ z < b := by
  obtain ⟨s, hs, h1, h2⟩ := inSB_iff.1 h
  obtain ⟨a, ha, b, hb, a1, a2⟩ := rise_bounds hr (hm s.1 (mem_endsS.2 ⟨s, hs, .inl rfl⟩))
  obtain ⟨a', ha', b', hb', b1, b2⟩ := rise_bounds hr (hm s.2 (mem_endsS.2 ⟨s, hs, .inr rfl⟩))
  exact ⟨a, ha, b', hb', by omega, by omega⟩
theorem mixed_spec {sa sb : List Sp} {xs : List Int} (hr : Rise xs) (hx : ∀ v, v ∈ xs ↔ v ∈ endsS sa ++ endsS sb) (what : Int) :
    CanS (mixGo (fun x => wantB what (inSB sa x) (inSB sb x)) [] xs) ∧ ∀ x, InS (mixGo (fun x => wantB what (inSB sa x) (inSB sb x)) [] xs) x ↔ wantB what (inSB sa x) (inSB sb x) = true := by
  have m1 : ∀ v ∈ endsS sa, v ∈ xs := fun v hv => (hx v).2 (by simp [hv])
  have m2 : ∀ v ∈ endsS sb, v ∈ xs := fun v hv => (hx v).2 (by simp [hv])
  obtain ⟨h1, h2⟩ := mix_spec (keep := fun x => wantB what (inSB sa x) (inSB sb x)) (p := fun x => wantB what (inSB sa x) (inSB sb x)) xs [] hr trivial (fun x x' hx z h1 h2 => by
    show wantB what (inSB sa z) (inSB sb z) = wantB what (inSB sa x) (inSB sb x)
    rw [in_const m1 hr hx h1 h2, in_const m2 hr hx h1 h2]) (by simp)
  refine ⟨h1, fun x => ?_⟩
  rw [h2 x]
  constructor
  · rintro (h | h)
    · exact absurd h (InS.nil _)
    · exact h.1
  · intro h
    refine .inr ⟨h, ?_⟩
    rcases want_some h with h | h
    · exact in_within m1 hr h
    · exact in_within m2 hr h
/-- THE PROGRAM's MIXED ROW IS THE DOCUMENT's. -/
theorem mixed_eq {a b : List Re} (ha : Sane a) (hb : Sane b) {what y : Int} {sa sb : List Sp} {xs : List Int} (h1 : ∀ x, InS sa x ↔ hasL a x y = true) (h2 : ∀ x, InS sb x ↔ hasL b x y = true) (hr : Rise xs) (hx : ∀ v, v ∈ xs ↔ v ∈ endsS sa ++ endsS sb) :
    mixGo (fun x => wantB what (inSB sa x) (inSB sb x)) [] xs = spansP a b what y := by
  obtain ⟨c1, c2⟩ := mixed_spec hr hx what (sa := sa) (sb := sb)
  obtain ⟨d1, d2⟩ := spans_spec ha hb what y
  refine canS_unique c1 d1 (fun x => ?_)
  rw [c2, d2]
  unfold keptB
  have e1 : inSB sa x = hasL a x y := by rw [Bool.eq_iff_iff, inSB_iff]; exact h1 x
  have e2 : inSB sb x = hasL b x y := by rw [Bool.eq_iff_iff, inSB_iff]; exact h2 x
  rw [e1, e2]
/-! ### bands -/
def rectsOf (y h : Int) (l : List Sp) : List Re := l.map fun s => ⟨s.1, y, s.2 - s.1, h⟩
/-- What the bands come to from a list of rows on: 'last' is the band's that is open, from 'frm' on. -/
def bandGo (now : Int → List Sp) : List Sp → Int → List Int → List (Int × Int × List Sp)
  | last, frm, y :: z :: r => if now y = last then bandGo now last frm (z :: r) else (if last = [] then [] else [(frm, y - frm, last)]) ++ bandGo now (now y) y (z :: r)
  | last, frm, [y] => if last = [] then [] else [(frm, y - frm, last)]
  | _, _, [] => []
def bandsP (a b : List Re) (what : Int) : List (Int × Int × List Sp) := bandGo (fun y => spansP a b what y) [] 0 (edgesY a b)
def flatB (l : List (Int × Int × List Sp)) : List Re := l.flatMap fun t => rectsOf t.1 t.2.1 t.2.2
/-- The form. -/
def formR (a b : List Re) (what : Int) : List Re := flatB (bandsP a b what)
def madeE (a b : List Re) (what : Int) : Int := if (formR a b what).length > 1024 then 4 else 0
def madeL (a b : List Re) (what : Int) : List Re := if (formR a b what).length > 1024 then [] else formR a b what
/-! ### the document's way with bands -/
def growL (out : List Re) (k : Nat) (d : Int) : List Re := out.take (out.length - k) ++ (out.drop (out.length - k)).map fun q => ⟨q.x, q.y, q.wd, q.ht + d⟩
def refGo (now : Int → List Sp) : List Re → List Sp → List Int → List Re
  | out, last, y :: z :: r => if now y = last then refGo now (growL out last.length (z - y)) last (z :: r) else refGo now (out ++ rectsOf y (z - y) (now y)) (now y) (z :: r)
  | out, _, _ => out
theorem flatB_append (l m : List (Int × Int × List Sp)) : flatB (l ++ m) = flatB l ++ flatB m := by unfold flatB; rw [List.flatMap_append]
theorem flatB_if (y h : Int) (l : List Sp) : flatB (if l = [] then [] else [(y, h, l)]) = rectsOf y h l := by
  split
  · rename_i e; subst e; rfl
  · simp [flatB]
theorem growL_rects (done : List Re) (y h d : Int) (l : List Sp) : growL (done ++ rectsOf y h l) l.length d = done ++ rectsOf y (h + d) l := by
  have e : (done ++ rectsOf y h l).length - l.length = done.length := by simp [rectsOf]
  unfold growL
  rw [e, List.take_left, List.drop_left]
  simp [rectsOf]
theorem refGo_band (now : Int → List Sp) : ∀ (r : List Int) (y : Int) (done : List Re) (last : List Sp) (frm : Int), refGo now (done ++ rectsOf frm (y - frm) last) last (y :: r) = done ++ flatB (bandGo now last frm (y :: r))
  | [], y, done, last, frm => by
    show done ++ rectsOf frm (y - frm) last = done ++ flatB (if last = [] then [] else [(frm, y - frm, last)])
    rw [flatB_if]
  | z :: r, y, done, last, frm => by
    show (if now y = last then refGo now (growL (done ++ rectsOf frm (y - frm) last) last.length (z - y)) last (z :: r) else refGo now ((done ++ rectsOf frm (y - frm) last) ++ rectsOf y (z - y) (now y)) (now y) (z :: r)) = done ++ flatB (if now y = last then bandGo now last frm (z :: r) else (if last = [] then [] else [(frm, y - frm, last)]) ++ bandGo now (now y) y (z :: r))
    split
    · rw [growL_rects, show y - frm + (z - y) = z - frm by omega]
      exact refGo_band now r z done last frm
    · rw [refGo_band now r z (done ++ rectsOf frm (y - frm) last) (now y) y, flatB_append, flatB_if, List.append_assoc]
theorem refGo_form (now : Int → List Sp) (ys : List Int) : refGo now [] [] ys = flatB (bandGo now [] 0 ys) := by
  cases ys with
  | nil => rfl
  | cons y r => exact refGo_band now r y [] [] 0
theorem growL_len (out : List Re) (k : Nat) (d : Int) : (growL out k d).length = out.length := by unfold growL; simp
theorem refGo_le (now : Int → List Sp) : ∀ (ys : List Int) (out : List Re) (last : List Sp), out.length ≤ (refGo now out last ys).length
  | [], _, _ => Nat.le_refl _
  | [_], _, _ => Nat.le_refl _
  | y :: z :: r, out, last => by
    unfold refGo
    split
    · have := refGo_le now (z :: r) (growL out last.length (z - y)) last
      rw [growL_len] at this; exact this
    · have := refGo_le now (z :: r) (out ++ rectsOf y (z - y) (now y)) (now y)
      rw [List.length_append] at this; omega
/-! ### areas -/
def sumI : List Int → Int
  | [] => 0
  | a :: r => a + sumI r
theorem sumI_append (a b : List Int) : sumI (a ++ b) = sumI a + sumI b := by
  induction a with
  | nil => simp [sumI]
  | cons x a ih => simp only [List.cons_append, sumI, ih]; omega
def areaQ (q : Re) : Int := q.wd * q.ht
def areaM (l : List Re) : Int := sumI (l.map areaQ)
theorem areaM_append (a b : List Re) : areaM (a ++ b) = areaM a + areaM b := by unfold areaM; rw [List.map_append, sumI_append]
def widS (l : List Sp) : Int := sumI (l.map fun s => s.2 - s.1)
theorem areaM_rects (y h : Int) (l : List Sp) : areaM (rectsOf y h l) = widS l * h := by
  unfold areaM rectsOf widS
  induction l with
  | nil => simp [sumI]
  | cons s l ih =>
    simp only [List.map_cons, sumI, areaQ] at ih ⊢
    rw [Int.add_mul, ih]
/-- The document's sum. -/
def refArea (now : Int → List Sp) : List Int → Int
  | y :: z :: r => widS (now y) * (z - y) + refArea now (z :: r)
  | _ => 0
theorem band_area (now : Int → List Sp) : ∀ (r : List Int) (y : Int) (last : List Sp) (frm : Int), areaM (flatB (bandGo now last frm (y :: r))) = widS last * (y - frm) + refArea now (y :: r)
  | [], y, last, frm => by
    show areaM (flatB (if last = [] then [] else [(frm, y - frm, last)])) = _
    rw [flatB_if, areaM_rects]
    simp [refArea]
  | z :: r, y, last, frm => by
    show areaM (flatB (if now y = last then bandGo now last frm (z :: r) else (if last = [] then [] else [(frm, y - frm, last)]) ++ bandGo now (now y) y (z :: r))) = widS last * (y - frm) + (widS (now y) * (z - y) + refArea now (z :: r))
    split
    · rename_i e
      rw [band_area now r z last frm, e, show z - frm = (y - frm) + (z - y) by omega, Int.mul_add]; omega
    · rw [flatB_append, flatB_if, areaM_append, areaM_rects, band_area now r z (now y) y]
theorem form_area (now : Int → List Sp) (ys : List Int) : areaM (flatB (bandGo now [] 0 ys)) = refArea now ys := by
  cases ys with
  | nil => rfl
  | cons y r =>
    rw [band_area]
    simp [widS, sumI]
/-! ### rows alone -/
theorem row_alone {a : List Re} (ha : Sane a) {y : Int} {sa : List Sp} (hc : CanS sa) (h : ∀ x, InS sa x ↔ hasL a x y = true) : sa = spansP a [] 1 y := by
  obtain ⟨d1, d2⟩ := spans_spec ha (fun q hq => by simp at hq) 1 y (b := [])
  refine canS_unique hc d1 (fun x => ?_)
  rw [d2, h]
  unfold keptB wantB
  simp [hasL]
def sameR (a b : List Re) : Bool := (edgesY a b).all fun y => decide (spansP a [] 1 y = spansP b [] 1 y)
theorem spans_nil {a b : List Re} {what y : Int} (h : ∀ v, v ∉ edgesX a b y) : spansP a b what y = [] := by
  unfold spansP
  cases he : edgesX a b y with
  | nil => rfl
  | cons x r => exact absurd (by rw [he]; simp) (h x)
theorem last_empty {a b : List Re} {v : Int} (hs : Sane (a ++ b)) (h : (edgesY a b).getLast? = some v) : spansP a [] 1 v = [] ∧ spansP b [] 1 v = [] := by
  have key : ∀ q ∈ a ++ b, ∀ u, ¬ OnX v q u := by
    rintro q hq u ⟨h1, h2, _⟩
    unfold inRow at h2
    simp only [Bool.and_eq_true, decide_eq_true_eq] at h2
    have hm : q.y + q.ht ∈ edgesY a b := mem_edgesY.2 ⟨q, hq, h1, .inr rfl⟩
    obtain ⟨_, _, b', hb', _, h3⟩ := rise_bounds (edgesY_rise a b) hm
    rw [h] at hb'
    simp at hb'
    omega
  constructor
  · refine spans_nil fun u hu => ?_
    obtain ⟨q, hq, ho⟩ := mem_edgesX.1 hu
    exact key q (by simp at hq ⊢; exact .inl hq) u ho
  · refine spans_nil fun u hu => ?_
    obtain ⟨q, hq, ho⟩ := mem_edgesX.1 hu
    exact key q (by simp at hq ⊢; exact .inr hq) u ho
theorem same_dropLast {a b : List Re} (hs : Sane (a ++ b)) : sameR a b = (edgesY a b).dropLast.all fun y => decide (spansP a [] 1 y = spansP b [] 1 y) := by
  unfold sameR
  rcases List.eq_nil_or_concat (edgesY a b) with h | ⟨l, v, h⟩
  · rw [h]; rfl
  · rw [h, List.concat_eq_append, List.dropLast_concat, List.all_append]
    obtain ⟨e1, e2⟩ := last_empty hs (v := v) (by rw [h]; simp)
    simp [e1, e2]
end Go.Proofs.Ytlklmncjicgbgaa
