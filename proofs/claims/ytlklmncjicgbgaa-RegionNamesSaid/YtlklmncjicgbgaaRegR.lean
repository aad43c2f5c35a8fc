/-
  Sets of places, plain: a form's rectangles may be; areas are numbers of places.
-/
import Derived.Test.YtlklmncjicgbgaaRegQ
import Derived.Test.YtlklmncjicgbgaaLisE
namespace Go.Proofs.Ytlklmncjicgbgaa
open Go.RowKit
set_option linter.unusedVariables false
attribute [local go_sem] vwp vUpon_value vUpon_skip vUpon_enter vUpon_row
set_option linter.unusedSimpArgs false
/-! ### ends lie among the edges -/
theorem putS_ends {x y : Int} {S : Int → Prop} : ∀ {l : List Sp}, (∀ s ∈ l, S s.1 ∧ S s.2) → S x → S y → ∀ s ∈ putS l x y, S s.1 ∧ S s.2
  | [], _, hx, hy, s, hs => by simp [putS] at hs; subst hs; exact ⟨hx, hy⟩
  | [t], h, hx, hy, s, hs => by
    have := h t (by simp)
    unfold putS at hs
    split at hs
    · simp at hs; subst hs; exact ⟨this.1, hy⟩
    · simp at hs
      rcases hs with rfl | rfl
      · exact this
      · exact ⟨hx, hy⟩
  | t :: u :: r, h, hx, hy, s, hs => by
    have hs' : s ∈ t :: putS (u :: r) x y := hs
    rcases List.mem_cons.1 hs' with rfl | hs'
    · exact h s (by simp)
    · exact putS_ends (fun v hv => h v (by simp [List.mem_cons.1 hv])) hx hy s hs'
theorem mix_ends {S : Int → Prop} (keep : Int → Bool) : ∀ (xs : List Int) (out : List Sp), (∀ x ∈ xs, S x) → (∀ s ∈ out, S s.1 ∧ S s.2) → ∀ s ∈ mixGo keep out xs, S s.1 ∧ S s.2
  | [], out, _, h, s, hs => h s hs
  | [_], out, _, h, s, hs => h s hs
  | x :: y :: r, out, hx, h, s, hs => by
    unfold mixGo at hs
    refine mix_ends keep (y :: r) _ (fun v hv => hx v (by simp [List.mem_cons.1 hv])) (fun t ht => ?_) s hs
    split at ht
    · exact putS_ends h (hx x (by simp)) (hx y (by simp)) t ht
    · exact h t ht
def InM (v : Int) : Prop := -16384 ≤ v ∧ v ≤ 16384
theorem may_sides {q : Re} (h : mayR q = true) : InM q.x ∧ InM (q.x + q.wd) ∧ InM q.y ∧ InM (q.y + q.ht) ∧ 0 ≤ q.wd ∧ 0 ≤ q.ht := by
  unfold mayR spanB at h
  simp only [Bool.and_eq_true, inB_iff, sdB_iff, decide_eq_true_eq] at h
  unfold InM
  omega
theorem may_mk {q : Re} (h1 : InM q.x) (h2 : InM (q.x + q.wd)) (h3 : InM q.y) (h4 : InM (q.y + q.ht)) (h5 : 0 ≤ q.wd) (h6 : 0 ≤ q.ht) : mayR q = true := by
  unfold InM at h1 h2 h3 h4
  unfold mayR spanB
  simp only [Bool.and_eq_true, inB_iff, sdB_iff, decide_eq_true_eq]
  omega
def MayL (l : List Re) : Prop := ∀ q ∈ l, mayR q = true
theorem MayL.sane {l : List Re} (h : MayL l) : Sane l := fun q hq => (may_sides (h q hq)).2.2.2.2
theorem mayL_nil : MayL [] := fun q hq => by simp at hq
theorem MayL.append {a b : List Re} (ha : MayL a) (hb : MayL b) : MayL (a ++ b) := fun q hq => by
  rcases List.mem_append.1 hq with h | h
  · exact ha q h
  · exact hb q h
theorem edgesX_in {a b : List Re} (ha : MayL a) (hb : MayL b) (y : Int) : ∀ v ∈ edgesX a b y, InM v := fun v hv => by
  obtain ⟨q, hq, _, _, h⟩ := mem_edgesX.1 hv
  have := may_sides ((ha.append hb) q hq)
  rcases h with rfl | rfl
  · exact this.1
  · exact this.2.1
theorem edgesY_in {a b : List Re} (ha : MayL a) (hb : MayL b) : ∀ v ∈ edgesY a b, InM v := fun v hv => by
  obtain ⟨q, hq, _, h⟩ := mem_edgesY.1 hv
  have := may_sides ((ha.append hb) q hq)
  rcases h with rfl | rfl
  · exact this.2.2.1
  · exact this.2.2.2.1
theorem spans_in {a b : List Re} (ha : MayL a) (hb : MayL b) (what y : Int) : ∀ s ∈ spansP a b what y, InM s.1 ∧ InM s.2 :=
  mix_ends _ _ [] (edgesX_in ha hb y) (by simp)
theorem band_in {now : Int → List Sp} {S : Int → Prop} : ∀ (r : List Int) (y : Int) (last : List Sp) (frm : Int), (∀ v ∈ y :: r, S v) → (last ≠ [] → S frm) → ∀ t ∈ bandGo now last frm (y :: r), S t.1 ∧ S (t.1 + t.2.1) ∧ (t.2.2 = last ∨ ∃ v ∈ y :: r, t.2.2 = now v)
  | [], y, last, frm, h, hf, t, ht => by
    have ht' : t ∈ (if last = [] then [] else [(frm, y - frm, last)]) := ht
    split at ht'
    · simp at ht'
    · rename_i e
      simp at ht'
      subst ht'
      exact ⟨hf e, by show S (frm + (y - frm)); rw [show frm + (y - frm) = y by omega]; exact h y (by simp), .inl rfl⟩
  | z :: r, y, last, frm, h, hf, t, ht => by
    have ht' : t ∈ (if now y = last then bandGo now last frm (z :: r) else (if last = [] then [] else [(frm, y - frm, last)]) ++ bandGo now (now y) y (z :: r)) := ht
    have h' : ∀ v ∈ z :: r, S v := fun v hv => h v (by simp [List.mem_cons.1 hv])
    split at ht'
    · obtain ⟨h1, h2, h3⟩ := band_in (S := S) r z last frm h' hf t ht'
      refine ⟨h1, h2, ?_⟩
      rcases h3 with h3 | ⟨v, hv, h3⟩
      · exact .inl h3
      · exact .inr ⟨v, List.mem_cons_of_mem _ hv, h3⟩
    · rcases List.mem_append.1 ht' with ht' | ht'
      · split at ht'
        · simp at ht'
        · rename_i e
          simp at ht'
          subst ht'
          exact ⟨hf e, by show S (frm + (y - frm)); rw [show frm + (y - frm) = y by omega]; exact h y (by simp), .inl rfl⟩
      · obtain ⟨h1, h2, h3⟩ := band_in (S := S) r z (now y) y h' (fun _ => h y (by simp)) t ht'
        refine ⟨h1, h2, .inr ?_⟩
        rcases h3 with h3 | ⟨v, hv, h3⟩
        · exact ⟨y, by simp, h3⟩
        · exact ⟨v, List.mem_cons_of_mem _ hv, h3⟩
theorem bands_in {a b : List Re} (ha : MayL a) (hb : MayL b) (what : Int) : ∀ t ∈ bandsP a b what, InM t.1 ∧ InM (t.1 + t.2.1) ∧ 0 < t.2.1 ∧ CanS t.2.2 ∧ ∀ s ∈ t.2.2, InM s.1 ∧ InM s.2 := by
  intro t ht
  obtain ⟨g1, g2, g3⟩ := band_good (bands_spec ha.sane hb.sane what).1 t ht
  unfold bandsP at ht
  cases he : edgesY a b with
  | nil => rw [he] at ht; simp [bandGo] at ht
  | cons y r =>
    rw [he] at ht
    obtain ⟨h1, h2, h3⟩ := band_in (S := InM) r y [] 0 (by rw [← he]; exact edgesY_in ha hb) (by simp) t ht
    refine ⟨h1, h2, g1, g3, ?_⟩
    rcases h3 with h3 | ⟨v, _, h3⟩
    · rw [h3]; simp
    · rw [h3]; exact spans_in ha hb what v
theorem rects_may {y h : Int} {l : List Sp} (h1 : InM y) (h2 : InM (y + h)) (h3 : 0 < h) (hc : CanS l) (hl : ∀ s ∈ l, InM s.1 ∧ InM s.2) : MayL (rectsOf y h l) := by
  intro q hq
  unfold rectsOf at hq
  obtain ⟨s, hs, rfl⟩ := List.mem_map.1 hq
  have := hc.all_pos s hs
  obtain ⟨l1, l2⟩ := hl s hs
  exact may_mk l1 (by show InM (s.1 + (s.2 - s.1)); rw [show s.1 + (s.2 - s.1) = s.2 by omega]; exact l2) h1 h2 (by show 0 ≤ s.2 - s.1; omega) (by show 0 ≤ h; omega)
theorem form_may {a b : List Re} (ha : MayL a) (hb : MayL b) (what : Int) : MayL (formR a b what) := by
  intro q hq
  unfold formR flatB at hq
  obtain ⟨t, ht, hq⟩ := List.mem_flatMap.1 hq
  obtain ⟨h1, h2, h3, h4, h5⟩ := bands_in ha hb what t ht
  exact rects_may h1 h2 h3 h4 h5 q hq
/-! ### areas as numbers of places -/
def cntI (p : Int → Bool) : Nat → Int
  | 0 => 0
  | n + 1 => cntI p n + if p (-16384 + n) then 1 else 0
theorem cntI_nonneg (p : Int → Bool) : ∀ n, 0 ≤ cntI p n
  | 0 => Int.le_refl _
  | n + 1 => by have := cntI_nonneg p n; unfold cntI; split <;> omega
theorem cntI_le (p : Int → Bool) : ∀ n : Nat, cntI p n ≤ n
  | 0 => Int.le_refl _
  | n + 1 => by have := cntI_le p n; unfold cntI; split <;> omega
theorem cntI_congr {p q : Int → Bool} : ∀ {n : Nat}, (∀ x, p x = q x) → cntI p n = cntI q n
  | 0, _ => rfl
  | n + 1, h => by unfold cntI; rw [cntI_congr h, h]
theorem cntI_or {p q : Int → Bool} : ∀ {n : Nat}, (∀ x, p x = true → q x = true → False) → cntI (fun x => p x || q x) n = cntI p n + cntI q n
  | 0, _ => rfl
  | n + 1, h => by
    unfold cntI
    rw [cntI_or h]
    have h1 := h (-16384 + (n : Int))
    cases hp : p (-16384 + (n : Int)) <;> cases hq : q (-16384 + (n : Int)) <;> simp <;> first | omega | exact (h1 hp hq).elim
theorem cntI_span {u v : Int} (hu : -16384 ≤ u) (huv : u ≤ v) : ∀ n : Nat, cntI (fun x => decide (u ≤ x) && decide (x < v)) n = max 0 (min (-16384 + (n : Int)) v - u)
  | 0 => by simp [cntI]; omega
  | n + 1 => by
    unfold cntI
    rw [cntI_span hu huv n]
    by_cases h1 : u ≤ -16384 + (n : Int) <;> by_cases h2 : -16384 + (n : Int) < v <;> simp [h1, h2] <;> omega
theorem cntI_false : ∀ {n : Nat}, cntI (fun _ => false) n = 0
  | 0 => rfl
  | n + 1 => by unfold cntI; rw [cntI_false]; simp
theorem cntI_wid (n : Nat) : ∀ (l : List Sp), CanS l → (∀ s ∈ l, -16384 ≤ s.1 ∧ s.2 ≤ -16384 + (n : Int)) → cntI (fun x => inSB l x) n = widS l
  | [], _, _ => by
    have : ∀ x, inSB [] x = false := fun x => rfl
    rw [cntI_congr this, cntI_false]; rfl
  | s :: l, hc, h => by
    have e : ∀ x, inSB (s :: l) x = ((decide (s.1 ≤ x) && decide (x < s.2)) || inSB l x) := fun x => by
      rw [Bool.eq_iff_iff, Bool.or_eq_true, inSB_iff, inSB_iff, InS.cons]
      simp
    rw [cntI_congr e, cntI_or, cntI_wid n l hc.tail (fun t ht => h t (by simp [ht])), cntI_span (h s (by simp)).1 (by have := hc.pos; omega)]
    · have := hc.pos
      have := h s (by simp)
      show max 0 (min (-16384 + (n : Int)) s.2 - s.1) + widS l = (s.2 - s.1) + widS l
      omega
    · intro x h1 h2
      simp only [Bool.and_eq_true, decide_eq_true_eq] at h1
      exact hc.not_in (by omega) (inSB_iff.1 h2)
def cntP (p : Int → Int → Bool) (n : Nat) : Nat → Int
  | 0 => 0
  | m + 1 => cntP p n m + cntI (fun x => p x (-16384 + m)) n
theorem cntP_le (p : Int → Int → Bool) (n : Nat) : ∀ m : Nat, cntP p n m ≤ (n : Int) * m
  | 0 => by simp [cntP]
  | m + 1 => by
    have h1 := cntP_le p n m
    have h2 := cntI_le (fun x => p x (-16384 + m)) n
    unfold cntP
    rw [Int.natCast_add, Int.mul_add]
    simp only [Int.natCast_one, Int.mul_one]
    omega
theorem cntP_congr {p q : Int → Int → Bool} {n : Nat} : ∀ {m : Nat}, (∀ x z, p x z = q x z) → cntP p n m = cntP q n m
  | 0, _ => rfl
  | m + 1, h => by unfold cntP; rw [cntP_congr h, cntI_congr (fun x => h x _)]
theorem cntP_or {p q : Int → Int → Bool} {n : Nat} : ∀ {m : Nat}, (∀ x z, p x z = true → q x z = true → False) → cntP (fun x z => p x z || q x z) n m = cntP p n m + cntP q n m
  | 0, _ => rfl
  | m + 1, h => by
    unfold cntP
    rw [cntP_or h, cntI_or (fun x => h x _)]
    omega
theorem cntP_false {n : Nat} : ∀ {m : Nat}, cntP (fun _ _ => false) n m = 0
  | 0 => rfl
  | m + 1 => by unfold cntP; rw [cntP_false, cntI_false]; rfl
theorem cntP_band (n : Nat) (c : Int → Bool) (p : Int → Bool) : ∀ m : Nat, cntP (fun x z => c z && p x) n m = cntI c m * cntI p n
  | 0 => by simp [cntP, cntI]
  | m + 1 => by
    unfold cntP
    rw [cntP_band n c p m, show cntI c (m + 1) = cntI c m + (if c (-16384 + m) then 1 else 0) from rfl, Int.add_mul]
    cases c (-16384 + (m : Int))
    · simp only [Bool.false_and, Bool.false_eq_true, if_false, Int.zero_mul]
      rw [cntI_false]
    · simp only [Bool.true_and, if_true, Int.one_mul]
def onB (l : List Bd) (x z : Int) : Bool := l.any fun t => (decide (t.1 ≤ z) && decide (z < t.1 + t.2.1)) && inSB t.2.2 x
theorem onB_iff {l : List Bd} {x z : Int} : onB l x z = true ↔ OnB l x z := by
  unfold onB OnB
  rw [List.any_eq_true]
  simp only [Bool.and_eq_true, decide_eq_true_eq, inSB_iff, and_assoc, InS]
theorem cntP_area (n m : Nat) : ∀ (l : List Bd), CanB l → (∀ t ∈ l, -16384 ≤ t.1 ∧ t.1 + t.2.1 ≤ -16384 + (m : Int) ∧ ∀ s ∈ t.2.2, -16384 ≤ s.1 ∧ s.2 ≤ -16384 + (n : Int)) → cntP (onB l) n m = areaM (flatB l)
  | [], _, _ => by
    have : ∀ x z, onB [] x z = false := fun x z => rfl
    rw [cntP_congr this, cntP_false]; rfl
  | t :: l, hc, h => by
    have e : ∀ x z, onB (t :: l) x z = (((decide (t.1 ≤ z) && decide (z < t.1 + t.2.1)) && inSB t.2.2 x) || onB l x z) := fun x z => by
      unfold onB; rw [List.any_cons]
    obtain ⟨h1, h2, h3⟩ := h t (by simp)
    obtain ⟨g1, g2, g3⟩ := hc.good
    have hf : flatB (t :: l) = rectsOf t.1 t.2.1 t.2.2 ++ flatB l := by unfold flatB; rw [List.flatMap_cons]
    rw [cntP_congr e, cntP_or, cntP_area n m l hc.tail (fun u hu => h u (by simp [hu])), cntP_band n (fun z => decide (t.1 ≤ z) && decide (z < t.1 + t.2.1)) (fun x => inSB t.2.2 x), cntI_span h1 (by omega), cntI_wid n t.2.2 g3 h3, hf, areaM_append, areaM_rects]
    · rw [show max 0 (min (-16384 + (m : Int)) (t.1 + t.2.1) - t.1) = t.2.1 by omega, Int.mul_comm]
    · intro x z p1 p2
      simp only [Bool.and_eq_true, decide_eq_true_eq] at p1
      exact hc.below_ p1.1.2 (onB_iff.1 p2)
/-- A form's area is the number of its places. -/
theorem area_cnt {a b : List Re} (ha : MayL a) (hb : MayL b) (what : Int) {n : Nat} (hn : n = 32768) : areaM (formR a b what) = cntP (keptB a b what) n n := by
  obtain ⟨c1, c2⟩ := bands_spec ha.sane hb.sane what
  unfold formR
  rw [← cntP_area n n _ c1 (fun t ht => by
    obtain ⟨h1, h2, h3, h4, h5⟩ := bands_in ha hb what t ht
    unfold InM at h1 h2
    refine ⟨h1.1, by omega, fun s hs => ?_⟩
    have := h5 s hs
    unfold InM at this
    omega)]
  refine cntP_congr (fun x z => ?_)
  rw [Bool.eq_iff_iff, onB_iff, c2]
theorem area_le {a b : List Re} (ha : MayL a) (hb : MayL b) (what : Int) : areaM (formR a b what) ≤ 1073741824 := by
  obtain ⟨n, hn⟩ : ∃ n : Nat, n = 32768 := ⟨_, rfl⟩
  rw [area_cnt ha hb what hn]
  have := cntP_le (keptB a b what) n n
  have e : (n : Int) * n = 1073741824 := by rw [hn]; rfl
  omega
theorem cntI_two {p q r s : Int → Bool} : ∀ {n : Nat}, (∀ x, (if p x then (1 : Int) else 0) + (if q x then 1 else 0) = (if r x then 1 else 0) + (if s x then 1 else 0)) → cntI p n + cntI q n = cntI r n + cntI s n
  | 0, _ => rfl
  | n + 1, h => by
    have h1 := cntI_two (n := n) h
    have h2 := h (-16384 + n)
    unfold cntI
    omega
theorem cntP_two {p q r s : Int → Int → Bool} {n : Nat} : ∀ {m : Nat}, (∀ x z, (if p x z then (1 : Int) else 0) + (if q x z then 1 else 0) = (if r x z then 1 else 0) + (if s x z then 1 else 0)) → cntP p n m + cntP q n m = cntP r n m + cntP s n m
  | 0, _ => rfl
  | m + 1, h => by
    have h1 := cntP_two (n := n) (m := m) h
    have h2 := cntI_two (n := n) (fun x => h x (-16384 + m))
    unfold cntP
    omega
theorem area_add {a b : List Re} (ha : MayL a) (hb : MayL b) : areaM (formR a b 1) + areaM (formR a b 2) = areaM (formR a [] 1) + areaM (formR b [] 1) := by
  obtain ⟨n, hn⟩ : ∃ n : Nat, n = 32768 := ⟨_, rfl⟩
  rw [area_cnt ha hb 1 hn, area_cnt ha hb 2 hn, area_cnt ha mayL_nil 1 hn, area_cnt hb mayL_nil 1 hn]
  refine cntP_two (fun x z => ?_)
  rw [kept_one, kept_one]
  unfold keptB wantB
  cases hasL a x z <;> cases hasL b x z <;> simp
theorem widS_nonneg : ∀ {l : List Sp}, CanS l → 0 ≤ widS l
  | [], _ => Int.le_refl _
  | s :: l, h => by
    have := widS_nonneg h.tail
    have := h.pos
    show 0 ≤ (s.2 - s.1) + widS l
    omega
/-! ### moved -/
def mvQ (px py : Int) (q : Re) : Re := ⟨q.x + px, q.y + py, q.wd, q.ht⟩
def farR (n : Int) : Bool := decide (65536 < n) || decide (n < -65536)
/-- The errors of lists. -/
def chkR (l : List Re) : Int := if 1024 < l.length then 4 else if l.all mayR then 0 else 5
def askR (a b : List Re) : Int := if chkR a = 0 then chkR b else chkR a
theorem chkR_may {l : List Re} (h : chkR l = 0) : MayL l ∧ l.length ≤ 1024 := by
  unfold chkR at h
  split at h
  · cases h
  · split at h
    · rename_i h2
      exact ⟨fun q hq => List.all_eq_true.1 h2 q hq, by omega⟩
    · cases h
def bothE (a b : List Re) (what : Int) : Int := if askR a b = 0 then madeE a b what else askR a b
def bothL (a b : List Re) (what : Int) : List Re := if askR a b = 0 then madeL a b what else []
/-- Two lists of rectangles. -/
def eqRs : List Re → List Re → Bool
  | [], [] => true
  | x :: xs, y :: ys => x.eqb y && eqRs xs ys
  | _, _ => false
theorem eqRs_len : ∀ {xs ys : List Re}, xs.length ≠ ys.length → eqRs xs ys = false
  | [], [], h => absurd rfl h
  | [], _ :: _, _ => rfl
  | _ :: _, [], _ => rfl
  | x :: xs, y :: ys, h => by
    unfold eqRs
    rw [eqRs_len (by simpa using h), Bool.and_false]
theorem eqb_iff {p q : Re} : p.eqb q = true ↔ p = q := by
  unfold Re.eqb
  rw [eq4_iff]
  cases p; cases q; simp
theorem eqRs_iff : ∀ {xs ys : List Re}, eqRs xs ys = true ↔ xs = ys
  | [], [] => by simp [eqRs]
  | [], _ :: _ => by simp [eqRs]
  | _ :: _, [] => by simp [eqRs]
  | x :: xs, y :: ys => by
    unfold eqRs
    rw [Bool.and_eq_true, eqb_iff, eqRs_iff]
    simp
theorem eqRs_step {xs ys : List Re} {k : Nat} {x y : Re} (hx : xs[k]? = some x) (hy : ys[k]? = some y) : eqRs (xs.drop k) (ys.drop k) = (x.eqb y && eqRs (xs.drop (k + 1)) (ys.drop (k + 1))) := by
  obtain ⟨hk, e⟩ := List.getElem?_eq_some_iff.1 hx
  obtain ⟨hk', e'⟩ := List.getElem?_eq_some_iff.1 hy
  rw [List.drop_eq_getElem_cons hk, e, List.drop_eq_getElem_cons hk', e']
  rfl
/-- Is it in the one form? -/
def isFormE (l : List Re) : Int := if chkR l = 0 then (if madeE l [] 1 = 0 ∧ eqRs (madeL l [] 1) l = true then 0 else 2) else chkR l
def areaE (l : List Re) : Int := if chkR l = 0 then areaM (formR l [] 1) else 0
def hasE (l : List Re) (x y : Int) : Bool := if chkR l = 0 then hasL l x y else false
def unR (o q : Re) : Re := ⟨min o.x q.x, min o.y q.y, max (o.x + o.wd) (q.x + q.wd) - min o.x q.x, max (o.y + o.ht) (q.y + q.ht) - min o.y q.y⟩
def bndGo (o : Re) (q : Re) : Re := if noneR q then o else if noneR o then q else unR o q
def bndR (l : List Re) : Re := l.foldl bndGo ⟨0, 0, 0, 0⟩
def bndE (l : List Re) : Re := if chkR l = 0 then bndR l else ⟨0, 0, 0, 0⟩
def movE (px py : Int) (l : List Re) : Int := if chkR l = 0 then (if farR px || farR py then 2 else if madeE l [] 1 = 0 then (if (madeL l [] 1).all (fun q => mayR (mvQ px py q)) then 0 else 5) else madeE l [] 1) else chkR l
def movL (px py : Int) (l : List Re) : List Re := if movE px py l = 0 then (madeL l [] 1).map (mvQ px py) else []
def samE (a b : List Re) : Bool := if askR a b = 0 then sameR a b else false
end Go.Proofs.Ytlklmncjicgbgaa
