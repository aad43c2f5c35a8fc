/-
  Place by place, plainly: a list cut to a region.
-/
import Derived.Test.YtkmofpnefjgnkaaPlaK
import Derived.Test.YtkmofpnefjgnkaaGw
namespace Go.Proofs.Ytkmofpnefjgnkaa
open Go.RowKit
set_option linter.unusedVariables false
attribute [local go_sem] vwp vUpon_value vUpon_skip vUpon_enter vUpon_row
set_option linter.unusedSimpArgs false
set_option linter.unusedVariables false
/-- No place in two. -/
def Apart1 (x z : Int) (l : List Re) : Prop := l.Pairwise fun p q => hasR p x z = true → hasR q x z = false
theorem rects_apart (y h x z : Int) : ∀ {l : List Sp}, CanS l → Apart1 x z (rectsOf y h l)
  | [], _ => List.Pairwise.nil
  | s :: l, hc => by
    refine List.Pairwise.cons ?_ (rects_apart y h x z hc.tail)
    intro q hq hp
    obtain ⟨t, ht, rfl⟩ := List.mem_map.1 hq
    have := hc.above t ht
    have hp := has_iff.1 hp
    simp only at hp
    rw [Bool.eq_false_iff]
    intro hh
    have hh := has_iff.1 hh
    simp only at hh
    omega
theorem flat_apart (x z : Int) : ∀ {l : List Bd}, CanB l → Apart1 x z (flatB l)
  | [], _ => List.Pairwise.nil
  | t :: l, hc => by
    rw [show flatB (t :: l) = rectsOf t.1 t.2.1 t.2.2 ++ flatB l from rfl]
    refine List.pairwise_append.2 ⟨rects_apart _ _ x z hc.good.2.2, flat_apart x z hc.tail, ?_⟩
    intro p hp q hq hh
    obtain ⟨s, hs, rfl⟩ := List.mem_map.1 hp
    have hh := has_iff.1 hh
    simp only at hh
    rw [Bool.eq_false_iff]
    intro hq2
    have h1 : hasL (flatB l) x z = true := by unfold hasL; rw [List.any_eq_true]; exact ⟨q, hq, hq2⟩
    exact hc.below_ (by omega) (has_flat.1 h1)
theorem form_apart {a b : List Re} (ha : Sane a) (hb : Sane b) (what x z : Int) : Apart1 x z (formR a b what) := flat_apart x z (bands_spec ha hb what).1
theorem wi_some {xs : List St} {R : List Re} (hx : xs.length ≤ 40) : ∀ (l : List Re) (out : List St), out.length + l.length * 42 ≤ 16384 → wiGo xs R l out = some (out ++ l.flatMap fun r => busyL (cutL xs R r))
  | [], out, _ => by simp [wiGo]
  | r :: l, out, h => by
    have h1 := busy_le (cutL xs R r)
    have h2 := cut_le xs R r
    rw [List.length_cons] at h
    have h3 : (out ++ busyL (cutL xs R r)).length ≤ out.length + 42 := by rw [List.length_append]; omega
    unfold wiGo
    rw [if_neg (by omega), wi_some hx l _ (by omega), List.flatMap_cons, List.append_assoc]
/-! ### what may be -/
theorem opn_add (o d : Int) (s : St) : opn (o + d) s = opn o s + d := by
  unfold opn
  split
  · omega
  · split <;> omega
theorem chk_app : ∀ (a b : List St) (o d : Int), 0 ≤ o → 0 ≤ d → chkGo o a = 0 → chkGo (o + d) (a ++ b) = chkGo d b
  | [], b, o, d, h0, hd, h => by
    have : o = 0 := by
      unfold chkGo at h
      split at h
      · cases h
      · omega
    subst this
    rw [List.nil_append, Int.zero_add]
  | s :: a, b, o, d, h0, hd, h => by
    obtain ⟨h1, h2, h3⟩ := chk_iff.1 h
    rw [List.cons_append, chkGo, if_neg (by simp [h1]), opn_add, if_neg (by omega)]
    exact chk_app a b (opn o s) d (by omega) hd h3
theorem chk_sel (r : Re) : ∀ (xs : List St) (rs : List Re) (o : Int), rs.length = xs.length → chkGo o xs = 0 → chkGo o (selGo r xs rs) = 0
  | [], _, o, _, h => by simpa [selGo] using h
  | s :: xs, [], o, hl, h => by simp at hl
  | s :: xs, q :: rs, o, hl, h => by
    obtain ⟨h1, h2, h3⟩ := chk_iff.1 h
    have ih := chk_sel r xs rs (opn o s) (by simpa using hl) h3
    rw [selGo]
    cases hb : keepB r s q
    · simp only [Bool.false_eq_true, if_false, List.nil_append]
      have hd : decide (s.kind ≤ 3) = true := by
        unfold keepB at hb
        rw [Bool.or_eq_false_iff] at hb
        have := hb.1
        unfold drB at this
        simpa using this
      simp at hd
      have e : opn o s = o := by unfold opn; rw [if_neg (by omega), if_neg (by omega)]
      rw [e] at ih
      exact ih
    · simp only [if_true, List.cons_append, List.nil_append]
      exact chk_iff.2 ⟨h1, h2, ih⟩
theorem err_clip {r : Re} (h : mayR r = true) : errS (clipS r) = 0 := by
  unfold errS
  have : (mis1 (clipS r) || mis2 (clipS r)) = false := by
    have h1 : mis1 (clipS ⟨0, 0, 0, 0⟩) = false := by kernel_rfl
    have h2 : mis2 (clipS ⟨0, 0, 0, 0⟩) = false := by kernel_rfl
    have e1 : mis1 (clipS r) = mis1 (clipS ⟨0, 0, 0, 0⟩) := rfl
    have e2 : mis2 (clipS r) = mis2 (clipS ⟨0, 0, 0, 0⟩) := by simp [mis2, clipS]
    rw [e1, e2, h1, h2]; rfl
  rw [this]
  simp [clipS, h]
theorem chk_cut {xs : List St} {R : List Re} (hl : R.length = xs.length) (hc : chkGo 0 xs = 0) {r : Re} (hr : mayR r = true) : chkGo 0 (cutL xs R r) = 0 := by
  unfold cutL
  rw [List.append_assoc, List.singleton_append]
  refine chk_iff.2 ⟨err_clip hr, by simp [opn, clipS], ?_⟩
  have e : opn 0 (clipS r) = 0 + 1 := by simp [opn, clipS]
  rw [e, chk_app _ [openS] 0 1 (by omega) (by omega) (chk_sel r xs R 0 hl hc)]
  have : chkGo 1 [openS] = 0 := by kernel_rfl
  exact this
theorem chk_seg {xs : List St} {R : List Re} (hl : R.length = xs.length) (hc : chkGo 0 xs = 0) {r : Re} (hr : mayR r = true) : chkGo 0 (busyL (cutL xs R r)) = 0 :=
  chk_bGo (cutL xs R r) [] 0 (by simpa using chk_cut hl hc hr)
theorem chk_segs {xs : List St} {R : List Re} (hl : R.length = xs.length) (hc : chkGo 0 xs = 0) : ∀ (F : List Re), (∀ r ∈ F, mayR r = true) → chkGo 0 (F.flatMap fun r => busyL (cutL xs R r)) = 0
  | [], _ => by simp [chkGo]
  | r :: F, h => by
    rw [List.flatMap_cons]
    have := chk_app (busyL (cutL xs R r)) (F.flatMap fun r => busyL (cutL xs R r)) 0 0 (by omega) (by omega) (chk_seg hl hc (h r (by simp)))
    rw [Int.add_zero] at this
    rw [this]
    exact chk_segs hl hc F (fun q hq => h q (List.mem_cons_of_mem _ hq))
/-! ### what shows -/
theorem at_app (x y : Int) (b : List St) (cl0 : List Bool) : ∀ (a : List St) (f : Bool) (cl : List Bool) (out : List St), chkGo cl.length a = 0 → atGo x y (a ++ b) f (cl ++ cl0) out = atGo x y b ((f :: cl).getLast (by simp)) cl0 (atGo x y a f cl out)
  | [], f, cl, out, h => by
    have : cl = [] := by
      unfold chkGo at h
      split at h
      · cases h
      · rename_i h1
        exact List.length_eq_zero_iff.1 (by omega)
    subst this
    simp [atGo]
  | s :: a, f, cl, out, h => by
    obtain ⟨h1, h2, h3⟩ := chk_iff.1 h
    rw [List.cons_append, at_cons, at_cons]
    by_cases h4 : s.kind = 4
    · rw [if_pos h4, if_pos h4]
      have := at_app x y b cl0 a (f && hasR s.rect x y) (f :: cl) out (by rw [List.length_cons]; unfold opn at h3; rw [if_pos h4] at h3; exact_mod_cast h3)
      rw [List.cons_append] at this
      rw [this, List.getLast_cons_cons]
    · rw [if_neg h4, if_neg h4]
      by_cases h5 : s.kind = 5
      · rw [if_pos h5, if_pos h5]
        cases cl with
        | nil => unfold opn at h2; simp [h5] at h2
        | cons c cl =>
          have := at_app x y b cl0 a c cl out (by unfold opn at h3; rw [if_neg h4, if_pos h5] at h3; simp at h3; exact h3)
          simp only [List.cons_append]
          rw [this, List.getLast_cons_cons]
      · rw [if_neg h5, if_neg h5]
        exact at_app x y b cl0 a f cl _ (by unfold opn at h3; rw [if_neg h4, if_neg h5] at h3; exact h3)
theorem at_off (x y : Int) : ∀ (a : List St) (cl : List Bool) (out : List St), (∀ c ∈ cl, c = false) → chkGo cl.length a = 0 → atGo x y a false cl out = out
  | [], cl, out, _, _ => by simp [atGo]
  | s :: a, cl, out, hf, h => by
    obtain ⟨h1, h2, h3⟩ := chk_iff.1 h
    rw [at_cons]
    by_cases h4 : s.kind = 4
    · rw [if_pos h4, Bool.false_and]
      exact at_off x y a (false :: cl) out (by intro c hc; rcases List.mem_cons.1 hc with rfl | hc; rfl; exact hf c hc) (by rw [List.length_cons]; unfold opn at h3; rw [if_pos h4] at h3; exact_mod_cast h3)
    · rw [if_neg h4]
      by_cases h5 : s.kind = 5
      · rw [if_pos h5]
        cases cl with
        | nil => unfold opn at h2; simp [h5] at h2
        | cons c cl =>
          have : c = false := hf c (by simp)
          subst this
          exact at_off x y a cl out (fun c hc => hf c (List.mem_cons_of_mem _ hc)) (by unfold opn at h3; rw [if_neg h4, if_pos h5] at h3; simp at h3; exact h3)
      · rw [if_neg h5, Bool.false_and]
        exact at_off x y a cl out hf (by unfold opn at h3; rw [if_neg h4, if_neg h5] at h3; exact h3)
/-- Where the strokes that a cut keeps show. -/
def selR (r : Re) : List St → List Re → List Re
  | s :: xs, q :: rs => (if keepB r s q then [q] else []) ++ selR r xs rs
  | _, _ => []
theorem sel_shGo (r : Re) : ∀ (xs : List St) (M : List Re), shGo M (selGo r xs (shGo M xs)) = selR r xs (shGo M xs)
  | [], M => rfl
  | s :: xs, M => by
    have ih := sel_shGo r xs (shN M s)
    rw [shGo, selGo, selR]
    cases hb : keepB r s (shR M s)
    · simp only [Bool.false_eq_true, if_false, List.nil_append]
      have hd : decide (s.kind ≤ 3) = true := by
        unfold keepB at hb
        rw [Bool.or_eq_false_iff] at hb
        have := hb.1
        unfold drB at this
        simpa using this
      simp at hd
      have e : shN M s = M := by unfold shN; rw [if_neg (by omega), if_neg (by omega)]
      rw [e] at ih ⊢
      exact ih
    · simp only [if_true, List.cons_append, List.nil_append]
      rw [shGo, ih]
theorem over_has {p q : Re} {x y : Int} (hp : mayR p = true) (hq : mayR q = true) (h1 : hasR p x y = true) (h2 : hasR q x y = true) : overR p q = true := by
  unfold overR
  have := has_meet (x := x) (y := y) hp hq
  rw [h1, h2] at this
  cases h : (meetR p q).eqb Re.none
  · rfl
  · rw [eqb_iff.1 h, show hasR Re.none x y = false from has_none (by decide) (by decide)] at this; cases this
theorem sel_sh (r : Re) (x y : Int) (hr : mayR r = true) (hh : hasR r x y = true) : ∀ (xs : List St) (rs : List Re), (∀ s ∈ xs, s.Wf ∧ 1 ≤ s.kind ∧ mayR s.rect = true) → (∀ q ∈ rs, mayR q = true) → ShowsIn xs rs x y → ∀ out, atSh x y (selGo r xs rs) (selR r xs rs) out = atSh x y xs rs out
  | [], _, _, _, _, out => by simp [selGo, selR, atSh]
  | s :: xs, [], _, _, _, out => by simp [selGo, selR, atSh]
  | s :: xs, q :: rs, hx, hrs, hi, out => by
    have ih := sel_sh r x y hr hh xs rs (fun t ht => hx t (List.mem_cons_of_mem _ ht)) (fun t ht => hrs t (List.mem_cons_of_mem _ ht)) hi.tail
    rw [selGo, selR]
    cases hb : keepB r s q
    · simp only [Bool.false_eq_true, if_false, List.nil_append]
      rw [ih, atSh]
      unfold keepB at hb
      rw [Bool.or_eq_false_iff] at hb
      obtain ⟨hd, hb⟩ := hb
      have hd : drB s = true := by simpa using hd
      cases hqh : hasR q x y
      · rw [Bool.and_false]
        rfl
      · rw [hd]
        simp only [Bool.and_self, if_true]
        obtain ⟨hs, hk, hm⟩ := hx s (by simp)
        have hq := hrs q (by simp)
        rw [paint_plc hs hk hm hq hd (hi 0 s q rfl rfl hqh) hqh (fun m hm' => by
          cases h : hasR m x y
          · rfl
          · unfold ovrB at hb
            rw [List.any_eq_false] at hb
            exact absurd (over_has (plc_may hq m hm') hr h hh) (hb m hm'))]
    · simp only [if_true, List.cons_append, List.nil_append]
      rw [atSh, atSh]
      exact ih _
theorem at_seg {xs : List St} (h : chkL xs = 0) (hw : ∀ s ∈ xs, s.Wf) (hk : ∀ s ∈ xs, s.kind = 4 ∨ s.kind = 5 ∨ s.kind ≤ 3) {r : Re} (hr : mayR r = true) (x y : Int) (b out : List St) :
    atGo x y (busyL (cutL xs (shL xs) r) ++ b) true [] out = atGo x y b true [] (if hasR r x y then atGo x y xs true [] out else out) := by
  have hl := shL_len xs
  have hc := chk_go0 h
  have hm := fun s hs => err_may (chk_mem h s hs)
  have hk1 : ∀ s ∈ xs, 1 ≤ s.kind := fun s hs => err_kind (chk_mem h s hs) (hw s hs)
  have e1 := at_app x y b [] (busyL (cutL xs (shL xs) r)) true [] out (by simpa using chk_seg hl hc hr)
  simp only [List.append_nil, List.getLast_singleton] at e1
  rw [e1]
  congr 1
  unfold busyL
  rw [at_bGo]
  simp only [List.reverse_nil, List.nil_append]
  unfold cutL
  rw [List.append_assoc, List.singleton_append, at_cons, if_pos (show (clipS r).kind = 4 from rfl)]
  have hsel := chk_sel r xs (shL xs) 0 hl hc
  have e2 := at_app x y [openS] [true] (selGo r xs (shL xs)) (true && hasR (clipS r).rect x y) [] out (by simpa using hsel)
  simp only [List.nil_append, List.getLast_singleton] at e2
  rw [e2, at_cons, if_neg (by decide), if_pos (show openS.kind = 5 from rfl)]
  simp only [atGo, Bool.true_and]
  show atGo x y (selGo r xs (shL xs)) (hasR r x y) [] out = _
  cases hh : hasR r x y
  · rw [if_neg (by decide)]
    exact at_off x y _ [] out (by simp) (by simpa using hsel)
  · rw [if_pos rfl]
    have hsm : ∀ s ∈ selGo r xs (shL xs), s ∈ xs := by
      have key : ∀ (xs : List St) (rs : List Re), ∀ s ∈ selGo r xs rs, s ∈ xs := by
        intro xs
        induction xs with
        | nil => intro rs s hs; simp [selGo] at hs
        | cons t xs ih =>
          intro rs s hs
          cases rs with
          | nil => simp [selGo] at hs
          | cons q rs =>
            rw [selGo] at hs
            rcases List.mem_append.1 hs with hs | hs
            · split at hs
              · simp at hs; subst hs; simp
              · simp at hs
            · exact List.mem_cons_of_mem _ (ih rs s hs)
      exact key xs _
    have h1 : atGo x y (selGo r xs (shL xs)) true [] out = atSh x y (selGo r xs (shL xs)) (shGo ([] : List Re).reverse (selGo r xs (shL xs))) out :=
      at_shGo x y (selGo r xs (shL xs)) [] out (by simp) (fun s hs => hm s (hsm s hs)) (fun s hs => hk s (hsm s hs)) (by simpa using hsel)
    have h2 : shGo ([] : List Re).reverse (selGo r xs (shL xs)) = selR r xs (shL xs) := sel_shGo r xs []
    have h3 : atGo x y xs true [] out = atSh x y xs (shL xs) out := at_shGo x y xs [] out (by simp) hm hk hc
    rw [h1, h2, h3]
    exact sel_sh r x y hr hh xs (shL xs) (fun s hs => ⟨hw s hs, hk1 s hs, hm s hs⟩) (shL_may h) (shows_in x y xs [] (by simp) hm) out
theorem at_segs {xs : List St} (h : chkL xs = 0) (hw : ∀ s ∈ xs, s.Wf) (hk : ∀ s ∈ xs, s.kind = 4 ∨ s.kind = 5 ∨ s.kind ≤ 3) (x y : Int) : ∀ (F : List Re), (∀ r ∈ F, mayR r = true) → Apart1 x y F → ∀ out, (hasL F x y = true → out = []) →
    atGo x y (F.flatMap fun r => busyL (cutL xs (shL xs) r)) true [] out = if hasL F x y then atL xs x y else out
  | [], _, _, out, _ => by simp [atGo, hasL]
  | r :: F, hm, ha, out, ho => by
    obtain ⟨a1, a2⟩ := List.pairwise_cons.1 ha
    have e : hasL (r :: F) x y = (hasR r x y || hasL F x y) := by simp [hasL]
    rw [e] at ho ⊢
    rw [List.flatMap_cons, at_seg h hw hk (hm r (by simp))]
    cases hh : hasR r x y
    · rw [hh, Bool.false_or] at ho
      rw [if_neg (by decide), Bool.false_or]
      exact at_segs h hw hk x y F (fun q hq => hm q (List.mem_cons_of_mem _ hq)) a2 out ho
    · have hF : hasL F x y = false := by
        unfold hasL
        rw [List.any_eq_false]
        intro q hq
        rw [a1 q hq hh]
        decide
      rw [hh, Bool.true_or] at ho
      have ho := ho rfl
      subst ho
      rw [if_pos rfl, at_segs h hw hk x y F (fun q hq => hm q (List.mem_cons_of_mem _ hq)) a2 _ (by rw [hF]; intro h; cases h), hF]
      rfl
theorem within_law {xs : List St} {qs : List Re} (h : chkL xs = 0) (hw : ∀ s ∈ xs, s.Wf) (hk : ∀ s ∈ xs, s.kind = 4 ∨ s.kind = 5 ∨ s.kind ≤ 3) (hx : xs.length ≤ 40) (hq : MayL qs) (hl : qs.length ≤ 8) :
    wiE xs qs = 0 ∧ chkL (wiS xs qs) = 0 ∧ ∀ x y, atL (wiS xs qs) x y = if hasL qs x y then atL xs x y else [] := by
  have hlen := form_len hq.sane mayL_nil.sane 1
  have hlen : (formR qs [] 1).length ≤ 64 := by
    have h2 : (qs.length + ([] : List Re).length) * (qs.length + ([] : List Re).length) ≤ 8 * 8 := Nat.mul_le_mul (by simpa using hl) (by simpa using hl)
    omega
  obtain ⟨b1, b2⟩ := both_of (what := 1) hq mayL_nil (by omega) (by simp) (by omega)
  have hmf : MayL (formR qs [] 1) := form_may hq mayL_nil 1
  have hs := wi_some (R := shL xs) hx (formR qs [] 1) [] (by simp; omega)
  rw [List.nil_append] at hs
  have e1 : wiE xs qs = 0 := by unfold wiE; rw [if_pos h, if_pos b1, b2, hs]; rfl
  have e2 : wiS xs qs = (formR qs [] 1).flatMap fun r => busyL (cutL xs (shL xs) r) := by unfold wiS; rw [if_pos h, if_pos b1, b2, hs]; rfl
  have e3 := chk_segs (shL_len xs) (chk_go0 h) (formR qs [] 1) hmf
  refine ⟨e1, ?_, fun x y => ?_⟩
  · have := wiS_le xs qs
    unfold chkL
    rw [if_neg (by omega), e2]
    exact e3
  · have := at_segs h hw hk x y (formR qs [] 1) hmf (form_apart hq.sane mayL_nil.sane 1 x y) [] (fun _ => rfl)
    rw [e2]
    unfold atL
    rw [this, form_places hq.sane mayL_nil.sane, want1, has_nil, Bool.or_false]
    rfl
end Go.Proofs.Ytkmofpnefjgnkaa
