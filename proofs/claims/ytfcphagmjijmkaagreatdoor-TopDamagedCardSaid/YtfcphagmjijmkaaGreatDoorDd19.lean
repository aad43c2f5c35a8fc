/-
  Place by place, plainly: by what shows; what a later opaque fill covers is forgotten.
-/
import Derived.Test.YtfcphagmjijmkaaGreatDoorDd18
namespace Go.Proofs.YtfcphagmjijmkaaGreatDoor
open Go.RowKit
set_option linter.unusedVariables false
set_option linter.unusedSimpArgs false
attribute [local go_sem] vwp vUpon_value vUpon_skip vUpon_enter vUpon_row
set_option maxHeartbeats 16000000
theorem has_iff {q : Re} {x y : Int} : hasR q x y = true ↔ q.x ≤ x ∧ x < q.x + q.wd ∧ q.y ≤ y ∧ y < q.y + q.ht := by
 unfold hasR; simp only [Bool.and_eq_true, decide_eq_true_eq, and_assoc]
theorem has_of_empty {q : Re} {x y : Int} (hm : mayR q = true) (h : emptyR q = true) : hasR q x y = false := by
 rw [empty_none hm] at h; exact has_none hm h
theorem has_meet {p q : Re} {x y : Int} (hp : mayR p = true) (hq : mayR q = true) : hasR (meetR p q) x y = (hasR p x y && hasR q x y) := by
 unfold meetR
 split
 ·rename_i h
  rw [Bool.or_eq_true] at h; rw [show hasR Re.none x y = false from has_none (by decide) (by decide)]
  rcases h with h | h
  ·rw [has_of_empty hp h, Bool.false_and]
  ·rw [has_of_empty hq h, Bool.and_false]
 ·rename_i h
  simp only [Bool.or_eq_true, not_or, Bool.not_eq_true] at h; obtain ⟨_, a1, a2⟩ := full_bd h.1; obtain ⟨_, b1, b2⟩ := full_bd h.2; unfold fromR
  split
  ·rw [show hasR Re.none x y = false from has_none (by decide) (by decide)]
   rw [eq_comm, Bool.eq_false_iff]
   intro hh
   rw [Bool.and_eq_true, has_iff, has_iff] at hh; omega
  ·rw [Bool.eq_iff_iff, Bool.and_eq_true, has_iff, has_iff, has_iff]
   simp only; omega
def atSh (x y : Int) : List St → List Re → List St → List St
 | s :: xs, q :: rs, out => atSh x y xs rs (if drB s && hasR q x y then paintP s x y out else out)
 | _, _, out => out
theorem has_none' (x y : Int) : hasR Re.none x y = false := has_none (by decide) (by decide)
theorem shQ_sub {M : List Re} {s : St} (hM : ∀ q ∈ M, mayR q = true) (hs : mayR s.rect = true) {x y : Int} (h : hasR (shQ M s) x y = true) : hasR s.rect x y = true := by
 unfold shQ at h
 split at h
 ·exact h
 ·rename_i q hq
  have := hM q (List.mem_of_getLast? hq)
  first
   | (rw [has_meet this hs, Bool.and_eq_true] at h; exact h.2)
   | (rw [has_meet hs this, Bool.and_eq_true] at h; exact h.1)
theorem shR_sub {M : List Re} {s : St} (hM : ∀ q ∈ M, mayR q = true) (hs : mayR s.rect = true) {x y : Int} (h : hasR (shR M s) x y = true) : hasR s.rect x y = true := by
 unfold shR at h
 split at h
 ·rw [has_none'] at h; cases h
 ·exact shQ_sub hM hs h
theorem shGo_sub : ∀ (xs : List St) (M : List Re), (∀ q ∈ M, mayR q = true) → (∀ s ∈ xs, mayR s.rect = true) → ∀ (j : Nat) (s : St) (q : Re), xs[j]? = some s → (shGo M xs)[j]? = some q → ∀ x y, hasR q x y = true → hasR s.rect x y = true
 | [], _, _, _, j, s, q, h, _, x, y, _ => by simp at h
 | t :: xs, M, hM, hx, 0, s, q, h, h', x, y, hh => by
  simp at h; subst h
  simp [shGo] at h'; subst h'
  exact shR_sub hM (hx t (by simp)) hh
 | t :: xs, M, hM, hx, j + 1, s, q, h, h', x, y, hh => by
  refine shGo_sub xs (shN M t) (shN_may hM (hx t (by simp))) (fun s hs => hx s (by simp [hs])) j s q (by simpa using h) ?_ x y hh
  simpa [shGo] using h'
theorem flt_zip {xs : List St} {rs : List Re} (h : rs.length = xs.length) : fltS xs = ((xs.zip rs).filter fun p => drB p.1).map Prod.fst := by
 unfold fltS
 induction xs generalizing rs with
 | nil => simp
 | cons s xs ih =>
  cases rs with
  | nil => simp at h
  | cons r rs =>
   have := ih (rs := rs) (by simpa using h); simp only [List.zip_cons_cons, List.filter_cons]
   split <;> simp [this]
theorem kind_of {xs : List St} (h : chkL xs = 0) {s : St} (hs : s ∈ xs) (hd : drB s = true) : s.kind = 1 ∨ s.kind = 2 ∨ s.kind = 3 := by
 have he := chk_mem h s hs; unfold errS at he
 split at he
 ·cases he
 ·rename_i hh
  have h1 : mis1 s = false := by
   cases hm : mis1 s
   ·rfl
   ·exact absurd (by rw [hm, Bool.true_or]) hh
  unfold mis1 at h1; unfold drB at hd; simp only [Bool.or_eq_false_iff, decide_eq_false_iff_not] at h1; rw [decide_eq_true_eq] at hd; omega
theorem flat_at {xs : List St} (h : chkL xs = 0) (hw : ∀ s ∈ xs, s.Wf) {i : Nat} {s : St} {r : Re} (hs : (flS xs)[i]? = some s) (hr : (flR xs)[i]? = some r) :
  s.Wf ∧ mayR s.rect = true ∧ (s.kind = 1 ∨ s.kind = 2 ∨ s.kind = 3) ∧ mayR r = true ∧ ∀ x y, hasR r x y = true → hasR s.rect x y = true := by
 unfold flS at hs; unfold flR at hr; rw [if_pos h] at hs hr
 have hx : ∀ s ∈ xs, mayR s.rect = true := fun s hs => err_may (chk_mem h s hs)
 rw [flt_zip (shL_len xs)] at hs; unfold fltR at hr; rw [List.getElem?_map] at hs hr
 cases hp : ((xs.zip (shL xs)).filter fun p => drB p.1)[i]? with
 | none => rw [hp] at hs; cases hs
 | some p =>
  rw [hp] at hs hr
  simp at hs hr
  have hm := List.mem_of_getElem? hp; rw [List.mem_filter] at hm; obtain ⟨hz, hd⟩ := hm; obtain ⟨j, hj⟩ := List.getElem?_of_mem hz; rw [List.getElem?_zip_eq_some] at hj; rw [hs] at hd
  have hj1 : xs[j]? = some s := by rw [← hs]; exact hj.1
  have hj2 : (shL xs)[j]? = some r := by rw [← hr]; exact hj.2
  have hsx := List.mem_of_getElem? hj1; exact ⟨hw s hsx, hx s hsx, kind_of h hsx hd, shGo_may xs [] (by simp) hx r (List.mem_of_getElem? hj2), shGo_sub xs [] (by simp) hx j s r hj1 hj2⟩
theorem err_text {s : St} (h : errS s = 0) : s.text.size ≤ 65536 := by
 unfold errS at h
 split at h
 ·cases h
 ·rename_i h1
  simp only [Bool.or_eq_true, not_or, Bool.not_eq_true] at h1; have h1 := h1.1; unfold mis1 at h1; simp only [Bool.or_eq_false_iff, decide_eq_false_iff_not] at h1; omega
theorem flat_err {xs : List St} (h : chkL xs = 0) {s : St} (hs : s ∈ flS xs) : s ∈ xs ∧ errS s = 0 := by
 unfold flS at hs; rw [if_pos h] at hs; have hx : s ∈ xs := (List.mem_filter.1 hs).1; exact ⟨hx, chk_mem h s hx⟩
theorem flsr_len {xs : List St} : (flR xs).length = (flS xs).length := by
 unfold flS flR
 split
 ·exact fltS_len xs (shL xs) (shL_len xs)
 ·rfl
/-! ### rows by a bound -/
theorem bcellB {B : Nat} {W w1 : World} (hb : Below B W w1) : (∀ b o, b < B → w1.cell? ⟨b, o, none⟩ = W.cell? ⟨b, o, none⟩) ∧ (∀ b o, b < B → w1.frozen? ⟨b, o, none⟩ = W.frozen? ⟨b, o, none⟩) :=
 ⟨fun b o h => hb.cell (p := ⟨b, o, none⟩) h, fun b o h => hb.frozen (p := ⟨b, o, none⟩) h⟩
theorem OwnsC.alloc {base : Nat} {w : World} {v : Value} {cs : List Ce} (h : OwnsC base w v cs) (ob : Obj) : OwnsC base (w.alloc ob) v cs :=
 h.below ((Below.refl w.heap.size w).alloc lrr ob) lrr
theorem own_cmem {w : World} {base g n cap k : Nat} {cs : List Ce} {c : Ce} (h : OwnsC base w (.slice (some ⟨g, 0, none⟩) n cap) cs) (hs : cs[k]? = some c) : CMem w g (k * 11) c := by
 obtain ⟨b, o, cap', e, _, _, _, hx⟩ := row_ce (h.row lrr) (by have := (List.getElem?_eq_some_iff.1 hs).1; omega)
 injection e with e _ _
 injection e with e
 injection e with e1 e2 _
 subst e1; subst e2; have := hx k c hs
 rwa [Nat.zero_add] at this
theorem cown_free {w : World} {base g n cap sz : Nat} {e : TypeId} {cs : List Value} (h : w.ownsRow base e sz (.slice (some ⟨g, 0, none⟩) n cap) n cs) (o : Nat) : w.frozen? ⟨g, o, none⟩ = false := by
 rcases h.2 with ⟨h0, _⟩ | ⟨g', cap', cur, hv, hg, hh, _⟩
 ·cases h0
 ·injection hv with hv _ _
  injection hv with hv
  injection hv with hv _ _
  subst hv
  simp [World.frozen?, hh]
theorem Blk.putk {w : World} {b g o : Nat} {cs : List Value} {e : TypeId} (h : Blk w b cs e) (hne : b ≠ g) (v0 v1 v2 v3 v4 v5 v6 v7 v8 v9 v10 : Value) : Blk ((((((((((((w).setCell ⟨g, o, none⟩ v0).setCell ⟨g, o + 1, none⟩ v1).setCell ⟨g, o + 2, none⟩ v2).setCell ⟨g, o + 3, none⟩ v3).setCell ⟨g, o + 4, none⟩ v4).setCell ⟨g, o + 5, none⟩ v5).setCell ⟨g, o + 6, none⟩ v6).setCell ⟨g, o + 7, none⟩ v7).setCell ⟨g, o + 8, none⟩ v8).setCell ⟨g, o + 9, none⟩ v9).setCell ⟨g, o + 10, none⟩ v10) b cs e :=
 (((((((((((h).set_ne (a := ⟨g, o, none⟩) hne v0).set_ne (a := ⟨g, o + 1, none⟩) hne v1).set_ne (a := ⟨g, o + 2, none⟩) hne v2).set_ne (a := ⟨g, o + 3, none⟩) hne v3).set_ne (a := ⟨g, o + 4, none⟩) hne v4).set_ne (a := ⟨g, o + 5, none⟩) hne v5).set_ne (a := ⟨g, o + 6, none⟩) hne v6).set_ne (a := ⟨g, o + 7, none⟩) hne v7).set_ne (a := ⟨g, o + 8, none⟩) hne v8).set_ne (a := ⟨g, o + 9, none⟩) hne v9).set_ne (a := ⟨g, o + 10, none⟩) hne v10
theorem putk_below {w0 w : World} {B g o : Nat} (h : Below B w0 w) (hB : B ≤ g) (v0 v1 v2 v3 v4 v5 v6 v7 v8 v9 v10 : Value) : Below B w0 ((((((((((((w).setCell ⟨g, o, none⟩ v0).setCell ⟨g, o + 1, none⟩ v1).setCell ⟨g, o + 2, none⟩ v2).setCell ⟨g, o + 3, none⟩ v3).setCell ⟨g, o + 4, none⟩ v4).setCell ⟨g, o + 5, none⟩ v5).setCell ⟨g, o + 6, none⟩ v6).setCell ⟨g, o + 7, none⟩ v7).setCell ⟨g, o + 8, none⟩ v8).setCell ⟨g, o + 9, none⟩ v9).setCell ⟨g, o + 10, none⟩ v10) :=
 (((((((((((h).setCell (p := ⟨g, o, none⟩) hB v0).setCell (p := ⟨g, o + 1, none⟩) hB v1).setCell (p := ⟨g, o + 2, none⟩) hB v2).setCell (p := ⟨g, o + 3, none⟩) hB v3).setCell (p := ⟨g, o + 4, none⟩) hB v4).setCell (p := ⟨g, o + 5, none⟩) hB v5).setCell (p := ⟨g, o + 6, none⟩) hB v6).setCell (p := ⟨g, o + 7, none⟩) hB v7).setCell (p := ⟨g, o + 8, none⟩) hB v8).setCell (p := ⟨g, o + 9, none⟩) hB v9).setCell (p := ⟨g, o + 10, none⟩) hB v10
/-! ### a stroke within a screen -/
theorem whole_may {N M : Nat} (hN : N ≤ 16384) (hM : M ≤ 16384) : mayR (⟨0, 0, N, M⟩ : Re) = true := by
 have a1 : inB 0 = true := by decide
 have a2 : sdB (N : Int) = true := sdB_iff.2 (by omega); have a3 : sdB (M : Int) = true := sdB_iff.2 (by omega); have a4 : inB (N : Int) = true := inB_iff.2 (by omega); have a5 : inB (M : Int) = true := inB_iff.2 (by omega); unfold mayR spanB
 simp [a1, a2, a3, a4, a5]
 omega
theorem whole_has {N M k : Nat} (h : k < N * M) : hasR (⟨0, 0, N, M⟩ : Re) ((k % N : Nat) : Int) ((k / N : Nat) : Int) = true := by
 have hN : 0 < N := by
  rcases Nat.eq_zero_or_pos N with h0 | h0
  ·rw [h0, Nat.zero_mul] at h; omega
  ·exact h0
 have h1 := Nat.mod_lt k hN; have h2 : k / N < M := Nat.div_lt_of_lt_mul h; generalize k % N = a at h1 ⊢; generalize k / N = b at h2 ⊢; rw [has_iff]; simp only; omega
theorem strokeD_out {N M : Nat} {s : St} {g : List (List Gl)} {r : Re} {cs : List Ce} (hl : cs.length = N * M) (rm : mayR r = true) (hN : N ≤ 16384) (hM : M ≤ 16384) (he : emptyR (meetR r ⟨0, 0, N, M⟩) = true) : strokeD N s g r cs = cs := by
 unfold strokeD; refine updP_none (fun k hk => ?_); rw [hl] at hk; have h1 := has_meet (x := ((k % N : Nat) : Int)) (y := ((k / N : Nat) : Int)) rm (whole_may hN hM); rw [has_of_empty (meet_may _ _) he, whole_has hk, Bool.and_true] at h1; exact h1.symm
theorem meet_in {N M : Nat} {r : Re} (rm : mayR r = true) (hN : N ≤ 16384) (hM : M ≤ 16384) (he : emptyR (meetR r ⟨0, 0, N, M⟩) = false) :
  let q := meetR r ⟨0, 0, N, M⟩
  0 ≤ q.x ∧ 0 < q.wd ∧ q.x + q.wd ≤ N ∧ 0 ≤ q.y ∧ 0 < q.ht ∧ q.y + q.ht ≤ M := by
 intro q
 obtain ⟨hm, h1, h2⟩ := full_bd he
 have key : ∀ x y, hasR q x y = true → hasR (⟨0, 0, N, M⟩ : Re) x y = true := fun x y h => by
  have := has_meet (x := x) (y := y) rm (whole_may hN hM); rw [show hasR (meetR r ⟨0, 0, N, M⟩) x y = true from h, eq_comm, Bool.and_eq_true] at this; exact this.2
 have a := key q.x q.y (by rw [has_iff]; change 0 < q.wd at h1; change 0 < q.ht at h2; omega); have b := key (q.x + q.wd - 1) (q.y + q.ht - 1) (by rw [has_iff]; change 0 < q.wd at h1; change 0 < q.ht at h2; omega); rw [has_iff] at a b; simp only at a b
 change 0 < q.wd at h1
 change 0 < q.ht at h2
 omega
theorem madeC_kind {c : Ce} {s : St} (h : s.kind ≠ 3) (g g' : List (List Gl)) (x y : Int) : madeC c s g x y = madeC c s g' x y := by
 unfold madeC; rw [if_neg h, if_neg h]
theorem co_none_wf : Co.none.Wf := ⟨(by unfold U8; decide : U8 0), (by unfold U8; decide : U8 0), (by unfold U8; decide : U8 0), (by unfold U8; decide : U8 0)⟩
theorem madeC_wf {c : Ce} {s : St} (hc : c.Wf) (hs : s.Wf) (g : List (List Gl)) (x y : Int) : (madeC c s g x y).Wf := by
 have h1 := hs.2.2.1; have h2 := hs.2.2.2.1; unfold madeC
 split
 ·split
  ·exact hc
  ·exact ⟨trivial, ovC_wf h1 (ovC_wf h2 hc.2.2), ovC_wf h2 hc.2.2⟩
 ·split
  ·exact hc
  ·split
   ·unfold fillC
    split
    ·exact ⟨trivial, co_none_wf, h1⟩
    ·exact ⟨trivial, ovC_wf h1 hc.2.1, ovC_wf h1 hc.2.2⟩
   ·split
    ·exact hc
    ·exact ⟨trivial, ovC_wf h1 hc.2.2, hc.2.2⟩
theorem strokeD_wf {N : Nat} {s : St} {g : List (List Gl)} {r : Re} {cs : List Ce} (hs : s.Wf) (hc : CeL cs) : CeL (strokeD N s g r cs) := by
 intro c hm
 obtain ⟨k, hk⟩ := List.getElem?_of_mem hm; unfold strokeD at hk; rw [updP_get] at hk
 cases h0 : cs[k]? with
 | none => rw [h0] at hk; cases hk
 | some c0 =>
  rw [h0] at hk; simp only [Option.map_some, Option.some.injEq] at hk; subst hk; have := hc c0 (List.mem_of_getElem? h0)
  split
  ·exact madeC_wf this hs _ _ _
  ·exact this
theorem strokeD_upTo {N M rx rw_ ry rh : Nat} {s : St} {g g' : List (List Gl)} {r : Re} {cs : List Ce} (hl : cs.length = N * M) (rm : mayR r = true) (hN : N ≤ 16384) (hM : M ≤ 16384)
  (hq : meetR r ⟨0, 0, N, M⟩ = ⟨rx, ry, rw_, rh⟩) (hg : ∀ c x y, madeC c s g x y = madeC c s g' x y) :
  updP (upTo N rx rw_ ry rh (ry + rh) rx) (fun k c => madeC c s g ((k % N : Nat) : Int) ((k / N : Nat) : Int)) cs = strokeD N s g' r cs := by
 have e : (fun (k : Nat) c => madeC c s g ((k % N : Nat) : Int) ((k / N : Nat) : Int)) = (fun (k : Nat) c => madeC c s g' ((k % N : Nat) : Int) ((k / N : Nat) : Int)) := by
  funext k c
  exact hg _ _ _
 rw [e]; unfold strokeD; refine updP_congr (fun k hk => ?_); rw [hl] at hk; rw [upTo_end]; have h1 := has_meet (x := ((k % N : Nat) : Int)) (y := ((k / N : Nat) : Int)) rm (whole_may hN hM); rw [whole_has hk, Bool.and_true, hq] at h1; rw [← h1]; clear h1 hk; generalize k % N = a; generalize k / N = b; unfold hasR; simp only
 apply bool_ext
 simp only [Bool.and_eq_true, decide_eq_true_eq]; omega
end Go.Proofs.YtfcphagmjijmkaaGreatDoor
