/-
  XGh: XLisJ XLisM XLisO XLisP XLisQ XLisS XLisT.
-/
import Derived.Test.YtkmofpnefjgnkaaGl
import Derived.Laws.AppendOwnNone
import Derived.OneCell
namespace Go.Proofs.Ytkmofpnefjgnkaa
open Go.RowKit
set_option linter.unusedVariables false
attribute [local go_sem] vwp vUpon_value vUpon_skip vUpon_enter vUpon_row
set_option linter.unusedSimpArgs false
set_option linter.unusedVariables false
section
set_option linter.unusedSimpArgs false
set_option linter.unusedVariables false
theorem St.enc_len (s : St) : s.enc.length = 15 := rfl
theorem St.enc_one (s : St) : ∀ u ∈ s.enc, u.oneCell' = true := by
  intro u hu
  simp only [St.enc, Re.enc, Co.enc, List.cons_append, List.nil_append, List.mem_cons, List.not_mem_nil, or_false] at hu
  rcases hu with rfl | rfl | rfl | rfl | rfl | rfl | rfl | rfl | rfl | rfl | rfl | rfl | rfl | rfl | rfl <;> rfl
theorem infoSt : (Try.prog.info? 45).map (fun i => (i.zero, i.size, i.bytes)) = some (some (.agg #[.int .u8 0, .int .i64 0, .int .i64 0, .int .i64 0, .int .i64 0, .int .u8 0, .int .u8 0, .int .u8 0, .int .u8 0, .int .u8 0, .int .u8 0, .int .u8 0, .int .u8 0, .string ⟨#[]⟩, .int .i64 0]), 15, 72) := by kernel_rfl
/-- What a call hands out: a row of its own. -/
def Owns (base : Nat) (w : World) (v : Value) (xs : List St) : Prop := w.ownsRow base 45 15 v xs.length (xs.flatMap St.enc)
theorem Owns.row {base B : Nat} {w : World} {v : Value} {xs : List St} (h : Owns base w v xs) (hB : w.heap.size ≤ B) : Row B 15 St.enc w v xs := Row.own St.enc_len h hB (by omega)
theorem Owns.below {base B : Nat} {w w' : World} {v : Value} {xs : List St} (h : Owns base w v xs) (hb : Below B w w') (hB : w.heap.size ≤ B) : Owns base w' v xs := ownsRow_below h hb hB
theorem Owns.nil (base : Nat) (w : World) : Owns base w (.slice none 0 0) [] := World.ownsRow_nil _ _ _ _
end
section
set_option linter.unusedSimpArgs false
set_option linter.unusedVariables false
def joinE (xs ys : List St) : Int := if chkL xs ≠ 0 then chkL xs else if chkL ys ≠ 0 then chkL ys else if xs.length + ys.length > 16384 then 4 else 0
def joinL (xs ys : List St) : List St := if joinE xs ys = 0 then xs ++ ys else []
/-- What a call tells that hands out a list and an error. -/
def OutU (base : Nat) (l : List St) (er : Int) (w : World) (e : Ending) (w' : World) : Prop := Below base w w' ∧ ∃ v, e = .returned (.tuple #[v, .int .i64 er]) ∧ Owns base w' v l
theorem chk_len {xs : List St} (h : chkL xs = 0) : xs.length ≤ 16384 := by
  unfold chkL at h; split at h
  · cases h
  · omega
theorem join_a {xs ys : List St} (c1 : chkL xs ≠ 0) : joinE xs ys = chkL xs ∧ joinL xs ys = [] := by
  have e1 : joinE xs ys = chkL xs := by unfold joinE; rw [if_pos c1]
  exact ⟨e1, by unfold joinL; rw [if_neg (by rw [e1]; exact c1)]⟩
theorem join_b {xs ys : List St} (c1 : chkL xs = 0) (c2 : chkL ys ≠ 0) : joinE xs ys = chkL ys ∧ joinL xs ys = [] := by
  have e1 : joinE xs ys = chkL ys := by unfold joinE; rw [if_neg (by simp [c1]), if_pos c2]
  exact ⟨e1, by unfold joinL; rw [if_neg (by rw [e1]; exact c2)]⟩
theorem join_c {xs ys : List St} (c1 : chkL xs = 0) (c2 : chkL ys = 0) (c3 : xs.length + ys.length > 16384) : joinE xs ys = 4 ∧ joinL xs ys = [] := by
  have e1 : joinE xs ys = 4 := by unfold joinE; rw [if_neg (by simp [c1]), if_neg (by simp [c2]), if_pos c3]
  exact ⟨e1, by unfold joinL; rw [if_neg (by rw [e1]; decide)]⟩
theorem join_d {xs ys : List St} (c1 : chkL xs = 0) (c2 : chkL ys = 0) (c3 : ¬ xs.length + ys.length > 16384) : joinE xs ys = 0 ∧ joinL xs ys = xs ++ ys := by
  have e1 : joinE xs ys = 0 := by unfold joinE; rw [if_neg (by simp [c1]), if_neg (by simp [c2]), if_neg c3]
  exact ⟨e1, by unfold joinL; rw [if_pos e1]⟩
set_option maxHeartbeats 1000000 in
set_option maxRecDepth 100000 in
theorem rjoin_any (xs ys : List St) (v1 v2 : Value) (w : World) (h1 : Row w.heap.size 15 St.enc w v1 xs) (h2 : Row w.heap.size 15 St.enc w v2 ys) (k1 : ∀ s ∈ xs, s.Wf) (k2 : ∀ s ∈ ys, s.Wf) : Calls Try.prog 9 #[v1, v2] w (OutU w.heap.size (joinL xs ys) (joinE xs ys) w) := by
  obtain ⟨iM, hi0, hm0, hm1, hm2⟩ := info_parts infoSt
  have C1 := fun w' (hb : Below w.heap.size w w') => rcheck_any xs v1 w' ((h1.below hb).mono hb.size) k1
  have C2 := fun w' (hb : Below w.heap.size w w') => rcheck_any ys v2 w' ((h2.below hb).mono hb.size) k2
  obtain ⟨s1, cc1, rfl, hmax1⟩ := h1.shape
  obtain ⟨s2, cc2, rfl, hmax2⟩ := h2.shape
  replace h1 := Lib.hid h1
  replace h2 := Lib.hid h2
  clear k1 k2
  obtain ⟨n, en⟩ : ∃ n, xs.length = n := ⟨_, rfl⟩
  obtain ⟨m, em⟩ : ∃ n, ys.length = n := ⟨_, rfl⟩
  by_cases c1 : chkL xs = 0
  · have l1 := chk_len c1
    by_cases c2 : chkL ys = 0
    · have l2 := chk_len c2
      by_cases c3 : xs.length + ys.length > 16384
      · rw [(join_c c1 c2 c3).1, (join_c c1 c2 c3).2]
        rw [en, em] at c3
        rw [en] at l1
        rw [em] at l2
        rw [c1] at C1
        rw [c2] at C2
        rw [en] at C1 hmax1 ⊢
        rw [em] at C2 hmax2 ⊢
        replace C1 := Lib.hid C1
        replace C2 := Lib.hid C2
        replace en := Lib.hid en
        replace em := Lib.hid em
        clear c1 c2
        go_enter Try.func9, Try.ntmps9
        go_wp2_with (first
          | (go_at_call 36; (with_reducible refine (C1.out _ (by repeat (first | exact Below.refl _ _ | assumption | refine Below.drew ?_ | refine Below.alloc ?_ (by (try simp) <;> omega) _ | refine Below.setCell ?_ (by (try simp) <;> omega) _ | (refine Below.trans ?_ (Below.mono (by assumption) (by (try simp) <;> omega)))))).mono ?_); rintro e w3 ⟨rfl, hb3⟩; have z3 := hb3.size)
          | (go_at_call 36; (with_reducible refine (C2.out _ (by repeat (first | exact Below.refl _ _ | assumption | refine Below.drew ?_ | refine Below.alloc ?_ (by (try simp) <;> omega) _ | refine Below.setCell ?_ (by (try simp) <;> omega) _ | (refine Below.trans ?_ (Below.mono (by assumption) (by (try simp) <;> omega)))))).mono ?_); rintro e w4 ⟨rfl, hb4⟩)
          | go_in)
        go_ret2
        exact ⟨(by repeat (first | exact Below.refl _ _ | assumption | refine Below.drew ?_ | refine Below.alloc ?_ (by (try simp) <;> omega) _ | refine Below.setCell ?_ (by (try simp) <;> omega) _ | (refine Below.trans ?_ (Below.mono (by assumption) (by (try simp) <;> omega))))), _, rfl, Owns.nil _ _⟩
      · rw [(join_d c1 c2 c3).1, (join_d c1 c2 c3).2]
        rw [en, em] at c3
        rw [en] at l1
        rw [em] at l2
        rw [c1] at C1
        rw [c2] at C2
        rw [en] at C1 hmax1 ⊢
        rw [em] at C2 hmax2 ⊢
        replace C1 := Lib.hid C1
        replace C2 := Lib.hid C2
        replace en := Lib.hid en
        replace em := Lib.hid em
        clear c1 c2
        have en' := en.out
        have em' := em.out
        have hnil : ∀ w', World.ownsRow w' w.heap.size 45 15 (.slice none 0 0) 0 [] := fun w' => World.ownsRow_nil _ _ _ _
        go_enter Try.func9, Try.ntmps9
        go_wp2_with (first
          | (go_at_call 36; (with_reducible refine (C1.out _ (by repeat (first | exact Below.refl _ _ | assumption | refine Below.drew ?_ | refine Below.alloc ?_ (by (try simp) <;> omega) _ | refine Below.setCell ?_ (by (try simp) <;> omega) _ | (refine Below.trans ?_ (Below.mono (by assumption) (by (try simp) <;> omega)))))).mono ?_); rintro e w3 ⟨rfl, hb3⟩; have z3 := hb3.size)
          | (go_at_call 36; (with_reducible refine (C2.out _ (by repeat (first | exact Below.refl _ _ | assumption | refine Below.drew ?_ | refine Below.alloc ?_ (by (try simp) <;> omega) _ | refine Below.setCell ?_ (by (try simp) <;> omega) _ | (refine Below.trans ?_ (Below.mono (by assumption) (by (try simp) <;> omega)))))).mono ?_); rintro e w4 ⟨rfl, hb4⟩; have hb04 : Below w.heap.size w w4 := (by repeat (first | exact Below.refl _ _ | assumption | refine Below.drew ?_ | refine Below.alloc ?_ (by (try simp) <;> omega) _ | refine Below.setCell ?_ (by (try simp) <;> omega) _ | (refine Below.trans ?_ (Below.mono (by assumption) (by (try simp) <;> omega))))); have z4 := hb04.size; have hrow : Row w.heap.size 15 St.enc w4 (.slice s1 n cc1) xs := (by have := h1.out.below hb04; rw [en'] at this; exact this))
          | (at_builtin; refine wpList_append_row rfl _ _ _ rfl w.heap.size 45 iM _ 15 72 Try.underlying22 hi0 hm0 hm1 hm2 rfl (by omega) w4 _ _ _ (by rfl) (hnil w4) St.enc_len St.enc_one w.heap.size _ xs hrow (by rfl) (by unfold maxLen; omega) (by omega) z4 ?_; intro v5 w5 hown5 hgr5; have hb05 : Below w.heap.size w w5 := hb04.grown hgr5 z4 (fun g hg => by simp [Value.ownBlock] at hg); have hr2 : Row w.heap.size 15 St.enc w5 (.slice s2 m cc2) ys := (by have := h2.out.below hb05; rw [em'] at this; exact this); rw [Nat.zero_add, List.nil_append, en'] at hown5; have z5 := hb05.size)
          | (at_builtin; refine wpList_append_row rfl _ _ _ rfl w.heap.size 45 iM _ 15 72 Try.underlying22 hi0 hm0 hm1 hm2 rfl (by omega) w5 _ _ _ (by rfl) hown5 St.enc_len St.enc_one w.heap.size _ ys hr2 (by rfl) (by unfold maxLen; omega) (by omega) z5 ?_; intro v6 w6 hown6 hgr6)
          | go_in)
        rw [em'] at hown6
        have hb6 : Below w.heap.size w w6 := hb05.grown hgr6 z5 (fun g hg => (hown5.lt g hg).1)
        replace hown6 := Lib.hid hown6
        go_wp2
        go_ret2
        refine ⟨hb6, _, rfl, ?_⟩
        have := hown6.out
        unfold Owns
        rw [List.length_append, List.flatMap_append, en', em']
        exact this
    · have hcb : (chkL ys == 0) = false := by simp [c2]
      rw [(join_b c1 c2).1, (join_b c1 c2).2]
      rw [en] at l1
      rw [c1] at C1
      rw [en] at C1 hmax1 ⊢
      rw [em] at C2 hmax2 ⊢
      replace C1 := Lib.hid C1
      replace C2 := Lib.hid C2
      replace en := Lib.hid en
      replace em := Lib.hid em
      clear c1 c2
      go_enter Try.func9, Try.ntmps9
      go_wp2_with (first
        | (go_at_call 36; (with_reducible refine (C1.out _ (by repeat (first | exact Below.refl _ _ | assumption | refine Below.drew ?_ | refine Below.alloc ?_ (by (try simp) <;> omega) _ | refine Below.setCell ?_ (by (try simp) <;> omega) _ | (refine Below.trans ?_ (Below.mono (by assumption) (by (try simp) <;> omega)))))).mono ?_); rintro e w3 ⟨rfl, hb3⟩; have z3 := hb3.size)
        | (go_at_call 36; (with_reducible refine (C2.out _ (by repeat (first | exact Below.refl _ _ | assumption | refine Below.drew ?_ | refine Below.alloc ?_ (by (try simp) <;> omega) _ | refine Below.setCell ?_ (by (try simp) <;> omega) _ | (refine Below.trans ?_ (Below.mono (by assumption) (by (try simp) <;> omega)))))).mono ?_); rintro e w4 ⟨rfl, hb4⟩)
        | go_in)
      go_ret2
      exact ⟨(by repeat (first | exact Below.refl _ _ | assumption | refine Below.drew ?_ | refine Below.alloc ?_ (by (try simp) <;> omega) _ | refine Below.setCell ?_ (by (try simp) <;> omega) _ | (refine Below.trans ?_ (Below.mono (by assumption) (by (try simp) <;> omega))))), _, rfl, Owns.nil _ _⟩
  · have hcb : (chkL xs == 0) = false := by simp [c1]
    rw [(join_a c1).1, (join_a c1).2]
    rw [en] at C1 hmax1 ⊢
    rw [em] at C2 hmax2 ⊢
    replace C1 := Lib.hid C1
    replace C2 := Lib.hid C2
    replace en := Lib.hid en
    replace em := Lib.hid em
    clear c1
    go_enter Try.func9, Try.ntmps9
    go_wp2_with (first
      | (go_at_call 36; (with_reducible refine (C1.out _ (by repeat (first | exact Below.refl _ _ | assumption | refine Below.drew ?_ | refine Below.alloc ?_ (by (try simp) <;> omega) _ | refine Below.setCell ?_ (by (try simp) <;> omega) _ | (refine Below.trans ?_ (Below.mono (by assumption) (by (try simp) <;> omega)))))).mono ?_); rintro e w3 ⟨rfl, hb3⟩; have z3 := hb3.size)
      | (go_at_call 36; (with_reducible refine (C2.out _ (by repeat (first | exact Below.refl _ _ | assumption | refine Below.drew ?_ | refine Below.alloc ?_ (by (try simp) <;> omega) _ | refine Below.setCell ?_ (by (try simp) <;> omega) _ | (refine Below.trans ?_ (Below.mono (by assumption) (by (try simp) <;> omega)))))).mono ?_); rintro e w4 ⟨rfl, hb4⟩)
      | go_in)
    go_ret2
    exact ⟨(by repeat (first | exact Below.refl _ _ | assumption | refine Below.drew ?_ | refine Below.alloc ?_ (by (try simp) <;> omega) _ | refine Below.setCell ?_ (by (try simp) <;> omega) _ | (refine Below.trans ?_ (Below.mono (by assumption) (by (try simp) <;> omega))))), _, rfl, Owns.nil _ _⟩
end
section
set_option linter.unusedSimpArgs false
set_option linter.unusedVariables false
def sameL : List St → List St → Bool
  | [], [] => true
  | x :: xs, y :: ys => x.eqb y && sameL xs ys
  | _, _ => false
theorem sameL_len : ∀ {xs ys : List St}, xs.length ≠ ys.length → sameL xs ys = false
  | [], [], h => absurd rfl h
  | [], _ :: _, _ => rfl
  | _ :: _, [], _ => rfl
  | x :: xs, y :: ys, h => by
    unfold sameL
    rw [sameL_len (by simpa using h), Bool.and_false]
theorem St.eqb_refl (s : St) : s.eqb s = true := by simp [St.eqb, Re.eqb, Co.eqb, eq4]
theorem sameL_refl : ∀ xs : List St, sameL xs xs = true
  | [] => rfl
  | x :: xs => by unfold sameL; rw [x.eqb_refl, sameL_refl xs]; rfl
theorem same_step {xs ys : List St} {k : Nat} {x y : St} (hx : xs[k]? = some x) (hy : ys[k]? = some y) : sameL (xs.drop k) (ys.drop k) = (x.eqb y && sameL (xs.drop (k + 1)) (ys.drop (k + 1))) := by
  obtain ⟨hk, e⟩ := List.getElem?_eq_some_iff.1 hx
  obtain ⟨hk', e'⟩ := List.getElem?_eq_some_iff.1 hy
  rw [List.drop_eq_getElem_cons hk, e, List.drop_eq_getElem_cons hk', e']
  rfl
theorem neq_stroke (w : World) (k x y wd ht c0 c1 c2 c3 b0 b1 b2 b3 n k' x' y' wd' ht' c0' c1' c2' c3' b0' b1' b2' b3' n' : Int) (t t' : ByteArray) :
    (binOp .neq 45 (.agg #[.int .u8 k, .int .i64 x, .int .i64 y, .int .i64 wd, .int .i64 ht, .int .u8 c0, .int .u8 c1, .int .u8 c2, .int .u8 c3, .int .u8 b0, .int .u8 b1, .int .u8 b2, .int .u8 b3, .string t, .int .i64 n]) (.agg #[.int .u8 k', .int .i64 x', .int .i64 y', .int .i64 wd', .int .i64 ht', .int .u8 c0', .int .u8 c1', .int .u8 c2', .int .u8 c3', .int .u8 b0', .int .u8 b1', .int .u8 b2', .int .u8 b3', .string t', .int .i64 n'])).run Try.prog w
      = .ok (.bool (!St.eqb ⟨k, ⟨x, y, wd, ht⟩, ⟨c0, c1, c2, c3⟩, ⟨b0, b1, b2, b3⟩, t, n⟩ ⟨k', ⟨x', y', wd', ht'⟩, ⟨c0', c1', c2', c3'⟩, ⟨b0', b1', b2', b3'⟩, t', n'⟩)) w := by
  rw [run_neq_struct]
  have h := eq_stroke 9996 w ⟨k, ⟨x, y, wd, ht⟩, ⟨c0, c1, c2, c3⟩, ⟨b0, b1, b2, b3⟩, t, n⟩ ⟨k', ⟨x', y', wd', ht'⟩, ⟨c0', c1', c2', c3'⟩, ⟨b0', b1', b2', b3'⟩, t', n'⟩
  simp only at h
  rw [h]
  rfl
attribute [local go_sem high] neq_stroke
set_option maxHeartbeats 2000000 in
set_option maxRecDepth 100000 in
theorem rsame_any (xs ys : List St) (v1 v2 : Value) (w : World) (h1 : Row w.heap.size 15 St.enc w v1 xs) (h2 : Row w.heap.size 15 St.enc w v2 ys) (hmany : xs.length ≤ 40000) (hmany2 : ys.length ≤ 40000) : Calls Try.prog 12 #[v1, v2] w fun e w' => e = .returned (.bool (sameL xs ys)) ∧ Below w.heap.size w w' := by
  obtain ⟨s1, c1, rfl, hmax1⟩ := h1.shape
  obtain ⟨s2, c2, rfl, hmax2⟩ := h2.shape
  have o1 := fun h0 => row_st h1 h0
  have o2 := fun h0 => row_st h2 h0
  clear h1 h2
  obtain ⟨n, en⟩ : ∃ n, xs.length = n := ⟨_, rfl⟩
  obtain ⟨m, em⟩ : ∃ m, ys.length = m := ⟨_, rfl⟩
  by_cases hnm : n = m
  · subst hnm
    rw [en] at o1 hmany hmax1 ⊢
    rw [em] at o2 hmany2 hmax2 ⊢
    replace o1 := Lib.hid o1
    replace o2 := Lib.hid o2
    replace en := Lib.hid en
    replace em := Lib.hid em
    obtain ⟨res, hres⟩ : ∃ r, sameL xs ys = r := ⟨_, rfl⟩
    rw [hres]
    go_enter Try.func12, Try.ntmps12
    go_wp2
    go_loopw [5] (fun i wr => ∃ k : Nat, k ≤ n ∧ i = .int .i64 k ∧ sameL (xs.drop k) (ys.drop k) = res ∧ Below w.heap.size w wr) (fun i _ => n - (intOf i).toNat)
    case atStart => exact ⟨0, Nat.zero_le _, rfl, by simpa using hres, (by repeat (first | exact Below.refl _ _ | assumption | refine Below.drew ?_ | refine Below.alloc ?_ (by (try simp) <;> omega) _ | refine Below.setCell ?_ (by (try simp) <;> omega) _))⟩
    case round =>
      obtain ⟨k, hk, rfl, hgo, hbr⟩ := hrel
      clear hres
      have zr := hbr.size
      obtain ⟨hcr, hfr⟩ := bcell hbr
      by_cases hkn : k < n
      · obtain ⟨b, p, cap', e, hb, _, _, hel⟩ := o1.out (by omega)
        simp at e
        obtain ⟨rfl, rfl⟩ := e
        obtain ⟨b', p', cap', e, hb', _, _, hex⟩ := o2.out (by omega)
        simp at e
        obtain ⟨rfl, rfl⟩ := e
        obtain ⟨s, hs⟩ : ∃ s, xs[k]? = some s := ⟨xs[k]'(by have := en.out; omega), List.getElem?_eq_getElem _⟩
        obtain ⟨t, ht⟩ : ∃ s, ys[k]? = some s := ⟨ys[k]'(by have := em.out; omega), List.getElem?_eq_getElem _⟩
        obtain ⟨g0, g1, g2, g3, g4, g5, g6, g7, g8, g9, g10, g11, g12, g13, g14⟩ := hel k s hs
        obtain ⟨j0, j1, j2, j3, j4, j5, j6, j7, j8, j9, j10, j11, j12, j13, j14⟩ := hex k t ht
        rw [same_step hs ht] at hgo
        have hkk : (k : Int) < n := by omega
        have yb : b < wr.heap.size := by omega
        have yb' : b' < wr.heap.size := by omega
        clear hel hex hs ht
        obtain ⟨kd, ⟨x, y, wd, ht⟩, ⟨q0, q1, q2, q3⟩, ⟨r0, r1, r2, r3⟩, tx, nd⟩ := s
        obtain ⟨kd', ⟨x', y', wd', ht'⟩, ⟨q0', q1', q2', q3'⟩, ⟨r0', r1', r2', r3'⟩, tx', nd'⟩ := t
        simp only at g0 g1 g2 g3 g4 g5 g6 g7 g8 g9 g10 g11 g12 g13 g14 j0 j1 j2 j3 j4 j5 j6 j7 j8 j9 j10 j11 j12 j13 j14
        obtain ⟨bb, hc⟩ : ∃ bb, St.eqb ⟨kd, ⟨x, y, wd, ht⟩, ⟨q0, q1, q2, q3⟩, ⟨r0, r1, r2, r3⟩, tx, nd⟩ ⟨kd', ⟨x', y', wd', ht'⟩, ⟨q0', q1', q2', q3'⟩, ⟨r0', r1', r2', r3'⟩, tx', nd'⟩ = bb := ⟨_, rfl⟩
        rw [hc] at hgo
        cases bb
        · rw [Bool.false_and] at hgo
          subst hgo
          go_wp2
          refine wp_region_steady (Held wr 0 []) (by kernel_rfl) (by kernel_rfl) ⟨(by repeat (first | exact Below.refl _ _ | assumption | refine Below.drew ?_ | refine Below.alloc ?_ (by (try simp) <;> omega) _ | refine Below.setCell ?_ (by (try simp) <;> omega) _ | (refine Below.trans ?_ (Below.mono (by assumption) (by (try simp) <;> omega))))), (by (try simp) <;> omega), (by first | exact trivial | (simp only [Cells]; go_simp))⟩ ?_
          repeat (first | (refine' wpSteady_do _ _ _; rotate_left; (focus rfl); (focus (intro w1 hS R hR; have hc := hS.cells; simp only [Cells] at hc; obtain ⟨hco, hfo⟩ := bcell hS.old; go_simp; (try go_bits); first | exact hR _ hS | fail)); simp only [Act.put, List.setIfInBounds_toArray, List.set_cons_zero, List.set_cons_succ]) | (refine wpSteady_pass ?_ ?_; (focus rfl); simp only [Act.put, List.setIfInBounds_toArray, List.set_cons_zero, List.set_cons_succ]))
          refine wpSteady_nil (fun uA hSA => ?_)
          have hcA := hSA.cells; have hbA := hSA.old; have hzA := hSA.size; clear hSA; simp only [Cells] at hcA; obtain ⟨hcoA, hfoA⟩ := bcell hbA
          go_wp2
          go_ret
          exact ⟨rfl, hbr.trans (hbA.mono zr)⟩
        · rw [Bool.true_and] at hgo
          replace hgo := Lib.hid hgo
          go_wp2
          refine wp_region_steady (Held wr 0 []) (by kernel_rfl) (by kernel_rfl) ⟨(by repeat (first | exact Below.refl _ _ | assumption | refine Below.drew ?_ | refine Below.alloc ?_ (by (try simp) <;> omega) _ | refine Below.setCell ?_ (by (try simp) <;> omega) _ | (refine Below.trans ?_ (Below.mono (by assumption) (by (try simp) <;> omega))))), (by (try simp) <;> omega), (by first | exact trivial | (simp only [Cells]; go_simp))⟩ ?_
          repeat (first | (refine' wpSteady_do _ _ _; rotate_left; (focus rfl); (focus (intro w1 hS R hR; have hc := hS.cells; simp only [Cells] at hc; obtain ⟨hco, hfo⟩ := bcell hS.old; go_simp; (try go_bits); first | exact hR _ hS | fail)); simp only [Act.put, List.setIfInBounds_toArray, List.set_cons_zero, List.set_cons_succ]) | (refine wpSteady_pass ?_ ?_; (focus rfl); simp only [Act.put, List.setIfInBounds_toArray, List.set_cons_zero, List.set_cons_succ]))
          refine wpSteady_nil (fun uA hSA => ?_)
          have hcA := hSA.cells; have hbA := hSA.old; have hzA := hSA.size; clear hSA; simp only [Cells] at hcA; obtain ⟨hcoA, hfoA⟩ := bcell hbA
          go_wp2
          go_roundw
          case rel => exact ⟨k + 1, by omega, by go_num, hgo.out, hbr.trans (hbA.mono zr)⟩
          case measure => simp [intOf]; omega
      · obtain rfl : k = n := by omega
        have e1 : xs.drop k = [] := List.drop_eq_nil_of_le (by have := en.out; omega)
        have e2 : ys.drop k = [] := List.drop_eq_nil_of_le (by have := em.out; omega)
        rw [e1, e2] at hgo
        clear e1 e2
        have hgo : true = res := hgo
        subst hgo
        go_wp2
        go_ret
        exact ⟨rfl, hbr⟩
  · rw [sameL_len (by rw [en, em]; exact hnm)]
    rw [en] at hmax1 ⊢
    rw [em] at hmax2 ⊢
    have hni : ¬ (n : Int) = m := by omega
    clear o1 o2
    go_enter Try.func12, Try.ntmps12
    go_wp2
    go_ret
    exact ⟨rfl, (by repeat (first | exact Below.refl _ _ | assumption | refine Below.drew ?_ | refine Below.alloc ?_ (by (try simp) <;> omega) _ | refine Below.setCell ?_ (by (try simp) <;> omega) _))⟩
set_option maxHeartbeats 2000000 in
set_option maxRecDepth 100000 in
theorem equal_any (xs ys : List St) (v1 v2 : Value) (w : World) (h1 : Row w.heap.size 15 St.enc w v1 xs) (h2 : Row w.heap.size 15 St.enc w v2 ys) (hmany : xs.length ≤ 40000) (hmany2 : ys.length ≤ 40000) : Calls Try.prog 40 #[v1, v2] w fun e w' => e = .returned (.bool (sameL xs ys)) ∧ Below w.heap.size w w' := by
  obtain ⟨s1, c1, rfl, hmax1⟩ := h1.shape
  obtain ⟨s2, c2, rfl, hmax2⟩ := h2.shape
  have o1 := fun h0 => row_st h1 h0
  have o2 := fun h0 => row_st h2 h0
  clear h1 h2
  obtain ⟨n, en⟩ : ∃ n, xs.length = n := ⟨_, rfl⟩
  obtain ⟨m, em⟩ : ∃ m, ys.length = m := ⟨_, rfl⟩
  by_cases hnm : n = m
  · subst hnm
    rw [en] at o1 hmany hmax1 ⊢
    rw [em] at o2 hmany2 hmax2 ⊢
    replace o1 := Lib.hid o1
    replace o2 := Lib.hid o2
    replace en := Lib.hid en
    replace em := Lib.hid em
    obtain ⟨res, hres⟩ : ∃ r, sameL xs ys = r := ⟨_, rfl⟩
    rw [hres]
    go_enter Try.func40, Try.ntmps40
    go_wp2
    go_loopw [13] (fun i wr => ∃ k : Nat, k ≤ n ∧ i = .int .i64 k ∧ sameL (xs.drop k) (ys.drop k) = res ∧ Below w.heap.size w wr) (fun i _ => n - (intOf i).toNat)
    case atStart => exact ⟨0, Nat.zero_le _, rfl, by simpa using hres, (by repeat (first | exact Below.refl _ _ | assumption | refine Below.drew ?_ | refine Below.alloc ?_ (by (try simp) <;> omega) _ | refine Below.setCell ?_ (by (try simp) <;> omega) _))⟩
    case round =>
      obtain ⟨k, hk, rfl, hgo, hbr⟩ := hrel
      clear hres
      have zr := hbr.size
      obtain ⟨hcr, hfr⟩ := bcell hbr
      by_cases hkn : k < n
      · obtain ⟨b, p, cap', e, hb, _, _, hel⟩ := o1.out (by omega)
        simp at e
        obtain ⟨rfl, rfl⟩ := e
        obtain ⟨b', p', cap', e, hb', _, _, hex⟩ := o2.out (by omega)
        simp at e
        obtain ⟨rfl, rfl⟩ := e
        obtain ⟨s, hs⟩ : ∃ s, xs[k]? = some s := ⟨xs[k]'(by have := en.out; omega), List.getElem?_eq_getElem _⟩
        obtain ⟨t, ht⟩ : ∃ s, ys[k]? = some s := ⟨ys[k]'(by have := em.out; omega), List.getElem?_eq_getElem _⟩
        obtain ⟨g0, g1, g2, g3, g4, g5, g6, g7, g8, g9, g10, g11, g12, g13, g14⟩ := hel k s hs
        obtain ⟨j0, j1, j2, j3, j4, j5, j6, j7, j8, j9, j10, j11, j12, j13, j14⟩ := hex k t ht
        rw [same_step hs ht] at hgo
        have hkk : (k : Int) < n := by omega
        have yb : b < wr.heap.size := by omega
        have yb' : b' < wr.heap.size := by omega
        clear hel hex hs ht
        obtain ⟨kd, ⟨x, y, wd, ht⟩, ⟨q0, q1, q2, q3⟩, ⟨r0, r1, r2, r3⟩, tx, nd⟩ := s
        obtain ⟨kd', ⟨x', y', wd', ht'⟩, ⟨q0', q1', q2', q3'⟩, ⟨r0', r1', r2', r3'⟩, tx', nd'⟩ := t
        simp only at g0 g1 g2 g3 g4 g5 g6 g7 g8 g9 g10 g11 g12 g13 g14 j0 j1 j2 j3 j4 j5 j6 j7 j8 j9 j10 j11 j12 j13 j14
        obtain ⟨bb, hc⟩ : ∃ bb, St.eqb ⟨kd, ⟨x, y, wd, ht⟩, ⟨q0, q1, q2, q3⟩, ⟨r0, r1, r2, r3⟩, tx, nd⟩ ⟨kd', ⟨x', y', wd', ht'⟩, ⟨q0', q1', q2', q3'⟩, ⟨r0', r1', r2', r3'⟩, tx', nd'⟩ = bb := ⟨_, rfl⟩
        rw [hc] at hgo
        cases bb
        · rw [Bool.false_and] at hgo
          subst hgo
          go_wp2
          refine wp_region_steady (Held wr 0 []) (by kernel_rfl) (by kernel_rfl) ⟨(by repeat (first | exact Below.refl _ _ | assumption | refine Below.drew ?_ | refine Below.alloc ?_ (by (try simp) <;> omega) _ | refine Below.setCell ?_ (by (try simp) <;> omega) _ | (refine Below.trans ?_ (Below.mono (by assumption) (by (try simp) <;> omega))))), (by (try simp) <;> omega), (by first | exact trivial | (simp only [Cells]; go_simp))⟩ ?_
          repeat (first | (refine' wpSteady_do _ _ _; rotate_left; (focus rfl); (focus (intro w1 hS R hR; have hc := hS.cells; simp only [Cells] at hc; obtain ⟨hco, hfo⟩ := bcell hS.old; go_simp; (try go_bits); first | exact hR _ hS | fail)); simp only [Act.put, List.setIfInBounds_toArray, List.set_cons_zero, List.set_cons_succ]) | (refine wpSteady_pass ?_ ?_; (focus rfl); simp only [Act.put, List.setIfInBounds_toArray, List.set_cons_zero, List.set_cons_succ]))
          refine wpSteady_nil (fun uA hSA => ?_)
          have hcA := hSA.cells; have hbA := hSA.old; have hzA := hSA.size; clear hSA; simp only [Cells] at hcA; obtain ⟨hcoA, hfoA⟩ := bcell hbA
          go_wp2
          go_ret
          exact ⟨rfl, hbr.trans (hbA.mono zr)⟩
        · rw [Bool.true_and] at hgo
          replace hgo := Lib.hid hgo
          go_wp2
          refine wp_region_steady (Held wr 0 []) (by kernel_rfl) (by kernel_rfl) ⟨(by repeat (first | exact Below.refl _ _ | assumption | refine Below.drew ?_ | refine Below.alloc ?_ (by (try simp) <;> omega) _ | refine Below.setCell ?_ (by (try simp) <;> omega) _ | (refine Below.trans ?_ (Below.mono (by assumption) (by (try simp) <;> omega))))), (by (try simp) <;> omega), (by first | exact trivial | (simp only [Cells]; go_simp))⟩ ?_
          repeat (first | (refine' wpSteady_do _ _ _; rotate_left; (focus rfl); (focus (intro w1 hS R hR; have hc := hS.cells; simp only [Cells] at hc; obtain ⟨hco, hfo⟩ := bcell hS.old; go_simp; (try go_bits); first | exact hR _ hS | fail)); simp only [Act.put, List.setIfInBounds_toArray, List.set_cons_zero, List.set_cons_succ]) | (refine wpSteady_pass ?_ ?_; (focus rfl); simp only [Act.put, List.setIfInBounds_toArray, List.set_cons_zero, List.set_cons_succ]))
          refine wpSteady_nil (fun uA hSA => ?_)
          have hcA := hSA.cells; have hbA := hSA.old; have hzA := hSA.size; clear hSA; simp only [Cells] at hcA; obtain ⟨hcoA, hfoA⟩ := bcell hbA
          go_wp2
          go_roundw
          case rel => exact ⟨k + 1, by omega, by go_num, hgo.out, hbr.trans (hbA.mono zr)⟩
          case measure => simp [intOf]; omega
      · obtain rfl : k = n := by omega
        have e1 : xs.drop k = [] := List.drop_eq_nil_of_le (by have := en.out; omega)
        have e2 : ys.drop k = [] := List.drop_eq_nil_of_le (by have := em.out; omega)
        rw [e1, e2] at hgo
        clear e1 e2
        have hgo : true = res := hgo
        subst hgo
        go_wp2
        go_ret
        exact ⟨rfl, hbr⟩
  · rw [sameL_len (by rw [en, em]; exact hnm)]
    rw [en] at hmax1 ⊢
    rw [em] at hmax2 ⊢
    have hni : ¬ (n : Int) = m := by omega
    clear o1 o2
    go_enter Try.func40, Try.ntmps40
    go_wp2
    go_ret
    exact ⟨rfl, (by repeat (first | exact Below.refl _ _ | assumption | refine Below.drew ?_ | refine Below.alloc ?_ (by (try simp) <;> omega) _ | refine Below.setCell ?_ (by (try simp) <;> omega) _))⟩
theorem lsame_any (xs ys : List St) (v1 v2 : Value) (w : World) (h1 : Row w.heap.size 15 St.enc w v1 xs) (h2 : Row w.heap.size 15 St.enc w v2 ys) (hmany : xs.length ≤ 40000) (hmany2 : ys.length ≤ 40000) : Calls Try.prog 13 #[v1, v2] w fun e w' => e = .returned (.bool (sameL xs ys)) ∧ Below w.heap.size w w' := by
  have A := equal_any xs ys v1 v2 w h1 h2 hmany hmany2
  replace A := Lib.hid A
  clear h1 h2
  go_enter Try.func13, Try.ntmps13
  go_wp2_with (first
    | (go_at_call 40; (with_reducible refine (A.out).mono ?_); rintro e w3 ⟨rfl, hb3⟩)
    | go_in)
  go_ret
  exact ⟨rfl, hb3⟩
end
section
set_option linter.unusedSimpArgs false
set_option linter.unusedVariables false
def cl (n : Int) : Int := min (max n (-32769)) 32769
def mvR (px py : Int) (q : Re) : Re := ⟨q.x + cl px, q.y + cl py, q.wd, q.ht⟩
def mvS (px py : Int) (s : St) : St := if s.kind = 5 then s else ⟨s.kind, mvR px py s.rect, s.col, s.back, s.text, s.node⟩
def okL (px py : Int) (xs : List St) : Bool := xs.all fun s => mayR (mvS px py s).rect
def mvE (px py : Int) (xs : List St) : Int := if chkL xs ≠ 0 then chkL xs else if okL px py xs then 0 else 9
def mvL (px py : Int) (xs : List St) : List St := if mvE px py xs = 0 then xs.map (mvS px py) else []
theorem mv_a {px py : Int} {xs : List St} (h : chkL xs ≠ 0) : mvE px py xs = chkL xs ∧ mvL px py xs = [] := by
  have e : mvE px py xs = chkL xs := by unfold mvE; rw [if_pos h]
  exact ⟨e, by unfold mvL; rw [if_neg (by rw [e]; exact h)]⟩
theorem mv_b {px py : Int} {xs : List St} (h : chkL xs = 0) (h2 : okL px py xs = false) : mvE px py xs = 9 ∧ mvL px py xs = [] := by
  have e : mvE px py xs = 9 := by unfold mvE; rw [if_neg (by simp [h]), h2]; rfl
  exact ⟨e, by unfold mvL; rw [if_neg (by rw [e]; decide)]⟩
theorem mv_c {px py : Int} {xs : List St} (h : chkL xs = 0) (h2 : okL px py xs = true) : mvE px py xs = 0 ∧ mvL px py xs = xs.map (mvS px py) := by
  have e : mvE px py xs = 0 := by unfold mvE; rw [if_neg (by simp [h]), h2]; rfl
  exact ⟨e, by unfold mvL; rw [if_pos e]⟩
theorem ok_not {px py : Int} {xs : List St} {k : Nat} {s : St} (hs : xs[k]? = some s) (h : mayR (mvS px py s).rect = false) : okL px py xs = false := by
  unfold okL
  rw [List.all_eq_false]
  exact ⟨s, List.mem_of_getElem? hs, by rw [h]; decide⟩
theorem ok_all {px py : Int} {xs : List St} (h : ∀ (j : Nat) s, xs[j]? = some s → mayR (mvS px py s).rect = true) : okL px py xs = true := by
  unfold okL
  rw [List.all_eq_true]
  intro s hs
  obtain ⟨j, hj, e⟩ := List.mem_iff_getElem.1 hs
  exact h j s (by rw [List.getElem?_eq_getElem hj, e])
theorem go_mem (xs : List St) : ∀ (o : Int), chkGo o xs = 0 → ∀ s ∈ xs, errS s = 0 := by
  induction xs with
  | nil => intro o h s hs; simp at hs
  | cons x xs ih =>
    intro o h s hs
    simp only [chkGo] at h
    by_cases h1 : errS x = 0
    · rw [if_neg (by simp [h1])] at h
      by_cases h2 : opn o x < 0
      · rw [if_pos h2] at h; exact absurd h (by decide)
      · rw [if_neg h2] at h
        rcases List.mem_cons.1 hs with rfl | hs
        · exact h1
        · exact ih _ h s hs
    · rw [if_pos h1] at h; exact absurd h h1
theorem chk_mem {xs : List St} (h : chkL xs = 0) (s : St) (hs : s ∈ xs) : errS s = 0 := by
  unfold chkL at h
  split at h
  · exact absurd h (by decide)
  · exact go_mem xs 0 h s hs
theorem err_may {s : St} (h : errS s = 0) : mayR s.rect = true := by
  unfold errS at h
  split at h
  · cases h
  · split at h
    · assumption
    · cases h
theorem err_open {s : St} (h : errS s = 0) (h5 : s.kind = 5) : s.rect = ⟨0, 0, 0, 0⟩ := by
  unfold errS at h
  split at h
  · cases h
  · rename_i hh
    have h2 : mis2 s = false := by
      cases hm : mis2 s
      · rfl
      · exact absurd (by rw [hm, Bool.or_true]) hh
    unfold mis2 at h2
    rw [h5] at h2
    cases hr : s.rect.eqb Re.none
    · rw [hr] at h2; simp at h2
    · unfold Re.eqb at hr
      obtain ⟨a, b, c, d⟩ := eq4_iff.1 hr
      cases hq : s.rect with
      | mk x y wd ht =>
        rw [hq] at a b c d
        simp only [Re.none] at a b c d
        rw [a, b, c, d]
theorem may_not {q : Re} (h : q.x < -16384 ∨ 16384 < q.x ∨ q.y < -16384 ∨ 16384 < q.y) : mayR q = false := by
  cases e : mayR q
  · rfl
  · have := may_bd e; omega
def farB (px py : Int) : Prop := px > 32768 ∨ px < -32768 ∨ py > 32768 ∨ py < -32768
theorem cl_bd (n : Int) : -32769 ≤ cl n ∧ cl n ≤ 32769 := by unfold cl; omega
theorem far_not {px py : Int} {s : St} (h : farB px py) (h1 : errS s = 0) (h5 : s.kind ≠ 5) : mayR (mvS px py s).rect = false := by
  have hb := may_bd (err_may h1)
  unfold mvS
  rw [if_neg h5]
  apply may_not
  simp only [mvR, cl]
  unfold farB at h
  omega
theorem near_cl {px py : Int} (h : ¬ farB px py) : cl px = px ∧ cl py = py := by
  unfold farB at h; unfold cl; omega
theorem open_may {px py : Int} {s : St} (h1 : errS s = 0) (h5 : s.kind = 5) : mayR (mvS px py s).rect = true := by
  unfold mvS
  rw [if_pos h5]
  exact err_may h1
theorem own_smem {w : World} {base g n cap k : Nat} {xs : List St} {s : St} (h : Owns base w (.slice (some ⟨g, 0, none⟩) n cap) xs) (hs : xs[k]? = some s) : SMem w g (k * 15) s := by
  obtain ⟨b, o, cap', e, _, _, _, hx⟩ := row_st (h.row (Nat.le_refl _)) (by have := (List.getElem?_eq_some_iff.1 hs).1; omega)
  injection e with e _ _
  injection e with e
  injection e with e1 e2 _
  subst e1
  subst e2
  have := hx k s hs
  rwa [Nat.zero_add] at this
theorem own_free {w : World} {base g n cap : Nat} {e : TypeId} {sz : Nat} {cs : List Value} (h : w.ownsRow base e sz (.slice (some ⟨g, 0, none⟩) n cap) n cs) (o : Nat) : w.frozen? ⟨g, o, none⟩ = false := by
  rcases h.2 with ⟨h0, _⟩ | ⟨g', cap', cur, hv, hg, hh, _⟩
  · cases h0
  · injection hv with hv _ hc
    injection hv with hv
    injection hv with hv _ _
    subst hv
    simp [World.frozen?, hh]
end
section
set_option linter.unusedSimpArgs false
set_option linter.unusedVariables false
theorem take_snoc {α β : Type} (f : α → β) {xs : List α} {k : Nat} {x : α} (h : xs[k]? = some x) : (xs.take (k + 1)).map f = (xs.take k).map f ++ [f x] := by
  obtain ⟨hk, e⟩ := List.getElem?_eq_some_iff.1 h
  rw [List.take_add_one, List.getElem?_eq_getElem hk, e]
  simp
theorem flat_snoc {l : List St} {t : St} {cs : List Value} (h : cs = t.enc) : l.flatMap St.enc ++ cs = (l ++ [t]).flatMap St.enc := by
  subst h
  rw [List.flatMap_append]
  simp
theorem mvS_ne {px py : Int} {s : St} (h : s.kind ≠ 5) : mvS px py s = ⟨s.kind, ⟨s.rect.x + cl px, s.rect.y + cl py, s.rect.wd, s.rect.ht⟩, s.col, s.back, s.text, s.node⟩ := by unfold mvS; rw [if_neg h]; rfl
theorem mvS_eq {px py : Int} {s : St} (h : s.kind = 5) : mvS px py s = s := by unfold mvS; rw [if_pos h]
set_option maxHeartbeats 2000000 in
set_option maxRecDepth 100000 in
theorem rmoved_any (xs : List St) (v1 : Value) (px py : Int) (w : World) (h1 : Row w.heap.size 15 St.enc w v1 xs) (k1 : ∀ s ∈ xs, s.Wf) (hpx : I64 px) (hpy : I64 py) : Calls Try.prog 11 #[v1, .agg #[.int .i64 px, .int .i64 py]] w (OutU w.heap.size (mvL px py xs) (mvE px py xs) w) := by
  obtain ⟨iM, hi0, hm0, hm1, hm2⟩ := info_parts infoSt
  have C1 := fun w' (hb : Below w.heap.size w w') => rcheck_any xs v1 w' ((h1.below hb).mono hb.size) k1
  obtain ⟨s1, cc1, rfl, hmax1⟩ := h1.shape
  have hopen := fun h0 => row_st h1 h0
  clear h1
  obtain ⟨n, en⟩ : ∃ n, xs.length = n := ⟨_, rfl⟩
  obtain ⟨eR, hR1⟩ : ∃ e, mvE px py xs = e := ⟨_, rfl⟩
  obtain ⟨lR, hR2⟩ : ∃ l, mvL px py xs = l := ⟨_, rfl⟩
  rw [hR1, hR2]
  replace hR1 := Lib.hid hR1
  replace hR2 := Lib.hid hR2
  obtain ⟨px0, px1⟩ := hpx
  obtain ⟨py0, py1⟩ := hpy
  by_cases c1 : chkL xs = 0
  · have l1 := chk_len c1
    have hz := fun s hs => chk_mem c1 s hs
    rw [c1] at C1
    rw [en] at l1 hopen hmax1 C1 ⊢
    replace C1 := Lib.hid C1
    replace hopen := Lib.hid hopen
    replace en := Lib.hid en
    replace hz := Lib.hid hz
    replace k1 := Lib.hid k1
    replace c1 := Lib.hid c1
    have bX := cl_bd px
    have bY := cl_bd py
    obtain ⟨X, hX⟩ : ∃ X, cl px = X := ⟨_, rfl⟩
    obtain ⟨Y, hY⟩ : ∃ Y, cl py = Y := ⟨_, rfl⟩
    rw [hX] at bX
    rw [hY] at bY
    obtain ⟨X0, X1⟩ := bX
    obtain ⟨Y0, Y1⟩ := bY
    have mX : min (max px (-32769)) 32769 = X := hX
    have mY : min (max py (-32769)) 32769 = Y := hY
    replace hX := Lib.hid hX
    replace hY := Lib.hid hY
    go_enter Try.func11, Try.ntmps11
    go_wp2_with (first
      | (go_at_call 36; (with_reducible refine (C1.out _ (by repeat (first | exact Below.refl _ _ | assumption | refine Below.drew ?_ | refine Below.alloc ?_ (by (try simp) <;> omega) _ | refine Below.setCell ?_ (by (try simp) <;> omega) _ | (refine Below.trans ?_ (Below.mono (by assumption) (by (try simp) <;> omega)))))).mono ?_); rintro e w3 ⟨rfl, hb3⟩; have z3 := hb3.size; (try simp at z3); obtain ⟨hc3, hf3⟩ := bcell hb3; have lt3 : w.heap.size < w3.heap.size := (by omega))
      | go_in)
    refine wp_region_steady (Held w3 0 []) (by kernel_rfl) (by kernel_rfl) ⟨(by repeat (first | exact Below.refl _ _ | assumption | refine Below.drew ?_ | refine Below.alloc ?_ (by (try simp) <;> omega) _ | refine Below.setCell ?_ (by (try simp) <;> omega) _ | (refine Below.trans ?_ (Below.mono (by assumption) (by (try simp) <;> omega))))), (by (try simp) <;> omega), (by first | exact trivial | (simp only [Cells]; go_simp))⟩ ?_
    repeat (first | (refine' wpSteady_do _ _ _; rotate_left; (focus rfl); (focus (intro w1 hS R hR; have hc := hS.cells; simp only [Cells] at hc; obtain ⟨hco, hfo⟩ := bcell hS.old; go_simp; (try go_bits); first | exact hR _ hS | fail)); simp only [Act.put, List.setIfInBounds_toArray, List.set_cons_zero, List.set_cons_succ]) | (refine wpSteady_pass ?_ ?_; (focus rfl); simp only [Act.put, List.setIfInBounds_toArray, List.set_cons_zero, List.set_cons_succ]))
    refine wpSteady_nil (fun uA hSA => ?_)
    have hcA := hSA.cells; have hbA := hSA.old; have hzA := hSA.size; clear hSA; simp only [Cells] at hcA; obtain ⟨hcoA, hfoA⟩ := bcell hbA
    clear mX mY
    have hbA3 : Below w.heap.size w uA := (by repeat (first | exact Below.refl _ _ | assumption | refine Below.drew ?_ | refine Below.alloc ?_ (by (try simp) <;> omega) _ | refine Below.setCell ?_ (by (try simp) <;> omega) _ | (refine Below.trans ?_ (Below.mono (by assumption) (by (try simp) <;> omega)))))
    go_wp2
    clear hcA hcoA hfoA hbA hzA hc3 hf3 lt3 z3 hb3
    go_loopw [9, 10] (fun v i wr => ∃ k : Nat, k ≤ n ∧ i = .int .i64 k ∧ wr.ownsRow w.heap.size 45 15 v k (((xs.take k).map (mvS px py)).flatMap St.enc) ∧ (∀ (j : Nat) s, j < k → xs[j]? = some s → mayR (mvS px py s).rect = true) ∧ Below w.heap.size w wr) (fun _ i _ => n - (intOf i).toNat)
    case atStart => exact ⟨0, Nat.zero_le _, rfl, World.ownsRow_nil _ _ _ _, (fun _ _ h => absurd h (Nat.not_lt_zero _)), hbA3⟩
    case round =>
      obtain ⟨k, hk, rfl, hown, hall, hbr⟩ := hrel
      have zr := hbr.size
      obtain ⟨hcr, hfr⟩ := bcell hbr
      by_cases hkn : k < n
      · obtain ⟨b, p, cap', e, hb, _, _, hel⟩ := hopen.out (by omega)
        simp at e
        obtain ⟨rfl, rfl⟩ := e
        obtain ⟨s, hs⟩ : ∃ s, xs[k]? = some s := ⟨xs[k]'(by have := en.out; omega), List.getElem?_eq_getElem _⟩
        obtain ⟨g0, g1, g2, g3, g4, g5, g6, g7, g8, g9, g10, g11, g12, g13, g14⟩ := hel k s hs
        have hkk : (k : Int) < n := by omega
        have yb : b < wr.heap.size := by omega
        have hzs := hz.out s (List.mem_of_getElem? hs)
        have hws := (k1.out s (List.mem_of_getElem? hs)).2.1
        have hsn := take_snoc (mvS px py) hs
        have hno := ok_not (px := px) (py := py) hs
        have hmay := err_may hzs
        obtain ⟨b0, b1, b2, b3, _⟩ := may_bd hmay
        have hall' : mayR (mvS px py s).rect = true → (∀ (j : Nat) t, j < k + 1 → xs[j]? = some t → mayR (mvS px py t).rect = true) := fun hm j t hj ht => by
          rcases Nat.lt_succ_iff_lt_or_eq.1 hj with hj | rfl
          · exact hall j t hj ht
          · rw [hs] at ht; obtain rfl := Option.some.inj ht; exact hm
        replace hall' := Lib.hid hall'
        clear hel hs hall
        by_cases q5 : s.kind = 5
        · have hm := open_may (px := px) (py := py) hzs q5
          have hmv := mvS_eq (px := px) (py := py) q5
          have M := fun w => may_any s.rect w hws
          rw [hmay] at M
          replace hall' := hall'.out hm
          rw [hmv] at hsn
          have hcs : [.int .u8 5, .int .i64 s.rect.x, .int .i64 s.rect.y, .int .i64 s.rect.wd, .int .i64 s.rect.ht, .int .u8 s.col.r, .int .u8 s.col.g, .int .u8 s.col.b, .int .u8 s.col.a, .int .u8 s.back.r, .int .u8 s.back.g, .int .u8 s.back.b, .int .u8 s.back.a, .string s.text, .int .i64 s.node] = s.enc := by rw [← q5]; rfl
          replace hcs := Lib.hid hcs
          replace hall' := Lib.hid hall'
          replace M := Lib.hid M
          replace hsn := Lib.hid hsn
          clear hno hmay hmv hm hzs hws b0 b1 b2 b3
          go_wp2_with (first
            | (go_at_call 39; (with_reducible refine (M.out _).mono ?_); rintro e w4 ⟨rfl, hb4⟩; obtain ⟨hc4, hf4⟩ := bcell hb4; have hz4 := hb4.size; (try simp at hz4); (try have lt4 : w.heap.size < w4.heap.size := (by omega)))
            | (at_builtin; refine wpList_append_new rfl _ _ _ rfl w.heap.size 45 iM _ 15 72 Try.underlying22 hi0 hm0 hm1 hm2 rfl (by omega) w4 1 _ _ _ _ (by rfl) (ownsRow_below hown (show Below wr.heap.size wr w4 from (by repeat (first | exact Below.refl _ _ | assumption | refine Below.drew ?_ | refine Below.alloc ?_ (by (try simp) <;> omega) _ | refine Below.setCell ?_ (by (try simp) <;> omega) _ | (refine Below.trans ?_ (Below.mono (by assumption) (by (try simp) <;> omega)))))) (Nat.le_refl _)) (by rfl) rfl (by simp [Value.oneCell']) (by omega) (by unfold maxLen; omega) (by omega) ?_; intro v5 w5 hown5 hb5)
            | go_in)
          have hb05 : Below w.heap.size w w5 := (hbr.trans ((show Below wr.heap.size wr w4 from (by repeat (first | exact Below.refl _ _ | assumption | refine Below.drew ?_ | refine Below.alloc ?_ (by (try simp) <;> omega) _ | refine Below.setCell ?_ (by (try simp) <;> omega) _ | (refine Below.trans ?_ (Below.mono (by assumption) (by (try simp) <;> omega)))))).mono zr)).trans hb5
          rw [flat_snoc hcs.out, ← hsn.out] at hown5
          replace hown5 := Lib.hid hown5
          go_wp2
          go_roundw
          case rel => exact ⟨k + 1, by omega, by go_num, hown5.out, hall'.out, hb05⟩
          case measure => simp [intOf]; omega
        · have hmv := mvS_ne (px := px) (py := py) q5
          rw [hX.out, hY.out] at hmv
          have M := fun w => may_any ⟨s.rect.x + X, s.rect.y + Y, s.rect.wd, s.rect.ht⟩ w ⟨⟨by simp only; omega, by simp only; omega⟩, ⟨by simp only; omega, by simp only; omega⟩, hws.2.2.1, hws.2.2.2⟩
          simp only at M
          have hmr : mayR (mvS px py s).rect = mayR ⟨s.rect.x + X, s.rect.y + Y, s.rect.wd, s.rect.ht⟩ := by rw [hmv]
          rw [hmr] at hno hall'
          rw [hmv] at hsn
          have hcs : [.int .u8 s.kind, .int .i64 (s.rect.x + X), .int .i64 (s.rect.y + Y), .int .i64 s.rect.wd, .int .i64 s.rect.ht, .int .u8 s.col.r, .int .u8 s.col.g, .int .u8 s.col.b, .int .u8 s.col.a, .int .u8 s.back.r, .int .u8 s.back.g, .int .u8 s.back.b, .int .u8 s.back.a, .string s.text, .int .i64 s.node] = St.enc ⟨s.kind, ⟨s.rect.x + X, s.rect.y + Y, s.rect.wd, s.rect.ht⟩, s.col, s.back, s.text, s.node⟩ := rfl
          replace hcs := Lib.hid hcs
          replace hsn := Lib.hid hsn
          clear hmay hzs hws hmv hmr
          cases hm : mayR ⟨s.rect.x + X, s.rect.y + Y, s.rect.wd, s.rect.ht⟩
          · rw [hm] at M
            have hf := hno hm
            obtain ⟨e1, e2⟩ := mv_b (px := px) (py := py) c1.out hf
            rw [hR1.out] at e1
            rw [hR2.out] at e2
            subst e1
            subst e2
            replace M := Lib.hid M
            clear hno hf hm hall'
            go_wp2_with (first
              | (go_at_call 39; (with_reducible refine (M.out _).mono ?_); rintro e w4 ⟨rfl, hb4⟩; obtain ⟨hc4, hf4⟩ := bcell hb4; have hz4 := hb4.size; (try simp at hz4); (try have lt4 : w.heap.size < w4.heap.size := (by omega)))
              | go_in)
            go_ret2
            exact ⟨hbr.trans ((show Below wr.heap.size wr w4 from (by repeat (first | exact Below.refl _ _ | assumption | refine Below.drew ?_ | refine Below.alloc ?_ (by (try simp) <;> omega) _ | refine Below.setCell ?_ (by (try simp) <;> omega) _ | (refine Below.trans ?_ (Below.mono (by assumption) (by (try simp) <;> omega)))))).mono zr), _, rfl, Owns.nil _ _⟩
          · rw [hm] at M
            replace hall' := hall'.out hm
            replace hall' := Lib.hid hall'
            replace M := Lib.hid M
            clear hno hm
            go_wp2_with (first
              | (go_at_call 39; (with_reducible refine (M.out _).mono ?_); rintro e w4 ⟨rfl, hb4⟩; obtain ⟨hc4, hf4⟩ := bcell hb4; have hz4 := hb4.size; (try simp at hz4); (try have lt4 : w.heap.size < w4.heap.size := (by omega)))
              | (at_builtin; refine wpList_append_new rfl _ _ _ rfl w.heap.size 45 iM _ 15 72 Try.underlying22 hi0 hm0 hm1 hm2 rfl (by omega) w4 1 _ _ _ _ (by rfl) (ownsRow_below hown (show Below wr.heap.size wr w4 from (by repeat (first | exact Below.refl _ _ | assumption | refine Below.drew ?_ | refine Below.alloc ?_ (by (try simp) <;> omega) _ | refine Below.setCell ?_ (by (try simp) <;> omega) _ | (refine Below.trans ?_ (Below.mono (by assumption) (by (try simp) <;> omega)))))) (Nat.le_refl _)) (by rfl) rfl (by simp [Value.oneCell']) (by omega) (by unfold maxLen; omega) (by omega) ?_; intro v5 w5 hown5 hb5)
              | go_in)
            have hb05 : Below w.heap.size w w5 := (hbr.trans ((show Below wr.heap.size wr w4 from (by repeat (first | exact Below.refl _ _ | assumption | refine Below.drew ?_ | refine Below.alloc ?_ (by (try simp) <;> omega) _ | refine Below.setCell ?_ (by (try simp) <;> omega) _ | (refine Below.trans ?_ (Below.mono (by assumption) (by (try simp) <;> omega)))))).mono zr)).trans hb5
            rw [flat_snoc hcs.out, ← hsn.out] at hown5
            replace hown5 := Lib.hid hown5
            go_wp2
            go_roundw
            case rel => exact ⟨k + 1, by omega, by go_num, hown5.out, hall'.out, hb05⟩
            case measure => simp [intOf]; omega
      · obtain rfl : k = n := by omega
        have htk : xs.take k = xs := List.take_of_length_le (by have := en.out; omega)
        rw [htk] at hown
        have hok : okL px py xs = true := ok_all fun j s hs => hall j s (by have := (List.getElem?_eq_some_iff.1 hs).1; have := en.out; omega) hs
        obtain ⟨e1, e2⟩ := mv_c (px := px) (py := py) c1.out hok
        rw [hR1.out] at e1
        rw [hR2.out] at e2
        subst e1
        subst e2
        replace hown := Lib.hid hown
        clear hok htk hall
        go_wp2
        go_ret2
        refine ⟨hbr, _, rfl, ?_⟩
        unfold Owns
        rw [List.length_map, en.out]
        exact hown.out
  · have hcb : (chkL xs == 0) = false := by simp [c1]
    obtain ⟨e1, e2⟩ := mv_a (px := px) (py := py) c1
    rw [hR1.out] at e1
    rw [hR2.out] at e2
    subst e1
    subst e2
    rw [en] at C1 ⊢
    replace C1 := Lib.hid C1
    clear c1 hopen
    go_enter Try.func11, Try.ntmps11
    go_wp2_with (first
      | (go_at_call 36; (with_reducible refine (C1.out _ (by repeat (first | exact Below.refl _ _ | assumption | refine Below.drew ?_ | refine Below.alloc ?_ (by (try simp) <;> omega) _ | refine Below.setCell ?_ (by (try simp) <;> omega) _ | (refine Below.trans ?_ (Below.mono (by assumption) (by (try simp) <;> omega)))))).mono ?_); rintro e w3 ⟨rfl, hb3⟩; have z3 := hb3.size; (try simp at z3))
      | go_in)
    go_ret2
    exact ⟨(by repeat (first | exact Below.refl _ _ | assumption | refine Below.drew ?_ | refine Below.alloc ?_ (by (try simp) <;> omega) _ | refine Below.setCell ?_ (by (try simp) <;> omega) _ | (refine Below.trans ?_ (Below.mono (by assumption) (by (try simp) <;> omega))))), _, rfl, Owns.nil _ _⟩
end
section
set_option linter.unusedSimpArgs false
set_option linter.unusedVariables false
def mark : St := ⟨0, ⟨0, 0, 0, 0⟩, ⟨0, 0, 0, 0⟩, ⟨0, 0, 0, 0⟩, ⟨#[]⟩, 77⟩
set_option maxRecDepth 100000 in
theorem own_any (xs : List St) (v : Value) (w : World) (hl : Row w.heap.size 15 St.enc w v xs) (hm : xs.length ≤ 20000) : Calls Try.prog 7 #[v] w fun e w' => ∃ v', e = .returned v' ∧ Owns w.heap.size w' v' (xs ++ [mark]) ∧ Below w.heap.size w w' := by
  obtain ⟨iM, hi0, hm0, hm1, hm2⟩ := info_parts infoSt
  obtain ⟨s, cap, rfl, hmax⟩ := hl.shape
  have hnil : World.ownsRow w w.heap.size 45 15 (.slice none 0 0) 0 [] := World.ownsRow_nil _ _ _ _
  have hcs : [.int .u8 0, .int .i64 0, .int .i64 0, .int .i64 0, .int .i64 0, .int .u8 0, .int .u8 0, .int .u8 0, .int .u8 0, .int .u8 0, .int .u8 0, .int .u8 0, .int .u8 0, .string ⟨#[]⟩, .int .i64 77] = mark.enc := rfl
  obtain ⟨n, en⟩ : ∃ n, xs.length = n := ⟨_, rfl⟩
  replace hl := Lib.hid hl
  replace hcs := Lib.hid hcs
  go_enter Try.func7, Try.ntmps7
  go_wp2_with (first
    | (at_builtin; refine wpList_append_row rfl _ _ _ rfl w.heap.size 45 iM _ 15 72 Try.underlying22 hi0 hm0 hm1 hm2 rfl (by omega) w _ _ _ (by rfl) hnil St.enc_len St.enc_one w.heap.size _ xs hl.out (by rfl) (by unfold maxLen; omega) (by omega) (Nat.le_refl _) ?_; intro v3 w3 hown3 hgr3)
    | (have hb3 : Below w.heap.size w w3 := (Below.refl _ _).grown hgr3 (Nat.le_refl _) (fun k hk => by simp [Value.ownBlock] at hk); (at_builtin; refine wpList_append_new rfl _ _ _ rfl w.heap.size 45 iM _ 15 72 Try.underlying22 hi0 hm0 hm1 hm2 rfl (by omega) w3 1 _ _ _ _ (by rfl) hown3 (by rfl) rfl (by simp [Value.oneCell']) (by omega) (by unfold maxLen; omega) hgr3.size ?_; intro v4 w4 hown4 hb4))
    | go_in)
  have hb3 : Below w.heap.size w w3 := (Below.refl _ _).grown hgr3 (Nat.le_refl _) (fun k hk => by simp [Value.ownBlock] at hk)
  rw [Nat.zero_add, List.nil_append, flat_snoc hcs.out] at hown4
  replace hown4 := Lib.hid hown4
  go_wp2
  go_ret
  refine ⟨_, rfl, ?_, hb3.trans hb4⟩
  unfold Owns
  rw [List.length_append]
  exact hown4.out
/-- The copy, cut to what it copied. -/
theorem row_cut {B : Nat} {w : World} {s : Option Addr} {n cap : Nat} {xs ys : List St} (h : Row B 15 St.enc w (.slice s (xs ++ ys).length cap) (xs ++ ys)) (hn : xs.length = n) : Row B 15 St.enc w (.slice s n cap) xs := by
  obtain ⟨s', cap', e, hl, hc, h⟩ := h
  injection e with e1 _ e2
  subst e1
  subst e2
  refine ⟨s, cap, by rw [hn], by rw [List.length_append] at hl; omega, hc, fun h0 => ?_⟩
  obtain ⟨b, o, hs, hlt, hx⟩ := h (by rw [List.length_append]; omega)
  refine ⟨b, o, hs, hlt, fun j x hj => hx j x ?_⟩
  rw [List.getElem?_append_left (List.getElem?_eq_some_iff.1 hj).1]
  exact hj
attribute [local go_sem high] eql_stroke
set_option maxHeartbeats 1000000 in
set_option maxRecDepth 100000 in
theorem kept_any (xs : List St) (v v2 : Value) (w : World) (hn : Row w.heap.size 15 St.enc w v (xs ++ [mark])) (hl : Row w.heap.size 15 St.enc w v2 xs) (hm : xs.length ≤ 20000) : Calls Try.prog 15 #[v, v2] w fun e w' => e = .returned (.bool true) ∧ Below w.heap.size w w' := by
  obtain ⟨b, o, cap, rfl, hb, hcap, hcm, hx⟩ := row_st hn (by simp)
  obtain ⟨s, cap2, rfl, hmax⟩ := hl.shape
  obtain ⟨n, en⟩ : ∃ n, xs.length = n := ⟨_, rfl⟩
  have hlen : (xs ++ [mark]).length = n + 1 := by simp [en]
  have hcut : Row w.heap.size 15 St.enc w (.slice (some ⟨b, o, none⟩) n cap) xs := row_cut hn en
  obtain ⟨g0, g1, g2, g3, g4, g5, g6, g7, g8, g9, g10, g11, g12, g13, g14⟩ := hx n mark (by rw [List.getElem?_append_right (by omega), en, Nat.sub_self]; rfl)
  simp only [mark] at g0 g1 g2 g3 g4 g5 g6 g7 g8 g9 g10 g11 g12 g13 g14
  have S := rsame_any xs xs _ _ w hcut hl (by omega) (by omega)
  rw [sameL_refl] at S
  have hEq : St.eqb ⟨0, ⟨0, 0, 0, 0⟩, ⟨0, 0, 0, 0⟩, ⟨0, 0, 0, 0⟩, ⟨#[]⟩, 77⟩ ⟨0, ⟨0, 0, 0, 0⟩, ⟨0, 0, 0, 0⟩, ⟨0, 0, 0, 0⟩, ⟨#[]⟩, 77⟩ = true := St.eqb_refl _
  rw [hlen] at hcap ⊢
  rw [en] at S hm ⊢
  clear hx hl hn hcut hlen
  replace S := Lib.hid S
  replace en := Lib.hid en
  have n1 : (n : Int) + 1 ≤ cap := by omega
  have n2 : (n : Int) < n + 1 := by omega
  unfold maxLen at hcm
  go_enter Try.func15, Try.ntmps15
  go_wp2_with (first
    | (go_at_call 12; (with_reducible refine (S.out).mono ?_); rintro e w3 ⟨rfl, hb3⟩)
    | go_in)
  go_ret
  exact ⟨rfl, hb3⟩
end
section
set_option linter.unusedSimpArgs false
set_option linter.unusedVariables false
def Spo (w wr : World) (g n : Nat) : Prop := (∃ cur, wr.heap[g]? = some (.cells cur 45 (0, 0)) ∧ n * 15 ≤ cur.size) ∧ w.grownBy wr (some g)
theorem Spo.set {w wr : World} {g n : Nat} (h : Spo w wr g n) (o : Nat) (u : Value) : Spo w (wr.setCell ⟨g, o, none⟩ u) g n := by
  obtain ⟨⟨cur, hh, hs⟩, hg⟩ := h
  refine ⟨⟨_, heap_setCell_same _ _ _ _ _ _ hh, by simpa using hs⟩, hg.os, hg.tape, hg.output, by simpa using hg.size, fun k hk hne => ?_⟩
  rw [heap_setCell_other _ _ _ _ (fun e => hne (by simpa using congrArg some e))]
  exact hg.block k hk hne
theorem Spo.cell {w wr : World} {g n : Nat} (h : Spo w wr g n) {o : Nat} (ho : o < n * 15) : ∃ u, wr.cell? ⟨g, o, none⟩ = some u := by
  obtain ⟨⟨cur, hh, hs⟩, _⟩ := h
  refine ⟨cur[o]'(by omega), ?_⟩
  simp only [World.cell?, hh]
  simp [Array.getElem?_eq_getElem (show o < cur.size by omega)]
theorem Spo.free {w wr : World} {g n : Nat} (h : Spo w wr g n) (o : Nat) : wr.frozen? ⟨g, o, none⟩ = false := by
  obtain ⟨⟨cur, hh, hs⟩, _⟩ := h
  simp [World.frozen?, hh]
theorem grown_none {w w' : World} (o : Option Nat) (h : w = w') : w.grownBy w' o := by subst h; exact grown_refl _ _
set_option maxHeartbeats 2000000 in
set_option maxRecDepth 100000 in
theorem spoil_any (base : Nat) (xs : List St) (v : Value) (w : World) (h : Owns base w v xs) (hm : xs.length ≤ 40000) : Calls Try.prog 14 #[v] w fun e w' => e = .returned (.tuple #[]) ∧ w.grownBy w' v.ownBlock := by
  rcases h.2 with ⟨rfl, h0⟩ | ⟨g, cap, cur, rfl, hg, hh, hnc, hcm, hcur, _⟩
  · go_enter Try.func14, Try.ntmps14
    go_wp2
    go_loopw [2] (fun i wr => i = .int .i64 0 ∧ w = wr) (fun i _ => 0)
    case atStart => exact ⟨rfl, rfl⟩
    case round =>
      obtain ⟨rfl, rfl⟩ := hrel
      go_wp2
      exact bodyPost_end (v := .tuple #[]) (by simp [results, Try.results14, go_sem]) rfl ⟨rfl, grown_refl _ _⟩
  · obtain ⟨n, en⟩ : ∃ n, xs.length = n := ⟨_, rfl⟩
    rw [en] at hnc hm ⊢
    have hspo : Spo w w g n := ⟨⟨cur, hh, by rw [hcur]; exact Nat.mul_le_mul_right _ hnc⟩, grown_refl _ _⟩
    clear hh hcur h
    unfold maxLen at hcm
    go_enter Try.func14, Try.ntmps14
    go_wp2
    go_loopw [2] (fun i wr => ∃ k : Nat, k ≤ n ∧ i = .int .i64 k ∧ Spo w wr g n) (fun i _ => n - (intOf i).toNat)
    case atStart => exact ⟨0, Nat.zero_le _, rfl, hspo⟩
    case round =>
      obtain ⟨k, hk, rfl, hsp⟩ := hrel
      by_cases hkn : k < n
      · have hkk : (k : Int) < n := by omega
        have hf := fun o => hsp.free o
        obtain ⟨u0, g0⟩ := hsp.cell (o := k * 15) (by omega)
        obtain ⟨u1, g1⟩ := hsp.cell (o := k * 15 + 1) (by omega)
        obtain ⟨u2, g2⟩ := hsp.cell (o := k * 15 + 2) (by omega)
        obtain ⟨u3, g3⟩ := hsp.cell (o := k * 15 + 3) (by omega)
        obtain ⟨u4, g4⟩ := hsp.cell (o := k * 15 + 4) (by omega)
        obtain ⟨u5, g5⟩ := hsp.cell (o := k * 15 + 5) (by omega)
        obtain ⟨u6, g6⟩ := hsp.cell (o := k * 15 + 6) (by omega)
        obtain ⟨u7, g7⟩ := hsp.cell (o := k * 15 + 7) (by omega)
        obtain ⟨u8, g8⟩ := hsp.cell (o := k * 15 + 8) (by omega)
        obtain ⟨u9, g9⟩ := hsp.cell (o := k * 15 + 9) (by omega)
        obtain ⟨u10, g10⟩ := hsp.cell (o := k * 15 + 10) (by omega)
        obtain ⟨u11, g11⟩ := hsp.cell (o := k * 15 + 11) (by omega)
        obtain ⟨u12, g12⟩ := hsp.cell (o := k * 15 + 12) (by omega)
        obtain ⟨u13, g13⟩ := hsp.cell (o := k * 15 + 13) (by omega)
        obtain ⟨u14, g14⟩ := hsp.cell (o := k * 15 + 14) (by omega)
        replace hsp := Lib.hid hsp
        go_wp2
        go_roundw
        case rel => exact ⟨k + 1, by omega, by go_num, by repeat (first | (with_reducible exact hsp.out) | (with_reducible refine Spo.set ?_ _ _))⟩
        case measure => simp [intOf]; omega
      · obtain rfl : k = n := by omega
        have hgr := hsp.2
        replace hsp := Lib.hid hsp
        replace hgr := Lib.hid hgr
        go_wp2
        exact bodyPost_end (v := .tuple #[]) (by simp [results, Try.results14, go_sem]) rfl ⟨rfl, hgr.out⟩
end
end Go.Proofs.Ytkmofpnefjgnkaa
