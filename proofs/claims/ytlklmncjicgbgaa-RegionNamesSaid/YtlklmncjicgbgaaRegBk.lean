/-
  The program's answers at lists that are not too many; lists that came in; backward.
-/
import Derived.Test.YtlklmncjicgbgaaRegBj
import Derived.Test.YtlklmncjicgbgaaRegPa
namespace Go.Proofs.Ytlklmncjicgbgaa
open Go.RowKit
set_option linter.unusedVariables false
attribute [local go_sem] vwp vUpon_value vUpon_skip vUpon_enter vUpon_row
set_option linter.unusedSimpArgs false
set_option linter.unusedVariables false
theorem list4 {cs : List Value} (h : cs.length = 4) : ∃ a b c d, cs = [a, b, c, d] := by
  match cs, h with
  | [a, b, c, d], _ => exact ⟨a, b, c, d, rfl⟩
section
variable {H : Type} {enc : TypeId × Value → H} {w : World} {base : Nat} {spare : Nat → Bool} {held : Bool}
set_option maxRecDepth 100000 in
theorem open_rects {r : Reach} {b0 : Nat} {v : Value} {d : DataW H} {p : List MemPlace} (hv : Value.okWide Try.prog w r b0 22 v) (h : DataW.Trod enc Try.prog w base spare held 22 v d p) :
    ∃ xs : List Re, Row w.heap.size 4 Re.enc w v xs ∧ ∀ x ∈ xs, x.Wf :=
  open_row Try.underlying22 (by kernel_rfl) (by omega) (fun n cs y hl ht => by
    obtain ⟨a, b, c, d, rfl⟩ := list4 hl
    exact rect_of ht) hv h
end
theorem wf_may {l : List Re} (h : MayL l) : WfL l := fun q hq => may_wf (h q hq)
theorem join_small (a b : List Re) (va vb : Value) (w : World) (ha : Row w.heap.size 4 Re.enc w va a) (hb : Row w.heap.size 4 Re.enc w vb b) (ma : MayL a) (mb : MayL b) (la : a.length ≤ 1024) (lb : b.length ≤ 1024) (R : List Re) (hR : formR a b 1 = R) (lR : R.length ≤ 1024) :
    Calls Try.prog 11 #[va, vb] w (FormPost 0 R w) := by
  have h := join_any a b va vb w ha hb (wf_may ma) (wf_may mb)
  obtain ⟨e1, e2⟩ := both_of (what := 1) ma mb la lb (by rw [hR]; exact lR)
  rw [e1, e2, hR] at h
  exact h
theorem meet_small (a b : List Re) (va vb : Value) (w : World) (ha : Row w.heap.size 4 Re.enc w va a) (hb : Row w.heap.size 4 Re.enc w vb b) (ma : MayL a) (mb : MayL b) (la : a.length ≤ 1024) (lb : b.length ≤ 1024) (R : List Re) (hR : formR a b 2 = R) (lR : R.length ≤ 1024) :
    Calls Try.prog 12 #[va, vb] w (FormPost 0 R w) := by
  have h := meet_any a b va vb w ha hb (wf_may ma) (wf_may mb)
  obtain ⟨e1, e2⟩ := both_of (what := 2) ma mb la lb (by rw [hR]; exact lR)
  rw [e1, e2, hR] at h
  exact h
theorem less_small (a b : List Re) (va vb : Value) (w : World) (ha : Row w.heap.size 4 Re.enc w va a) (hb : Row w.heap.size 4 Re.enc w vb b) (ma : MayL a) (mb : MayL b) (la : a.length ≤ 1024) (lb : b.length ≤ 1024) (R : List Re) (hR : formR a b 3 = R) (lR : R.length ≤ 1024) :
    Calls Try.prog 13 #[va, vb] w (FormPost 0 R w) := by
  have h := less_any a b va vb w ha hb (wf_may ma) (wf_may mb)
  obtain ⟨e1, e2⟩ := both_of (what := 3) ma mb la lb (by rw [hR]; exact lR)
  rw [e1, e2, hR] at h
  exact h
theorem of_small (a : List Re) (va : Value) (w : World) (ha : Row w.heap.size 4 Re.enc w va a) (ma : MayL a) (la : a.length ≤ 1024) (R : List Re) (hR : formR a [] 1 = R) (lR : R.length ≤ 1024) :
    Calls Try.prog 22 #[va] w (FormPost 0 R w) := by
  have h := of_any a va w ha (wf_may ma)
  obtain ⟨e1, e2⟩ := both_of (what := 1) ma mayL_nil la (by simp) (by rw [hR]; exact lR)
  rw [e1, e2, hR] at h
  exact h
theorem area_small (a : List Re) (va : Value) (w : World) (ha : Row w.heap.size 4 Re.enc w va a) (ma : MayL a) (la : a.length ≤ 1024) (R : List Re) (hR : formR a [] 1 = R) :
    Calls Try.prog 28 #[va] w fun e w' => e = .returned (.tuple #[.int .i64 (areaM R), .int .i64 0]) ∧ Below w.heap.size w w' := by
  have h := rarea_any a va w ha (wf_may ma)
  rw [chk_of ma la] at h
  unfold areaE at h
  rw [if_pos (chk_of ma la), hR] at h
  exact h
theorem sames_small (a b : List Re) (va vb : Value) (w : World) (ha : Row w.heap.size 4 Re.enc w va a) (hb : Row w.heap.size 4 Re.enc w vb b) (ma : MayL a) (mb : MayL b) (la : a.length ≤ 1024) (lb : b.length ≤ 1024) :
    Calls Try.prog 14 #[va, vb] w fun e w' => e = .returned (.tuple #[.bool (eqRs (formR a [] 1) (formR b [] 1)), .int .i64 0]) ∧ Below w.heap.size w w' := by
  have h := same_any a b va vb w ha hb (wf_may ma) (wf_may mb)
  have e : askR a b = 0 := by unfold askR; rw [if_pos (chk_of ma la), chk_of mb lb]
  rw [e] at h
  unfold samE at h
  rw [if_pos e, same_forms ma.sane mb.sane] at h
  exact h
theorem same_cut (a b : List Re) (va vb : Value) (w : World) (ha : CutR 0 w va a) (hb : CutR 0 w vb b) (la : a.length ≤ 1024) (lb : b.length ≤ 1024) :
    Calls Try.prog 19 #[va, vb] w fun e w' => e = .returned (.bool (eqRs a b)) ∧ Below w.heap.size w w' :=
  same2_any a b va vb w (ha.row (Nat.le_refl _)) (hb.row (Nat.le_refl _)) (by omega) (by omega)
/-- What the errors are. -/
theorem of_err {a : List Re} (la : a.length ≤ 30) : (chkR a = 0 → bothE a [] 1 = 0) ∧ (chkR a ≠ 0 → bothE a [] 1 = chkR a ∧ bothL a [] 1 = []) := by
  constructor
  · intro h
    obtain ⟨ma, _⟩ := chkR_may h
    exact (both_of ma mayL_nil (by omega) (by simp) (form_small 1 ma mayL_nil 30 (by simp; omega) (by omega))).1
  · intro h
    have e : askR a [] = chkR a := by unfold askR; rw [if_neg h]
    unfold bothE bothL
    rw [e, if_neg h, if_neg h]
    exact ⟨rfl, rfl⟩
theorem rev_snoc {a : List Re} {k n : Nat} {q : Re} (hn : a.length = n) (hk : k < n) (hq : a[n - 1 - k]? = some q) : a.reverse.take (k + 1) = a.reverse.take k ++ [q] := by
  rw [List.take_add_one, List.getElem?_reverse (by omega), hn, hq]; rfl
set_option maxHeartbeats 1000000 in
set_option maxRecDepth 100000 in
theorem back_any (a : List Re) (va : Value) (w : World) (ha : Row w.heap.size 4 Re.enc w va a) (la : a.length ≤ 100000) :
    Calls Try.prog 27 #[va] w fun e w' => Below w.heap.size w w' ∧ ∃ v, e = .returned v ∧ OwnsR w.heap.size w' v (backL a) := by
  obtain ⟨iR, hr0, hr1, hr2, hr3⟩ := info_parts infoRe
  obtain ⟨s0, cap, rfl, hmax⟩ := ha.shape
  have hopen := fun h0 => row_re ha h0
  obtain ⟨n, en⟩ : ∃ n, a.length = n := ⟨_, rfl⟩
  rw [en] at hopen hmax la ⊢
  obtain ⟨P, hP⟩ : ∃ P, backL a = P := ⟨_, rfl⟩
  rw [hP]
  replace hopen := Lib.hid hopen
  replace en := Lib.hid en
  replace hP := Lib.hid hP
  clear ha
  go_enter Try.func27, Try.ntmps27
  go_wp2
  go_loopw [3, 4] (fun ov iv wr => ∃ k : Nat, k ≤ n ∧ iv = .int .i64 ((n : Int) - 1 - k) ∧ OwnsR w.heap.size wr ov (a.reverse.take k) ∧ Below w.heap.size w wr) (fun _ iv _ => (intOf iv + 1).toNat)
  case atStart => exact ⟨0, Nat.zero_le _, by simp, OwnsR.nil _ _, Below.refl _ _⟩
  case round =>
    obtain ⟨k, hk, rfl, hown, hbr⟩ := hrel
    have zr := hbr.size
    obtain ⟨hcr, hfr⟩ := bcell hbr
    by_cases hkn : k < n
    · obtain ⟨b, o, cap', e, hb, _, _, hel⟩ := hopen.out (by omega)
      simp at e
      obtain ⟨rfl, rfl⟩ := e
      obtain ⟨q, hq⟩ := get_at (k := n - 1 - k) en.out (by omega)
      obtain ⟨g0, g1, g2, g3⟩ := hel _ q hq
      have hsn := rev_snoc en.out hkn hq
      obtain ⟨j, hj⟩ : ∃ j, n - 1 - k = j := ⟨_, rfl⟩
      rw [hj] at g0 g1 g2 g3
      have hji : (n : Int) - 1 - k = j := by omega
      rw [hji]
      have hj0 : (0 : Int) ≤ j := by omega
      have hjn : (j : Int) < n := by omega
      have yb : b < wr.heap.size := by omega
      have hlen : (a.reverse.take k).length = k := by rw [List.length_take, List.length_reverse]; have := en.out; omega
      unfold OwnsR at hown
      rw [hlen] at hown
      obtain ⟨st0, cap0, rfl⟩ := own_slice hown
      replace hsn := Lib.hid hsn
      replace hlen := Lib.hid hlen
      replace hj := Lib.hid hj
      replace hji := Lib.hid hji
      clear hel hq
      go_wp2_with (first
        | (at_builtin; refine wpList_append_new rfl _ _ _ rfl w.heap.size 49 iR _ 4 32 Try.underlying22 hr0 hr1 hr2 hr3 rfl (by omega) wr 1 _ _ _ _ (by rfl) hown (by rfl) rfl (by simp [Value.oneCell']) (by omega) (by unfold maxLen; omega) (by omega) ?_; intro v6 w6 hown6 hb6)
        | go_in)
      have hb6' : Below w.heap.size w w6 := hbr.trans hb6
      rw [flatR_snoc (t := q) (cs := [.int .i64 q.x, .int .i64 q.y, .int .i64 q.wd, .int .i64 q.ht]) rfl] at hown6
      replace hown6 := Lib.hid hown6
      clear hb6
      go_wp2
      go_roundw
      case rel =>
        refine ⟨k + 1, by omega, ?_, ?_, hb6'⟩
        · have := hji.out
          have e : (j : Int) - 1 = (n : Int) - 1 - ((k + 1 : Nat) : Int) := by omega
          rw [← e]
        · unfold OwnsR
          rw [hsn.out, List.length_append, hlen.out]
          exact hown6.out
      case measure => simp [intOf] <;> omega
    · obtain rfl : k = n := by omega
      rw [show (k : Int) - 1 - k = -1 by omega]
      rw [List.take_of_length_le (by rw [List.length_reverse]; have := en.out; omega)] at hown
      by_cases hk0 : 0 < k
      · obtain ⟨b, o, cap', e, hb, _, _, hel⟩ := hopen.out hk0
        simp at e
        obtain ⟨rfl, rfl⟩ := e
        obtain ⟨q, hq⟩ := get_at (k := 0) en.out hk0
        obtain ⟨g0, g1, g2, g3⟩ := hel 0 q hq
        simp only [Nat.zero_mul, Nat.add_zero] at g0 g1 g2 g3
        have hk0i : (0 : Int) < k := by omega
        have yb : b < wr.heap.size := by omega
        have hlen : a.reverse.length = k := by rw [List.length_reverse]; exact en.out
        have hbk : a.reverse ++ [q] = P := by
          rw [← hP.out]
          unfold backL
          congr 1
          have h1 : a.take 1 = [q] := by
            have := List.take_add_one (l := a) (i := 0)
            rw [hq] at this
            simpa using this
          exact h1.symm
        unfold OwnsR at hown
        rw [hlen] at hown
        obtain ⟨st0, cap0, rfl⟩ := own_slice hown
        replace hbk := Lib.hid hbk
        replace hlen := Lib.hid hlen
        clear hel hq
        go_wp2_with (first
          | (at_builtin; refine wpList_append_new rfl _ _ _ rfl w.heap.size 49 iR _ 4 32 Try.underlying22 hr0 hr1 hr2 hr3 rfl (by omega) wr 1 _ _ _ _ (by rfl) hown (by rfl) rfl (by simp [Value.oneCell']) (by omega) (by unfold maxLen; omega) (by omega) ?_; intro v6 w6 hown6 hb6)
          | go_in)
        have hb6' : Below w.heap.size w w6 := hbr.trans hb6
        rw [flatR_snoc (t := q) (cs := [.int .i64 q.x, .int .i64 q.y, .int .i64 q.wd, .int .i64 q.ht]) rfl, hbk.out] at hown6
        replace hown6 := Lib.hid hown6
        clear hb6
        go_wp2
        go_ret
        refine ⟨hb6', _, rfl, ?_⟩
        unfold OwnsR
        rw [← hbk.out, List.length_append, hlen.out, hbk.out]
        exact hown6.out
      · obtain rfl : k = 0 := by omega
        have hbk : a.reverse = P := by
          rw [← hP.out, List.length_eq_zero_iff.1 en.out]; rfl
        rw [hbk] at hown
        obtain ⟨st0, cap0, rfl⟩ := own_slice hown
        replace hown := Lib.hid hown
        go_wp2
        go_ret
        exact ⟨hbr, _, rfl, hown.out⟩
end Go.Proofs.Ytlklmncjicgbgaa
