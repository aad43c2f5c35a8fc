/-
  The ends of a row's spans; what is wanted; the comparisons.
-/
import Derived.Test.YtlklmncjicgbgaaRegB
import Derived.Deep.DeepCutAuto
namespace Go.Proofs.Ytlklmncjicgbgaa
open Go.RowKit
set_option linter.unusedVariables false
attribute [local go_sem] vwp vUpon_value vUpon_skip vUpon_enter vUpon_row
set_option linter.unusedSimpArgs false
set_option linter.unusedVariables false
theorem endsS_len (l : List Sp) : (endsS l).length = l.length * 2 := by
  unfold endsS
  induction l with
  | nil => rfl
  | cons s l ih => rw [List.flatMap_cons, List.length_append, ih]; simp; omega
theorem endsS_snoc {l : List Sp} {k : Nat} {s : Sp} (h : l[k]? = some s) : endsS (l.take (k + 1)) = endsS (l.take k) ++ [s.1, s.2] := by
  unfold endsS
  rw [List.take_add_one, h, List.flatMap_append]
  rfl
theorem flatI2 (l : List Int) (a b : Int) {cs : List Value} (h : cs = [.int .i64 a, .int .i64 b]) : l.flatMap encI ++ cs = (l ++ [a, b]).flatMap encI := by
  rw [h, List.flatMap_append]; rfl
set_option maxHeartbeats 1000000 in
theorem ends2_any (ts : List Int) (l : List Sp) (v vl : Value) (B : Nat) (w : World) (ht : OwnsI B w v ts) (hl : Row B 2 encS w vl l) (hB : B ≤ w.heap.size) (h1 : ts.length ≤ 400000) (h2 : l.length ≤ 100000) :
    Calls Try.prog 84 #[v, vl] w fun e w' => ∃ v', e = .returned v' ∧ OwnsI B w' v' (ts ++ endsS l) ∧ Below B w w' := by
  obtain ⟨iI, hi0, hm0, hm1, hm2⟩ := info_parts infoIn
  obtain ⟨s0, cap, rfl, hmax⟩ := hl.shape
  have hopen := fun (wr : World) (hb : Below B w wr) h0 => row_sp (hl.below hb) h0
  obtain ⟨n, en⟩ : ∃ n, l.length = n := ⟨_, rfl⟩
  rw [en] at hopen hmax h2 ⊢
  clear hl
  replace hopen := Lib.hid hopen
  replace en := Lib.hid en
  go_enter Try.func84, Try.ntmps84
  go_wp2
  go_loopw [0, 9] (fun vv iv wr => ∃ k : Nat, k ≤ n ∧ iv = .int .i64 k ∧ OwnsI B wr vv (ts ++ endsS (l.take k)) ∧ Below B w wr) (fun _ iv _ => n - (intOf iv).toNat)
  case atStart => exact ⟨0, Nat.zero_le _, rfl, by simpa [endsS] using ht, Below.refl _ _⟩
  case round =>
    obtain ⟨k, hk, rfl, hown, hbr⟩ := hrel
    have zr := hbr.size
    by_cases hkn : k < n
    · obtain ⟨b, o, cap', e, hb, _, _, hel⟩ := hopen.out wr hbr (by omega)
      simp at e
      obtain ⟨rfl, rfl⟩ := e
      obtain ⟨s, hs⟩ := get_at en.out hkn
      obtain ⟨g0, g1⟩ := hel k s hs
      have hsn := endsS_snoc hs
      have hkk : (k : Int) < n := by omega
      have yb : b < wr.heap.size := by omega
      have hln : (ts ++ endsS (l.take k)).length ≤ 800000 := by rw [List.length_append, endsS_len]; simp; omega
      unfold OwnsI at hown
      obtain ⟨st0, cap0, rfl⟩ := own_slice hown
      clear hel hs
      replace hsn := Lib.hid hsn
      obtain ⟨x, y⟩ := s
      simp only at g0 g1 hsn
      go_upto_region 4 with fail
      have hb7 : Below wr.heap.size wr (wr.alloc (.cells #[.int .i64 x, .int .i64 y] 63)) := (Below.refl _ _).alloc (Nat.le_refl _) _
      have c0 : (wr.alloc (.cells #[.int .i64 x, .int .i64 y] 63)).cell? ⟨wr.heap.size, 0, none⟩ = some (.int .i64 x) := by go_simp
      have c1 : (wr.alloc (.cells #[.int .i64 x, .int .i64 y] 63)).cell? ⟨wr.heap.size, 1, none⟩ = some (.int .i64 y) := by go_simp
      have h57 : wr.heap.size < (wr.alloc (.cells #[.int .i64 x, .int .i64 y] 63)).heap.size := by simp
      generalize wr.alloc (.cells #[.int .i64 x, .int .i64 y] 63) = w7 at hb7 c0 c1 h57 ⊢
      have zr7 := hb7.size
      clear g0 g1
      go_wp2_with (first
        | (at_builtin; refine wpList_append_new rfl _ _ _ rfl B 3 iI _ 1 8 Try.underlying58 hi0 hm0 hm1 hm2 rfl (by omega) w7 2 _ _ _ _ (by rfl) (ownsRow_below hown hb7 (Nat.le_refl _)) (by rfl) rfl (by simp [Value.oneCell']) (by omega) (by unfold maxLen; omega) (by omega) ?_; intro v6 w6 hown6 hb6)
        | go_in)
      have hb6' : Below B w w6 := (hbr.trans (hb7.mono (by omega))).trans hb6
      rw [flatI2 _ x y rfl] at hown6
      replace hown6 := Lib.hid hown6
      clear hb6
      go_wp2
      go_roundw
      case rel =>
        refine ⟨k + 1, by omega, by go_num, ?_, hb6'⟩
        unfold OwnsI
        rw [hsn.out, ← List.append_assoc, List.length_append]
        exact hown6.out
      case measure => simp [intOf]; omega
    · obtain rfl : k = n := by omega
      rw [List.take_of_length_le (by have := en.out; omega)] at hown
      obtain ⟨st0, cap0, rfl⟩ := own_slice hown
      replace hown := Lib.hid hown
      go_wp2
      go_ret
      exact ⟨_, rfl, hown.out, hbr⟩
theorem either_any (a b : Bool) (w : World) : Calls Try.prog 40 #[.bool a, .bool b] w fun e w' => e = .returned (.bool (a || b)) ∧ Below w.heap.size w w' := by
  cases a <;> cases b
  all_goals
    go_enter Try.func40, Try.ntmps40
    go_wp2
    go_ret
    exact ⟨rfl, (by repeat (first | exact Below.refl _ _ | assumption | refine Below.drew ?_ | refine Below.alloc ?_ (by (try simp) <;> omega) _ | refine Below.setCell ?_ (by (try simp) <;> omega) _ | (refine Below.trans ?_ (Below.mono (by assumption) (by (try simp) <;> omega)))))⟩
theorem each_any (a b : Bool) (w : World) : Calls Try.prog 41 #[.bool a, .bool b] w fun e w' => e = .returned (.bool (a && b)) ∧ Below w.heap.size w w' := by
  cases a <;> cases b
  all_goals
    go_enter Try.func41, Try.ntmps41
    go_wp2
    go_ret
    exact ⟨rfl, (by repeat (first | exact Below.refl _ _ | assumption | refine Below.drew ?_ | refine Below.alloc ?_ (by (try simp) <;> omega) _ | refine Below.setCell ?_ (by (try simp) <;> omega) _ | (refine Below.trans ?_ (Below.mono (by assumption) (by (try simp) <;> omega)))))⟩
theorem first_any (a b : Bool) (w : World) : Calls Try.prog 42 #[.bool a, .bool b] w fun e w' => e = .returned (.bool (a && !b)) ∧ Below w.heap.size w w' := by
  cases a <;> cases b
  all_goals
    go_enter Try.func42, Try.ntmps42
    go_wp2
    go_ret
    exact ⟨rfl, (by repeat (first | exact Below.refl _ _ | assumption | refine Below.drew ?_ | refine Below.alloc ?_ (by (try simp) <;> omega) _ | refine Below.setCell ?_ (by (try simp) <;> omega) _ | (refine Below.trans ?_ (Below.mono (by assumption) (by (try simp) <;> omega)))))⟩
theorem wcmp_any (s : Sp) (x : Int) (w : World) (h1 : InM s.1) (h2 : InM x) : Calls Try.prog 106 #[.agg #[.int .i64 s.1, .int .i64 s.2], .int .i64 x] w fun e w' => e = .returned (.int .i64 (s.1 - x)) ∧ Below w.heap.size w w' := by
  obtain ⟨a0, a1⟩ := h1
  obtain ⟨b0, b1⟩ := h2
  obtain ⟨s1, s2⟩ := s
  simp only at a0 a1 b0 b1 ⊢
  go_enter Try.func106, Try.ntmps106
  go_wp2
  go_ret
  exact ⟨rfl, (by repeat (first | exact Below.refl _ _ | assumption | refine Below.drew ?_ | refine Below.alloc ?_ (by (try simp) <;> omega) _ | refine Below.setCell ?_ (by (try simp) <;> omega) _ | (refine Below.trans ?_ (Below.mono (by assumption) (by (try simp) <;> omega)))))⟩
end Go.Proofs.Ytlklmncjicgbgaa
