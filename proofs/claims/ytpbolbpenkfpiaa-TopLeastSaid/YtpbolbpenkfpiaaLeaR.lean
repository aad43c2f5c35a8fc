/-
  Bounds in memory; whether they may be.
-/
import Derived.Test.YtpbolbpenkfpiaaRow
import Derived.Test.YtpbolbpenkfpiaaLeaQ
import Derived.Outline
namespace Go.Proofs.Ytpbolbpenkfpiaa
open Go.RowKit
set_option linter.unusedVariables false
attribute [local go_sem] vwp vUpon_value vUpon_skip vUpon_enter vUpon_row
open Go Go.ChangeShapes Go.WideShapes Go.Deep
def encB (b : Bd) : List Value := [.int .i64 b.a, .int .i64 b.b, .int .i64 b.f]
structure WfB (x : Bd) : Prop where
  a : I64 x.a
  b : I64 x.b
  f : I64 x.f
section
variable {H : Type} {enc : TypeId × Value → H} {w : World} {base : Nat} {spare : Nat → Bool} {held : Bool}
theorem open_bounds {r : Reach} {b0 : Nat} {v : Value} {d : DataW H} {p : List MemPlace} (hv : Value.okWide Try.prog w r b0 22 v) (h : DataW.Trod enc Try.prog w base spare held 22 v d p) :
    ∃ bs : List Bd, Row w.heap.size 3 encB w v bs ∧ ∀ b ∈ bs, WfB b := by
  refine open_row Try.underlying22 (by kernel_rfl) (by omega) (fun n cs y hl ht => ?_) hv h
  match cs, hl with
  | [c0, c1, c2], _ =>
    obtain ⟨n', hn⟩ := fields_of Try.underlying28 (by kernel_rfl) rfl ht
    obtain ⟨u, y0, h0, g0⟩ := hn 0 _ rfl
    obtain rfl := Option.some.inj h0
    obtain ⟨u, y1, h1, g1⟩ := hn 1 _ rfl
    obtain rfl := Option.some.inj h1
    obtain ⟨u, y2, h2, g2⟩ := hn 2 _ rfl
    obtain rfl := Option.some.inj h2
    obtain ⟨n0, e0, z0, wf0⟩ := DataW.trod_int Try.underlying3 g0; simp at e0; subst e0
    obtain ⟨n1, e1, z1, wf1⟩ := DataW.trod_int Try.underlying3 g1; simp at e1; subst e1
    obtain ⟨n2, e2, z2, wf2⟩ := DataW.trod_int Try.underlying3 g2; simp at e2; subst e2
    exact ⟨⟨n0, n1, n2⟩, ⟨i64_of wf0, i64_of wf1, i64_of wf2⟩, rfl⟩
end
theorem enc3 {b o k : Nat} {w : World} {x : Bd} (h : ∀ i u, (encB x)[i]? = some u → w.cell? ⟨b, o + k * 3 + i, none⟩ = some u) :
    w.cell? ⟨b, o + k * 3, none⟩ = some (.int .i64 x.a) ∧ w.cell? ⟨b, o + k * 3 + 1, none⟩ = some (.int .i64 x.b) ∧ w.cell? ⟨b, o + k * 3 + 2, none⟩ = some (.int .i64 x.f) :=
  ⟨h 0 _ rfl, h 1 _ rfl, h 2 _ rfl⟩
set_option maxHeartbeats 1000000 in
theorem rcheck_any (n : Int) (bs : List Bd) (v : Value) (w : World) (hr : Row w.heap.size 3 encB w v bs) (hw : ∀ b ∈ bs, WfB b) :
    Calls Try.prog 5 #[.int .i64 n, v] w fun e w' => Below w.heap.size w w' ∧ ∃ k, e = .returned (.int .i64 k) ∧ (k = 0 → 0 ≤ n ∧ Valid n.toNat bs) := by
  obtain ⟨L, hL⟩ : ∃ L, bs.length = L := ⟨_, rfl⟩
  obtain ⟨s, cap, hv, hmax⟩ := hr.shape
  rw [hL] at hv hmax
  by_cases h1 : n < 0
  · subst hv
    go_enter Try.func5, Try.ntmps5
    go_wp2
    go_ret
    exact ⟨(by repeat (first | exact Below.refl _ _ | assumption | refine Below.drew ?_ | refine Below.alloc ?_ (by (try simp) <;> omega) _ | refine Below.setCell ?_ (by (try simp) <;> omega) _)), 2, rfl, fun h => by cases h⟩
  by_cases h2 : 4096 < n
  · subst hv
    go_enter Try.func5, Try.ntmps5
    go_wp2
    go_ret
    exact ⟨(by repeat (first | exact Below.refl _ _ | assumption | refine Below.drew ?_ | refine Below.alloc ?_ (by (try simp) <;> omega) _ | refine Below.setCell ?_ (by (try simp) <;> omega) _)), 4, rfl, fun h => by cases h⟩
  by_cases h3 : (4096 : Int) < L
  · subst hv
    go_enter Try.func5, Try.ntmps5
    go_wp2
    go_ret
    exact ⟨(by repeat (first | exact Below.refl _ _ | assumption | refine Below.drew ?_ | refine Below.alloc ?_ (by (try simp) <;> omega) _ | refine Below.setCell ?_ (by (try simp) <;> omega) _)), 4, rfl, fun h => by cases h⟩
  have hopen := fun h0 => hr.open_ h0
  rw [hL] at hopen
  replace hopen := Lib.hid hopen
  subst hv
  have g1 : 0 ≤ n := by omega
  have g2 : n ≤ 4096 := by omega
  clear h1 h2
  go_enter Try.func5, Try.ntmps5
  go_wp2
  go_loopw [5] (fun i wr => ∃ k : Nat, k ≤ L ∧ i = .int .i64 k ∧ (∀ (j : Nat) (b : Bd), j < k → bs[j]? = some b → OkB n.toNat b) ∧ Below w.heap.size w wr) (fun i _ => L - (intOf i).toNat)
  case atStart => exact ⟨0, Nat.zero_le _, rfl, fun _ _ h => absurd h (Nat.not_lt_zero _), (by repeat (first | exact Below.refl _ _ | assumption | refine Below.drew ?_ | refine Below.alloc ?_ (by (try simp) <;> omega) _ | refine Below.setCell ?_ (by (try simp) <;> omega) _))⟩
  case round =>
    obtain ⟨k, hk, rfl, hpre, hbe⟩ := hrel
    by_cases hlt : k < L
    · obtain ⟨x, hx⟩ : ∃ x, bs[k]? = some x := ⟨bs[k]'(by omega), by simp [hL, hlt]⟩
      obtain ⟨b, o, cap', e, hbl, _, _, hcell⟩ := hopen.out (by omega)
      simp at e
      obtain ⟨rfl, rfl⟩ := e
      obtain ⟨c0, c1, c2⟩ := enc3 (hcell k x hx)
      have hwf := hw x (List.mem_of_getElem? hx)
      obtain ⟨⟨a0, a1⟩, ⟨b0, b1⟩, f0, f1⟩ := hwf
      have hkk : (k : Int) < L := by omega
      obtain ⟨hc, hf⟩ := bcell hbe
      have hzb := hbe.size
      clear hcell hr hw
      replace hpre := Lib.hid hpre
      have hcases : x.a < 0 ∨ (0 ≤ x.a ∧ n ≤ x.a) ∨ (0 ≤ x.a ∧ x.a < n ∧ x.b < 0) ∨ (0 ≤ x.a ∧ x.a < n ∧ 0 ≤ x.b ∧ n ≤ x.b) ∨ (0 ≤ x.a ∧ x.a < n ∧ 0 ≤ x.b ∧ x.b < n ∧ x.f < -1048576) ∨ (0 ≤ x.a ∧ x.a < n ∧ 0 ≤ x.b ∧ x.b < n ∧ -1048576 ≤ x.f ∧ 1048576 < x.f) ∨ (0 ≤ x.a ∧ x.a < n ∧ 0 ≤ x.b ∧ x.b < n ∧ -1048576 ≤ x.f ∧ x.f ≤ 1048576) := by omega
      rcases hcases with q1 | ⟨q1, q2⟩ | ⟨q1, q2, q3⟩ | ⟨q1, q2, q3, q4⟩ | ⟨q1, q2, q3, q4, q5⟩ | ⟨q1, q2, q3, q4, q5, q6⟩ | ⟨q1, q2, q3, q4, q5, q6⟩
      iterate 6
        · go_wp2
          go_ret
          exact ⟨(by repeat (first | exact Below.refl _ _ | assumption | refine Below.drew ?_ | refine Below.alloc ?_ (by (try simp) <;> omega) _ | refine Below.setCell ?_ (by (try simp) <;> omega) _ | (refine Below.trans ?_ (Below.mono (by assumption) (by (try simp) <;> omega))))), 2, rfl, fun h => by cases h⟩
      · go_wp2
        go_roundw
        case rel =>
          refine ⟨k + 1, by omega, by go_num, ?_, (by repeat (first | exact Below.refl _ _ | assumption | refine Below.drew ?_ | refine Below.alloc ?_ (by (try simp) <;> omega) _ | refine Below.setCell ?_ (by (try simp) <;> omega) _ | (refine Below.trans ?_ (Below.mono (by assumption) (by (try simp) <;> omega)))))⟩
          intro j y hj hy
          rcases Nat.lt_succ_iff_lt_or_eq.1 hj with hj | rfl
          · exact hpre.out j y hj hy
          · rw [hx] at hy; obtain rfl := Option.some.inj hy
            exact ⟨q1, by omega, q3, by omega, q5, q6⟩
        case measure => simp [intOf]; omega
    · go_wp2
      go_ret
      refine ⟨hbe, 0, rfl, fun _ => ⟨g1, by omega, by omega, fun j b hj => hpre j b ?_ hj⟩⟩
      have := (List.getElem?_eq_some_iff.1 hj).1
      omega
end Go.Proofs.Ytpbolbpenkfpiaa
