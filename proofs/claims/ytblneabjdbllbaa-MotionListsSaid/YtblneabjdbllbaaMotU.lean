/-
  Ahead of the next tick nothing changes (plain).
-/
import Derived.Test.YtblneabjdbllbaaMotR
namespace Go.Proofs.Ytblneabjdbllbaa
open Go.RowKit
set_option linter.unusedVariables false
attribute [local go_sem] vwp vUpon_value vUpon_skip vUpon_enter vUpon_row
theorem stay_one {ms : List Mo} {tick next u : Int} {m : Mo} (hm : Counts ms m) (hok : Ok m) (hP : NextP (Counts ms) tick next) (h1 : tick < u) (h2 : u < next) : atV m u = atV m tick := by
  cases ho : overB m (max tick m.st)
  · have := hP.1 m hm ho
    have hu : u ≤ m.st := by omega
    have e1 : atV m tick = m.fr := if_pos (by omega)
    rw [e1]
    rcases (by omega : u < m.st ∨ u = m.st) with h | h
    · exact if_pos h
    · rw [h]; exact at_start m hok
  · rcases Int.lt_or_le tick m.st with h | h
    · rw [show max tick m.st = m.st by omega, overB_start m hok] at ho; cases ho
    · rw [show max tick m.st = tick by omega] at ho
      exact (stays_over m tick u hok (by omega) (by unfold atG; simp [ho]; omega)).1
theorem stay_all {ms : List Mo} {tick next u : Int} (hok : ∀ m ∈ ms, Ok m) (hP : NextP (Counts ms) tick next) (h1 : tick < u) (h2 : u < next) : placesN ms u = placesN ms tick := by
  unfold placesN
  exact List.map_congr_left fun m hm => stay_one ((srt_mem ms m).1 hm) (hok m ((srt_mem ms m).1 hm).mem) hP h1 h2
theorem next_goes {ms : List Mo} {tick next : Int} (hok : ∀ m ∈ ms, Ok m) (hP : NextP (Counts ms) tick next) (h : next ≤ 1048576) : ∃ (i : Nat) (m : Mo), ms[i]? = some m ∧ atG m (next - 1) = true ∧ m.st < next ∧ tick < next := by
  rcases hP.2 with rfl | ⟨m, hm, ho, rfl⟩
  · omega
  · obtain ⟨i, hi, e⟩ := List.mem_iff_getElem.1 hm.mem
    refine ⟨i, m, by rw [List.getElem?_eq_getElem hi, e], ?_, by omega, by omega⟩
    rw [show max tick m.st + 1 - 1 = max tick m.st by omega]
    unfold atG; simp [ho]
theorem srt_of_up : ∀ {ms : List Mo}, Up ms → srt ms = ms
  | [], _ => rfl
  | m :: ms, h => by
    obtain ⟨h1, h2⟩ := List.pairwise_cons.1 h
    simp only [srt]
    rw [srt_of_up h2]
    cases ms with
    | nil => rfl
    | cons x xs =>
      have := h1 x List.mem_cons_self
      unfold insM
      rw [if_neg (by omega), if_neg (by omega)]
theorem At_ok (m : Mo) (t : Int) (w : World) (hw : Wf m) (h : Ok m) (t0 : 0 ≤ t) (t1 : t ≤ 1048576) : Calls Try.prog 10 #[.agg #[.int .i64 ((m).node), .int .i64 ((m).fr), .int .i64 ((m).to), .int .i64 ((m).st), .int .i64 ((m).ln), .int .u8 ((m).es), .int .i64 ((m).ts), .bool ((m).bk)], .int .i64 t] w fun e w' => e = .returned (.tuple #[.int .i64 (atV m t), .bool (atG m t), .int .i64 0]) ∧ Below w.heap.size w w' := by
  have a := At_any m t w hw
  have e0 : resE m t = 0 := by
    unfold resE
    have hl : lateB t = false := by unfold lateB; simp; omega
    rw [if_pos h.chk, hl]; rfl
  rw [show resV m t = atV m t from if_pos e0, show resG m t = atG m t from if_pos e0, e0] at a
  exact a
end Go.Proofs.Ytblneabjdbllbaa
