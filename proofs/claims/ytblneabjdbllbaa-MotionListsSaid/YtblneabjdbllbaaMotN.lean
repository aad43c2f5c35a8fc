/-
  'Next', walked.
-/
import Derived.Test.YtblneabjdbllbaaMotM
namespace Go.Proofs.Ytblneabjdbllbaa
open Go.RowKit
set_option linter.unusedVariables false
attribute [local go_sem] vwp vUpon_value vUpon_skip vUpon_enter vUpon_row
open Go.Maps
def nextV (r : Int) : Value := .tuple #[.int .i64 (if 1048576 < r then 0 else r), .bool (decide (r ≤ 1048576)), .int .i64 0]
theorem grown_below {a c : World} (h : a.grownBy c none) : Below a.heap.size a c := (Below.refl _ _).grown h (Nat.le_refl _) (fun _ h => by cases h)
theorem cntE_zero {ms : List Mo} {t : Int} (hw : ∀ m ∈ ms, Wf m) (h : cntE ms t = 0) : (0 ≤ t ∧ t ≤ 1048576) ∧ ∀ m ∈ ms, Ok m := by
  unfold cntE at h
  split at h
  · omega
  split at h
  · omega
  split at h
  · omega
  rename_i h1 h2 h3
  exact ⟨by omega, fun m hm => Ok.of (hw m hm) (bad_zero (by simpa using h2) m hm)⟩
theorem invK (key : Value) (kl : Lit) (h : keyOf Try.prog 3 key = some kl) : ∃ x, key = Value.int .i64 x := by
  obtain ⟨x, rfl, _⟩ := Maps.keyOf_int_inv Try.underlying3 h
  exact ⟨x, rfl⟩
set_option maxHeartbeats 2000000 in
theorem next_any (ms : List Mo) (v : Value) (t : Int) (w : World) (hl : Lst w v ms) (hw : ∀ m ∈ ms, Wf m) (ht : I64 t) : Calls Try.prog 19 #[v, .int .i64 t] w fun e w' => Below w.heap.size w w' ∧
    ((cntE ms t ≠ 0 ∧ e = .returned (.tuple #[.int .i64 0, .bool false, .int .i64 (cntE ms t)])) ∨ (cntE ms t = 0 ∧ ∃ r, NextP (Counts ms) t r ∧ e = .returned (nextV r))) := by
  have CT := fun w hl => counted_any ms v t w hl hw ht
  replace CT := Lib.hid CT
  have hlh := Lib.hid hl
  clear hl
  go_enter Try.func19, Try.ntmps19
  go_wp2_with (first
    | (go_at_call 32; (with_reducible refine (CT.out _ hlh.out).mono ?_); rintro e w1 ⟨hb1, hr1⟩; rcases hr1 with ⟨hne, rfl⟩ | ⟨h0, B, hB, rfl, hown⟩)
    | (at_range; refine wpList_range_own _ rfl _ 55 rfl 3 23 lawK Try.underlying55 _ B _ _ rfl hown ?_; intro w0 hrg0 hg0 hs0)
    | go_in)
  · have hnb : (cntE ms t == 0) = false := by simp [hne]
    (try go_wp2)
    go_ret3
    exact ⟨hb1, .inl ⟨hne, rfl⟩⟩
  · (try go_frame)
    have hlb : B < w1.heap.size := hown.lt
    have hb0 : Below w.heap.size w w0 := hb1.trans ((grown_below hg0).mono hb1.size)
    obtain ⟨hte, hok⟩ := cntE_zero hw h0
    obtain ⟨T0, T1⟩ := hte
    go_loopw [9] (fun nx wr => ∃ (left : Lit → Bool) (cnt : Nat) (r : Int), wr.ranges Try.prog 3 Rm B w1.heap.size ms.length (Cm ms) left cnt ∧ Below w.heap.size w wr ∧ w1.heap.size < wr.heap.size ∧ nx = .int .i64 r ∧ 0 ≤ r ∧ r ≤ 1048577 ∧ NextP (fun m => Counts ms m ∧ left (kOf m.node) = false) t r) (fun _ wr => wr.rangeLeft B w1.heap.size)
    case atStart =>
      refine ⟨_, _, 1048577, hrg0, hb0, by omega, rfl, by decide, by decide, NextP.start t fun m hm => ?_⟩
      rw [hm.1.has] at hm
      exact absurd hm.2 (by simp)
    case round =>
      obtain ⟨left, cnt, r, hrg, hbe, hsz, rfl, r0, r1, hP⟩ := hrel
      go_wp2_with (first
        | (at_next; refine wpList_next_ranges _ rfl _ rfl 3 lawK Rm (Value.int .i64) (fun m : Mo => .agg #[.int .i64 ((m).node), .int .i64 ((m).fr), .int .i64 ((m).to), .int .i64 ((m).st), .int .i64 ((m).ln), .int .u8 ((m).es), .int .i64 ((m).ts), .bool ((m).bk)]) invK (fun v y h => (Rm_inv h).imp fun m h => h.1) B w1.heap.size ms.length _ _ _ rfl hrg ?_ ?_)
        | go_in)
      · intro _ hl0
        have hP' : NextP (Counts ms) t r := by
          refine ⟨fun m hm ho => hP.1 m ⟨hm, hl0 _⟩ ho, ?_⟩
          rcases hP.2 with h | ⟨m, ⟨a, _⟩, b, e⟩
          · exact .inl h
          · exact .inr ⟨m, a, b, e⟩
        by_cases hr : r = 1048577
        · subst hr
          go_wp2
          go_ret3
          exact ⟨hbe, .inr ⟨h0, _, hP', rfl⟩⟩
        · have hr1 : r ≤ 1048576 := by omega
          go_wp2
          go_ret3
          exact ⟨hbe, .inr ⟨h0, r, hP', by unfold nextV; rw [if_neg (by omega), decide_eq_true hr1]; rfl⟩⟩
      · intro x c kl y1 y2 w2 cnt2 hkey hlk hy hat hrg2 hlt hg2 hs2 hen
        have hyy := (Rm_mk c).symm.trans hy
        simp only [Option.some.injEq, Prod.mk.injEq] at hyy
        obtain ⟨rfl, rfl⟩ := hyy
        clear hy
        obtain rfl := Cm_key ms kl c (hat .nil)
        have hcc : Counts ms c := hat .nil
        have okc := hok c hcc.mem
        have cst := okc.st
        have hC : ∀ m, (Counts ms m ∧ (left (kOf m.node) && !(kOf m.node).sameKey (kOf c.node)) = false) ↔ (Counts ms m ∧ left (kOf m.node) = false) ∨ m = c := by
          intro m
          constructor
          · rintro ⟨a, b⟩
            by_cases e : (kOf m.node).sameKey (kOf c.node) = true
            · exact .inr (a.one hcc (kOf_same e))
            · refine .inl ⟨a, ?_⟩
              simp only [Bool.not_eq_true] at e
              simpa [e] using b
          · rintro (⟨a, b⟩ | rfl)
            · exact ⟨a, by simp [b]⟩
            · exact ⟨hcc, by rw [kOf_self]; simp⟩
        have hst := hP.step c hC
        have OV := fun w => over_any c (max t c.st) w okc (by omega) (by omega)
        have hbe2 : Below w.heap.size w w2 := hbe.grown hg2 (by omega) (by simp; exact Nat.le_trans hb1.size (Nat.le_refl _))
        replace hC := Lib.hid hC
        clear hP hok hat
        have hend : ∀ (rr : Int) (w9 : World), NextP (fun m => Counts ms m ∧ (left (kOf m.node) && !(kOf m.node).sameKey (kOf c.node)) = false) t rr → 0 ≤ rr ∧ rr ≤ 1048577 → Below (w2.heap.size) w2 w9 → (∃ (left : Lit → Bool) (cnt : Nat) (r : Int), w9.ranges Try.prog 3 Rm B w1.heap.size ms.length (Cm ms) left cnt ∧ Below w.heap.size w w9 ∧ w1.heap.size < w9.heap.size ∧ Value.int .i64 rr = .int .i64 r ∧ 0 ≤ r ∧ r ≤ 1048577 ∧ NextP (fun m => Counts ms m ∧ left (kOf m.node) = false) t r) ∧ w9.rangeLeft B w1.heap.size < wr.rangeLeft B w1.heap.size := by
          intro rr w9 hn h2 hb9
          have hr9 := ranges_below hrg2 hb9 (by omega) (by omega)
          refine ⟨⟨_, cnt2, rr, hr9, hbe2.trans (hb9.mono (by have := hbe2.size; omega)), by have := hb9.size; omega, rfl, h2.1, h2.2, hn⟩, ?_⟩
          rw [hr9.left_eq, hrg.left_eq]; exact hlt
        replace hend := Lib.hid hend
        obtain ⟨T, hT⟩ : ∃ T, max t c.st = T := ⟨_, rfl⟩
        have hT' : (if t < c.st then c.st else t) = T := by split <;> omega
        rw [hT] at OV hst
        have hTb : 0 ≤ T ∧ T ≤ 1048576 := by omega
        clear hT
        obtain ⟨b0, b1⟩ := hTb
        obtain ⟨R, hR⟩ : ∃ R, min r (T + 1) = R := ⟨_, rfl⟩
        have hR1 : (if r < T + 1 then r else T + 1) = R := by split <;> omega
        have hR2 : (if T + 1 < r then T + 1 else r) = R := by split <;> omega
        have hRb : 0 ≤ R ∧ R ≤ 1048577 := by omega
        rw [hR] at hst
        clear hR
        cases ho : overB c T
        · rw [ho] at OV hst
          simp only [Bool.false_eq_true, if_false] at hst
          replace OV := Lib.hid OV
          replace hst := Lib.hid hst
          replace hRb := Lib.hid hRb
          go_wp2_with (first
            | (go_at_call 34; (with_reducible refine (OV.out _).mono ?_); rintro e w3 ⟨rfl, hb3⟩; obtain ⟨hc3, hf3⟩ := bcell hb3; have hz3 := hb3.size; (try simp at hz3); (try have lt3 : w.heap.size < w3.heap.size := (by omega)))
            | go_in)
          go_roundw
          case rel => exact (hend.out _ _ hst.out hRb.out (by repeat (first | exact Below.refl _ _ | assumption | refine Below.drew ?_ | refine Below.alloc ?_ (by (try simp) <;> omega) _ | refine Below.setCell ?_ (by (try simp) <;> omega) _ | (refine Below.trans ?_ (Below.mono (by assumption) (by (try simp) <;> omega)))))).1
          case measure => exact (hend.out _ _ hst.out hRb.out (by repeat (first | exact Below.refl _ _ | assumption | refine Below.drew ?_ | refine Below.alloc ?_ (by (try simp) <;> omega) _ | refine Below.setCell ?_ (by (try simp) <;> omega) _ | (refine Below.trans ?_ (Below.mono (by assumption) (by (try simp) <;> omega)))))).2
        · rw [ho] at OV hst
          simp only [if_true] at hst
          replace OV := Lib.hid OV
          replace hst := Lib.hid hst
          go_wp2_with (first
            | (go_at_call 34; (with_reducible refine (OV.out _).mono ?_); rintro e w3 ⟨rfl, hb3⟩; obtain ⟨hc3, hf3⟩ := bcell hb3; have hz3 := hb3.size; (try simp at hz3); (try have lt3 : w.heap.size < w3.heap.size := (by omega)))
            | go_in)
          go_roundw
          case rel => exact (hend.out _ _ hst.out ⟨r0, r1⟩ (by repeat (first | exact Below.refl _ _ | assumption | refine Below.drew ?_ | refine Below.alloc ?_ (by (try simp) <;> omega) _ | refine Below.setCell ?_ (by (try simp) <;> omega) _ | (refine Below.trans ?_ (Below.mono (by assumption) (by (try simp) <;> omega)))))).1
          case measure => exact (hend.out _ _ hst.out ⟨r0, r1⟩ (by repeat (first | exact Below.refl _ _ | assumption | refine Below.drew ?_ | refine Below.alloc ?_ (by (try simp) <;> omega) _ | refine Below.setCell ?_ (by (try simp) <;> omega) _ | (refine Below.trans ?_ (Below.mono (by assumption) (by (try simp) <;> omega)))))).2
end Go.Proofs.Ytblneabjdbllbaa
