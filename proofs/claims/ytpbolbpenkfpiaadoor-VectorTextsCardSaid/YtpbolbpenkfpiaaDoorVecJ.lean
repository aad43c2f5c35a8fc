/-
  A list as a text of shapes, plainly; what size may be.
-/
import Derived.Test.YtpbolbpenkfpiaaDoorVecI
namespace Go.Proofs.YtpbolbpenkfpiaaDoor
open Go.RowKit
set_option linter.unusedVariables false
attribute [local go_sem] vwp vUpon_value vUpon_skip vUpon_enter vUpon_row
set_option linter.unusedSimpArgs false
set_option linter.unusedVariables false
def headS (W H : Int) : ByteArray := ⟨#[60, 115, 104, 97, 112, 101, 115]⟩ ++ fldS ⟨#[119]⟩ (numS W) ++ fldS ⟨#[104]⟩ (numS H) ++ ⟨#[62, 10]⟩
theorem head_eq (a b : ByteArray) : ⟨#[60, 115, 104, 97, 112, 101, 115, 32, 119, 61, 34]⟩ ++ a ++ ⟨#[34, 32, 104, 61, 34]⟩ ++ b ++ ⟨#[34, 62, 10]⟩ = ⟨#[60, 115, 104, 97, 112, 101, 115]⟩ ++ fldS ⟨#[119]⟩ a ++ fldS ⟨#[104]⟩ b ++ ⟨#[62, 10]⟩ := by
  apply ba_ext; simp [fldS]
def footS : ByteArray := ⟨#[60, 47, 115, 104, 97, 112, 101, 115, 62, 10]⟩
def sizedB (W H : Int) : Bool := decide (0 ≤ W ∧ 0 ≤ H ∧ W ≤ 16384 ∧ H ≤ 16384)
theorem head_size {W H : Int} (h : sizedB W H = true) : (headS W H).size ≤ 60 := by
  unfold sizedB at h
  simp at h
  have z1 := num_size (n := W) (by omega) (by omega)
  have z2 := num_size (n := H) (by omega) (by omega)
  simp only [headS, ByteArray.size_append, fld_size]
  show 7 + (1 + _ + 4) + (1 + _ + 4) + 2 ≤ 60
  omega
def txGo : List St → List UInt8 → Option (List UInt8)
  | [], out => some out
  | s :: xs, out => if 65536 < (out ++ (lineS s).data.toList).length then none else txGo xs (out ++ (lineS s).data.toList)
def txEnd (o : Option (List UInt8)) : List UInt8 × Int :=
  match o with
  | none => ([], 3)
  | some out => if 65536 < (out ++ footS.data.toList).length then ([], 3) else (out ++ footS.data.toList, 0)
def txR (xs : List St) (W H : Int) : List UInt8 × Int :=
  if chkL xs = 0 then (if sizedB W H = true then txEnd (txGo xs (headS W H).data.toList) else ([], 9)) else ([], chkL xs)
theorem tx_step {xs : List St} {k : Nat} {s : St} {out : List UInt8} (h : xs[k]? = some s) : txGo (xs.drop k) out = if 65536 < (out ++ (lineS s).data.toList).length then none else txGo (xs.drop (k + 1)) (out ++ (lineS s).data.toList) := by
  obtain ⟨hk, e⟩ := List.getElem?_eq_some_iff.1 h
  rw [List.drop_eq_getElem_cons hk, e]; rfl
theorem tx_fin {xs : List St} {k : Nat} {out : List UInt8} (h : xs.length ≤ k) : txGo (xs.drop k) out = some out := by
  rw [List.drop_eq_nil_of_le h]; rfl
theorem line_size {s : St} (he : errS s = 0) (hsr : SmallR s.rect) : (lineS s).size ≤ 300000 := by
  obtain ⟨n0, n1, htx⟩ := err_node he
  have zr := rect_size hsr
  have zn := num_size (n := s.node) (by omega) (by omega)
  have zc := col_size s.col
  have zb := col_size s.back
  have zt := esc_size s.text
  have yn : (fldS ⟨#[110]⟩ (numS s.node)).size ≤ 20 := by rw [fld_size]; show 1 + _ + _ ≤ _; omega
  have yc : (fldS ⟨#[99]⟩ (colS s.col)).size ≤ 20 := by rw [fld_size]; show 1 + _ + _ ≤ _; omega
  have yb : (fldS ⟨#[98]⟩ (colS s.back)).size ≤ 20 := by rw [fld_size]; show 1 + _ + _ ≤ _; omega
  unfold lineS
  split
  · simp only [ByteArray.size_append]; show 5 + _ + _ + _ + 3 ≤ _; omega
  · split
    · simp only [ByteArray.size_append]; show 6 + _ + _ + _ + 3 ≤ _; omega
    · split
      · simp only [ByteArray.size_append]; show 6 + _ + _ + _ + _ + 1 + _ + 9 ≤ _; omega
      · split
        · simp only [ByteArray.size_append]; show 5 + _ + _ + 2 ≤ _; omega
        · simp only [ByteArray.size_append]; show 6 + _ + 2 ≤ _; omega
theorem bytes_snocA (l : List UInt8) (s : ByteArray) : Lib.byteCells l ++ Lib.strCells s = Lib.byteCells (l ++ s.data.toList) := by simp [Lib.byteCells, Lib.strCells]
theorem may_bd' {q : Re} (h : mayR q = true) : SmallR q := by
  unfold mayR spanB sdB inB at h
  unfold SmallR
  simp at h
  omega
theorem go_mem (xs : List St) : ∀ (o : Int), chkGo o xs = 0 → ∀ s ∈ xs, errS s = 0 := by
  induction xs with
  | nil => intro o h s hs; simp at hs
  | cons x xs ih =>
    intro o h s hs
    simp only [chkGo] at h
    by_cases h1 : errS x = 0
    · rw [if_neg (by simp [h1])] at h
      by_cases h2 : opn o x < 0
      · rw [if_pos h2] at h; exact absurd h (by decide)
      · rw [if_neg h2] at h
        rcases List.mem_cons.1 hs with rfl | hs
        · exact h1
        · exact ih _ h s hs
    · rw [if_pos h1] at h; exact absurd h h1
theorem chk_mem {xs : List St} (h : chkL xs = 0) (s : St) (hs : s ∈ xs) : errS s = 0 := by
  unfold chkL at h
  split at h
  · exact absurd h (by decide)
  · exact go_mem xs 0 h s hs
theorem err_may {s : St} (h : errS s = 0) : mayR s.rect = true := by
  unfold errS at h
  split at h
  · cases h
  · split at h
    · assumption
    · cases h
theorem chk_len {xs : List St} (h : chkL xs = 0) : xs.length ≤ 16384 := by
  unfold chkL at h; split at h
  · cases h
  · omega
theorem ksized_any (W H : Int) (w : World) (h1 : I64 W) (h2 : I64 H) : Calls Tryd.prog 19 #[.agg #[.int .i64 W, .int .i64 H]] w fun e w' => e = .returned (.bool (sizedB W H)) ∧ Below w.heap.size w w' := by
  unfold sizedB
  by_cases c1 : 0 ≤ W
  · by_cases c3 : W ≤ 16384
    · by_cases c2 : 0 ≤ H
      · by_cases c4 : H ≤ 16384
        · rw [decide_eq_true ⟨c1, c2, c3, c4⟩]
          go_enter Tryd.func19, Tryd.ntmps19
          go_wp2
          go_ret
          exact ⟨rfl, (by repeat (first | exact Below.refl _ _ | assumption | refine Below.drew ?_ | refine Below.alloc ?_ (by (try simp) <;> omega) _ | refine Below.setCell ?_ (by (try simp) <;> omega) _))⟩
        · rw [decide_eq_false (by omega)]
          go_enter Tryd.func19, Tryd.ntmps19
          go_wp2
          go_ret
          exact ⟨rfl, (by repeat (first | exact Below.refl _ _ | assumption | refine Below.drew ?_ | refine Below.alloc ?_ (by (try simp) <;> omega) _ | refine Below.setCell ?_ (by (try simp) <;> omega) _))⟩
      · rw [decide_eq_false (by omega)]
        go_enter Tryd.func19, Tryd.ntmps19
        go_wp2
        go_ret
        exact ⟨rfl, (by repeat (first | exact Below.refl _ _ | assumption | refine Below.drew ?_ | refine Below.alloc ?_ (by (try simp) <;> omega) _ | refine Below.setCell ?_ (by (try simp) <;> omega) _))⟩
    · rw [decide_eq_false (by omega)]
      go_enter Tryd.func19, Tryd.ntmps19
      go_wp2
      go_ret
      exact ⟨rfl, (by repeat (first | exact Below.refl _ _ | assumption | refine Below.drew ?_ | refine Below.alloc ?_ (by (try simp) <;> omega) _ | refine Below.setCell ?_ (by (try simp) <;> omega) _))⟩
  · rw [decide_eq_false (by omega)]
    go_enter Tryd.func19, Tryd.ntmps19
    go_wp2
    go_ret
    exact ⟨rfl, (by repeat (first | exact Below.refl _ _ | assumption | refine Below.drew ?_ | refine Below.alloc ?_ (by (try simp) <;> omega) _ | refine Below.setCell ?_ (by (try simp) <;> omega) _))⟩
theorem vsized_any (W H : Int) (w : World) (h1 : I64 W) (h2 : I64 H) : Calls Tryd.prog 12 #[.agg #[.int .i64 W, .int .i64 H]] w fun e w' => e = .returned (.bool (sizedB W H)) ∧ Below w.heap.size w w' := by
  obtain ⟨m, hm⟩ : ∃ m, min W H = m := ⟨_, rfl⟩
  obtain ⟨M, hM⟩ : ∃ m, max W H = m := ⟨_, rfl⟩
  have e : sizedB W H = (decide (0 ≤ m) && decide (M ≤ 16384)) := by
    unfold sizedB
    rw [Bool.eq_iff_iff]
    simp
    omega
  rw [e]
  clear e
  by_cases c1 : 0 ≤ m
  · rw [decide_eq_true c1]
    go_enter Tryd.func12, Tryd.ntmps12
    go_wp2
    go_ret
    exact ⟨rfl, (by repeat (first | exact Below.refl _ _ | assumption | refine Below.drew ?_ | refine Below.alloc ?_ (by (try simp) <;> omega) _ | refine Below.setCell ?_ (by (try simp) <;> omega) _))⟩
  · rw [decide_eq_false c1]
    go_enter Tryd.func12, Tryd.ntmps12
    go_wp2
    go_ret
    exact ⟨rfl, (by repeat (first | exact Below.refl _ _ | assumption | refine Below.drew ?_ | refine Below.alloc ?_ (by (try simp) <;> omega) _ | refine Below.setCell ?_ (by (try simp) <;> omega) _))⟩
end Go.Proofs.YtpbolbpenkfpiaaDoor
