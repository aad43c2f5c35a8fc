/-
  XGw: XLisSd.
-/
import Derived.Test.YtkmofpnefjgnkaaGv
namespace Go.Proofs.Ytkmofpnefjgnkaa
open Go.RowKit
set_option linter.unusedVariables false
attribute [local go_sem] vwp vUpon_value vUpon_skip vUpon_enter vUpon_row
set_option linter.unusedSimpArgs false
set_option linter.unusedVariables false
section
set_option linter.unusedSimpArgs false
set_option linter.unusedVariables false
def clipS (r : Re) : St := ⟨4, r, ⟨0, 0, 0, 0⟩, ⟨0, 0, 0, 0⟩, ⟨#[]⟩, 0⟩
def openS : St := ⟨5, ⟨0, 0, 0, 0⟩, ⟨0, 0, 0, 0⟩, ⟨0, 0, 0, 0⟩, ⟨#[]⟩, 0⟩
def keepB (r : Re) (s : St) (q : Re) : Bool := !drB s || ovrB (plcL s q) r
def selGo (r : Re) : List St → List Re → List St
  | s :: xs, q :: rs => (if keepB r s q then [s] else []) ++ selGo r xs rs
  | _, _ => []
theorem sel_step {r : Re} {xs : List St} {rs : List Re} {k : Nat} {s : St} {q : Re} (hs : xs[k]? = some s) (hq : rs[k]? = some q) : selGo r (xs.drop k) (rs.drop k) = (if keepB r s q then [s] else []) ++ selGo r (xs.drop (k + 1)) (rs.drop (k + 1)) := by
  rw [drop_get hs, drop_get hq]; rfl
theorem sel_end {r : Re} {xs : List St} {rs : List Re} {k : Nat} (h : xs.length ≤ k) : selGo r (xs.drop k) (rs.drop k) = [] := by
  rw [List.drop_eq_nil_of_le h]; rfl
theorem sel_le (r : Re) : ∀ (xs : List St) (rs : List Re), (selGo r xs rs).length ≤ xs.length
  | [], _ => by simp [selGo]
  | _ :: _, [] => by simp [selGo]
  | s :: xs, q :: rs => by
    have := sel_le r xs rs
    simp only [selGo, List.length_append, List.length_cons]
    split <;> simp <;> omega
def cutL (xs : List St) (R : List Re) (r : Re) : List St := [clipS r] ++ selGo r xs R ++ [openS]
theorem cut_le (xs : List St) (R : List Re) (r : Re) : (cutL xs R r).length ≤ xs.length + 2 := by
  have := sel_le r xs R
  unfold cutL
  simp
  omega
def wiGo (xs : List St) (R : List Re) : List Re → List St → Option (List St)
  | [], out => some out
  | r :: l, out => if 16384 < (out ++ busyL (cutL xs R r)).length then none else wiGo xs R l (out ++ busyL (cutL xs R r))
theorem wi_step {xs : List St} {R : List Re} {L : List Re} {k : Nat} {r : Re} {out : List St} (h : L[k]? = some r) : wiGo xs R (L.drop k) out = if 16384 < (out ++ busyL (cutL xs R r)).length then none else wiGo xs R (L.drop (k + 1)) (out ++ busyL (cutL xs R r)) := by
  rw [drop_get h]; rfl
theorem wi_end {xs : List St} {R : List Re} {L : List Re} {k : Nat} {out : List St} (h : L.length ≤ k) : wiGo xs R (L.drop k) out = some out := by
  rw [List.drop_eq_nil_of_le h]; rfl
def optS : Option (List St) → List St
  | some l => l
  | none => []
def optE : Option (List St) → Int
  | some _ => 0
  | none => 4
def wiS (xs : List St) (qs : List Re) : List St := if chkL xs = 0 then (if bothE qs [] 1 = 0 then optS (wiGo xs (shL xs) (bothL qs [] 1) []) else []) else []
def wiE (xs : List St) (qs : List Re) : Int := if chkL xs = 0 then (if bothE qs [] 1 = 0 then optE (wiGo xs (shL xs) (bothL qs [] 1) []) else bothE qs [] 1) else chkL xs
theorem wi_le {xs : List St} {R : List Re} : ∀ (l : List Re) (out : List St), out.length ≤ 16384 → (optS (wiGo xs R l out)).length ≤ 16384
  | [], out, h => by simpa [wiGo, optS] using h
  | r :: l, out, h => by
    unfold wiGo
    split
    · simp [optS]
    · exact wi_le l _ (by omega)
theorem wiS_le (xs : List St) (qs : List Re) : (wiS xs qs).length ≤ 16384 := by
  unfold wiS
  split
  · split
    · exact wi_le _ _ (by simp)
    · simp
  · simp
theorem wf_of_may {l : List Re} (h : MayL l) : WfL l := fun q hq => may_wf (h q hq)
theorem owns_blk {base : Nat} {w : World} {b : Nat} {s : St} (h : Blk w b s.enc 45) (hb : base ≤ b) : Owns base w (.slice (some ⟨b, 0, none⟩) 1 1) [s] :=
  ⟨rfl, .inr ⟨b, 1, s.enc.toArray, rfl, hb, h, Nat.le_refl _, by unfold maxLen; omega, rfl, rfl⟩⟩
end
end Go.Proofs.Ytkmofpnefjgnkaa
