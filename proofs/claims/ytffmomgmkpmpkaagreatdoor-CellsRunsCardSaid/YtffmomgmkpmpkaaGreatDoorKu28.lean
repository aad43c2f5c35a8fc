/-
  Cells, plain: runs put into a screen.
-/
import Derived.Lib.SlicesCompact
import Derived.Test.YtffmomgmkpmpkaaGreatDoorProg
import Derived.Test.YtffmomgmkpmpkaaGreatDoorKu23
namespace Go.Proofs.YtffmomgmkpmpkaaGreatDoor
open Go.RowKit
set_option linter.unusedVariables false
attribute [local go_sem] vwp vUpon_value vUpon_skip vUpon_enter vUpon_row
set_option linter.unusedSimpArgs false
set_option linter.unusedVariables false
def putGo (wd : Int) (cs : List Ce) (l : List Rn) : List Ce := l.foldl (fun cs r => splC cs (r.y * wd + r.x).toNat r.cells) cs
def fitR (wd ht : Int) (r : Rn) : Bool := plcS wd ht r.x r.y && (!(r.cells.length == 0) && (decide ((r.cells.length : Int) ≤ wd - r.x) && r.cells.all mayC))
theorem fitR_true {wd ht : Int} {r : Rn} : fitR wd ht r = true ↔ (plcS wd ht r.x r.y = true ∧ r.cells.length ≠ 0 ∧ (r.cells.length : Int) ≤ wd - r.x ∧ r.cells.all mayC = true) := by
  unfold fitR
  simp only [Bool.and_eq_true, decide_eq_true_eq, Bool.not_eq_true', beq_eq_false_iff_ne]
theorem fit_len {wd ht : Int} (hfit : fitsS wd ht = true) {cs : List Ce} (hl : (cs.length : Int) = wd * ht) {r : Rn} (h : fitR wd ht r = true) : (r.y * wd + r.x).toNat + r.cells.length ≤ cs.length := by
  obtain ⟨h1, h2, h3, _⟩ := fitR_true.1 h
  obtain ⟨p1, p2, p3, p4⟩ := plcS_true.1 h1
  obtain ⟨z0, z1, z2, z3, z4⟩ := fitsS_true.1 hfit
  obtain ⟨e1, e2⟩ := row_end z0 p2 p4
  omega
theorem putGo_len {wd ht : Int} (hfit : fitsS wd ht = true) : ∀ (l : List Rn) (cs : List Ce), (cs.length : Int) = wd * ht → (∀ r ∈ l, fitR wd ht r = true) → (putGo wd cs l).length = cs.length
  | [], cs, _, _ => rfl
  | r :: l, cs, hl, h => by
    have e := splC_len (fit_len hfit hl (h r (by simp)))
    have := putGo_len hfit l (splC cs (r.y * wd + r.x).toNat r.cells) (by rw [e]; exact hl) (fun q hq => h q (by simp [hq]))
    show (putGo wd (splC cs (r.y * wd + r.x).toNat r.cells) l).length = cs.length
    rw [this, e]
def putE (wd ht : Int) (cs : List Ce) (l : List Rn) : Int := if chkS wd ht cs = 0 then (if 262144 < l.length then 4 else if l.all (fitR wd ht) then 0 else 150) else 150
def putC (wd ht : Int) (cs : List Ce) (l : List Rn) : List Ce := if putE wd ht cs l = 0 then putGo wd cs l else []
def putZ (z wd ht : Int) (cs : List Ce) (l : List Rn) : Int := if putE wd ht cs l = 0 then z else 0
theorem allF_step {wd ht : Int} {l : List Rn} {k : Nat} {c : Rn} (h : l[k]? = some c) : (l.drop k).all (fitR wd ht) = (fitR wd ht c && (l.drop (k + 1)).all (fitR wd ht)) := by
  rw [drop_get h]; rfl
theorem putGo_step {wd : Int} {l : List Rn} {k : Nat} {c : Rn} (h : l[k]? = some c) (cs : List Ce) : putGo wd cs (l.drop k) = putGo wd (splC cs (c.y * wd + c.x).toNat c.cells) (l.drop (k + 1)) := by
  rw [drop_get h]; rfl
end Go.Proofs.YtffmomgmkpmpkaaGreatDoor
