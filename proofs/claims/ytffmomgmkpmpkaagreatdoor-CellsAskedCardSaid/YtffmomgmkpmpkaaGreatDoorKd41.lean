/-
  Cells: the values of the document's examples.
-/
import Derived.Shelf.SlSortCmp.WholeK
import Derived.Shelf.Slices.CompactI
import Derived.Shelf.Slices.In.SortNone
import Derived.Shelf.Sort.Plain
import Derived.Sort.OwnSortedInts
import Derived.Test.YtffmomgmkpmpkaaGreatDoorProg
import Derived.Test.YtffmomgmkpmpkaaGreatDoorKd32
import Derived.Test.YtffmomgmkpmpkaaGreatDoorKd38
import Derived.Test.YtffmomgmkpmpkaaGreatDoorKd39
import Derived.Test.YtffmomgmkpmpkaaGreatDoorKd40
namespace Go.Proofs.YtffmomgmkpmpkaaGreatDoor
open Go.RowKit
set_option linter.unusedVariables false
attribute [local go_sem] vwp vUpon_value vUpon_skip vUpon_enter vUpon_row
set_option linter.unusedSimpArgs false
set_option linter.unusedVariables false
def coZ : Co := ⟨0, 0, 0, 0⟩
def coW : Co := ⟨255, 255, 255, 255⟩
def awT1 : ByteArray := ⟨#[97, 98, 10, 99]⟩
def awT2 : ByteArray := ⟨#[228, 184, 128, 120]⟩
def awX : List UInt8 := [27, 91, 49, 59, 52, 72, 97, 98]
def awS1 : St := ⟨3, ⟨1, 0, 2, 2⟩, coW, coZ, awT1, 0⟩
def awS2 : St := ⟨3, ⟨3, 0, 1, 1⟩, coW, coZ, awT2, 0⟩
def awC0 : List Ce := blankC 4 2 coZ
def awCA : List Ce := drawC glyS 4 2 awC0 [awS1]
def awCC : List Ce := drawC glyS 4 2 awC0 [awS2]
def awL : List Rn := runsL 4 2 awC0 4 2 awCA
theorem aw_blank : blankE 4 2 = 0 ∧ blankZ 4 4 2 = 4 ∧ blankZ 2 4 2 = 2 := ⟨by kernel_rfl, by kernel_rfl, by kernel_rfl⟩
theorem aw_d1 : drawE 4 2 awC0 [awS1] = 0 ∧ drawZ 4 4 2 awC0 [awS1] = 4 ∧ drawZ 2 4 2 awC0 [awS1] = 2 := ⟨by kernel_rfl, by kernel_rfl, by kernel_rfl⟩
theorem aw_d2 : drawE 4 2 awC0 [awS2] = 0 ∧ drawZ 4 4 2 awC0 [awS2] = 4 ∧ drawZ 2 4 2 awC0 [awS2] = 2 := ⟨by kernel_rfl, by kernel_rfl, by kernel_rfl⟩
theorem aw_t : chkS 4 2 awCA = 0 ∧ txtL 4 2 awCA = [32, 97, 98, 32, 10, 32, 99, 32, 32, 10] := ⟨by kernel_rfl, by kernel_rfl⟩
theorem aw_l : runsE 4 2 awC0 4 2 awCA = 0 ∧ awL.length = 2 ∧ (awL[1]?).map (fun r => (r.x, r.y)) = some (1, 1) := ⟨by kernel_rfl, by kernel_rfl, by kernel_rfl⟩
theorem aw_x : escE awL = 0 := by kernel_rfl
theorem aw_r1 : readS 4 2 awC0 ((escT awL).data.toList) = (0, 0, 4, 2, awCA) := by kernel_rfl
theorem aw_r2 : readS 4 2 awC0 awX = (150, 7, 0, 0, []) := by kernel_rfl
theorem aw_c : awCC.length = 8 ∧ (awCC[3]?).map (fun c => (c.wide, c.rune)) = some (true, 19968) := ⟨by kernel_rfl, by kernel_rfl⟩
theorem aw_k : chkS 1 0 [] = 0 := by kernel_rfl
/-! ### bounds, by a check -/
def u8B (x : Int) : Bool := decide (0 ≤ x) && decide (x ≤ 255)
def coB (c : Co) : Bool := u8B c.r && (u8B c.g && (u8B c.b && u8B c.a))
theorem coB_wf {c : Co} (h : coB c = true) : c.Wf := by
  unfold coB u8B at h
  simp only [Bool.and_eq_true, decide_eq_true_eq] at h
  unfold Co.Wf U8
  omega
def ceB (l : List Ce) : Bool := l.all fun c => coB c.col && coB c.back
theorem ceB_wf {l : List Ce} (h : ceB l = true) : CeL l := by
  intro c hc
  have h := List.all_eq_true.1 h c hc
  simp only [Bool.and_eq_true] at h
  exact ⟨trivial, coB_wf h.1, coB_wf h.2⟩
def i64B (x : Int) : Bool := decide (-9223372036854775808 ≤ x) && decide (x ≤ 9223372036854775807)
theorem i64B_wf {x : Int} (h : i64B x = true) : I64 x := by
  unfold i64B at h
  simp only [Bool.and_eq_true, decide_eq_true_eq] at h
  exact h
def rnB (l : List Rn) : Bool := l.all fun r => i64B r.x && (i64B r.y && ceB r.cells)
theorem rnB_wf {l : List Rn} (h : rnB l = true) : ∀ r ∈ l, RnWf r := by
  intro r hr
  have h := List.all_eq_true.1 h r hr
  simp only [Bool.and_eq_true] at h
  exact ⟨i64B_wf h.1, i64B_wf h.2.1, ceB_wf h.2.2⟩
theorem aw_wf0 : CeL awC0 := ceB_wf (by kernel_rfl)
theorem aw_wfL : ∀ r ∈ awL, RnWf r := rnB_wf (by kernel_rfl)
theorem aw_wf1 : awS1.Wf := ⟨(by unfold U8; decide), ⟨i64B_wf rfl, i64B_wf rfl, i64B_wf rfl, i64B_wf rfl⟩, coB_wf rfl, coB_wf rfl, (by show 4 ≤ maxLen; unfold maxLen; omega), i64B_wf rfl⟩
theorem aw_wf2 : awS2.Wf := ⟨(by unfold U8; decide), ⟨i64B_wf rfl, i64B_wf rfl, i64B_wf rfl, i64B_wf rfl⟩, coB_wf rfl, coB_wf rfl, (by show 4 ≤ maxLen; unfold maxLen; omega), i64B_wf rfl⟩
theorem draw_lit (wd ht : Int) (cs : List Ce) (st : St) (v : Value) (W u : World) (g base : Nat) (h1 : I64 wd) (h2 : I64 ht) (ho : OwnsC base W v cs) (hc : CeL cs) (hs : st.Wf) (hu : Below W.heap.size W u) (hg : Blk u g st.enc 46) :
    Calls Tryz.prog 12 #[.agg #[.int .i64 (wd), .int .i64 (ht), v], .slice (some ⟨g, 0, none⟩) 1 1] u (OutS u.heap.size (drawE wd ht cs [st]) (drawZ wd wd ht cs [st]) (drawZ ht wd ht cs [st]) (drawC glyS wd ht cs [st]) u) :=
  cdraw_any glyS glyphs_any wd ht cs v [st] _ u h1 h2 ((ho.below hu (Nat.le_refl _)).row (Nat.le_refl _)) hc
    (Blk.row (xs := [st]) (cap := 1) St.enc_len hg (by show st.enc.take 15 = st.enc ++ []; rw [List.append_nil]; exact List.take_of_length_le (by rw [St.enc_len]; exact Nat.le_refl _)) (Nat.le_refl _) (by unfold maxLen; omega) hg.lt)
    (fun s h => by rw [List.mem_singleton] at h; subst h; exact hs)
/-- Runs of the call's own, as arguments. -/
theorem RunRows.at_ {base B : Nat} {W : World} {v : Value} {l : List Rn} (h : RunRows base W v l) (hB : W.heap.size ≤ B) : RunsAt B W v l := by
  obtain ⟨vs, hl, hr, hj, _⟩ := h
  refine ⟨l.zip vs, ?_, ?_, fun p hp => ?_⟩
  · rw [List.map_fst_zip]; omega
  · have hz : (l.zip vs).length = l.length := by rw [List.length_zip, hl, Nat.min_self]
    rw [← hz] at hr
    exact Row.own encRn_len hr hB (by omega)
  · obtain ⟨j, hjp⟩ := List.mem_iff_getElem?.1 hp
    rw [List.getElem?_zip_eq_some] at hjp
    exact (hj j p.2 p.1 hjp.2 hjp.1).row hB
theorem RunRows.slice {base : Nat} {W : World} {v : Value} {l : List Rn} (h : RunRows base W v l) : ∃ s cap, v = .slice s l.length cap := by
  obtain ⟨vs, hl, hr, hj, _⟩ := h
  exact own_slice hr
end Go.Proofs.YtffmomgmkpmpkaaGreatDoor
