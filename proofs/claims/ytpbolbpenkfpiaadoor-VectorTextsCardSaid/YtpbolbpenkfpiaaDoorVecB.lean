/-
  A rectangle's fields, by both.
-/
import Derived.Test.YtpbolbpenkfpiaaDoorVecA
import Derived.Test.YtpbolbpenkfpiaaDoorVc
namespace Go.Proofs.YtpbolbpenkfpiaaDoor
open Go.RowKit
set_option linter.unusedVariables false
attribute [local go_sem] vwp vUpon_value vUpon_skip vUpon_enter vUpon_row
set_option linter.unusedSimpArgs false
set_option linter.unusedVariables false
theorem ba_ext {a b : ByteArray} (h : a.data.toList = b.data.toList) : a = b := by
  rw [ByteArray.ext_iff]
  exact Array.toList_inj.1 h
def fldS (nm v : ByteArray) : ByteArray := ⟨#[32]⟩ ++ nm ++ ⟨#[61, 34]⟩ ++ v ++ ⟨#[34]⟩
def rectS (q : Re) : ByteArray := fldS ⟨#[120]⟩ (numS q.x) ++ fldS ⟨#[121]⟩ (numS q.y) ++ fldS ⟨#[119]⟩ (numS q.wd) ++ fldS ⟨#[104]⟩ (numS q.ht)
theorem rect_eq (a b c d : ByteArray) : ⟨#[32, 120, 61, 34]⟩ ++ a ++ ⟨#[34, 32, 121, 61, 34]⟩ ++ b ++ ⟨#[34, 32, 119, 61, 34]⟩ ++ c ++ ⟨#[34, 32, 104, 61, 34]⟩ ++ d ++ ⟨#[34]⟩ = fldS ⟨#[120]⟩ a ++ fldS ⟨#[121]⟩ b ++ fldS ⟨#[119]⟩ c ++ fldS ⟨#[104]⟩ d := by
  apply ba_ext
  simp [fldS]
theorem fld_size (nm v : ByteArray) : (fldS nm v).size = nm.size + v.size + 4 := by
  simp only [fldS, ByteArray.size_append]
  have e1 : (⟨#[32]⟩ : ByteArray).size = 1 := rfl
  have e2 : (⟨#[61, 34]⟩ : ByteArray).size = 2 := rfl
  have e3 : (⟨#[34]⟩ : ByteArray).size = 1 := rfl
  omega
def SmallR (q : Re) : Prop := (-1000000000 ≤ q.x ∧ q.x ≤ 1000000000) ∧ (-1000000000 ≤ q.y ∧ q.y ≤ 1000000000) ∧ (-1000000000 ≤ q.wd ∧ q.wd ≤ 1000000000) ∧ (-1000000000 ≤ q.ht ∧ q.ht ≤ 1000000000)
theorem rect_size {q : Re} (h : SmallR q) : (rectS q).size ≤ 64 := by
  obtain ⟨⟨a1, a2⟩, ⟨b1, b2⟩, ⟨c1, c2⟩, ⟨d1, d2⟩⟩ := h
  have z1 := num_size a1 a2
  have z2 := num_size b1 b2
  have z3 := num_size c1 c2
  have z4 := num_size d1 d2
  have e1 : (⟨#[120]⟩ : ByteArray).size = 1 := rfl
  have e2 : (⟨#[121]⟩ : ByteArray).size = 1 := rfl
  have e3 : (⟨#[119]⟩ : ByteArray).size = 1 := rfl
  have e4 : (⟨#[104]⟩ : ByteArray).size = 1 := rfl
  simp only [rectS, ByteArray.size_append, fld_size]
  omega
theorem field_any (nm v : ByteArray) (w : World) (h1 : nm.size ≤ 10) (h2 : v.size ≤ 1000000) : Calls Tryd.prog 20 #[.string nm, .string v] w fun e w' => e = .returned (.string (fldS nm v)) ∧ w = w' := by
  unfold fldS
  go_enter Tryd.func20, Tryd.ntmps20
  go_wp2
  go_ret
  exact ⟨rfl, rfl⟩
set_option maxHeartbeats 1000000 in
set_option maxRecDepth 100000 in
theorem vrect_any (q : Re) (w : World) (hD : DigT w) (h : SmallR q) : Calls Tryd.prog 33 #[.agg #[.int .i64 (q).x, .int .i64 (q).y, .int .i64 (q).wd, .int .i64 (q).ht]] w fun e w' => e = .returned (.string (rectS q)) ∧ Below w.heap.size w w' := by
  have E := rect_eq (numS q.x) (numS q.y) (numS q.wd) (numS q.ht)
  obtain ⟨⟨a1, a2⟩, ⟨b1, b2⟩, ⟨c1, c2⟩, ⟨d1, d2⟩⟩ := h
  have z1 := num_size a1 a2
  have z2 := num_size b1 b2
  have z3 := num_size c1 c2
  have z4 := num_size d1 d2
  unfold rectS
  rw [← E]
  replace hD := Lib.hid hD
  clear E
  go_enter Tryd.func33, Tryd.ntmps33
  go_wp2_with fail
  refine wp_region_steady (Held w 1 [(⟨w.heap.size, 0, none⟩, .int .i64 (q).x), (⟨w.heap.size, 1, none⟩, .int .i64 (q).y), (⟨w.heap.size, 2, none⟩, .int .i64 (q).wd), (⟨w.heap.size, 3, none⟩, .int .i64 (q).ht)]) (by kernel_rfl) (by kernel_rfl) ⟨(by repeat (first | exact Below.refl _ _ | assumption | refine Below.drew ?_ | refine Below.alloc ?_ (by (try simp) <;> omega) _ | refine Below.setCell ?_ (by (try simp) <;> omega) _ | (refine Below.trans ?_ (Below.mono (by assumption) (by (try simp) <;> omega))))), (by (try simp) <;> omega), (by first | exact trivial | (simp only [Cells]; go_simp))⟩ ?_
  repeat (first | (refine' wpSteady_do _ _ _; rotate_left; (focus rfl); (focus (intro w1 hS R hR; have hc := hS.cells; simp only [Cells] at hc; obtain ⟨hco, hfo⟩ := bcell hS.old; go_simp; (try go_bits); (try (rw [if_neg (by omega)]; go_simp)); first | exact hR _ hS | (go_at_call 14; (with_reducible refine (itoa_any _ _ (hD.out.below hS.old (Nat.le_refl _)) (by omega) (by omega)).mono ?_); rintro e w2 ⟨rfl, hb2⟩; exact ⟨_, rfl, hR _ (hS.below hb2)⟩))); simp only [Act.put, List.setIfInBounds_toArray, List.set_cons_zero, List.set_cons_succ]) | (refine wpSteady_pass ?_ ?_; (focus rfl); simp only [Act.put, List.setIfInBounds_toArray, List.set_cons_zero, List.set_cons_succ]))
  refine wpSteady_nil (fun uA hSA => ?_)
  have hcA := hSA.cells; have hbA := hSA.old; have hzA := hSA.size; clear hSA; simp only [Cells] at hcA; obtain ⟨hcoA, hfoA⟩ := bcell hbA
  go_wp2
  go_ret
  exact ⟨rfl, hbA⟩
set_option maxHeartbeats 1000000 in
set_option maxRecDepth 100000 in
theorem krect_any (q : Re) (w : World) (h : SmallR q) : Calls Tryd.prog 36 #[.agg #[.int .i64 (q).x, .int .i64 (q).y, .int .i64 (q).wd, .int .i64 (q).ht]] w fun e w' => e = .returned (.string (rectS q)) ∧ Below w.heap.size w w' := by
  obtain ⟨⟨a1, a2⟩, ⟨b1, b2⟩, ⟨c1, c2⟩, ⟨d1, d2⟩⟩ := h
  have z1 := num_size a1 a2
  have z2 := num_size b1 b2
  have z3 := num_size c1 c2
  have z4 := num_size d1 d2
  have y1 : (fldS ⟨#[120]⟩ (numS q.x)).size ≤ 20 := by rw [fld_size]; show 1 + _ + _ ≤ _; omega
  have y2 : (fldS ⟨#[121]⟩ (numS q.y)).size ≤ 20 := by rw [fld_size]; show 1 + _ + _ ≤ _; omega
  have y3 : (fldS ⟨#[119]⟩ (numS q.wd)).size ≤ 20 := by rw [fld_size]; show 1 + _ + _ ≤ _; omega
  have y4 : (fldS ⟨#[104]⟩ (numS q.ht)).size ≤ 20 := by rw [fld_size]; show 1 + _ + _ ≤ _; omega
  unfold rectS
  go_enter Tryd.func36, Tryd.ntmps36
  go_wp2_with fail
  refine wp_region_steady (Held w 1 [(⟨w.heap.size, 0, none⟩, .int .i64 (q).x), (⟨w.heap.size, 1, none⟩, .int .i64 (q).y), (⟨w.heap.size, 2, none⟩, .int .i64 (q).wd), (⟨w.heap.size, 3, none⟩, .int .i64 (q).ht)]) (by kernel_rfl) (by kernel_rfl) ⟨(by repeat (first | exact Below.refl _ _ | assumption | refine Below.drew ?_ | refine Below.alloc ?_ (by (try simp) <;> omega) _ | refine Below.setCell ?_ (by (try simp) <;> omega) _ | (refine Below.trans ?_ (Below.mono (by assumption) (by (try simp) <;> omega))))), (by (try simp) <;> omega), (by first | exact trivial | (simp only [Cells]; go_simp))⟩ ?_
  repeat (first | (refine' wpSteady_do _ _ _; rotate_left; (focus rfl); (focus (intro w1 hS R hR; have hc := hS.cells; simp only [Cells] at hc; obtain ⟨hco, hfo⟩ := bcell hS.old; go_simp; (try go_bits); (try (rw [if_neg (by omega)]; go_simp)); first | exact hR _ hS | (go_at_call 21; (with_reducible refine (number_any _ _ (by omega) (by omega)).mono ?_); rintro e w2 ⟨rfl, rfl⟩; exact ⟨_, rfl, hR _ hS⟩) | (go_at_call 20; (with_reducible refine (field_any _ _ _ (by decide) (by omega)).mono ?_); rintro e w2 ⟨rfl, rfl⟩; exact ⟨_, rfl, hR _ hS⟩))); simp only [Act.put, List.setIfInBounds_toArray, List.set_cons_zero, List.set_cons_succ]) | (refine wpSteady_pass ?_ ?_; (focus rfl); simp only [Act.put, List.setIfInBounds_toArray, List.set_cons_zero, List.set_cons_succ]))
  refine wpSteady_nil (fun uA hSA => ?_)
  have hcA := hSA.cells; have hbA := hSA.old; have hzA := hSA.size; clear hSA; simp only [Cells] at hcA; obtain ⟨hcoA, hfoA⟩ := bcell hbA
  go_wp2
  go_ret
  exact ⟨rfl, hbA⟩
end Go.Proofs.YtpbolbpenkfpiaaDoor
