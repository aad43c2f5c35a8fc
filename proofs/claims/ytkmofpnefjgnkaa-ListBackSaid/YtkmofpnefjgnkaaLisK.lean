/-
  slices.Grow of a nil list, slices.Clone, slices.Concat of two lists; 'own' of the law.
-/
import Derived.Shelf.Spec.SlicesGrow
import Derived.Test.YtkmofpnefjgnkaaLisJ
namespace Go.Proofs
open Go.Shelf
def Ytkmofpnefjgnkaa.growRen : Go.Shelf.Ren := ⟨fun | 4 => 56 | n => n, fun | 22 => 22 | 25 => 45 | n => n, fun n => n⟩
theorem Ytkmofpnefjgnkaa.growLays : Lays8.n4 Try.prog Ytkmofpnefjgnkaa.growRen := {
  mixed := by kernel_rfl
  f4 := ⟨Try.f56.name, by decide, Try.func56.trans (congrArg some (by kernel_rfl))⟩
  t0 := Try.underlying0
  a0 := Try.isAgg0
  z0 := Try.sizeOf0
  v0 := Try.zeroValue0
  t3 := Try.underlying3
  a3 := Try.isAgg3
  z3 := Try.sizeOf3
  v3 := Try.zeroValue3
  t4 := Try.underlying4
  a4 := Try.isAgg4
  z4 := Try.sizeOf4
  v4 := Try.zeroValue4
  t9 := Try.underlying9
  a9 := Try.isAgg9
  z9 := Try.sizeOf9
  v9 := Try.zeroValue9
  t20 := Try.underlying20
  a20 := Try.isAgg20
  z20 := Try.sizeOf20
  v20 := Try.zeroValue20
  t22 := Try.underlying22
  a22 := Try.isAgg22
  z22 := Try.sizeOf22
  v22 := Try.zeroValue22 }
end Go.Proofs
namespace Go.Proofs.Ytkmofpnefjgnkaa
open Go.RowKit
set_option linter.unusedVariables false
attribute [local go_sem] vwp vUpon_value vUpon_skip vUpon_enter vUpon_row
set_option linter.unusedSimpArgs false
set_option linter.unusedVariables false
theorem grow_any (n : Nat) (w : World) (hn : n ≤ 65536) : Calls Try.prog 56 #[.slice none 0 0, .int .i64 n] w fun e w' => ∃ v, e = .returned v ∧ w'.ownsRow w.heap.size 45 15 v 0 [] ∧ Below w.heap.size w w' := by
  obtain ⟨iM, hi0, hm0, hm1, hm2⟩ := info_parts infoSt
  rcases Nat.eq_zero_or_pos n with rfl | h0
  · refine (Any8.slices_Grow_room Ytkmofpnefjgnkaa.growLays none 0 0 0 w (Nat.le_refl _) (by omega) (by omega) (by omega)).mono ?_
    rintro e w' ⟨rfl, rfl⟩
    exact ⟨_, rfl, World.ownsRow_nil _ _ _ _, Below.refl _ _⟩
  · refine (Any8.slices_Grow_grow Ytkmofpnefjgnkaa.growLays iM _ hi0 hm0 (by omega) none 0 0 n [] w (Nat.le_refl _) (by omega) (by rw [hm2]; omega) (by omega) (by simp) (fun _ => rfl) (fun a h => by cases h)).mono ?_
    rintro e w' ⟨rfl, rfl⟩
    have hge := grownCap_ge w (0 + n) 0 (Ytkmofpnefjgnkaa.growRen.t 25)
    have hle := grownCap_le_maxLen w (0 + n) 0 (Ytkmofpnefjgnkaa.growRen.t 25) (by unfold maxLen; omega)
    refine ⟨_, rfl, ⟨by simp, .inr ⟨w.heap.size, _, _, rfl, Nat.le_refl _, heap_alloc_new w.drew _, Nat.zero_le _, hle, ?_, by simp⟩⟩, (Below.refl _ _).drew.alloc (Nat.le_refl _) _⟩
    simp only [Array.size_append, List.size_toArray, size_zeroCells, List.length_nil]
    rw [show (Value.agg #[.int .u8 0, .int .i64 0, .int .i64 0, .int .i64 0, .int .i64 0, .int .u8 0, .int .u8 0, .int .u8 0, .int .u8 0, .int .u8 0, .int .u8 0, .int .u8 0, .int .u8 0, .string ⟨#[]⟩, .int .i64 0]).cells.size = 15 from rfl]
    omega
end Go.Proofs.Ytkmofpnefjgnkaa
