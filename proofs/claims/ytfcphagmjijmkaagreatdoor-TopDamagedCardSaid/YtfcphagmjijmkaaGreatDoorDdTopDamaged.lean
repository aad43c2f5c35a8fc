/-
  The law TopDamaged holds of the given program: for every input it returns true, and its arguments read as they did.
-/
import Derived.Test.YtfcphagmjijmkaaGreatDoorDd37
namespace Go.Proofs.YtfcphagmjijmkaaGreatDoor.topDamaged
open Go.ChangeShapes Go.WideShapes Go.ChangeAt Go.RowKit Go.Joins
open Go.ChangeMaps (open_string shut_string)
set_option linter.unusedVariables false

theorem closed : joinedFacts Tryz.pinned.checked.prog 3 Tryz.f3 Rows.topDamagedSpec Rows.topDamagedRow = true := by
 simp only [joinedFacts, Bool.and_eq_true]; refine ⟨⟨⟨⟨⟨⟨⟨⟨⟨⟨⟨⟨⟨⟨⟨⟨⟨⟨⟨⟨⟨⟨⟨⟨⟨⟨⟨⟨⟨⟨⟨?_, ?_⟩, ?_⟩, ?_⟩, ?_⟩, ?_⟩, ?_⟩, ?_⟩, ?_⟩, fa⟩, fb⟩, fc⟩, fd⟩, ?_⟩, ?_⟩, ?_⟩, ?_⟩, ?_⟩, ?_⟩, ?_⟩, ?_⟩, ?_⟩, ?_⟩, ?_⟩, ?_⟩, fe⟩, ff⟩, fg⟩, ?_⟩, ?_⟩, ?_⟩, ?_⟩
 all_goals kernel_rfl

theorem over : Rows.topDamagedRow.holds Tryz.pinned (OpenSpec.ofChange Rows.topDamagedSpec) :=
 OpenClaim.holds_of_wide 3 Tryz.f3 rfl rfl rfl rfl rfl rfl rfl ⟨rfl, rfl, rfl, rfl, rfl⟩ rfl rfl rfl rfl rfl (by kernel_rfl) Tryz.func3 closed
  (of_decide_eq_true (by kernel_rfl)) (by unfold Func.isWrapper; first | (rw [if_pos (by decide +kernel)]; kernel_rfl) | (rw [if_neg (by decide +kernel)]; exact ⟨rfl, rfl⟩))
  (fun os started H enc _ => lifted os started H enc)

set_option maxRecDepth 100000 in
theorem proved : Rows.TopDamagedCardSaid :=
 Claim7.holds_tied_plain_at .later [] [.data, .data, .data, .data, .pinned] true (true, "4dd5c046bb7ec9c5bbfe26812e3e6524b353736d4943b0787974ac3129a6d645") false
  over (fun _ h => by cases h) (by kernel_rfl) (fun _ h => by cases h) topDamaged_row_tie rfl ⟨rfl, rfl⟩ (by kernel_rfl) rfl
  (fun f fn hf hfn => by
   obtain rfl : f = 3 := Option.some.inj ((show Tryz.prog.funcNamed "casement/casementtop.TopDamaged" = some 3 by kernel_rfl).symm.trans hf) |>.symm
   obtain rfl : fn = Tryz.f3 := (Option.some.inj (Tryz.func3.symm.trans hfn)).symm
   exact ⟨by kernel_rfl, fun j t ht => by
    rw [Tryz.params3] at ht
    have hm : t ∈ [22, 22, 24] := by simpa using Array.mem_of_getElem? ht
    have hall : ([22, 22, 24].all fun u => !Tryz.prog.wantsStandIn u) = true := by kernel_rfl
    exact (show Tryz.prog.wantsStandIn t = false by simpa using List.all_eq_true.1 hall t hm)⟩)
  (by kernel_rfl)
end Go.Proofs.YtfcphagmjijmkaaGreatDoor.topDamaged
