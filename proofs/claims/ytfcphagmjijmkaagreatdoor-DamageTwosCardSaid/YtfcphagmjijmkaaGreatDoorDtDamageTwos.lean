/-
  The law DamageTwos holds of the given program: for every input it returns true, and its arguments read as they did.
-/
import Derived.Test.YtfcphagmjijmkaaGreatDoorDt36
namespace Go.Proofs.YtfcphagmjijmkaaGreatDoor.damageTwos
open Go.ChangeShapes Go.WideShapes Go.ChangeAt Go.RowKit Go.Joins
open Go.ChangeMaps (open_string shut_string)
set_option linter.unusedVariables false

theorem closed : joinedFacts Tryz.pinned.checked.prog 5 Tryz.f5 Rows.damageTwosSpec Rows.damageTwosRow = true := by
 simp only [joinedFacts, Bool.and_eq_true]; refine ⟨⟨⟨⟨⟨⟨⟨⟨⟨⟨⟨⟨⟨⟨⟨⟨⟨⟨⟨⟨⟨⟨⟨⟨⟨⟨⟨⟨⟨⟨⟨?_, ?_⟩, ?_⟩, ?_⟩, ?_⟩, ?_⟩, ?_⟩, ?_⟩, ?_⟩, fa⟩, fb⟩, fc⟩, fd⟩, ?_⟩, ?_⟩, ?_⟩, ?_⟩, ?_⟩, ?_⟩, ?_⟩, ?_⟩, ?_⟩, ?_⟩, ?_⟩, ?_⟩, fe⟩, ff⟩, fg⟩, ?_⟩, ?_⟩, ?_⟩, ?_⟩
 all_goals kernel_rfl

theorem over : Rows.damageTwosRow.holds Tryz.pinned (OpenSpec.ofChange Rows.damageTwosSpec) :=
 OpenClaim.holds_of_wide 5 Tryz.f5 rfl rfl rfl rfl rfl rfl rfl ⟨rfl, rfl, rfl, rfl, rfl⟩ rfl rfl rfl rfl rfl (by kernel_rfl) Tryz.func5 closed
  (of_decide_eq_true (by kernel_rfl)) (by unfold Func.isWrapper; first | (rw [if_pos (by decide +kernel)]; kernel_rfl) | (rw [if_neg (by decide +kernel)]; exact ⟨rfl, rfl⟩))
  (fun os started H enc _ => lifted os started H enc)

set_option maxRecDepth 100000 in
theorem proved : Rows.DamageTwosCardSaid :=
 Claim7.holds_tied_plain_at .later [] [.data, .pinned] true (true, "4dd5c046bb7ec9c5bbfe26812e3e6524b353736d4943b0787974ac3129a6d645") false
  over (fun _ h => by cases h) (by kernel_rfl) (fun _ h => by cases h) damageTwos_row_tie rfl ⟨rfl, rfl⟩ (by kernel_rfl) rfl
  (fun f fn hf hfn => by
   obtain rfl : f = 5 := Option.some.inj ((show Tryz.prog.funcNamed "casement/casementlaw17.DamageTwos" = some 5 by kernel_rfl).symm.trans hf) |>.symm
   obtain rfl : fn = Tryz.f5 := (Option.some.inj (Tryz.func5.symm.trans hfn)).symm
   exact ⟨by kernel_rfl, fun j t ht => by
    rw [Tryz.params5] at ht
    have hm : t ∈ [22, 22] := by simpa using Array.mem_of_getElem? ht
    have hall : ([22, 22].all fun u => !Tryz.prog.wantsStandIn u) = true := by kernel_rfl
    exact (show Tryz.prog.wantsStandIn t = false by simpa using List.all_eq_true.1 hall t hm)⟩)
  (by kernel_rfl)
end Go.Proofs.YtfcphagmjijmkaaGreatDoor.damageTwos
