/-
  DERIVED. GIVEN WITH THE SEED: THE CARDS: each row of YtfcphagmjijmkaaGreatDoorRows.lean that lists a variable, with what it lists TIED to the program's text (the seventh form; the later family's looks); each row that meets fmt, with fmt's text TOLD by the authors' own Lean function (tested against real Go, not proved from fmt's source: count such statements apart). THE CARD IS WHAT COUNTS. Prove the row's statement (the work); the ties are given (YtfcphagmjijmkaaGreatDoorTie.lean); close each card by the builder's one call (the guide's Derived/Test/ToyasCard.lean, 'card_holds'). Laid BY PROGRAM, IN A SANDBOX (cutbox-door.mjs). By AI agents, Wed Nov 11 2026. No macro, syntax, notation, axiom, sorry.
-/
import Derived.Test.YtfcphagmjijmkaaGreatDoorRows
import GoSem.ClaimSeven
namespace Go.Proofs.YtfcphagmjijmkaaGreatDoor
namespace Rows

/-- THE TIED CARD OF 'casementtop.TopDamaged'. -/
def topDamagedCard : Claim7 := { stood := { row := topDamagedRow, standIns := [], harness := (true, "4dd5c046bb7ec9c5bbfe26812e3e6524b353736d4943b0787974ac3129a6d645"), looks := false }, kinds := [], alts := [], laidByText := true, laidKinds := [.data, .data, .data, .data, .pinned], laidTests := true, laidLooks := .later }
def TopDamagedCardSaid : Prop := Claim7.holds Tryz.pinned (.plain (OpenSpec.ofChange topDamagedSpec)) topDamagedCard

/-- THE TIED CARD OF 'casementlaw17.DamageNames'. -/
def damageNamesCard : Claim7 := { stood := { row := damageNamesRow, standIns := [], harness := (true, "4dd5c046bb7ec9c5bbfe26812e3e6524b353736d4943b0787974ac3129a6d645"), looks := false }, kinds := [], alts := [], laidByText := true, laidKinds := [.data, .pinned], laidTests := true, laidLooks := .later }
def DamageNamesCardSaid : Prop := Claim7.holds Tryz.pinned (.plain (OpenSpec.ofChange damageNamesSpec)) damageNamesCard

/-- THE TIED CARD OF 'casementlaw17.DamageTwos'. -/
def damageTwosCard : Claim7 := { stood := { row := damageTwosRow, standIns := [], harness := (true, "4dd5c046bb7ec9c5bbfe26812e3e6524b353736d4943b0787974ac3129a6d645"), looks := false }, kinds := [], alts := [], laidByText := true, laidKinds := [.data, .pinned], laidTests := true, laidLooks := .later }
def DamageTwosCardSaid : Prop := Claim7.holds Tryz.pinned (.plain (OpenSpec.ofChange damageTwosSpec)) damageTwosCard

/-- THE TIED CARD OF 'casementlaw17.DamageMends'. -/
def damageMendsCard : Claim7 := { stood := { row := damageMendsRow, standIns := [], harness := (true, "4dd5c046bb7ec9c5bbfe26812e3e6524b353736d4943b0787974ac3129a6d645"), looks := false }, kinds := [], alts := [], laidByText := true, laidKinds := [.data, .pinned], laidTests := true, laidLooks := .later }
def DamageMendsCardSaid : Prop := Claim7.holds Tryz.pinned (.plain (OpenSpec.ofChange damageMendsSpec)) damageMendsCard

/-- THE TIED CARD OF 'casementlaw17.DamageChanges'. -/
def damageChangesCard : Claim7 := { stood := { row := damageChangesRow, standIns := [], harness := (true, "4dd5c046bb7ec9c5bbfe26812e3e6524b353736d4943b0787974ac3129a6d645"), looks := false }, kinds := [], alts := [], laidByText := true, laidKinds := [.data, .pinned], laidTests := true, laidLooks := .later }
def DamageChangesCardSaid : Prop := Claim7.holds Tryz.pinned (.plain (OpenSpec.ofChange damageChangesSpec)) damageChangesCard

/-- THE TIED CARD OF 'casementlaw17.DamageNodes'. -/
def damageNodesCard : Claim7 := { stood := { row := damageNodesRow, standIns := [], harness := (true, "4dd5c046bb7ec9c5bbfe26812e3e6524b353736d4943b0787974ac3129a6d645"), looks := false }, kinds := [], alts := [], laidByText := true, laidKinds := [.data, .pinned], laidTests := true, laidLooks := .later }
def DamageNodesCardSaid : Prop := Claim7.holds Tryz.pinned (.plain (OpenSpec.ofChange damageNodesSpec)) damageNodesCard

/-- THE TIED CARD OF 'casementlaw17.DamageMended'. -/
def damageMendedCard : Claim7 := { stood := { row := damageMendedRow, standIns := [], harness := (true, "4dd5c046bb7ec9c5bbfe26812e3e6524b353736d4943b0787974ac3129a6d645"), looks := false }, kinds := [], alts := [], laidByText := true, laidKinds := [.data, .pinned], laidTests := true, laidLooks := .later }
def DamageMendedCardSaid : Prop := Claim7.holds Tryz.pinned (.plain (OpenSpec.ofChange damageMendedSpec)) damageMendedCard

/-- THE TIED CARD OF 'casementlaw17.DamageNone'. -/
def damageNoneCard : Claim7 := { stood := { row := damageNoneRow, standIns := [], harness := (true, "4dd5c046bb7ec9c5bbfe26812e3e6524b353736d4943b0787974ac3129a6d645"), looks := false }, kinds := [], alts := [], laidByText := true, laidKinds := [.data, .pinned], laidTests := true, laidLooks := .later }
def DamageNoneCardSaid : Prop := Claim7.holds Tryz.pinned (.plain (OpenSpec.ofChange damageNoneSpec)) damageNoneCard

/-- THE SECOND FORM's CARD OF 'casementtop.TopDamaged'. -/
def topDamagedUptoCard : Claim7 := { stood := { row := topDamagedUptoRow, standIns := [], harness := (true, "4dd5c046bb7ec9c5bbfe26812e3e6524b353736d4943b0787974ac3129a6d645"), looks := false }, kinds := [], alts := [], laidByText := true, laidKinds := [.data, .data, .data, .data, .pinned], laidTests := true, laidLooks := .later }
def TopDamagedUptoCardSaid : Prop := Claim7.holds Tryz.pinned (.plain (OpenSpec.upto topDamagedSpec)) topDamagedUptoCard

/-- THE SECOND FORM's CARD OF 'casementlaw17.DamageNames'. -/
def damageNamesUptoCard : Claim7 := { stood := { row := damageNamesUptoRow, standIns := [], harness := (true, "4dd5c046bb7ec9c5bbfe26812e3e6524b353736d4943b0787974ac3129a6d645"), looks := false }, kinds := [], alts := [], laidByText := true, laidKinds := [.data, .pinned], laidTests := true, laidLooks := .later }
def DamageNamesUptoCardSaid : Prop := Claim7.holds Tryz.pinned (.plain (OpenSpec.upto damageNamesSpec)) damageNamesUptoCard

/-- THE SECOND FORM's CARD OF 'casementlaw17.DamageTwos'. -/
def damageTwosUptoCard : Claim7 := { stood := { row := damageTwosUptoRow, standIns := [], harness := (true, "4dd5c046bb7ec9c5bbfe26812e3e6524b353736d4943b0787974ac3129a6d645"), looks := false }, kinds := [], alts := [], laidByText := true, laidKinds := [.data, .pinned], laidTests := true, laidLooks := .later }
def DamageTwosUptoCardSaid : Prop := Claim7.holds Tryz.pinned (.plain (OpenSpec.upto damageTwosSpec)) damageTwosUptoCard

/-- THE SECOND FORM's CARD OF 'casementlaw17.DamageMends'. -/
def damageMendsUptoCard : Claim7 := { stood := { row := damageMendsUptoRow, standIns := [], harness := (true, "4dd5c046bb7ec9c5bbfe26812e3e6524b353736d4943b0787974ac3129a6d645"), looks := false }, kinds := [], alts := [], laidByText := true, laidKinds := [.data, .pinned], laidTests := true, laidLooks := .later }
def DamageMendsUptoCardSaid : Prop := Claim7.holds Tryz.pinned (.plain (OpenSpec.upto damageMendsSpec)) damageMendsUptoCard

/-- THE SECOND FORM's CARD OF 'casementlaw17.DamageChanges'. -/
def damageChangesUptoCard : Claim7 := { stood := { row := damageChangesUptoRow, standIns := [], harness := (true, "4dd5c046bb7ec9c5bbfe26812e3e6524b353736d4943b0787974ac3129a6d645"), looks := false }, kinds := [], alts := [], laidByText := true, laidKinds := [.data, .pinned], laidTests := true, laidLooks := .later }
def DamageChangesUptoCardSaid : Prop := Claim7.holds Tryz.pinned (.plain (OpenSpec.upto damageChangesSpec)) damageChangesUptoCard

/-- THE SECOND FORM's CARD OF 'casementlaw17.DamageNodes'. -/
def damageNodesUptoCard : Claim7 := { stood := { row := damageNodesUptoRow, standIns := [], harness := (true, "4dd5c046bb7ec9c5bbfe26812e3e6524b353736d4943b0787974ac3129a6d645"), looks := false }, kinds := [], alts := [], laidByText := true, laidKinds := [.data, .pinned], laidTests := true, laidLooks := .later }
def DamageNodesUptoCardSaid : Prop := Claim7.holds Tryz.pinned (.plain (OpenSpec.upto damageNodesSpec)) damageNodesUptoCard

/-- THE SECOND FORM's CARD OF 'casementlaw17.DamageMended'. -/
def damageMendedUptoCard : Claim7 := { stood := { row := damageMendedUptoRow, standIns := [], harness := (true, "4dd5c046bb7ec9c5bbfe26812e3e6524b353736d4943b0787974ac3129a6d645"), looks := false }, kinds := [], alts := [], laidByText := true, laidKinds := [.data, .pinned], laidTests := true, laidLooks := .later }
def DamageMendedUptoCardSaid : Prop := Claim7.holds Tryz.pinned (.plain (OpenSpec.upto damageMendedSpec)) damageMendedUptoCard

/-- THE SECOND FORM's CARD OF 'casementlaw17.DamageNone'. -/
def damageNoneUptoCard : Claim7 := { stood := { row := damageNoneUptoRow, standIns := [], harness := (true, "4dd5c046bb7ec9c5bbfe26812e3e6524b353736d4943b0787974ac3129a6d645"), looks := false }, kinds := [], alts := [], laidByText := true, laidKinds := [.data, .pinned], laidTests := true, laidLooks := .later }
def DamageNoneUptoCardSaid : Prop := Claim7.holds Tryz.pinned (.plain (OpenSpec.upto damageNoneSpec)) damageNoneUptoCard
end Rows
end Go.Proofs.YtfcphagmjijmkaaGreatDoor
