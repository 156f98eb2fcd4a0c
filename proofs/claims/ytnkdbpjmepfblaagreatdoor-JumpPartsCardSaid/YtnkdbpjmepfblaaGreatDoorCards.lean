/-
  DERIVED. GIVEN WITH THE SEED: THE CARDS: each row of YtnkdbpjmepfblaaGreatDoorRows.lean that lists a variable, with what it lists TIED to the program's text (the seventh form; the later family's looks); each row that meets fmt, with fmt's text TOLD by the authors' own Lean function (tested against real Go, not proved from fmt's source: count such statements apart). THE CARD IS WHAT COUNTS. Prove the row's statement (the work); the ties are given (YtnkdbpjmepfblaaGreatDoorTie.lean); close each card by the builder's one call (the guide's Derived/Test/ToyasCard.lean, 'card_holds'). Laid BY PROGRAM, IN A SANDBOX (cutbox-door.mjs). By AI agents, Wed Nov 11 2026. No macro, syntax, notation, axiom, sorry.
-/
import Derived.Test.YtnkdbpjmepfblaaGreatDoorRows
import GoSem.ClaimSeven
namespace Go.Proofs.YtnkdbpjmepfblaaGreatDoor
namespace Rows

/-- THE TIED CARD OF 'honeycomblaw16.JumpParts'. -/
def jumpPartsCard : Claim7 := { stood := { row := jumpPartsRow, standIns := [], harness := (true, "586a3ce12c616e56158f61a87d78e7b732050c83d533a8ab997c55e99bc8d37f"), looks := true }, kinds := [], alts := [], laidByText := true, laidKinds := [.data], laidTests := true, laidLooks := .later }
def JumpPartsCardSaid : Prop := Claim7.holds Tryz.pinned (.plain (OpenSpec.ofChange jumpPartsSpec)) jumpPartsCard

/-- THE TIED CARD OF 'honeycomblaw16.JumpGoes'. -/
def jumpGoesCard : Claim7 := { stood := { row := jumpGoesRow, standIns := [], harness := (true, "586a3ce12c616e56158f61a87d78e7b732050c83d533a8ab997c55e99bc8d37f"), looks := true }, kinds := [], alts := [], laidByText := true, laidKinds := [.data], laidTests := true, laidLooks := .later }
def JumpGoesCardSaid : Prop := Claim7.holds Tryz.pinned (.plain (OpenSpec.ofChange jumpGoesSpec)) jumpGoesCard

/-- THE TIED CARD OF 'honeycomblaw16.JumpSteps'. -/
def jumpStepsCard : Claim7 := { stood := { row := jumpStepsRow, standIns := [], harness := (true, "586a3ce12c616e56158f61a87d78e7b732050c83d533a8ab997c55e99bc8d37f"), looks := true }, kinds := [], alts := [], laidByText := true, laidKinds := [.data], laidTests := true, laidLooks := .later }
def JumpStepsCardSaid : Prop := Claim7.holds Tryz.pinned (.plain (OpenSpec.ofChange jumpStepsSpec)) jumpStepsCard

/-- THE TIED CARD OF 'honeycomblaw16.JumpFar'. -/
def jumpFarCard : Claim7 := { stood := { row := jumpFarRow, standIns := [], harness := (true, "586a3ce12c616e56158f61a87d78e7b732050c83d533a8ab997c55e99bc8d37f"), looks := true }, kinds := [], alts := [], laidByText := true, laidKinds := [.data], laidTests := true, laidLooks := .later }
def JumpFarCardSaid : Prop := Claim7.holds Tryz.pinned (.plain (OpenSpec.ofChange jumpFarSpec)) jumpFarCard

/-- THE TIED CARD OF 'honeycombtop.HoneycombPeriods'. -/
def honeycombPeriodsCard : Claim7 := { stood := { row := honeycombPeriodsRow, standIns := [], harness := (true, "586a3ce12c616e56158f61a87d78e7b732050c83d533a8ab997c55e99bc8d37f"), looks := true }, kinds := [], alts := [], laidByText := true, laidKinds := [.data], laidTests := true, laidLooks := .later }
def HoneycombPeriodsCardSaid : Prop := Claim7.holds Tryz.pinned (.plain (OpenSpec.ofChange honeycombPeriodsSpec)) honeycombPeriodsCard

/-- THE TIED CARD OF 'honeycomblaw19.BoundEnough'. -/
def boundEnoughCard : Claim7 := { stood := { row := boundEnoughRow, standIns := [], harness := (true, "586a3ce12c616e56158f61a87d78e7b732050c83d533a8ab997c55e99bc8d37f"), looks := true }, kinds := [], alts := [], laidByText := true, laidKinds := [.data], laidTests := true, laidLooks := .later }
def BoundEnoughCardSaid : Prop := Claim7.holds Tryz.pinned (.plain (OpenSpec.ofChange boundEnoughSpec)) boundEnoughCard

/-- THE TIED CARD OF 'honeycombtop.HoneycombSpeed'. -/
def honeycombSpeedCard : Claim7 := { stood := { row := honeycombSpeedRow, standIns := [], harness := (true, "586a3ce12c616e56158f61a87d78e7b732050c83d533a8ab997c55e99bc8d37f"), looks := true }, kinds := [], alts := [], laidByText := true, laidKinds := [.data], laidTests := true, laidLooks := .later }
def HoneycombSpeedCardSaid : Prop := Claim7.holds Tryz.pinned (.plain (OpenSpec.ofChange honeycombSpeedSpec)) honeycombSpeedCard

/-- THE TIED CARD OF 'honeycomblaw22.WorldSets'. -/
def worldSetsCard : Claim7 := { stood := { row := worldSetsRow, standIns := [], harness := (true, "586a3ce12c616e56158f61a87d78e7b732050c83d533a8ab997c55e99bc8d37f"), looks := true }, kinds := [], alts := [], laidByText := true, laidKinds := [.data], laidTests := true, laidLooks := .later }
def WorldSetsCardSaid : Prop := Claim7.holds Tryz.pinned (.plain (OpenSpec.ofChange worldSetsSpec)) worldSetsCard

/-- THE TIED CARD OF 'honeycombtop.HoneycombOne'. -/
def honeycombOneCard : Claim7 := { stood := { row := honeycombOneRow, standIns := [], harness := (true, "586a3ce12c616e56158f61a87d78e7b732050c83d533a8ab997c55e99bc8d37f"), looks := true }, kinds := [], alts := [], laidByText := true, laidKinds := [.data], laidTests := true, laidLooks := .later }
def HoneycombOneCardSaid : Prop := Claim7.holds Tryz.pinned (.plain (OpenSpec.ofChange honeycombOneSpec)) honeycombOneCard

/-- THE TIED CARD OF 'honeycomblaw22.WorldEnough'. -/
def worldEnoughCard : Claim7 := { stood := { row := worldEnoughRow, standIns := [], harness := (true, "586a3ce12c616e56158f61a87d78e7b732050c83d533a8ab997c55e99bc8d37f"), looks := true }, kinds := [], alts := [], laidByText := true, laidKinds := [.data], laidTests := true, laidLooks := .later }
def WorldEnoughCardSaid : Prop := Claim7.holds Tryz.pinned (.plain (OpenSpec.ofChange worldEnoughSpec)) worldEnoughCard

/-- THE TIED CARD OF 'honeycomblaw22.WorldTurns'. -/
def worldTurnsCard : Claim7 := { stood := { row := worldTurnsRow, standIns := [], harness := (true, "586a3ce12c616e56158f61a87d78e7b732050c83d533a8ab997c55e99bc8d37f"), looks := true }, kinds := [], alts := [], laidByText := true, laidKinds := [.data], laidTests := true, laidLooks := .later }
def WorldTurnsCardSaid : Prop := Claim7.holds Tryz.pinned (.plain (OpenSpec.ofChange worldTurnsSpec)) worldTurnsCard

/-- THE TIED CARD OF 'honeycombtop.HoneycombAlone'. -/
def honeycombAloneCard : Claim7 := { stood := { row := honeycombAloneRow, standIns := [], harness := (true, "586a3ce12c616e56158f61a87d78e7b732050c83d533a8ab997c55e99bc8d37f"), looks := true }, kinds := [], alts := [], laidByText := true, laidKinds := [.data], laidTests := true, laidLooks := .later }
def HoneycombAloneCardSaid : Prop := Claim7.holds Tryz.pinned (.plain (OpenSpec.ofChange honeycombAloneSpec)) honeycombAloneCard

/-- THE TIED CARD OF 'honeycombtop.HoneycombSwept'. -/
def honeycombSweptCard : Claim7 := { stood := { row := honeycombSweptRow, standIns := [], harness := (true, "586a3ce12c616e56158f61a87d78e7b732050c83d533a8ab997c55e99bc8d37f"), looks := true }, kinds := [], alts := [], laidByText := true, laidKinds := [.data], laidTests := true, laidLooks := .later }
def HoneycombSweptCardSaid : Prop := Claim7.holds Tryz.pinned (.plain (OpenSpec.ofChange honeycombSweptSpec)) honeycombSweptCard

/-- THE TIED CARD OF 'honeycombtop.HoneycombApart'. -/
def honeycombApartCard : Claim7 := { stood := { row := honeycombApartRow, standIns := [], harness := (true, "586a3ce12c616e56158f61a87d78e7b732050c83d533a8ab997c55e99bc8d37f"), looks := true }, kinds := [], alts := [], laidByText := true, laidKinds := [.data], laidTests := true, laidLooks := .later }
def HoneycombApartCardSaid : Prop := Claim7.holds Tryz.pinned (.plain (OpenSpec.ofChange honeycombApartSpec)) honeycombApartCard

/-- THE TIED CARD OF 'honeycombtop.HoneycombHalves'. -/
def honeycombHalvesCard : Claim7 := { stood := { row := honeycombHalvesRow, standIns := [], harness := (true, "586a3ce12c616e56158f61a87d78e7b732050c83d533a8ab997c55e99bc8d37f"), looks := true }, kinds := [], alts := [], laidByText := true, laidKinds := [.data], laidTests := true, laidLooks := .later }
def HoneycombHalvesCardSaid : Prop := Claim7.holds Tryz.pinned (.plain (OpenSpec.ofChange honeycombHalvesSpec)) honeycombHalvesCard

/-- THE TIED CARD OF 'honeycombtop.HoneycombTurned'. -/
def honeycombTurnedCard : Claim7 := { stood := { row := honeycombTurnedRow, standIns := [], harness := (true, "586a3ce12c616e56158f61a87d78e7b732050c83d533a8ab997c55e99bc8d37f"), looks := true }, kinds := [], alts := [], laidByText := true, laidKinds := [.data], laidTests := true, laidLooks := .later }
def HoneycombTurnedCardSaid : Prop := Claim7.holds Tryz.pinned (.plain (OpenSpec.ofChange honeycombTurnedSpec)) honeycombTurnedCard

/-- THE SECOND FORM's CARD OF 'honeycomblaw16.JumpParts'. -/
def jumpPartsUptoCard : Claim7 := { stood := { row := jumpPartsUptoRow, standIns := [], harness := (true, "586a3ce12c616e56158f61a87d78e7b732050c83d533a8ab997c55e99bc8d37f"), looks := true }, kinds := [], alts := [], laidByText := true, laidKinds := [.data], laidTests := true, laidLooks := .later }
def JumpPartsUptoCardSaid : Prop := Claim7.holds Tryz.pinned (.plain (OpenSpec.upto jumpPartsSpec)) jumpPartsUptoCard

/-- THE SECOND FORM's CARD OF 'honeycomblaw16.JumpGoes'. -/
def jumpGoesUptoCard : Claim7 := { stood := { row := jumpGoesUptoRow, standIns := [], harness := (true, "586a3ce12c616e56158f61a87d78e7b732050c83d533a8ab997c55e99bc8d37f"), looks := true }, kinds := [], alts := [], laidByText := true, laidKinds := [.data], laidTests := true, laidLooks := .later }
def JumpGoesUptoCardSaid : Prop := Claim7.holds Tryz.pinned (.plain (OpenSpec.upto jumpGoesSpec)) jumpGoesUptoCard

/-- THE SECOND FORM's CARD OF 'honeycomblaw16.JumpSteps'. -/
def jumpStepsUptoCard : Claim7 := { stood := { row := jumpStepsUptoRow, standIns := [], harness := (true, "586a3ce12c616e56158f61a87d78e7b732050c83d533a8ab997c55e99bc8d37f"), looks := true }, kinds := [], alts := [], laidByText := true, laidKinds := [.data], laidTests := true, laidLooks := .later }
def JumpStepsUptoCardSaid : Prop := Claim7.holds Tryz.pinned (.plain (OpenSpec.upto jumpStepsSpec)) jumpStepsUptoCard

/-- THE SECOND FORM's CARD OF 'honeycomblaw16.JumpFar'. -/
def jumpFarUptoCard : Claim7 := { stood := { row := jumpFarUptoRow, standIns := [], harness := (true, "586a3ce12c616e56158f61a87d78e7b732050c83d533a8ab997c55e99bc8d37f"), looks := true }, kinds := [], alts := [], laidByText := true, laidKinds := [.data], laidTests := true, laidLooks := .later }
def JumpFarUptoCardSaid : Prop := Claim7.holds Tryz.pinned (.plain (OpenSpec.upto jumpFarSpec)) jumpFarUptoCard

/-- THE SECOND FORM's CARD OF 'honeycombtop.HoneycombPeriods'. -/
def honeycombPeriodsUptoCard : Claim7 := { stood := { row := honeycombPeriodsUptoRow, standIns := [], harness := (true, "586a3ce12c616e56158f61a87d78e7b732050c83d533a8ab997c55e99bc8d37f"), looks := true }, kinds := [], alts := [], laidByText := true, laidKinds := [.data], laidTests := true, laidLooks := .later }
def HoneycombPeriodsUptoCardSaid : Prop := Claim7.holds Tryz.pinned (.plain (OpenSpec.upto honeycombPeriodsSpec)) honeycombPeriodsUptoCard

/-- THE SECOND FORM's CARD OF 'honeycomblaw19.BoundEnough'. -/
def boundEnoughUptoCard : Claim7 := { stood := { row := boundEnoughUptoRow, standIns := [], harness := (true, "586a3ce12c616e56158f61a87d78e7b732050c83d533a8ab997c55e99bc8d37f"), looks := true }, kinds := [], alts := [], laidByText := true, laidKinds := [.data], laidTests := true, laidLooks := .later }
def BoundEnoughUptoCardSaid : Prop := Claim7.holds Tryz.pinned (.plain (OpenSpec.upto boundEnoughSpec)) boundEnoughUptoCard

/-- THE SECOND FORM's CARD OF 'honeycombtop.HoneycombSpeed'. -/
def honeycombSpeedUptoCard : Claim7 := { stood := { row := honeycombSpeedUptoRow, standIns := [], harness := (true, "586a3ce12c616e56158f61a87d78e7b732050c83d533a8ab997c55e99bc8d37f"), looks := true }, kinds := [], alts := [], laidByText := true, laidKinds := [.data], laidTests := true, laidLooks := .later }
def HoneycombSpeedUptoCardSaid : Prop := Claim7.holds Tryz.pinned (.plain (OpenSpec.upto honeycombSpeedSpec)) honeycombSpeedUptoCard

/-- THE SECOND FORM's CARD OF 'honeycomblaw22.WorldSets'. -/
def worldSetsUptoCard : Claim7 := { stood := { row := worldSetsUptoRow, standIns := [], harness := (true, "586a3ce12c616e56158f61a87d78e7b732050c83d533a8ab997c55e99bc8d37f"), looks := true }, kinds := [], alts := [], laidByText := true, laidKinds := [.data], laidTests := true, laidLooks := .later }
def WorldSetsUptoCardSaid : Prop := Claim7.holds Tryz.pinned (.plain (OpenSpec.upto worldSetsSpec)) worldSetsUptoCard

/-- THE SECOND FORM's CARD OF 'honeycombtop.HoneycombOne'. -/
def honeycombOneUptoCard : Claim7 := { stood := { row := honeycombOneUptoRow, standIns := [], harness := (true, "586a3ce12c616e56158f61a87d78e7b732050c83d533a8ab997c55e99bc8d37f"), looks := true }, kinds := [], alts := [], laidByText := true, laidKinds := [.data], laidTests := true, laidLooks := .later }
def HoneycombOneUptoCardSaid : Prop := Claim7.holds Tryz.pinned (.plain (OpenSpec.upto honeycombOneSpec)) honeycombOneUptoCard

/-- THE SECOND FORM's CARD OF 'honeycomblaw22.WorldEnough'. -/
def worldEnoughUptoCard : Claim7 := { stood := { row := worldEnoughUptoRow, standIns := [], harness := (true, "586a3ce12c616e56158f61a87d78e7b732050c83d533a8ab997c55e99bc8d37f"), looks := true }, kinds := [], alts := [], laidByText := true, laidKinds := [.data], laidTests := true, laidLooks := .later }
def WorldEnoughUptoCardSaid : Prop := Claim7.holds Tryz.pinned (.plain (OpenSpec.upto worldEnoughSpec)) worldEnoughUptoCard

/-- THE SECOND FORM's CARD OF 'honeycomblaw22.WorldTurns'. -/
def worldTurnsUptoCard : Claim7 := { stood := { row := worldTurnsUptoRow, standIns := [], harness := (true, "586a3ce12c616e56158f61a87d78e7b732050c83d533a8ab997c55e99bc8d37f"), looks := true }, kinds := [], alts := [], laidByText := true, laidKinds := [.data], laidTests := true, laidLooks := .later }
def WorldTurnsUptoCardSaid : Prop := Claim7.holds Tryz.pinned (.plain (OpenSpec.upto worldTurnsSpec)) worldTurnsUptoCard

/-- THE SECOND FORM's CARD OF 'honeycombtop.HoneycombAlone'. -/
def honeycombAloneUptoCard : Claim7 := { stood := { row := honeycombAloneUptoRow, standIns := [], harness := (true, "586a3ce12c616e56158f61a87d78e7b732050c83d533a8ab997c55e99bc8d37f"), looks := true }, kinds := [], alts := [], laidByText := true, laidKinds := [.data], laidTests := true, laidLooks := .later }
def HoneycombAloneUptoCardSaid : Prop := Claim7.holds Tryz.pinned (.plain (OpenSpec.upto honeycombAloneSpec)) honeycombAloneUptoCard

/-- THE SECOND FORM's CARD OF 'honeycombtop.HoneycombSwept'. -/
def honeycombSweptUptoCard : Claim7 := { stood := { row := honeycombSweptUptoRow, standIns := [], harness := (true, "586a3ce12c616e56158f61a87d78e7b732050c83d533a8ab997c55e99bc8d37f"), looks := true }, kinds := [], alts := [], laidByText := true, laidKinds := [.data], laidTests := true, laidLooks := .later }
def HoneycombSweptUptoCardSaid : Prop := Claim7.holds Tryz.pinned (.plain (OpenSpec.upto honeycombSweptSpec)) honeycombSweptUptoCard

/-- THE SECOND FORM's CARD OF 'honeycombtop.HoneycombApart'. -/
def honeycombApartUptoCard : Claim7 := { stood := { row := honeycombApartUptoRow, standIns := [], harness := (true, "586a3ce12c616e56158f61a87d78e7b732050c83d533a8ab997c55e99bc8d37f"), looks := true }, kinds := [], alts := [], laidByText := true, laidKinds := [.data], laidTests := true, laidLooks := .later }
def HoneycombApartUptoCardSaid : Prop := Claim7.holds Tryz.pinned (.plain (OpenSpec.upto honeycombApartSpec)) honeycombApartUptoCard

/-- THE SECOND FORM's CARD OF 'honeycombtop.HoneycombHalves'. -/
def honeycombHalvesUptoCard : Claim7 := { stood := { row := honeycombHalvesUptoRow, standIns := [], harness := (true, "586a3ce12c616e56158f61a87d78e7b732050c83d533a8ab997c55e99bc8d37f"), looks := true }, kinds := [], alts := [], laidByText := true, laidKinds := [.data], laidTests := true, laidLooks := .later }
def HoneycombHalvesUptoCardSaid : Prop := Claim7.holds Tryz.pinned (.plain (OpenSpec.upto honeycombHalvesSpec)) honeycombHalvesUptoCard

/-- THE SECOND FORM's CARD OF 'honeycombtop.HoneycombTurned'. -/
def honeycombTurnedUptoCard : Claim7 := { stood := { row := honeycombTurnedUptoRow, standIns := [], harness := (true, "586a3ce12c616e56158f61a87d78e7b732050c83d533a8ab997c55e99bc8d37f"), looks := true }, kinds := [], alts := [], laidByText := true, laidKinds := [.data], laidTests := true, laidLooks := .later }
def HoneycombTurnedUptoCardSaid : Prop := Claim7.holds Tryz.pinned (.plain (OpenSpec.upto honeycombTurnedSpec)) honeycombTurnedUptoCard
end Rows
end Go.Proofs.YtnkdbpjmepfblaaGreatDoor
