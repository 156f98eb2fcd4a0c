/- Texts of the walk and its plain law, merged: JpF, JpG, JpH, JpI, JpJ. -/
import Derived.Test.YtnkdbpjmepfblaaGreatDoorChecked
import Derived.Test.YtnkdbpjmepfblaaGreatDoorRows
import Derived.JoinedOf
import Derived.ProofKit
import Derived.SevenTiedAt
/- JumpParts, the row: its closed facts, one by one. -/
namespace Go.Proofs.YtnkdbpjmepfblaaGreatDoor
open Go
theorem jumpPartsF0 : (Rows.jumpPartsRow.wf (OpenSpec.ofChange Rows.jumpPartsSpec)) = true := by kernel_rfl
theorem jumpPartsF1 : (laidOutB Tryz.prog) = true := by kernel_rfl
theorem jumpPartsF2 : (mapsRowed Tryz.prog) = true := by kernel_rfl
theorem jumpPartsF3 : (Tryz.f3.params.all (Tryz.prog.readableRec ·)) = true := by kernel_rfl
theorem jumpPartsF4 : (namedTie Tryz.prog Rows.jumpPartsRow.named Rows.jumpPartsSpec.vars) = true := by kernel_rfl
theorem jumpPartsF5 : ((Rows.jumpPartsRow.stops == [])) = true := by kernel_rfl
theorem jumpPartsF6 : ((Tryz.prog.stops == [])) = true := by kernel_rfl
theorem jumpPartsF7 : ((Rows.jumpPartsRow.knobs == [])) = true := by kernel_rfl
theorem jumpPartsF8 : ((Tryz.prog.stopKnobs == [])) = true := by kernel_rfl
theorem jumpPartsF9 : ((Rows.jumpPartsRow.inPlace == Tryz.prog.inPlace 3)) = true := by kernel_rfl
theorem jumpPartsF10 : ((Rows.jumpPartsRow.unfollowed == Tryz.prog.unfollowed 3)) = true := by kernel_rfl
theorem jumpPartsF11 : ((Rows.jumpPartsRow.recurses == Tryz.prog.recurses 3)) = true := by kernel_rfl
theorem jumpPartsF12 : ((Rows.jumpPartsRow.named == Tryz.prog.varsNamed 3)) = true := by kernel_rfl
theorem jumpPartsF13 : ((Rows.jumpPartsRow.maps == (Tryz.f3.params.toList ++ Rows.jumpPartsSpec.plain.varTypes Tryz.prog).any (Tryz.prog.mapsRec ·))) = true := by kernel_rfl
theorem jumpPartsF14 : ((Rows.jumpPartsRow.ifaces == (Tryz.f3.params.toList ++ Rows.jumpPartsSpec.plain.varTypes Tryz.prog).any (Tryz.prog.ifacesRec ·))) = true := by kernel_rfl
theorem jumpPartsF15 : ((Rows.jumpPartsRow.mapsOut == Tryz.prog.mapsAmong Tryz.f3.resultTypes.toList)) = true := by kernel_rfl
theorem jumpPartsF16 : ((Rows.jumpPartsRow.loops == (Tryz.f3.params.toList ++ Rows.jumpPartsSpec.plain.varTypes Tryz.prog).any (Tryz.prog.loopsFrom ·))) = true := by kernel_rfl
theorem jumpPartsF17 : ((Rows.jumpPartsRow.wideKeys == (Tryz.f3.params.toList ++ Rows.jumpPartsSpec.plain.varTypes Tryz.prog ++ Tryz.f3.resultTypes.toList).any (Tryz.prog.wideKeysFrom ·))) = true := by kernel_rfl
theorem jumpPartsF18 : (Rows.jumpPartsSpec.vars.all (Tryz.prog.varReadable ·)) = true := by kernel_rfl
theorem jumpPartsF19 : (Tryz.f3.resultTypes.all (fun t => Tryz.prog.readableRec t && decide (t < Tryz.prog.types.size))) = true := by kernel_rfl
theorem jumpPartsF20 : ((Rows.jumpPartsRow.ifacesOut == Tryz.f3.resultTypes.toList.any (Tryz.prog.ifacesRec ·))) = true := by kernel_rfl
theorem jumpPartsF21 : ((Rows.jumpPartsRow.loopsOut == Tryz.f3.resultTypes.toList.any (Tryz.prog.loopsFrom ·))) = true := by kernel_rfl
end Go.Proofs.YtnkdbpjmepfblaaGreatDoor

/- JumpParts, the row: its closed facts, one by one. -/
namespace Go.Proofs.YtnkdbpjmepfblaaGreatDoor
open Go
theorem jumpPartsF22 : ((Rows.jumpPartsRow.plainKeys == Tryz.prog.plainKeys)) = true := by kernel_rfl
theorem jumpPartsF23 : (Rows.jumpPartsRow.shortTexts.isNone) = true := by kernel_rfl
theorem jumpPartsF24 : (Tryz.prog.stopsHeard) = true := by kernel_rfl
theorem jumpPartsF25 : (Tryz.prog.mayEnter) = true := by kernel_rfl
theorem jumpPartsF28 : ((Rows.jumpPartsRow.kinds == (if Rows.jumpPartsRow.domain.isEmpty then [] else Tryz.f3.params.toList.map fun t => match Tryz.prog.underlying t with | some (.int k) => some k | _ => none))) = true := by kernel_rfl
theorem jumpPartsF29 : ((Rows.jumpPartsRow.pinned == Rows.jumpPartsRow.pinnedBy)) = true := by kernel_rfl
theorem jumpPartsF30 : ((Rows.jumpPartsRow.veiled == (Tryz.f3.params.toList ++ Rows.jumpPartsSpec.plain.varTypes Tryz.prog ++ Tryz.f3.resultTypes.toList).any (Tryz.prog.veiledRec ·))) = true := by kernel_rfl
theorem jumpPartsF31 : (Rows.jumpPartsRow.veiledFits Tryz.prog Tryz.f3.params.toList (Tryz.f3.params.toList ++ Rows.jumpPartsSpec.plain.varTypes Tryz.prog ++ Tryz.f3.resultTypes.toList)) = true := by kernel_rfl
end Go.Proofs.YtnkdbpjmepfblaaGreatDoor

/- JumpParts, the row: its closed facts, one by one. -/
namespace Go.Proofs.YtnkdbpjmepfblaaGreatDoor
open Go
theorem jumpPartsF26 : ((Rows.jumpPartsRow.lifted == Tryz.prog.liftsFinal)) = true := by kernel_rfl
theorem jumpPartsF27 : ((Tryz.prog.make == some Rows.jumpPartsRow.make)) = true := by kernel_rfl
end Go.Proofs.YtnkdbpjmepfblaaGreatDoor

/- The card's closed facts. -/
namespace Go.Proofs.YtnkdbpjmepfblaaGreatDoor
open Go
theorem jpk1 : Rows.jumpPartsRow.wfByText (OpenSpec.ofChange Rows.jumpPartsSpec) = true := by kernel_rfl
theorem jpk2 : Tryz.prog.mainIs = some (true, "586a3ce12c616e56158f61a87d78e7b732050c83d533a8ab997c55e99bc8d37f".toList) := by kernel_rfl
theorem stand25 : Tryz.prog.wantsStandIn 25 = false := by kernel_rfl
theorem stand26 : Tryz.prog.wantsStandIn 26 = false := by kernel_rfl
theorem stand3 : Tryz.prog.wantsStandIn 3 = false := by kernel_rfl
end Go.Proofs.YtnkdbpjmepfblaaGreatDoor

/- The card's closed facts. -/
namespace Go.Proofs.YtnkdbpjmepfblaaGreatDoor
open Go
theorem jpk3 : true = Tryz.prog.looks [] := by kernel_rfl
theorem jpk6 : false = Rows.jumpPartsRow.goesBy Tryz.prog := by kernel_rfl
end Go.Proofs.YtnkdbpjmepfblaaGreatDoor
