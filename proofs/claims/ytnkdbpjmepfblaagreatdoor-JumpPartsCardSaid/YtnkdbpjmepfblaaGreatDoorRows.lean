/-
  NARROWER THAN 'FOR EVERY INPUT', by the rows' own cells (each row's printed sentence says how): JumpParts: laid · JumpGoes: laid · JumpSteps: laid · JumpFar: laid · HoneycombPeriods: laid · BoundEnough: laid · HoneycombSpeed: laid · WorldSets: laid · HoneycombOne: laid · WorldEnough: laid · WorldTurns: laid · HoneycombAlone: laid · HoneycombSwept: laid · HoneycombApart: laid · HoneycombHalves: laid · HoneycombTurned: laid.
  DERIVED. THE GIVEN ROWS OF THIS SEAT. 16 by the template 'for every input the law returns true; each argument reads behind the call as it read before'; 0 by the template 'total and deterministic' (their statements: YtnkdbpjmepfblaaGreatDoorTotals.lean).
  GIVEN WITH THE SEED: the statements are not yours to turn. If you find one false, say at which input.
  Laid BY PROGRAM, IN A SANDBOX (cutbox-rows.mjs): the forced cells as the released guide's own fill.sh prints them over the translation 8a9278322c2d3266… (all of the seat's roots in one cut). By AI agents, Wed Nov 11 2026. No macro, syntax, notation, axiom, sorry.
-/
import Derived.Test.YtnkdbpjmepfblaaGreatDoorChecked
import GoSem.Claim
import GoSem.ClaimJoined
import GoSem.ClaimMapViews
import Derived.JoinedTies
import Derived.KernelRfl
namespace Go.Proofs.YtnkdbpjmepfblaaGreatDoor
/- THE CELL 'sum', in the pinned program and in every row, IS THE sha256 OF THE DUMP (.gsa) THAT YtnkdbpjmepfblaaGreatDoorProg.lean LOADS. Nothing in Lean hashes anything: it is a label: what it is worth is what the hold of that sum in a sandbox is worth. -/
noncomputable def Tryz.pinned : Pinned := { name := "ytnkdbpjmepfblaagreatdoor", sum := "8a9278322c2d326675489ff8fb896d3f7acb984b21f85fab2ce677d7151084aa", checked := Tryz.checked }
namespace Rows
def none {H : Type} : Left H := { results := [], args := [] }

/- WHAT THE LISTED PACKAGE-LEVEL VARIABLES READ AS WHEN THE CALL BEGINS. Each datum BY PROGRAM (the guide's laid-datum.mjs) off the statement by which the dump's own 'gosem.cut.vars' lays the variable. In a bare row this is a premise. The card (YtnkdbpjmepfblaaGreatDoorCards.lean) ties it to the program's text. -/
def laid_honeycomb_axis_six {H : Type} : DataW H := .agg [.agg [.lit (.int .i64 1), .lit (.int .i64 0)], .agg [.lit (.int .i64 0), .lit (.int .i64 1)], .agg [.lit (.int .i64 (-1)), .lit (.int .i64 1)], .agg [.lit (.int .i64 (-1)), .lit (.int .i64 0)], .agg [.lit (.int .i64 0), .lit (.int .i64 (-1))], .agg [.lit (.int .i64 1), .lit (.int .i64 (-1))]]

/-- 'honeycomblaw16.JumpParts': WHATEVER THE INPUT: true; the input reads as it did. -/
def jumpPartsSpec : ChangeSpec := { name := "jumpParts", fn := fun _ => fun
  | [d1, d2, d3, d4] => { results := [.lit (.bool true)], args := [d1, d2, d3, d4] }
  | _ => none }
def jumpPartsRow : OpenClaim := { program := "ytnkdbpjmepfblaagreatdoor", sum := "8a9278322c2d326675489ff8fb896d3f7acb984b21f85fab2ce677d7151084aa", func := "honeycomb/honeycomblaw16.JumpParts", spec := "jumpParts", unfollowed := true, recurses := true, named := ["honeycomb/axis.six"], plainKeys := false, apart := false, laid := [("honeycomb/axis.six", laid_honeycomb_axis_six)] }
def JumpPartsSaid : Prop := jumpPartsRow.holds Tryz.pinned (OpenSpec.ofChange jumpPartsSpec)

/-- ITS FALSE NEIGHBOUR: 'it returns false'. Refute it at one input. -/
def jumpPartsWrong : ChangeSpec := { name := "jumpParts", fn := fun _ => fun
  | [d1, d2, d3, d4] => { results := [.lit (.bool false)], args := [d1, d2, d3, d4] }
  | _ => none }
def JumpPartsWrongFalsely : Prop := jumpPartsRow.holds Tryz.pinned (OpenSpec.ofChange jumpPartsWrong)

/-- 'honeycomblaw16.JumpGoes': WHATEVER THE INPUT: true; the input reads as it did. -/
def jumpGoesSpec : ChangeSpec := { name := "jumpGoes", fn := fun _ => fun
  | [d1, d2, d3, d4] => { results := [.lit (.bool true)], args := [d1, d2, d3, d4] }
  | _ => none }
def jumpGoesRow : OpenClaim := { program := "ytnkdbpjmepfblaagreatdoor", sum := "8a9278322c2d326675489ff8fb896d3f7acb984b21f85fab2ce677d7151084aa", func := "honeycomb/honeycomblaw16.JumpGoes", spec := "jumpGoes", unfollowed := true, recurses := true, named := ["honeycomb/axis.six"], plainKeys := false, apart := false, laid := [("honeycomb/axis.six", laid_honeycomb_axis_six)] }
def JumpGoesSaid : Prop := jumpGoesRow.holds Tryz.pinned (OpenSpec.ofChange jumpGoesSpec)

/-- ITS FALSE NEIGHBOUR: 'it returns false'. Refute it at one input. -/
def jumpGoesWrong : ChangeSpec := { name := "jumpGoes", fn := fun _ => fun
  | [d1, d2, d3, d4] => { results := [.lit (.bool false)], args := [d1, d2, d3, d4] }
  | _ => none }
def JumpGoesWrongFalsely : Prop := jumpGoesRow.holds Tryz.pinned (OpenSpec.ofChange jumpGoesWrong)

/-- 'honeycomblaw16.JumpSteps': WHATEVER THE INPUT: true; the input reads as it did. -/
def jumpStepsSpec : ChangeSpec := { name := "jumpSteps", fn := fun _ => fun
  | [d1, d2, d3] => { results := [.lit (.bool true)], args := [d1, d2, d3] }
  | _ => none }
def jumpStepsRow : OpenClaim := { program := "ytnkdbpjmepfblaagreatdoor", sum := "8a9278322c2d326675489ff8fb896d3f7acb984b21f85fab2ce677d7151084aa", func := "honeycomb/honeycomblaw16.JumpSteps", spec := "jumpSteps", unfollowed := true, recurses := true, named := ["honeycomb/axis.six"], plainKeys := false, apart := false, laid := [("honeycomb/axis.six", laid_honeycomb_axis_six)] }
def JumpStepsSaid : Prop := jumpStepsRow.holds Tryz.pinned (OpenSpec.ofChange jumpStepsSpec)

/-- ITS FALSE NEIGHBOUR: 'it returns false'. Refute it at one input. -/
def jumpStepsWrong : ChangeSpec := { name := "jumpSteps", fn := fun _ => fun
  | [d1, d2, d3] => { results := [.lit (.bool false)], args := [d1, d2, d3] }
  | _ => none }
def JumpStepsWrongFalsely : Prop := jumpStepsRow.holds Tryz.pinned (OpenSpec.ofChange jumpStepsWrong)

/-- 'honeycomblaw16.JumpFar': WHATEVER THE INPUT: true; the input reads as it did. -/
def jumpFarSpec : ChangeSpec := { name := "jumpFar", fn := fun _ => fun
  | [d1, d2, d3, d4] => { results := [.lit (.bool true)], args := [d1, d2, d3, d4] }
  | _ => none }
def jumpFarRow : OpenClaim := { program := "ytnkdbpjmepfblaagreatdoor", sum := "8a9278322c2d326675489ff8fb896d3f7acb984b21f85fab2ce677d7151084aa", func := "honeycomb/honeycomblaw16.JumpFar", spec := "jumpFar", unfollowed := true, recurses := true, named := ["honeycomb/axis.six"], plainKeys := false, apart := false, laid := [("honeycomb/axis.six", laid_honeycomb_axis_six)] }
def JumpFarSaid : Prop := jumpFarRow.holds Tryz.pinned (OpenSpec.ofChange jumpFarSpec)

/-- ITS FALSE NEIGHBOUR: 'it returns false'. Refute it at one input. -/
def jumpFarWrong : ChangeSpec := { name := "jumpFar", fn := fun _ => fun
  | [d1, d2, d3, d4] => { results := [.lit (.bool false)], args := [d1, d2, d3, d4] }
  | _ => none }
def JumpFarWrongFalsely : Prop := jumpFarRow.holds Tryz.pinned (OpenSpec.ofChange jumpFarWrong)

/-- 'honeycombtop.HoneycombPeriods': WHATEVER THE INPUT: true; the input reads as it did. -/
def honeycombPeriodsSpec : ChangeSpec := { name := "honeycombPeriods", fn := fun _ => fun
  | [d1, d2, d3, d4] => { results := [.lit (.bool true)], args := [d1, d2, d3, d4] }
  | _ => none }
def honeycombPeriodsRow : OpenClaim := { program := "ytnkdbpjmepfblaagreatdoor", sum := "8a9278322c2d326675489ff8fb896d3f7acb984b21f85fab2ce677d7151084aa", func := "honeycomb/honeycombtop.HoneycombPeriods", spec := "honeycombPeriods", unfollowed := true, recurses := true, named := ["honeycomb/axis.six"], plainKeys := false, apart := false, laid := [("honeycomb/axis.six", laid_honeycomb_axis_six)] }
def HoneycombPeriodsSaid : Prop := honeycombPeriodsRow.holds Tryz.pinned (OpenSpec.ofChange honeycombPeriodsSpec)

/-- ITS FALSE NEIGHBOUR: 'it returns false'. Refute it at one input. -/
def honeycombPeriodsWrong : ChangeSpec := { name := "honeycombPeriods", fn := fun _ => fun
  | [d1, d2, d3, d4] => { results := [.lit (.bool false)], args := [d1, d2, d3, d4] }
  | _ => none }
def HoneycombPeriodsWrongFalsely : Prop := honeycombPeriodsRow.holds Tryz.pinned (OpenSpec.ofChange honeycombPeriodsWrong)

/-- 'honeycomblaw19.BoundEnough': WHATEVER THE INPUT: true; the input reads as it did. -/
def boundEnoughSpec : ChangeSpec := { name := "boundEnough", fn := fun _ => fun
  | [d1, d2, d3, d4] => { results := [.lit (.bool true)], args := [d1, d2, d3, d4] }
  | _ => none }
def boundEnoughRow : OpenClaim := { program := "ytnkdbpjmepfblaagreatdoor", sum := "8a9278322c2d326675489ff8fb896d3f7acb984b21f85fab2ce677d7151084aa", func := "honeycomb/honeycomblaw19.BoundEnough", spec := "boundEnough", unfollowed := true, recurses := true, named := ["honeycomb/axis.six"], plainKeys := false, apart := false, laid := [("honeycomb/axis.six", laid_honeycomb_axis_six)] }
def BoundEnoughSaid : Prop := boundEnoughRow.holds Tryz.pinned (OpenSpec.ofChange boundEnoughSpec)

/-- ITS FALSE NEIGHBOUR: 'it returns false'. Refute it at one input. -/
def boundEnoughWrong : ChangeSpec := { name := "boundEnough", fn := fun _ => fun
  | [d1, d2, d3, d4] => { results := [.lit (.bool false)], args := [d1, d2, d3, d4] }
  | _ => none }
def BoundEnoughWrongFalsely : Prop := boundEnoughRow.holds Tryz.pinned (OpenSpec.ofChange boundEnoughWrong)

/-- 'honeycombtop.HoneycombSpeed': WHATEVER THE INPUT: true; the input reads as it did. -/
def honeycombSpeedSpec : ChangeSpec := { name := "honeycombSpeed", fn := fun _ => fun
  | [d1, d2, d3, d4] => { results := [.lit (.bool true)], args := [d1, d2, d3, d4] }
  | _ => none }
def honeycombSpeedRow : OpenClaim := { program := "ytnkdbpjmepfblaagreatdoor", sum := "8a9278322c2d326675489ff8fb896d3f7acb984b21f85fab2ce677d7151084aa", func := "honeycomb/honeycombtop.HoneycombSpeed", spec := "honeycombSpeed", unfollowed := true, recurses := true, named := ["honeycomb/axis.six"], plainKeys := false, apart := false, laid := [("honeycomb/axis.six", laid_honeycomb_axis_six)] }
def HoneycombSpeedSaid : Prop := honeycombSpeedRow.holds Tryz.pinned (OpenSpec.ofChange honeycombSpeedSpec)

/-- ITS FALSE NEIGHBOUR: 'it returns false'. Refute it at one input. -/
def honeycombSpeedWrong : ChangeSpec := { name := "honeycombSpeed", fn := fun _ => fun
  | [d1, d2, d3, d4] => { results := [.lit (.bool false)], args := [d1, d2, d3, d4] }
  | _ => none }
def HoneycombSpeedWrongFalsely : Prop := honeycombSpeedRow.holds Tryz.pinned (OpenSpec.ofChange honeycombSpeedWrong)

/-- 'honeycomblaw22.WorldSets': WHATEVER THE INPUT: true; the input reads as it did. -/
def worldSetsSpec : ChangeSpec := { name := "worldSets", fn := fun _ => fun
  | [d1, d2, d3] => { results := [.lit (.bool true)], args := [d1, d2, d3] }
  | _ => none }
def worldSetsRow : OpenClaim := { program := "ytnkdbpjmepfblaagreatdoor", sum := "8a9278322c2d326675489ff8fb896d3f7acb984b21f85fab2ce677d7151084aa", func := "honeycomb/honeycomblaw22.WorldSets", spec := "worldSets", inPlace := ["internal/bytealg.IndexByteString", "internal/reflectlite.TypeOf"], unfollowed := true, recurses := true, named := ["honeycomb/axis.six"], plainKeys := false, apart := false, laid := [("honeycomb/axis.six", laid_honeycomb_axis_six)] }
def WorldSetsSaid : Prop := worldSetsRow.holds Tryz.pinned (OpenSpec.ofChange worldSetsSpec)

/-- ITS FALSE NEIGHBOUR: 'it returns false'. Refute it at one input. -/
def worldSetsWrong : ChangeSpec := { name := "worldSets", fn := fun _ => fun
  | [d1, d2, d3] => { results := [.lit (.bool false)], args := [d1, d2, d3] }
  | _ => none }
def WorldSetsWrongFalsely : Prop := worldSetsRow.holds Tryz.pinned (OpenSpec.ofChange worldSetsWrong)

/-- 'honeycombtop.HoneycombOne': WHATEVER THE INPUT: true; the input reads as it did. -/
def honeycombOneSpec : ChangeSpec := { name := "honeycombOne", fn := fun _ => fun
  | [d1, d2, d3, d4] => { results := [.lit (.bool true)], args := [d1, d2, d3, d4] }
  | _ => none }
def honeycombOneRow : OpenClaim := { program := "ytnkdbpjmepfblaagreatdoor", sum := "8a9278322c2d326675489ff8fb896d3f7acb984b21f85fab2ce677d7151084aa", func := "honeycomb/honeycombtop.HoneycombOne", spec := "honeycombOne", unfollowed := true, recurses := true, named := ["honeycomb/axis.six"], plainKeys := false, apart := false, laid := [("honeycomb/axis.six", laid_honeycomb_axis_six)] }
def HoneycombOneSaid : Prop := honeycombOneRow.holds Tryz.pinned (OpenSpec.ofChange honeycombOneSpec)

/-- ITS FALSE NEIGHBOUR: 'it returns false'. Refute it at one input. -/
def honeycombOneWrong : ChangeSpec := { name := "honeycombOne", fn := fun _ => fun
  | [d1, d2, d3, d4] => { results := [.lit (.bool false)], args := [d1, d2, d3, d4] }
  | _ => none }
def HoneycombOneWrongFalsely : Prop := honeycombOneRow.holds Tryz.pinned (OpenSpec.ofChange honeycombOneWrong)

/-- 'honeycomblaw22.WorldEnough': WHATEVER THE INPUT: true; the input reads as it did. -/
def worldEnoughSpec : ChangeSpec := { name := "worldEnough", fn := fun _ => fun
  | [d1, d2, d3, d4] => { results := [.lit (.bool true)], args := [d1, d2, d3, d4] }
  | _ => none }
def worldEnoughRow : OpenClaim := { program := "ytnkdbpjmepfblaagreatdoor", sum := "8a9278322c2d326675489ff8fb896d3f7acb984b21f85fab2ce677d7151084aa", func := "honeycomb/honeycomblaw22.WorldEnough", spec := "worldEnough", inPlace := ["internal/bytealg.IndexByteString", "internal/reflectlite.TypeOf"], unfollowed := true, recurses := true, named := ["honeycomb/axis.six"], plainKeys := false, apart := false, laid := [("honeycomb/axis.six", laid_honeycomb_axis_six)] }
def WorldEnoughSaid : Prop := worldEnoughRow.holds Tryz.pinned (OpenSpec.ofChange worldEnoughSpec)

/-- ITS FALSE NEIGHBOUR: 'it returns false'. Refute it at one input. -/
def worldEnoughWrong : ChangeSpec := { name := "worldEnough", fn := fun _ => fun
  | [d1, d2, d3, d4] => { results := [.lit (.bool false)], args := [d1, d2, d3, d4] }
  | _ => none }
def WorldEnoughWrongFalsely : Prop := worldEnoughRow.holds Tryz.pinned (OpenSpec.ofChange worldEnoughWrong)

/-- 'honeycomblaw22.WorldTurns': WHATEVER THE INPUT: true; the input reads as it did. -/
def worldTurnsSpec : ChangeSpec := { name := "worldTurns", fn := fun _ => fun
  | [d1, d2, d3, d4] => { results := [.lit (.bool true)], args := [d1, d2, d3, d4] }
  | _ => none }
def worldTurnsRow : OpenClaim := { program := "ytnkdbpjmepfblaagreatdoor", sum := "8a9278322c2d326675489ff8fb896d3f7acb984b21f85fab2ce677d7151084aa", func := "honeycomb/honeycomblaw22.WorldTurns", spec := "worldTurns", inPlace := ["internal/bytealg.IndexByteString", "internal/reflectlite.TypeOf"], unfollowed := true, recurses := true, named := ["honeycomb/axis.six"], plainKeys := false, apart := false, laid := [("honeycomb/axis.six", laid_honeycomb_axis_six)] }
def WorldTurnsSaid : Prop := worldTurnsRow.holds Tryz.pinned (OpenSpec.ofChange worldTurnsSpec)

/-- ITS FALSE NEIGHBOUR: 'it returns false'. Refute it at one input. -/
def worldTurnsWrong : ChangeSpec := { name := "worldTurns", fn := fun _ => fun
  | [d1, d2, d3, d4] => { results := [.lit (.bool false)], args := [d1, d2, d3, d4] }
  | _ => none }
def WorldTurnsWrongFalsely : Prop := worldTurnsRow.holds Tryz.pinned (OpenSpec.ofChange worldTurnsWrong)

/-- 'honeycombtop.HoneycombAlone': WHATEVER THE INPUT: true; the input reads as it did. -/
def honeycombAloneSpec : ChangeSpec := { name := "honeycombAlone", fn := fun _ => fun
  | [d1, d2, d3] => { results := [.lit (.bool true)], args := [d1, d2, d3] }
  | _ => none }
def honeycombAloneRow : OpenClaim := { program := "ytnkdbpjmepfblaagreatdoor", sum := "8a9278322c2d326675489ff8fb896d3f7acb984b21f85fab2ce677d7151084aa", func := "honeycomb/honeycombtop.HoneycombAlone", spec := "honeycombAlone", unfollowed := true, recurses := true, named := ["honeycomb/axis.six"], plainKeys := false, apart := false, laid := [("honeycomb/axis.six", laid_honeycomb_axis_six)] }
def HoneycombAloneSaid : Prop := honeycombAloneRow.holds Tryz.pinned (OpenSpec.ofChange honeycombAloneSpec)

/-- ITS FALSE NEIGHBOUR: 'it returns false'. Refute it at one input. -/
def honeycombAloneWrong : ChangeSpec := { name := "honeycombAlone", fn := fun _ => fun
  | [d1, d2, d3] => { results := [.lit (.bool false)], args := [d1, d2, d3] }
  | _ => none }
def HoneycombAloneWrongFalsely : Prop := honeycombAloneRow.holds Tryz.pinned (OpenSpec.ofChange honeycombAloneWrong)

/-- 'honeycombtop.HoneycombSwept': WHATEVER THE INPUT: true; the input reads as it did. -/
def honeycombSweptSpec : ChangeSpec := { name := "honeycombSwept", fn := fun _ => fun
  | [d1, d2, d3] => { results := [.lit (.bool true)], args := [d1, d2, d3] }
  | _ => none }
def honeycombSweptRow : OpenClaim := { program := "ytnkdbpjmepfblaagreatdoor", sum := "8a9278322c2d326675489ff8fb896d3f7acb984b21f85fab2ce677d7151084aa", func := "honeycomb/honeycombtop.HoneycombSwept", spec := "honeycombSwept", unfollowed := true, recurses := true, named := ["honeycomb/axis.six"], plainKeys := false, apart := false, laid := [("honeycomb/axis.six", laid_honeycomb_axis_six)] }
def HoneycombSweptSaid : Prop := honeycombSweptRow.holds Tryz.pinned (OpenSpec.ofChange honeycombSweptSpec)

/-- ITS FALSE NEIGHBOUR: 'it returns false'. Refute it at one input. -/
def honeycombSweptWrong : ChangeSpec := { name := "honeycombSwept", fn := fun _ => fun
  | [d1, d2, d3] => { results := [.lit (.bool false)], args := [d1, d2, d3] }
  | _ => none }
def HoneycombSweptWrongFalsely : Prop := honeycombSweptRow.holds Tryz.pinned (OpenSpec.ofChange honeycombSweptWrong)

/-- 'honeycombtop.HoneycombApart': WHATEVER THE INPUT: true; the input reads as it did. -/
def honeycombApartSpec : ChangeSpec := { name := "honeycombApart", fn := fun _ => fun
  | [d1, d2, d3, d4] => { results := [.lit (.bool true)], args := [d1, d2, d3, d4] }
  | _ => none }
def honeycombApartRow : OpenClaim := { program := "ytnkdbpjmepfblaagreatdoor", sum := "8a9278322c2d326675489ff8fb896d3f7acb984b21f85fab2ce677d7151084aa", func := "honeycomb/honeycombtop.HoneycombApart", spec := "honeycombApart", unfollowed := true, recurses := true, named := ["honeycomb/axis.six"], plainKeys := false, apart := false, laid := [("honeycomb/axis.six", laid_honeycomb_axis_six)] }
def HoneycombApartSaid : Prop := honeycombApartRow.holds Tryz.pinned (OpenSpec.ofChange honeycombApartSpec)

/-- ITS FALSE NEIGHBOUR: 'it returns false'. Refute it at one input. -/
def honeycombApartWrong : ChangeSpec := { name := "honeycombApart", fn := fun _ => fun
  | [d1, d2, d3, d4] => { results := [.lit (.bool false)], args := [d1, d2, d3, d4] }
  | _ => none }
def HoneycombApartWrongFalsely : Prop := honeycombApartRow.holds Tryz.pinned (OpenSpec.ofChange honeycombApartWrong)

/-- 'honeycombtop.HoneycombHalves': WHATEVER THE INPUT: true; the input reads as it did. -/
def honeycombHalvesSpec : ChangeSpec := { name := "honeycombHalves", fn := fun _ => fun
  | [d1, d2, d3] => { results := [.lit (.bool true)], args := [d1, d2, d3] }
  | _ => none }
def honeycombHalvesRow : OpenClaim := { program := "ytnkdbpjmepfblaagreatdoor", sum := "8a9278322c2d326675489ff8fb896d3f7acb984b21f85fab2ce677d7151084aa", func := "honeycomb/honeycombtop.HoneycombHalves", spec := "honeycombHalves", unfollowed := true, recurses := true, named := ["honeycomb/axis.six"], plainKeys := false, apart := false, laid := [("honeycomb/axis.six", laid_honeycomb_axis_six)] }
def HoneycombHalvesSaid : Prop := honeycombHalvesRow.holds Tryz.pinned (OpenSpec.ofChange honeycombHalvesSpec)

/-- ITS FALSE NEIGHBOUR: 'it returns false'. Refute it at one input. -/
def honeycombHalvesWrong : ChangeSpec := { name := "honeycombHalves", fn := fun _ => fun
  | [d1, d2, d3] => { results := [.lit (.bool false)], args := [d1, d2, d3] }
  | _ => none }
def HoneycombHalvesWrongFalsely : Prop := honeycombHalvesRow.holds Tryz.pinned (OpenSpec.ofChange honeycombHalvesWrong)

/-- 'honeycombtop.HoneycombTurned': WHATEVER THE INPUT: true; the input reads as it did. -/
def honeycombTurnedSpec : ChangeSpec := { name := "honeycombTurned", fn := fun _ => fun
  | [d1, d2, d3, d4, d5] => { results := [.lit (.bool true)], args := [d1, d2, d3, d4, d5] }
  | _ => none }
def honeycombTurnedRow : OpenClaim := { program := "ytnkdbpjmepfblaagreatdoor", sum := "8a9278322c2d326675489ff8fb896d3f7acb984b21f85fab2ce677d7151084aa", func := "honeycomb/honeycombtop.HoneycombTurned", spec := "honeycombTurned", unfollowed := true, recurses := true, named := ["honeycomb/axis.six"], plainKeys := false, apart := false, laid := [("honeycomb/axis.six", laid_honeycomb_axis_six)] }
def HoneycombTurnedSaid : Prop := honeycombTurnedRow.holds Tryz.pinned (OpenSpec.ofChange honeycombTurnedSpec)

/-- ITS FALSE NEIGHBOUR: 'it returns false'. Refute it at one input. -/
def honeycombTurnedWrong : ChangeSpec := { name := "honeycombTurned", fn := fun _ => fun
  | [d1, d2, d3, d4, d5] => { results := [.lit (.bool false)], args := [d1, d2, d3, d4, d5] }
  | _ => none }
def HoneycombTurnedWrongFalsely : Prop := honeycombTurnedRow.holds Tryz.pinned (OpenSpec.ofChange honeycombTurnedWrong)

/- THE SECOND FORM. 'bulk': how many values and letters a reading holds, each counted each time it is reached (what is shared counts as often as it is met; a slice's spare places count too). A statement '..UptoSaid' is the law's where the arguments, and the package variables that the reading takes, are together of bulk at most 1048576: NARROWER than '..Said'. Prove '..Said' where nothing that the law and all that it calls make is longer than what came in: it says more and counts as full. Else prove '..UptoSaid'. A law counts once. -/
mutual
def uptoBulk {H : Type} : DataW H → Nat
  | .lit (.string bytes) => bytes.length + 1
  | .lit _ => 1
  | .nil => 1
  | .ptr d => uptoBulk d + 1
  | .slice elems spare => uptoBulkAll elems + uptoBulkAll spare + 1
  | .agg parts => uptoBulkAll parts + 1
  | .iface _ d => uptoBulk d + 1
  | .map entries => uptoBulkEntries entries + 1
  | .held _ => 1
def uptoBulkAll {H : Type} : List (DataW H) → Nat
  | [] => 0
  | d :: r => uptoBulk d + uptoBulkAll r
def uptoBulkEntries {H : Type} : List (Lit × DataW H) → Nat
  | [] => 0
  | x :: r => uptoBulkEntry x + uptoBulkEntries r
def uptoBulkEntry {H : Type} : Lit × DataW H → Nat
  | (.string bytes, d) => bytes.length + uptoBulk d + 1
  | (_, d) => uptoBulk d + 1
 end
def uptoSmall : (H : Type) → List (DataW H) → Bool := fun _ ds => decide (uptoBulkAll ds ≤ 1048576)
def OpenSpec.upto (s : _root_.Go.ChangeSpec) : _root_.Go.OpenSpec := { _root_.Go.OpenSpec.ofChange s with cond := some uptoSmall }

/-- 'honeycomblaw16.JumpParts', WHERE WHAT IT READS IS OF BULK AT MOST 1048576: true; the input reads as it did. -/
def jumpPartsUptoRow : OpenClaim := { program := "ytnkdbpjmepfblaagreatdoor", sum := "8a9278322c2d326675489ff8fb896d3f7acb984b21f85fab2ce677d7151084aa", func := "honeycomb/honeycomblaw16.JumpParts", spec := "jumpParts", unfollowed := true, recurses := true, named := ["honeycomb/axis.six"], plainKeys := false, apart := false, laid := [("honeycomb/axis.six", laid_honeycomb_axis_six)], narrowed := true }
def JumpPartsUptoSaid : Prop := jumpPartsUptoRow.holds Tryz.pinned (OpenSpec.upto jumpPartsSpec)

/-- 'honeycomblaw16.JumpGoes', WHERE WHAT IT READS IS OF BULK AT MOST 1048576: true; the input reads as it did. -/
def jumpGoesUptoRow : OpenClaim := { program := "ytnkdbpjmepfblaagreatdoor", sum := "8a9278322c2d326675489ff8fb896d3f7acb984b21f85fab2ce677d7151084aa", func := "honeycomb/honeycomblaw16.JumpGoes", spec := "jumpGoes", unfollowed := true, recurses := true, named := ["honeycomb/axis.six"], plainKeys := false, apart := false, laid := [("honeycomb/axis.six", laid_honeycomb_axis_six)], narrowed := true }
def JumpGoesUptoSaid : Prop := jumpGoesUptoRow.holds Tryz.pinned (OpenSpec.upto jumpGoesSpec)

/-- 'honeycomblaw16.JumpSteps', WHERE WHAT IT READS IS OF BULK AT MOST 1048576: true; the input reads as it did. -/
def jumpStepsUptoRow : OpenClaim := { program := "ytnkdbpjmepfblaagreatdoor", sum := "8a9278322c2d326675489ff8fb896d3f7acb984b21f85fab2ce677d7151084aa", func := "honeycomb/honeycomblaw16.JumpSteps", spec := "jumpSteps", unfollowed := true, recurses := true, named := ["honeycomb/axis.six"], plainKeys := false, apart := false, laid := [("honeycomb/axis.six", laid_honeycomb_axis_six)], narrowed := true }
def JumpStepsUptoSaid : Prop := jumpStepsUptoRow.holds Tryz.pinned (OpenSpec.upto jumpStepsSpec)

/-- 'honeycomblaw16.JumpFar', WHERE WHAT IT READS IS OF BULK AT MOST 1048576: true; the input reads as it did. -/
def jumpFarUptoRow : OpenClaim := { program := "ytnkdbpjmepfblaagreatdoor", sum := "8a9278322c2d326675489ff8fb896d3f7acb984b21f85fab2ce677d7151084aa", func := "honeycomb/honeycomblaw16.JumpFar", spec := "jumpFar", unfollowed := true, recurses := true, named := ["honeycomb/axis.six"], plainKeys := false, apart := false, laid := [("honeycomb/axis.six", laid_honeycomb_axis_six)], narrowed := true }
def JumpFarUptoSaid : Prop := jumpFarUptoRow.holds Tryz.pinned (OpenSpec.upto jumpFarSpec)

/-- 'honeycombtop.HoneycombPeriods', WHERE WHAT IT READS IS OF BULK AT MOST 1048576: true; the input reads as it did. -/
def honeycombPeriodsUptoRow : OpenClaim := { program := "ytnkdbpjmepfblaagreatdoor", sum := "8a9278322c2d326675489ff8fb896d3f7acb984b21f85fab2ce677d7151084aa", func := "honeycomb/honeycombtop.HoneycombPeriods", spec := "honeycombPeriods", unfollowed := true, recurses := true, named := ["honeycomb/axis.six"], plainKeys := false, apart := false, laid := [("honeycomb/axis.six", laid_honeycomb_axis_six)], narrowed := true }
def HoneycombPeriodsUptoSaid : Prop := honeycombPeriodsUptoRow.holds Tryz.pinned (OpenSpec.upto honeycombPeriodsSpec)

/-- 'honeycomblaw19.BoundEnough', WHERE WHAT IT READS IS OF BULK AT MOST 1048576: true; the input reads as it did. -/
def boundEnoughUptoRow : OpenClaim := { program := "ytnkdbpjmepfblaagreatdoor", sum := "8a9278322c2d326675489ff8fb896d3f7acb984b21f85fab2ce677d7151084aa", func := "honeycomb/honeycomblaw19.BoundEnough", spec := "boundEnough", unfollowed := true, recurses := true, named := ["honeycomb/axis.six"], plainKeys := false, apart := false, laid := [("honeycomb/axis.six", laid_honeycomb_axis_six)], narrowed := true }
def BoundEnoughUptoSaid : Prop := boundEnoughUptoRow.holds Tryz.pinned (OpenSpec.upto boundEnoughSpec)

/-- 'honeycombtop.HoneycombSpeed', WHERE WHAT IT READS IS OF BULK AT MOST 1048576: true; the input reads as it did. -/
def honeycombSpeedUptoRow : OpenClaim := { program := "ytnkdbpjmepfblaagreatdoor", sum := "8a9278322c2d326675489ff8fb896d3f7acb984b21f85fab2ce677d7151084aa", func := "honeycomb/honeycombtop.HoneycombSpeed", spec := "honeycombSpeed", unfollowed := true, recurses := true, named := ["honeycomb/axis.six"], plainKeys := false, apart := false, laid := [("honeycomb/axis.six", laid_honeycomb_axis_six)], narrowed := true }
def HoneycombSpeedUptoSaid : Prop := honeycombSpeedUptoRow.holds Tryz.pinned (OpenSpec.upto honeycombSpeedSpec)

/-- 'honeycomblaw22.WorldSets', WHERE WHAT IT READS IS OF BULK AT MOST 1048576: true; the input reads as it did. -/
def worldSetsUptoRow : OpenClaim := { program := "ytnkdbpjmepfblaagreatdoor", sum := "8a9278322c2d326675489ff8fb896d3f7acb984b21f85fab2ce677d7151084aa", func := "honeycomb/honeycomblaw22.WorldSets", spec := "worldSets", inPlace := ["internal/bytealg.IndexByteString", "internal/reflectlite.TypeOf"], unfollowed := true, recurses := true, named := ["honeycomb/axis.six"], plainKeys := false, apart := false, laid := [("honeycomb/axis.six", laid_honeycomb_axis_six)], narrowed := true }
def WorldSetsUptoSaid : Prop := worldSetsUptoRow.holds Tryz.pinned (OpenSpec.upto worldSetsSpec)

/-- 'honeycombtop.HoneycombOne', WHERE WHAT IT READS IS OF BULK AT MOST 1048576: true; the input reads as it did. -/
def honeycombOneUptoRow : OpenClaim := { program := "ytnkdbpjmepfblaagreatdoor", sum := "8a9278322c2d326675489ff8fb896d3f7acb984b21f85fab2ce677d7151084aa", func := "honeycomb/honeycombtop.HoneycombOne", spec := "honeycombOne", unfollowed := true, recurses := true, named := ["honeycomb/axis.six"], plainKeys := false, apart := false, laid := [("honeycomb/axis.six", laid_honeycomb_axis_six)], narrowed := true }
def HoneycombOneUptoSaid : Prop := honeycombOneUptoRow.holds Tryz.pinned (OpenSpec.upto honeycombOneSpec)

/-- 'honeycomblaw22.WorldEnough', WHERE WHAT IT READS IS OF BULK AT MOST 1048576: true; the input reads as it did. -/
def worldEnoughUptoRow : OpenClaim := { program := "ytnkdbpjmepfblaagreatdoor", sum := "8a9278322c2d326675489ff8fb896d3f7acb984b21f85fab2ce677d7151084aa", func := "honeycomb/honeycomblaw22.WorldEnough", spec := "worldEnough", inPlace := ["internal/bytealg.IndexByteString", "internal/reflectlite.TypeOf"], unfollowed := true, recurses := true, named := ["honeycomb/axis.six"], plainKeys := false, apart := false, laid := [("honeycomb/axis.six", laid_honeycomb_axis_six)], narrowed := true }
def WorldEnoughUptoSaid : Prop := worldEnoughUptoRow.holds Tryz.pinned (OpenSpec.upto worldEnoughSpec)

/-- 'honeycomblaw22.WorldTurns', WHERE WHAT IT READS IS OF BULK AT MOST 1048576: true; the input reads as it did. -/
def worldTurnsUptoRow : OpenClaim := { program := "ytnkdbpjmepfblaagreatdoor", sum := "8a9278322c2d326675489ff8fb896d3f7acb984b21f85fab2ce677d7151084aa", func := "honeycomb/honeycomblaw22.WorldTurns", spec := "worldTurns", inPlace := ["internal/bytealg.IndexByteString", "internal/reflectlite.TypeOf"], unfollowed := true, recurses := true, named := ["honeycomb/axis.six"], plainKeys := false, apart := false, laid := [("honeycomb/axis.six", laid_honeycomb_axis_six)], narrowed := true }
def WorldTurnsUptoSaid : Prop := worldTurnsUptoRow.holds Tryz.pinned (OpenSpec.upto worldTurnsSpec)

/-- 'honeycombtop.HoneycombAlone', WHERE WHAT IT READS IS OF BULK AT MOST 1048576: true; the input reads as it did. -/
def honeycombAloneUptoRow : OpenClaim := { program := "ytnkdbpjmepfblaagreatdoor", sum := "8a9278322c2d326675489ff8fb896d3f7acb984b21f85fab2ce677d7151084aa", func := "honeycomb/honeycombtop.HoneycombAlone", spec := "honeycombAlone", unfollowed := true, recurses := true, named := ["honeycomb/axis.six"], plainKeys := false, apart := false, laid := [("honeycomb/axis.six", laid_honeycomb_axis_six)], narrowed := true }
def HoneycombAloneUptoSaid : Prop := honeycombAloneUptoRow.holds Tryz.pinned (OpenSpec.upto honeycombAloneSpec)

/-- 'honeycombtop.HoneycombSwept', WHERE WHAT IT READS IS OF BULK AT MOST 1048576: true; the input reads as it did. -/
def honeycombSweptUptoRow : OpenClaim := { program := "ytnkdbpjmepfblaagreatdoor", sum := "8a9278322c2d326675489ff8fb896d3f7acb984b21f85fab2ce677d7151084aa", func := "honeycomb/honeycombtop.HoneycombSwept", spec := "honeycombSwept", unfollowed := true, recurses := true, named := ["honeycomb/axis.six"], plainKeys := false, apart := false, laid := [("honeycomb/axis.six", laid_honeycomb_axis_six)], narrowed := true }
def HoneycombSweptUptoSaid : Prop := honeycombSweptUptoRow.holds Tryz.pinned (OpenSpec.upto honeycombSweptSpec)

/-- 'honeycombtop.HoneycombApart', WHERE WHAT IT READS IS OF BULK AT MOST 1048576: true; the input reads as it did. -/
def honeycombApartUptoRow : OpenClaim := { program := "ytnkdbpjmepfblaagreatdoor", sum := "8a9278322c2d326675489ff8fb896d3f7acb984b21f85fab2ce677d7151084aa", func := "honeycomb/honeycombtop.HoneycombApart", spec := "honeycombApart", unfollowed := true, recurses := true, named := ["honeycomb/axis.six"], plainKeys := false, apart := false, laid := [("honeycomb/axis.six", laid_honeycomb_axis_six)], narrowed := true }
def HoneycombApartUptoSaid : Prop := honeycombApartUptoRow.holds Tryz.pinned (OpenSpec.upto honeycombApartSpec)

/-- 'honeycombtop.HoneycombHalves', WHERE WHAT IT READS IS OF BULK AT MOST 1048576: true; the input reads as it did. -/
def honeycombHalvesUptoRow : OpenClaim := { program := "ytnkdbpjmepfblaagreatdoor", sum := "8a9278322c2d326675489ff8fb896d3f7acb984b21f85fab2ce677d7151084aa", func := "honeycomb/honeycombtop.HoneycombHalves", spec := "honeycombHalves", unfollowed := true, recurses := true, named := ["honeycomb/axis.six"], plainKeys := false, apart := false, laid := [("honeycomb/axis.six", laid_honeycomb_axis_six)], narrowed := true }
def HoneycombHalvesUptoSaid : Prop := honeycombHalvesUptoRow.holds Tryz.pinned (OpenSpec.upto honeycombHalvesSpec)

/-- 'honeycombtop.HoneycombTurned', WHERE WHAT IT READS IS OF BULK AT MOST 1048576: true; the input reads as it did. -/
def honeycombTurnedUptoRow : OpenClaim := { program := "ytnkdbpjmepfblaagreatdoor", sum := "8a9278322c2d326675489ff8fb896d3f7acb984b21f85fab2ce677d7151084aa", func := "honeycomb/honeycombtop.HoneycombTurned", spec := "honeycombTurned", unfollowed := true, recurses := true, named := ["honeycomb/axis.six"], plainKeys := false, apart := false, laid := [("honeycomb/axis.six", laid_honeycomb_axis_six)], narrowed := true }
def HoneycombTurnedUptoSaid : Prop := honeycombTurnedUptoRow.holds Tryz.pinned (OpenSpec.upto honeycombTurnedSpec)

end Rows
end Go.Proofs.YtnkdbpjmepfblaaGreatDoor
