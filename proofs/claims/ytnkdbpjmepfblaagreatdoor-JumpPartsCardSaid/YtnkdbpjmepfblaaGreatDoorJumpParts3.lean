/- Texts of the walk and its plain law, merged: JpC. -/
import Derived.Test.YtnkdbpjmepfblaaGreatDoorJumpParts1
import Derived.Test.YtnkdbpjmepfblaaGreatDoorJumpParts2
import Derived.Test.YtnkdbpjmepfblaaGreatDoorTie
import Derived.Test.YtnkdbpjmepfblaaGreatDoorCards
import Derived.SevenTiedAt
/- JumpParts holds: the row, the card. -/
namespace Go.Proofs.YtnkdbpjmepfblaaGreatDoor
open Go

theorem named3 : Tryz.prog.funcNamed "honeycomb/honeycomblaw16.JumpParts" = some 3 := by kernel_rfl
theorem wrapper3 : Tryz.f3.isWrapper Tryz.prog Rows.jumpPartsRow.wrapper Rows.jumpPartsRow.mainSum := by unfold Func.isWrapper; first | (rw [if_pos (by decide +kernel)]; kernel_rfl) | (rw [if_neg (by decide +kernel)]; exact ⟨rfl, rfl⟩)
theorem jumpParts_instance : Tryz.f3.isInstance Tryz.prog Rows.jumpPartsRow.origin Rows.jumpPartsRow.targs := of_decide_eq_true (by kernel_rfl)
set_option maxRecDepth 100000 in
theorem jumpPartsClosed : joinedFacts Tryz.prog 3 Tryz.f3 Rows.jumpPartsSpec Rows.jumpPartsRow = true := by
  simp only [joinedFacts, Bool.and_eq_true]
  exact ⟨⟨⟨⟨⟨⟨⟨⟨⟨⟨⟨⟨⟨⟨⟨⟨⟨⟨⟨⟨⟨⟨⟨⟨⟨⟨⟨⟨⟨⟨⟨jumpPartsF0, jumpPartsF1⟩, jumpPartsF2⟩, jumpPartsF3⟩, jumpPartsF4⟩, jumpPartsF5⟩, jumpPartsF6⟩, jumpPartsF7⟩, jumpPartsF8⟩, jumpPartsF9⟩, jumpPartsF10⟩, jumpPartsF11⟩, jumpPartsF12⟩, jumpPartsF13⟩, jumpPartsF14⟩, jumpPartsF15⟩, jumpPartsF16⟩, jumpPartsF17⟩, jumpPartsF18⟩, jumpPartsF19⟩, jumpPartsF20⟩, jumpPartsF21⟩, jumpPartsF22⟩, jumpPartsF23⟩, jumpPartsF24⟩, jumpPartsF25⟩, jumpPartsF26⟩, jumpPartsF27⟩, jumpPartsF28⟩, jumpPartsF29⟩, jumpPartsF30⟩, jumpPartsF31⟩
theorem jumpParts_holds : Rows.JumpPartsSaid :=
  OpenClaim.holds_of_wide (p := Tryz.pinned) (s := Rows.jumpPartsSpec) (c := Rows.jumpPartsRow) 3 Tryz.f3 rfl rfl rfl rfl rfl rfl rfl ⟨rfl, rfl, rfl, rfl, rfl⟩ rfl rfl rfl rfl rfl named3 Tryz.func3 jumpPartsClosed jumpParts_instance wrapper3
    (fun os started H enc _ => jumpParts_lifted os started H enc)

theorem jumpParts_text : Rows.jumpPartsRow.wfByText (OpenSpec.ofChange Rows.jumpPartsSpec) = true := jpk1
theorem jumpParts_goes : false = Rows.jumpPartsRow.goesBy Tryz.prog := jpk6
/-- The tied card. -/
theorem jumpParts_card : Rows.JumpPartsCardSaid :=
  Claim7.holds_tied_plain_at (p := Tryz.pinned) (s := OpenSpec.ofChange Rows.jumpPartsSpec) (c := Rows.jumpPartsRow) .later [] [.data] true (true, "586a3ce12c616e56158f61a87d78e7b732050c83d533a8ab997c55e99bc8d37f") true
    jumpParts_holds (fun _ h => by cases h) jumpParts_text (fun _ h => by cases h) jumpParts_row_tie rfl ⟨rfl, rfl⟩ jpk2 rfl
    (fun f fn hf hfn => by
      obtain rfl : f = 3 := Option.some.inj (named3.symm.trans hf) |>.symm
      obtain rfl : fn = Tryz.f3 := (Option.some.inj (Tryz.func3.symm.trans hfn)).symm
      exact ⟨jpk3, fun j t ht => by
        rw [Tryz.params3] at ht
        rcases j with _ | _ | _ | _ | j
        · obtain rfl : t = 25 := by simpa using ht.symm
          exact stand25
        · obtain rfl : t = 26 := by simpa using ht.symm
          exact stand26
        · obtain rfl : t = 3 := by simpa using ht.symm
          exact stand3
        · obtain rfl : t = 3 := by simpa using ht.symm
          exact stand3
        · simp at ht⟩)
    jumpParts_goes
#print axioms jumpParts_card
end Go.Proofs.YtnkdbpjmepfblaaGreatDoor
