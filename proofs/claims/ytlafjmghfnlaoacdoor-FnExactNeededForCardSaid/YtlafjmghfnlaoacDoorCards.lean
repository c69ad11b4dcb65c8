/-
  DERIVED. GIVEN WITH THE SEED: THE CARDS: each row of YtlafjmghfnlaoacDoorRows.lean that lists a variable, with what it lists TIED to the program's text (the seventh form; the later family's looks); each row that meets fmt, with fmt's text TOLD by the authors' own Lean function (tested against real Go, not proved from fmt's source: count such statements apart). THE CARD IS WHAT COUNTS. Prove the row's statement (the work); the ties are given (YtlafjmghfnlaoacDoorTie.lean); close each card by the builder's one call (the guide's Derived/Test/ToyasCard.lean, 'card_holds'). Laid BY PROGRAM, IN A SANDBOX (cutbox-door.mjs). By AI agents, Wed Nov 11 2026. No macro, syntax, notation, axiom, sorry.
-/
import Derived.Test.YtlafjmghfnlaoacDoorRows
import GoSem.ClaimSeven
namespace Go.Proofs.YtlafjmghfnlaoacDoor
namespace Rows

/-- THE TIED CARD OF 'laws.FnExactValidStep'. -/
def fnExactValidStepCard : Claim7 := { stood := { row := fnExactValidStepRow, standIns := [], harness := (true, "a85ad73e5883d2c9ee2896b756e04aee7426a0a0d1a35c2c3d52bcab327e28b9"), looks := false }, kinds := [], alts := [], laidByText := true, laidKinds := [.widerDeep], laidTests := true, laidLooks := .later }
def FnExactValidStepCardSaid : Prop := Claim7.holds Tryd.pinned (.plain (OpenSpec.ofChange fnExactValidStepSpec)) fnExactValidStepCard

/-- THE TIED CARD OF 'laws.FnExactValidPlan'. -/
def fnExactValidPlanCard : Claim7 := { stood := { row := fnExactValidPlanRow, standIns := [], harness := (true, "a85ad73e5883d2c9ee2896b756e04aee7426a0a0d1a35c2c3d52bcab327e28b9"), looks := false }, kinds := [], alts := [], laidByText := true, laidKinds := [.widerDeep], laidTests := true, laidLooks := .later }
def FnExactValidPlanCardSaid : Prop := Claim7.holds Tryd.pinned (.plain (OpenSpec.ofChange fnExactValidPlanSpec)) fnExactValidPlanCard

/-- THE TIED CARD OF 'laws.FnExactIsTimeless'. -/
def fnExactIsTimelessCard : Claim7 := { stood := { row := fnExactIsTimelessRow, standIns := [], harness := (true, "a85ad73e5883d2c9ee2896b756e04aee7426a0a0d1a35c2c3d52bcab327e28b9"), looks := false }, kinds := [], alts := [], laidByText := true, laidKinds := [.widerDeep], laidTests := true, laidLooks := .later }
def FnExactIsTimelessCardSaid : Prop := Claim7.holds Tryd.pinned (.plain (OpenSpec.ofChange fnExactIsTimelessSpec)) fnExactIsTimelessCard

/-- THE TIED CARD OF 'laws.FnExactLengthAfter'. -/
def fnExactLengthAfterCard : Claim7 := { stood := { row := fnExactLengthAfterRow, standIns := [], harness := (true, "a85ad73e5883d2c9ee2896b756e04aee7426a0a0d1a35c2c3d52bcab327e28b9"), looks := false }, kinds := [], alts := [], laidByText := true, laidKinds := [.widerDeep], laidTests := true, laidLooks := .later }
def FnExactLengthAfterCardSaid : Prop := Claim7.holds Tryd.pinned (.plain (OpenSpec.ofChange fnExactLengthAfterSpec)) fnExactLengthAfterCard

/-- THE TIED CARD OF 'laws.FnExactNeededFor'. -/
def fnExactNeededForCard : Claim7 := { stood := { row := fnExactNeededForRow, standIns := [], harness := (true, "a85ad73e5883d2c9ee2896b756e04aee7426a0a0d1a35c2c3d52bcab327e28b9"), looks := false }, kinds := [], alts := [], laidByText := true, laidKinds := [.widerDeep], laidTests := true, laidLooks := .later }
def FnExactNeededForCardSaid : Prop := Claim7.holds Tryd.pinned (.plain (OpenSpec.ofChange fnExactNeededForSpec)) fnExactNeededForCard

/-- THE SECOND FORM's CARD OF 'laws.FnExactValidStep'. -/
def fnExactValidStepUptoCard : Claim7 := { stood := { row := fnExactValidStepUptoRow, standIns := [], harness := (true, "a85ad73e5883d2c9ee2896b756e04aee7426a0a0d1a35c2c3d52bcab327e28b9"), looks := false }, kinds := [], alts := [], laidByText := true, laidKinds := [.widerDeep], laidTests := true, laidLooks := .later }
def FnExactValidStepUptoCardSaid : Prop := Claim7.holds Tryd.pinned (.plain (OpenSpec.upto fnExactValidStepSpec)) fnExactValidStepUptoCard

/-- THE SECOND FORM's CARD OF 'laws.FnExactValidPlan'. -/
def fnExactValidPlanUptoCard : Claim7 := { stood := { row := fnExactValidPlanUptoRow, standIns := [], harness := (true, "a85ad73e5883d2c9ee2896b756e04aee7426a0a0d1a35c2c3d52bcab327e28b9"), looks := false }, kinds := [], alts := [], laidByText := true, laidKinds := [.widerDeep], laidTests := true, laidLooks := .later }
def FnExactValidPlanUptoCardSaid : Prop := Claim7.holds Tryd.pinned (.plain (OpenSpec.upto fnExactValidPlanSpec)) fnExactValidPlanUptoCard

/-- THE SECOND FORM's CARD OF 'laws.FnExactIsTimeless'. -/
def fnExactIsTimelessUptoCard : Claim7 := { stood := { row := fnExactIsTimelessUptoRow, standIns := [], harness := (true, "a85ad73e5883d2c9ee2896b756e04aee7426a0a0d1a35c2c3d52bcab327e28b9"), looks := false }, kinds := [], alts := [], laidByText := true, laidKinds := [.widerDeep], laidTests := true, laidLooks := .later }
def FnExactIsTimelessUptoCardSaid : Prop := Claim7.holds Tryd.pinned (.plain (OpenSpec.upto fnExactIsTimelessSpec)) fnExactIsTimelessUptoCard

/-- THE SECOND FORM's CARD OF 'laws.FnExactLengthAfter'. -/
def fnExactLengthAfterUptoCard : Claim7 := { stood := { row := fnExactLengthAfterUptoRow, standIns := [], harness := (true, "a85ad73e5883d2c9ee2896b756e04aee7426a0a0d1a35c2c3d52bcab327e28b9"), looks := false }, kinds := [], alts := [], laidByText := true, laidKinds := [.widerDeep], laidTests := true, laidLooks := .later }
def FnExactLengthAfterUptoCardSaid : Prop := Claim7.holds Tryd.pinned (.plain (OpenSpec.upto fnExactLengthAfterSpec)) fnExactLengthAfterUptoCard

/-- THE SECOND FORM's CARD OF 'laws.FnExactNeededFor'. -/
def fnExactNeededForUptoCard : Claim7 := { stood := { row := fnExactNeededForUptoRow, standIns := [], harness := (true, "a85ad73e5883d2c9ee2896b756e04aee7426a0a0d1a35c2c3d52bcab327e28b9"), looks := false }, kinds := [], alts := [], laidByText := true, laidKinds := [.widerDeep], laidTests := true, laidLooks := .later }
def FnExactNeededForUptoCardSaid : Prop := Claim7.holds Tryd.pinned (.plain (OpenSpec.upto fnExactNeededForSpec)) fnExactNeededForUptoCard
end Rows
end Go.Proofs.YtlafjmghfnlaoacDoor
