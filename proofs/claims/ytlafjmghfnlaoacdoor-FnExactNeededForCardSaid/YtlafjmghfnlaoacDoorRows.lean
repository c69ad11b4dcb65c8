/-
  NARROWER THAN 'FOR EVERY INPUT', by the rows' own cells (each row's printed sentence says how): FnExactValidStep: laid · FnExactValidPlan: laid · FnExactIsTimeless: laid · FnExactLengthAfter: laid · FnExactNeededFor: laid.
  DERIVED. THE GIVEN ROWS OF THIS SEAT. 5 by the template 'for every input the law returns true; each argument reads behind the call as it read before'; 0 by the template 'total and deterministic' (their statements: YtlafjmghfnlaoacDoorTotals.lean).
  GIVEN WITH THE SEED: the statements are not yours to turn. If you find one false, say at which input.
  Laid BY PROGRAM, IN A SANDBOX (cutbox-rows.mjs): the forced cells as the released guide's own fill.sh prints them over the translation dbccf8f278e84877… (all of the seat's roots in one cut). By AI agents, Wed Nov 11 2026. No macro, syntax, notation, axiom, sorry.
-/
import Derived.Test.YtlafjmghfnlaoacDoorChecked
import GoSem.Claim
import GoSem.ClaimJoined
import GoSem.ClaimMapViews
import Derived.JoinedTies
import Derived.KernelRfl
namespace Go.Proofs.YtlafjmghfnlaoacDoor
/- THE CELL 'sum', in the pinned program and in every row, IS THE sha256 OF THE DUMP (.gsa) THAT YtlafjmghfnlaoacDoorProg.lean LOADS. Nothing in Lean hashes anything: it is a label: what it is worth is what the hold of that sum in a sandbox is worth. -/
noncomputable def Tryd.pinned : Pinned := { name := "ytlafjmghfnlaoacdoor", sum := "dbccf8f278e848778e80fb1df6fdfe548c2cad9c88dda0664314fa74a8936940", checked := Tryd.checked }
namespace Rows
def none {H : Type} : Left H := { results := [], args := [] }

/- WHAT THE LISTED PACKAGE-LEVEL VARIABLES READ AS WHEN THE CALL BEGINS. Each datum BY PROGRAM (the guide's laid-datum.mjs) off the statement by which the dump's own 'gosem.cut.vars' lays the variable. In a bare row this is a premise. The card (YtlafjmghfnlaoacDoorCards.lean) ties it to the program's text. -/
def laid_loop_example_g01155_impl_stepForms {H : Type} : DataW H := .slice [.agg [.lit (.string []), .lit (.bool false), .lit (.bool false), .lit (.bool false)], .agg [.lit (.string [103, 97, 105, 110]), .lit (.bool true), .lit (.bool true), .lit (.bool false)], .agg [.lit (.string [100, 101, 108, 97, 121]), .lit (.bool true), .lit (.bool false), .lit (.bool false)], .agg [.lit (.string [102, 105, 108, 116, 101, 114]), .lit (.bool false), .lit (.bool false), .lit (.bool true)], .agg [.lit (.string [116, 117, 114, 110]), .lit (.bool true), .lit (.bool true), .lit (.bool false)], .agg [.lit (.string [107, 101, 101, 112]), .lit (.bool true), .lit (.bool false), .lit (.bool false)], .agg [.lit (.string [115, 116, 117, 102, 102]), .lit (.bool true), .lit (.bool false), .lit (.bool false)], .agg [.lit (.string [98, 108, 111, 99, 107]), .lit (.bool true), .lit (.bool false), .lit (.bool false)], .agg [.lit (.string [98, 97, 99, 107]), .lit (.bool true), .lit (.bool false), .lit (.bool false)], .agg [.lit (.string [102, 108, 105, 112]), .lit (.bool true), .lit (.bool false), .lit (.bool false)], .agg [.lit (.string [115, 117, 109]), .lit (.bool true), .lit (.bool false), .lit (.bool false)], .agg [.lit (.string [110, 97, 114, 114, 111, 119]), .lit (.bool false), .lit (.bool false), .lit (.bool false)], .agg [.lit (.string [109, 105, 114, 114, 111, 114]), .lit (.bool false), .lit (.bool false), .lit (.bool false)], .agg [.lit (.string [115, 113, 117, 97, 114, 101]), .lit (.bool false), .lit (.bool false), .lit (.bool false)]] []

/-- 'laws.FnExactValidStep': WHATEVER THE INPUT: true; the input reads as it did. -/
def fnExactValidStepSpec : ChangeSpec := { name := "fnExactValidStep", vars := ["loop.example/g01155/impl.stepForms"], fn := fun _ => fun
  | [d, g1] => { results := [.lit (.bool true)], args := [d], vars := [g1] }
  | _ => none }
def fnExactValidStepRow : OpenClaim := { program := "ytlafjmghfnlaoacdoor", sum := "dbccf8f278e848778e80fb1df6fdfe548c2cad9c88dda0664314fa74a8936940", func := "loop.example/g01155/laws.FnExactValidStep", spec := "fnExactValidStep", unfollowed := true, recurses := true, named := ["loop.example/g01155/impl.stepForms"], apart := false, laid := [("loop.example/g01155/impl.stepForms", laid_loop_example_g01155_impl_stepForms)] }
def FnExactValidStepSaid : Prop := fnExactValidStepRow.holds Tryd.pinned (OpenSpec.ofChange fnExactValidStepSpec)

/-- ITS FALSE NEIGHBOUR: 'it returns false'. Refute it at one input. -/
def fnExactValidStepWrong : ChangeSpec := { name := "fnExactValidStep", vars := ["loop.example/g01155/impl.stepForms"], fn := fun _ => fun
  | [d, g1] => { results := [.lit (.bool false)], args := [d], vars := [g1] }
  | _ => none }
def FnExactValidStepWrongFalsely : Prop := fnExactValidStepRow.holds Tryd.pinned (OpenSpec.ofChange fnExactValidStepWrong)

/-- 'laws.FnExactValidPlan': WHATEVER THE INPUT: true; the input reads as it did. -/
def fnExactValidPlanSpec : ChangeSpec := { name := "fnExactValidPlan", vars := ["loop.example/g01155/impl.stepForms"], fn := fun _ => fun
  | [d, g1] => { results := [.lit (.bool true)], args := [d], vars := [g1] }
  | _ => none }
def fnExactValidPlanRow : OpenClaim := { program := "ytlafjmghfnlaoacdoor", sum := "dbccf8f278e848778e80fb1df6fdfe548c2cad9c88dda0664314fa74a8936940", func := "loop.example/g01155/laws.FnExactValidPlan", spec := "fnExactValidPlan", unfollowed := true, recurses := true, named := ["loop.example/g01155/impl.stepForms"], apart := false, laid := [("loop.example/g01155/impl.stepForms", laid_loop_example_g01155_impl_stepForms)] }
def FnExactValidPlanSaid : Prop := fnExactValidPlanRow.holds Tryd.pinned (OpenSpec.ofChange fnExactValidPlanSpec)

/-- ITS FALSE NEIGHBOUR: 'it returns false'. Refute it at one input. -/
def fnExactValidPlanWrong : ChangeSpec := { name := "fnExactValidPlan", vars := ["loop.example/g01155/impl.stepForms"], fn := fun _ => fun
  | [d, g1] => { results := [.lit (.bool false)], args := [d], vars := [g1] }
  | _ => none }
def FnExactValidPlanWrongFalsely : Prop := fnExactValidPlanRow.holds Tryd.pinned (OpenSpec.ofChange fnExactValidPlanWrong)

/-- 'laws.FnExactIsTimeless': WHATEVER THE INPUT: true; the input reads as it did. -/
def fnExactIsTimelessSpec : ChangeSpec := { name := "fnExactIsTimeless", vars := ["loop.example/g01155/impl.stepForms"], fn := fun _ => fun
  | [d, g1] => { results := [.lit (.bool true)], args := [d], vars := [g1] }
  | _ => none }
def fnExactIsTimelessRow : OpenClaim := { program := "ytlafjmghfnlaoacdoor", sum := "dbccf8f278e848778e80fb1df6fdfe548c2cad9c88dda0664314fa74a8936940", func := "loop.example/g01155/laws.FnExactIsTimeless", spec := "fnExactIsTimeless", unfollowed := true, recurses := true, named := ["loop.example/g01155/impl.stepForms"], apart := false, laid := [("loop.example/g01155/impl.stepForms", laid_loop_example_g01155_impl_stepForms)] }
def FnExactIsTimelessSaid : Prop := fnExactIsTimelessRow.holds Tryd.pinned (OpenSpec.ofChange fnExactIsTimelessSpec)

/-- ITS FALSE NEIGHBOUR: 'it returns false'. Refute it at one input. -/
def fnExactIsTimelessWrong : ChangeSpec := { name := "fnExactIsTimeless", vars := ["loop.example/g01155/impl.stepForms"], fn := fun _ => fun
  | [d, g1] => { results := [.lit (.bool false)], args := [d], vars := [g1] }
  | _ => none }
def FnExactIsTimelessWrongFalsely : Prop := fnExactIsTimelessRow.holds Tryd.pinned (OpenSpec.ofChange fnExactIsTimelessWrong)

/-- 'laws.FnExactLengthAfter': WHATEVER THE INPUT: true; the input reads as it did. -/
def fnExactLengthAfterSpec : ChangeSpec := { name := "fnExactLengthAfter", vars := ["loop.example/g01155/impl.stepForms"], fn := fun _ => fun
  | [d1, d2, g1] => { results := [.lit (.bool true)], args := [d1, d2], vars := [g1] }
  | _ => none }
def fnExactLengthAfterRow : OpenClaim := { program := "ytlafjmghfnlaoacdoor", sum := "dbccf8f278e848778e80fb1df6fdfe548c2cad9c88dda0664314fa74a8936940", func := "loop.example/g01155/laws.FnExactLengthAfter", spec := "fnExactLengthAfter", unfollowed := true, recurses := true, named := ["loop.example/g01155/impl.stepForms"], apart := false, laid := [("loop.example/g01155/impl.stepForms", laid_loop_example_g01155_impl_stepForms)] }
def FnExactLengthAfterSaid : Prop := fnExactLengthAfterRow.holds Tryd.pinned (OpenSpec.ofChange fnExactLengthAfterSpec)

/-- ITS FALSE NEIGHBOUR: 'it returns false'. Refute it at one input. -/
def fnExactLengthAfterWrong : ChangeSpec := { name := "fnExactLengthAfter", vars := ["loop.example/g01155/impl.stepForms"], fn := fun _ => fun
  | [d1, d2, g1] => { results := [.lit (.bool false)], args := [d1, d2], vars := [g1] }
  | _ => none }
def FnExactLengthAfterWrongFalsely : Prop := fnExactLengthAfterRow.holds Tryd.pinned (OpenSpec.ofChange fnExactLengthAfterWrong)

/-- 'laws.FnExactNeededFor': WHATEVER THE INPUT: true; the input reads as it did. -/
def fnExactNeededForSpec : ChangeSpec := { name := "fnExactNeededFor", vars := ["loop.example/g01155/impl.stepForms"], fn := fun _ => fun
  | [d1, d2, g1] => { results := [.lit (.bool true)], args := [d1, d2], vars := [g1] }
  | _ => none }
def fnExactNeededForRow : OpenClaim := { program := "ytlafjmghfnlaoacdoor", sum := "dbccf8f278e848778e80fb1df6fdfe548c2cad9c88dda0664314fa74a8936940", func := "loop.example/g01155/laws.FnExactNeededFor", spec := "fnExactNeededFor", unfollowed := true, recurses := true, named := ["loop.example/g01155/impl.stepForms"], apart := false, laid := [("loop.example/g01155/impl.stepForms", laid_loop_example_g01155_impl_stepForms)] }
def FnExactNeededForSaid : Prop := fnExactNeededForRow.holds Tryd.pinned (OpenSpec.ofChange fnExactNeededForSpec)

/-- ITS FALSE NEIGHBOUR: 'it returns false'. Refute it at one input. -/
def fnExactNeededForWrong : ChangeSpec := { name := "fnExactNeededFor", vars := ["loop.example/g01155/impl.stepForms"], fn := fun _ => fun
  | [d1, d2, g1] => { results := [.lit (.bool false)], args := [d1, d2], vars := [g1] }
  | _ => none }
def FnExactNeededForWrongFalsely : Prop := fnExactNeededForRow.holds Tryd.pinned (OpenSpec.ofChange fnExactNeededForWrong)

/- THE SECOND FORM. 'bulk': how many values and letters a reading holds, each counted each time it is reached (what is shared counts as often as it is met; a slice's spare places count too). A statement '..UptoSaid' is the law's where the arguments, and the package variables that the reading takes, are together of bulk at most 1048576: NARROWER than '..Said'. Prove '..Said' where nothing that the law and all that it calls make is longer than what came in: it says more and counts as full. Else prove '..UptoSaid'. A law counts once. -/
mutual
def uptoBulk {H : Type} : DataW H → Nat
  | .lit (.string bytes) => bytes.length + 1
  | .lit _ => 1
  | .nil => 1
  | .ptr d => uptoBulk d + 1
  | .slice elems spare => uptoBulkAll elems + uptoBulkAll spare + 1
  | .agg parts => uptoBulkAll parts + 1
  | .iface _ d => uptoBulk d + 1
  | .map entries => uptoBulkEntries entries + 1
  | .held _ => 1
def uptoBulkAll {H : Type} : List (DataW H) → Nat
  | [] => 0
  | d :: r => uptoBulk d + uptoBulkAll r
def uptoBulkEntries {H : Type} : List (Lit × DataW H) → Nat
  | [] => 0
  | x :: r => uptoBulkEntry x + uptoBulkEntries r
def uptoBulkEntry {H : Type} : Lit × DataW H → Nat
  | (.string bytes, d) => bytes.length + uptoBulk d + 1
  | (_, d) => uptoBulk d + 1
 end
def uptoSmall : (H : Type) → List (DataW H) → Bool := fun _ ds => decide (uptoBulkAll ds ≤ 1048576)
def OpenSpec.upto (s : _root_.Go.ChangeSpec) : _root_.Go.OpenSpec := { _root_.Go.OpenSpec.ofChange s with cond := some uptoSmall }

/-- 'laws.FnExactValidStep', WHERE WHAT IT READS IS OF BULK AT MOST 1048576: true; the input reads as it did. -/
def fnExactValidStepUptoRow : OpenClaim := { program := "ytlafjmghfnlaoacdoor", sum := "dbccf8f278e848778e80fb1df6fdfe548c2cad9c88dda0664314fa74a8936940", func := "loop.example/g01155/laws.FnExactValidStep", spec := "fnExactValidStep", unfollowed := true, recurses := true, named := ["loop.example/g01155/impl.stepForms"], apart := false, laid := [("loop.example/g01155/impl.stepForms", laid_loop_example_g01155_impl_stepForms)], narrowed := true }
def FnExactValidStepUptoSaid : Prop := fnExactValidStepUptoRow.holds Tryd.pinned (OpenSpec.upto fnExactValidStepSpec)

/-- 'laws.FnExactValidPlan', WHERE WHAT IT READS IS OF BULK AT MOST 1048576: true; the input reads as it did. -/
def fnExactValidPlanUptoRow : OpenClaim := { program := "ytlafjmghfnlaoacdoor", sum := "dbccf8f278e848778e80fb1df6fdfe548c2cad9c88dda0664314fa74a8936940", func := "loop.example/g01155/laws.FnExactValidPlan", spec := "fnExactValidPlan", unfollowed := true, recurses := true, named := ["loop.example/g01155/impl.stepForms"], apart := false, laid := [("loop.example/g01155/impl.stepForms", laid_loop_example_g01155_impl_stepForms)], narrowed := true }
def FnExactValidPlanUptoSaid : Prop := fnExactValidPlanUptoRow.holds Tryd.pinned (OpenSpec.upto fnExactValidPlanSpec)

/-- 'laws.FnExactIsTimeless', WHERE WHAT IT READS IS OF BULK AT MOST 1048576: true; the input reads as it did. -/
def fnExactIsTimelessUptoRow : OpenClaim := { program := "ytlafjmghfnlaoacdoor", sum := "dbccf8f278e848778e80fb1df6fdfe548c2cad9c88dda0664314fa74a8936940", func := "loop.example/g01155/laws.FnExactIsTimeless", spec := "fnExactIsTimeless", unfollowed := true, recurses := true, named := ["loop.example/g01155/impl.stepForms"], apart := false, laid := [("loop.example/g01155/impl.stepForms", laid_loop_example_g01155_impl_stepForms)], narrowed := true }
def FnExactIsTimelessUptoSaid : Prop := fnExactIsTimelessUptoRow.holds Tryd.pinned (OpenSpec.upto fnExactIsTimelessSpec)

/-- 'laws.FnExactLengthAfter', WHERE WHAT IT READS IS OF BULK AT MOST 1048576: true; the input reads as it did. -/
def fnExactLengthAfterUptoRow : OpenClaim := { program := "ytlafjmghfnlaoacdoor", sum := "dbccf8f278e848778e80fb1df6fdfe548c2cad9c88dda0664314fa74a8936940", func := "loop.example/g01155/laws.FnExactLengthAfter", spec := "fnExactLengthAfter", unfollowed := true, recurses := true, named := ["loop.example/g01155/impl.stepForms"], apart := false, laid := [("loop.example/g01155/impl.stepForms", laid_loop_example_g01155_impl_stepForms)], narrowed := true }
def FnExactLengthAfterUptoSaid : Prop := fnExactLengthAfterUptoRow.holds Tryd.pinned (OpenSpec.upto fnExactLengthAfterSpec)

/-- 'laws.FnExactNeededFor', WHERE WHAT IT READS IS OF BULK AT MOST 1048576: true; the input reads as it did. -/
def fnExactNeededForUptoRow : OpenClaim := { program := "ytlafjmghfnlaoacdoor", sum := "dbccf8f278e848778e80fb1df6fdfe548c2cad9c88dda0664314fa74a8936940", func := "loop.example/g01155/laws.FnExactNeededFor", spec := "fnExactNeededFor", unfollowed := true, recurses := true, named := ["loop.example/g01155/impl.stepForms"], apart := false, laid := [("loop.example/g01155/impl.stepForms", laid_loop_example_g01155_impl_stepForms)], narrowed := true }
def FnExactNeededForUptoSaid : Prop := fnExactNeededForUptoRow.holds Tryd.pinned (OpenSpec.upto fnExactNeededForSpec)

end Rows
end Go.Proofs.YtlafjmghfnlaoacDoor
