/-
  No cell of these rows narrows 'for every input' (looked for: loops, veiled, ifaces, maps, wideKeys, modest, calm, conditions, laid).
  DERIVED. THE GIVEN ROWS OF THIS SEAT. 12 by the template 'for every input the law returns true; each argument reads behind the call as it read before'; 0 by the template 'total and deterministic' (their statements: YtlafjmghfnlaoabTotals.lean).
  GIVEN WITH THE SEED: the statements are not yours to turn. If you find one false, say at which input.
  Laid BY PROGRAM, IN A SANDBOX (cutbox-rows.mjs): the forced cells as the released guide's own fill.sh prints them over the translation a31172eee726061b… (all of the seat's roots in one cut). By AI agents, Wed Nov 11 2026. No macro, syntax, notation, axiom, sorry.
-/
import Derived.Test.YtlafjmghfnlaoabChecked
import GoSem.Claim
import GoSem.ClaimJoined
import GoSem.ClaimMapViews
import Derived.JoinedTies
import Derived.KernelRfl
namespace Go.Proofs.Ytlafjmghfnlaoab
/- THE CELL 'sum', in the pinned program and in every row, IS THE sha256 OF THE DUMP (.gsa) THAT YtlafjmghfnlaoabProg.lean LOADS. Nothing in Lean hashes anything: it is a label: what it is worth is what the hold of that sum in a sandbox is worth. -/
noncomputable def Try.pinned : Pinned := { name := "ytlafjmghfnlaoab", sum := "a31172eee726061b2656124e296d3c33ef36fa93771c5c566fb9f243866ca998", checked := Try.checked }
namespace Rows
def none {H : Type} : Left H := { results := [], args := [] }

/-- 'laws.FnSameAndEqual': WHATEVER THE INPUT: true; the input reads as it did. -/
def fnSameAndEqualSpec : ChangeSpec := { name := "fnSameAndEqual", fn := fun _ => fun
  | [d1, d2] => { results := [.lit (.bool true)], args := [d1, d2] }
  | _ => none }
def fnSameAndEqualRow : OpenClaim := { program := "ytlafjmghfnlaoab", sum := "a31172eee726061b2656124e296d3c33ef36fa93771c5c566fb9f243866ca998", func := "loop.example/g01155/laws.FnSameAndEqual", spec := "fnSameAndEqual", inPlace := ["math.Float64frombits", "math.Float64bits"], apart := false }
def FnSameAndEqualSaid : Prop := fnSameAndEqualRow.holds Try.pinned (OpenSpec.ofChange fnSameAndEqualSpec)

/-- ITS FALSE NEIGHBOUR: 'it returns false'. Refute it at one input. -/
def fnSameAndEqualWrong : ChangeSpec := { name := "fnSameAndEqual", fn := fun _ => fun
  | [d1, d2] => { results := [.lit (.bool false)], args := [d1, d2] }
  | _ => none }
def FnSameAndEqualWrongFalsely : Prop := fnSameAndEqualRow.holds Try.pinned (OpenSpec.ofChange fnSameAndEqualWrong)

/-- 'laws.FnNarrowing': WHATEVER THE INPUT: true; the input reads as it did. -/
def fnNarrowingSpec : ChangeSpec := { name := "fnNarrowing", fn := fun _ => fun
  | [d1, d2] => { results := [.lit (.bool true)], args := [d1, d2] }
  | _ => none }
def fnNarrowingRow : OpenClaim := { program := "ytlafjmghfnlaoab", sum := "a31172eee726061b2656124e296d3c33ef36fa93771c5c566fb9f243866ca998", func := "loop.example/g01155/laws.FnNarrowing", spec := "fnNarrowing", inPlace := ["math.Float64frombits", "math.Float64bits"], apart := false }
def FnNarrowingSaid : Prop := fnNarrowingRow.holds Try.pinned (OpenSpec.ofChange fnNarrowingSpec)

/-- ITS FALSE NEIGHBOUR: 'it returns false'. Refute it at one input. -/
def fnNarrowingWrong : ChangeSpec := { name := "fnNarrowing", fn := fun _ => fun
  | [d1, d2] => { results := [.lit (.bool false)], args := [d1, d2] }
  | _ => none }
def FnNarrowingWrongFalsely : Prop := fnNarrowingRow.holds Try.pinned (OpenSpec.ofChange fnNarrowingWrong)

/-- 'laws.FnUnits': WHATEVER THE INPUT: true; the input reads as it did. -/
def fnUnitsSpec : ChangeSpec := { name := "fnUnits", fn := fun _ => fun
  | [d1, d2] => { results := [.lit (.bool true)], args := [d1, d2] }
  | _ => none }
def fnUnitsRow : OpenClaim := { program := "ytlafjmghfnlaoab", sum := "a31172eee726061b2656124e296d3c33ef36fa93771c5c566fb9f243866ca998", func := "loop.example/g01155/laws.FnUnits", spec := "fnUnits", inPlace := ["math.Float64frombits", "math.Float64bits", "math.Float32frombits", "math.Float32bits"], unfollowed := true, recurses := true, apart := false }
def FnUnitsSaid : Prop := fnUnitsRow.holds Try.pinned (OpenSpec.ofChange fnUnitsSpec)

/-- ITS FALSE NEIGHBOUR: 'it returns false'. Refute it at one input. -/
def fnUnitsWrong : ChangeSpec := { name := "fnUnits", fn := fun _ => fun
  | [d1, d2] => { results := [.lit (.bool false)], args := [d1, d2] }
  | _ => none }
def FnUnitsWrongFalsely : Prop := fnUnitsRow.holds Try.pinned (OpenSpec.ofChange fnUnitsWrong)

/-- 'laws.FnQuotients': WHATEVER THE INPUT: true; the input reads as it did. -/
def fnQuotientsSpec : ChangeSpec := { name := "fnQuotients", fn := fun _ => fun
  | [d1, d2] => { results := [.lit (.bool true)], args := [d1, d2] }
  | _ => none }
def fnQuotientsRow : OpenClaim := { program := "ytlafjmghfnlaoab", sum := "a31172eee726061b2656124e296d3c33ef36fa93771c5c566fb9f243866ca998", func := "loop.example/g01155/laws.FnQuotients", spec := "fnQuotients", inPlace := ["math.Float64frombits", "math.Float64bits"], apart := false }
def FnQuotientsSaid : Prop := fnQuotientsRow.holds Try.pinned (OpenSpec.ofChange fnQuotientsSpec)

/-- ITS FALSE NEIGHBOUR: 'it returns false'. Refute it at one input. -/
def fnQuotientsWrong : ChangeSpec := { name := "fnQuotients", fn := fun _ => fun
  | [d1, d2] => { results := [.lit (.bool false)], args := [d1, d2] }
  | _ => none }
def FnQuotientsWrongFalsely : Prop := fnQuotientsRow.holds Try.pinned (OpenSpec.ofChange fnQuotientsWrong)

/-- 'laws.FnProducts': WHATEVER THE INPUT: true; the input reads as it did. -/
def fnProductsSpec : ChangeSpec := { name := "fnProducts", fn := fun _ => fun
  | [d1, d2] => { results := [.lit (.bool true)], args := [d1, d2] }
  | _ => none }
def fnProductsRow : OpenClaim := { program := "ytlafjmghfnlaoab", sum := "a31172eee726061b2656124e296d3c33ef36fa93771c5c566fb9f243866ca998", func := "loop.example/g01155/laws.FnProducts", spec := "fnProducts", inPlace := ["math.Float64frombits", "math.Float64bits", "math.sqrt"], apart := false }
def FnProductsSaid : Prop := fnProductsRow.holds Try.pinned (OpenSpec.ofChange fnProductsSpec)

/-- ITS FALSE NEIGHBOUR: 'it returns false'. Refute it at one input. -/
def fnProductsWrong : ChangeSpec := { name := "fnProducts", fn := fun _ => fun
  | [d1, d2] => { results := [.lit (.bool false)], args := [d1, d2] }
  | _ => none }
def FnProductsWrongFalsely : Prop := fnProductsRow.holds Try.pinned (OpenSpec.ofChange fnProductsWrong)

/-- 'laws.FnSignals': WHATEVER THE INPUT: true; the input reads as it did. -/
def fnSignalsSpec : ChangeSpec := { name := "fnSignals", fn := fun _ => fun
  | [d1, d2] => { results := [.lit (.bool true)], args := [d1, d2] }
  | _ => none }
def fnSignalsRow : OpenClaim := { program := "ytlafjmghfnlaoab", sum := "a31172eee726061b2656124e296d3c33ef36fa93771c5c566fb9f243866ca998", func := "loop.example/g01155/laws.FnSignals", spec := "fnSignals", inPlace := ["math.Float64frombits", "math.Float64bits"], unfollowed := true, recurses := true, apart := false }
def FnSignalsSaid : Prop := fnSignalsRow.holds Try.pinned (OpenSpec.ofChange fnSignalsSpec)

/-- ITS FALSE NEIGHBOUR: 'it returns false'. Refute it at one input. -/
def fnSignalsWrong : ChangeSpec := { name := "fnSignals", fn := fun _ => fun
  | [d1, d2] => { results := [.lit (.bool false)], args := [d1, d2] }
  | _ => none }
def FnSignalsWrongFalsely : Prop := fnSignalsRow.holds Try.pinned (OpenSpec.ofChange fnSignalsWrong)

/-- 'laws.FnRecur': WHATEVER THE INPUT: true; the input reads as it did. -/
def fnRecurSpec : ChangeSpec := { name := "fnRecur", fn := fun _ => fun
  | [d1, d2] => { results := [.lit (.bool true)], args := [d1, d2] }
  | _ => none }
def fnRecurRow : OpenClaim := { program := "ytlafjmghfnlaoab", sum := "a31172eee726061b2656124e296d3c33ef36fa93771c5c566fb9f243866ca998", func := "loop.example/g01155/laws.FnRecur", spec := "fnRecur", inPlace := ["math.Float64frombits", "math.Float64bits"], unfollowed := true, recurses := true, apart := false }
def FnRecurSaid : Prop := fnRecurRow.holds Try.pinned (OpenSpec.ofChange fnRecurSpec)

/-- ITS FALSE NEIGHBOUR: 'it returns false'. Refute it at one input. -/
def fnRecurWrong : ChangeSpec := { name := "fnRecur", fn := fun _ => fun
  | [d1, d2] => { results := [.lit (.bool false)], args := [d1, d2] }
  | _ => none }
def FnRecurWrongFalsely : Prop := fnRecurRow.holds Try.pinned (OpenSpec.ofChange fnRecurWrong)

/-- 'laws.FnConvolve': WHATEVER THE INPUT: true; the input reads as it did. -/
def fnConvolveSpec : ChangeSpec := { name := "fnConvolve", fn := fun _ => fun
  | [d1, d2] => { results := [.lit (.bool true)], args := [d1, d2] }
  | _ => none }
def fnConvolveRow : OpenClaim := { program := "ytlafjmghfnlaoab", sum := "a31172eee726061b2656124e296d3c33ef36fa93771c5c566fb9f243866ca998", func := "loop.example/g01155/laws.FnConvolve", spec := "fnConvolve", inPlace := ["math.Float64bits"], unfollowed := true, recurses := true, apart := false }
def FnConvolveSaid : Prop := fnConvolveRow.holds Try.pinned (OpenSpec.ofChange fnConvolveSpec)

/-- ITS FALSE NEIGHBOUR: 'it returns false'. Refute it at one input. -/
def fnConvolveWrong : ChangeSpec := { name := "fnConvolve", fn := fun _ => fun
  | [d1, d2] => { results := [.lit (.bool false)], args := [d1, d2] }
  | _ => none }
def FnConvolveWrongFalsely : Prop := fnConvolveRow.holds Try.pinned (OpenSpec.ofChange fnConvolveWrong)

/-- 'laws.FnFlat': WHATEVER THE INPUT: true; the input reads as it did. -/
def fnFlatSpec : ChangeSpec := { name := "fnFlat", fn := fun _ => fun
  | [d1, d2] => { results := [.lit (.bool true)], args := [d1, d2] }
  | _ => none }
def fnFlatRow : OpenClaim := { program := "ytlafjmghfnlaoab", sum := "a31172eee726061b2656124e296d3c33ef36fa93771c5c566fb9f243866ca998", func := "loop.example/g01155/laws.FnFlat", spec := "fnFlat", inPlace := ["math.Float64bits"], unfollowed := true, recurses := true, apart := false }
def FnFlatSaid : Prop := fnFlatRow.holds Try.pinned (OpenSpec.ofChange fnFlatSpec)

/-- ITS FALSE NEIGHBOUR: 'it returns false'. Refute it at one input. -/
def fnFlatWrong : ChangeSpec := { name := "fnFlat", fn := fun _ => fun
  | [d1, d2] => { results := [.lit (.bool false)], args := [d1, d2] }
  | _ => none }
def FnFlatWrongFalsely : Prop := fnFlatRow.holds Try.pinned (OpenSpec.ofChange fnFlatWrong)

/-- 'laws.FnBlocks': WHATEVER THE INPUT: true; the input reads as it did. -/
def fnBlocksSpec : ChangeSpec := { name := "fnBlocks", fn := fun _ => fun
  | [d1, d2] => { results := [.lit (.bool true)], args := [d1, d2] }
  | _ => none }
def fnBlocksRow : OpenClaim := { program := "ytlafjmghfnlaoab", sum := "a31172eee726061b2656124e296d3c33ef36fa93771c5c566fb9f243866ca998", func := "loop.example/g01155/laws.FnBlocks", spec := "fnBlocks", inPlace := ["math.Float64frombits", "math.Float64bits"], unfollowed := true, recurses := true, apart := false }
def FnBlocksSaid : Prop := fnBlocksRow.holds Try.pinned (OpenSpec.ofChange fnBlocksSpec)

/-- ITS FALSE NEIGHBOUR: 'it returns false'. Refute it at one input. -/
def fnBlocksWrong : ChangeSpec := { name := "fnBlocks", fn := fun _ => fun
  | [d1, d2] => { results := [.lit (.bool false)], args := [d1, d2] }
  | _ => none }
def FnBlocksWrongFalsely : Prop := fnBlocksRow.holds Try.pinned (OpenSpec.ofChange fnBlocksWrong)

/-- 'laws.FnAdder': WHATEVER THE INPUT: true; the input reads as it did. -/
def fnAdderSpec : ChangeSpec := { name := "fnAdder", fn := fun _ => fun
  | [d1, d2] => { results := [.lit (.bool true)], args := [d1, d2] }
  | _ => none }
def fnAdderRow : OpenClaim := { program := "ytlafjmghfnlaoab", sum := "a31172eee726061b2656124e296d3c33ef36fa93771c5c566fb9f243866ca998", func := "loop.example/g01155/laws.FnAdder", spec := "fnAdder", inPlace := ["math.Float64frombits", "math.Float64bits"], unfollowed := true, recurses := true, apart := false }
def FnAdderSaid : Prop := fnAdderRow.holds Try.pinned (OpenSpec.ofChange fnAdderSpec)

/-- ITS FALSE NEIGHBOUR: 'it returns false'. Refute it at one input. -/
def fnAdderWrong : ChangeSpec := { name := "fnAdder", fn := fun _ => fun
  | [d1, d2] => { results := [.lit (.bool false)], args := [d1, d2] }
  | _ => none }
def FnAdderWrongFalsely : Prop := fnAdderRow.holds Try.pinned (OpenSpec.ofChange fnAdderWrong)

/-- 'laws.FnFilterCuts': WHATEVER THE INPUT: true; the input reads as it did. -/
def fnFilterCutsSpec : ChangeSpec := { name := "fnFilterCuts", fn := fun _ => fun
  | [d1, d2] => { results := [.lit (.bool true)], args := [d1, d2] }
  | _ => none }
def fnFilterCutsRow : OpenClaim := { program := "ytlafjmghfnlaoab", sum := "a31172eee726061b2656124e296d3c33ef36fa93771c5c566fb9f243866ca998", func := "loop.example/g01155/laws.FnFilterCuts", spec := "fnFilterCuts", inPlace := ["math.Float64frombits", "math.Float64bits"], unfollowed := true, recurses := true, apart := false }
def FnFilterCutsSaid : Prop := fnFilterCutsRow.holds Try.pinned (OpenSpec.ofChange fnFilterCutsSpec)

/-- ITS FALSE NEIGHBOUR: 'it returns false'. Refute it at one input. -/
def fnFilterCutsWrong : ChangeSpec := { name := "fnFilterCuts", fn := fun _ => fun
  | [d1, d2] => { results := [.lit (.bool false)], args := [d1, d2] }
  | _ => none }
def FnFilterCutsWrongFalsely : Prop := fnFilterCutsRow.holds Try.pinned (OpenSpec.ofChange fnFilterCutsWrong)

/- THE SECOND FORM. 'bulk': how many values and letters a reading holds, each counted each time it is reached (what is shared counts as often as it is met; a slice's spare places count too). A statement '..UptoSaid' is the law's where the arguments, and the package variables that the reading takes, are together of bulk at most 1048576: NARROWER than '..Said'. Prove '..Said' where nothing that the law and all that it calls make is longer than what came in: it says more and counts as full. Else prove '..UptoSaid'. A law counts once. -/
mutual
def uptoBulk {H : Type} : DataW H → Nat
  | .lit (.string bytes) => bytes.length + 1
  | .lit _ => 1
  | .nil => 1
  | .ptr d => uptoBulk d + 1
  | .slice elems spare => uptoBulkAll elems + uptoBulkAll spare + 1
  | .agg parts => uptoBulkAll parts + 1
  | .iface _ d => uptoBulk d + 1
  | .map entries => uptoBulkEntries entries + 1
  | .held _ => 1
def uptoBulkAll {H : Type} : List (DataW H) → Nat
  | [] => 0
  | d :: r => uptoBulk d + uptoBulkAll r
def uptoBulkEntries {H : Type} : List (Lit × DataW H) → Nat
  | [] => 0
  | x :: r => uptoBulkEntry x + uptoBulkEntries r
def uptoBulkEntry {H : Type} : Lit × DataW H → Nat
  | (.string bytes, d) => bytes.length + uptoBulk d + 1
  | (_, d) => uptoBulk d + 1
 end
def uptoSmall : (H : Type) → List (DataW H) → Bool := fun _ ds => decide (uptoBulkAll ds ≤ 1048576)
def OpenSpec.upto (s : _root_.Go.ChangeSpec) : _root_.Go.OpenSpec := { _root_.Go.OpenSpec.ofChange s with cond := some uptoSmall }

/-- 'laws.FnSameAndEqual', WHERE WHAT IT READS IS OF BULK AT MOST 1048576: true; the input reads as it did. -/
def fnSameAndEqualUptoRow : OpenClaim := { program := "ytlafjmghfnlaoab", sum := "a31172eee726061b2656124e296d3c33ef36fa93771c5c566fb9f243866ca998", func := "loop.example/g01155/laws.FnSameAndEqual", spec := "fnSameAndEqual", inPlace := ["math.Float64frombits", "math.Float64bits"], apart := false, narrowed := true }
def FnSameAndEqualUptoSaid : Prop := fnSameAndEqualUptoRow.holds Try.pinned (OpenSpec.upto fnSameAndEqualSpec)

/-- 'laws.FnNarrowing', WHERE WHAT IT READS IS OF BULK AT MOST 1048576: true; the input reads as it did. -/
def fnNarrowingUptoRow : OpenClaim := { program := "ytlafjmghfnlaoab", sum := "a31172eee726061b2656124e296d3c33ef36fa93771c5c566fb9f243866ca998", func := "loop.example/g01155/laws.FnNarrowing", spec := "fnNarrowing", inPlace := ["math.Float64frombits", "math.Float64bits"], apart := false, narrowed := true }
def FnNarrowingUptoSaid : Prop := fnNarrowingUptoRow.holds Try.pinned (OpenSpec.upto fnNarrowingSpec)

/-- 'laws.FnUnits', WHERE WHAT IT READS IS OF BULK AT MOST 1048576: true; the input reads as it did. -/
def fnUnitsUptoRow : OpenClaim := { program := "ytlafjmghfnlaoab", sum := "a31172eee726061b2656124e296d3c33ef36fa93771c5c566fb9f243866ca998", func := "loop.example/g01155/laws.FnUnits", spec := "fnUnits", inPlace := ["math.Float64frombits", "math.Float64bits", "math.Float32frombits", "math.Float32bits"], unfollowed := true, recurses := true, apart := false, narrowed := true }
def FnUnitsUptoSaid : Prop := fnUnitsUptoRow.holds Try.pinned (OpenSpec.upto fnUnitsSpec)

/-- 'laws.FnQuotients', WHERE WHAT IT READS IS OF BULK AT MOST 1048576: true; the input reads as it did. -/
def fnQuotientsUptoRow : OpenClaim := { program := "ytlafjmghfnlaoab", sum := "a31172eee726061b2656124e296d3c33ef36fa93771c5c566fb9f243866ca998", func := "loop.example/g01155/laws.FnQuotients", spec := "fnQuotients", inPlace := ["math.Float64frombits", "math.Float64bits"], apart := false, narrowed := true }
def FnQuotientsUptoSaid : Prop := fnQuotientsUptoRow.holds Try.pinned (OpenSpec.upto fnQuotientsSpec)

/-- 'laws.FnProducts', WHERE WHAT IT READS IS OF BULK AT MOST 1048576: true; the input reads as it did. -/
def fnProductsUptoRow : OpenClaim := { program := "ytlafjmghfnlaoab", sum := "a31172eee726061b2656124e296d3c33ef36fa93771c5c566fb9f243866ca998", func := "loop.example/g01155/laws.FnProducts", spec := "fnProducts", inPlace := ["math.Float64frombits", "math.Float64bits", "math.sqrt"], apart := false, narrowed := true }
def FnProductsUptoSaid : Prop := fnProductsUptoRow.holds Try.pinned (OpenSpec.upto fnProductsSpec)

/-- 'laws.FnSignals', WHERE WHAT IT READS IS OF BULK AT MOST 1048576: true; the input reads as it did. -/
def fnSignalsUptoRow : OpenClaim := { program := "ytlafjmghfnlaoab", sum := "a31172eee726061b2656124e296d3c33ef36fa93771c5c566fb9f243866ca998", func := "loop.example/g01155/laws.FnSignals", spec := "fnSignals", inPlace := ["math.Float64frombits", "math.Float64bits"], unfollowed := true, recurses := true, apart := false, narrowed := true }
def FnSignalsUptoSaid : Prop := fnSignalsUptoRow.holds Try.pinned (OpenSpec.upto fnSignalsSpec)

/-- 'laws.FnRecur', WHERE WHAT IT READS IS OF BULK AT MOST 1048576: true; the input reads as it did. -/
def fnRecurUptoRow : OpenClaim := { program := "ytlafjmghfnlaoab", sum := "a31172eee726061b2656124e296d3c33ef36fa93771c5c566fb9f243866ca998", func := "loop.example/g01155/laws.FnRecur", spec := "fnRecur", inPlace := ["math.Float64frombits", "math.Float64bits"], unfollowed := true, recurses := true, apart := false, narrowed := true }
def FnRecurUptoSaid : Prop := fnRecurUptoRow.holds Try.pinned (OpenSpec.upto fnRecurSpec)

/-- 'laws.FnConvolve', WHERE WHAT IT READS IS OF BULK AT MOST 1048576: true; the input reads as it did. -/
def fnConvolveUptoRow : OpenClaim := { program := "ytlafjmghfnlaoab", sum := "a31172eee726061b2656124e296d3c33ef36fa93771c5c566fb9f243866ca998", func := "loop.example/g01155/laws.FnConvolve", spec := "fnConvolve", inPlace := ["math.Float64bits"], unfollowed := true, recurses := true, apart := false, narrowed := true }
def FnConvolveUptoSaid : Prop := fnConvolveUptoRow.holds Try.pinned (OpenSpec.upto fnConvolveSpec)

/-- 'laws.FnFlat', WHERE WHAT IT READS IS OF BULK AT MOST 1048576: true; the input reads as it did. -/
def fnFlatUptoRow : OpenClaim := { program := "ytlafjmghfnlaoab", sum := "a31172eee726061b2656124e296d3c33ef36fa93771c5c566fb9f243866ca998", func := "loop.example/g01155/laws.FnFlat", spec := "fnFlat", inPlace := ["math.Float64bits"], unfollowed := true, recurses := true, apart := false, narrowed := true }
def FnFlatUptoSaid : Prop := fnFlatUptoRow.holds Try.pinned (OpenSpec.upto fnFlatSpec)

/-- 'laws.FnBlocks', WHERE WHAT IT READS IS OF BULK AT MOST 1048576: true; the input reads as it did. -/
def fnBlocksUptoRow : OpenClaim := { program := "ytlafjmghfnlaoab", sum := "a31172eee726061b2656124e296d3c33ef36fa93771c5c566fb9f243866ca998", func := "loop.example/g01155/laws.FnBlocks", spec := "fnBlocks", inPlace := ["math.Float64frombits", "math.Float64bits"], unfollowed := true, recurses := true, apart := false, narrowed := true }
def FnBlocksUptoSaid : Prop := fnBlocksUptoRow.holds Try.pinned (OpenSpec.upto fnBlocksSpec)

/-- 'laws.FnAdder', WHERE WHAT IT READS IS OF BULK AT MOST 1048576: true; the input reads as it did. -/
def fnAdderUptoRow : OpenClaim := { program := "ytlafjmghfnlaoab", sum := "a31172eee726061b2656124e296d3c33ef36fa93771c5c566fb9f243866ca998", func := "loop.example/g01155/laws.FnAdder", spec := "fnAdder", inPlace := ["math.Float64frombits", "math.Float64bits"], unfollowed := true, recurses := true, apart := false, narrowed := true }
def FnAdderUptoSaid : Prop := fnAdderUptoRow.holds Try.pinned (OpenSpec.upto fnAdderSpec)

/-- 'laws.FnFilterCuts', WHERE WHAT IT READS IS OF BULK AT MOST 1048576: true; the input reads as it did. -/
def fnFilterCutsUptoRow : OpenClaim := { program := "ytlafjmghfnlaoab", sum := "a31172eee726061b2656124e296d3c33ef36fa93771c5c566fb9f243866ca998", func := "loop.example/g01155/laws.FnFilterCuts", spec := "fnFilterCuts", inPlace := ["math.Float64frombits", "math.Float64bits"], unfollowed := true, recurses := true, apart := false, narrowed := true }
def FnFilterCutsUptoSaid : Prop := fnFilterCutsUptoRow.holds Try.pinned (OpenSpec.upto fnFilterCutsSpec)

end Rows
end Go.Proofs.Ytlafjmghfnlaoab
