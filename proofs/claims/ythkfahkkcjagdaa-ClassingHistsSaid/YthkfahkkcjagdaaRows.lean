/-
  No cell of these rows narrows 'for every input' (looked for: loops, veiled, ifaces, maps, wideKeys, modest, calm, conditions, laid).
  DERIVED. THE GIVEN ROWS OF THIS SEAT. 14 by the template 'for every input the law returns true; each argument reads behind the call as it read before'; 0 by the template 'total and deterministic' (their statements: YthkfahkkcjagdaaTotals.lean).
  GIVEN WITH THE SEED: the statements are not yours to turn. If you find one false, say at which input.
  Laid BY PROGRAM, IN A SANDBOX (cutbox-rows.mjs): the forced cells as the released guide's own fill.sh prints them over the translation d03f017e0263bf92… (all of the seat's roots in one cut). By AI agents, Wed Nov 11 2026. No macro, syntax, notation, axiom, sorry.
-/
import Derived.Test.YthkfahkkcjagdaaChecked
import GoSem.Claim
import GoSem.ClaimJoined
import GoSem.ClaimMapViews
import Derived.JoinedTies
import Derived.KernelRfl
namespace Go.Proofs.Ythkfahkkcjagdaa
/- THE CELL 'sum', in the pinned program and in every row, IS THE sha256 OF THE DUMP (.gsa) THAT YthkfahkkcjagdaaProg.lean LOADS. Nothing in Lean hashes anything: it is a label: what it is worth is what the hold of that sum in a sandbox is worth. -/
noncomputable def Try.pinned : Pinned := { name := "ythkfahkkcjagdaa", sum := "d03f017e0263bf92fb13e5c0ce5e27d3d8481fb044921ce7797dc58fa80cf434", checked := Try.checked }
namespace Rows
def none {H : Type} : Left H := { results := [], args := [] }

/-- 'merinolaw03.ClassingCovers': WHATEVER THE INPUT: true; the input reads as it did. -/
def classingCoversSpec : ChangeSpec := { name := "classingCovers", fn := fun _ => fun
  | [d1, d2, d3] => { results := [.lit (.bool true)], args := [d1, d2, d3] }
  | _ => none }
def classingCoversRow : OpenClaim := { program := "ythkfahkkcjagdaa", sum := "d03f017e0263bf92fb13e5c0ce5e27d3d8481fb044921ce7797dc58fa80cf434", func := "merino/merinolaw03.ClassingCovers", spec := "classingCovers", inPlace := ["internal/bytealg.Compare"], unfollowed := true, recurses := true, named := ["math/bits.divideError", "math/bits.overflowError"], apart := false }
def ClassingCoversSaid : Prop := classingCoversRow.holds Try.pinned (OpenSpec.ofChange classingCoversSpec)

/-- ITS FALSE NEIGHBOUR: 'it returns false'. Refute it at one input. -/
def classingCoversWrong : ChangeSpec := { name := "classingCovers", fn := fun _ => fun
  | [d1, d2, d3] => { results := [.lit (.bool false)], args := [d1, d2, d3] }
  | _ => none }
def ClassingCoversWrongFalsely : Prop := classingCoversRow.holds Try.pinned (OpenSpec.ofChange classingCoversWrong)

/-- 'merinolaw03.ClassingEases': WHATEVER THE INPUT: true; the input reads as it did. -/
def classingEasesSpec : ChangeSpec := { name := "classingEases", fn := fun _ => fun
  | [d1, d2, d3] => { results := [.lit (.bool true)], args := [d1, d2, d3] }
  | _ => none }
def classingEasesRow : OpenClaim := { program := "ythkfahkkcjagdaa", sum := "d03f017e0263bf92fb13e5c0ce5e27d3d8481fb044921ce7797dc58fa80cf434", func := "merino/merinolaw03.ClassingEases", spec := "classingEases", inPlace := ["internal/bytealg.Compare"], unfollowed := true, recurses := true, named := ["math/bits.divideError", "math/bits.overflowError"], apart := false }
def ClassingEasesSaid : Prop := classingEasesRow.holds Try.pinned (OpenSpec.ofChange classingEasesSpec)

/-- ITS FALSE NEIGHBOUR: 'it returns false'. Refute it at one input. -/
def classingEasesWrong : ChangeSpec := { name := "classingEases", fn := fun _ => fun
  | [d1, d2, d3] => { results := [.lit (.bool false)], args := [d1, d2, d3] }
  | _ => none }
def ClassingEasesWrongFalsely : Prop := classingEasesRow.holds Try.pinned (OpenSpec.ofChange classingEasesWrong)

/-- 'merinolaw03.ClassingShuffled': WHATEVER THE INPUT: true; the input reads as it did. -/
def classingShuffledSpec : ChangeSpec := { name := "classingShuffled", fn := fun _ => fun
  | [d1, d2, d3] => { results := [.lit (.bool true)], args := [d1, d2, d3] }
  | _ => none }
def classingShuffledRow : OpenClaim := { program := "ythkfahkkcjagdaa", sum := "d03f017e0263bf92fb13e5c0ce5e27d3d8481fb044921ce7797dc58fa80cf434", func := "merino/merinolaw03.ClassingShuffled", spec := "classingShuffled", inPlace := ["internal/bytealg.Compare"], unfollowed := true, recurses := true, named := ["math/bits.divideError", "math/bits.overflowError"], apart := false }
def ClassingShuffledSaid : Prop := classingShuffledRow.holds Try.pinned (OpenSpec.ofChange classingShuffledSpec)

/-- ITS FALSE NEIGHBOUR: 'it returns false'. Refute it at one input. -/
def classingShuffledWrong : ChangeSpec := { name := "classingShuffled", fn := fun _ => fun
  | [d1, d2, d3] => { results := [.lit (.bool false)], args := [d1, d2, d3] }
  | _ => none }
def ClassingShuffledWrongFalsely : Prop := classingShuffledRow.holds Try.pinned (OpenSpec.ofChange classingShuffledWrong)

/-- 'merinolaw03.ClassingTotals': WHATEVER THE INPUT: true; the input reads as it did. -/
def classingTotalsSpec : ChangeSpec := { name := "classingTotals", fn := fun _ => fun
  | [d1, d2, d3] => { results := [.lit (.bool true)], args := [d1, d2, d3] }
  | _ => none }
def classingTotalsRow : OpenClaim := { program := "ythkfahkkcjagdaa", sum := "d03f017e0263bf92fb13e5c0ce5e27d3d8481fb044921ce7797dc58fa80cf434", func := "merino/merinolaw03.ClassingTotals", spec := "classingTotals", inPlace := ["internal/bytealg.Compare"], unfollowed := true, recurses := true, named := ["math/bits.divideError", "math/bits.overflowError"], apart := false }
def ClassingTotalsSaid : Prop := classingTotalsRow.holds Try.pinned (OpenSpec.ofChange classingTotalsSpec)

/-- ITS FALSE NEIGHBOUR: 'it returns false'. Refute it at one input. -/
def classingTotalsWrong : ChangeSpec := { name := "classingTotals", fn := fun _ => fun
  | [d1, d2, d3] => { results := [.lit (.bool false)], args := [d1, d2, d3] }
  | _ => none }
def ClassingTotalsWrongFalsely : Prop := classingTotalsRow.holds Try.pinned (OpenSpec.ofChange classingTotalsWrong)

/-- 'merinolaw03.ClassingLines': WHATEVER THE INPUT: true; the input reads as it did. -/
def classingLinesSpec : ChangeSpec := { name := "classingLines", fn := fun _ => fun
  | [d1, d2] => { results := [.lit (.bool true)], args := [d1, d2] }
  | _ => none }
def classingLinesRow : OpenClaim := { program := "ythkfahkkcjagdaa", sum := "d03f017e0263bf92fb13e5c0ce5e27d3d8481fb044921ce7797dc58fa80cf434", func := "merino/merinolaw03.ClassingLines", spec := "classingLines", inPlace := ["internal/bytealg.Compare"], unfollowed := true, recurses := true, named := ["math/bits.divideError", "math/bits.overflowError"], apart := false }
def ClassingLinesSaid : Prop := classingLinesRow.holds Try.pinned (OpenSpec.ofChange classingLinesSpec)

/-- ITS FALSE NEIGHBOUR: 'it returns false'. Refute it at one input. -/
def classingLinesWrong : ChangeSpec := { name := "classingLines", fn := fun _ => fun
  | [d1, d2] => { results := [.lit (.bool false)], args := [d1, d2] }
  | _ => none }
def ClassingLinesWrongFalsely : Prop := classingLinesRow.holds Try.pinned (OpenSpec.ofChange classingLinesWrong)

/-- 'merinolaw03.ClassingBases': WHATEVER THE INPUT: true; the input reads as it did. -/
def classingBasesSpec : ChangeSpec := { name := "classingBases", fn := fun _ => fun
  | [d1, d2, d3, d4, d5] => { results := [.lit (.bool true)], args := [d1, d2, d3, d4, d5] }
  | _ => none }
def classingBasesRow : OpenClaim := { program := "ythkfahkkcjagdaa", sum := "d03f017e0263bf92fb13e5c0ce5e27d3d8481fb044921ce7797dc58fa80cf434", func := "merino/merinolaw03.ClassingBases", spec := "classingBases", inPlace := ["internal/bytealg.Compare"], unfollowed := true, recurses := true, named := ["math/bits.divideError", "math/bits.overflowError"], apart := false }
def ClassingBasesSaid : Prop := classingBasesRow.holds Try.pinned (OpenSpec.ofChange classingBasesSpec)

/-- ITS FALSE NEIGHBOUR: 'it returns false'. Refute it at one input. -/
def classingBasesWrong : ChangeSpec := { name := "classingBases", fn := fun _ => fun
  | [d1, d2, d3, d4, d5] => { results := [.lit (.bool false)], args := [d1, d2, d3, d4, d5] }
  | _ => none }
def ClassingBasesWrongFalsely : Prop := classingBasesRow.holds Try.pinned (OpenSpec.ofChange classingBasesWrong)

/-- 'merinolaw03.ClassingCosts': WHATEVER THE INPUT: true; the input reads as it did. -/
def classingCostsSpec : ChangeSpec := { name := "classingCosts", fn := fun _ => fun
  | [d1, d2, d3, d4] => { results := [.lit (.bool true)], args := [d1, d2, d3, d4] }
  | _ => none }
def classingCostsRow : OpenClaim := { program := "ythkfahkkcjagdaa", sum := "d03f017e0263bf92fb13e5c0ce5e27d3d8481fb044921ce7797dc58fa80cf434", func := "merino/merinolaw03.ClassingCosts", spec := "classingCosts", inPlace := ["internal/bytealg.Compare"], unfollowed := true, recurses := true, named := ["math/bits.divideError", "math/bits.overflowError"], apart := false }
def ClassingCostsSaid : Prop := classingCostsRow.holds Try.pinned (OpenSpec.ofChange classingCostsSpec)

/-- ITS FALSE NEIGHBOUR: 'it returns false'. Refute it at one input. -/
def classingCostsWrong : ChangeSpec := { name := "classingCosts", fn := fun _ => fun
  | [d1, d2, d3, d4] => { results := [.lit (.bool false)], args := [d1, d2, d3, d4] }
  | _ => none }
def ClassingCostsWrongFalsely : Prop := classingCostsRow.holds Try.pinned (OpenSpec.ofChange classingCostsWrong)

/-- 'merinolaw03.ClassingMerges': WHATEVER THE INPUT: true; the input reads as it did. -/
def classingMergesSpec : ChangeSpec := { name := "classingMerges", fn := fun _ => fun
  | [d1, d2, d3] => { results := [.lit (.bool true)], args := [d1, d2, d3] }
  | _ => none }
def classingMergesRow : OpenClaim := { program := "ythkfahkkcjagdaa", sum := "d03f017e0263bf92fb13e5c0ce5e27d3d8481fb044921ce7797dc58fa80cf434", func := "merino/merinolaw03.ClassingMerges", spec := "classingMerges", inPlace := ["internal/bytealg.Compare"], unfollowed := true, recurses := true, named := ["math/bits.divideError", "math/bits.overflowError"], apart := false }
def ClassingMergesSaid : Prop := classingMergesRow.holds Try.pinned (OpenSpec.ofChange classingMergesSpec)

/-- ITS FALSE NEIGHBOUR: 'it returns false'. Refute it at one input. -/
def classingMergesWrong : ChangeSpec := { name := "classingMerges", fn := fun _ => fun
  | [d1, d2, d3] => { results := [.lit (.bool false)], args := [d1, d2, d3] }
  | _ => none }
def ClassingMergesWrongFalsely : Prop := classingMergesRow.holds Try.pinned (OpenSpec.ofChange classingMergesWrong)

/-- 'merinolaw03.ClassingCheapest': WHATEVER THE INPUT: true; the input reads as it did. -/
def classingCheapestSpec : ChangeSpec := { name := "classingCheapest", fn := fun _ => fun
  | [d1, d2, d3, d4] => { results := [.lit (.bool true)], args := [d1, d2, d3, d4] }
  | _ => none }
def classingCheapestRow : OpenClaim := { program := "ythkfahkkcjagdaa", sum := "d03f017e0263bf92fb13e5c0ce5e27d3d8481fb044921ce7797dc58fa80cf434", func := "merino/merinolaw03.ClassingCheapest", spec := "classingCheapest", inPlace := ["internal/bytealg.Compare"], unfollowed := true, recurses := true, named := ["math/bits.divideError", "math/bits.overflowError"], apart := false }
def ClassingCheapestSaid : Prop := classingCheapestRow.holds Try.pinned (OpenSpec.ofChange classingCheapestSpec)

/-- ITS FALSE NEIGHBOUR: 'it returns false'. Refute it at one input. -/
def classingCheapestWrong : ChangeSpec := { name := "classingCheapest", fn := fun _ => fun
  | [d1, d2, d3, d4] => { results := [.lit (.bool false)], args := [d1, d2, d3, d4] }
  | _ => none }
def ClassingCheapestWrongFalsely : Prop := classingCheapestRow.holds Try.pinned (OpenSpec.ofChange classingCheapestWrong)

/-- 'merinolaw03.ClassingQuantiles': WHATEVER THE INPUT: true; the input reads as it did. -/
def classingQuantilesSpec : ChangeSpec := { name := "classingQuantiles", fn := fun _ => fun
  | [d1, d2, d3] => { results := [.lit (.bool true)], args := [d1, d2, d3] }
  | _ => none }
def classingQuantilesRow : OpenClaim := { program := "ythkfahkkcjagdaa", sum := "d03f017e0263bf92fb13e5c0ce5e27d3d8481fb044921ce7797dc58fa80cf434", func := "merino/merinolaw03.ClassingQuantiles", spec := "classingQuantiles", inPlace := ["internal/bytealg.Compare"], unfollowed := true, recurses := true, named := ["math/bits.divideError", "math/bits.overflowError"], apart := false }
def ClassingQuantilesSaid : Prop := classingQuantilesRow.holds Try.pinned (OpenSpec.ofChange classingQuantilesSpec)

/-- ITS FALSE NEIGHBOUR: 'it returns false'. Refute it at one input. -/
def classingQuantilesWrong : ChangeSpec := { name := "classingQuantiles", fn := fun _ => fun
  | [d1, d2, d3] => { results := [.lit (.bool false)], args := [d1, d2, d3] }
  | _ => none }
def ClassingQuantilesWrongFalsely : Prop := classingQuantilesRow.holds Try.pinned (OpenSpec.ofChange classingQuantilesWrong)

/-- 'merinolaw03.ClassingHists': WHATEVER THE INPUT: true; the input reads as it did. -/
def classingHistsSpec : ChangeSpec := { name := "classingHists", fn := fun _ => fun
  | [d1, d2, d3, d4] => { results := [.lit (.bool true)], args := [d1, d2, d3, d4] }
  | _ => none }
def classingHistsRow : OpenClaim := { program := "ythkfahkkcjagdaa", sum := "d03f017e0263bf92fb13e5c0ce5e27d3d8481fb044921ce7797dc58fa80cf434", func := "merino/merinolaw03.ClassingHists", spec := "classingHists", inPlace := ["internal/bytealg.Compare"], unfollowed := true, recurses := true, named := ["math/bits.divideError", "math/bits.overflowError"], apart := false }
def ClassingHistsSaid : Prop := classingHistsRow.holds Try.pinned (OpenSpec.ofChange classingHistsSpec)

/-- ITS FALSE NEIGHBOUR: 'it returns false'. Refute it at one input. -/
def classingHistsWrong : ChangeSpec := { name := "classingHists", fn := fun _ => fun
  | [d1, d2, d3, d4] => { results := [.lit (.bool false)], args := [d1, d2, d3, d4] }
  | _ => none }
def ClassingHistsWrongFalsely : Prop := classingHistsRow.holds Try.pinned (OpenSpec.ofChange classingHistsWrong)

/-- 'merinolaw03.ClassingNobody': WHATEVER THE INPUT: true; the input reads as it did. -/
def classingNobodySpec : ChangeSpec := { name := "classingNobody", fn := fun _ => fun
  | [d1, d2] => { results := [.lit (.bool true)], args := [d1, d2] }
  | _ => none }
def classingNobodyRow : OpenClaim := { program := "ythkfahkkcjagdaa", sum := "d03f017e0263bf92fb13e5c0ce5e27d3d8481fb044921ce7797dc58fa80cf434", func := "merino/merinolaw03.ClassingNobody", spec := "classingNobody", inPlace := ["internal/bytealg.Compare"], unfollowed := true, recurses := true, named := ["math/bits.divideError", "math/bits.overflowError"], apart := false }
def ClassingNobodySaid : Prop := classingNobodyRow.holds Try.pinned (OpenSpec.ofChange classingNobodySpec)

/-- ITS FALSE NEIGHBOUR: 'it returns false'. Refute it at one input. -/
def classingNobodyWrong : ChangeSpec := { name := "classingNobody", fn := fun _ => fun
  | [d1, d2] => { results := [.lit (.bool false)], args := [d1, d2] }
  | _ => none }
def ClassingNobodyWrongFalsely : Prop := classingNobodyRow.holds Try.pinned (OpenSpec.ofChange classingNobodyWrong)

/-- 'merinolaw03.ClassingTests': WHATEVER THE INPUT: true; the input reads as it did. -/
def classingTestsSpec : ChangeSpec := { name := "classingTests", fn := fun _ => fun
  | [d1, d2] => { results := [.lit (.bool true)], args := [d1, d2] }
  | _ => none }
def classingTestsRow : OpenClaim := { program := "ythkfahkkcjagdaa", sum := "d03f017e0263bf92fb13e5c0ce5e27d3d8481fb044921ce7797dc58fa80cf434", func := "merino/merinolaw03.ClassingTests", spec := "classingTests", inPlace := ["internal/bytealg.Compare"], unfollowed := true, recurses := true, named := ["math/bits.divideError", "math/bits.overflowError"], apart := false }
def ClassingTestsSaid : Prop := classingTestsRow.holds Try.pinned (OpenSpec.ofChange classingTestsSpec)

/-- ITS FALSE NEIGHBOUR: 'it returns false'. Refute it at one input. -/
def classingTestsWrong : ChangeSpec := { name := "classingTests", fn := fun _ => fun
  | [d1, d2] => { results := [.lit (.bool false)], args := [d1, d2] }
  | _ => none }
def ClassingTestsWrongFalsely : Prop := classingTestsRow.holds Try.pinned (OpenSpec.ofChange classingTestsWrong)

/-- 'merinolaw03.ClassingAgree': WHATEVER THE INPUT: true; the input reads as it did. -/
def classingAgreeSpec : ChangeSpec := { name := "classingAgree", fn := fun _ => fun
  | [d1, d2] => { results := [.lit (.bool true)], args := [d1, d2] }
  | _ => none }
def classingAgreeRow : OpenClaim := { program := "ythkfahkkcjagdaa", sum := "d03f017e0263bf92fb13e5c0ce5e27d3d8481fb044921ce7797dc58fa80cf434", func := "merino/merinolaw03.ClassingAgree", spec := "classingAgree", inPlace := ["internal/bytealg.Compare"], unfollowed := true, recurses := true, named := ["math/bits.divideError", "math/bits.overflowError"], apart := false }
def ClassingAgreeSaid : Prop := classingAgreeRow.holds Try.pinned (OpenSpec.ofChange classingAgreeSpec)

/-- ITS FALSE NEIGHBOUR: 'it returns false'. Refute it at one input. -/
def classingAgreeWrong : ChangeSpec := { name := "classingAgree", fn := fun _ => fun
  | [d1, d2] => { results := [.lit (.bool false)], args := [d1, d2] }
  | _ => none }
def ClassingAgreeWrongFalsely : Prop := classingAgreeRow.holds Try.pinned (OpenSpec.ofChange classingAgreeWrong)

/- THE SECOND FORM. 'bulk': how many values and letters a reading holds, each counted each time it is reached (what is shared counts as often as it is met; a slice's spare places count too). A statement '..UptoSaid' is the law's where the arguments, and the package variables that the reading takes, are together of bulk at most 1048576: NARROWER than '..Said'. Prove '..Said' where nothing that the law and all that it calls make is longer than what came in: it says more and counts as full. Else prove '..UptoSaid'. A law counts once. -/
mutual
def uptoBulk {H : Type} : DataW H → Nat
  | .lit (.string bytes) => bytes.length + 1
  | .lit _ => 1
  | .nil => 1
  | .ptr d => uptoBulk d + 1
  | .slice elems spare => uptoBulkAll elems + uptoBulkAll spare + 1
  | .agg parts => uptoBulkAll parts + 1
  | .iface _ d => uptoBulk d + 1
  | .map entries => uptoBulkEntries entries + 1
  | .held _ => 1
def uptoBulkAll {H : Type} : List (DataW H) → Nat
  | [] => 0
  | d :: r => uptoBulk d + uptoBulkAll r
def uptoBulkEntries {H : Type} : List (Lit × DataW H) → Nat
  | [] => 0
  | x :: r => uptoBulkEntry x + uptoBulkEntries r
def uptoBulkEntry {H : Type} : Lit × DataW H → Nat
  | (.string bytes, d) => bytes.length + uptoBulk d + 1
  | (_, d) => uptoBulk d + 1
 end
def uptoSmall : (H : Type) → List (DataW H) → Bool := fun _ ds => decide (uptoBulkAll ds ≤ 1048576)
def OpenSpec.upto (s : _root_.Go.ChangeSpec) : _root_.Go.OpenSpec := { _root_.Go.OpenSpec.ofChange s with cond := some uptoSmall }

/-- 'merinolaw03.ClassingCovers', WHERE WHAT IT READS IS OF BULK AT MOST 1048576: true; the input reads as it did. -/
def classingCoversUptoRow : OpenClaim := { program := "ythkfahkkcjagdaa", sum := "d03f017e0263bf92fb13e5c0ce5e27d3d8481fb044921ce7797dc58fa80cf434", func := "merino/merinolaw03.ClassingCovers", spec := "classingCovers", inPlace := ["internal/bytealg.Compare"], unfollowed := true, recurses := true, named := ["math/bits.divideError", "math/bits.overflowError"], apart := false, narrowed := true }
def ClassingCoversUptoSaid : Prop := classingCoversUptoRow.holds Try.pinned (OpenSpec.upto classingCoversSpec)

/-- 'merinolaw03.ClassingEases', WHERE WHAT IT READS IS OF BULK AT MOST 1048576: true; the input reads as it did. -/
def classingEasesUptoRow : OpenClaim := { program := "ythkfahkkcjagdaa", sum := "d03f017e0263bf92fb13e5c0ce5e27d3d8481fb044921ce7797dc58fa80cf434", func := "merino/merinolaw03.ClassingEases", spec := "classingEases", inPlace := ["internal/bytealg.Compare"], unfollowed := true, recurses := true, named := ["math/bits.divideError", "math/bits.overflowError"], apart := false, narrowed := true }
def ClassingEasesUptoSaid : Prop := classingEasesUptoRow.holds Try.pinned (OpenSpec.upto classingEasesSpec)

/-- 'merinolaw03.ClassingShuffled', WHERE WHAT IT READS IS OF BULK AT MOST 1048576: true; the input reads as it did. -/
def classingShuffledUptoRow : OpenClaim := { program := "ythkfahkkcjagdaa", sum := "d03f017e0263bf92fb13e5c0ce5e27d3d8481fb044921ce7797dc58fa80cf434", func := "merino/merinolaw03.ClassingShuffled", spec := "classingShuffled", inPlace := ["internal/bytealg.Compare"], unfollowed := true, recurses := true, named := ["math/bits.divideError", "math/bits.overflowError"], apart := false, narrowed := true }
def ClassingShuffledUptoSaid : Prop := classingShuffledUptoRow.holds Try.pinned (OpenSpec.upto classingShuffledSpec)

/-- 'merinolaw03.ClassingTotals', WHERE WHAT IT READS IS OF BULK AT MOST 1048576: true; the input reads as it did. -/
def classingTotalsUptoRow : OpenClaim := { program := "ythkfahkkcjagdaa", sum := "d03f017e0263bf92fb13e5c0ce5e27d3d8481fb044921ce7797dc58fa80cf434", func := "merino/merinolaw03.ClassingTotals", spec := "classingTotals", inPlace := ["internal/bytealg.Compare"], unfollowed := true, recurses := true, named := ["math/bits.divideError", "math/bits.overflowError"], apart := false, narrowed := true }
def ClassingTotalsUptoSaid : Prop := classingTotalsUptoRow.holds Try.pinned (OpenSpec.upto classingTotalsSpec)

/-- 'merinolaw03.ClassingLines', WHERE WHAT IT READS IS OF BULK AT MOST 1048576: true; the input reads as it did. -/
def classingLinesUptoRow : OpenClaim := { program := "ythkfahkkcjagdaa", sum := "d03f017e0263bf92fb13e5c0ce5e27d3d8481fb044921ce7797dc58fa80cf434", func := "merino/merinolaw03.ClassingLines", spec := "classingLines", inPlace := ["internal/bytealg.Compare"], unfollowed := true, recurses := true, named := ["math/bits.divideError", "math/bits.overflowError"], apart := false, narrowed := true }
def ClassingLinesUptoSaid : Prop := classingLinesUptoRow.holds Try.pinned (OpenSpec.upto classingLinesSpec)

/-- 'merinolaw03.ClassingBases', WHERE WHAT IT READS IS OF BULK AT MOST 1048576: true; the input reads as it did. -/
def classingBasesUptoRow : OpenClaim := { program := "ythkfahkkcjagdaa", sum := "d03f017e0263bf92fb13e5c0ce5e27d3d8481fb044921ce7797dc58fa80cf434", func := "merino/merinolaw03.ClassingBases", spec := "classingBases", inPlace := ["internal/bytealg.Compare"], unfollowed := true, recurses := true, named := ["math/bits.divideError", "math/bits.overflowError"], apart := false, narrowed := true }
def ClassingBasesUptoSaid : Prop := classingBasesUptoRow.holds Try.pinned (OpenSpec.upto classingBasesSpec)

/-- 'merinolaw03.ClassingCosts', WHERE WHAT IT READS IS OF BULK AT MOST 1048576: true; the input reads as it did. -/
def classingCostsUptoRow : OpenClaim := { program := "ythkfahkkcjagdaa", sum := "d03f017e0263bf92fb13e5c0ce5e27d3d8481fb044921ce7797dc58fa80cf434", func := "merino/merinolaw03.ClassingCosts", spec := "classingCosts", inPlace := ["internal/bytealg.Compare"], unfollowed := true, recurses := true, named := ["math/bits.divideError", "math/bits.overflowError"], apart := false, narrowed := true }
def ClassingCostsUptoSaid : Prop := classingCostsUptoRow.holds Try.pinned (OpenSpec.upto classingCostsSpec)

/-- 'merinolaw03.ClassingMerges', WHERE WHAT IT READS IS OF BULK AT MOST 1048576: true; the input reads as it did. -/
def classingMergesUptoRow : OpenClaim := { program := "ythkfahkkcjagdaa", sum := "d03f017e0263bf92fb13e5c0ce5e27d3d8481fb044921ce7797dc58fa80cf434", func := "merino/merinolaw03.ClassingMerges", spec := "classingMerges", inPlace := ["internal/bytealg.Compare"], unfollowed := true, recurses := true, named := ["math/bits.divideError", "math/bits.overflowError"], apart := false, narrowed := true }
def ClassingMergesUptoSaid : Prop := classingMergesUptoRow.holds Try.pinned (OpenSpec.upto classingMergesSpec)

/-- 'merinolaw03.ClassingCheapest', WHERE WHAT IT READS IS OF BULK AT MOST 1048576: true; the input reads as it did. -/
def classingCheapestUptoRow : OpenClaim := { program := "ythkfahkkcjagdaa", sum := "d03f017e0263bf92fb13e5c0ce5e27d3d8481fb044921ce7797dc58fa80cf434", func := "merino/merinolaw03.ClassingCheapest", spec := "classingCheapest", inPlace := ["internal/bytealg.Compare"], unfollowed := true, recurses := true, named := ["math/bits.divideError", "math/bits.overflowError"], apart := false, narrowed := true }
def ClassingCheapestUptoSaid : Prop := classingCheapestUptoRow.holds Try.pinned (OpenSpec.upto classingCheapestSpec)

/-- 'merinolaw03.ClassingQuantiles', WHERE WHAT IT READS IS OF BULK AT MOST 1048576: true; the input reads as it did. -/
def classingQuantilesUptoRow : OpenClaim := { program := "ythkfahkkcjagdaa", sum := "d03f017e0263bf92fb13e5c0ce5e27d3d8481fb044921ce7797dc58fa80cf434", func := "merino/merinolaw03.ClassingQuantiles", spec := "classingQuantiles", inPlace := ["internal/bytealg.Compare"], unfollowed := true, recurses := true, named := ["math/bits.divideError", "math/bits.overflowError"], apart := false, narrowed := true }
def ClassingQuantilesUptoSaid : Prop := classingQuantilesUptoRow.holds Try.pinned (OpenSpec.upto classingQuantilesSpec)

/-- 'merinolaw03.ClassingHists', WHERE WHAT IT READS IS OF BULK AT MOST 1048576: true; the input reads as it did. -/
def classingHistsUptoRow : OpenClaim := { program := "ythkfahkkcjagdaa", sum := "d03f017e0263bf92fb13e5c0ce5e27d3d8481fb044921ce7797dc58fa80cf434", func := "merino/merinolaw03.ClassingHists", spec := "classingHists", inPlace := ["internal/bytealg.Compare"], unfollowed := true, recurses := true, named := ["math/bits.divideError", "math/bits.overflowError"], apart := false, narrowed := true }
def ClassingHistsUptoSaid : Prop := classingHistsUptoRow.holds Try.pinned (OpenSpec.upto classingHistsSpec)

/-- 'merinolaw03.ClassingNobody', WHERE WHAT IT READS IS OF BULK AT MOST 1048576: true; the input reads as it did. -/
def classingNobodyUptoRow : OpenClaim := { program := "ythkfahkkcjagdaa", sum := "d03f017e0263bf92fb13e5c0ce5e27d3d8481fb044921ce7797dc58fa80cf434", func := "merino/merinolaw03.ClassingNobody", spec := "classingNobody", inPlace := ["internal/bytealg.Compare"], unfollowed := true, recurses := true, named := ["math/bits.divideError", "math/bits.overflowError"], apart := false, narrowed := true }
def ClassingNobodyUptoSaid : Prop := classingNobodyUptoRow.holds Try.pinned (OpenSpec.upto classingNobodySpec)

/-- 'merinolaw03.ClassingTests', WHERE WHAT IT READS IS OF BULK AT MOST 1048576: true; the input reads as it did. -/
def classingTestsUptoRow : OpenClaim := { program := "ythkfahkkcjagdaa", sum := "d03f017e0263bf92fb13e5c0ce5e27d3d8481fb044921ce7797dc58fa80cf434", func := "merino/merinolaw03.ClassingTests", spec := "classingTests", inPlace := ["internal/bytealg.Compare"], unfollowed := true, recurses := true, named := ["math/bits.divideError", "math/bits.overflowError"], apart := false, narrowed := true }
def ClassingTestsUptoSaid : Prop := classingTestsUptoRow.holds Try.pinned (OpenSpec.upto classingTestsSpec)

/-- 'merinolaw03.ClassingAgree', WHERE WHAT IT READS IS OF BULK AT MOST 1048576: true; the input reads as it did. -/
def classingAgreeUptoRow : OpenClaim := { program := "ythkfahkkcjagdaa", sum := "d03f017e0263bf92fb13e5c0ce5e27d3d8481fb044921ce7797dc58fa80cf434", func := "merino/merinolaw03.ClassingAgree", spec := "classingAgree", inPlace := ["internal/bytealg.Compare"], unfollowed := true, recurses := true, named := ["math/bits.divideError", "math/bits.overflowError"], apart := false, narrowed := true }
def ClassingAgreeUptoSaid : Prop := classingAgreeUptoRow.holds Try.pinned (OpenSpec.upto classingAgreeSpec)

end Rows
end Go.Proofs.Ythkfahkkcjagdaa
