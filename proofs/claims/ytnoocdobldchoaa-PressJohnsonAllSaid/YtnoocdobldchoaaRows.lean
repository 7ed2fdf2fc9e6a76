/-
  No cell of these rows narrows 'for every input' (looked for: loops, veiled, ifaces, maps, wideKeys, modest, calm, conditions, laid).
  DERIVED. THE GIVEN ROWS OF THIS SEAT. 12 by the template 'for every input the law returns true; each argument reads behind the call as it read before'; 0 by the template 'total and deterministic' (their statements: YtnoocdobldchoaaTotals.lean).
  GIVEN WITH THE SEED: the statements are not yours to turn. If you find one false, say at which input.
  Laid BY PROGRAM, IN A SANDBOX (cutbox-rows.mjs): the forced cells as the released guide's own fill.sh prints them over the translation 727f44c8f7c77739… (all of the seat's roots in one cut). By AI agents, Wed Nov 11 2026. No macro, syntax, notation, axiom, sorry.
-/
import Derived.Test.YtnoocdobldchoaaChecked
import GoSem.Claim
import GoSem.ClaimJoined
import GoSem.ClaimMapViews
import Derived.JoinedTies
import Derived.KernelRfl
namespace Go.Proofs.Ytnoocdobldchoaa
/- THE CELL 'sum', in the pinned program and in every row, IS THE sha256 OF THE DUMP (.gsa) THAT YtnoocdobldchoaaProg.lean LOADS. Nothing in Lean hashes anything: it is a label: what it is worth is what the hold of that sum in a sandbox is worth. -/
noncomputable def Try.pinned : Pinned := { name := "ytnoocdobldchoaa", sum := "727f44c8f7c7773935afa2fbc142fd166dacaf30993611e97e33ff1b172ac857", checked := Try.checked }
namespace Rows
def none {H : Type} : Left H := { results := [], args := [] }

/-- 'merinolaw08.PressPacks': WHATEVER THE INPUT: true; the input reads as it did. -/
def pressPacksSpec : ChangeSpec := { name := "pressPacks", fn := fun _ => fun
  | [d1, d2, d3] => { results := [.lit (.bool true)], args := [d1, d2, d3] }
  | _ => none }
def pressPacksRow : OpenClaim := { program := "ytnoocdobldchoaa", sum := "727f44c8f7c7773935afa2fbc142fd166dacaf30993611e97e33ff1b172ac857", func := "merino/merinolaw08.PressPacks", spec := "pressPacks", unfollowed := true, recurses := true, apart := false }
def PressPacksSaid : Prop := pressPacksRow.holds Try.pinned (OpenSpec.ofChange pressPacksSpec)

/-- ITS FALSE NEIGHBOUR: 'it returns false'. Refute it at one input. -/
def pressPacksWrong : ChangeSpec := { name := "pressPacks", fn := fun _ => fun
  | [d1, d2, d3] => { results := [.lit (.bool false)], args := [d1, d2, d3] }
  | _ => none }
def PressPacksWrongFalsely : Prop := pressPacksRow.holds Try.pinned (OpenSpec.ofChange pressPacksWrong)

/-- 'merinolaw08.PressPacked': WHATEVER THE INPUT: true; the input reads as it did. -/
def pressPackedSpec : ChangeSpec := { name := "pressPacked", fn := fun _ => fun
  | [d1, d2, d3, d4] => { results := [.lit (.bool true)], args := [d1, d2, d3, d4] }
  | _ => none }
def pressPackedRow : OpenClaim := { program := "ytnoocdobldchoaa", sum := "727f44c8f7c7773935afa2fbc142fd166dacaf30993611e97e33ff1b172ac857", func := "merino/merinolaw08.PressPacked", spec := "pressPacked", unfollowed := true, recurses := true, apart := false }
def PressPackedSaid : Prop := pressPackedRow.holds Try.pinned (OpenSpec.ofChange pressPackedSpec)

/-- ITS FALSE NEIGHBOUR: 'it returns false'. Refute it at one input. -/
def pressPackedWrong : ChangeSpec := { name := "pressPacked", fn := fun _ => fun
  | [d1, d2, d3, d4] => { results := [.lit (.bool false)], args := [d1, d2, d3, d4] }
  | _ => none }
def PressPackedWrongFalsely : Prop := pressPackedRow.holds Try.pinned (OpenSpec.ofChange pressPackedWrong)

/-- 'merinolaw08.PressEases': WHATEVER THE INPUT: true; the input reads as it did. -/
def pressEasesSpec : ChangeSpec := { name := "pressEases", fn := fun _ => fun
  | [d1, d2, d3, d4, d5] => { results := [.lit (.bool true)], args := [d1, d2, d3, d4, d5] }
  | _ => none }
def pressEasesRow : OpenClaim := { program := "ytnoocdobldchoaa", sum := "727f44c8f7c7773935afa2fbc142fd166dacaf30993611e97e33ff1b172ac857", func := "merino/merinolaw08.PressEases", spec := "pressEases", unfollowed := true, recurses := true, apart := false }
def PressEasesSaid : Prop := pressEasesRow.holds Try.pinned (OpenSpec.ofChange pressEasesSpec)

/-- ITS FALSE NEIGHBOUR: 'it returns false'. Refute it at one input. -/
def pressEasesWrong : ChangeSpec := { name := "pressEases", fn := fun _ => fun
  | [d1, d2, d3, d4, d5] => { results := [.lit (.bool false)], args := [d1, d2, d3, d4, d5] }
  | _ => none }
def PressEasesWrongFalsely : Prop := pressEasesRow.holds Try.pinned (OpenSpec.ofChange pressEasesWrong)

/-- 'merinolaw08.PressShares': WHATEVER THE INPUT: true; the input reads as it did. -/
def pressSharesSpec : ChangeSpec := { name := "pressShares", fn := fun _ => fun
  | [d1, d2] => { results := [.lit (.bool true)], args := [d1, d2] }
  | _ => none }
def pressSharesRow : OpenClaim := { program := "ytnoocdobldchoaa", sum := "727f44c8f7c7773935afa2fbc142fd166dacaf30993611e97e33ff1b172ac857", func := "merino/merinolaw08.PressShares", spec := "pressShares", unfollowed := true, recurses := true, apart := false }
def PressSharesSaid : Prop := pressSharesRow.holds Try.pinned (OpenSpec.ofChange pressSharesSpec)

/-- ITS FALSE NEIGHBOUR: 'it returns false'. Refute it at one input. -/
def pressSharesWrong : ChangeSpec := { name := "pressShares", fn := fun _ => fun
  | [d1, d2] => { results := [.lit (.bool false)], args := [d1, d2] }
  | _ => none }
def PressSharesWrongFalsely : Prop := pressSharesRow.holds Try.pinned (OpenSpec.ofChange pressSharesWrong)

/-- 'merinolaw08.PressGraham': WHATEVER THE INPUT: true; the input reads as it did. -/
def pressGrahamSpec : ChangeSpec := { name := "pressGraham", fn := fun _ => fun
  | [d1, d2, d3] => { results := [.lit (.bool true)], args := [d1, d2, d3] }
  | _ => none }
def pressGrahamRow : OpenClaim := { program := "ytnoocdobldchoaa", sum := "727f44c8f7c7773935afa2fbc142fd166dacaf30993611e97e33ff1b172ac857", func := "merino/merinolaw08.PressGraham", spec := "pressGraham", unfollowed := true, recurses := true, apart := false }
def PressGrahamSaid : Prop := pressGrahamRow.holds Try.pinned (OpenSpec.ofChange pressGrahamSpec)

/-- ITS FALSE NEIGHBOUR: 'it returns false'. Refute it at one input. -/
def pressGrahamWrong : ChangeSpec := { name := "pressGraham", fn := fun _ => fun
  | [d1, d2, d3] => { results := [.lit (.bool false)], args := [d1, d2, d3] }
  | _ => none }
def PressGrahamWrongFalsely : Prop := pressGrahamRow.holds Try.pinned (OpenSpec.ofChange pressGrahamWrong)

/-- 'merinolaw08.PressOnTime': WHATEVER THE INPUT: true; the input reads as it did. -/
def pressOnTimeSpec : ChangeSpec := { name := "pressOnTime", fn := fun _ => fun
  | [d] => { results := [.lit (.bool true)], args := [d] }
  | _ => none }
def pressOnTimeRow : OpenClaim := { program := "ytnoocdobldchoaa", sum := "727f44c8f7c7773935afa2fbc142fd166dacaf30993611e97e33ff1b172ac857", func := "merino/merinolaw08.PressOnTime", spec := "pressOnTime", unfollowed := true, recurses := true, apart := false }
def PressOnTimeSaid : Prop := pressOnTimeRow.holds Try.pinned (OpenSpec.ofChange pressOnTimeSpec)

/-- ITS FALSE NEIGHBOUR: 'it returns false'. Refute it at one input. -/
def pressOnTimeWrong : ChangeSpec := { name := "pressOnTime", fn := fun _ => fun
  | [d] => { results := [.lit (.bool false)], args := [d] }
  | _ => none }
def PressOnTimeWrongFalsely : Prop := pressOnTimeRow.holds Try.pinned (OpenSpec.ofChange pressOnTimeWrong)

/-- 'merinolaw08.PressMoore': WHATEVER THE INPUT: true; the input reads as it did. -/
def pressMooreSpec : ChangeSpec := { name := "pressMoore", fn := fun _ => fun
  | [d1, d2] => { results := [.lit (.bool true)], args := [d1, d2] }
  | _ => none }
def pressMooreRow : OpenClaim := { program := "ytnoocdobldchoaa", sum := "727f44c8f7c7773935afa2fbc142fd166dacaf30993611e97e33ff1b172ac857", func := "merino/merinolaw08.PressMoore", spec := "pressMoore", unfollowed := true, recurses := true, apart := false }
def PressMooreSaid : Prop := pressMooreRow.holds Try.pinned (OpenSpec.ofChange pressMooreSpec)

/-- ITS FALSE NEIGHBOUR: 'it returns false'. Refute it at one input. -/
def pressMooreWrong : ChangeSpec := { name := "pressMoore", fn := fun _ => fun
  | [d1, d2] => { results := [.lit (.bool false)], args := [d1, d2] }
  | _ => none }
def PressMooreWrongFalsely : Prop := pressMooreRow.holds Try.pinned (OpenSpec.ofChange pressMooreWrong)

/-- 'merinolaw08.PressJohnson': WHATEVER THE INPUT: true; the input reads as it did. -/
def pressJohnsonSpec : ChangeSpec := { name := "pressJohnson", fn := fun _ => fun
  | [d1, d2] => { results := [.lit (.bool true)], args := [d1, d2] }
  | _ => none }
def pressJohnsonRow : OpenClaim := { program := "ytnoocdobldchoaa", sum := "727f44c8f7c7773935afa2fbc142fd166dacaf30993611e97e33ff1b172ac857", func := "merino/merinolaw08.PressJohnson", spec := "pressJohnson", unfollowed := true, recurses := true, apart := false }
def PressJohnsonSaid : Prop := pressJohnsonRow.holds Try.pinned (OpenSpec.ofChange pressJohnsonSpec)

/-- ITS FALSE NEIGHBOUR: 'it returns false'. Refute it at one input. -/
def pressJohnsonWrong : ChangeSpec := { name := "pressJohnson", fn := fun _ => fun
  | [d1, d2] => { results := [.lit (.bool false)], args := [d1, d2] }
  | _ => none }
def PressJohnsonWrongFalsely : Prop := pressJohnsonRow.holds Try.pinned (OpenSpec.ofChange pressJohnsonWrong)

/-- 'merinolaw08.PressJohnsonAll': WHATEVER THE INPUT: true; the input reads as it did. -/
def pressJohnsonAllSpec : ChangeSpec := { name := "pressJohnsonAll", fn := fun _ => fun
  | [d] => { results := [.lit (.bool true)], args := [d] }
  | _ => none }
def pressJohnsonAllRow : OpenClaim := { program := "ytnoocdobldchoaa", sum := "727f44c8f7c7773935afa2fbc142fd166dacaf30993611e97e33ff1b172ac857", func := "merino/merinolaw08.PressJohnsonAll", spec := "pressJohnsonAll", unfollowed := true, recurses := true, apart := false }
def PressJohnsonAllSaid : Prop := pressJohnsonAllRow.holds Try.pinned (OpenSpec.ofChange pressJohnsonAllSpec)

/-- ITS FALSE NEIGHBOUR: 'it returns false'. Refute it at one input. -/
def pressJohnsonAllWrong : ChangeSpec := { name := "pressJohnsonAll", fn := fun _ => fun
  | [d] => { results := [.lit (.bool false)], args := [d] }
  | _ => none }
def PressJohnsonAllWrongFalsely : Prop := pressJohnsonAllRow.holds Try.pinned (OpenSpec.ofChange pressJohnsonAllWrong)

/-- 'merinolaw08.PressMirror': WHATEVER THE INPUT: true; the input reads as it did. -/
def pressMirrorSpec : ChangeSpec := { name := "pressMirror", fn := fun _ => fun
  | [d1, d2] => { results := [.lit (.bool true)], args := [d1, d2] }
  | _ => none }
def pressMirrorRow : OpenClaim := { program := "ytnoocdobldchoaa", sum := "727f44c8f7c7773935afa2fbc142fd166dacaf30993611e97e33ff1b172ac857", func := "merino/merinolaw08.PressMirror", spec := "pressMirror", unfollowed := true, recurses := true, apart := false }
def PressMirrorSaid : Prop := pressMirrorRow.holds Try.pinned (OpenSpec.ofChange pressMirrorSpec)

/-- ITS FALSE NEIGHBOUR: 'it returns false'. Refute it at one input. -/
def pressMirrorWrong : ChangeSpec := { name := "pressMirror", fn := fun _ => fun
  | [d1, d2] => { results := [.lit (.bool false)], args := [d1, d2] }
  | _ => none }
def PressMirrorWrongFalsely : Prop := pressMirrorRow.holds Try.pinned (OpenSpec.ofChange pressMirrorWrong)

/-- 'merinolaw08.PressSequences': WHATEVER THE INPUT: true; the input reads as it did. -/
def pressSequencesSpec : ChangeSpec := { name := "pressSequences", fn := fun _ => fun
  | [d1, d2] => { results := [.lit (.bool true)], args := [d1, d2] }
  | _ => none }
def pressSequencesRow : OpenClaim := { program := "ytnoocdobldchoaa", sum := "727f44c8f7c7773935afa2fbc142fd166dacaf30993611e97e33ff1b172ac857", func := "merino/merinolaw08.PressSequences", spec := "pressSequences", unfollowed := true, recurses := true, apart := false }
def PressSequencesSaid : Prop := pressSequencesRow.holds Try.pinned (OpenSpec.ofChange pressSequencesSpec)

/-- ITS FALSE NEIGHBOUR: 'it returns false'. Refute it at one input. -/
def pressSequencesWrong : ChangeSpec := { name := "pressSequences", fn := fun _ => fun
  | [d1, d2] => { results := [.lit (.bool false)], args := [d1, d2] }
  | _ => none }
def PressSequencesWrongFalsely : Prop := pressSequencesRow.holds Try.pinned (OpenSpec.ofChange pressSequencesWrong)

/-- 'merinolaw08.PressCritical': WHATEVER THE INPUT: true; the input reads as it did. -/
def pressCriticalSpec : ChangeSpec := { name := "pressCritical", fn := fun _ => fun
  | [d1, d2] => { results := [.lit (.bool true)], args := [d1, d2] }
  | _ => none }
def pressCriticalRow : OpenClaim := { program := "ytnoocdobldchoaa", sum := "727f44c8f7c7773935afa2fbc142fd166dacaf30993611e97e33ff1b172ac857", func := "merino/merinolaw08.PressCritical", spec := "pressCritical", unfollowed := true, recurses := true, apart := false }
def PressCriticalSaid : Prop := pressCriticalRow.holds Try.pinned (OpenSpec.ofChange pressCriticalSpec)

/-- ITS FALSE NEIGHBOUR: 'it returns false'. Refute it at one input. -/
def pressCriticalWrong : ChangeSpec := { name := "pressCritical", fn := fun _ => fun
  | [d1, d2] => { results := [.lit (.bool false)], args := [d1, d2] }
  | _ => none }
def PressCriticalWrongFalsely : Prop := pressCriticalRow.holds Try.pinned (OpenSpec.ofChange pressCriticalWrong)

/- THE SECOND FORM. 'bulk': how many values and letters a reading holds, each counted each time it is reached (what is shared counts as often as it is met; a slice's spare places count too). A statement '..UptoSaid' is the law's where the arguments, and the package variables that the reading takes, are together of bulk at most 1048576: NARROWER than '..Said'. Prove '..Said' where nothing that the law and all that it calls make is longer than what came in: it says more and counts as full. Else prove '..UptoSaid'. A law counts once. -/
mutual
def uptoBulk {H : Type} : DataW H → Nat
  | .lit (.string bytes) => bytes.length + 1
  | .lit _ => 1
  | .nil => 1
  | .ptr d => uptoBulk d + 1
  | .slice elems spare => uptoBulkAll elems + uptoBulkAll spare + 1
  | .agg parts => uptoBulkAll parts + 1
  | .iface _ d => uptoBulk d + 1
  | .map entries => uptoBulkEntries entries + 1
  | .held _ => 1
def uptoBulkAll {H : Type} : List (DataW H) → Nat
  | [] => 0
  | d :: r => uptoBulk d + uptoBulkAll r
def uptoBulkEntries {H : Type} : List (Lit × DataW H) → Nat
  | [] => 0
  | x :: r => uptoBulkEntry x + uptoBulkEntries r
def uptoBulkEntry {H : Type} : Lit × DataW H → Nat
  | (.string bytes, d) => bytes.length + uptoBulk d + 1
  | (_, d) => uptoBulk d + 1
 end
def uptoSmall : (H : Type) → List (DataW H) → Bool := fun _ ds => decide (uptoBulkAll ds ≤ 1048576)
def OpenSpec.upto (s : _root_.Go.ChangeSpec) : _root_.Go.OpenSpec := { _root_.Go.OpenSpec.ofChange s with cond := some uptoSmall }

/-- 'merinolaw08.PressPacks', WHERE WHAT IT READS IS OF BULK AT MOST 1048576: true; the input reads as it did. -/
def pressPacksUptoRow : OpenClaim := { program := "ytnoocdobldchoaa", sum := "727f44c8f7c7773935afa2fbc142fd166dacaf30993611e97e33ff1b172ac857", func := "merino/merinolaw08.PressPacks", spec := "pressPacks", unfollowed := true, recurses := true, apart := false, narrowed := true }
def PressPacksUptoSaid : Prop := pressPacksUptoRow.holds Try.pinned (OpenSpec.upto pressPacksSpec)

/-- 'merinolaw08.PressPacked', WHERE WHAT IT READS IS OF BULK AT MOST 1048576: true; the input reads as it did. -/
def pressPackedUptoRow : OpenClaim := { program := "ytnoocdobldchoaa", sum := "727f44c8f7c7773935afa2fbc142fd166dacaf30993611e97e33ff1b172ac857", func := "merino/merinolaw08.PressPacked", spec := "pressPacked", unfollowed := true, recurses := true, apart := false, narrowed := true }
def PressPackedUptoSaid : Prop := pressPackedUptoRow.holds Try.pinned (OpenSpec.upto pressPackedSpec)

/-- 'merinolaw08.PressEases', WHERE WHAT IT READS IS OF BULK AT MOST 1048576: true; the input reads as it did. -/
def pressEasesUptoRow : OpenClaim := { program := "ytnoocdobldchoaa", sum := "727f44c8f7c7773935afa2fbc142fd166dacaf30993611e97e33ff1b172ac857", func := "merino/merinolaw08.PressEases", spec := "pressEases", unfollowed := true, recurses := true, apart := false, narrowed := true }
def PressEasesUptoSaid : Prop := pressEasesUptoRow.holds Try.pinned (OpenSpec.upto pressEasesSpec)

/-- 'merinolaw08.PressShares', WHERE WHAT IT READS IS OF BULK AT MOST 1048576: true; the input reads as it did. -/
def pressSharesUptoRow : OpenClaim := { program := "ytnoocdobldchoaa", sum := "727f44c8f7c7773935afa2fbc142fd166dacaf30993611e97e33ff1b172ac857", func := "merino/merinolaw08.PressShares", spec := "pressShares", unfollowed := true, recurses := true, apart := false, narrowed := true }
def PressSharesUptoSaid : Prop := pressSharesUptoRow.holds Try.pinned (OpenSpec.upto pressSharesSpec)

/-- 'merinolaw08.PressGraham', WHERE WHAT IT READS IS OF BULK AT MOST 1048576: true; the input reads as it did. -/
def pressGrahamUptoRow : OpenClaim := { program := "ytnoocdobldchoaa", sum := "727f44c8f7c7773935afa2fbc142fd166dacaf30993611e97e33ff1b172ac857", func := "merino/merinolaw08.PressGraham", spec := "pressGraham", unfollowed := true, recurses := true, apart := false, narrowed := true }
def PressGrahamUptoSaid : Prop := pressGrahamUptoRow.holds Try.pinned (OpenSpec.upto pressGrahamSpec)

/-- 'merinolaw08.PressOnTime', WHERE WHAT IT READS IS OF BULK AT MOST 1048576: true; the input reads as it did. -/
def pressOnTimeUptoRow : OpenClaim := { program := "ytnoocdobldchoaa", sum := "727f44c8f7c7773935afa2fbc142fd166dacaf30993611e97e33ff1b172ac857", func := "merino/merinolaw08.PressOnTime", spec := "pressOnTime", unfollowed := true, recurses := true, apart := false, narrowed := true }
def PressOnTimeUptoSaid : Prop := pressOnTimeUptoRow.holds Try.pinned (OpenSpec.upto pressOnTimeSpec)

/-- 'merinolaw08.PressMoore', WHERE WHAT IT READS IS OF BULK AT MOST 1048576: true; the input reads as it did. -/
def pressMooreUptoRow : OpenClaim := { program := "ytnoocdobldchoaa", sum := "727f44c8f7c7773935afa2fbc142fd166dacaf30993611e97e33ff1b172ac857", func := "merino/merinolaw08.PressMoore", spec := "pressMoore", unfollowed := true, recurses := true, apart := false, narrowed := true }
def PressMooreUptoSaid : Prop := pressMooreUptoRow.holds Try.pinned (OpenSpec.upto pressMooreSpec)

/-- 'merinolaw08.PressJohnson', WHERE WHAT IT READS IS OF BULK AT MOST 1048576: true; the input reads as it did. -/
def pressJohnsonUptoRow : OpenClaim := { program := "ytnoocdobldchoaa", sum := "727f44c8f7c7773935afa2fbc142fd166dacaf30993611e97e33ff1b172ac857", func := "merino/merinolaw08.PressJohnson", spec := "pressJohnson", unfollowed := true, recurses := true, apart := false, narrowed := true }
def PressJohnsonUptoSaid : Prop := pressJohnsonUptoRow.holds Try.pinned (OpenSpec.upto pressJohnsonSpec)

/-- 'merinolaw08.PressJohnsonAll', WHERE WHAT IT READS IS OF BULK AT MOST 1048576: true; the input reads as it did. -/
def pressJohnsonAllUptoRow : OpenClaim := { program := "ytnoocdobldchoaa", sum := "727f44c8f7c7773935afa2fbc142fd166dacaf30993611e97e33ff1b172ac857", func := "merino/merinolaw08.PressJohnsonAll", spec := "pressJohnsonAll", unfollowed := true, recurses := true, apart := false, narrowed := true }
def PressJohnsonAllUptoSaid : Prop := pressJohnsonAllUptoRow.holds Try.pinned (OpenSpec.upto pressJohnsonAllSpec)

/-- 'merinolaw08.PressMirror', WHERE WHAT IT READS IS OF BULK AT MOST 1048576: true; the input reads as it did. -/
def pressMirrorUptoRow : OpenClaim := { program := "ytnoocdobldchoaa", sum := "727f44c8f7c7773935afa2fbc142fd166dacaf30993611e97e33ff1b172ac857", func := "merino/merinolaw08.PressMirror", spec := "pressMirror", unfollowed := true, recurses := true, apart := false, narrowed := true }
def PressMirrorUptoSaid : Prop := pressMirrorUptoRow.holds Try.pinned (OpenSpec.upto pressMirrorSpec)

/-- 'merinolaw08.PressSequences', WHERE WHAT IT READS IS OF BULK AT MOST 1048576: true; the input reads as it did. -/
def pressSequencesUptoRow : OpenClaim := { program := "ytnoocdobldchoaa", sum := "727f44c8f7c7773935afa2fbc142fd166dacaf30993611e97e33ff1b172ac857", func := "merino/merinolaw08.PressSequences", spec := "pressSequences", unfollowed := true, recurses := true, apart := false, narrowed := true }
def PressSequencesUptoSaid : Prop := pressSequencesUptoRow.holds Try.pinned (OpenSpec.upto pressSequencesSpec)

/-- 'merinolaw08.PressCritical', WHERE WHAT IT READS IS OF BULK AT MOST 1048576: true; the input reads as it did. -/
def pressCriticalUptoRow : OpenClaim := { program := "ytnoocdobldchoaa", sum := "727f44c8f7c7773935afa2fbc142fd166dacaf30993611e97e33ff1b172ac857", func := "merino/merinolaw08.PressCritical", spec := "pressCritical", unfollowed := true, recurses := true, apart := false, narrowed := true }
def PressCriticalUptoSaid : Prop := pressCriticalUptoRow.holds Try.pinned (OpenSpec.upto pressCriticalSpec)

end Rows
end Go.Proofs.Ytnoocdobldchoaa
