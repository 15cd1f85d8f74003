/-
  No cell of these rows narrows 'for every input' (looked for: loops, veiled, ifaces, maps, wideKeys, modest, calm, conditions, laid).
  DERIVED. THE GIVEN ROWS OF THIS SEAT. 6 by the template 'for every input the law returns true; each argument reads behind the call as it read before'; 0 by the template 'total and deterministic' (their statements: YtcmakjkilebhnaaTotals.lean).
  GIVEN WITH THE SEED: the statements are not yours to turn. If you find one false, say at which input.
  Laid BY PROGRAM, IN A SANDBOX (cutbox-rows.mjs): the forced cells as the released guide's own fill.sh prints them over the translation f4880ea1cbd688d3… (all of the seat's roots in one cut). By AI agents, Wed Nov 11 2026. No macro, syntax, notation, axiom, sorry.
-/
import Derived.Test.YtcmakjkilebhnaaChecked
import GoSem.Claim
import GoSem.ClaimJoined
import GoSem.ClaimMapViews
import Derived.JoinedTies
import Derived.KernelRfl
namespace Go.Proofs.Ytcmakjkilebhnaa
/- THE CELL 'sum', in the pinned program and in every row, IS THE sha256 OF THE DUMP (.gsa) THAT YtcmakjkilebhnaaProg.lean LOADS. Nothing in Lean hashes anything: it is a label: what it is worth is what the hold of that sum in a sandbox is worth. -/
noncomputable def Try.pinned : Pinned := { name := "ytcmakjkilebhnaa", sum := "f4880ea1cbd688d3129695c98d8b153a56399e5fb1c4bae59420b004b672df51", checked := Try.checked }
namespace Rows
def none {H : Type} : Left H := { results := [], args := [] }

/-- 'laws.FnExactBallotNumber': WHATEVER THE INPUT: true; the input reads as it did. -/
def fnExactBallotNumberSpec : ChangeSpec := { name := "fnExactBallotNumber", fn := fun _ => fun
  | [d1, d2] => { results := [.lit (.bool true)], args := [d1, d2] }
  | _ => none }
def fnExactBallotNumberRow : OpenClaim := { program := "ytcmakjkilebhnaa", sum := "f4880ea1cbd688d3129695c98d8b153a56399e5fb1c4bae59420b004b672df51", func := "loop.example/g01283/laws.FnExactBallotNumber", spec := "fnExactBallotNumber", unfollowed := true, recurses := true, apart := false }
def FnExactBallotNumberSaid : Prop := fnExactBallotNumberRow.holds Try.pinned (OpenSpec.ofChange fnExactBallotNumberSpec)

/-- ITS FALSE NEIGHBOUR: 'it returns false'. Refute it at one input. -/
def fnExactBallotNumberWrong : ChangeSpec := { name := "fnExactBallotNumber", fn := fun _ => fun
  | [d1, d2] => { results := [.lit (.bool false)], args := [d1, d2] }
  | _ => none }
def FnExactBallotNumberWrongFalsely : Prop := fnExactBallotNumberRow.holds Try.pinned (OpenSpec.ofChange fnExactBallotNumberWrong)

/-- 'laws.FnExactCountLevelPaths': WHATEVER THE INPUT: true; the input reads as it did. -/
def fnExactCountLevelPathsSpec : ChangeSpec := { name := "fnExactCountLevelPaths", fn := fun _ => fun
  | [d1, d2, d3, d4] => { results := [.lit (.bool true)], args := [d1, d2, d3, d4] }
  | _ => none }
def fnExactCountLevelPathsRow : OpenClaim := { program := "ytcmakjkilebhnaa", sum := "f4880ea1cbd688d3129695c98d8b153a56399e5fb1c4bae59420b004b672df51", func := "loop.example/g01283/laws.FnExactCountLevelPaths", spec := "fnExactCountLevelPaths", unfollowed := true, recurses := true, apart := false }
def FnExactCountLevelPathsSaid : Prop := fnExactCountLevelPathsRow.holds Try.pinned (OpenSpec.ofChange fnExactCountLevelPathsSpec)

/-- ITS FALSE NEIGHBOUR: 'it returns false'. Refute it at one input. -/
def fnExactCountLevelPathsWrong : ChangeSpec := { name := "fnExactCountLevelPaths", fn := fun _ => fun
  | [d1, d2, d3, d4] => { results := [.lit (.bool false)], args := [d1, d2, d3, d4] }
  | _ => none }
def FnExactCountLevelPathsWrongFalsely : Prop := fnExactCountLevelPathsRow.holds Try.pinned (OpenSpec.ofChange fnExactCountLevelPathsWrong)

/-- 'laws.FnExactCountPaths': WHATEVER THE INPUT: true; the input reads as it did. -/
def fnExactCountPathsSpec : ChangeSpec := { name := "fnExactCountPaths", fn := fun _ => fun
  | [d1, d2, d3, d4] => { results := [.lit (.bool true)], args := [d1, d2, d3, d4] }
  | _ => none }
def fnExactCountPathsRow : OpenClaim := { program := "ytcmakjkilebhnaa", sum := "f4880ea1cbd688d3129695c98d8b153a56399e5fb1c4bae59420b004b672df51", func := "loop.example/g01283/laws.FnExactCountPaths", spec := "fnExactCountPaths", unfollowed := true, recurses := true, apart := false }
def FnExactCountPathsSaid : Prop := fnExactCountPathsRow.holds Try.pinned (OpenSpec.ofChange fnExactCountPathsSpec)

/-- ITS FALSE NEIGHBOUR: 'it returns false'. Refute it at one input. -/
def fnExactCountPathsWrong : ChangeSpec := { name := "fnExactCountPaths", fn := fun _ => fun
  | [d1, d2, d3, d4] => { results := [.lit (.bool false)], args := [d1, d2, d3, d4] }
  | _ => none }
def FnExactCountPathsWrongFalsely : Prop := fnExactCountPathsRow.holds Try.pinned (OpenSpec.ofChange fnExactCountPathsWrong)

/-- 'laws.FnExactReversePath': WHATEVER THE INPUT: true; the input reads as it did. -/
def fnExactReversePathSpec : ChangeSpec := { name := "fnExactReversePath", fn := fun _ => fun
  | [d1, d2] => { results := [.lit (.bool true)], args := [d1, d2] }
  | _ => none }
def fnExactReversePathRow : OpenClaim := { program := "ytcmakjkilebhnaa", sum := "f4880ea1cbd688d3129695c98d8b153a56399e5fb1c4bae59420b004b672df51", func := "loop.example/g01283/laws.FnExactReversePath", spec := "fnExactReversePath", apart := false }
def FnExactReversePathSaid : Prop := fnExactReversePathRow.holds Try.pinned (OpenSpec.ofChange fnExactReversePathSpec)

/-- ITS FALSE NEIGHBOUR: 'it returns false'. Refute it at one input. -/
def fnExactReversePathWrong : ChangeSpec := { name := "fnExactReversePath", fn := fun _ => fun
  | [d1, d2] => { results := [.lit (.bool false)], args := [d1, d2] }
  | _ => none }
def FnExactReversePathWrongFalsely : Prop := fnExactReversePathRow.holds Try.pinned (OpenSpec.ofChange fnExactReversePathWrong)

/-- 'laws.FnExactHeightsOf': WHATEVER THE INPUT: true; the input reads as it did. -/
def fnExactHeightsOfSpec : ChangeSpec := { name := "fnExactHeightsOf", fn := fun _ => fun
  | [d1, d2] => { results := [.lit (.bool true)], args := [d1, d2] }
  | _ => none }
def fnExactHeightsOfRow : OpenClaim := { program := "ytcmakjkilebhnaa", sum := "f4880ea1cbd688d3129695c98d8b153a56399e5fb1c4bae59420b004b672df51", func := "loop.example/g01283/laws.FnExactHeightsOf", spec := "fnExactHeightsOf", apart := false }
def FnExactHeightsOfSaid : Prop := fnExactHeightsOfRow.holds Try.pinned (OpenSpec.ofChange fnExactHeightsOfSpec)

/-- ITS FALSE NEIGHBOUR: 'it returns false'. Refute it at one input. -/
def fnExactHeightsOfWrong : ChangeSpec := { name := "fnExactHeightsOf", fn := fun _ => fun
  | [d1, d2] => { results := [.lit (.bool false)], args := [d1, d2] }
  | _ => none }
def FnExactHeightsOfWrongFalsely : Prop := fnExactHeightsOfRow.holds Try.pinned (OpenSpec.ofChange fnExactHeightsOfWrong)

/-- 'laws.FnExactAreSymmetric': WHATEVER THE INPUT: true; the input reads as it did. -/
def fnExactAreSymmetricSpec : ChangeSpec := { name := "fnExactAreSymmetric", fn := fun _ => fun
  | [d] => { results := [.lit (.bool true)], args := [d] }
  | _ => none }
def fnExactAreSymmetricRow : OpenClaim := { program := "ytcmakjkilebhnaa", sum := "f4880ea1cbd688d3129695c98d8b153a56399e5fb1c4bae59420b004b672df51", func := "loop.example/g01283/laws.FnExactAreSymmetric", spec := "fnExactAreSymmetric", unfollowed := true, recurses := true, apart := false }
def FnExactAreSymmetricSaid : Prop := fnExactAreSymmetricRow.holds Try.pinned (OpenSpec.ofChange fnExactAreSymmetricSpec)

/-- ITS FALSE NEIGHBOUR: 'it returns false'. Refute it at one input. -/
def fnExactAreSymmetricWrong : ChangeSpec := { name := "fnExactAreSymmetric", fn := fun _ => fun
  | [d] => { results := [.lit (.bool false)], args := [d] }
  | _ => none }
def FnExactAreSymmetricWrongFalsely : Prop := fnExactAreSymmetricRow.holds Try.pinned (OpenSpec.ofChange fnExactAreSymmetricWrong)

/- THE SECOND FORM. 'bulk': how many values and letters a reading holds, each counted each time it is reached (what is shared counts as often as it is met; a slice's spare places count too). A statement '..UptoSaid' is the law's where the arguments, and the package variables that the reading takes, are together of bulk at most 1048576: NARROWER than '..Said'. Prove '..Said' where nothing that the law and all that it calls make is longer than what came in: it says more and counts as full. Else prove '..UptoSaid'. A law counts once. -/
mutual
def uptoBulk {H : Type} : DataW H → Nat
  | .lit (.string bytes) => bytes.length + 1
  | .lit _ => 1
  | .nil => 1
  | .ptr d => uptoBulk d + 1
  | .slice elems spare => uptoBulkAll elems + uptoBulkAll spare + 1
  | .agg parts => uptoBulkAll parts + 1
  | .iface _ d => uptoBulk d + 1
  | .map entries => uptoBulkEntries entries + 1
  | .held _ => 1
def uptoBulkAll {H : Type} : List (DataW H) → Nat
  | [] => 0
  | d :: r => uptoBulk d + uptoBulkAll r
def uptoBulkEntries {H : Type} : List (Lit × DataW H) → Nat
  | [] => 0
  | x :: r => uptoBulkEntry x + uptoBulkEntries r
def uptoBulkEntry {H : Type} : Lit × DataW H → Nat
  | (.string bytes, d) => bytes.length + uptoBulk d + 1
  | (_, d) => uptoBulk d + 1
 end
def uptoSmall : (H : Type) → List (DataW H) → Bool := fun _ ds => decide (uptoBulkAll ds ≤ 1048576)
def OpenSpec.upto (s : _root_.Go.ChangeSpec) : _root_.Go.OpenSpec := { _root_.Go.OpenSpec.ofChange s with cond := some uptoSmall }

/-- 'laws.FnExactBallotNumber', WHERE WHAT IT READS IS OF BULK AT MOST 1048576: true; the input reads as it did. -/
def fnExactBallotNumberUptoRow : OpenClaim := { program := "ytcmakjkilebhnaa", sum := "f4880ea1cbd688d3129695c98d8b153a56399e5fb1c4bae59420b004b672df51", func := "loop.example/g01283/laws.FnExactBallotNumber", spec := "fnExactBallotNumber", unfollowed := true, recurses := true, apart := false, narrowed := true }
def FnExactBallotNumberUptoSaid : Prop := fnExactBallotNumberUptoRow.holds Try.pinned (OpenSpec.upto fnExactBallotNumberSpec)

/-- 'laws.FnExactCountLevelPaths', WHERE WHAT IT READS IS OF BULK AT MOST 1048576: true; the input reads as it did. -/
def fnExactCountLevelPathsUptoRow : OpenClaim := { program := "ytcmakjkilebhnaa", sum := "f4880ea1cbd688d3129695c98d8b153a56399e5fb1c4bae59420b004b672df51", func := "loop.example/g01283/laws.FnExactCountLevelPaths", spec := "fnExactCountLevelPaths", unfollowed := true, recurses := true, apart := false, narrowed := true }
def FnExactCountLevelPathsUptoSaid : Prop := fnExactCountLevelPathsUptoRow.holds Try.pinned (OpenSpec.upto fnExactCountLevelPathsSpec)

/-- 'laws.FnExactCountPaths', WHERE WHAT IT READS IS OF BULK AT MOST 1048576: true; the input reads as it did. -/
def fnExactCountPathsUptoRow : OpenClaim := { program := "ytcmakjkilebhnaa", sum := "f4880ea1cbd688d3129695c98d8b153a56399e5fb1c4bae59420b004b672df51", func := "loop.example/g01283/laws.FnExactCountPaths", spec := "fnExactCountPaths", unfollowed := true, recurses := true, apart := false, narrowed := true }
def FnExactCountPathsUptoSaid : Prop := fnExactCountPathsUptoRow.holds Try.pinned (OpenSpec.upto fnExactCountPathsSpec)

/-- 'laws.FnExactReversePath', WHERE WHAT IT READS IS OF BULK AT MOST 1048576: true; the input reads as it did. -/
def fnExactReversePathUptoRow : OpenClaim := { program := "ytcmakjkilebhnaa", sum := "f4880ea1cbd688d3129695c98d8b153a56399e5fb1c4bae59420b004b672df51", func := "loop.example/g01283/laws.FnExactReversePath", spec := "fnExactReversePath", apart := false, narrowed := true }
def FnExactReversePathUptoSaid : Prop := fnExactReversePathUptoRow.holds Try.pinned (OpenSpec.upto fnExactReversePathSpec)

/-- 'laws.FnExactHeightsOf', WHERE WHAT IT READS IS OF BULK AT MOST 1048576: true; the input reads as it did. -/
def fnExactHeightsOfUptoRow : OpenClaim := { program := "ytcmakjkilebhnaa", sum := "f4880ea1cbd688d3129695c98d8b153a56399e5fb1c4bae59420b004b672df51", func := "loop.example/g01283/laws.FnExactHeightsOf", spec := "fnExactHeightsOf", apart := false, narrowed := true }
def FnExactHeightsOfUptoSaid : Prop := fnExactHeightsOfUptoRow.holds Try.pinned (OpenSpec.upto fnExactHeightsOfSpec)

/-- 'laws.FnExactAreSymmetric', WHERE WHAT IT READS IS OF BULK AT MOST 1048576: true; the input reads as it did. -/
def fnExactAreSymmetricUptoRow : OpenClaim := { program := "ytcmakjkilebhnaa", sum := "f4880ea1cbd688d3129695c98d8b153a56399e5fb1c4bae59420b004b672df51", func := "loop.example/g01283/laws.FnExactAreSymmetric", spec := "fnExactAreSymmetric", unfollowed := true, recurses := true, apart := false, narrowed := true }
def FnExactAreSymmetricUptoSaid : Prop := fnExactAreSymmetricUptoRow.holds Try.pinned (OpenSpec.upto fnExactAreSymmetricSpec)

end Rows
end Go.Proofs.Ytcmakjkilebhnaa
