/-
  No cell of these rows narrows 'for every input' (looked for: loops, veiled, ifaces, maps, wideKeys, modest, calm, conditions, laid).
  DERIVED. THE GIVEN ROWS OF THIS SEAT. 11 by the template 'for every input the law returns true; each argument reads behind the call as it read before'; 0 by the template 'total and deterministic' (their statements: YtiefdblogdomhaaTotals.lean).
  GIVEN WITH THE SEED: the statements are not yours to turn. If you find one false, say at which input.
  Laid BY PROGRAM, IN A SANDBOX (cutbox-rows.mjs): the forced cells as the released guide's own fill.sh prints them over the translation 044064420f099b31… (all of the seat's roots in one cut). By AI agents, Wed Nov 11 2026. No macro, syntax, notation, axiom, sorry.
-/
import Derived.Test.YtiefdblogdomhaaChecked
import GoSem.Claim
import GoSem.ClaimJoined
import GoSem.ClaimMapViews
import Derived.JoinedTies
import Derived.KernelRfl
namespace Go.Proofs.Ytiefdblogdomhaa
/- THE CELL 'sum', in the pinned program and in every row, IS THE sha256 OF THE DUMP (.gsa) THAT YtiefdblogdomhaaProg.lean LOADS. Nothing in Lean hashes anything: it is a label: what it is worth is what the hold of that sum in a sandbox is worth. -/
noncomputable def Try.pinned : Pinned := { name := "ytiefdblogdomhaa", sum := "044064420f099b31180284a12c8cc86c4822fb2ebad71932d7f1080ef84d326b", checked := Try.checked }
namespace Rows
def none {H : Type} : Left H := { results := [], args := [] }

/-- 'laws.FnExactPathsOf': WHATEVER THE INPUT: true; the input reads as it did. -/
def fnExactPathsOfSpec : ChangeSpec := { name := "fnExactPathsOf", fn := fun _ => fun
  | [d1, d2, d3, d4] => { results := [.lit (.bool true)], args := [d1, d2, d3, d4] }
  | _ => none }
def fnExactPathsOfRow : OpenClaim := { program := "ytiefdblogdomhaa", sum := "044064420f099b31180284a12c8cc86c4822fb2ebad71932d7f1080ef84d326b", func := "loop.example/g01283/laws.FnExactPathsOf", spec := "fnExactPathsOf", unfollowed := true, recurses := true, apart := false }
def FnExactPathsOfSaid : Prop := fnExactPathsOfRow.holds Try.pinned (OpenSpec.ofChange fnExactPathsOfSpec)

/-- ITS FALSE NEIGHBOUR: 'it returns false'. Refute it at one input. -/
def fnExactPathsOfWrong : ChangeSpec := { name := "fnExactPathsOf", fn := fun _ => fun
  | [d1, d2, d3, d4] => { results := [.lit (.bool false)], args := [d1, d2, d3, d4] }
  | _ => none }
def FnExactPathsOfWrongFalsely : Prop := fnExactPathsOfRow.holds Try.pinned (OpenSpec.ofChange fnExactPathsOfWrong)

/-- 'laws.FnExactSquaredNorms': WHATEVER THE INPUT: true; the input reads as it did. -/
def fnExactSquaredNormsSpec : ChangeSpec := { name := "fnExactSquaredNorms", fn := fun _ => fun
  | [d] => { results := [.lit (.bool true)], args := [d] }
  | _ => none }
def fnExactSquaredNormsRow : OpenClaim := { program := "ytiefdblogdomhaa", sum := "044064420f099b31180284a12c8cc86c4822fb2ebad71932d7f1080ef84d326b", func := "loop.example/g01283/laws.FnExactSquaredNorms", spec := "fnExactSquaredNorms", unfollowed := true, recurses := true, apart := false }
def FnExactSquaredNormsSaid : Prop := fnExactSquaredNormsRow.holds Try.pinned (OpenSpec.ofChange fnExactSquaredNormsSpec)

/-- ITS FALSE NEIGHBOUR: 'it returns false'. Refute it at one input. -/
def fnExactSquaredNormsWrong : ChangeSpec := { name := "fnExactSquaredNorms", fn := fun _ => fun
  | [d] => { results := [.lit (.bool false)], args := [d] }
  | _ => none }
def FnExactSquaredNormsWrongFalsely : Prop := fnExactSquaredNormsRow.holds Try.pinned (OpenSpec.ofChange fnExactSquaredNormsWrong)

/-- 'laws.FnExactDoubleMoments': WHATEVER THE INPUT: true; the input reads as it did. -/
def fnExactDoubleMomentsSpec : ChangeSpec := { name := "fnExactDoubleMoments", fn := fun _ => fun
  | [d] => { results := [.lit (.bool true)], args := [d] }
  | _ => none }
def fnExactDoubleMomentsRow : OpenClaim := { program := "ytiefdblogdomhaa", sum := "044064420f099b31180284a12c8cc86c4822fb2ebad71932d7f1080ef84d326b", func := "loop.example/g01283/laws.FnExactDoubleMoments", spec := "fnExactDoubleMoments", unfollowed := true, recurses := true, apart := false }
def FnExactDoubleMomentsSaid : Prop := fnExactDoubleMomentsRow.holds Try.pinned (OpenSpec.ofChange fnExactDoubleMomentsSpec)

/-- ITS FALSE NEIGHBOUR: 'it returns false'. Refute it at one input. -/
def fnExactDoubleMomentsWrong : ChangeSpec := { name := "fnExactDoubleMoments", fn := fun _ => fun
  | [d] => { results := [.lit (.bool false)], args := [d] }
  | _ => none }
def FnExactDoubleMomentsWrongFalsely : Prop := fnExactDoubleMomentsRow.holds Try.pinned (OpenSpec.ofChange fnExactDoubleMomentsWrong)

/-- 'laws.FnExactPairLists': WHATEVER THE INPUT: true; the input reads as it did. -/
def fnExactPairListsSpec : ChangeSpec := { name := "fnExactPairLists", fn := fun _ => fun
  | [d1, d2, d3] => { results := [.lit (.bool true)], args := [d1, d2, d3] }
  | _ => none }
def fnExactPairListsRow : OpenClaim := { program := "ytiefdblogdomhaa", sum := "044064420f099b31180284a12c8cc86c4822fb2ebad71932d7f1080ef84d326b", func := "loop.example/g01283/laws.FnExactPairLists", spec := "fnExactPairLists", unfollowed := true, recurses := true, apart := false }
def FnExactPairListsSaid : Prop := fnExactPairListsRow.holds Try.pinned (OpenSpec.ofChange fnExactPairListsSpec)

/-- ITS FALSE NEIGHBOUR: 'it returns false'. Refute it at one input. -/
def fnExactPairListsWrong : ChangeSpec := { name := "fnExactPairLists", fn := fun _ => fun
  | [d1, d2, d3] => { results := [.lit (.bool false)], args := [d1, d2, d3] }
  | _ => none }
def FnExactPairListsWrongFalsely : Prop := fnExactPairListsRow.holds Try.pinned (OpenSpec.ofChange fnExactPairListsWrong)

/-- 'laws.FnExactHalveJacobi': WHATEVER THE INPUT: true; the input reads as it did. -/
def fnExactHalveJacobiSpec : ChangeSpec := { name := "fnExactHalveJacobi", fn := fun _ => fun
  | [d] => { results := [.lit (.bool true)], args := [d] }
  | _ => none }
def fnExactHalveJacobiRow : OpenClaim := { program := "ytiefdblogdomhaa", sum := "044064420f099b31180284a12c8cc86c4822fb2ebad71932d7f1080ef84d326b", func := "loop.example/g01283/laws.FnExactHalveJacobi", spec := "fnExactHalveJacobi", unfollowed := true, recurses := true, apart := false }
def FnExactHalveJacobiSaid : Prop := fnExactHalveJacobiRow.holds Try.pinned (OpenSpec.ofChange fnExactHalveJacobiSpec)

/-- ITS FALSE NEIGHBOUR: 'it returns false'. Refute it at one input. -/
def fnExactHalveJacobiWrong : ChangeSpec := { name := "fnExactHalveJacobi", fn := fun _ => fun
  | [d] => { results := [.lit (.bool false)], args := [d] }
  | _ => none }
def FnExactHalveJacobiWrongFalsely : Prop := fnExactHalveJacobiRow.holds Try.pinned (OpenSpec.ofChange fnExactHalveJacobiWrong)

/-- 'laws.FnExactHalveMoments': WHATEVER THE INPUT: true; the input reads as it did. -/
def fnExactHalveMomentsSpec : ChangeSpec := { name := "fnExactHalveMoments", fn := fun _ => fun
  | [d] => { results := [.lit (.bool true)], args := [d] }
  | _ => none }
def fnExactHalveMomentsRow : OpenClaim := { program := "ytiefdblogdomhaa", sum := "044064420f099b31180284a12c8cc86c4822fb2ebad71932d7f1080ef84d326b", func := "loop.example/g01283/laws.FnExactHalveMoments", spec := "fnExactHalveMoments", unfollowed := true, recurses := true, apart := false }
def FnExactHalveMomentsSaid : Prop := fnExactHalveMomentsRow.holds Try.pinned (OpenSpec.ofChange fnExactHalveMomentsSpec)

/-- ITS FALSE NEIGHBOUR: 'it returns false'. Refute it at one input. -/
def fnExactHalveMomentsWrong : ChangeSpec := { name := "fnExactHalveMoments", fn := fun _ => fun
  | [d] => { results := [.lit (.bool false)], args := [d] }
  | _ => none }
def FnExactHalveMomentsWrongFalsely : Prop := fnExactHalveMomentsRow.holds Try.pinned (OpenSpec.ofChange fnExactHalveMomentsWrong)

/-- 'laws.FnExactPathSum': WHATEVER THE INPUT: true; the input reads as it did. -/
def fnExactPathSumSpec : ChangeSpec := { name := "fnExactPathSum", fn := fun _ => fun
  | [d1, d2, d3, d4] => { results := [.lit (.bool true)], args := [d1, d2, d3, d4] }
  | _ => none }
def fnExactPathSumRow : OpenClaim := { program := "ytiefdblogdomhaa", sum := "044064420f099b31180284a12c8cc86c4822fb2ebad71932d7f1080ef84d326b", func := "loop.example/g01283/laws.FnExactPathSum", spec := "fnExactPathSum", unfollowed := true, recurses := true, apart := false }
def FnExactPathSumSaid : Prop := fnExactPathSumRow.holds Try.pinned (OpenSpec.ofChange fnExactPathSumSpec)

/-- ITS FALSE NEIGHBOUR: 'it returns false'. Refute it at one input. -/
def fnExactPathSumWrong : ChangeSpec := { name := "fnExactPathSum", fn := fun _ => fun
  | [d1, d2, d3, d4] => { results := [.lit (.bool false)], args := [d1, d2, d3, d4] }
  | _ => none }
def FnExactPathSumWrongFalsely : Prop := fnExactPathSumRow.holds Try.pinned (OpenSpec.ofChange fnExactPathSumWrong)

/-- 'laws.FnExactDivideMoments': WHATEVER THE INPUT: true; the input reads as it did. -/
def fnExactDivideMomentsSpec : ChangeSpec := { name := "fnExactDivideMoments", fn := fun _ => fun
  | [d1, d2, d3] => { results := [.lit (.bool true)], args := [d1, d2, d3] }
  | _ => none }
def fnExactDivideMomentsRow : OpenClaim := { program := "ytiefdblogdomhaa", sum := "044064420f099b31180284a12c8cc86c4822fb2ebad71932d7f1080ef84d326b", func := "loop.example/g01283/laws.FnExactDivideMoments", spec := "fnExactDivideMoments", unfollowed := true, recurses := true, apart := false }
def FnExactDivideMomentsSaid : Prop := fnExactDivideMomentsRow.holds Try.pinned (OpenSpec.ofChange fnExactDivideMomentsSpec)

/-- ITS FALSE NEIGHBOUR: 'it returns false'. Refute it at one input. -/
def fnExactDivideMomentsWrong : ChangeSpec := { name := "fnExactDivideMoments", fn := fun _ => fun
  | [d1, d2, d3] => { results := [.lit (.bool false)], args := [d1, d2, d3] }
  | _ => none }
def FnExactDivideMomentsWrongFalsely : Prop := fnExactDivideMomentsRow.holds Try.pinned (OpenSpec.ofChange fnExactDivideMomentsWrong)

/-- 'laws.FnExactScaleJacobi': WHATEVER THE INPUT: true; the input reads as it did. -/
def fnExactScaleJacobiSpec : ChangeSpec := { name := "fnExactScaleJacobi", fn := fun _ => fun
  | [d1, d2] => { results := [.lit (.bool true)], args := [d1, d2] }
  | _ => none }
def fnExactScaleJacobiRow : OpenClaim := { program := "ytiefdblogdomhaa", sum := "044064420f099b31180284a12c8cc86c4822fb2ebad71932d7f1080ef84d326b", func := "loop.example/g01283/laws.FnExactScaleJacobi", spec := "fnExactScaleJacobi", unfollowed := true, recurses := true, apart := false }
def FnExactScaleJacobiSaid : Prop := fnExactScaleJacobiRow.holds Try.pinned (OpenSpec.ofChange fnExactScaleJacobiSpec)

/-- ITS FALSE NEIGHBOUR: 'it returns false'. Refute it at one input. -/
def fnExactScaleJacobiWrong : ChangeSpec := { name := "fnExactScaleJacobi", fn := fun _ => fun
  | [d1, d2] => { results := [.lit (.bool false)], args := [d1, d2] }
  | _ => none }
def FnExactScaleJacobiWrongFalsely : Prop := fnExactScaleJacobiRow.holds Try.pinned (OpenSpec.ofChange fnExactScaleJacobiWrong)

/-- 'laws.FnExactAddMass': WHATEVER THE INPUT: true; the input reads as it did. -/
def fnExactAddMassSpec : ChangeSpec := { name := "fnExactAddMass", fn := fun _ => fun
  | [d1, d2, d3] => { results := [.lit (.bool true)], args := [d1, d2, d3] }
  | _ => none }
def fnExactAddMassRow : OpenClaim := { program := "ytiefdblogdomhaa", sum := "044064420f099b31180284a12c8cc86c4822fb2ebad71932d7f1080ef84d326b", func := "loop.example/g01283/laws.FnExactAddMass", spec := "fnExactAddMass", unfollowed := true, recurses := true, apart := false }
def FnExactAddMassSaid : Prop := fnExactAddMassRow.holds Try.pinned (OpenSpec.ofChange fnExactAddMassSpec)

/-- ITS FALSE NEIGHBOUR: 'it returns false'. Refute it at one input. -/
def fnExactAddMassWrong : ChangeSpec := { name := "fnExactAddMass", fn := fun _ => fun
  | [d1, d2, d3] => { results := [.lit (.bool false)], args := [d1, d2, d3] }
  | _ => none }
def FnExactAddMassWrongFalsely : Prop := fnExactAddMassRow.holds Try.pinned (OpenSpec.ofChange fnExactAddMassWrong)

/-- 'laws.FnExactIsDesk': WHATEVER THE INPUT: true; the input reads as it did. -/
def fnExactIsDeskSpec : ChangeSpec := { name := "fnExactIsDesk", fn := fun _ => fun
  | [d] => { results := [.lit (.bool true)], args := [d] }
  | _ => none }
def fnExactIsDeskRow : OpenClaim := { program := "ytiefdblogdomhaa", sum := "044064420f099b31180284a12c8cc86c4822fb2ebad71932d7f1080ef84d326b", func := "loop.example/g01283/laws.FnExactIsDesk", spec := "fnExactIsDesk", unfollowed := true, recurses := true, apart := false }
def FnExactIsDeskSaid : Prop := fnExactIsDeskRow.holds Try.pinned (OpenSpec.ofChange fnExactIsDeskSpec)

/-- ITS FALSE NEIGHBOUR: 'it returns false'. Refute it at one input. -/
def fnExactIsDeskWrong : ChangeSpec := { name := "fnExactIsDesk", fn := fun _ => fun
  | [d] => { results := [.lit (.bool false)], args := [d] }
  | _ => none }
def FnExactIsDeskWrongFalsely : Prop := fnExactIsDeskRow.holds Try.pinned (OpenSpec.ofChange fnExactIsDeskWrong)

/- THE SECOND FORM. 'bulk': how many values and letters a reading holds, each counted each time it is reached (what is shared counts as often as it is met; a slice's spare places count too). A statement '..UptoSaid' is the law's where the arguments, and the package variables that the reading takes, are together of bulk at most 1048576: NARROWER than '..Said'. Prove '..Said' where nothing that the law and all that it calls make is longer than what came in: it says more and counts as full. Else prove '..UptoSaid'. A law counts once. -/
mutual
def uptoBulk {H : Type} : DataW H → Nat
  | .lit (.string bytes) => bytes.length + 1
  | .lit _ => 1
  | .nil => 1
  | .ptr d => uptoBulk d + 1
  | .slice elems spare => uptoBulkAll elems + uptoBulkAll spare + 1
  | .agg parts => uptoBulkAll parts + 1
  | .iface _ d => uptoBulk d + 1
  | .map entries => uptoBulkEntries entries + 1
  | .held _ => 1
def uptoBulkAll {H : Type} : List (DataW H) → Nat
  | [] => 0
  | d :: r => uptoBulk d + uptoBulkAll r
def uptoBulkEntries {H : Type} : List (Lit × DataW H) → Nat
  | [] => 0
  | x :: r => uptoBulkEntry x + uptoBulkEntries r
def uptoBulkEntry {H : Type} : Lit × DataW H → Nat
  | (.string bytes, d) => bytes.length + uptoBulk d + 1
  | (_, d) => uptoBulk d + 1
 end
def uptoSmall : (H : Type) → List (DataW H) → Bool := fun _ ds => decide (uptoBulkAll ds ≤ 1048576)
def OpenSpec.upto (s : _root_.Go.ChangeSpec) : _root_.Go.OpenSpec := { _root_.Go.OpenSpec.ofChange s with cond := some uptoSmall }

/-- 'laws.FnExactPathsOf', WHERE WHAT IT READS IS OF BULK AT MOST 1048576: true; the input reads as it did. -/
def fnExactPathsOfUptoRow : OpenClaim := { program := "ytiefdblogdomhaa", sum := "044064420f099b31180284a12c8cc86c4822fb2ebad71932d7f1080ef84d326b", func := "loop.example/g01283/laws.FnExactPathsOf", spec := "fnExactPathsOf", unfollowed := true, recurses := true, apart := false, narrowed := true }
def FnExactPathsOfUptoSaid : Prop := fnExactPathsOfUptoRow.holds Try.pinned (OpenSpec.upto fnExactPathsOfSpec)

/-- 'laws.FnExactSquaredNorms', WHERE WHAT IT READS IS OF BULK AT MOST 1048576: true; the input reads as it did. -/
def fnExactSquaredNormsUptoRow : OpenClaim := { program := "ytiefdblogdomhaa", sum := "044064420f099b31180284a12c8cc86c4822fb2ebad71932d7f1080ef84d326b", func := "loop.example/g01283/laws.FnExactSquaredNorms", spec := "fnExactSquaredNorms", unfollowed := true, recurses := true, apart := false, narrowed := true }
def FnExactSquaredNormsUptoSaid : Prop := fnExactSquaredNormsUptoRow.holds Try.pinned (OpenSpec.upto fnExactSquaredNormsSpec)

/-- 'laws.FnExactDoubleMoments', WHERE WHAT IT READS IS OF BULK AT MOST 1048576: true; the input reads as it did. -/
def fnExactDoubleMomentsUptoRow : OpenClaim := { program := "ytiefdblogdomhaa", sum := "044064420f099b31180284a12c8cc86c4822fb2ebad71932d7f1080ef84d326b", func := "loop.example/g01283/laws.FnExactDoubleMoments", spec := "fnExactDoubleMoments", unfollowed := true, recurses := true, apart := false, narrowed := true }
def FnExactDoubleMomentsUptoSaid : Prop := fnExactDoubleMomentsUptoRow.holds Try.pinned (OpenSpec.upto fnExactDoubleMomentsSpec)

/-- 'laws.FnExactPairLists', WHERE WHAT IT READS IS OF BULK AT MOST 1048576: true; the input reads as it did. -/
def fnExactPairListsUptoRow : OpenClaim := { program := "ytiefdblogdomhaa", sum := "044064420f099b31180284a12c8cc86c4822fb2ebad71932d7f1080ef84d326b", func := "loop.example/g01283/laws.FnExactPairLists", spec := "fnExactPairLists", unfollowed := true, recurses := true, apart := false, narrowed := true }
def FnExactPairListsUptoSaid : Prop := fnExactPairListsUptoRow.holds Try.pinned (OpenSpec.upto fnExactPairListsSpec)

/-- 'laws.FnExactHalveJacobi', WHERE WHAT IT READS IS OF BULK AT MOST 1048576: true; the input reads as it did. -/
def fnExactHalveJacobiUptoRow : OpenClaim := { program := "ytiefdblogdomhaa", sum := "044064420f099b31180284a12c8cc86c4822fb2ebad71932d7f1080ef84d326b", func := "loop.example/g01283/laws.FnExactHalveJacobi", spec := "fnExactHalveJacobi", unfollowed := true, recurses := true, apart := false, narrowed := true }
def FnExactHalveJacobiUptoSaid : Prop := fnExactHalveJacobiUptoRow.holds Try.pinned (OpenSpec.upto fnExactHalveJacobiSpec)

/-- 'laws.FnExactHalveMoments', WHERE WHAT IT READS IS OF BULK AT MOST 1048576: true; the input reads as it did. -/
def fnExactHalveMomentsUptoRow : OpenClaim := { program := "ytiefdblogdomhaa", sum := "044064420f099b31180284a12c8cc86c4822fb2ebad71932d7f1080ef84d326b", func := "loop.example/g01283/laws.FnExactHalveMoments", spec := "fnExactHalveMoments", unfollowed := true, recurses := true, apart := false, narrowed := true }
def FnExactHalveMomentsUptoSaid : Prop := fnExactHalveMomentsUptoRow.holds Try.pinned (OpenSpec.upto fnExactHalveMomentsSpec)

/-- 'laws.FnExactPathSum', WHERE WHAT IT READS IS OF BULK AT MOST 1048576: true; the input reads as it did. -/
def fnExactPathSumUptoRow : OpenClaim := { program := "ytiefdblogdomhaa", sum := "044064420f099b31180284a12c8cc86c4822fb2ebad71932d7f1080ef84d326b", func := "loop.example/g01283/laws.FnExactPathSum", spec := "fnExactPathSum", unfollowed := true, recurses := true, apart := false, narrowed := true }
def FnExactPathSumUptoSaid : Prop := fnExactPathSumUptoRow.holds Try.pinned (OpenSpec.upto fnExactPathSumSpec)

/-- 'laws.FnExactDivideMoments', WHERE WHAT IT READS IS OF BULK AT MOST 1048576: true; the input reads as it did. -/
def fnExactDivideMomentsUptoRow : OpenClaim := { program := "ytiefdblogdomhaa", sum := "044064420f099b31180284a12c8cc86c4822fb2ebad71932d7f1080ef84d326b", func := "loop.example/g01283/laws.FnExactDivideMoments", spec := "fnExactDivideMoments", unfollowed := true, recurses := true, apart := false, narrowed := true }
def FnExactDivideMomentsUptoSaid : Prop := fnExactDivideMomentsUptoRow.holds Try.pinned (OpenSpec.upto fnExactDivideMomentsSpec)

/-- 'laws.FnExactScaleJacobi', WHERE WHAT IT READS IS OF BULK AT MOST 1048576: true; the input reads as it did. -/
def fnExactScaleJacobiUptoRow : OpenClaim := { program := "ytiefdblogdomhaa", sum := "044064420f099b31180284a12c8cc86c4822fb2ebad71932d7f1080ef84d326b", func := "loop.example/g01283/laws.FnExactScaleJacobi", spec := "fnExactScaleJacobi", unfollowed := true, recurses := true, apart := false, narrowed := true }
def FnExactScaleJacobiUptoSaid : Prop := fnExactScaleJacobiUptoRow.holds Try.pinned (OpenSpec.upto fnExactScaleJacobiSpec)

/-- 'laws.FnExactAddMass', WHERE WHAT IT READS IS OF BULK AT MOST 1048576: true; the input reads as it did. -/
def fnExactAddMassUptoRow : OpenClaim := { program := "ytiefdblogdomhaa", sum := "044064420f099b31180284a12c8cc86c4822fb2ebad71932d7f1080ef84d326b", func := "loop.example/g01283/laws.FnExactAddMass", spec := "fnExactAddMass", unfollowed := true, recurses := true, apart := false, narrowed := true }
def FnExactAddMassUptoSaid : Prop := fnExactAddMassUptoRow.holds Try.pinned (OpenSpec.upto fnExactAddMassSpec)

/-- 'laws.FnExactIsDesk', WHERE WHAT IT READS IS OF BULK AT MOST 1048576: true; the input reads as it did. -/
def fnExactIsDeskUptoRow : OpenClaim := { program := "ytiefdblogdomhaa", sum := "044064420f099b31180284a12c8cc86c4822fb2ebad71932d7f1080ef84d326b", func := "loop.example/g01283/laws.FnExactIsDesk", spec := "fnExactIsDesk", unfollowed := true, recurses := true, apart := false, narrowed := true }
def FnExactIsDeskUptoSaid : Prop := fnExactIsDeskUptoRow.holds Try.pinned (OpenSpec.upto fnExactIsDeskSpec)

end Rows
end Go.Proofs.Ytiefdblogdomhaa
