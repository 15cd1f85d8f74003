/-
  No cell of these rows narrows 'for every input' (looked for: loops, veiled, ifaces, maps, wideKeys, modest, calm, conditions, laid).
  DERIVED. THE GIVEN ROWS OF THIS SEAT. 12 by the template 'for every input the law returns true; each argument reads behind the call as it read before'; 0 by the template 'total and deterministic' (their statements: YtmohdnofboaocaaTotals.lean).
  GIVEN WITH THE SEED: the statements are not yours to turn. If you find one false, say at which input.
  Laid BY PROGRAM, IN A SANDBOX (cutbox-rows.mjs): the forced cells as the released guide's own fill.sh prints them over the translation a2bdb2ad390f5f37… (all of the seat's roots in one cut). By AI agents, Wed Nov 11 2026. No macro, syntax, notation, axiom, sorry.
-/
import Derived.Test.YtmohdnofboaocaaChecked
import GoSem.Claim
import GoSem.ClaimJoined
import GoSem.ClaimMapViews
import Derived.JoinedTies
import Derived.KernelRfl
namespace Go.Proofs.Ytmohdnofboaocaa
/- THE CELL 'sum', in the pinned program and in every row, IS THE sha256 OF THE DUMP (.gsa) THAT YtmohdnofboaocaaProg.lean LOADS. Nothing in Lean hashes anything: it is a label: what it is worth is what the hold of that sum in a sandbox is worth. -/
noncomputable def Try.pinned : Pinned := { name := "ytmohdnofboaocaa", sum := "a2bdb2ad390f5f37640e6ce62ec8abd7768785bdcff841b571b2424d10aee762", checked := Try.checked }
namespace Rows
def none {H : Type} : Left H := { results := [], args := [] }

/-- 'laws.FnExactNamedJacobi': WHATEVER THE INPUT: true; the input reads as it did. -/
def fnExactNamedJacobiSpec : ChangeSpec := { name := "fnExactNamedJacobi", fn := fun _ => fun
  | [d1, d2, d3] => { results := [.lit (.bool true)], args := [d1, d2, d3] }
  | _ => none }
def fnExactNamedJacobiRow : OpenClaim := { program := "ytmohdnofboaocaa", sum := "a2bdb2ad390f5f37640e6ce62ec8abd7768785bdcff841b571b2424d10aee762", func := "loop.example/g01283/laws.FnExactNamedJacobi", spec := "fnExactNamedJacobi", apart := false }
def FnExactNamedJacobiSaid : Prop := fnExactNamedJacobiRow.holds Try.pinned (OpenSpec.ofChange fnExactNamedJacobiSpec)

/-- ITS FALSE NEIGHBOUR: 'it returns false'. Refute it at one input. -/
def fnExactNamedJacobiWrong : ChangeSpec := { name := "fnExactNamedJacobi", fn := fun _ => fun
  | [d1, d2, d3] => { results := [.lit (.bool false)], args := [d1, d2, d3] }
  | _ => none }
def FnExactNamedJacobiWrongFalsely : Prop := fnExactNamedJacobiRow.holds Try.pinned (OpenSpec.ofChange fnExactNamedJacobiWrong)

/-- 'laws.FnExactMultiplyMoments': WHATEVER THE INPUT: true; the input reads as it did. -/
def fnExactMultiplyMomentsSpec : ChangeSpec := { name := "fnExactMultiplyMoments", fn := fun _ => fun
  | [d1, d2] => { results := [.lit (.bool true)], args := [d1, d2] }
  | _ => none }
def fnExactMultiplyMomentsRow : OpenClaim := { program := "ytmohdnofboaocaa", sum := "a2bdb2ad390f5f37640e6ce62ec8abd7768785bdcff841b571b2424d10aee762", func := "loop.example/g01283/laws.FnExactMultiplyMoments", spec := "fnExactMultiplyMoments", unfollowed := true, recurses := true, apart := false }
def FnExactMultiplyMomentsSaid : Prop := fnExactMultiplyMomentsRow.holds Try.pinned (OpenSpec.ofChange fnExactMultiplyMomentsSpec)

/-- ITS FALSE NEIGHBOUR: 'it returns false'. Refute it at one input. -/
def fnExactMultiplyMomentsWrong : ChangeSpec := { name := "fnExactMultiplyMoments", fn := fun _ => fun
  | [d1, d2] => { results := [.lit (.bool false)], args := [d1, d2] }
  | _ => none }
def FnExactMultiplyMomentsWrongFalsely : Prop := fnExactMultiplyMomentsRow.holds Try.pinned (OpenSpec.ofChange fnExactMultiplyMomentsWrong)

/-- 'laws.FnExactTimesX': WHATEVER THE INPUT: true; the input reads as it did. -/
def fnExactTimesXSpec : ChangeSpec := { name := "fnExactTimesX", fn := fun _ => fun
  | [d1, d2] => { results := [.lit (.bool true)], args := [d1, d2] }
  | _ => none }
def fnExactTimesXRow : OpenClaim := { program := "ytmohdnofboaocaa", sum := "a2bdb2ad390f5f37640e6ce62ec8abd7768785bdcff841b571b2424d10aee762", func := "loop.example/g01283/laws.FnExactTimesX", spec := "fnExactTimesX", unfollowed := true, recurses := true, apart := false }
def FnExactTimesXSaid : Prop := fnExactTimesXRow.holds Try.pinned (OpenSpec.ofChange fnExactTimesXSpec)

/-- ITS FALSE NEIGHBOUR: 'it returns false'. Refute it at one input. -/
def fnExactTimesXWrong : ChangeSpec := { name := "fnExactTimesX", fn := fun _ => fun
  | [d1, d2] => { results := [.lit (.bool false)], args := [d1, d2] }
  | _ => none }
def FnExactTimesXWrongFalsely : Prop := fnExactTimesXRow.holds Try.pinned (OpenSpec.ofChange fnExactTimesXWrong)

/-- 'laws.FnExactNamedMoments': WHATEVER THE INPUT: true; the input reads as it did. -/
def fnExactNamedMomentsSpec : ChangeSpec := { name := "fnExactNamedMoments", fn := fun _ => fun
  | [d1, d2, d3] => { results := [.lit (.bool true)], args := [d1, d2, d3] }
  | _ => none }
def fnExactNamedMomentsRow : OpenClaim := { program := "ytmohdnofboaocaa", sum := "a2bdb2ad390f5f37640e6ce62ec8abd7768785bdcff841b571b2424d10aee762", func := "loop.example/g01283/laws.FnExactNamedMoments", spec := "fnExactNamedMoments", apart := false }
def FnExactNamedMomentsSaid : Prop := fnExactNamedMomentsRow.holds Try.pinned (OpenSpec.ofChange fnExactNamedMomentsSpec)

/-- ITS FALSE NEIGHBOUR: 'it returns false'. Refute it at one input. -/
def fnExactNamedMomentsWrong : ChangeSpec := { name := "fnExactNamedMoments", fn := fun _ => fun
  | [d1, d2, d3] => { results := [.lit (.bool false)], args := [d1, d2, d3] }
  | _ => none }
def FnExactNamedMomentsWrongFalsely : Prop := fnExactNamedMomentsRow.holds Try.pinned (OpenSpec.ofChange fnExactNamedMomentsWrong)

/-- 'laws.FnExactWeightOfPath': WHATEVER THE INPUT: true; the input reads as it did. -/
def fnExactWeightOfPathSpec : ChangeSpec := { name := "fnExactWeightOfPath", fn := fun _ => fun
  | [d1, d2, d3] => { results := [.lit (.bool true)], args := [d1, d2, d3] }
  | _ => none }
def fnExactWeightOfPathRow : OpenClaim := { program := "ytmohdnofboaocaa", sum := "a2bdb2ad390f5f37640e6ce62ec8abd7768785bdcff841b571b2424d10aee762", func := "loop.example/g01283/laws.FnExactWeightOfPath", spec := "fnExactWeightOfPath", unfollowed := true, recurses := true, apart := false }
def FnExactWeightOfPathSaid : Prop := fnExactWeightOfPathRow.holds Try.pinned (OpenSpec.ofChange fnExactWeightOfPathSpec)

/-- ITS FALSE NEIGHBOUR: 'it returns false'. Refute it at one input. -/
def fnExactWeightOfPathWrong : ChangeSpec := { name := "fnExactWeightOfPath", fn := fun _ => fun
  | [d1, d2, d3] => { results := [.lit (.bool false)], args := [d1, d2, d3] }
  | _ => none }
def FnExactWeightOfPathWrongFalsely : Prop := fnExactWeightOfPathRow.holds Try.pinned (OpenSpec.ofChange fnExactWeightOfPathWrong)

/-- 'laws.FnExactTurningSums': WHATEVER THE INPUT: true; the input reads as it did. -/
def fnExactTurningSumsSpec : ChangeSpec := { name := "fnExactTurningSums", fn := fun _ => fun
  | [d1, d2] => { results := [.lit (.bool true)], args := [d1, d2] }
  | _ => none }
def fnExactTurningSumsRow : OpenClaim := { program := "ytmohdnofboaocaa", sum := "a2bdb2ad390f5f37640e6ce62ec8abd7768785bdcff841b571b2424d10aee762", func := "loop.example/g01283/laws.FnExactTurningSums", spec := "fnExactTurningSums", unfollowed := true, recurses := true, apart := false }
def FnExactTurningSumsSaid : Prop := fnExactTurningSumsRow.holds Try.pinned (OpenSpec.ofChange fnExactTurningSumsSpec)

/-- ITS FALSE NEIGHBOUR: 'it returns false'. Refute it at one input. -/
def fnExactTurningSumsWrong : ChangeSpec := { name := "fnExactTurningSums", fn := fun _ => fun
  | [d1, d2] => { results := [.lit (.bool false)], args := [d1, d2] }
  | _ => none }
def FnExactTurningSumsWrongFalsely : Prop := fnExactTurningSumsRow.holds Try.pinned (OpenSpec.ofChange fnExactTurningSumsWrong)

/-- 'laws.FnExactMomentsOfJacobi': WHATEVER THE INPUT: true; the input reads as it did. -/
def fnExactMomentsOfJacobiSpec : ChangeSpec := { name := "fnExactMomentsOfJacobi", fn := fun _ => fun
  | [d1, d2] => { results := [.lit (.bool true)], args := [d1, d2] }
  | _ => none }
def fnExactMomentsOfJacobiRow : OpenClaim := { program := "ytmohdnofboaocaa", sum := "a2bdb2ad390f5f37640e6ce62ec8abd7768785bdcff841b571b2424d10aee762", func := "loop.example/g01283/laws.FnExactMomentsOfJacobi", spec := "fnExactMomentsOfJacobi", unfollowed := true, recurses := true, apart := false }
def FnExactMomentsOfJacobiSaid : Prop := fnExactMomentsOfJacobiRow.holds Try.pinned (OpenSpec.ofChange fnExactMomentsOfJacobiSpec)

/-- ITS FALSE NEIGHBOUR: 'it returns false'. Refute it at one input. -/
def fnExactMomentsOfJacobiWrong : ChangeSpec := { name := "fnExactMomentsOfJacobi", fn := fun _ => fun
  | [d1, d2] => { results := [.lit (.bool false)], args := [d1, d2] }
  | _ => none }
def FnExactMomentsOfJacobiWrongFalsely : Prop := fnExactMomentsOfJacobiRow.holds Try.pinned (OpenSpec.ofChange fnExactMomentsOfJacobiWrong)

/-- 'laws.FnExactStepBack': WHATEVER THE INPUT: true; the input reads as it did. -/
def fnExactStepBackSpec : ChangeSpec := { name := "fnExactStepBack", fn := fun _ => fun
  | [d1, d2, d3] => { results := [.lit (.bool true)], args := [d1, d2, d3] }
  | _ => none }
def fnExactStepBackRow : OpenClaim := { program := "ytmohdnofboaocaa", sum := "a2bdb2ad390f5f37640e6ce62ec8abd7768785bdcff841b571b2424d10aee762", func := "loop.example/g01283/laws.FnExactStepBack", spec := "fnExactStepBack", unfollowed := true, recurses := true, apart := false }
def FnExactStepBackSaid : Prop := fnExactStepBackRow.holds Try.pinned (OpenSpec.ofChange fnExactStepBackSpec)

/-- ITS FALSE NEIGHBOUR: 'it returns false'. Refute it at one input. -/
def fnExactStepBackWrong : ChangeSpec := { name := "fnExactStepBack", fn := fun _ => fun
  | [d1, d2, d3] => { results := [.lit (.bool false)], args := [d1, d2, d3] }
  | _ => none }
def FnExactStepBackWrongFalsely : Prop := fnExactStepBackRow.holds Try.pinned (OpenSpec.ofChange fnExactStepBackWrong)

/-- 'laws.FnExactPathTriangle': WHATEVER THE INPUT: true; the input reads as it did. -/
def fnExactPathTriangleSpec : ChangeSpec := { name := "fnExactPathTriangle", fn := fun _ => fun
  | [d] => { results := [.lit (.bool true)], args := [d] }
  | _ => none }
def fnExactPathTriangleRow : OpenClaim := { program := "ytmohdnofboaocaa", sum := "a2bdb2ad390f5f37640e6ce62ec8abd7768785bdcff841b571b2424d10aee762", func := "loop.example/g01283/laws.FnExactPathTriangle", spec := "fnExactPathTriangle", unfollowed := true, recurses := true, apart := false }
def FnExactPathTriangleSaid : Prop := fnExactPathTriangleRow.holds Try.pinned (OpenSpec.ofChange fnExactPathTriangleSpec)

/-- ITS FALSE NEIGHBOUR: 'it returns false'. Refute it at one input. -/
def fnExactPathTriangleWrong : ChangeSpec := { name := "fnExactPathTriangle", fn := fun _ => fun
  | [d] => { results := [.lit (.bool false)], args := [d] }
  | _ => none }
def FnExactPathTriangleWrongFalsely : Prop := fnExactPathTriangleRow.holds Try.pinned (OpenSpec.ofChange fnExactPathTriangleWrong)

/-- 'laws.FnExactStepOfJacobi': WHATEVER THE INPUT: true; the input reads as it did. -/
def fnExactStepOfJacobiSpec : ChangeSpec := { name := "fnExactStepOfJacobi", fn := fun _ => fun
  | [d1, d2] => { results := [.lit (.bool true)], args := [d1, d2] }
  | _ => none }
def fnExactStepOfJacobiRow : OpenClaim := { program := "ytmohdnofboaocaa", sum := "a2bdb2ad390f5f37640e6ce62ec8abd7768785bdcff841b571b2424d10aee762", func := "loop.example/g01283/laws.FnExactStepOfJacobi", spec := "fnExactStepOfJacobi", unfollowed := true, recurses := true, apart := false }
def FnExactStepOfJacobiSaid : Prop := fnExactStepOfJacobiRow.holds Try.pinned (OpenSpec.ofChange fnExactStepOfJacobiSpec)

/-- ITS FALSE NEIGHBOUR: 'it returns false'. Refute it at one input. -/
def fnExactStepOfJacobiWrong : ChangeSpec := { name := "fnExactStepOfJacobi", fn := fun _ => fun
  | [d1, d2] => { results := [.lit (.bool false)], args := [d1, d2] }
  | _ => none }
def FnExactStepOfJacobiWrongFalsely : Prop := fnExactStepOfJacobiRow.holds Try.pinned (OpenSpec.ofChange fnExactStepOfJacobiWrong)

/-- 'laws.FnExactExpandBy': WHATEVER THE INPUT: true; the input reads as it did. -/
def fnExactExpandBySpec : ChangeSpec := { name := "fnExactExpandBy", fn := fun _ => fun
  | [d1, d2] => { results := [.lit (.bool true)], args := [d1, d2] }
  | _ => none }
def fnExactExpandByRow : OpenClaim := { program := "ytmohdnofboaocaa", sum := "a2bdb2ad390f5f37640e6ce62ec8abd7768785bdcff841b571b2424d10aee762", func := "loop.example/g01283/laws.FnExactExpandBy", spec := "fnExactExpandBy", unfollowed := true, recurses := true, apart := false }
def FnExactExpandBySaid : Prop := fnExactExpandByRow.holds Try.pinned (OpenSpec.ofChange fnExactExpandBySpec)

/-- ITS FALSE NEIGHBOUR: 'it returns false'. Refute it at one input. -/
def fnExactExpandByWrong : ChangeSpec := { name := "fnExactExpandBy", fn := fun _ => fun
  | [d1, d2] => { results := [.lit (.bool false)], args := [d1, d2] }
  | _ => none }
def FnExactExpandByWrongFalsely : Prop := fnExactExpandByRow.holds Try.pinned (OpenSpec.ofChange fnExactExpandByWrong)

/-- 'laws.FnExactConnectJacobi': WHATEVER THE INPUT: true; the input reads as it did. -/
def fnExactConnectJacobiSpec : ChangeSpec := { name := "fnExactConnectJacobi", fn := fun _ => fun
  | [d1, d2, d3] => { results := [.lit (.bool true)], args := [d1, d2, d3] }
  | _ => none }
def fnExactConnectJacobiRow : OpenClaim := { program := "ytmohdnofboaocaa", sum := "a2bdb2ad390f5f37640e6ce62ec8abd7768785bdcff841b571b2424d10aee762", func := "loop.example/g01283/laws.FnExactConnectJacobi", spec := "fnExactConnectJacobi", unfollowed := true, recurses := true, apart := false }
def FnExactConnectJacobiSaid : Prop := fnExactConnectJacobiRow.holds Try.pinned (OpenSpec.ofChange fnExactConnectJacobiSpec)

/-- ITS FALSE NEIGHBOUR: 'it returns false'. Refute it at one input. -/
def fnExactConnectJacobiWrong : ChangeSpec := { name := "fnExactConnectJacobi", fn := fun _ => fun
  | [d1, d2, d3] => { results := [.lit (.bool false)], args := [d1, d2, d3] }
  | _ => none }
def FnExactConnectJacobiWrongFalsely : Prop := fnExactConnectJacobiRow.holds Try.pinned (OpenSpec.ofChange fnExactConnectJacobiWrong)

/- THE SECOND FORM. 'bulk': how many values and letters a reading holds, each counted each time it is reached (what is shared counts as often as it is met; a slice's spare places count too). A statement '..UptoSaid' is the law's where the arguments, and the package variables that the reading takes, are together of bulk at most 1048576: NARROWER than '..Said'. Prove '..Said' where nothing that the law and all that it calls make is longer than what came in: it says more and counts as full. Else prove '..UptoSaid'. A law counts once. -/
mutual
def uptoBulk {H : Type} : DataW H → Nat
  | .lit (.string bytes) => bytes.length + 1
  | .lit _ => 1
  | .nil => 1
  | .ptr d => uptoBulk d + 1
  | .slice elems spare => uptoBulkAll elems + uptoBulkAll spare + 1
  | .agg parts => uptoBulkAll parts + 1
  | .iface _ d => uptoBulk d + 1
  | .map entries => uptoBulkEntries entries + 1
  | .held _ => 1
def uptoBulkAll {H : Type} : List (DataW H) → Nat
  | [] => 0
  | d :: r => uptoBulk d + uptoBulkAll r
def uptoBulkEntries {H : Type} : List (Lit × DataW H) → Nat
  | [] => 0
  | x :: r => uptoBulkEntry x + uptoBulkEntries r
def uptoBulkEntry {H : Type} : Lit × DataW H → Nat
  | (.string bytes, d) => bytes.length + uptoBulk d + 1
  | (_, d) => uptoBulk d + 1
 end
def uptoSmall : (H : Type) → List (DataW H) → Bool := fun _ ds => decide (uptoBulkAll ds ≤ 1048576)
def OpenSpec.upto (s : _root_.Go.ChangeSpec) : _root_.Go.OpenSpec := { _root_.Go.OpenSpec.ofChange s with cond := some uptoSmall }

/-- 'laws.FnExactNamedJacobi', WHERE WHAT IT READS IS OF BULK AT MOST 1048576: true; the input reads as it did. -/
def fnExactNamedJacobiUptoRow : OpenClaim := { program := "ytmohdnofboaocaa", sum := "a2bdb2ad390f5f37640e6ce62ec8abd7768785bdcff841b571b2424d10aee762", func := "loop.example/g01283/laws.FnExactNamedJacobi", spec := "fnExactNamedJacobi", apart := false, narrowed := true }
def FnExactNamedJacobiUptoSaid : Prop := fnExactNamedJacobiUptoRow.holds Try.pinned (OpenSpec.upto fnExactNamedJacobiSpec)

/-- 'laws.FnExactMultiplyMoments', WHERE WHAT IT READS IS OF BULK AT MOST 1048576: true; the input reads as it did. -/
def fnExactMultiplyMomentsUptoRow : OpenClaim := { program := "ytmohdnofboaocaa", sum := "a2bdb2ad390f5f37640e6ce62ec8abd7768785bdcff841b571b2424d10aee762", func := "loop.example/g01283/laws.FnExactMultiplyMoments", spec := "fnExactMultiplyMoments", unfollowed := true, recurses := true, apart := false, narrowed := true }
def FnExactMultiplyMomentsUptoSaid : Prop := fnExactMultiplyMomentsUptoRow.holds Try.pinned (OpenSpec.upto fnExactMultiplyMomentsSpec)

/-- 'laws.FnExactTimesX', WHERE WHAT IT READS IS OF BULK AT MOST 1048576: true; the input reads as it did. -/
def fnExactTimesXUptoRow : OpenClaim := { program := "ytmohdnofboaocaa", sum := "a2bdb2ad390f5f37640e6ce62ec8abd7768785bdcff841b571b2424d10aee762", func := "loop.example/g01283/laws.FnExactTimesX", spec := "fnExactTimesX", unfollowed := true, recurses := true, apart := false, narrowed := true }
def FnExactTimesXUptoSaid : Prop := fnExactTimesXUptoRow.holds Try.pinned (OpenSpec.upto fnExactTimesXSpec)

/-- 'laws.FnExactNamedMoments', WHERE WHAT IT READS IS OF BULK AT MOST 1048576: true; the input reads as it did. -/
def fnExactNamedMomentsUptoRow : OpenClaim := { program := "ytmohdnofboaocaa", sum := "a2bdb2ad390f5f37640e6ce62ec8abd7768785bdcff841b571b2424d10aee762", func := "loop.example/g01283/laws.FnExactNamedMoments", spec := "fnExactNamedMoments", apart := false, narrowed := true }
def FnExactNamedMomentsUptoSaid : Prop := fnExactNamedMomentsUptoRow.holds Try.pinned (OpenSpec.upto fnExactNamedMomentsSpec)

/-- 'laws.FnExactWeightOfPath', WHERE WHAT IT READS IS OF BULK AT MOST 1048576: true; the input reads as it did. -/
def fnExactWeightOfPathUptoRow : OpenClaim := { program := "ytmohdnofboaocaa", sum := "a2bdb2ad390f5f37640e6ce62ec8abd7768785bdcff841b571b2424d10aee762", func := "loop.example/g01283/laws.FnExactWeightOfPath", spec := "fnExactWeightOfPath", unfollowed := true, recurses := true, apart := false, narrowed := true }
def FnExactWeightOfPathUptoSaid : Prop := fnExactWeightOfPathUptoRow.holds Try.pinned (OpenSpec.upto fnExactWeightOfPathSpec)

/-- 'laws.FnExactTurningSums', WHERE WHAT IT READS IS OF BULK AT MOST 1048576: true; the input reads as it did. -/
def fnExactTurningSumsUptoRow : OpenClaim := { program := "ytmohdnofboaocaa", sum := "a2bdb2ad390f5f37640e6ce62ec8abd7768785bdcff841b571b2424d10aee762", func := "loop.example/g01283/laws.FnExactTurningSums", spec := "fnExactTurningSums", unfollowed := true, recurses := true, apart := false, narrowed := true }
def FnExactTurningSumsUptoSaid : Prop := fnExactTurningSumsUptoRow.holds Try.pinned (OpenSpec.upto fnExactTurningSumsSpec)

/-- 'laws.FnExactMomentsOfJacobi', WHERE WHAT IT READS IS OF BULK AT MOST 1048576: true; the input reads as it did. -/
def fnExactMomentsOfJacobiUptoRow : OpenClaim := { program := "ytmohdnofboaocaa", sum := "a2bdb2ad390f5f37640e6ce62ec8abd7768785bdcff841b571b2424d10aee762", func := "loop.example/g01283/laws.FnExactMomentsOfJacobi", spec := "fnExactMomentsOfJacobi", unfollowed := true, recurses := true, apart := false, narrowed := true }
def FnExactMomentsOfJacobiUptoSaid : Prop := fnExactMomentsOfJacobiUptoRow.holds Try.pinned (OpenSpec.upto fnExactMomentsOfJacobiSpec)

/-- 'laws.FnExactStepBack', WHERE WHAT IT READS IS OF BULK AT MOST 1048576: true; the input reads as it did. -/
def fnExactStepBackUptoRow : OpenClaim := { program := "ytmohdnofboaocaa", sum := "a2bdb2ad390f5f37640e6ce62ec8abd7768785bdcff841b571b2424d10aee762", func := "loop.example/g01283/laws.FnExactStepBack", spec := "fnExactStepBack", unfollowed := true, recurses := true, apart := false, narrowed := true }
def FnExactStepBackUptoSaid : Prop := fnExactStepBackUptoRow.holds Try.pinned (OpenSpec.upto fnExactStepBackSpec)

/-- 'laws.FnExactPathTriangle', WHERE WHAT IT READS IS OF BULK AT MOST 1048576: true; the input reads as it did. -/
def fnExactPathTriangleUptoRow : OpenClaim := { program := "ytmohdnofboaocaa", sum := "a2bdb2ad390f5f37640e6ce62ec8abd7768785bdcff841b571b2424d10aee762", func := "loop.example/g01283/laws.FnExactPathTriangle", spec := "fnExactPathTriangle", unfollowed := true, recurses := true, apart := false, narrowed := true }
def FnExactPathTriangleUptoSaid : Prop := fnExactPathTriangleUptoRow.holds Try.pinned (OpenSpec.upto fnExactPathTriangleSpec)

/-- 'laws.FnExactStepOfJacobi', WHERE WHAT IT READS IS OF BULK AT MOST 1048576: true; the input reads as it did. -/
def fnExactStepOfJacobiUptoRow : OpenClaim := { program := "ytmohdnofboaocaa", sum := "a2bdb2ad390f5f37640e6ce62ec8abd7768785bdcff841b571b2424d10aee762", func := "loop.example/g01283/laws.FnExactStepOfJacobi", spec := "fnExactStepOfJacobi", unfollowed := true, recurses := true, apart := false, narrowed := true }
def FnExactStepOfJacobiUptoSaid : Prop := fnExactStepOfJacobiUptoRow.holds Try.pinned (OpenSpec.upto fnExactStepOfJacobiSpec)

/-- 'laws.FnExactExpandBy', WHERE WHAT IT READS IS OF BULK AT MOST 1048576: true; the input reads as it did. -/
def fnExactExpandByUptoRow : OpenClaim := { program := "ytmohdnofboaocaa", sum := "a2bdb2ad390f5f37640e6ce62ec8abd7768785bdcff841b571b2424d10aee762", func := "loop.example/g01283/laws.FnExactExpandBy", spec := "fnExactExpandBy", unfollowed := true, recurses := true, apart := false, narrowed := true }
def FnExactExpandByUptoSaid : Prop := fnExactExpandByUptoRow.holds Try.pinned (OpenSpec.upto fnExactExpandBySpec)

/-- 'laws.FnExactConnectJacobi', WHERE WHAT IT READS IS OF BULK AT MOST 1048576: true; the input reads as it did. -/
def fnExactConnectJacobiUptoRow : OpenClaim := { program := "ytmohdnofboaocaa", sum := "a2bdb2ad390f5f37640e6ce62ec8abd7768785bdcff841b571b2424d10aee762", func := "loop.example/g01283/laws.FnExactConnectJacobi", spec := "fnExactConnectJacobi", unfollowed := true, recurses := true, apart := false, narrowed := true }
def FnExactConnectJacobiUptoSaid : Prop := fnExactConnectJacobiUptoRow.holds Try.pinned (OpenSpec.upto fnExactConnectJacobiSpec)

end Rows
end Go.Proofs.Ytmohdnofboaocaa
