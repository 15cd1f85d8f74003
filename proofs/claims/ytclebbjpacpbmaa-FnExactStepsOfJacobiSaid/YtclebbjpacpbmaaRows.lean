/-
  No cell of these rows narrows 'for every input' (looked for: loops, veiled, ifaces, maps, wideKeys, modest, calm, conditions, laid).
  DERIVED. THE GIVEN ROWS OF THIS SEAT. 7 by the template 'for every input the law returns true; each argument reads behind the call as it read before'; 0 by the template 'total and deterministic' (their statements: YtclebbjpacpbmaaTotals.lean).
  GIVEN WITH THE SEED: the statements are not yours to turn. If you find one false, say at which input.
  Laid BY PROGRAM, IN A SANDBOX (cutbox-rows.mjs): the forced cells as the released guide's own fill.sh prints them over the translation 5ab1005448cc7c15… (all of the seat's roots in one cut). By AI agents, Wed Nov 11 2026. No macro, syntax, notation, axiom, sorry.
-/
import Derived.Test.YtclebbjpacpbmaaChecked
import GoSem.Claim
import GoSem.ClaimJoined
import GoSem.ClaimMapViews
import Derived.JoinedTies
import Derived.KernelRfl
namespace Go.Proofs.Ytclebbjpacpbmaa
/- THE CELL 'sum', in the pinned program and in every row, IS THE sha256 OF THE DUMP (.gsa) THAT YtclebbjpacpbmaaProg.lean LOADS. Nothing in Lean hashes anything: it is a label: what it is worth is what the hold of that sum in a sandbox is worth. -/
noncomputable def Try.pinned : Pinned := { name := "ytclebbjpacpbmaa", sum := "5ab1005448cc7c159a4d4d5dc8e6e021160ffc6d763b16aa5805efb66f879b5e", checked := Try.checked }
namespace Rows
def none {H : Type} : Left H := { results := [], args := [] }

/-- 'laws.FnExactInverseTriangle': WHATEVER THE INPUT: true; the input reads as it did. -/
def fnExactInverseTriangleSpec : ChangeSpec := { name := "fnExactInverseTriangle", fn := fun _ => fun
  | [d] => { results := [.lit (.bool true)], args := [d] }
  | _ => none }
def fnExactInverseTriangleRow : OpenClaim := { program := "ytclebbjpacpbmaa", sum := "5ab1005448cc7c159a4d4d5dc8e6e021160ffc6d763b16aa5805efb66f879b5e", func := "loop.example/g01283/laws.FnExactInverseTriangle", spec := "fnExactInverseTriangle", unfollowed := true, recurses := true, apart := false }
def FnExactInverseTriangleSaid : Prop := fnExactInverseTriangleRow.holds Try.pinned (OpenSpec.ofChange fnExactInverseTriangleSpec)

/-- ITS FALSE NEIGHBOUR: 'it returns false'. Refute it at one input. -/
def fnExactInverseTriangleWrong : ChangeSpec := { name := "fnExactInverseTriangle", fn := fun _ => fun
  | [d] => { results := [.lit (.bool false)], args := [d] }
  | _ => none }
def FnExactInverseTriangleWrongFalsely : Prop := fnExactInverseTriangleRow.holds Try.pinned (OpenSpec.ofChange fnExactInverseTriangleWrong)

/-- 'laws.FnExactExpandProduct': WHATEVER THE INPUT: true; the input reads as it did. -/
def fnExactExpandProductSpec : ChangeSpec := { name := "fnExactExpandProduct", fn := fun _ => fun
  | [d1, d2, d3] => { results := [.lit (.bool true)], args := [d1, d2, d3] }
  | _ => none }
def fnExactExpandProductRow : OpenClaim := { program := "ytclebbjpacpbmaa", sum := "5ab1005448cc7c159a4d4d5dc8e6e021160ffc6d763b16aa5805efb66f879b5e", func := "loop.example/g01283/laws.FnExactExpandProduct", spec := "fnExactExpandProduct", unfollowed := true, recurses := true, apart := false }
def FnExactExpandProductSaid : Prop := fnExactExpandProductRow.holds Try.pinned (OpenSpec.ofChange fnExactExpandProductSpec)

/-- ITS FALSE NEIGHBOUR: 'it returns false'. Refute it at one input. -/
def fnExactExpandProductWrong : ChangeSpec := { name := "fnExactExpandProduct", fn := fun _ => fun
  | [d1, d2, d3] => { results := [.lit (.bool false)], args := [d1, d2, d3] }
  | _ => none }
def FnExactExpandProductWrongFalsely : Prop := fnExactExpandProductRow.holds Try.pinned (OpenSpec.ofChange fnExactExpandProductWrong)

/-- 'laws.FnExactSumBy': WHATEVER THE INPUT: true; the input reads as it did. -/
def fnExactSumBySpec : ChangeSpec := { name := "fnExactSumBy", fn := fun _ => fun
  | [d1, d2] => { results := [.lit (.bool true)], args := [d1, d2] }
  | _ => none }
def fnExactSumByRow : OpenClaim := { program := "ytclebbjpacpbmaa", sum := "5ab1005448cc7c159a4d4d5dc8e6e021160ffc6d763b16aa5805efb66f879b5e", func := "loop.example/g01283/laws.FnExactSumBy", spec := "fnExactSumBy", unfollowed := true, recurses := true, apart := false }
def FnExactSumBySaid : Prop := fnExactSumByRow.holds Try.pinned (OpenSpec.ofChange fnExactSumBySpec)

/-- ITS FALSE NEIGHBOUR: 'it returns false'. Refute it at one input. -/
def fnExactSumByWrong : ChangeSpec := { name := "fnExactSumBy", fn := fun _ => fun
  | [d1, d2] => { results := [.lit (.bool false)], args := [d1, d2] }
  | _ => none }
def FnExactSumByWrongFalsely : Prop := fnExactSumByRow.holds Try.pinned (OpenSpec.ofChange fnExactSumByWrong)

/-- 'laws.FnExactValueBy': WHATEVER THE INPUT: true; the input reads as it did. -/
def fnExactValueBySpec : ChangeSpec := { name := "fnExactValueBy", fn := fun _ => fun
  | [d1, d2, d3] => { results := [.lit (.bool true)], args := [d1, d2, d3] }
  | _ => none }
def fnExactValueByRow : OpenClaim := { program := "ytclebbjpacpbmaa", sum := "5ab1005448cc7c159a4d4d5dc8e6e021160ffc6d763b16aa5805efb66f879b5e", func := "loop.example/g01283/laws.FnExactValueBy", spec := "fnExactValueBy", unfollowed := true, recurses := true, apart := false }
def FnExactValueBySaid : Prop := fnExactValueByRow.holds Try.pinned (OpenSpec.ofChange fnExactValueBySpec)

/-- ITS FALSE NEIGHBOUR: 'it returns false'. Refute it at one input. -/
def fnExactValueByWrong : ChangeSpec := { name := "fnExactValueBy", fn := fun _ => fun
  | [d1, d2, d3] => { results := [.lit (.bool false)], args := [d1, d2, d3] }
  | _ => none }
def FnExactValueByWrongFalsely : Prop := fnExactValueByRow.holds Try.pinned (OpenSpec.ofChange fnExactValueByWrong)

/-- 'laws.FnExactExpandDerivative': WHATEVER THE INPUT: true; the input reads as it did. -/
def fnExactExpandDerivativeSpec : ChangeSpec := { name := "fnExactExpandDerivative", fn := fun _ => fun
  | [d1, d2] => { results := [.lit (.bool true)], args := [d1, d2] }
  | _ => none }
def fnExactExpandDerivativeRow : OpenClaim := { program := "ytclebbjpacpbmaa", sum := "5ab1005448cc7c159a4d4d5dc8e6e021160ffc6d763b16aa5805efb66f879b5e", func := "loop.example/g01283/laws.FnExactExpandDerivative", spec := "fnExactExpandDerivative", unfollowed := true, recurses := true, apart := false }
def FnExactExpandDerivativeSaid : Prop := fnExactExpandDerivativeRow.holds Try.pinned (OpenSpec.ofChange fnExactExpandDerivativeSpec)

/-- ITS FALSE NEIGHBOUR: 'it returns false'. Refute it at one input. -/
def fnExactExpandDerivativeWrong : ChangeSpec := { name := "fnExactExpandDerivative", fn := fun _ => fun
  | [d1, d2] => { results := [.lit (.bool false)], args := [d1, d2] }
  | _ => none }
def FnExactExpandDerivativeWrongFalsely : Prop := fnExactExpandDerivativeRow.holds Try.pinned (OpenSpec.ofChange fnExactExpandDerivativeWrong)

/-- 'laws.FnExactStepsOfJacobi': WHATEVER THE INPUT: true; the input reads as it did. -/
def fnExactStepsOfJacobiSpec : ChangeSpec := { name := "fnExactStepsOfJacobi", fn := fun _ => fun
  | [d1, d2, d3] => { results := [.lit (.bool true)], args := [d1, d2, d3] }
  | _ => none }
def fnExactStepsOfJacobiRow : OpenClaim := { program := "ytclebbjpacpbmaa", sum := "5ab1005448cc7c159a4d4d5dc8e6e021160ffc6d763b16aa5805efb66f879b5e", func := "loop.example/g01283/laws.FnExactStepsOfJacobi", spec := "fnExactStepsOfJacobi", unfollowed := true, recurses := true, apart := false }
def FnExactStepsOfJacobiSaid : Prop := fnExactStepsOfJacobiRow.holds Try.pinned (OpenSpec.ofChange fnExactStepsOfJacobiSpec)

/-- ITS FALSE NEIGHBOUR: 'it returns false'. Refute it at one input. -/
def fnExactStepsOfJacobiWrong : ChangeSpec := { name := "fnExactStepsOfJacobi", fn := fun _ => fun
  | [d1, d2, d3] => { results := [.lit (.bool false)], args := [d1, d2, d3] }
  | _ => none }
def FnExactStepsOfJacobiWrongFalsely : Prop := fnExactStepsOfJacobiRow.holds Try.pinned (OpenSpec.ofChange fnExactStepsOfJacobiWrong)

/-- 'laws.FnExactNewDesk': WHATEVER THE INPUT: true; the input reads as it did. -/
def fnExactNewDeskSpec : ChangeSpec := { name := "fnExactNewDesk", fn := fun _ => fun
  | [] => { results := [.lit (.bool true)], args := [] }
  | _ => none }
def fnExactNewDeskRow : OpenClaim := { program := "ytclebbjpacpbmaa", sum := "5ab1005448cc7c159a4d4d5dc8e6e021160ffc6d763b16aa5805efb66f879b5e", func := "loop.example/g01283/laws.FnExactNewDesk", spec := "fnExactNewDesk", apart := false }
def FnExactNewDeskSaid : Prop := fnExactNewDeskRow.holds Try.pinned (OpenSpec.ofChange fnExactNewDeskSpec)

/-- ITS FALSE NEIGHBOUR: 'it returns false'. Refute it at one input. -/
def fnExactNewDeskWrong : ChangeSpec := { name := "fnExactNewDesk", fn := fun _ => fun
  | [] => { results := [.lit (.bool false)], args := [] }
  | _ => none }
def FnExactNewDeskWrongFalsely : Prop := fnExactNewDeskRow.holds Try.pinned (OpenSpec.ofChange fnExactNewDeskWrong)

/- THE SECOND FORM. 'bulk': how many values and letters a reading holds, each counted each time it is reached (what is shared counts as often as it is met; a slice's spare places count too). A statement '..UptoSaid' is the law's where the arguments, and the package variables that the reading takes, are together of bulk at most 1048576: NARROWER than '..Said'. Prove '..Said' where nothing that the law and all that it calls make is longer than what came in: it says more and counts as full. Else prove '..UptoSaid'. A law counts once. -/
mutual
def uptoBulk {H : Type} : DataW H → Nat
  | .lit (.string bytes) => bytes.length + 1
  | .lit _ => 1
  | .nil => 1
  | .ptr d => uptoBulk d + 1
  | .slice elems spare => uptoBulkAll elems + uptoBulkAll spare + 1
  | .agg parts => uptoBulkAll parts + 1
  | .iface _ d => uptoBulk d + 1
  | .map entries => uptoBulkEntries entries + 1
  | .held _ => 1
def uptoBulkAll {H : Type} : List (DataW H) → Nat
  | [] => 0
  | d :: r => uptoBulk d + uptoBulkAll r
def uptoBulkEntries {H : Type} : List (Lit × DataW H) → Nat
  | [] => 0
  | x :: r => uptoBulkEntry x + uptoBulkEntries r
def uptoBulkEntry {H : Type} : Lit × DataW H → Nat
  | (.string bytes, d) => bytes.length + uptoBulk d + 1
  | (_, d) => uptoBulk d + 1
 end
def uptoSmall : (H : Type) → List (DataW H) → Bool := fun _ ds => decide (uptoBulkAll ds ≤ 1048576)
def OpenSpec.upto (s : _root_.Go.ChangeSpec) : _root_.Go.OpenSpec := { _root_.Go.OpenSpec.ofChange s with cond := some uptoSmall }

/-- 'laws.FnExactInverseTriangle', WHERE WHAT IT READS IS OF BULK AT MOST 1048576: true; the input reads as it did. -/
def fnExactInverseTriangleUptoRow : OpenClaim := { program := "ytclebbjpacpbmaa", sum := "5ab1005448cc7c159a4d4d5dc8e6e021160ffc6d763b16aa5805efb66f879b5e", func := "loop.example/g01283/laws.FnExactInverseTriangle", spec := "fnExactInverseTriangle", unfollowed := true, recurses := true, apart := false, narrowed := true }
def FnExactInverseTriangleUptoSaid : Prop := fnExactInverseTriangleUptoRow.holds Try.pinned (OpenSpec.upto fnExactInverseTriangleSpec)

/-- 'laws.FnExactExpandProduct', WHERE WHAT IT READS IS OF BULK AT MOST 1048576: true; the input reads as it did. -/
def fnExactExpandProductUptoRow : OpenClaim := { program := "ytclebbjpacpbmaa", sum := "5ab1005448cc7c159a4d4d5dc8e6e021160ffc6d763b16aa5805efb66f879b5e", func := "loop.example/g01283/laws.FnExactExpandProduct", spec := "fnExactExpandProduct", unfollowed := true, recurses := true, apart := false, narrowed := true }
def FnExactExpandProductUptoSaid : Prop := fnExactExpandProductUptoRow.holds Try.pinned (OpenSpec.upto fnExactExpandProductSpec)

/-- 'laws.FnExactSumBy', WHERE WHAT IT READS IS OF BULK AT MOST 1048576: true; the input reads as it did. -/
def fnExactSumByUptoRow : OpenClaim := { program := "ytclebbjpacpbmaa", sum := "5ab1005448cc7c159a4d4d5dc8e6e021160ffc6d763b16aa5805efb66f879b5e", func := "loop.example/g01283/laws.FnExactSumBy", spec := "fnExactSumBy", unfollowed := true, recurses := true, apart := false, narrowed := true }
def FnExactSumByUptoSaid : Prop := fnExactSumByUptoRow.holds Try.pinned (OpenSpec.upto fnExactSumBySpec)

/-- 'laws.FnExactValueBy', WHERE WHAT IT READS IS OF BULK AT MOST 1048576: true; the input reads as it did. -/
def fnExactValueByUptoRow : OpenClaim := { program := "ytclebbjpacpbmaa", sum := "5ab1005448cc7c159a4d4d5dc8e6e021160ffc6d763b16aa5805efb66f879b5e", func := "loop.example/g01283/laws.FnExactValueBy", spec := "fnExactValueBy", unfollowed := true, recurses := true, apart := false, narrowed := true }
def FnExactValueByUptoSaid : Prop := fnExactValueByUptoRow.holds Try.pinned (OpenSpec.upto fnExactValueBySpec)

/-- 'laws.FnExactExpandDerivative', WHERE WHAT IT READS IS OF BULK AT MOST 1048576: true; the input reads as it did. -/
def fnExactExpandDerivativeUptoRow : OpenClaim := { program := "ytclebbjpacpbmaa", sum := "5ab1005448cc7c159a4d4d5dc8e6e021160ffc6d763b16aa5805efb66f879b5e", func := "loop.example/g01283/laws.FnExactExpandDerivative", spec := "fnExactExpandDerivative", unfollowed := true, recurses := true, apart := false, narrowed := true }
def FnExactExpandDerivativeUptoSaid : Prop := fnExactExpandDerivativeUptoRow.holds Try.pinned (OpenSpec.upto fnExactExpandDerivativeSpec)

/-- 'laws.FnExactStepsOfJacobi', WHERE WHAT IT READS IS OF BULK AT MOST 1048576: true; the input reads as it did. -/
def fnExactStepsOfJacobiUptoRow : OpenClaim := { program := "ytclebbjpacpbmaa", sum := "5ab1005448cc7c159a4d4d5dc8e6e021160ffc6d763b16aa5805efb66f879b5e", func := "loop.example/g01283/laws.FnExactStepsOfJacobi", spec := "fnExactStepsOfJacobi", unfollowed := true, recurses := true, apart := false, narrowed := true }
def FnExactStepsOfJacobiUptoSaid : Prop := fnExactStepsOfJacobiUptoRow.holds Try.pinned (OpenSpec.upto fnExactStepsOfJacobiSpec)

/-- 'laws.FnExactNewDesk', WHERE WHAT IT READS IS OF BULK AT MOST 1048576: true; the input reads as it did. -/
def fnExactNewDeskUptoRow : OpenClaim := { program := "ytclebbjpacpbmaa", sum := "5ab1005448cc7c159a4d4d5dc8e6e021160ffc6d763b16aa5805efb66f879b5e", func := "loop.example/g01283/laws.FnExactNewDesk", spec := "fnExactNewDesk", apart := false, narrowed := true }
def FnExactNewDeskUptoSaid : Prop := fnExactNewDeskUptoRow.holds Try.pinned (OpenSpec.upto fnExactNewDeskSpec)

end Rows
end Go.Proofs.Ytclebbjpacpbmaa
