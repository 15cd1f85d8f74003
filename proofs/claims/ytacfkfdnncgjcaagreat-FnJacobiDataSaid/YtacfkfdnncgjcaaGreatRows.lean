/-
  No cell of these rows narrows 'for every input' (looked for: loops, veiled, ifaces, maps, wideKeys, modest, calm, conditions, laid).
  DERIVED. THE GIVEN ROWS OF THIS SEAT. 3 by the template 'for every input the law returns true; each argument reads behind the call as it read before'; 0 by the template 'total and deterministic' (their statements: YtacfkfdnncgjcaaGreatTotals.lean).
  GIVEN WITH THE SEED: the statements are not yours to turn. If you find one false, say at which input.
  Laid BY PROGRAM, IN A SANDBOX (cutbox-rows.mjs): the forced cells as the released guide's own fill.sh prints them over the translation ae86f4df3f4d5d69… (all of the seat's roots in one cut). By AI agents, Wed Nov 11 2026. No macro, syntax, notation, axiom, sorry.
-/
import Derived.Test.YtacfkfdnncgjcaaGreatChecked
import GoSem.Claim
import GoSem.ClaimJoined
import GoSem.ClaimMapViews
import Derived.JoinedTies
import Derived.KernelRfl
namespace Go.Proofs.YtacfkfdnncgjcaaGreat
/- THE CELL 'sum', in the pinned program and in every row, IS THE sha256 OF THE DUMP (.gsa) THAT YtacfkfdnncgjcaaGreatProg.lean LOADS. Nothing in Lean hashes anything: it is a label: what it is worth is what the hold of that sum in a sandbox is worth. -/
noncomputable def Tryz.pinned : Pinned := { name := "ytacfkfdnncgjcaagreat", sum := "ae86f4df3f4d5d69653b17a5f246dbff12a56cd4754e6c9a966c4d883886b8be", checked := Tryz.checked }
namespace Rows
def none {H : Type} : Left H := { results := [], args := [] }

/-- 'laws.FnJacobiData': WHATEVER THE INPUT: true; the input reads as it did. -/
def fnJacobiDataSpec : ChangeSpec := { name := "fnJacobiData", fn := fun _ => fun
  | [d] => { results := [.lit (.bool true)], args := [d] }
  | _ => none }
def fnJacobiDataRow : OpenClaim := { program := "ytacfkfdnncgjcaagreat", sum := "ae86f4df3f4d5d69653b17a5f246dbff12a56cd4754e6c9a966c4d883886b8be", func := "loop.example/g01283/laws.FnJacobiData", spec := "fnJacobiData", unfollowed := true, recurses := true, apart := false }
def FnJacobiDataSaid : Prop := fnJacobiDataRow.holds Tryz.pinned (OpenSpec.ofChange fnJacobiDataSpec)

/-- ITS FALSE NEIGHBOUR: 'it returns false'. Refute it at one input. -/
def fnJacobiDataWrong : ChangeSpec := { name := "fnJacobiData", fn := fun _ => fun
  | [d] => { results := [.lit (.bool false)], args := [d] }
  | _ => none }
def FnJacobiDataWrongFalsely : Prop := fnJacobiDataRow.holds Tryz.pinned (OpenSpec.ofChange fnJacobiDataWrong)

/-- 'laws.FnHankels': WHATEVER THE INPUT: true; the input reads as it did. -/
def fnHankelsSpec : ChangeSpec := { name := "fnHankels", fn := fun _ => fun
  | [d] => { results := [.lit (.bool true)], args := [d] }
  | _ => none }
def fnHankelsRow : OpenClaim := { program := "ytacfkfdnncgjcaagreat", sum := "ae86f4df3f4d5d69653b17a5f246dbff12a56cd4754e6c9a966c4d883886b8be", func := "loop.example/g01283/laws.FnHankels", spec := "fnHankels", unfollowed := true, recurses := true, apart := false }
def FnHankelsSaid : Prop := fnHankelsRow.holds Tryz.pinned (OpenSpec.ofChange fnHankelsSpec)

/-- ITS FALSE NEIGHBOUR: 'it returns false'. Refute it at one input. -/
def fnHankelsWrong : ChangeSpec := { name := "fnHankels", fn := fun _ => fun
  | [d] => { results := [.lit (.bool false)], args := [d] }
  | _ => none }
def FnHankelsWrongFalsely : Prop := fnHankelsRow.holds Tryz.pinned (OpenSpec.ofChange fnHankelsWrong)

/-- 'laws.FnGaussRules': WHATEVER THE INPUT: true; the input reads as it did. -/
def fnGaussRulesSpec : ChangeSpec := { name := "fnGaussRules", fn := fun _ => fun
  | [d] => { results := [.lit (.bool true)], args := [d] }
  | _ => none }
def fnGaussRulesRow : OpenClaim := { program := "ytacfkfdnncgjcaagreat", sum := "ae86f4df3f4d5d69653b17a5f246dbff12a56cd4754e6c9a966c4d883886b8be", func := "loop.example/g01283/laws.FnGaussRules", spec := "fnGaussRules", unfollowed := true, recurses := true, apart := false }
def FnGaussRulesSaid : Prop := fnGaussRulesRow.holds Tryz.pinned (OpenSpec.ofChange fnGaussRulesSpec)

/-- ITS FALSE NEIGHBOUR: 'it returns false'. Refute it at one input. -/
def fnGaussRulesWrong : ChangeSpec := { name := "fnGaussRules", fn := fun _ => fun
  | [d] => { results := [.lit (.bool false)], args := [d] }
  | _ => none }
def FnGaussRulesWrongFalsely : Prop := fnGaussRulesRow.holds Tryz.pinned (OpenSpec.ofChange fnGaussRulesWrong)

/- THE SECOND FORM. 'bulk': how many values and letters a reading holds, each counted each time it is reached (what is shared counts as often as it is met; a slice's spare places count too). A statement '..UptoSaid' is the law's where the arguments, and the package variables that the reading takes, are together of bulk at most 1048576: NARROWER than '..Said'. Prove '..Said' where nothing that the law and all that it calls make is longer than what came in: it says more and counts as full. Else prove '..UptoSaid'. A law counts once. -/
mutual
def uptoBulk {H : Type} : DataW H → Nat
  | .lit (.string bytes) => bytes.length + 1
  | .lit _ => 1
  | .nil => 1
  | .ptr d => uptoBulk d + 1
  | .slice elems spare => uptoBulkAll elems + uptoBulkAll spare + 1
  | .agg parts => uptoBulkAll parts + 1
  | .iface _ d => uptoBulk d + 1
  | .map entries => uptoBulkEntries entries + 1
  | .held _ => 1
def uptoBulkAll {H : Type} : List (DataW H) → Nat
  | [] => 0
  | d :: r => uptoBulk d + uptoBulkAll r
def uptoBulkEntries {H : Type} : List (Lit × DataW H) → Nat
  | [] => 0
  | x :: r => uptoBulkEntry x + uptoBulkEntries r
def uptoBulkEntry {H : Type} : Lit × DataW H → Nat
  | (.string bytes, d) => bytes.length + uptoBulk d + 1
  | (_, d) => uptoBulk d + 1
 end
def uptoSmall : (H : Type) → List (DataW H) → Bool := fun _ ds => decide (uptoBulkAll ds ≤ 1048576)
def OpenSpec.upto (s : _root_.Go.ChangeSpec) : _root_.Go.OpenSpec := { _root_.Go.OpenSpec.ofChange s with cond := some uptoSmall }

/-- 'laws.FnJacobiData', WHERE WHAT IT READS IS OF BULK AT MOST 1048576: true; the input reads as it did. -/
def fnJacobiDataUptoRow : OpenClaim := { program := "ytacfkfdnncgjcaagreat", sum := "ae86f4df3f4d5d69653b17a5f246dbff12a56cd4754e6c9a966c4d883886b8be", func := "loop.example/g01283/laws.FnJacobiData", spec := "fnJacobiData", unfollowed := true, recurses := true, apart := false, narrowed := true }
def FnJacobiDataUptoSaid : Prop := fnJacobiDataUptoRow.holds Tryz.pinned (OpenSpec.upto fnJacobiDataSpec)

/-- 'laws.FnHankels', WHERE WHAT IT READS IS OF BULK AT MOST 1048576: true; the input reads as it did. -/
def fnHankelsUptoRow : OpenClaim := { program := "ytacfkfdnncgjcaagreat", sum := "ae86f4df3f4d5d69653b17a5f246dbff12a56cd4754e6c9a966c4d883886b8be", func := "loop.example/g01283/laws.FnHankels", spec := "fnHankels", unfollowed := true, recurses := true, apart := false, narrowed := true }
def FnHankelsUptoSaid : Prop := fnHankelsUptoRow.holds Tryz.pinned (OpenSpec.upto fnHankelsSpec)

/-- 'laws.FnGaussRules', WHERE WHAT IT READS IS OF BULK AT MOST 1048576: true; the input reads as it did. -/
def fnGaussRulesUptoRow : OpenClaim := { program := "ytacfkfdnncgjcaagreat", sum := "ae86f4df3f4d5d69653b17a5f246dbff12a56cd4754e6c9a966c4d883886b8be", func := "loop.example/g01283/laws.FnGaussRules", spec := "fnGaussRules", unfollowed := true, recurses := true, apart := false, narrowed := true }
def FnGaussRulesUptoSaid : Prop := fnGaussRulesUptoRow.holds Tryz.pinned (OpenSpec.upto fnGaussRulesSpec)

end Rows
end Go.Proofs.YtacfkfdnncgjcaaGreat
