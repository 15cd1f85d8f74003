/- Polynomials and codes: what the program's tests come to. Conditions: none. -/
import Derived.Test.YtehaffohdpjccaaFnL
set_option linter.unusedSimpArgs false
set_option linter.unusedVariables false
namespace Go.Proofs.Ytehaffohdpjccaa.Ev
open Go Go.Proofs
set_option maxRecDepth 4000
set_option maxHeartbeats 4000000

def polyB (p : Int) (f : List Int) : Bool := decide (f.length ≤ 25) && f.all (hasB p) && (decide (f.length = 0) || !decide (rdI f (f.length - 1) = 0))

/-! ### Lists of lists -/
def LV (f : List Int) : V := (V.list (List.length (f)) (List.map (V.int .i64) (f)))
def rdL (ps : List (List Int)) (i : Nat) : List Int := ps.getD i []
theorem rdL_get {ps : List (List Int)} {i : Nat} (h : i < ps.length) : ps[i] = rdL ps i := by unfold rdL; simp [h]
section
variable {H : Nat → Option Ob} {d : Nat} (l : List (List Int))
theorem mapM_purN_LV : (l.map LV).mapM (purN H d) = some (l.map LV) := mapM_leaf (fun _ => by cases d <;> rfl) l
theorem mapM_viewN_LV : (l.map LV).mapM (viewN d) = some (l.map LV) := mapM_leaf (fun _ => by cases d <;> rfl) l
theorem flatMap_idsN_LV : (l.map LV).flatMap (idsN H d) = [] := flatMap_leaf (fun _ => by cases d <;> rfl) l
theorem any_hasU_LV : (l.map LV).any hasU = false := any_leaf (fun _ => rfl) l
end

end Go.Proofs.Ytehaffohdpjccaa.Ev
