/- SumBy: both texts and the law. Conditions: none. -/
import Derived.Test.YtmohdnofboaocaaFnBF
set_option linter.unusedSimpArgs false
set_option linter.unusedVariables false
namespace Go.Proofs.Ytmohdnofboaocaa.Ev
open Go Go.Proofs
set_option maxRecDepth 4000
set_option maxHeartbeats 4000000

theorem jacB_primeB {p : Int} {a b : List Int} (h : jacB p a b = true) : primeB p = true := by
  cases x : primeB p
  · simp [jacB, x] at h
  · rfl
end Go.Proofs.Ytmohdnofboaocaa.Ev
