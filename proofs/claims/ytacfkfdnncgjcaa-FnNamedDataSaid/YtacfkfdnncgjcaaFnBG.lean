/- SumBy: both texts and the law. Conditions: none. -/
import Derived.Test.YtacfkfdnncgjcaaFnBF
set_option linter.unusedSimpArgs false
set_option linter.unusedVariables false
namespace Go.Proofs.Ytacfkfdnncgjcaa.Ev
open Go Go.Proofs
set_option maxRecDepth 4000
set_option maxHeartbeats 4000000

theorem jacB_primeB {p : Int} {a b : List Int} (h : jacB p a b = true) : primeB p = true := by
  cases x : primeB p
  · simp [jacB, x] at h
  · rfl
def listB (p : Int) (a cs : List Int) : Bool := decide ((cs.length : Int) ≤ (a.length : Int) + 1) && cs.all (hasB p)
def sumR (p : Int) (a b cs : List Int) : List Int × Int := if jacB p a b then (if listB p a cs then (sumP p a b cs cs.length, 0) else ([], 2)) else ([], 1)
theorem sumR_len (p : Int) (a b cs : List Int) (ha : a.length ≤ 1048576) (hb : b.length ≤ 1048576) (hc : cs.length ≤ 1048576) : (sumR p a b cs).1.length ≤ 1048576 := by
  unfold sumR
  have := sumP_le p a b cs cs.length
  (repeat' split) <;> simp <;> omega
end Go.Proofs.Ytacfkfdnncgjcaa.Ev
