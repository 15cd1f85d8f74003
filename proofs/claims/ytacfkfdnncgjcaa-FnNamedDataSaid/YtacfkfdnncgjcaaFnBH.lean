/- ExpandBy and ConnectJacobi: both texts and the laws. Conditions: none. -/
import Derived.Test.YtacfkfdnncgjcaaFnBG
set_option linter.unusedSimpArgs false
set_option linter.unusedVariables false
namespace Go.Proofs.Ytacfkfdnncgjcaa.Ev
open Go Go.Proofs
set_option maxRecDepth 4000
set_option maxHeartbeats 4000000

def expR (p : Int) (a b f : List Int) : List Int × Int := if jacB p a b && polyB p f then (if f.length ≤ a.length + 1 then (expandP p a b f, 0) else ([], 2)) else ([], 1)
theorem expR_len (p : Int) (a b f : List Int) (ha : a.length ≤ 1048576) (hb : b.length ≤ 1048576) (hc : f.length ≤ 1048576) : (expR p a b f).1.length ≤ 1048576 := by
  unfold expR
  (repeat' split) <;> simp [expandP_len] <;> omega
theorem polyB_all {p : Int} {f : List Int} (h : polyB p f = true) : f.all (hasB p) = true := by
  simp only [polyB, Bool.and_eq_true] at h; exact h.1.2
end Go.Proofs.Ytacfkfdnncgjcaa.Ev
