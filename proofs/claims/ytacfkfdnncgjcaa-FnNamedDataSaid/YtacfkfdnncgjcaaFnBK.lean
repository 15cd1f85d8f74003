/- ExpandProduct: both texts and the law. Conditions: none. -/
import Derived.Test.YtacfkfdnncgjcaaFnBJ
set_option linter.unusedSimpArgs false
set_option linter.unusedVariables false
namespace Go.Proofs.Ytacfkfdnncgjcaa.Ev
open Go Go.Proofs
set_option maxRecDepth 4000
set_option maxHeartbeats 4000000

def prdB (a : List Int) (k l : Int) : Bool := inK a k && (decide (0 ≤ l) && decide (l ≤ (a.length : Int) - k))
def prdR (p : Int) (a b : List Int) (k l : Int) : List Int × Int := if jacB p a b then (if prdB a k l then (expandP p a b (mulP p (pl p a b k.toNat).1 (pl p a b l.toNat).1), 0) else ([], 2)) else ([], 1)
theorem prdR_len (p : Int) (a b : List Int) (k l : Int) (ha : a.length ≤ 1048576) (hb : b.length ≤ 1048576) : (prdR p a b k l).1.length ≤ 1048576 := by
  unfold prdR
  split
  · split
    · rename_i h1 h2
      simp only [prdB, inK, Bool.and_eq_true, decide_eq_true_eq] at h2
      have := mulP_le p (pl p a b k.toNat).1 (pl p a b l.toNat).1
      have := (jacB_len h1).2.1
      have := (pl_le p a b k.toNat).1
      have := (pl_le p a b l.toNat).1
      simp only [expandP_len]; omega
    · simp
  · simp
end Go.Proofs.Ytacfkfdnncgjcaa.Ev
