/- ConnectJacobi: both texts and the law. Conditions: none. -/
import Derived.Test.YtacfkfdnncgjcaaFnBJ
set_option linter.unusedSimpArgs false
set_option linter.unusedVariables false
namespace Go.Proofs.Ytacfkfdnncgjcaa.Ev
open Go Go.Proofs
set_option maxRecDepth 4000
set_option maxHeartbeats 4000000

def conB (p : Int) (a : List Int) (q : Int) (c : List Int) (k : Int) : Bool := decide (p = q) && (decide (0 ≤ k) && decide (k ≤ (min a.length c.length : Nat)))
def conR (p : Int) (a b : List Int) (q : Int) (c d : List Int) (k : Int) : List Int × Int :=
  if jacB p a b && jacB q c d then (if conB p a q c k then (expandP q c d (pl p a b k.toNat).1, 0) else ([], 2)) else ([], 1)
theorem conR_len (p : Int) (a b : List Int) (q : Int) (c d : List Int) (k : Int) (ha : a.length ≤ 1048576) (hb : b.length ≤ 1048576) (hc : c.length ≤ 1048576) (hd : d.length ≤ 1048576) : (conR p a b q c d k).1.length ≤ 1048576 := by
  unfold conR
  split
  · split
    · rename_i h1 h2
      simp only [Bool.and_eq_true] at h1
      simp only [conB, Bool.and_eq_true, decide_eq_true_eq] at h2
      have := (pl_le p a b k.toNat).1
      have := (jacB_len h1.1).2.1
      simp only [expandP_len]; omega
    · simp
  · simp
end Go.Proofs.Ytacfkfdnncgjcaa.Ev
