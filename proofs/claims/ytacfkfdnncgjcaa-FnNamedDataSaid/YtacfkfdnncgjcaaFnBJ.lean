/- ExpandProduct and ExpandDerivative: both texts and the laws. Conditions: none. -/
import Derived.Test.YtacfkfdnncgjcaaFnBG
set_option linter.unusedSimpArgs false
set_option linter.unusedVariables false
namespace Go.Proofs.Ytacfkfdnncgjcaa.Ev
open Go Go.Proofs
set_option maxRecDepth 4000
set_option maxHeartbeats 4000000

def inK (a : List Int) (x : Int) : Bool := decide (0 ≤ x) && decide (x ≤ a.length)
/-! ### Derivatives -/
def drv (p : Int) (f : List Int) (i : Nat) : Int := ((i : Int) + 1) * rdI f (i + 1) % p
def drvP (p : Int) (f : List Int) : List Int := trimL (tab (f.length - 1) (drv p f))
theorem drvP_le (p : Int) (f : List Int) : (drvP p f).length ≤ f.length - 1 := by
  have := trimL_le (tab (f.length - 1) (drv p f)); rw [tab_len] at this; exact this
theorem drvP_fine {p : Int} (hp : 2 ≤ p ∧ p ≤ 10007) (f : List Int) : fine p (drvP p f) := trimL_fine hp fun i => by
  by_cases h : i < f.length - 1
  · rw [tab_rd h]; exact mod_small hp _
  · rw [rdI_out (by rw [tab_len]; omega)]; omega
theorem drvP_nil {p : Int} {f : List Int} (h : ¬ 1 < f.length) : drvP p f = [] := by
  unfold drvP
  rw [show f.length - 1 = 0 by omega]; rfl
def drvR (p : Int) (a b : List Int) (k : Int) : List Int × Int := if jacB p a b then (if inK a k then (expandP p a b (drvP p (pl p a b k.toNat).1), 0) else ([], 2)) else ([], 1)
theorem drvR_len (p : Int) (a b : List Int) (k : Int) (ha : a.length ≤ 1048576) (hb : b.length ≤ 1048576) : (drvR p a b k).1.length ≤ 1048576 := by
  unfold drvR
  split
  · split
    · rename_i h1 h2
      simp only [inK, Bool.and_eq_true, decide_eq_true_eq] at h2
      have := drvP_le p (pl p a b k.toNat).1
      have := (pl_le p a b k.toNat).1
      simp only [expandP_len]; omega
    · simp
  · simp
end Go.Proofs.Ytacfkfdnncgjcaa.Ev
