/- Powers and inverses: both texts. Conditions: none. -/
import Derived.Test.YtehaffohdpjccaaFnS
set_option linter.unusedSimpArgs false
set_option linter.unusedVariables false
namespace Go.Proofs.Ytehaffohdpjccaa.Ev
open Go Go.Proofs
set_option maxRecDepth 4000
set_option maxHeartbeats 4000000

/-- The inverse of a number, as a power. -/
def invP (p x : Int) : Int := x ^ (p - 2).toNat % p
def divP (p x y : Int) : Int := x * invP p y % p
theorem invP_range {p : Int} (hp : 2 ≤ p ∧ p ≤ 10007) (x : Int) : 0 ≤ invP p x ∧ invP p x < p := mod_small hp _
theorem divP_range {p : Int} (hp : 2 ≤ p ∧ p ≤ 10007) (x y : Int) : 0 ≤ divP p x y ∧ divP p x y < p := mod_small hp _

/-! ### Codes of data -/
/-- What a test of numbers from low on comes to for data. -/
def jcode (p : Int) (a b : List Int) (r : Bool) : Int := if jacB p a b then (if r then 0 else 2) else 1
end Go.Proofs.Ytehaffohdpjccaa.Ev
