/- SquaredNorms: both texts and the law. Conditions: none. -/
import Derived.Test.YtacfkfdnncgjcaaGreatFnL
set_option linter.unusedSimpArgs false
set_option linter.unusedVariables false
namespace Go.Proofs.YtacfkfdnncgjcaaGreat.Ev
open Go Go.Proofs
set_option maxRecDepth 4000
set_option maxHeartbeats 4000000

/-! ### Norms -/
def nrm (p : Int) (b : List Int) : Nat → Int
  | 0 => rdI b 0
  | k + 1 => rdI b (k + 1) * nrm p b k % p
theorem nrm_range {p : Int} {a b : List Int} (h : jacB p a b = true) : ∀ k, k < a.length → 0 ≤ nrm p b k ∧ nrm p b k < p
  | 0, hk => by have := jacB_b h hk; unfold nrm; omega
  | k + 1, hk => by
    have := jacB_prime h
    unfold nrm
    exact ⟨Int.emod_nonneg _ (by omega), Int.emod_lt_of_pos _ (by omega)⟩
end Go.Proofs.YtacfkfdnncgjcaaGreat.Ev
