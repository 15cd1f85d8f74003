/- Polynomials of data, by both texts. Conditions: none. -/
import Derived.Test.YtiefdblogdomhaaFnBC
set_option linter.unusedSimpArgs false
set_option linter.unusedVariables false
namespace Go.Proofs.Ytiefdblogdomhaa.Ev
open Go Go.Proofs
set_option maxRecDepth 4000
set_option maxHeartbeats 4000000

/-! ### The recurrence -/
def nextP (p al be : Int) (own before : List Int) : List Int := addP p (mulP p [(-al) % p, 1] own) before ((-be) % p)
theorem nextP_fine {p : Int} (hp : 2 ≤ p ∧ p ≤ 10007) (al be : Int) (own before : List Int) : fine p (nextP p al be own before) := addP_fine hp (mulP_fine hp _ _) _
theorem nextP_le (p al be : Int) (own before : List Int) : (nextP p al be own before).length ≤ max (own.length + 1) before.length := by
  have h1 := addP_le p (mulP p [(-al) % p, 1] own) before ((-be) % p)
  have h2 := mulP_le p [(-al) % p, 1] own
  simp only [List.length_cons, List.length_nil] at h2
  unfold nextP; omega
def pl (p : Int) (a b : List Int) : Nat → List Int × List Int
  | 0 => ([1], [])
  | k + 1 => (nextP p (rdI a k) (rdI b k) (pl p a b k).1 (pl p a b k).2, (pl p a b k).1)
theorem pl_le (p : Int) (a b : List Int) : ∀ k, (pl p a b k).1.length ≤ k + 1 ∧ (pl p a b k).2.length ≤ k
  | 0 => ⟨by simp [pl], by simp [pl]⟩
  | k + 1 => by
    have ih := pl_le p a b k
    have := nextP_le p (rdI a k) (rdI b k) (pl p a b k).1 (pl p a b k).2
    refine ⟨?_, ih.1⟩
    simp only [pl]; omega
theorem pl_fine {p : Int} (hp : 2 ≤ p ∧ p ≤ 10007) (a b : List Int) : ∀ k, fine p (pl p a b k).1 ∧ fine p (pl p a b k).2
  | 0 => ⟨fine_one hp.1 ⟨by omega, by omega⟩, fine_nil hp.1⟩
  | k + 1 => ⟨nextP_fine hp _ _ _ _, (pl_fine hp a b k).1⟩


end Go.Proofs.Ytiefdblogdomhaa.Ev
