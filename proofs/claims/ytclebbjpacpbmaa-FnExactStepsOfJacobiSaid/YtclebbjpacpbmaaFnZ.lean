/- PathSum: both texts and the law. Conditions: none. -/
import Derived.Test.YtclebbjpacpbmaaFnV
set_option linter.unusedSimpArgs false
set_option linter.unusedVariables false
namespace Go.Proofs.Ytclebbjpacpbmaa.Ev
open Go Go.Proofs
set_option maxRecDepth 4000
set_option maxHeartbeats 4000000

/-- The sums of the paths of a length from a height. -/
def fromJ (p : Int) (a b : List Int) (r i n : Nat) : List Int := wkJ p a b r ((List.replicate r 0).set i 1) n
theorem fromJ_len (p : Int) (a b : List Int) (r i n : Nat) : (fromJ p a b r i n).length = r := wkJ_len _ _ _ _ _ (by simp) _
theorem start_fine {p : Int} (hp : 2 ≤ p ∧ p ≤ 10007) (r i : Nat) : fine p ((List.replicate r 0).set i 1) := by
  intro j
  by_cases hj : j < r
  · rw [rdI_set (by simpa using hj)]
    split
    · omega
    · have : rdI (List.replicate r (0 : Int)) j = 0 := by
        simp [rdI, List.getD_eq_getElem?_getD, List.getElem?_replicate]; split <;> rfl
      rw [this]; omega
  · have : rdI ((List.replicate r (0 : Int)).set i 1) j = 0 := by simp [rdI, hj]
    rw [this]; omega
theorem all_noU_int {k : IntKind} (l : List Int) : (l.map (V.int k)).all (fun c => !hasU c) = true := all_leaf (fun _ => rfl) l



end Go.Proofs.Ytclebbjpacpbmaa.Ev
