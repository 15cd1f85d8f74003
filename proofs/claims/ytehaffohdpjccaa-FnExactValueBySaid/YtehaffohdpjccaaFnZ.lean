/- PathSum: both texts and the law. Conditions: none. -/
import Derived.Test.YtehaffohdpjccaaFnV
set_option linter.unusedSimpArgs false
set_option linter.unusedVariables false
namespace Go.Proofs.Ytehaffohdpjccaa.Ev
open Go Go.Proofs
set_option maxRecDepth 4000
set_option maxHeartbeats 4000000

/-- The sums of the paths of a length from a height. -/
def inH (a : List Int) (x : Int) : Bool := decide (0 ≤ x) && decide (x < a.length)
def fromJ (p : Int) (a b : List Int) (r i n : Nat) : List Int := wkJ p a b r ((List.replicate r 0).set i 1) n
theorem fromJ_len (p : Int) (a b : List Int) (r i n : Nat) : (fromJ p a b r i n).length = r := wkJ_len _ _ _ _ _ (by simp) _
theorem start_fine {p : Int} (hp : 2 ≤ p ∧ p ≤ 10007) (r i : Nat) : fine p ((List.replicate r 0).set i 1) := by
  intro j
  by_cases hj : j < r
  · rw [rdI_set (by simpa using hj)]
    split
    · omega
    · have : rdI (List.replicate r (0 : Int)) j = 0 := by
        simp [rdI, List.getD_eq_getElem?_getD, List.getElem?_replicate]; split <;> rfl
      rw [this]; omega
  · have : rdI ((List.replicate r (0 : Int)).set i 1) j = 0 := by simp [rdI, hj]
    rw [this]; omega
theorem all_noU_int {k : IntKind} (l : List Int) : (l.map (V.int k)).all (fun c => !hasU c) = true := all_leaf (fun _ => rfl) l

def psum (p : Int) (a b : List Int) (n i k : Int) : Int × Int :=
  if jacB p a b then (if (decide (0 ≤ n) && decide (n ≤ 24)) && (inH a i && inH a k) then (rdI (fromJ p a b a.length i.toNat n.toNat) k.toNat, 0) else (0, 2)) else (0, 1)
end Go.Proofs.Ytehaffohdpjccaa.Ev
