/- The laws' helpers on moments and data. Conditions: none. -/
import Derived.Test.YtabnganndcmcnaaFnM
set_option linter.unusedSimpArgs false
set_option linter.unusedVariables false
namespace Go.Proofs.Ytabnganndcmcnaa.Ev
open Go Go.Proofs
set_option maxRecDepth 4000
set_option maxHeartbeats 4000000

def szJ2 (left : Int) (a b : List Int) : Int := if left < a.length then -1 else if left - a.length < b.length then -1 else left - a.length - b.length
theorem szJ2_len {a b : List Int} (h : ¬ szJ2 1048576 a b < 0) : a.length + b.length ≤ 1048576 := by
  unfold szJ2 at h
  by_cases h1 : (1048576 : Int) < a.length
  · rw [if_pos h1] at h; omega
  · rw [if_neg h1] at h
    by_cases h2 : (1048576 : Int) - a.length < b.length
    · rw [if_pos h2] at h; omega
    · omega
theorem szJ2_eq {left : Int} {a b : List Int} (h0 : 0 ≤ left) (h : ¬ szJ2 left a b < 0) : szJ2 left a b = left - a.length - b.length := by
  unfold szJ2 at h ⊢
  by_cases h1 : left < a.length
  · rw [if_pos h1] at h; omega
  · rw [if_neg h1] at h ⊢
    by_cases h2 : left - a.length < b.length
    · rw [if_pos h2] at h; omega
    · rw [if_neg h2]
end Go.Proofs.Ytabnganndcmcnaa.Ev
