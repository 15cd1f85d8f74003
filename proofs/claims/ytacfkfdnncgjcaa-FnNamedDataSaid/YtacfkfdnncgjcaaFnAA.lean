/- TurningSums: both texts and the law. Conditions: none. -/
import Derived.Test.YtacfkfdnncgjcaaFnV
set_option linter.unusedSimpArgs false
set_option linter.unusedVariables false
namespace Go.Proofs.Ytacfkfdnncgjcaa.Ev
open Go Go.Proofs
set_option maxRecDepth 4000
set_option maxHeartbeats 4000000

/-- The sums up to a height, and their differences. -/
def upToH (p : Int) (a b : List Int) (n : Nat) : Nat → Int
  | 0 => 0
  | h + 1 => rdI (fromJ p a b (h + 1) 0 n) 0
def turnH (p : Int) (a b : List Int) (n h : Nat) : Int := (upToH p a b n (h + 1) - upToH p a b n h) % p
def turns (p : Int) (a b : List Int) (n : Int) : List Int × Int :=
  if jacB p a b then (if decide (0 ≤ n) && decide (n ≤ 24) then (tab a.length (turnH p a b n.toNat), 0) else ([], 2)) else ([], 1)
theorem turns_len (p : Int) (a b : List Int) (n : Int) (ha : a.length ≤ 1048576) (hb : b.length ≤ 1048576) : (turns p a b n).1.length ≤ 1048576 := by
  unfold turns; (repeat' split) <;> simp [tab_len] <;> omega
theorem fromJ_fine {p : Int} (hp : 2 ≤ p ∧ p ≤ 10007) (a b : List Int) (r i n : Nat) : fine p (fromJ p a b r i n) := wkJ_fine hp a b r _ (start_fine hp r i) n
theorem upToH_range {p : Int} (hp : 2 ≤ p ∧ p ≤ 10007) (a b : List Int) (n : Nat) : ∀ h, 0 ≤ upToH p a b n h ∧ upToH p a b n h < p
  | 0 => by show 0 ≤ (0 : Int) ∧ (0 : Int) < p; omega
  | h + 1 => fromJ_fine hp a b _ _ _ 0

end Go.Proofs.Ytacfkfdnncgjcaa.Ev
