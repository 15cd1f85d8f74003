/- StepBack: both texts and the law. Conditions: none. -/
import Derived.Test.YtacfkfdnncgjcaaFnBA
set_option linter.unusedSimpArgs false
set_option linter.unusedVariables false
namespace Go.Proofs.Ytacfkfdnncgjcaa.Ev
open Go Go.Proofs
set_option maxRecDepth 4000
set_option maxHeartbeats 4000000

/-- The numbers q and e of a step back. -/
def sbk (p c q : Int) (a b : List Int) : Nat → Int × Int
  | 0 => (q, 0)
  | k + 1 => (divP p (rdI b (k + 1)) ((rdI a k - c - (sbk p c q a b k).1) % p), (rdI a k - c - (sbk p c q a b k).1) % p)
def sbA (p c q : Int) (a b : List Int) (k : Nat) : Int := ((sbk p c q a b k).1 + (sbk p c q a b k).2 + c) % p
def sbB (p c q : Int) (a b : List Int) : Nat → Int
  | 0 => divP p (rdI b 0) q
  | k + 1 => (sbk p c q a b k).1 * (sbk p c q a b (k + 1)).2 % p
def sbOk (p c q : Int) (a b : List Int) : Bool := (List.range (a.length - 1)).all fun k => decide (¬ (sbk p c q a b (k + 1)).2 = 0)
def backJ (p : Int) (a b : List Int) (c q : Int) : Int × List Int × List Int × Int :=
  if jacB p a b then (if hasB p c && unitB p q then (if sbOk p c q a b then (p, tab a.length (sbA p c q a b), tab a.length (sbB p c q a b), 0) else (0, [], [], 5)) else (0, [], [], 2)) else (0, [], [], 1)
theorem backJ_len (p : Int) (a b : List Int) (c q : Int) (ha : a.length ≤ 1048576) (hb : b.length ≤ 1048576) : (backJ p a b c q).2.1.length ≤ 1048576 ∧ (backJ p a b c q).2.2.1.length ≤ 1048576 := by
  unfold backJ
  (repeat' split) <;> simp [tab_len] <;> omega
theorem sbk_range {p c q : Int} (hp : 2 ≤ p ∧ p ≤ 10007) (hq : 0 ≤ q ∧ q < p) (a b : List Int) : ∀ k, (0 ≤ (sbk p c q a b k).1 ∧ (sbk p c q a b k).1 < p) ∧ 0 ≤ (sbk p c q a b k).2 ∧ (sbk p c q a b k).2 < p
  | 0 => ⟨hq, by show 0 ≤ (0 : Int) ∧ (0 : Int) < p; omega⟩
  | k + 1 => ⟨divP_range hp _ _, mod_small hp _⟩
end Go.Proofs.Ytacfkfdnncgjcaa.Ev
