/- Powers; DivideMoments and AddMass. Conditions: none. -/
import Derived.Test.YtehaffohdpjccaaFnR
set_option linter.unusedSimpArgs false
set_option linter.unusedVariables false
namespace Go.Proofs.Ytehaffohdpjccaa.Ev
open Go Go.Proofs
set_option maxRecDepth 4000
set_option maxHeartbeats 4000000

/-! ### Powers -/
theorem pow_mod_congr {p a b : Int} (h : a % p = b % p) : ∀ n : Nat, a ^ n % p = b ^ n % p
  | 0 => by rw [Int.pow_zero, Int.pow_zero]
  | n + 1 => by rw [Int.pow_succ, Int.pow_succ, Int.mul_emod, pow_mod_congr h n, h, ← Int.mul_emod]
theorem emod_emod' (a p : Int) : a % p % p = a % p := Int.emod_emod_of_dvd _ (Int.dvd_refl p)
theorem mul_mod_congr {p a b c d : Int} (h : a % p = b % p) (k : c % p = d % p) : a * c % p = b * d % p := by rw [Int.mul_emod, h, k, ← Int.mul_emod]
theorem add_mod_congr {p a b c d : Int} (h : a % p = b % p) (k : c % p = d % p) : (a + c) % p = (b + d) % p := by rw [Int.add_emod, h, k, ← Int.add_emod]
theorem sq_pow (x : Int) (m : Nat) : (x * x) ^ m = x ^ (2 * m) := by
  rw [Int.pow_mul]; congr 1; rw [show (2 : Nat) = 1 + 1 from rfl, Int.pow_succ, Int.pow_succ]; simp
theorem pow_even (p o x : Int) (m : Nat) : o * (x * x % p) ^ m % p = o * x ^ (2 * m) % p := by
  rw [← sq_pow]; exact mul_mod_congr rfl (pow_mod_congr (emod_emod' _ _) m)
theorem pow_odd (p o x : Int) (m : Nat) : (o * x % p) * (x * x % p) ^ m % p = o * x ^ (2 * m + 1) % p := by
  rw [pow_even, Int.pow_succ, Int.mul_comm (x ^ (2 * m)), ← Int.mul_assoc]
  exact mul_mod_congr (emod_emod' _ _) rfl

/-! ### A list that is written over -/
def inpl (n i : Nat) (f g : Nat → Int) : List Int := tab n fun k => if k < i then f k else g k
theorem inpl_len (n i : Nat) (f g : Nat → Int) : (inpl n i f g).length = n := tab_len _ _
theorem inpl_rd {n i : Nat} {f g : Nat → Int} (h : i < n) : rdI (inpl n i f g) i = g i := by
  unfold inpl; rw [tab_rd h]; simp
theorem inpl_set (n i : Nat) (f g : Nat → Int) : (inpl n i f g).set i (f i) = inpl n (i + 1) f g := by
  unfold inpl
  rw [tab_set]
  apply tab_ext
  intro k hk
  by_cases h : i = k
  · subst h; simp
  · have : (k < i + 1) ↔ (k < i) := by omega
    simp [h, this]
theorem inpl_zero (n : Nat) (f g : Nat → Int) : inpl n 0 f g = tab n g := tab_ext fun k hk => by simp
theorem inpl_full (n : Nat) (f g : Nat → Int) : inpl n n f g = tab n f := tab_ext fun k hk => by simp [hk]

/-! ### AddMass -/
def massL (p : Int) (l : List Int) (c w : Int) : List Int := tab l.length fun k => (rdI l k + w * (c ^ k % p)) % p
def massM (p : Int) (l : List Int) (c w : Int) : Int × List Int × Int :=
  if momB p l then (if hasB p c && hasB p w then (p, massL p l c w, 0) else (0, [], 2)) else (0, [], 1)
theorem massM_len (p : Int) (l : List Int) (c w : Int) (hl : l.length ≤ 1048576) : (massM p l c w).2.1.length ≤ 1048576 := by
  unfold massM; (repeat' split) <;> simp [massL, tab_len] <;> omega

end Go.Proofs.Ytehaffohdpjccaa.Ev
