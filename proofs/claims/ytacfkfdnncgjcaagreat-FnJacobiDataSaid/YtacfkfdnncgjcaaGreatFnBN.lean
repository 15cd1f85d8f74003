/- StepOfJacobi: both texts and the law. Conditions: none. -/
/- Data after a step are data again. Conditions: none. -/
import Derived.Test.YtacfkfdnncgjcaaGreatFnBA
set_option linter.unusedSimpArgs false
set_option linter.unusedVariables false
namespace Go.Proofs.YtacfkfdnncgjcaaGreat.Ev
open Go Go.Proofs
set_option maxRecDepth 4000
set_option maxHeartbeats 4000000

/-- The first place where a test holds. -/
def fz (f : Nat → Bool) : Nat → Nat
  | 0 => 0
  | n + 1 => if fz f n < n then fz f n else if f n then n else n + 1
theorem fz_spec {f : Nat → Bool} : ∀ {n k : Nat}, (∀ j, j < k → f j = false) → k ≤ n → (k = n ∨ f k = true) → fz f n = k
  | 0, k, _, h, _ => by rw [fz]; omega
  | n + 1, k, h1, h2, h3 => by
    rw [fz]
    by_cases c : k < n
    · rw [fz_spec (n := n) h1 (by omega) (h3.elim (fun h => absurd h (by omega)) Or.inr), if_pos c]
    · rw [fz_spec (n := n) (k := n) (fun j hj => h1 j (by omega)) (Nat.le_refl _) (.inl rfl), if_neg (by omega)]
      by_cases c2 : k = n
      · subst c2
        rcases h3 with h | h
        · omega
        · rw [if_pos h]
      · have : k = n + 1 := by omega
        subst this
        rw [h1 n (by omega)]; simp
/-- The numbers q and e of a step. -/
def stp (p c : Int) (a b : List Int) : Nat → Int × Int
  | 0 => ((rdI a 0 - c - 0) % p, 0)
  | k + 1 => ((rdI a (k + 1) - c - divP p (rdI b (k + 1)) (stp p c a b k).1) % p, divP p (rdI b (k + 1)) (stp p c a b k).1)
def stA (p c : Int) (a b : List Int) (k : Nat) : Int := ((stp p c a b k).1 + (stp p c a b (k + 1)).2 + c) % p
def stB (p c : Int) (a b : List Int) (k : Nat) : Int := if k = 0 then rdI b 0 * (stp p c a b 0).1 % p else (stp p c a b k).1 * (stp p c a b k).2 % p
def stZ (p c : Int) (a b : List Int) (k : Nat) : Bool := decide ((stp p c a b k).1 = 0)
def stM (p c : Int) (a b : List Int) : Nat := fz (stZ p c a b) (a.length - 1)
def stOk (p c : Int) (a b : List Int) : Bool := decide (2 ≤ a.length) && decide (stM p c a b = a.length - 1)
theorem stp_range {p : Int} (hp : 2 ≤ p ∧ p ≤ 10007) (c : Int) (a b : List Int) : ∀ k, (0 ≤ (stp p c a b k).1 ∧ (stp p c a b k).1 < p) ∧ 0 ≤ (stp p c a b k).2 ∧ (stp p c a b k).2 < p
  | 0 => ⟨mod_small hp _, by show 0 ≤ (0 : Int) ∧ (0 : Int) < p; omega⟩
  | k + 1 => ⟨mod_small hp _, divP_range hp _ _⟩
theorem stM_le (p c : Int) (a b : List Int) : stM p c a b ≤ a.length - 1 := by
  unfold stM
  generalize a.length - 1 = n
  induction n with
  | zero => exact Nat.le_refl _
  | succ n ih => rw [fz]; (repeat' split) <;> omega
def stI (p c : Int) (a b : List Int) : Int × List Int × List Int × Bool := if stOk p c a b then (p, tab (a.length - 1) (stA p c a b), tab (a.length - 1) (stB p c a b), true) else (0, [], [], false)
def stepJ (p : Int) (a b : List Int) (c : Int) : Int × List Int × List Int × Int :=
  if jacB p a b then (if hasB p c then (if stOk p c a b then (p, tab (a.length - 1) (stA p c a b), tab (a.length - 1) (stB p c a b), 0) else (0, [], [], 5)) else (0, [], [], 2)) else (0, [], [], 1)
theorem stepJ_len (p : Int) (a b : List Int) (c : Int) (ha : a.length ≤ 1048576) (hb : b.length ≤ 1048576) : (stepJ p a b c).2.1.length ≤ 1048576 ∧ (stepJ p a b c).2.2.1.length ≤ 1048576 := by
  unfold stepJ
  (repeat' split) <;> simp [tab_len] <;> omega
end Go.Proofs.YtacfkfdnncgjcaaGreat.Ev

set_option linter.unusedSimpArgs false
set_option linter.unusedVariables false
namespace Go.Proofs.YtacfkfdnncgjcaaGreat.Ev
open Go Go.Proofs
set_option maxRecDepth 4000
set_option maxHeartbeats 4000000

theorem noDiv_small {P : Nat} (h : noDiv (P : Int) 2 = true) (hp : P ≤ 10007) (m : Nat) (h2 : 2 ≤ m) (hm : m * m ≤ P) (hd : m ∣ P) : False := by
  have hm1 : m < 101 := by
    apply Classical.byContradiction; intro c
    have := Nat.mul_le_mul (show 101 ≤ m by omega) (show 101 ≤ m by omega)
    omega
  unfold noDiv at h
  have := List.all_eq_true.1 h m (List.mem_range.2 hm1)
  simp only [Bool.or_eq_true, decide_eq_true_eq, Bool.not_eq_true', decide_eq_false_iff_not] at this
  rcases this with (c | c) | c
  · omega
  · have e : (m : Int) * m = ((m * m : Nat) : Int) := by simp
    rw [e] at c; omega
  · apply c
    obtain ⟨e, rfl⟩ := hd
    rw [show ((m * e : Nat) : Int) = (m : Int) * e by simp]
    exact Int.mul_tmod_right ..
theorem noDiv_all {P : Nat} (h : primeB (P : Int) = true) (d : Nat) (h2 : 2 ≤ d) (hd : d ∣ P) : d = P := by
  have hp := prime_range h
  simp only [primeB, Bool.and_eq_true, decide_eq_true_eq] at h
  have hn := h.2
  obtain ⟨e, he⟩ := hd
  have e0 : e ≠ 0 := by intro c; subst c; rw [Nat.mul_zero] at he; omega
  by_cases e1 : e = 1
  · subst e1; omega
  · exfalso
    by_cases c : d ≤ e
    · exact noDiv_small hn (by omega) d h2 (by rw [he]; exact Nat.mul_le_mul_left d c) ⟨e, he⟩
    · exact noDiv_small hn (by omega) e (by omega) (by rw [he]; exact Nat.mul_le_mul_right e (by omega)) ⟨d, by rw [he, Nat.mul_comm]⟩
/-- A product of units of a prime is none of its multiples. -/
theorem prime_nz {p x y : Int} (h : primeB p = true) (hx : 0 < x ∧ x < p) (hy : 0 < y ∧ y < p) : x * y % p ≠ 0 := by
  have hp := prime_range h
  obtain ⟨P, rfl⟩ : ∃ P : Nat, p = P := ⟨p.toNat, by omega⟩
  obtain ⟨X, rfl⟩ : ∃ X : Nat, x = X := ⟨x.toNat, by omega⟩
  obtain ⟨Y, rfl⟩ : ∃ Y : Nat, y = Y := ⟨y.toNat, by omega⟩
  intro c
  have hd : P ∣ X * Y := by
    have := Int.dvd_of_emod_eq_zero c
    rw [show (X : Int) * Y = ((X * Y : Nat) : Int) by simp] at this
    exact Int.natCast_dvd_natCast.1 this
  have hg : Nat.gcd P X = 1 := by
    have g1 := Nat.gcd_dvd_left P X
    have g2 := Nat.gcd_dvd_right P X
    have g3 := Nat.le_of_dvd (by omega) g2
    have g0 : Nat.gcd P X ≠ 0 := by
      intro z; rw [z] at g2; have := Nat.eq_zero_of_zero_dvd g2; omega
    apply Classical.byContradiction; intro z
    have := noDiv_all h (Nat.gcd P X) (by omega) g1
    omega
  have : P ∣ Y := (Nat.Coprime.dvd_of_dvd_mul_left (k := P) (m := X) (n := Y) hg hd)
  have := Nat.le_of_dvd (by omega) this
  omega
theorem pow_nz {p x : Int} (h : primeB p = true) (hx : 0 < x ∧ x < p) : ∀ n : Nat, 0 < x ^ n % p
  | 0 => by
    have hp := prime_range h
    rw [Int.pow_zero, Int.emod_eq_of_lt (by omega) (by omega)]; omega
  | n + 1 => by
    have hp := prime_range h
    have ih := pow_nz h hx n
    have r := mod_small hp (x ^ n)
    have e : x ^ (n + 1) % p = x ^ n % p * x % p := by rw [Int.pow_succ, Int.mul_emod (x ^ n) x p, Int.mul_emod (x ^ n % p) x p, Int.emod_emod_of_dvd _ (Int.dvd_refl p)]
    have := prime_nz h ⟨ih, r.2⟩ hx
    have r2 := mod_small hp (x ^ n % p * x)
    rw [e]; omega
theorem divP_unit {p x y : Int} (h : primeB p = true) (hx : 0 < x ∧ x < p) (hy : 0 < y ∧ y < p) : 0 < divP p x y ∧ divP p x y < p := by
  have hp := prime_range h
  have i0 : 0 < invP p y := pow_nz h hy _
  have i1 := invP_range hp y
  have := prime_nz h hx ⟨i0, i1.2⟩
  have r := divP_range hp x y
  have : divP p x y ≠ 0 := this
  omega
theorem fz_le (f : Nat → Bool) : ∀ n, fz f n ≤ n
  | 0 => Nat.le_refl _
  | n + 1 => by rw [fz]; have := fz_le f n; (repeat' split) <;> omega
/-- Data after a step. -/
theorem step_jacB {p c : Int} {a b : List Int} (h : jacB p a b = true) (ho : stOk p c a b = true) : jacB p (tab (a.length - 1) (stA p c a b)) (tab (a.length - 1) (stB p c a b)) = true := by
  have hp := jacB_prime h
  have hl := jacB_len h
  have pr : primeB p = true := by
    cases x : primeB p
    · simp [jacB, x] at h
    · rfl
  simp only [stOk, Bool.and_eq_true, decide_eq_true_eq] at ho
  have hz : ∀ k, k < a.length - 1 → 0 < (stp p c a b k).1 ∧ (stp p c a b k).1 < p := by
    intro k hk
    have r := (stp_range hp c a b k).1
    have hne : stZ p c a b k = false := by
      have := ho.2
      unfold stM at this
      generalize hN : a.length - 1 = N at *
      clear ho hl hN
      have key : ∀ n, fz (stZ p c a b) n = n → ∀ k, k < n → stZ p c a b k = false := by
        intro n
        induction n with
        | zero => intro _ k hk; omega
        | succ n ih =>
          intro e k hk
          rw [fz] at e
          split at e
          · omega
          · split at e
            · omega
            · rename_i q1 q2
              by_cases ck : k = n
              · subst ck; simpa using q2
              · have l1 := fz_le (stZ p c a b) n
                exact ih (by omega) k (by omega)
      exact key N this k hk
    simp only [stZ, decide_eq_false_iff_not] at hne
    omega
  have hA : (tab (a.length - 1) (stA p c a b)).all (hasB p) = true := by
    rw [List.all_eq_true]; intro x hx
    obtain ⟨k, hk, rfl⟩ := List.mem_map.1 hx
    have := mod_small hp ((stp p c a b k).1 + (stp p c a b (k + 1)).2 + c)
    simp only [hasB, stA, Bool.and_eq_true, decide_eq_true_eq]; exact ⟨decide_eq_true this.1, decide_eq_true this.2⟩
  have hB : (tab (a.length - 1) (stB p c a b)).all (unitB p) = true := by
    rw [List.all_eq_true]; intro x hx
    obtain ⟨k, hk, rfl⟩ := List.mem_map.1 hx
    have hk := List.mem_range.1 hk
    have q := hz k hk
    simp only [unitB, Bool.and_eq_true, decide_eq_true_eq]
    unfold stB
    split
    · rename_i k0; subst k0
      have bb := jacB_b h (show 0 < a.length by omega)
      have n := prime_nz pr (show 0 < rdI b 0 ∧ rdI b 0 < p by omega) q
      have r := mod_small hp (rdI b 0 * (stp p c a b 0).1)
      omega
    · rename_i k0
      obtain ⟨j, rfl⟩ : ∃ j, k = j + 1 := ⟨k - 1, by omega⟩
      have bb := jacB_b h (show j + 1 < a.length by omega)
      have qj := hz j (by omega)
      have dd := divP_unit pr (show 0 < rdI b (j + 1) ∧ rdI b (j + 1) < p by omega) qj
      have e : (stp p c a b (j + 1)).2 = divP p (rdI b (j + 1)) (stp p c a b j).1 := rfl
      rw [← e] at dd
      have n := prime_nz pr q dd
      have r := mod_small hp ((stp p c a b (j + 1)).1 * (stp p c a b (j + 1)).2)
      omega
  unfold jacB
  rw [hA, hB, pr]
  simp [upTo, tab_len]; omega
end Go.Proofs.YtacfkfdnncgjcaaGreat.Ev
