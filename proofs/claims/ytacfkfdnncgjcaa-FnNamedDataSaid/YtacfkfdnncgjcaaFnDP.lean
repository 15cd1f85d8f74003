/- Fermat's theorem; inverses and quotients. Conditions: none. -/
/- Steps belong to multiplied moments; steps back are undone by steps. Conditions: none. -/
import Derived.Test.YtacfkfdnncgjcaaFnDJ
import Derived.Test.YtacfkfdnncgjcaaFnBN
import Derived.Test.YtacfkfdnncgjcaaFnDK
import Derived.Test.YtacfkfdnncgjcaaFnAD
set_option linter.unusedSimpArgs false
set_option linter.unusedVariables false
namespace Go.Proofs.Ytacfkfdnncgjcaa.Ev
open Go Go.Proofs
set_option maxRecDepth 4000
set_option maxHeartbeats 4000000

def ch : Nat → Nat → Nat
  | _, 0 => 1
  | 0, _ + 1 => 0
  | n + 1, k + 1 => ch n k + ch n (k + 1)
theorem ch_zero (n : Nat) : ch n 0 = 1 := by cases n <;> rfl
theorem ch_out : ∀ (n k : Nat), n < k → ch n k = 0
  | 0, k + 1, _ => rfl
  | n + 1, k + 1, h => by rw [ch, ch_out n k (by omega), ch_out n (k + 1) (by omega)]
theorem ch_top : ∀ n, ch n n = 1
  | 0 => rfl
  | n + 1 => by rw [ch, ch_top n, ch_out n (n + 1) (by omega)]
theorem ch_absorb : ∀ (n k : Nat), (k + 1) * ch (n + 1) (k + 1) = (n + 1) * ch n k
  | 0, 0 => rfl
  | 0, k + 1 => by
    show (k + 1 + 1) * (ch 0 (k + 1) + ch 0 (k + 1 + 1)) = (0 + 1) * ch 0 (k + 1)
    rw [ch_out 0 (k + 1) (by omega), ch_out 0 (k + 1 + 1) (by omega)]
    omega
  | n + 1, 0 => by
    have := ch_absorb n 0
    rw [ch_zero] at this ⊢
    rw [ch, ch_zero]; omega
  | n + 1, k + 1 => by
    have h1 := ch_absorb n k
    have h2 := ch_absorb n (k + 1)
    have e : ch (n + 1 + 1) (k + 1 + 1) = ch (n + 1) (k + 1) + ch (n + 1) (k + 1 + 1) := rfl
    have e2 : ch (n + 1) (k + 1) = ch n k + ch n (k + 1) := rfl
    rw [e]
    grind
theorem sm_front (f : Nat → Int) : ∀ n, sm f (n + 1) = f 0 + sm (fun i => f (i + 1)) n
  | 0 => by simp [sm]
  | n + 1 => by rw [sm, sm_front f n, sm]; omega
theorem sm_mul (f : Nat → Int) (x : Int) : ∀ n, sm (fun i => x * f i) n = x * sm f n
  | 0 => by simp [sm]
  | n + 1 => by rw [sm, sm, sm_mul f x n]; grind
theorem binom (x : Int) : ∀ n : Nat, (x + 1) ^ n = sm (fun k => (ch n k : Int) * x ^ k) (n + 1)
  | 0 => by simp [sm, ch]
  | n + 1 => by
    have e0 : sm (fun k => (ch (n + 1) k : Int) * x ^ k) (n + 1 + 1) = (ch (n + 1) 0 : Int) * x ^ 0 + sm (fun i => (ch (n + 1) (i + 1) : Int) * x ^ (i + 1)) (n + 1) := sm_front _ _
    rw [Int.pow_succ, binom x n, e0]
    have e1 : sm (fun i => (ch (n + 1) (i + 1) : Int) * x ^ (i + 1)) (n + 1) = x * sm (fun k => (ch n k : Int) * x ^ k) (n + 1) + sm (fun i => (ch n (i + 1) : Int) * x ^ (i + 1)) (n + 1) := by
      rw [← sm_mul, ← sm_add]
      refine sm_congr fun i _ => ?_
      show ((ch n i + ch n (i + 1) : Nat) : Int) * x ^ (i + 1) = _
      rw [Int.natCast_add, Int.pow_succ]; grind
    have e2 : sm (fun i => (ch n (i + 1) : Int) * x ^ (i + 1)) (n + 1) = sm (fun i => (ch n (i + 1) : Int) * x ^ (i + 1)) n := by
      rw [sm, ch_out n (n + 1) (by omega)]; grind
    have e3 : sm (fun k => (ch n k : Int) * x ^ k) (n + 1) = 1 + sm (fun i => (ch n (i + 1) : Int) * x ^ (i + 1)) n := by
      rw [sm_front, ch_zero]; simp
    rw [e1, e2, ch_zero]
    have e4 : (1 : Int) * x ^ 0 = 1 := by simp
    show _ * (x + 1) = ((1 : Nat) : Int) * x ^ 0 + _
    generalize sm (fun k => (ch n k : Int) * x ^ k) (n + 1) = S at *
    generalize sm (fun i => (ch n (i + 1) : Int) * x ^ (i + 1)) n = T at *
    simp only [Int.pow_zero]
    grind
theorem ch_prime {P : Nat} (h : primeB (P : Int) = true) {k : Nat} (hk : 0 < k) (hkP : k < P) : P ∣ ch P k := by
  obtain ⟨Q, rfl⟩ : ∃ Q, P = Q + 1 := ⟨P - 1, by omega⟩
  obtain ⟨j, rfl⟩ : ∃ j, k = j + 1 := ⟨k - 1, by omega⟩
  have ha := ch_absorb Q j
  have hd : (Q + 1) ∣ (j + 1) * ch (Q + 1) (j + 1) := ⟨ch Q j, ha⟩
  have hg : Nat.gcd (Q + 1) (j + 1) = 1 := by
    have g1 := Nat.gcd_dvd_left (Q + 1) (j + 1)
    have g2 := Nat.gcd_dvd_right (Q + 1) (j + 1)
    have g3 := Nat.le_of_dvd (by omega) g2
    have g0 : Nat.gcd (Q + 1) (j + 1) ≠ 0 := by
      intro z; rw [z] at g2; have := Nat.eq_zero_of_zero_dvd g2; omega
    apply Classical.byContradiction; intro z
    have := noDiv_all h (Nat.gcd (Q + 1) (j + 1)) (by omega) g1
    omega
  exact Nat.Coprime.dvd_of_dvd_mul_left (k := Q + 1) (m := j + 1) (n := ch (Q + 1) (j + 1)) hg hd
theorem dream {P : Nat} (h : primeB (P : Int) = true) (x : Int) : cg P ((x + 1) ^ P) (x ^ P + 1) := by
  have hp := prime_range h
  obtain ⟨Q, hQ⟩ : ∃ Q, P = Q + 1 := ⟨P - 1, by omega⟩
  rw [binom x P, sm, ch_top]
  have e : cg P (sm (fun k => (ch P k : Int) * x ^ k) P) 1 := by
    rw [hQ, sm_front, ← hQ]
    have z : cg P (sm (fun i => (ch P (i + 1) : Int) * x ^ (i + 1)) Q) (sm (fun _ => 0) Q) := sm_cg fun i hi => by
      obtain ⟨t, ht⟩ := ch_prime h (k := i + 1) (by omega) (by omega)
      exact ⟨t * x ^ (i + 1), by rw [ht]; rw [Int.natCast_mul]; grind⟩
    rw [sm_zero] at z
    refine ((cg.refl _ _).add z).trans (cg.of_eq ?_)
    rw [ch_zero]; simp
  refine (e.add (cg.refl _ _)).trans (cg.of_eq ?_)
  simp; omega
theorem fermat0 {P : Nat} (h : primeB (P : Int) = true) : ∀ X : Nat, cg P ((X : Int) ^ P) X
  | 0 => by
    have hp := prime_range h
    obtain ⟨Q, rfl⟩ : ∃ Q, P = Q + 1 := ⟨P - 1, by omega⟩
    exact cg.of_eq (by rw [Int.pow_succ]; simp)
  | X + 1 => by
    have := (dream h X).trans ((fermat0 h X).add (cg.refl _ 1))
    rw [Int.natCast_add]; exact this
/-- A number times its inverse. -/
theorem inv_ok {p x : Int} (h : primeB p = true) (hx : 0 < x ∧ x < p) : cg p (x * invP p x) 1 := by
  have hp := prime_range h
  obtain ⟨P, rfl⟩ : ∃ P : Nat, p = P := ⟨p.toNat, by omega⟩
  obtain ⟨X, rfl⟩ : ∃ X : Nat, x = X := ⟨x.toNat, by omega⟩
  obtain ⟨Q, hQ⟩ : ∃ Q, P = Q + 2 := ⟨P - 2, by omega⟩
  have hf := fermat0 h X
  have e : ((P : Int) - 2).toNat = Q := by omega
  have hs : cg P ((X : Int) * invP P X) ((X : Int) * (X : Int) ^ Q) := by unfold invP; rw [e]; exact (cg.md _ _).mulL _
  refine hs.trans ?_
  -- a number whose product with x is none of p's multiples, or 0
  have hz : ((X : Int) * (X : Int) ^ Q - 1) % P = 0 := by
    apply Classical.byContradiction; intro c
    have r := mod_small hp ((X : Int) * (X : Int) ^ Q - 1)
    have n := prime_nz h hx (y := ((X : Int) * (X : Int) ^ Q - 1) % P) ⟨by omega, r.2⟩
    apply n
    have z : cg P ((X : Int) * (((X : Int) * (X : Int) ^ Q - 1) % P)) 0 := by
      refine ((cg.md _ _).mulL _).trans ?_
      have e2 : (X : Int) * ((X : Int) * (X : Int) ^ Q - 1) = (X : Int) ^ P - X := by rw [hQ, Int.pow_succ, Int.pow_succ]; grind
      rw [e2]
      exact (hf.sub (cg.refl _ _)).trans (cg.of_eq (by omega))
    have := z.mod (by omega)
    rw [this]; simp
  have := Int.emod_add_mul_ediv ((X : Int) * (X : Int) ^ Q - 1) P
  exact ⟨((X : Int) * (X : Int) ^ Q - 1) / P, by rw [hz] at this; omega⟩
theorem div_ok {p y : Int} (x : Int) (h : primeB p = true) (hy : 0 < y ∧ y < p) : cg p (y * divP p x y) x := by
  unfold divP
  refine ((cg.md _ _).mulL _).trans ?_
  have := (inv_ok h hy).mulL x
  refine (cg.of_eq ?_).trans (this.trans (cg.of_eq (by omega)))
  grind
end Go.Proofs.Ytacfkfdnncgjcaa.Ev

set_option linter.unusedSimpArgs false
set_option linter.unusedVariables false
namespace Go.Proofs.Ytacfkfdnncgjcaa.Ev
open Go Go.Proofs
set_option maxRecDepth 4000
set_option maxHeartbeats 4000000

theorem jacB_pr {p : Int} {a b : List Int} (h : jacB p a b = true) : primeB p = true := by
  cases x : primeB p
  · simp [jacB, x] at h
  · rfl
theorem fz_all {f : Nat → Bool} : ∀ {n : Nat}, fz f n = n → ∀ k, k < n → f k = false
  | 0, _, k, h => by omega
  | n + 1, h, k, hk => by
    rw [fz] at h
    have hl := fz_le f n
    by_cases c : fz f n < n
    · rw [if_pos c] at h; omega
    · rw [if_neg c] at h
      have e : fz f n = n := by omega
      by_cases q : f n = true
      · rw [if_pos q] at h; omega
      · by_cases c2 : k = n
        · subst c2; simpa using q
        · exact fz_all e k (by omega)
theorem stp_unit {p c : Int} {a b : List Int} (h : jacB p a b = true) (ho : stOk p c a b = true) {k : Nat} (hk : k < a.length - 1) : 0 < (stp p c a b k).1 ∧ (stp p c a b k).1 < p := by
  simp only [stOk, Bool.and_eq_true, decide_eq_true_eq] at ho
  have r := (stp_range (jacB_prime h) c a b k).1
  have := fz_all ho.2 k hk
  unfold stZ at this
  simp only [decide_eq_false_iff_not] at this
  omega
theorem stp_a (p c : Int) (a b : List Int) : ∀ k, cg p (rdI a k) ((stp p c a b k).1 + (stp p c a b k).2 + c)
  | 0 => by
    have : cg p ((rdI a 0 - c - 0) % p) (rdI a 0 - c - 0) := cg.md _ _
    have h2 := this.add (cg.refl p (0 + c))
    refine (cg.trans (cg.of_eq ?_) h2.symm).trans (cg.of_eq ?_)
    · omega
    · show _ = (rdI a 0 - c - 0) % p + 0 + c; omega
  | k + 1 => by
    have : cg p ((rdI a (k + 1) - c - (stp p c a b (k + 1)).2) % p) (rdI a (k + 1) - c - (stp p c a b (k + 1)).2) := cg.md _ _
    have h2 := this.add (cg.refl p ((stp p c a b (k + 1)).2 + c))
    refine (cg.trans (cg.of_eq ?_) h2.symm).trans (cg.of_eq ?_)
    · omega
    · show _ = (rdI a (k + 1) - c - (stp p c a b (k + 1)).2) % p + (stp p c a b (k + 1)).2 + c; omega
theorem stp_b {p c : Int} {a b : List Int} (h : jacB p a b = true) (ho : stOk p c a b = true) {k : Nat} (hk : k < a.length - 1) : cg p (rdI b (k + 1)) ((stp p c a b k).1 * (stp p c a b (k + 1)).2) :=
  (div_ok (rdI b (k + 1)) (jacB_pr h) (stp_unit h ho hk)).symm
theorem mA_out (p : Int) (a b : List Int) {t i : Nat} (h : a.length ≤ i) : mA p a b t i = 0 := rdI_out (by rw [mT_len]; exact h)
theorem mA_fine {p : Int} (hp : 2 ≤ p ∧ p ≤ 10007) (a b : List Int) (t i : Nat) : 0 ≤ mA p a b t i ∧ mA p a b t i < p := mT_fine hp a b t i
theorem mA_high {p : Int} (hp : 2 ≤ p ∧ p ≤ 10007) (a b : List Int) : ∀ (t i : Nat), t < i → mA p a b t i = 0
  | 0, i, h => by
    by_cases c : i < a.length
    · rw [mA_zero p a b c, if_neg (by omega)]
    · exact mA_out p a b (by omega)
  | t + 1, i, h => by
    by_cases c : i < a.length
    · refine cg.eq (by omega) (p := p) ((mA_next a b t c).trans (cg.of_eq ?_)) (mA_fine hp _ _ _ _) ⟨by omega, by omega⟩
      rw [mA_high hp a b t i (by omega), mA_high hp a b t (i + 1) (by omega), mA_high hp a b t (i - 1) (by omega)]
      split <;> split <;> grind
    · exact mA_out p a b (by omega)
/-- The upper factor at the moments' vectors. -/
def nU (p c : Int) (a b : List Int) (t i : Nat) : Int := (stp p c a b i).1 * mA p a b t i + mA p a b t (i + 1)
theorem nU_next {p c : Int} {a b : List Int} (h : jacB p a b = true) (ho : stOk p c a b = true) (t : Nat) {i : Nat} (hi : i + 1 < a.length) :
    cg p (nU p c a b (t + 1) i) (((stp p c a b i).1 + (stp p c a b (i + 1)).2 + c) * nU p c a b t i + nU p c a b t (i + 1) + (if 0 < i then (stp p c a b i).1 * (stp p c a b i).2 * nU p c a b t (i - 1) else 0)) := by
  have x1 := mA_next (p := p) a b t (show i < a.length by omega)
  have x2 := mA_next (p := p) a b t hi
  have a1 := stp_a p c a b i
  have a2 := stp_a p c a b (i + 1)
  have b2 := stp_b h ho (k := i) (by omega)
  rw [if_pos hi] at x1
  have o2 : (if i + 1 + 1 < a.length then mA p a b t (i + 1 + 1) else 0) = mA p a b t (i + 1 + 1) := by
    split
    · rfl
    · exact (mA_out p a b (by omega)).symm
  rw [o2, if_pos (by omega), show i + 1 - 1 = i by omega] at x2
  have y2 := x2.trans (((a2.mulR _).add (cg.refl _ _)).add (b2.mulR _))
  by_cases c0 : 0 < i
  · rw [if_pos c0] at x1 ⊢
    have b1 := stp_b h ho (k := i - 1) (by omega)
    rw [show i - 1 + 1 = i by omega] at b1
    have y1 := x1.trans (((a1.mulR _).add (cg.refl _ _)).add (b1.mulR _))
    have z := (y1.mulL (stp p c a b i).1).add y2
    refine z.trans (cg.of_eq ?_)
    unfold nU
    rw [show i - 1 + 1 = i by omega]
    generalize (stp p c a b i).1 = qi at *
    generalize (stp p c a b i).2 = ei at *
    generalize (stp p c a b (i + 1)).1 = qj at *
    generalize (stp p c a b (i + 1)).2 = ej at *
    generalize (stp p c a b (i - 1)).1 = qh at *
    generalize mA p a b t i = mi at *
    generalize mA p a b t (i + 1) = mj at *
    generalize mA p a b t (i + 1 + 1) = mk at *
    generalize mA p a b t (i - 1) = mh at *
    clear x1 x2 a1 a2 b1 b2 y1 y2 z o2
    grind
  · have i0 : i = 0 := by omega
    subst i0
    rw [if_neg c0] at x1 ⊢
    have y1 := x1.trans (((a1.mulR _).add (cg.refl _ _)).add (cg.refl _ _))
    have z := (y1.mulL (stp p c a b 0).1).add y2
    refine z.trans (cg.of_eq ?_)
    unfold nU
    have e0 : (stp p c a b 0).2 = 0 := rfl
    rw [e0]
    generalize (stp p c a b 0).1 = qi at *
    generalize (stp p c a b (0 + 1)).1 = qj at *
    generalize (stp p c a b (0 + 1)).2 = ej at *
    generalize mA p a b t 0 = mi at *
    generalize mA p a b t (0 + 1) = mj at *
    generalize mA p a b t (0 + 1 + 1) = mk at *
    clear x1 x2 a1 a2 b2 y1 y2 z o2
    grind
theorem step_mA {p c : Int} {a b : List Int} (h : jacB p a b = true) (ho : stOk p c a b = true) : ∀ (t i : Nat), i + 1 < a.length → t + i < 2 * a.length - 2 →
    cg p (nU p c a b t i) ((stp p c a b 0).1 * mA p (tab (a.length - 1) (stA p c a b)) (tab (a.length - 1) (stB p c a b)) t i)
  | 0, i, hi, _ => by
    refine cg.of_eq ?_
    unfold nU
    rw [mA_zero p a b (by omega), mA_zero p a b hi, mA_zero p _ _ (by rw [tab_len]; omega), if_neg (show ¬ i + 1 = 0 by omega)]
    by_cases c0 : i = 0
    · subst c0; omega
    · rw [if_neg c0]; grind
  | t + 1, i, hi, ht => by
    have hp := jacB_prime h
    have lA : (tab (a.length - 1) (stA p c a b)).length = a.length - 1 := tab_len _ _
    have y := mA_next (p := p) (tab (a.length - 1) (stA p c a b)) (tab (a.length - 1) (stB p c a b)) t (i := i) (by rw [lA]; omega)
    rw [lA, tab_rd (by omega), tab_rd (by omega)] at y
    refine (nU_next h ho t hi).trans ?_
    have i0 := step_mA h ho t i hi (by omega)
    have i1 : cg p (nU p c a b t (i + 1)) (if i + 1 < a.length - 1 then (stp p c a b 0).1 * mA p (tab (a.length - 1) (stA p c a b)) (tab (a.length - 1) (stB p c a b)) t (i + 1) else 0) := by
      by_cases c1 : i + 1 < a.length - 1
      · rw [if_pos c1]; exact step_mA h ho t (i + 1) (by omega) (by omega)
      · rw [if_neg c1]
        unfold nU
        rw [mA_high hp a b t (i + 1) (by omega), mA_high hp a b t (i + 1 + 1) (by omega)]; exact cg.of_eq (by grind)
    have i2 : cg p (if 0 < i then (stp p c a b i).1 * (stp p c a b i).2 * nU p c a b t (i - 1) else 0) (if 0 < i then (stp p c a b i).1 * (stp p c a b i).2 * ((stp p c a b 0).1 * mA p (tab (a.length - 1) (stA p c a b)) (tab (a.length - 1) (stB p c a b)) t (i - 1)) else 0) :=
      cg.ite (fun c1 => (step_mA h ho t (i - 1) (by omega) (by omega)).mulL _) fun _ => cg.refl _ _
    have eA : cg p (stA p c a b i) ((stp p c a b i).1 + (stp p c a b (i + 1)).2 + c) := cg.md _ _
    have eB : 0 < i → cg p (stB p c a b i) ((stp p c a b i).1 * (stp p c a b i).2) := fun c1 => by
      unfold stB
      rw [if_neg (by omega)]
      exact cg.md _ _
    refine (((i0.mulL _).add i1).add i2).trans (cg.symm ?_)
    refine (y.mulL _).trans ?_
    generalize mA p (tab (a.length - 1) (stA p c a b)) (tab (a.length - 1) (stB p c a b)) t = M at *
    have w : cg p (stA p c a b i * M i + (if i + 1 < a.length - 1 then M (i + 1) else 0) + (if 0 < i then stB p c a b i * M (i - 1) else 0)) (((stp p c a b i).1 + (stp p c a b (i + 1)).2 + c) * M i + (if i + 1 < a.length - 1 then M (i + 1) else 0) + (if 0 < i then (stp p c a b i).1 * (stp p c a b i).2 * M (i - 1) else 0)) :=
      ((eA.mulR _).add (cg.refl _ _)).add (cg.ite (fun c1 => (eB c1).mulR _) fun _ => cg.refl _ _)
    refine (w.mulL _).trans (cg.of_eq ?_)
    clear w i0 i1 i2 eA eB y
    split <;> split <;> grind
/-- The moments of a step are the multiplied moments. -/
theorem step_moments {p c : Int} {a b : List Int} (h : jacB p a b = true) (ho : stOk p c a b = true) {t : Nat} (ht : t < 2 * a.length - 2) :
    mo p (tab (a.length - 1) (stA p c a b)) (tab (a.length - 1) (stB p c a b)) t = (mo p a b (t + 1) - c * mo p a b t) % p := by
  have hp := jacB_prime h
  have hr : 2 ≤ a.length := by simp only [stOk, Bool.and_eq_true, decide_eq_true_eq] at ho; exact ho.1
  refine cg.eq (by omega) (p := p) ?_ (mod_small hp _) (mod_small hp _)
  have s := step_mA h ho t 0 (by omega) (by omega)
  have x1 := mA_next (p := p) a b t (show 0 < a.length by omega)
  rw [if_pos (by omega), if_neg (by omega)] at x1
  have a1 := stp_a p c a b 0
  have e0 : (stp p c a b 0).2 = 0 := rfl
  rw [e0] at a1
  have y1 := x1.trans (((a1.mulR _).add (cg.refl _ _)).add (cg.refl _ _))
  have l1 : cg p (mo p (tab (a.length - 1) (stA p c a b)) (tab (a.length - 1) (stB p c a b)) t) (rdI b 0 * nU p c a b t 0) := by
    unfold mo
    refine (cg.md _ _).trans ?_
    rw [tab_rd (by omega)]
    have eB : cg p (stB p c a b 0) (rdI b 0 * (stp p c a b 0).1) := by
      unfold stB
      rw [if_pos rfl]
      exact cg.md _ _
    refine (eB.mulR _).trans ((cg.of_eq ?_).trans (s.symm.mulL (rdI b 0)))
    show rdI b 0 * (stp p c a b 0).1 * mA p _ _ t 0 = _
    grind
  refine l1.trans ?_
  refine cg.symm ((cg.md _ _).trans ?_)
  have m1 : cg p (mo p a b (t + 1)) (rdI b 0 * mA p a b (t + 1) 0) := cg.md _ _
  have m0 : cg p (mo p a b t) (rdI b 0 * mA p a b t 0) := cg.md _ _
  refine ((m1.trans (y1.mulL _)).sub (m0.mulL c)).trans (cg.of_eq ?_)
  unfold nU
  grind
/-! ### A step undoes a step back -/
theorem sb_unit {p c q : Int} {a b : List Int} (h : jacB p a b = true) (hq : unitB p q = true) (ho : sbOk p c q a b = true) : ∀ k, k < a.length → (0 < (sbk p c q a b k).1 ∧ (sbk p c q a b k).1 < p) ∧ (0 < k → 0 < (sbk p c q a b k).2 ∧ (sbk p c q a b k).2 < p) := by
  have hp := jacB_prime h
  have hr := unitB_range hq
  have he : ∀ k, k + 1 < a.length → 0 < (sbk p c q a b (k + 1)).2 ∧ (sbk p c q a b (k + 1)).2 < p := fun k hk => by
    have r := (sbk_range (c := c) hp (q := q) (by omega) a b (k + 1)).2
    unfold sbOk at ho
    have := List.all_eq_true.1 ho k (List.mem_range.2 (by omega))
    simp only [decide_eq_true_eq] at this
    omega
  intro k hk
  cases k with
  | zero => exact ⟨⟨by show 0 < q; omega, hr.2⟩, fun h => by omega⟩
  | succ k =>
    refine ⟨?_, fun _ => he k hk⟩
    have hb := jacB_b h hk
    exact divP_unit (jacB_pr h) (by omega) (he k hk)
theorem sb_jacB {p c q : Int} {a b : List Int} (h : jacB p a b = true) (hq : unitB p q = true) (ho : sbOk p c q a b = true) : jacB p (tab a.length (sbA p c q a b)) (tab a.length (sbB p c q a b)) = true := by
  have hp := jacB_prime h
  have hl := jacB_len h
  have hr := unitB_range hq
  have lb : (b.length = a.length) := hl.2.2
  have hB : ∀ k, k < a.length → 0 < sbB p c q a b k ∧ sbB p c q a b k < p := fun k hk => by
    cases k with
    | zero =>
      have hb := jacB_b h hk
      exact divP_unit (jacB_pr h) (by omega) ⟨by omega, hr.2⟩
    | succ k =>
      have u1 := (sb_unit h hq ho k (by omega)).1
      have u2 := (sb_unit h hq ho (k + 1) hk).2 (by omega)
      have r := mod_small hp ((sbk p c q a b k).1 * (sbk p c q a b (k + 1)).2)
      have n := prime_nz (jacB_pr h) u1 u2
      show 0 < (sbk p c q a b k).1 * (sbk p c q a b (k + 1)).2 % p ∧ (sbk p c q a b k).1 * (sbk p c q a b (k + 1)).2 % p < p
      rcases Int.lt_or_eq_of_le r.1 with g | g
      · exact ⟨g, r.2⟩
      · exact absurd g.symm n
  have key : ∀ {l : List Int} {f : Int → Bool}, (∀ k, k < l.length → f (rdI l k) = true) → l.all f = true := fun {l f} hk => by
    rw [List.all_eq_true]; intro x hx
    obtain ⟨k, hk', rfl⟩ := List.getElem_of_mem hx
    rw [rdI_get hk']; exact hk k hk'
  unfold jacB
  have k1 : upTo (tab a.length (sbA p c q a b)) 12 = true := by simp [upTo, tab_len]; omega
  have k2 : (tab a.length (sbA p c q a b)).all (hasB p) = true := key fun k hk => by
    rw [tab_len] at hk
    rw [tab_rd hk]
    have := mod_small hp ((sbk p c q a b k).1 + (sbk p c q a b k).2 + c)
    show (decide (0 ≤ sbA p c q a b k) && decide (sbA p c q a b k < p)) = true
    simp only [Bool.and_eq_true, decide_eq_true_eq]; exact this
  have k3 : (tab a.length (sbB p c q a b)).all (unitB p) = true := key fun k hk => by
    rw [tab_len] at hk
    rw [tab_rd hk]
    have := hB k hk
    simp [unitB]; omega
  rw [jacB_pr h, k1, k2, k3]
  simp [tab_len]
theorem sb_stp {p c q : Int} {a b : List Int} (h : jacB p a b = true) (hq : unitB p q = true) (ho : sbOk p c q a b = true) : ∀ k, k < a.length → stp p c (tab a.length (sbA p c q a b)) (tab a.length (sbB p c q a b)) k = sbk p c q a b k
  | 0, hk => by
    have hp := jacB_prime h
    have hr := unitB_range hq
    show ((rdI _ 0 - c - 0) % p, (0 : Int)) = (q, 0)
    rw [tab_rd hk]
    congr 1
    refine cg.eq (by omega) (p := p) ((cg.md _ _).trans ?_) (mod_small hp _) ⟨by omega, hr.2⟩
    have : cg p (sbA p c q a b 0) (q + 0 + c) := cg.md _ _
    exact ((this.sub (cg.refl _ _)).sub (cg.refl _ _)).trans (cg.of_eq (by omega))
  | k + 1, hk => by
    have hp := jacB_prime h
    have hr := unitB_range hq
    have ih := sb_stp h hq ho k (by omega)
    have u1 := (sb_unit h hq ho k (by omega)).1
    have u2 := (sb_unit h hq ho (k + 1) hk).2 (by omega)
    have u3 := (sb_unit h hq ho (k + 1) hk).1
    have e2 : divP p (rdI (tab a.length (sbB p c q a b)) (k + 1)) (stp p c (tab a.length (sbA p c q a b)) (tab a.length (sbB p c q a b)) k).1 = (sbk p c q a b (k + 1)).2 := by
      rw [ih, tab_rd hk]
      refine cg.eq (by omega) (p := p) ?_ (divP_range hp _ _) ⟨by omega, u2.2⟩
      have i1 := inv_ok (jacB_pr h) u1
      have : cg p (sbB p c q a b (k + 1)) ((sbk p c q a b k).1 * (sbk p c q a b (k + 1)).2) := cg.md _ _
      unfold divP
      refine (cg.md _ _).trans ((this.mulR _).trans ?_)
      have := i1.mulL (sbk p c q a b (k + 1)).2
      refine (cg.of_eq ?_).trans (this.trans (cg.of_eq (by omega)))
      grind
    show ((rdI (tab a.length (sbA p c q a b)) (k + 1) - c - divP p (rdI (tab a.length (sbB p c q a b)) (k + 1)) (stp p c (tab a.length (sbA p c q a b)) (tab a.length (sbB p c q a b)) k).1) % p, divP p (rdI (tab a.length (sbB p c q a b)) (k + 1)) (stp p c (tab a.length (sbA p c q a b)) (tab a.length (sbB p c q a b)) k).1) = sbk p c q a b (k + 1)
    rw [e2, tab_rd hk]
    have e1 : (sbA p c q a b (k + 1) - c - (sbk p c q a b (k + 1)).2) % p = (sbk p c q a b (k + 1)).1 := by
      refine cg.eq (by omega) (p := p) ((cg.md _ _).trans ?_) (mod_small hp _) ⟨by omega, u3.2⟩
      have : cg p (sbA p c q a b (k + 1)) ((sbk p c q a b (k + 1)).1 + (sbk p c q a b (k + 1)).2 + c) := cg.md _ _
      exact ((this.sub (cg.refl _ _)).sub (cg.refl _ _)).trans (cg.of_eq (by omega))
    rw [e1]
theorem step_back {p c q : Int} {a b : List Int} (h : jacB p a b = true) (hc : hasB p c = true) (hq : unitB p q = true) (ho : sbOk p c q a b = true) (hr : 2 ≤ a.length) :
    stepJ p (tab a.length (sbA p c q a b)) (tab a.length (sbB p c q a b)) c = (p, a.take (a.length - 1), b.take (a.length - 1), 0) := by
  have hp := jacB_prime h
  have hl := jacB_len h
  have ur := unitB_range hq
  have rc := hasB_range hc
  have lA : (tab a.length (sbA p c q a b)).length = a.length := tab_len _ _
  have hok : stOk p c (tab a.length (sbA p c q a b)) (tab a.length (sbB p c q a b)) = true := by
    unfold stOk
    rw [lA]
    have : stM p c (tab a.length (sbA p c q a b)) (tab a.length (sbB p c q a b)) = a.length - 1 := by
      unfold stM
      rw [lA]
      refine fz_spec (fun j hj => ?_) (Nat.le_refl _) (.inl rfl)
      unfold stZ
      rw [sb_stp h hq ho j (by omega)]
      have := (sb_unit h hq ho j (by omega)).1
      simp only [decide_eq_false_iff_not]; omega
    rw [this]; simp; omega
  unfold stepJ
  rw [sb_jacB h hq ho, hc, hok, lA]
  simp only [if_true]
  have eA : tab (a.length - 1) (stA p c (tab a.length (sbA p c q a b)) (tab a.length (sbB p c q a b))) = a.take (a.length - 1) := by
    symm
    apply eq_tab (by simp)
    intro k hk
    rw [rdI_take hk]
    unfold stA
    rw [sb_stp h hq ho k (by omega), sb_stp h hq ho (k + 1) (by omega)]
    have ra := jacB_a h (show k < a.length by omega)
    refine cg.eq (by omega) (p := p) ?_ ra (mod_small hp _)
    refine cg.symm ((cg.md _ _).trans ?_)
    have : cg p (sbk p c q a b (k + 1)).2 (rdI a k - c - (sbk p c q a b k).1) := cg.md _ _
    exact (((cg.refl _ _).add this).add (cg.refl _ _)).trans (cg.of_eq (by omega))
  have eB : tab (a.length - 1) (stB p c (tab a.length (sbA p c q a b)) (tab a.length (sbB p c q a b))) = b.take (a.length - 1) := by
    symm
    apply eq_tab (by simp; omega)
    intro k hk
    rw [rdI_take hk]
    unfold stB
    rw [sb_stp h hq ho k (by omega), sb_stp h hq ho 0 (by omega)]
    have rb := jacB_b h (show k < a.length by omega)
    by_cases k0 : k = 0
    · subst k0
      rw [if_pos rfl, tab_rd (by omega)]
      refine cg.eq (by omega) (p := p) ?_ ⟨by omega, rb.2⟩ (mod_small hp _)
      refine cg.symm ((cg.md _ _).trans ?_)
      have := div_ok (rdI b 0) (jacB_pr h) (y := q) ⟨by omega, ur.2⟩
      exact (cg.of_eq (Int.mul_comm _ _)).trans this
    · rw [if_neg k0]
      obtain ⟨j, rfl⟩ : ∃ j, k = j + 1 := ⟨k - 1, by omega⟩
      refine cg.eq (by omega) (p := p) ?_ ⟨by omega, rb.2⟩ (mod_small hp _)
      refine cg.symm ((cg.md _ _).trans ?_)
      have u2 := (sb_unit h hq ho (j + 1) (by omega)).2 (by omega)
      have := div_ok (rdI b (j + 1)) (jacB_pr h) u2
      exact (cg.of_eq (Int.mul_comm _ _)).trans this
  rw [eA, eB]
end Go.Proofs.Ytacfkfdnncgjcaa.Ev
