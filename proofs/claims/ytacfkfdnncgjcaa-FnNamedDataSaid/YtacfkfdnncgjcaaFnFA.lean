/- Hankel matrices of the moments of data: their elimination in plain terms. Conditions: none. -/
/- The polynomials of data are orthogonal for their moments. Conditions: none. -/
import Derived.Test.YtacfkfdnncgjcaaFnDK
import Derived.Test.YtacfkfdnncgjcaaFnDP
set_option linter.unusedSimpArgs false
set_option linter.unusedVariables false
namespace Go.Proofs.Ytacfkfdnncgjcaa.Ev
open Go Go.Proofs
set_option maxRecDepth 4000
set_option maxHeartbeats 4000000

theorem sm_mulL (x : Int) (f : Nat → Int) : ∀ n, x * sm f n = sm (fun j => x * f j) n
  | 0 => by simp only [sm]; omega
  | n + 1 => by rw [sm, sm, Int.mul_add, sm_mulL x f n]
theorem sm_fst (f : Nat → Int) : ∀ n, sm f (n + 1) = f 0 + sm (fun i => f (i + 1)) n
  | 0 => by simp only [sm]; omega
  | n + 1 => by rw [sm, sm_fst f n, sm]; omega
theorem nrm_zero_cg (p : Int) (b : List Int) : cg p (nrm p b 0) (rdI b 0) := cg.refl _ _
theorem nrm_next_cg (p : Int) (b : List Int) (k : Nat) : cg p (nrm p b (k + 1)) (nrm p b k * rdI b (k + 1)) := (cg.md p _).trans (cg.of_eq (Int.mul_comm _ _))
theorem mA_nrm {p : Int} (a b : List Int) : ∀ (t j : Nat), j < a.length → cg p (rdI b 0 * mA p a b t j) (nrm p b j * wA p a b a.length 0 t j)
  | 0, j, hj => by
    rw [mA_zero p a b hj, wA_zero p a b j hj]
    by_cases c : j = 0
    · subst c
      rw [if_pos rfl]
      refine cg.mulR 1 ?_
      exact (nrm_zero_cg p b).symm
    · rw [if_neg c, if_neg (fun e => c e.symm)]; exact cg.of_eq (by omega)
  | t + 1, j, hj => by
    have e1 := cg.mulL (rdI b 0) (mA_next (p := p) a b t hj)
    have e2 := cg.mulL (nrm p b j) (wA_next (p := p) a b (r := a.length) 0 t hj)
    refine (e1.trans ?_).trans e2.symm
    have i0 := mA_nrm (p := p) a b t j hj
    have up : cg p (rdI b 0 * (if j + 1 < a.length then mA p a b t (j + 1) else 0)) (nrm p b j * (if j + 1 < a.length then rdI b (j + 1) * wA p a b a.length 0 t (j + 1) else 0)) := by
      by_cases c : j + 1 < a.length
      · rw [if_pos c, if_pos c]
        refine (mA_nrm a b t (j + 1) c).trans ?_
        refine (cg.mulR _ (nrm_next_cg p b j)).trans (cg.of_eq ?_)
        rw [Int.mul_assoc]
      · rw [if_neg c, if_neg c]; exact cg.of_eq (by omega)
    have dn : cg p (rdI b 0 * (if 0 < j then rdI b j * mA p a b t (j - 1) else 0)) (nrm p b j * (if 0 < j then wA p a b a.length 0 t (j - 1) else 0)) := by
      by_cases c : 0 < j
      · rw [if_pos c, if_pos c]
        obtain ⟨q, rfl⟩ : ∃ q, j = q + 1 := ⟨j - 1, by omega⟩
        rw [Nat.add_sub_cancel]
        have z := cg.mulL (rdI b (q + 1)) (mA_nrm (p := p) a b t q (by omega))
        have z2 := cg.mulR (wA p a b a.length 0 t q) (nrm_next_cg p b q)
        refine (cg.of_eq ?_).trans (z.trans ((cg.of_eq ?_).trans z2.symm))
        · rw [← Int.mul_assoc, ← Int.mul_assoc, Int.mul_comm (rdI b 0)]
        · rw [← Int.mul_assoc, Int.mul_comm (rdI b (q + 1))]
      · rw [if_neg c, if_neg c]; exact cg.of_eq (by omega)
    have z := ((cg.mulL (rdI a j) i0).add up).add dn
    refine (cg.of_eq ?_).trans (z.trans (cg.of_eq ?_))
    · grind
    · grind
theorem mA_split {p : Int} (a b : List Int) (h0 : 0 < a.length) : ∀ (i k : Nat), cg p (mA p a b (i + k) 0) (sm (fun j => wA p a b a.length 0 i j * mA p a b k j) a.length)
  | 0, k => by
    refine cg.of_eq ?_
    rw [Nat.zero_add, sm_congr (g := fun j => if j = 0 then mA p a b k j else 0) fun j hj => ?_, sm_one (fun j => mA p a b k j) h0]
    rw [wA_zero p a b j hj]
    by_cases c : j = 0
    · subst c; rw [if_pos rfl, if_pos rfl]; omega
    · rw [if_neg c, if_neg (fun e => c e.symm)]; omega
  | i + 1, k => by
    have e := mA_split (p := p) a b h0 i (k + 1)
    rw [show i + 1 + k = i + (k + 1) by omega]
    exact e.trans (wm_move a b i k).symm
/-- The part of a Hankel number that is left when c columns have been cleared. -/
def Rk (p : Int) (a b : List Int) (c i k : Nat) : Int := sm (fun j => if c ≤ j then wA p a b a.length 0 i j * (nrm p b j * wA p a b a.length 0 k j) else 0) a.length
theorem Rk_zero {p : Int} (a b : List Int) (h0 : 0 < a.length) (i k : Nat) : cg p (mo p a b (i + k)) (Rk p a b 0 i k) := by
  have e : cg p (mo p a b (i + k)) (rdI b 0 * mA p a b (i + k) 0) := cg.md p _
  refine e.trans ((cg.mulL _ (mA_split a b h0 i k)).trans ?_)
  unfold Rk
  have e2 : rdI b 0 * sm (fun j => wA p a b a.length 0 i j * mA p a b k j) a.length = sm (fun j => wA p a b a.length 0 i j * (rdI b 0 * mA p a b k j)) a.length := by
    rw [sm_mulL]
    exact sm_congr fun j hj => by rw [← Int.mul_assoc, ← Int.mul_assoc, Int.mul_comm (rdI b 0)]
  rw [e2]
  refine sm_cg fun j hj => ?_
  rw [if_pos (Nat.zero_le _)]
  exact cg.mulL _ (mA_nrm a b k j hj)
theorem wA_diag {p : Int} (hp : 2 ≤ p ∧ p ≤ 10007) (a b : List Int) : ∀ i, i < a.length → wA p a b a.length 0 i i = 1
  | 0, h => by rw [wA_zero p a b 0 h]; rfl
  | i + 1, h => by
    have e := wA_next (p := p) a b (r := a.length) 0 i (j := i + 1) h
    rw [wA_high hp a b a.length i (i + 1) (by omega), if_pos (by omega), Nat.add_sub_cancel, wA_diag hp a b i (by omega)] at e
    have e2 : (if i + 1 + 1 < a.length then rdI b (i + 1 + 1) * wA p a b a.length 0 i (i + 1 + 1) else 0) = 0 := by
      split
      · rw [wA_high hp a b a.length i _ (by omega)]; omega
      · rfl
    rw [e2] at e
    exact cg.eq (by omega) (e.trans (cg.of_eq (by omega))) (wA_fine hp ..) (by omega)
theorem Rk_step {p : Int} (a b : List Int) {c : Nat} (hc : c < a.length) (i k : Nat) : Rk p a b c i k = Rk p a b (c + 1) i k + wA p a b a.length 0 i c * (nrm p b c * wA p a b a.length 0 k c) := by
  unfold Rk
  have e : sm (fun j => if c ≤ j then wA p a b a.length 0 i j * (nrm p b j * wA p a b a.length 0 k j) else 0) a.length =
      sm (fun j => (if c + 1 ≤ j then wA p a b a.length 0 i j * (nrm p b j * wA p a b a.length 0 k j) else 0) + (if j = c then wA p a b a.length 0 i j * (nrm p b j * wA p a b a.length 0 k j) else 0)) a.length := sm_congr fun j hj => by
    by_cases h1 : j = c
    · subst h1; rw [if_pos (Nat.le_refl _), if_neg (by omega), if_pos rfl]; omega
    · by_cases h2 : c ≤ j
      · rw [if_pos h2, if_pos (by omega), if_neg h1]; omega
      · rw [if_neg h2, if_neg (by omega), if_neg h1]; omega
  rw [e, sm_add, sm_one (fun j => wA p a b a.length 0 i j * (nrm p b j * wA p a b a.length 0 k j)) hc]
theorem Rk_high {p : Int} (hp : 2 ≤ p ∧ p ≤ 10007) (a b : List Int) {c i : Nat} (h : i < c) (k : Nat) : Rk p a b c i k = 0 := by
  unfold Rk
  rw [sm_congr (g := fun _ => 0) fun j hj => ?_, sm_zero]
  split
  · rw [wA_high hp a b a.length i j (by omega)]; omega
  · rfl
theorem Rk_comm {p : Int} (a b : List Int) (c i k : Nat) : Rk p a b c i k = Rk p a b c k i := sm_congr fun j hj => by
  split
  · grind
  · rfl
/-- The pivot's row. -/
theorem Rk_row {p : Int} (hp : 2 ≤ p ∧ p ≤ 10007) (a b : List Int) {c : Nat} (hc : c < a.length) (k : Nat) : Rk p a b c c k = nrm p b c * wA p a b a.length 0 k c := by
  rw [Rk_step a b hc, Rk_high hp a b (by omega), wA_diag hp a b c hc]; omega
theorem Rk_col {p : Int} (hp : 2 ≤ p ∧ p ≤ 10007) (a b : List Int) {c : Nat} (hc : c < a.length) (i : Nat) : Rk p a b c i c = nrm p b c * wA p a b a.length 0 i c := by
  rw [Rk_comm, Rk_row hp a b hc]
end Go.Proofs.Ytacfkfdnncgjcaa.Ev

set_option linter.unusedSimpArgs false
set_option linter.unusedVariables false
namespace Go.Proofs.Ytacfkfdnncgjcaa.Ev
open Go Go.Proofs
set_option maxRecDepth 4000
set_option maxHeartbeats 4000000

/-! ### Elimination -/
theorem nrm_unit {p : Int} {a b : List Int} (h : jacB p a b = true) : ∀ k, k < a.length → 0 < nrm p b k ∧ nrm p b k < p
  | 0, hk => by have := jacB_b h hk; unfold nrm; omega
  | k + 1, hk => by
    have hp := jacB_prime h
    have r := nrm_range h (k + 1) hk
    have n := prime_nz (jacB_pr h) (by have := jacB_b h hk; omega : 0 < rdI b (k + 1) ∧ rdI b (k + 1) < p) (nrm_unit h k (by omega))
    have e : nrm p b (k + 1) = rdI b (k + 1) * nrm p b k % p := rfl
    omega
theorem Rk_pivot {p : Int} {a b : List Int} (h : jacB p a b = true) {c : Nat} (hc : c < a.length) : Rk p a b c c c % p = nrm p b c := by
  have hp := jacB_prime h
  rw [Rk_row hp a b hc, wA_diag hp a b c hc, Int.mul_one]
  have := nrm_unit h c hc
  exact Int.emod_eq_of_lt (by omega) (by omega)
theorem Rk_elim {p : Int} {a b : List Int} (h : jacB p a b = true) {c : Nat} (hc : c < a.length) (i k : Nat) :
    (Rk p a b c i k % p - ((Rk p a b c i c % p * invP p (Rk p a b c c c % p)) % p) * (Rk p a b c c k % p)) % p = Rk p a b (c + 1) i k % p := by
  have hp := jacB_prime h
  have u := nrm_unit h c hc
  rw [Rk_pivot h hc]
  refine cg.mod (by omega) ?_
  have f : cg p ((Rk p a b c i c % p * invP p (nrm p b c)) % p) (wA p a b a.length 0 i c) := by
    refine (cg.md p _).trans ((cg.mulR _ (cg.md p _)).trans ?_)
    rw [Rk_col hp a b hc]
    have z := cg.mulL (wA p a b a.length 0 i c) (inv_ok (jacB_pr h) u)
    refine (cg.of_eq ?_).trans (z.trans (cg.of_eq (by omega)))
    grind
  have o : cg p (Rk p a b c c k % p) (nrm p b c * wA p a b a.length 0 k c) := (cg.md p _).trans (cg.of_eq (Rk_row hp a b hc k))
  refine ((cg.md p (Rk p a b c i k)).sub (f.mul o)).trans (cg.of_eq ?_)
  rw [Rk_step a b hc]; omega
/-- The product of the pivots. -/
def dOut (p : Int) (b : List Int) : Nat → Int
  | 0 => 1
  | c + 1 => dOut p b c * nrm p b c % p
theorem dOut_unit {p : Int} {a b : List Int} (h : jacB p a b = true) : ∀ k, k ≤ a.length → 0 < dOut p b k ∧ dOut p b k < p
  | 0, _ => by have := jacB_prime h; show (0 : Int) < 1 ∧ (1 : Int) < p; omega
  | k + 1, hk => by
    have hp := jacB_prime h
    have n := prime_nz (jacB_pr h) (dOut_unit h k (by omega)) (nrm_unit h k (by omega))
    have r := mod_small hp (dOut p b k * nrm p b k)
    have e : dOut p b (k + 1) = dOut p b k * nrm p b k % p := rfl
    omega
/-! ### The polynomials and the weights are inverse to each other -/
def Qs (p : Int) (a b : List Int) (N i j : Nat) : Int := sm (fun s => Pc p a b i s * wA p a b a.length 0 s j) N
/-- What a product by x does. -/
theorem Qs_shift {p : Int} (a b : List Int) {N i j : Nat} (hj : j < a.length) :
    cg p (sm (fun s => Pc p a b i s * wA p a b a.length 0 (s + 1) j) N) (rdI a j * Qs p a b N i j + (if 0 < j then Qs p a b N i (j - 1) else 0) + (if j + 1 < a.length then rdI b (j + 1) * Qs p a b N i (j + 1) else 0)) := by
  have e : cg p (sm (fun s => Pc p a b i s * wA p a b a.length 0 (s + 1) j) N) (sm (fun s => (rdI a j * (Pc p a b i s * wA p a b a.length 0 s j) + (if 0 < j then Pc p a b i s * wA p a b a.length 0 s (j - 1) else 0)) + (if j + 1 < a.length then rdI b (j + 1) * (Pc p a b i s * wA p a b a.length 0 s (j + 1)) else 0)) N) := sm_cg fun s hs => by
    refine (cg.mulL _ (wA_next a b (r := a.length) 0 s hj)).trans (cg.of_eq ?_)
    split <;> split <;> grind
  refine e.trans (cg.of_eq ?_)
  rw [sm_add, sm_add, ← sm_mulL]
  congr 1
  · congr 1
    by_cases c : 0 < j
    · simp only [c, if_true]; rfl
    · simp only [c, if_false, sm_zero]
  · by_cases c : j + 1 < a.length
    · simp only [c, if_true]; rw [← sm_mulL]; rfl
    · simp only [c, if_false, sm_zero]
theorem Qs_next {p : Int} (a b : List Int) {N i : Nat} (hN : i + 2 ≤ N) (j : Nat) :
    cg p (Qs p a b N (i + 1) j) (sm (fun s => Pc p a b i s * wA p a b a.length 0 (s + 1) j) N - rdI a i * Qs p a b N i j - (if 0 < i then rdI b i * Qs p a b N (i - 1) j else 0)) := by
  have e : cg p (Qs p a b N (i + 1) j) (sm (fun s => ((if 0 < s then Pc p a b i (s - 1) * wA p a b a.length 0 s j else 0) - rdI a i * (Pc p a b i s * wA p a b a.length 0 s j)) - (if 0 < i then rdI b i * (Pc p a b (i - 1) s * wA p a b a.length 0 s j) else 0)) N) := sm_cg fun s hs => by
    refine (cg.mulR _ (Pc_next a b i s)).trans (cg.of_eq ?_)
    split <;> split <;> grind
  refine e.trans (cg.of_eq ?_)
  rw [sm_sub, sm_sub, ← sm_mulL]
  congr 1
  · congr 1
    obtain ⟨M, rfl⟩ : ∃ M, N = M + 1 := ⟨N - 1, by omega⟩
    rw [sm_fst, if_neg (by omega), Int.zero_add, sm, Pc_out (by omega : i < M), Int.zero_mul, Int.add_zero]
    exact sm_congr fun s hs => by rw [if_pos (by omega), Nat.add_sub_cancel]
  · by_cases c : 0 < i
    · simp only [c, if_true]; rw [← sm_mulL]; rfl
    · simp only [c, if_false, sm_zero]
theorem Qs_one {p : Int} (hp : 2 ≤ p ∧ p ≤ 10007) (a b : List Int) (N : Nat) : ∀ i, i < a.length → i + 1 ≤ N → (∀ j, j < a.length → cg p (Qs p a b N i j) (if i = j then 1 else 0)) ∧ (∀ j, j < a.length → 0 < i → cg p (Qs p a b N (i - 1) j) (if i - 1 = j then 1 else 0))
  | 0, h0, hN => by
    refine ⟨fun j hj => cg.of_eq ?_, fun _ _ h => absurd h (by omega)⟩
    unfold Qs
    rw [sm_congr (g := fun s => if s = 0 then wA p a b a.length 0 s j else 0) fun s hs => ?_, sm_one (fun s => wA p a b a.length 0 s j) (by omega), wA_zero p a b j hj]
    rw [Pc_zero]
    by_cases c : s = 0
    · rw [if_pos c, if_pos c]; omega
    · rw [if_neg c, if_neg c]; omega
  | i + 1, h1, hN => by
    obtain ⟨ih, ih2⟩ := Qs_one hp a b N i (by omega) (by omega)
    refine ⟨fun j hj => ?_, fun j hj _ => by rw [Nat.add_sub_cancel]; exact ih j hj⟩
    refine (Qs_next a b (by omega) j).trans ?_
    have s1 := Qs_shift (p := p) a b (N := N) (i := i) hj
    have q0 := cg.mulL (rdI a j) (ih j hj)
    have q1 : cg p (if 0 < j then Qs p a b N i (j - 1) else 0) (if 0 < j then (if i = j - 1 then 1 else 0) else 0) := by
      by_cases c : 0 < j
      · simp only [c, if_true]; exact ih (j - 1) (by omega)
      · simp only [c, if_false]; exact cg.refl _ _
    have q2 : cg p (if j + 1 < a.length then rdI b (j + 1) * Qs p a b N i (j + 1) else 0) (if j + 1 < a.length then rdI b (j + 1) * (if i = j + 1 then 1 else 0) else 0) := by
      by_cases c : j + 1 < a.length
      · simp only [c, if_true]; exact cg.mulL _ (ih (j + 1) c)
      · simp only [c, if_false]; exact cg.refl _ _
    have q3 := cg.mulL (rdI a i) (ih j hj)
    have q4 : cg p (if 0 < i then rdI b i * Qs p a b N (i - 1) j else 0) (if 0 < i then rdI b i * (if i - 1 = j then 1 else 0) else 0) := by
      by_cases c : 0 < i
      · simp only [c, if_true]; exact cg.mulL _ (ih2 j hj c)
      · simp only [c, if_false]; exact cg.refl _ _
    refine (((s1.trans ((q0.add q1).add q2)).sub q3).sub q4).trans (cg.of_eq ?_)
    by_cases c1 : i = j
    · subst c1
      simp only [if_true, show ¬ i = i + 1 by omega, show ¬ i + 1 = i by omega, if_false, Int.mul_zero]
      by_cases c0 : 0 < i
      · simp only [c0, if_true, show ¬ i = i - 1 by omega, show ¬ i - 1 = i by omega, if_false, Int.mul_zero, ite_self]; omega
      · simp only [c0, if_false, ite_self]; omega
    · by_cases c2 : i + 1 = j
      · subst c2
        simp only [show ¬ i = i + 1 by omega, show ¬ i = i + 1 + 1 by omega, show 0 < i + 1 by omega, Nat.add_sub_cancel, if_true, if_false, Int.mul_zero, ite_self, show ¬ i - 1 = i + 1 by omega]; omega
      · by_cases c3 : i = j + 1
        · subst c3
          simp only [show ¬ j + 1 = j by omega, show ¬ j + 1 + 1 = j by omega, show ¬ j + 1 = j - 1 by omega, show j + 1 < a.length by omega, show 0 < j + 1 by omega, Nat.add_sub_cancel, if_true, if_false, Int.mul_zero, ite_self]; omega
        · simp only [c1, c2, c3, if_false, Int.mul_zero, ite_self]
          have e0 : (if 0 < j then (if i = j - 1 then (1 : Int) else 0) else 0) = 0 := by
            split
            · rw [if_neg (by omega)]
            · rfl
          have e2 : (if 0 < i then rdI b i * (if i - 1 = j then (1 : Int) else 0) else 0) = 0 := by
            split
            · rw [if_neg (by omega)]; omega
            · rfl
          rw [e0, e2]; omega
end Go.Proofs.Ytacfkfdnncgjcaa.Ev
