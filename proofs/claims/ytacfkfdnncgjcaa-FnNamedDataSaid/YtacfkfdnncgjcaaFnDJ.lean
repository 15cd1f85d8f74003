/- Congruence; coefficients of sums and products; finite sums. Conditions: none. -/
import Derived.Test.YtacfkfdnncgjcaaFnBE
set_option linter.unusedSimpArgs false
set_option linter.unusedVariables false
namespace Go.Proofs.Ytacfkfdnncgjcaa.Ev
open Go Go.Proofs
set_option maxRecDepth 4000
set_option maxHeartbeats 4000000

/-! ### Congruence -/
def cg (p x y : Int) : Prop := ∃ t, x = y + p * t
namespace cg
theorem refl (p x : Int) : cg p x x := ⟨0, by grind⟩
theorem of_eq {p x y : Int} (h : x = y) : cg p x y := h ▸ refl p x
theorem symm {p x y : Int} (h : cg p x y) : cg p y x := by obtain ⟨t, rfl⟩ := h; exact ⟨-t, by grind⟩
theorem trans {p x y z : Int} (h : cg p x y) (k : cg p y z) : cg p x z := by obtain ⟨t, rfl⟩ := h; obtain ⟨s, rfl⟩ := k; exact ⟨s + t, by grind⟩
theorem add {p x y u v : Int} (h : cg p x y) (k : cg p u v) : cg p (x + u) (y + v) := by obtain ⟨t, rfl⟩ := h; obtain ⟨s, rfl⟩ := k; exact ⟨s + t, by grind⟩
theorem sub {p x y u v : Int} (h : cg p x y) (k : cg p u v) : cg p (x - u) (y - v) := by obtain ⟨t, rfl⟩ := h; obtain ⟨s, rfl⟩ := k; exact ⟨t - s, by grind⟩
theorem neg {p x y : Int} (h : cg p x y) : cg p (-x) (-y) := by obtain ⟨t, rfl⟩ := h; exact ⟨-t, by grind⟩
theorem mul {p x y u v : Int} (h : cg p x y) (k : cg p u v) : cg p (x * u) (y * v) := by obtain ⟨t, rfl⟩ := h; obtain ⟨s, rfl⟩ := k; exact ⟨y * s + t * v + p * s * t, by grind⟩
theorem mulL {p u v : Int} (x : Int) (k : cg p u v) : cg p (x * u) (x * v) := mul (refl p x) k
theorem mulR {p u v : Int} (x : Int) (k : cg p u v) : cg p (u * x) (v * x) := mul k (refl p x)
theorem md (p x : Int) : cg p (x % p) x := ⟨-(x / p), by have := Int.emod_add_mul_ediv x p; grind⟩
theorem eq {p x y : Int} (hp : 0 < p) (h : cg p x y) (hx : 0 ≤ x ∧ x < p) (hy : 0 ≤ y ∧ y < p) : x = y := by
  obtain ⟨t, rfl⟩ := h
  rcases Int.lt_trichotomy t 0 with ht | ht | ht
  · have : p * t ≤ p * (-1) := Int.mul_le_mul_of_nonneg_left (by omega) (by omega)
    omega
  · subst ht; omega
  · have : p * 1 ≤ p * t := Int.mul_le_mul_of_nonneg_left (by omega) (by omega)
    omega
theorem mod {p x y : Int} (hp : 0 < p) (h : cg p x y) : x % p = y % p :=
  eq hp ((md p x).trans (h.trans (md p y).symm)) ⟨Int.emod_nonneg _ (by omega), Int.emod_lt_of_pos _ hp⟩ ⟨Int.emod_nonneg _ (by omega), Int.emod_lt_of_pos _ hp⟩
theorem iff_mod {p x y : Int} (h : x % p = y % p) : cg p x y := (md p x).symm.trans ((of_eq h).trans (md p y))
theorem ite {p x y u v : Int} {c : Prop} [Decidable c] (h : c → cg p x y) (k : ¬ c → cg p u v) : cg p (if c then x else u) (if c then y else v) := by
  split
  · exact h ‹_›
  · exact k ‹_›
end cg

/-! ### Finite sums -/
def sm (f : Nat → Int) : Nat → Int
  | 0 => 0
  | n + 1 => sm f n + f n
theorem sm_cg {p : Int} {f g : Nat → Int} : ∀ {n : Nat}, (∀ i, i < n → cg p (f i) (g i)) → cg p (sm f n) (sm g n)
  | 0, _ => cg.refl _ _
  | n + 1, h => (sm_cg fun i hi => h i (by omega)).add (h n (by omega))
theorem sm_congr {f g : Nat → Int} : ∀ {n : Nat}, (∀ i, i < n → f i = g i) → sm f n = sm g n
  | 0, _ => rfl
  | n + 1, h => by rw [sm, sm, sm_congr fun i hi => h i (by omega), h n (by omega)]
theorem sm_add (f g : Nat → Int) : ∀ n, sm (fun i => f i + g i) n = sm f n + sm g n
  | 0 => rfl
  | n + 1 => by simp only [sm, sm_add f g n]; omega
theorem sm_sub (f g : Nat → Int) : ∀ n, sm (fun i => f i - g i) n = sm f n - sm g n
  | 0 => rfl
  | n + 1 => by simp only [sm, sm_sub f g n]; omega
theorem sm_zero (n : Nat) : sm (fun _ => 0) n = 0 := by induction n with | zero => rfl | succ n ih => rw [sm, ih]; rfl
theorem sm_one {n k : Nat} (x : Nat → Int) (hk : k < n) : sm (fun i => if i = k then x i else 0) n = x k := by
  induction n with
  | zero => omega
  | succ n ih =>
    rw [sm]
    by_cases c : k = n
    · subst c
      rw [if_pos rfl, sm_congr (g := fun _ => 0) fun i hi => if_neg (by omega), sm_zero]; omega
    · rw [ih (by omega), if_neg (fun e => c e.symm)]; omega
/-- Shifting: what comes from below, and what goes up. -/
theorem sm_shift (f g : Nat → Int) : ∀ n, sm (fun i => if 0 < i then f (i - 1) * g i else 0) n = sm (fun i => if i + 1 < n then f i * g (i + 1) else 0) n
  | 0 => rfl
  | 1 => rfl
  | n + 2 => by
    have ih := sm_shift f g (n + 1)
    rw [sm, ih, if_pos (by omega)]
    have e1 : sm (fun i => if i + 1 < n + 2 then f i * g (i + 1) else 0) (n + 2) = sm (fun i => if i + 1 < n + 2 then f i * g (i + 1) else 0) (n + 1) + 0 := by
      rw [sm, if_neg (by omega)]
    have e2 : sm (fun i => if i + 1 < n + 1 then f i * g (i + 1) else 0) (n + 1) = sm (fun i => f i * g (i + 1)) n + 0 := by
      rw [sm, if_neg (by omega)]
      congr 1
      exact sm_congr fun i hi => if_pos (by omega)
    have e3 : sm (fun i => if i + 1 < n + 2 then f i * g (i + 1) else 0) (n + 1) = sm (fun i => f i * g (i + 1)) (n + 1) := sm_congr fun i hi => if_pos (by omega)
    rw [e1, e2, e3, sm]
    show _ + f (n + 1 - 1) * g (n + 1) = _
    rw [show n + 1 - 1 = n by omega]; omega

/-! ### Coefficients -/
theorem trimL_rd (f : List Int) (i : Nat) : rdI (trimL f) i = rdI f i := by
  have key : ∀ n, ∀ i, tln f n ≤ i → i < n → rdI f i = 0 := by
    intro n
    induction n with
    | zero => intro i _ h; omega
    | succ n ih =>
      intro i h1 h2
      unfold tln at h1
      split at h1
      · rename_i h0
        by_cases c : i = n
        · subst c; exact h0
        · exact ih i h1 (by omega)
      · omega
  by_cases c : i < tln f f.length
  · unfold trimL; exact rdI_take c
  · rw [rdI_out (by rw [trimL_len]; omega)]
    by_cases c2 : i < f.length
    · exact (key f.length i (by omega) c2).symm
    · exact (rdI_out (by omega)).symm
theorem addP_rd {p : Int} (f g : List Int) (k : Int) (j : Nat) : cg p (rdI (addP p f g k) j) (rdI f j + k * rdI g j) := by
  unfold addP; rw [trimL_rd]
  by_cases c : j < max f.length g.length
  · unfold addR; rw [inpl_at c]
    split
    · exact cg.md _ _
    · rename_i hg; rw [rdI_out (by omega : g.length ≤ j)]; exact cg.of_eq (by grind)
  · rw [rdI_out (by rw [addR_len]; omega), rdI_out (by omega : f.length ≤ j), rdI_out (by omega : g.length ≤ j)]; exact cg.of_eq (by grind)
theorem addAt_cg {p : Int} {l : List Int} {i : Nat} (x : Int) (h : i < l.length) (j : Nat) : cg p (rdI (addAt p l i x) j) (rdI l j + if j = i then x else 0) := by
  unfold addAt
  by_cases c : j < l.length
  · rw [rdI_set c]
    by_cases e : i = j
    · subst e; rw [if_pos rfl, if_pos rfl]; exact cg.md _ _
    · rw [if_neg e, if_neg (fun q => e q.symm)]; exact cg.of_eq (by omega)
  · rw [rdI_out (by simp; omega), rdI_out (by omega : l.length ≤ j), if_neg (by omega)]; exact cg.refl _ _
theorem mulK_cg {p : Int} (f g : List Int) (i : Nat) (A : List Int) : ∀ k, i + k ≤ A.length → ∀ j, cg p (rdI (mulK p f g i A k) j) (rdI A j + if i ≤ j ∧ j < i + k then rdI f i * rdI g (j - i) else 0)
  | 0, _, j => by rw [mulK, if_neg (by omega)]; exact cg.of_eq (by omega)
  | k + 1, h, j => by
    rw [mulK]
    refine (addAt_cg _ (by rw [mulK_len]; omega) j).trans ?_
    refine ((mulK_cg f g i A k (by omega) j).add (cg.refl _ _)).trans ?_
    by_cases e : j = i + k
    · subst e
      rw [if_pos rfl, if_neg (by omega), if_pos (by omega), show i + k - i = k by omega]; exact cg.of_eq (by omega)
    · rw [if_neg e]
      by_cases c : i ≤ j ∧ j < i + k
      · rw [if_pos c, if_pos (by omega)]; exact cg.of_eq (by omega)
      · rw [if_neg c, if_neg (by omega)]; exact cg.of_eq (by omega)
theorem mulP2_rd {p : Int} (x y : Int) (g : List Int) (j : Nat) : cg p (rdI (mulP p [x, y] g) j) (x * rdI g j + if 0 < j then y * rdI g (j - 1) else 0) := by
  unfold mulP
  by_cases hg : g.length = 0
  · rw [if_pos (.inr hg), rdI_out (by simp), rdI_out (by omega : g.length ≤ j)]
    split
    · rw [rdI_out (by omega : g.length ≤ j - 1)]; exact cg.of_eq (by grind)
    · exact cg.of_eq (by grind)
  · rw [if_neg (by simp; exact fun h => hg (by rw [h]; rfl)), trimL_rd]
    show cg p (rdI (mulI p [x, y] g 2) j) _
    rw [mulI, mulI, mulI]
    have h0 : ([x, y] : List Int).length + g.length - 1 = g.length + 1 := by simp; omega
    rw [h0]
    refine (mulK_cg _ _ _ _ _ (by rw [mulK_len]; simp; omega) j).trans ?_
    refine ((mulK_cg _ _ _ _ _ (by simp) j).add (cg.refl _ _)).trans ?_
    have z : rdI (List.replicate (g.length + 1) (0 : Int)) j = 0 := by
      simp [rdI, List.getD_eq_getElem?_getD, List.getElem?_replicate]; split <;> rfl
    rw [z]
    show cg p (0 + (if 0 ≤ j ∧ j < 0 + g.length then x * rdI g (j - 0) else 0) + (if 1 ≤ j ∧ j < 1 + g.length then y * rdI g (j - 1) else 0)) _
    refine ((cg.of_eq (Int.zero_add _)).add (cg.refl _ _)).trans (cg.add ?_ ?_)
    · split
      · rw [Nat.sub_zero]; exact cg.refl _ _
      · rw [rdI_out (by omega : g.length ≤ j)]; exact cg.of_eq (by grind)
    · by_cases c : 0 < j
      · rw [if_pos c]
        split
        · exact cg.refl _ _
        · rw [rdI_out (by omega : g.length ≤ j - 1)]; exact cg.of_eq (by grind)
      · rw [if_neg c, if_neg (by omega)]; exact cg.refl _ _
/-- The coefficients of the polynomials of data. -/
def Pc (p : Int) (a b : List Int) (i k : Nat) : Int := rdI (pl p a b i).1 k
theorem pl_snd (p : Int) (a b : List Int) (i : Nat) : (pl p a b (i + 1)).2 = (pl p a b i).1 := rfl
theorem Pc_zero (p : Int) (a b : List Int) (k : Nat) : Pc p a b 0 k = if k = 0 then 1 else 0 := by
  unfold Pc pl
  cases k with
  | zero => rfl
  | succ k => simp [rdI]
theorem Pc_out {p : Int} {a b : List Int} {i k : Nat} (h : i < k) : Pc p a b i k = 0 := rdI_out (by have := (pl_le p a b i).1; omega)
theorem Pc_next {p : Int} (a b : List Int) (i k : Nat) : cg p (Pc p a b (i + 1) k) ((if 0 < k then Pc p a b i (k - 1) else 0) - rdI a i * Pc p a b i k - (if 0 < i then rdI b i * Pc p a b (i - 1) k else 0)) := by
  show cg p (rdI (nextP p (rdI a i) (rdI b i) (pl p a b i).1 (pl p a b i).2) k) _
  unfold nextP
  refine (addP_rd _ _ _ _).trans ?_
  have e1 := mulP2_rd (p := p) ((-rdI a i) % p) 1 (pl p a b i).1 k
  have e2 : cg p ((-rdI a i) % p * rdI (pl p a b i).1 k) (-rdI a i * rdI (pl p a b i).1 k) := (cg.md _ _).mulR _
  have e3 : cg p ((-rdI b i) % p * rdI (pl p a b i).2 k) (-rdI b i * rdI (pl p a b i).2 k) := (cg.md _ _).mulR _
  refine ((e1.trans (e2.add (cg.refl _ _))).add e3).trans (cg.of_eq ?_)
  have h2 : rdI (pl p a b i).2 k = if 0 < i then Pc p a b (i - 1) k else 0 := by
    cases i with
    | zero => simp [pl, rdI]
    | succ i => rw [if_pos (by omega)]; rfl
  rw [h2]
  unfold Pc
  split <;> split <;> grind
theorem Pc_fine {p : Int} (hp : 2 ≤ p ∧ p ≤ 10007) (a b : List Int) (i k : Nat) : 0 ≤ Pc p a b i k ∧ Pc p a b i k < p := (pl_fine hp a b i).1 k
theorem Pc_top {p : Int} (hp : 2 ≤ p ∧ p ≤ 10007) (a b : List Int) : ∀ i, Pc p a b i i = 1
  | 0 => by rw [Pc_zero]; rfl
  | i + 1 => by
    refine cg.eq (by omega) (p := p) ((Pc_next a b i (i + 1)).trans (cg.of_eq ?_)) (Pc_fine hp _ _ _ _) ⟨by omega, by omega⟩
    rw [if_pos (by omega), show i + 1 - 1 = i by omega, Pc_top hp a b i, Pc_out (by omega : i < i + 1)]
    split
    · rw [Pc_out (by omega : i - 1 < i + 1)]; grind
    · grind
theorem pl_length {p : Int} (hp : 2 ≤ p ∧ p ≤ 10007) (a b : List Int) (i : Nat) : (pl p a b i).1.length = i + 1 := by
  have h1 := (pl_le p a b i).1
  have h2 := Pc_top hp a b i
  unfold Pc at h2
  by_cases c : i < (pl p a b i).1.length
  · omega
  · rw [rdI_out (by omega)] at h2; cases h2
end Go.Proofs.Ytacfkfdnncgjcaa.Ev
