/- TimesX: both texts and the law. Conditions: none. -/
import Derived.Test.YtacfkfdnncgjcaaFnBG
set_option linter.unusedSimpArgs false
set_option linter.unusedVariables false
namespace Go.Proofs.Ytacfkfdnncgjcaa.Ev
open Go Go.Proofs
set_option maxRecDepth 4000
set_option maxHeartbeats 4000000

/-- What a number of the product by x is after so many steps. -/
def txG (a b cs : List Int) (i j : Nat) : Int := (if 0 < j ∧ j ≤ i then rdI cs (j - 1) else 0) + (if j < i then rdI a j * rdI cs j else 0) + (if j + 1 < i then rdI b (j + 1) * rdI cs (j + 1) else 0)
def txS (p : Int) (a b cs : List Int) : Nat → List Int
  | 0 => List.replicate (cs.length + 1) 0
  | i + 1 =>
    let A := addAt p (addAt p (txS p a b cs i) (i + 1) (rdI cs i)) i (rdI a i * rdI cs i)
    if 0 < i then addAt p A (i - 1) (rdI b i * rdI cs i) else A
theorem txS_len (p : Int) (a b cs : List Int) : ∀ i, (txS p a b cs i).length = cs.length + 1
  | 0 => by simp [txS]
  | i + 1 => by
    have ih := txS_len p a b cs i
    simp only [txS]; split <;> simp [addAt_len, ih]
theorem txS_fine {p : Int} (hp : 2 ≤ p ∧ p ≤ 10007) (a b cs : List Int) : ∀ i, fine p (txS p a b cs i)
  | 0 => zeros_fine hp.1 _
  | i + 1 => by
    have h2 := addAt_fine hp (addAt_fine hp (txS_fine hp a b cs i) (i + 1) (rdI cs i)) i (rdI a i * rdI cs i)
    simp only [txS]; split
    · exact addAt_fine hp h2 _ _
    · exact h2
theorem txS_rd {p : Int} (hp : 2 ≤ p ∧ p ≤ 10007) (a b cs : List Int) : ∀ i, i ≤ cs.length → ∀ j, j ≤ cs.length → rdI (txS p a b cs i) j = txG a b cs i j % p
  | 0, _, j, hj => by
    have : txG a b cs 0 j = 0 := by unfold txG; rw [if_neg (by omega), if_neg (by omega), if_neg (by omega)]; rfl
    rw [txS, rdI_zeros, this]; simp
  | i + 1, hi, j, hj => by
    have ih := txS_rd hp a b cs i (by omega) j hj
    have l := txS_len p a b cs i
    simp only [txS]
    have key : ∀ (A : List Int) (k : Nat) (x : Int), A.length = cs.length + 1 → rdI (addAt p A k x) j = if k = j then (rdI A k + x) % p else rdI A j := fun A k x hA => addAt_rd (by omega)
    have e1 : txG a b cs (i + 1) j = txG a b cs i j + (if i + 1 = j then rdI cs i else 0) + (if i = j then rdI a i * rdI cs i else 0) + (if 0 < i ∧ i - 1 = j then rdI b i * rdI cs i else 0) := by
      unfold txG
      by_cases c1 : i + 1 = j
      · subst c1
        rw [show i + 1 - 1 = i by omega]
        (repeat' split) <;> omega
      · by_cases c2 : i = j
        · subst c2
          (repeat' split) <;> omega
        · by_cases c3 : 0 < i ∧ i - 1 = j
          · obtain ⟨c3, rfl⟩ := c3
            rw [show i - 1 + 1 = i by omega]
            (repeat' split) <;> omega
          · have h1 : (0 < j ∧ j ≤ i + 1) ↔ (0 < j ∧ j ≤ i) := by omega
            have h2 : (j < i + 1) ↔ (j < i) := by omega
            have h3 : (j + 1 < i + 1) ↔ (j + 1 < i) := by omega
            simp only [c1, c2, c3, h1, h2, h3, if_false]; omega
    rw [e1]
    by_cases c1 : i + 1 = j
    · have c2 : ¬ i = j := by omega
      have c3 : ¬ i - 1 = j := by omega
      have c4 : ¬ (0 < i ∧ i - 1 = j) := fun h => c3 h.2
      have r : rdI (addAt p (addAt p (txS p a b cs i) (i + 1) (rdI cs i)) i (rdI a i * rdI cs i)) j = (txG a b cs i j % p + rdI cs i) % p := by
        rw [key _ _ _ (by simp [addAt_len, l]), if_neg c2, key _ _ _ l, if_pos c1, c1, ih]
      rw [if_pos c1, if_neg c2, if_neg c4, Int.add_zero, Int.add_zero, ← Int.emod_add_emod, ← r]
      split
      · rw [key _ _ _ (by simp [addAt_len, l]), if_neg c3]
      · rfl
    by_cases c2 : i = j
    · have c4 : ¬ (0 < i ∧ i - 1 = j) := by omega
      have r : rdI (addAt p (addAt p (txS p a b cs i) (i + 1) (rdI cs i)) i (rdI a i * rdI cs i)) j = (txG a b cs i j % p + rdI a i * rdI cs i) % p := by
        rw [key _ _ _ (by simp [addAt_len, l]), if_pos c2, c2]
        rw [show rdI (addAt p (txS p a b cs j) (j + 1) (rdI cs j)) j = rdI (txS p a b cs j) j by rw [addAt_rd (by rw [txS_len]; omega), if_neg (by omega)]]
        rw [← c2] at ih ⊢; rw [ih]
      rw [if_neg c1, if_pos c2, if_neg c4, Int.add_zero, Int.add_zero, ← Int.emod_add_emod, ← r]
      split
      · rw [key _ _ _ (by simp [addAt_len, l]), if_neg (by omega)]
      · rfl
    have r : rdI (addAt p (addAt p (txS p a b cs i) (i + 1) (rdI cs i)) i (rdI a i * rdI cs i)) j = txG a b cs i j % p := by
      rw [key _ _ _ (by simp [addAt_len, l]), if_neg c2, key _ _ _ l, if_neg c1, ih]
    by_cases c3 : 0 < i ∧ i - 1 = j
    · rw [if_neg c1, if_neg c2, if_pos c3, if_pos c3.1, key _ _ _ (by simp [addAt_len, l]), if_pos c3.2, c3.2, r, Int.add_zero, Int.add_zero, Int.emod_add_emod]
    · rw [if_neg c1, if_neg c2, if_neg c3, Int.add_zero, Int.add_zero, Int.add_zero, ← r]
      split
      · rename_i h0
        rw [key _ _ _ (by simp [addAt_len, l]), if_neg fun h => c3 ⟨h0, h⟩]
      · rfl
def lastB (cs : List Int) : Bool := decide (cs.length = 0) || !decide (rdI cs (cs.length - 1) = 0)
def tmB (p : Int) (a cs : List Int) : Bool := decide ((cs.length : Int) ≤ a.length) && cs.all (hasB p)
def timesL (p : Int) (a b cs : List Int) : List Int := if cs.length = 0 then [] else tab (cs.length + 1) fun j => txG a b cs cs.length j % p
def timesR (p : Int) (a b cs : List Int) : List Int × Int := if jacB p a b then (if tmB p a cs && lastB cs then (timesL p a b cs, 0) else ([], 2)) else ([], 1)
theorem timesR_len (p : Int) (a b cs : List Int) (ha : a.length ≤ 1048576) (hb : b.length ≤ 1048576) (hc : cs.length ≤ 1048576) : (timesR p a b cs).1.length ≤ 1048576 := by
  unfold timesR
  split
  · split
    · rename_i h1 h2
      simp only [tmB, Bool.and_eq_true, decide_eq_true_eq] at h2
      have := (jacB_len h1).2.1
      simp only [timesL]
      split <;> simp [tab_len] <;> omega
    · simp
  · simp
theorem lastB_trim (cs : List Int) : decide ((trimL cs).length = cs.length) = lastB cs := by
  unfold lastB
  rw [trimL_len]
  rcases h : cs.length with _ | n
  · simp [tln]
  · rw [tln]
    have := tln_le cs n
    simp only [Nat.add_sub_cancel]
    split <;> simp_all <;> omega
theorem txG_range {p : Int} {a b cs : List Int} (h : jacB p a b = true) (hf : fine p cs) (hl : cs.length ≤ a.length) (i j : Nat) (hi : i ≤ cs.length) : 0 ≤ txG a b cs i j ∧ txG a b cs i j ≤ 300000000 := by
  have hp := jacB_prime h
  have c1 := hf (j - 1)
  have c2 := hf j
  have c3 := hf (j + 1)
  unfold txG
  have t2 : 0 ≤ (if j < i then rdI a j * rdI cs j else 0) ∧ (if j < i then rdI a j * rdI cs j else 0) ≤ 100140049 := by
    split
    · have := jacB_a h (show j < a.length by omega)
      exact mul_small hp this c2
    · omega
  have t3 : 0 ≤ (if j + 1 < i then rdI b (j + 1) * rdI cs (j + 1) else 0) ∧ (if j + 1 < i then rdI b (j + 1) * rdI cs (j + 1) else 0) ≤ 100140049 := by
    split
    · have := jacB_b h (show j + 1 < a.length by omega)
      exact mul_small hp (show 0 ≤ rdI b (j + 1) ∧ rdI b (j + 1) < p by omega) c3
    · omega
  generalize (if j < i then rdI a j * rdI cs j else 0) = x at *
  generalize (if j + 1 < i then rdI b (j + 1) * rdI cs (j + 1) else 0) = y at *
  split <;> omega
theorem tx_list {p : Int} {a b cs : List Int} (h : jacB p a b = true) (hc : cs.length ≤ a.length) (hne : ¬ cs.length = 0) (hf : fine p cs) (hb : lastB cs = true) : trimL (txS p a b cs cs.length) = timesL p a b cs := by
  have hp := jacB_prime h
  have l := txS_len p a b cs cs.length
  have e : txS p a b cs cs.length = timesL p a b cs := by
    unfold timesL; rw [if_neg hne]
    exact eq_tab l fun j hj => txS_rd hp a b cs cs.length (Nat.le_refl _) j (by omega)
  rw [← e]
  refine trimL_top (by omega) ?_
  rw [l, Nat.add_sub_cancel, txS_rd hp a b cs cs.length (Nat.le_refl _) _ (Nat.le_refl _)]
  have r := hf (cs.length - 1)
  have : txG a b cs cs.length cs.length = rdI cs (cs.length - 1) := by
    unfold txG
    rw [if_pos (by omega), if_neg (by omega), if_neg (by omega)]; omega
  rw [this, Int.emod_eq_of_lt r.1 r.2]
  simp only [lastB, Bool.or_eq_true, decide_eq_true_eq, Bool.not_eq_true', decide_eq_false_iff_not] at hb
  rcases hb with hb | hb
  · exact absurd hb hne
  · exact hb
end Go.Proofs.Ytacfkfdnncgjcaa.Ev
