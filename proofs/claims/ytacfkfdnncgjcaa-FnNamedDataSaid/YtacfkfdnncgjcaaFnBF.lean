/- Expansions, by both texts. Conditions: none. -/
import Derived.Test.YtacfkfdnncgjcaaFnBE
set_option linter.unusedSimpArgs false
set_option linter.unusedVariables false
namespace Go.Proofs.Ytacfkfdnncgjcaa.Ev
open Go Go.Proofs
set_option maxRecDepth 4000
set_option maxHeartbeats 4000000

/-! ### The greatest numbers -/
theorem addAt_rd {p : Int} {l : List Int} {i j : Nat} {x : Int} (h : j < l.length) : rdI (addAt p l i x) j = if i = j then (rdI l i + x) % p else rdI l j := by
  unfold addAt; rw [rdI_set h]
theorem mulK_rd (p : Int) (f g : List Int) (i : Nat) (A : List Int) : ∀ K j, i + K ≤ A.length → j < A.length → rdI (mulK p f g i A K) j = if i ≤ j ∧ j < i + K then (rdI A j + rdI f i * rdI g (j - i)) % p else rdI A j
  | 0, j, h, hj => by rw [mulK, if_neg (by omega)]
  | K + 1, j, h, hj => by
    rw [mulK, addAt_rd (by rw [mulK_len]; exact hj)]
    have ih := mulK_rd p f g i A K j (by omega) hj
    by_cases e : i + K = j
    · subst e
      rw [if_pos rfl, ih, if_neg (by omega), if_pos (by omega), show i + K - i = K by omega]
    · rw [if_neg e, ih]
      by_cases c : i ≤ j ∧ j < i + K
      · rw [if_pos c, if_pos (by omega)]
      · rw [if_neg c, if_neg (by omega)]
theorem rdI_zeros (n j : Nat) : rdI (List.replicate n (0 : Int)) j = 0 := by
  simp [rdI, List.getD_eq_getElem?_getD, List.getElem?_replicate]; split <;> rfl
theorem mulP_monic {p : Int} (hp : 2 ≤ p ∧ p ≤ 10007) (c : Int) {g : List Int} {m : Nat} (hg : g.length = m + 1) (h1 : rdI g m = 1) : (mulP p [c, 1] g).length = m + 2 ∧ rdI (mulP p [c, 1] g) (m + 1) = 1 := by
  have e : mulP p [c, 1] g = trimL (mulI p [c, 1] g 2) := by
    unfold mulP; rw [if_neg (by rw [hg]; simp)]; rfl
  have l2 : (mulI p [c, 1] g 2).length = m + 2 := by rw [mulI_len]; simp; omega
  have t2 : rdI (mulI p [c, 1] g 2) (m + 1) = 1 := by
    rw [mulI, mulK_rd _ _ _ _ _ _ _ (by rw [mulI_len]; simp only [List.length_cons, List.length_nil]; omega) (by rw [mulI_len]; simp only [List.length_cons, List.length_nil]; omega), if_pos (by omega), mulI,
      mulK_rd _ _ _ _ _ _ _ (by simp only [mulI, List.length_replicate, List.length_cons, List.length_nil]; omega) (by simp only [mulI, List.length_replicate, List.length_cons, List.length_nil]; omega), if_neg (by omega), mulI, rdI_zeros, show m + 1 - 1 = m by omega, h1]
    show (0 + 1 * 1) % p = 1
    exact Int.emod_eq_of_lt (by omega) (by omega)
  have := trimL_top (f := mulI p [c, 1] g 2) (by omega) (by rw [l2, show m + 2 - 1 = m + 1 by omega, t2]; omega)
  rw [e, this]
  exact ⟨l2, t2⟩
theorem addP_monic {p : Int} {f g : List Int} (k : Int) {n : Nat} (hf : f.length = n + 1) (hg : g.length ≤ n) (h1 : rdI f n = 1) : (addP p f g k).length = n + 1 ∧ rdI (addP p f g k) n = 1 := by
  have l := addR_len p f g k
  rw [hf, Nat.max_eq_left (by omega)] at l
  have t : rdI (addR p f g k) n = 1 := by
    unfold addR; rw [inpl_at (by omega), if_neg (by omega), h1]
  have := trimL_top (f := addR p f g k) (by omega) (by rw [l, Nat.add_sub_cancel, t]; omega)
  unfold addP; rw [this]
  exact ⟨l, t⟩
theorem pl_monic {p : Int} (hp : 2 ≤ p ∧ p ≤ 10007) (a b : List Int) : ∀ k, (pl p a b k).1.length = k + 1 ∧ rdI (pl p a b k).1 k = 1
  | 0 => ⟨rfl, rfl⟩
  | k + 1 => by
    have ih := pl_monic hp a b k
    have l := (pl_le p a b k).2
    have m := mulP_monic hp ((-(rdI a k)) % p) ih.1 ih.2
    exact addP_monic _ m.1 (by omega) m.2

/-! ### Expansions -/
def exF (p : Int) (a b : List Int) : Nat → List Int → List Int → List Int
  | 0, _, out => out
  | n + 1, f, out => if f.length = 0 then out else exF p a b n (addP p f (pl p a b (f.length - 1)).1 ((-(rdI f (f.length - 1))) % p)) (out.set (f.length - 1) (rdI f (f.length - 1)))
def expandP (p : Int) (a b f : List Int) : List Int := exF p a b f.length f (List.replicate f.length 0)
theorem exF_nil (p : Int) (a b out : List Int) : ∀ n, exF p a b n [] out = out
  | 0 => rfl
  | n + 1 => by rw [exF, if_pos (show ([] : List Int).length = 0 from rfl)]
theorem exF_len (p : Int) (a b : List Int) : ∀ n f out, (exF p a b n f out).length = out.length
  | 0, _, _ => rfl
  | n + 1, f, out => by
    rw [exF]; split
    · rfl
    · rw [exF_len p a b n]; simp
theorem expandP_len (p : Int) (a b f : List Int) : (expandP p a b f).length = f.length := by rw [expandP, exF_len]; simp
theorem down {p : Int} (hp : 2 ≤ p ∧ p ≤ 10007) (a b : List Int) {f : List Int} {k : Nat} (hk : f.length = k + 1) : (addP p f (pl p a b k).1 ((-(rdI f k)) % p)).length ≤ k := by
  have m := pl_monic hp a b k
  have l := addR_len p f (pl p a b k).1 ((-(rdI f k)) % p)
  rw [hk, m.1, Nat.max_self] at l
  refine trimL_zero l ?_
  unfold addR
  rw [inpl_at (by omega), if_pos (by omega), m.2, Int.mul_one]
  rw [add_mod_congr (b := rdI f k) (d := -(rdI f k)) rfl (emod_emod' _ _), Int.add_right_neg, Int.zero_emod]

end Go.Proofs.Ytacfkfdnncgjcaa.Ev
