/- Polynomials as lists: sums, products, trimming, by both texts. Conditions: none. -/
import Derived.Test.YtiefdblogdomhaaFnBA
set_option linter.unusedSimpArgs false
set_option linter.unusedVariables false
namespace Go.Proofs.Ytiefdblogdomhaa.Ev
open Go Go.Proofs
set_option maxRecDepth 4000
set_option maxHeartbeats 4000000

/-! ### Noughts at the end -/
def tln (f : List Int) : Nat → Nat
  | 0 => 0
  | n + 1 => if rdI f n = 0 then tln f n else n + 1
theorem tln_le (f : List Int) : ∀ n, tln f n ≤ n
  | 0 => Nat.le_refl _
  | n + 1 => by
    unfold tln
    split
    · exact Nat.le_succ_of_le (tln_le f n)
    · exact Nat.le_refl _
def trimL (f : List Int) : List Int := f.take (tln f f.length)
theorem trimL_len (f : List Int) : (trimL f).length = tln f f.length := by
  unfold trimL
  rw [List.length_take, Nat.min_eq_left (tln_le f f.length)]
theorem trimL_le (f : List Int) : (trimL f).length ≤ f.length := by rw [trimL_len]; exact tln_le f f.length
theorem rdI_take {f : List Int} {n i : Nat} (h : i < n) : rdI (f.take n) i = rdI f i := by
  simp [rdI, List.getElem?_take, h]
theorem rdI_out {f : List Int} {i : Nat} (h : f.length ≤ i) : rdI f i = 0 := by simp [rdI, h]
theorem trimL_fine {p : Int} (hp : 2 ≤ p ∧ p ≤ 10007) {f : List Int} (h : fine p f) : fine p (trimL f) := by
  intro i
  by_cases hi : i < (trimL f).length
  · have : rdI (trimL f) i = rdI f i := rdI_take (by rw [trimL_len] at hi; exact hi)
    rw [this]; exact h i
  · rw [rdI_out (by omega)]; omega
theorem trimL_top {f : List Int} (h : 0 < f.length) (ht : ¬ rdI f (f.length - 1) = 0) : trimL f = f := by
  unfold trimL
  obtain ⟨n, hn⟩ : ∃ n, f.length = n + 1 := ⟨f.length - 1, by omega⟩
  rw [hn] at ht ⊢
  simp only [Nat.add_sub_cancel] at ht
  rw [tln, if_neg ht, ← hn, List.take_length]
theorem trimL_zero {f : List Int} {n : Nat} (hn : f.length = n + 1) (ht : rdI f n = 0) : (trimL f).length ≤ n := by
  rw [trimL_len, hn, tln, if_pos ht]; exact tln_le f n
theorem fine_all {p : Int} {l : List Int} (h : l.all (hasB p) = true) (hp : 2 ≤ p) : fine p l := fun i => by
  by_cases hi : i < l.length
  · exact hasB_all h hi
  · rw [rdI_out (by omega)]; omega
theorem fine_nil {p : Int} (hp : 2 ≤ p) : fine p [] := fun i => by rw [rdI_out (by simp)]; omega
theorem fine_one {p : Int} (hp : 2 ≤ p) {x : Int} (hx : 0 ≤ x ∧ x < p) : fine p [x] := fun i => by
  rcases i with _ | i
  · exact hx
  · rw [rdI_out (by simp)]; omega
theorem fine_two {p : Int} (hp : 2 ≤ p) {x y : Int} (hx : 0 ≤ x ∧ x < p) (hy : 0 ≤ y ∧ y < p) : fine p [x, y] := fun i => by
  rcases i with _ | _ | i
  · exact hx
  · exact hy
  · rw [rdI_out (by simp)]; omega

end Go.Proofs.Ytiefdblogdomhaa.Ev
