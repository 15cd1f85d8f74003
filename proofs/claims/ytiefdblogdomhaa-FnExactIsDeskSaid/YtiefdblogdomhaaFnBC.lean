/- Sums of polynomials, by both texts. Conditions: none. -/
import Derived.Test.YtiefdblogdomhaaFnBB
set_option linter.unusedSimpArgs false
set_option linter.unusedVariables false
namespace Go.Proofs.Ytiefdblogdomhaa.Ev
open Go Go.Proofs
set_option maxRecDepth 4000
set_option maxHeartbeats 4000000

def addR (p : Int) (f g : List Int) (k : Int) : List Int := inpl (max f.length g.length) g.length (fun i => (rdI f i + k * rdI g i) % p) (rdI f)
def addP (p : Int) (f g : List Int) (k : Int) : List Int := trimL (addR p f g k)
theorem addR_len (p : Int) (f g : List Int) (k : Int) : (addR p f g k).length = max f.length g.length := inpl_len _ _ _ _
theorem addP_le (p : Int) (f g : List Int) (k : Int) : (addP p f g k).length ≤ max f.length g.length := by
  have := trimL_le (addR p f g k); rw [addR_len] at this; exact this
theorem inpl_at {n i j : Nat} {f g : Nat → Int} (h : j < n) : rdI (inpl n i f g) j = if j < i then f j else g j := by unfold inpl; rw [tab_rd h]
theorem addR_fine {p : Int} (hp : 2 ≤ p ∧ p ≤ 10007) {f g : List Int} (hf : fine p f) (k : Int) : fine p (addR p f g k) := by
  intro j
  by_cases hj : j < max f.length g.length
  · unfold addR; rw [inpl_at hj]
    split
    · exact mod_small hp _
    · exact hf j
  · rw [rdI_out (by rw [addR_len]; omega)]; omega
theorem addP_fine {p : Int} (hp : 2 ≤ p ∧ p ≤ 10007) {f g : List Int} (hf : fine p f) (k : Int) : fine p (addP p f g k) := trimL_fine hp (addR_fine hp hf k)
theorem setCs_zeros {n : Nat} {f : List Int} (h : f.length ≤ n) (F : Nat → Int) : setCs (List.map (V.int .i64) (List.replicate n 0)) 0 (List.map (V.int .i64) f) = List.map (V.int .i64) (inpl n 0 F (rdI f)) := by
  unfold setCs
  rw [List.take_zero, List.nil_append, Nat.zero_add, List.length_map, ← List.map_drop, ← List.map_append]
  congr 1
  rw [inpl_zero]
  apply eq_tab (by simp; omega)
  intro i hi
  simp only [rdI, List.getD_eq_getElem?_getD, List.getElem?_append]
  by_cases hf : i < f.length
  · simp [hf]
  · simp [hf]
    rw [List.getElem?_replicate]
    split <;> rfl


/-! ### Products -/
def mulK (p : Int) (f g : List Int) (i : Nat) (A : List Int) : Nat → List Int
  | 0 => A
  | k + 1 => addAt p (mulK p f g i A k) (i + k) (rdI f i * rdI g k)
def mulI (p : Int) (f g : List Int) : Nat → List Int
  | 0 => List.replicate (f.length + g.length - 1) 0
  | i + 1 => mulK p f g i (mulI p f g i) g.length
def mulP (p : Int) (f g : List Int) : List Int := if f.length = 0 ∨ g.length = 0 then [] else trimL (mulI p f g f.length)
theorem mulK_len (p : Int) (f g : List Int) (i : Nat) (A : List Int) : ∀ k, (mulK p f g i A k).length = A.length
  | 0 => rfl
  | k + 1 => by rw [mulK, addAt_len, mulK_len p f g i A k]
theorem mulI_len (p : Int) (f g : List Int) : ∀ i, (mulI p f g i).length = f.length + g.length - 1
  | 0 => by simp [mulI]
  | i + 1 => by rw [mulI, mulK_len, mulI_len p f g i]
theorem mulK_fine {p : Int} (hp : 2 ≤ p ∧ p ≤ 10007) (f g : List Int) (i : Nat) {A : List Int} (h : fine p A) : ∀ k, fine p (mulK p f g i A k)
  | 0 => h
  | k + 1 => addAt_fine hp (mulK_fine hp f g i h k) _ _
theorem zeros_fine {p : Int} (hp : 2 ≤ p) (n : Nat) : fine p (List.replicate n 0) := fun j => by
  have : rdI (List.replicate n (0 : Int)) j = 0 := by
    simp [rdI, List.getD_eq_getElem?_getD, List.getElem?_replicate]; split <;> rfl
  rw [this]; omega
theorem mulI_fine {p : Int} (hp : 2 ≤ p ∧ p ≤ 10007) (f g : List Int) : ∀ i, fine p (mulI p f g i)
  | 0 => zeros_fine hp.1 _
  | i + 1 => mulK_fine hp f g i (mulI_fine hp f g i) _
theorem mulP_fine {p : Int} (hp : 2 ≤ p ∧ p ≤ 10007) (f g : List Int) : fine p (mulP p f g) := by
  unfold mulP; split
  · exact fine_nil hp.1
  · exact trimL_fine hp (mulI_fine hp f g _)
theorem mulP_le (p : Int) (f g : List Int) : (mulP p f g).length ≤ f.length + g.length - 1 := by
  unfold mulP; split
  · simp
  · have := trimL_le (mulI p f g f.length); rw [mulI_len] at this; exact this

end Go.Proofs.Ytiefdblogdomhaa.Ev
