/- Sums over weighted paths: both texts. Conditions: none. -/
/- PathSum: both texts and the law. Conditions: none. -/
import Derived.Test.YtacfkfdnncgjcaaFnR
set_option linter.unusedSimpArgs false
set_option linter.unusedVariables false
namespace Go.Proofs.Ytacfkfdnncgjcaa.Ev
open Go Go.Proofs
set_option maxRecDepth 4000
set_option maxHeartbeats 4000000

/-! ### One step of all sums -/
def addAt (p : Int) (l : List Int) (i : Nat) (x : Int) : List Int := l.set i ((rdI l i + x) % p)
theorem addAt_len (p : Int) (l : List Int) (i : Nat) (x : Int) : (addAt p l i x).length = l.length := by simp [addAt]
def fine (p : Int) (l : List Int) : Prop := ∀ i, 0 ≤ rdI l i ∧ rdI l i < p
theorem addAt_fine {p : Int} (hp : 2 ≤ p ∧ p ≤ 10007) {l : List Int} (h : fine p l) (i : Nat) (x : Int) : fine p (addAt p l i x) := by
  intro j
  unfold addAt
  by_cases hj : j < l.length
  · rw [rdI_set hj]
    split
    · exact mod_small hp _
    · exact h j
  · have : rdI (l.set i ((rdI l i + x) % p)) j = 0 := by simp [rdI, hj]
    rw [this]; omega
def spJ (p : Int) (a b : List Int) (r h : Nat) (x : Int) (next : List Int) : List Int :=
  let n1 := addAt p next h (rdI a h * x)
  let n2 := if h + 1 < r then addAt p n1 (h + 1) x else n1
  if 0 < h then addAt p n2 (h - 1) (rdI b h * x) else n2
def spJTo (p : Int) (a b : List Int) (r : Nat) (now : List Int) : Nat → List Int
  | 0 => List.replicate r 0
  | h + 1 => spJ p a b r h (rdI now h) (spJTo p a b r now h)
def wkJ (p : Int) (a b : List Int) (r : Nat) (start : List Int) : Nat → List Int
  | 0 => start
  | t + 1 => spJTo p a b r (wkJ p a b r start t) r
theorem spJ_len (p : Int) (a b : List Int) (r h : Nat) (x : Int) (next : List Int) : (spJ p a b r h x next).length = next.length := by
  unfold spJ; simp only; (repeat' split) <;> simp [addAt_len]
theorem spJTo_len (p : Int) (a b : List Int) (r : Nat) (now : List Int) : ∀ h, (spJTo p a b r now h).length = r
  | 0 => by simp [spJTo]
  | h + 1 => by rw [spJTo, spJ_len, spJTo_len p a b r now h]
theorem spJTo_fine {p : Int} (hp : 2 ≤ p ∧ p ≤ 10007) (a b : List Int) (r : Nat) (now : List Int) : ∀ h, fine p (spJTo p a b r now h)
  | 0 => fun i => by
    have : rdI (List.replicate r (0 : Int)) i = 0 := by
      simp [rdI, List.getD_eq_getElem?_getD, List.getElem?_replicate]; split <;> rfl
    rw [spJTo, this]; omega
  | h + 1 => by
    have ih := spJTo_fine hp a b r now h
    rw [spJTo]
    unfold spJ
    have k1 := addAt_fine hp ih h (rdI a h * rdI now h)
    have k2 := addAt_fine hp k1 (h + 1) (rdI now h)
    simp only
    by_cases c1 : h + 1 < r
    · rw [if_pos c1]
      split
      · exact addAt_fine hp k2 _ _
      · exact k2
    · rw [if_neg c1]
      split
      · exact addAt_fine hp k1 _ _
      · exact k1
theorem wkJ_len (p : Int) (a b : List Int) (r : Nat) (start : List Int) (hs : start.length = r) : ∀ t, (wkJ p a b r start t).length = r
  | 0 => hs
  | t + 1 => spJTo_len ..
theorem wkJ_fine {p : Int} (hp : 2 ≤ p ∧ p ≤ 10007) (a b : List Int) (r : Nat) (start : List Int) (hs : fine p start) : ∀ t, fine p (wkJ p a b r start t)
  | 0 => hs
  | t + 1 => spJTo_fine hp a b r _ r

end Go.Proofs.Ytacfkfdnncgjcaa.Ev

set_option linter.unusedSimpArgs false
set_option linter.unusedVariables false
namespace Go.Proofs.Ytacfkfdnncgjcaa.Ev
open Go Go.Proofs
set_option maxRecDepth 4000
set_option maxHeartbeats 4000000

/-- The sums of the paths of a length from a height. -/
def inH (a : List Int) (x : Int) : Bool := decide (0 ≤ x) && decide (x < a.length)
def fromJ (p : Int) (a b : List Int) (r i n : Nat) : List Int := wkJ p a b r ((List.replicate r 0).set i 1) n
theorem fromJ_len (p : Int) (a b : List Int) (r i n : Nat) : (fromJ p a b r i n).length = r := wkJ_len _ _ _ _ _ (by simp) _
theorem start_fine {p : Int} (hp : 2 ≤ p ∧ p ≤ 10007) (r i : Nat) : fine p ((List.replicate r 0).set i 1) := by
  intro j
  by_cases hj : j < r
  · rw [rdI_set (by simpa using hj)]
    split
    · omega
    · have : rdI (List.replicate r (0 : Int)) j = 0 := by
        simp [rdI, List.getD_eq_getElem?_getD, List.getElem?_replicate]; split <;> rfl
      rw [this]; omega
  · have : rdI ((List.replicate r (0 : Int)).set i 1) j = 0 := by simp [rdI, hj]
    rw [this]; omega
theorem all_noU_int {k : IntKind} (l : List Int) : (l.map (V.int k)).all (fun c => !hasU c) = true := all_leaf (fun _ => rfl) l

def psum (p : Int) (a b : List Int) (n i k : Int) : Int × Int :=
  if jacB p a b then (if (decide (0 ≤ n) && decide (n ≤ 24)) && (inH a i && inH a k) then (rdI (fromJ p a b a.length i.toNat n.toNat) k.toNat, 0) else (0, 2)) else (0, 1)
end Go.Proofs.Ytacfkfdnncgjcaa.Ev
