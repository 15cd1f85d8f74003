/- Sums over paths: their recurrences; triangles are inverse to each other; moments are sums over paths. Conditions: none. -/
import Derived.Test.YtacfkfdnncgjcaaFnDJ
import Derived.Test.YtacfkfdnncgjcaaFnBS
import Derived.Test.YtacfkfdnncgjcaaFnAA
set_option linter.unusedSimpArgs false
set_option linter.unusedVariables false
namespace Go.Proofs.Ytacfkfdnncgjcaa.Ev
open Go Go.Proofs
set_option maxRecDepth 4000
set_option maxHeartbeats 4000000

theorem spJ_rd {p : Int} (a b : List Int) {r h : Nat} (x : Int) {next : List Int} (hl : next.length = r) (hh : h < r) {j : Nat} (hj : j < r) :
    cg p (rdI (spJ p a b r h x next) j) (rdI next j + (if j = h then rdI a h * x else 0) + (if j = h + 1 then x else 0) + (if j + 1 = h then rdI b h * x else 0)) := by
  unfold spJ
  simp only
  have e1 := addAt_cg (p := p) (l := next) (rdI a h * x) (show h < next.length by omega) j
  have l1 : (addAt p next h (rdI a h * x)).length = r := by rw [addAt_len, hl]
  have e2 : cg p (rdI (if h + 1 < r then addAt p (addAt p next h (rdI a h * x)) (h + 1) x else addAt p next h (rdI a h * x)) j) (rdI next j + (if j = h then rdI a h * x else 0) + if j = h + 1 then x else 0) := by
    by_cases c : h + 1 < r
    · rw [if_pos c]
      exact (addAt_cg _ (by omega) j).trans (e1.add (cg.refl _ _))
    · rw [if_neg c, if_neg (show ¬ j = h + 1 by omega)]
      exact e1.trans (cg.of_eq (by omega))
  have l2 : (if h + 1 < r then addAt p (addAt p next h (rdI a h * x)) (h + 1) x else addAt p next h (rdI a h * x)).length = r := by split <;> simp [addAt_len, hl]
  generalize (if h + 1 < r then addAt p (addAt p next h (rdI a h * x)) (h + 1) x else addAt p next h (rdI a h * x)) = n2 at *
  by_cases c : 0 < h
  · rw [if_pos c]
    refine (addAt_cg _ (by omega) j).trans (e2.add (cg.of_eq ?_))
    by_cases q : j + 1 = h
    · rw [if_pos q, if_pos (by omega)]
    · rw [if_neg q, if_neg (by omega)]
  · rw [if_neg c, if_neg (show ¬ j + 1 = h by omega)]
    exact e2.trans (cg.of_eq (by omega))
theorem spJTo_rd {p : Int} (a b : List Int) {r : Nat} (now : List Int) : ∀ {h : Nat}, h ≤ r → ∀ {j : Nat}, j < r →
    cg p (rdI (spJTo p a b r now h) j) ((if j < h then rdI a j * rdI now j else 0) + (if 0 < j ∧ j - 1 < h then rdI now (j - 1) else 0) + (if j + 1 < h then rdI b (j + 1) * rdI now (j + 1) else 0))
  | 0, _, j, hj => by
    have : rdI (List.replicate r (0 : Int)) j = 0 := by
      simp [rdI, List.getD_eq_getElem?_getD, List.getElem?_replicate]; split <;> rfl
    rw [spJTo, this, if_neg (by omega), if_neg (by omega), if_neg (by omega)]; exact cg.refl _ _
  | h + 1, hh, j, hj => by
    rw [spJTo]
    refine (spJ_rd a b _ (spJTo_len p a b r now h) (by omega) hj).trans ?_
    have ih := spJTo_rd (p := p) a b now (h := h) (by omega) hj
    refine (((ih.add (cg.refl _ _)).add (cg.refl _ _)).add (cg.refl _ _)).trans (cg.of_eq ?_)
    by_cases c1 : j = h
    · subst c1
      rw [if_neg (Nat.lt_irrefl _), if_pos rfl, if_neg (by omega : ¬ j + 1 < j), if_neg (by omega : ¬ j = j + 1), if_neg (by omega : ¬ j + 1 = j), if_pos (by omega : j < j + 1), if_neg (by omega : ¬ j + 1 < j + 1)]
      by_cases q : 0 < j
      · rw [if_pos (by omega), if_pos (by omega)]; omega
      · rw [if_neg (by omega), if_neg (by omega)]; omega
    · by_cases c2 : j = h + 1
      · subst c2
        rw [if_neg (by omega : ¬ h + 1 < h), if_neg (by omega : ¬ (0 < h + 1 ∧ h + 1 - 1 < h)), if_neg (by omega : ¬ h + 1 + 1 < h), if_neg (by omega : ¬ h + 1 = h), if_pos rfl, if_neg (by omega : ¬ h + 1 + 1 = h), if_neg (by omega : ¬ h + 1 < h + 1), if_pos (by omega : 0 < h + 1 ∧ h + 1 - 1 < h + 1), if_neg (by omega : ¬ h + 1 + 1 < h + 1), show h + 1 - 1 = h by omega]; omega
      · by_cases c3 : j + 1 = h
        · subst c3
          rw [if_pos (by omega : j < j + 1), if_neg (by omega : ¬ j + 1 < j + 1), if_neg (by omega : ¬ j = j + 1), if_neg (by omega : ¬ j = j + 1 + 1), if_pos rfl, if_pos (by omega : j < j + 1 + 1), if_pos (by omega : j + 1 < j + 1 + 1)]
          by_cases q : 0 < j
          · rw [if_pos (by omega), if_pos (by omega)]; omega
          · rw [if_neg (by omega), if_neg (by omega)]; omega
        · rw [if_neg c1, if_neg c2, if_neg c3]
          have x1 : (j < h + 1) = (j < h) := by simp; omega
          have x2 : (0 < j ∧ j - 1 < h + 1) = (0 < j ∧ j - 1 < h) := by simp; omega
          have x3 : (j + 1 < h + 1) = (j + 1 < h) := by simp; omega
          simp only [x1, x2, x3]; omega
/-- Sums over paths from 0, among the first r heights. -/
def wA (p : Int) (a b : List Int) (r i t j : Nat) : Int := rdI (fromJ p a b r i t) j
theorem wA_next {p : Int} (a b : List Int) {r : Nat} (i t : Nat) {j : Nat} (hj : j < r) : cg p (wA p a b r i (t + 1) j) (rdI a j * wA p a b r i t j + (if 0 < j then wA p a b r i t (j - 1) else 0) + (if j + 1 < r then rdI b (j + 1) * wA p a b r i t (j + 1) else 0)) := by
  show cg p (rdI (spJTo p a b r _ r) j) _
  refine (spJTo_rd a b _ (Nat.le_refl r) hj).trans (cg.of_eq ?_)
  rw [if_pos hj]
  have x2 : (0 < j ∧ j - 1 < r) = (0 < j) := by simp; omega
  simp only [x2]
  rfl
theorem wA_zero (p : Int) (a b : List Int) {r i : Nat} (j : Nat) (hj : j < r) : wA p a b r i 0 j = if i = j then 1 else 0 := by
  show rdI ((List.replicate r 0).set i 1) j = _
  rw [rdI_set (by simpa using hj)]
  split
  · rfl
  · simp [rdI, hj]
theorem wA_fine {p : Int} (hp : 2 ≤ p ∧ p ≤ 10007) (a b : List Int) (r i t j : Nat) : 0 ≤ wA p a b r i t j ∧ wA p a b r i t j < p := wkJ_fine hp a b r _ (start_fine hp r i) t j
theorem wA_out (p : Int) (a b : List Int) {r i t j : Nat} (h : r ≤ j) : wA p a b r i t j = 0 := rdI_out (by
  have : (fromJ p a b r i t).length = r := wkJ_len p a b r _ (by simp) t
  omega)
theorem wA_high {p : Int} (hp : 2 ≤ p ∧ p ≤ 10007) (a b : List Int) (r : Nat) : ∀ (t j : Nat), t < j → wA p a b r 0 t j = 0
  | 0, j, h => by
    by_cases c : j < r
    · rw [wA_zero p a b j c, if_neg (by omega)]
    · exact wA_out p a b (by omega)
  | t + 1, j, h => by
    by_cases c : j < r
    · refine cg.eq (by omega) (p := p) ((wA_next a b 0 t c).trans (cg.of_eq ?_)) (wA_fine hp _ _ _ _ _ _) ⟨by omega, by omega⟩
      rw [wA_high hp a b r t j (by omega), wA_high hp a b r t (j + 1) (by omega), wA_high hp a b r t (j - 1) (by omega)]
      split <;> split <;> grind
    · exact wA_out p a b (by omega)
/-! ### Triangles -/
theorem tri_inv {p : Int} (hp : 2 ≤ p ∧ p ≤ 10007) (a b : List Int) (r : Nat) (k : Nat) : ∀ n, n < r → cg p (sm (fun i => wA p a b r 0 n i * Pc p a b i k) r) (if n = k then 1 else 0)
  | 0, h => by
    have e : sm (fun i => wA p a b r 0 0 i * Pc p a b i k) r = sm (fun i => if i = 0 then Pc p a b 0 k else 0) r := sm_congr fun i hi => by
      rw [wA_zero p a b i hi]
      by_cases c : i = 0
      · subst c; simp
      · rw [if_neg (fun e => c e.symm), if_neg c]; simp
    rw [e, sm_one (fun _ => Pc p a b 0 k) h, Pc_zero]
    by_cases c : k = 0
    · subst c; exact cg.refl _ _
    · rw [if_neg c, if_neg (fun e => c e.symm)]; exact cg.refl _ _
  | n + 1, h => by
    -- one step on the left is a product by x on the right
    have s1 : cg p (sm (fun i => wA p a b r 0 (n + 1) i * Pc p a b i k) r) (sm (fun i => wA p a b r 0 n i * (rdI a i * Pc p a b i k + (if 0 < i then rdI b i * Pc p a b (i - 1) k else 0)) + (if i + 1 < r then wA p a b r 0 n i * Pc p a b (i + 1) k else 0)) r) := by
      have t1 : cg p (sm (fun i => wA p a b r 0 (n + 1) i * Pc p a b i k) r) (sm (fun i => rdI a i * wA p a b r 0 n i * Pc p a b i k + (if 0 < i then wA p a b r 0 n (i - 1) * Pc p a b i k else 0) + (if i + 1 < r then Pc p a b i k * (rdI b (i + 1) * wA p a b r 0 n (i + 1)) else 0)) r) := sm_cg fun i hi => by
        refine ((wA_next a b 0 n hi).mulR _).trans (cg.of_eq ?_)
        split <;> split <;> grind
      refine t1.trans (cg.of_eq ?_)
      rw [sm_add, sm_add, sm_shift (fun i => wA p a b r 0 n i) (fun i => Pc p a b i k), ← sm_shift (fun i => Pc p a b i k) (fun i => rdI b i * wA p a b r 0 n i), ← sm_add, ← sm_add]
      exact sm_congr fun i hi => by split <;> split <;> grind
    have s2 : cg p (sm (fun i => wA p a b r 0 n i * (rdI a i * Pc p a b i k + (if 0 < i then rdI b i * Pc p a b (i - 1) k else 0)) + (if i + 1 < r then wA p a b r 0 n i * Pc p a b (i + 1) k else 0)) r) (sm (fun i => wA p a b r 0 n i * (if 0 < k then Pc p a b i (k - 1) else 0)) r) := sm_cg fun i hi => by
      by_cases c : i + 1 < r
      · rw [if_pos c]
        have := (Pc_next (p := p) a b i k).mulL (wA p a b r 0 n i)
        refine ((cg.refl _ _).add this).trans (cg.of_eq ?_)
        split <;> split <;> grind
      · rw [if_neg c, wA_high hp a b r n i (by omega)]; exact cg.of_eq (by grind)
    refine s1.trans (s2.trans ?_)
    by_cases c : 0 < k
    · have ih := tri_inv hp a b r (k - 1) n (by omega)
      simp only [c, if_true]
      refine ih.trans (cg.of_eq ?_)
      by_cases q : n = k - 1
      · rw [if_pos q, if_pos (by omega)]
      · rw [if_neg q, if_neg (by omega)]
    · simp only [c, if_false]
      rw [sm_congr (g := fun _ => 0) fun i _ => by grind, sm_zero, if_neg (by omega)]; exact cg.refl _ _
/-! ### Moments are sums over paths -/
def mA (p : Int) (a b : List Int) (t i : Nat) : Int := rdI (mT p a b t) i
theorem mA_next {p : Int} (a b : List Int) (t : Nat) {i : Nat} (hi : i < a.length) : cg p (mA p a b (t + 1) i) (rdI a i * mA p a b t i + (if i + 1 < a.length then mA p a b t (i + 1) else 0) + (if 0 < i then rdI b i * mA p a b t (i - 1) else 0)) := by
  show cg p (rdI (mV p a b (mT p a b t)) i) _
  unfold mV
  rw [tab_rd hi]
  refine (cg.md _ _).trans (cg.of_eq ?_)
  unfold mS
  rw [if_pos hi]
  have x2 : (0 < i ∧ i ≤ a.length) = (0 < i) := by simp; omega
  simp only [x2]
  rfl
theorem mA_zero (p : Int) (a b : List Int) {i : Nat} (hi : i < a.length) : mA p a b 0 i = if i = 0 then 1 else 0 := by
  show rdI ((List.replicate a.length 0).set 0 1) i = _
  rw [rdI_set (by simpa using hi)]
  by_cases c : i = 0
  · subst c; rfl
  · rw [if_neg (fun e => c e.symm), if_neg c]; simp [rdI, hi]
/-- A step on the left may be done on the right. -/
theorem wm_move {p : Int} (a b : List Int) (s t : Nat) : cg p (sm (fun i => wA p a b a.length 0 (s + 1) i * mA p a b t i) a.length) (sm (fun i => wA p a b a.length 0 s i * mA p a b (t + 1) i) a.length) := by
  have t1 : cg p (sm (fun i => wA p a b a.length 0 (s + 1) i * mA p a b t i) a.length) (sm (fun i => rdI a i * wA p a b a.length 0 s i * mA p a b t i + (if 0 < i then wA p a b a.length 0 s (i - 1) * mA p a b t i else 0) + (if i + 1 < a.length then mA p a b t i * (rdI b (i + 1) * wA p a b a.length 0 s (i + 1)) else 0)) a.length) := sm_cg fun i hi => by
    refine ((wA_next a b 0 s hi).mulR _).trans (cg.of_eq ?_)
    split <;> split <;> grind
  have t2 : cg p (sm (fun i => wA p a b a.length 0 s i * mA p a b (t + 1) i) a.length) (sm (fun i => rdI a i * wA p a b a.length 0 s i * mA p a b t i + (if i + 1 < a.length then wA p a b a.length 0 s i * mA p a b t (i + 1) else 0) + (if 0 < i then mA p a b t (i - 1) * (rdI b i * wA p a b a.length 0 s i) else 0)) a.length) := sm_cg fun i hi => by
    refine ((mA_next a b t hi).mulL _).trans (cg.of_eq ?_)
    split <;> split <;> grind
  refine t1.trans (cg.trans (cg.of_eq ?_) t2.symm)
  rw [sm_add, sm_add, sm_add, sm_add, sm_shift (fun i => wA p a b a.length 0 s i) (fun i => mA p a b t i), sm_shift (fun i => mA p a b t i) (fun i => rdI b i * wA p a b a.length 0 s i)]
theorem wm_all {p : Int} (a b : List Int) (n : Nat) : ∀ s, s ≤ n → cg p (sm (fun i => wA p a b a.length 0 n i * mA p a b 0 i) a.length) (sm (fun i => wA p a b a.length 0 (n - s) i * mA p a b s i) a.length)
  | 0, _ => cg.refl _ _
  | s + 1, h => by
    refine (wm_all a b n s (by omega)).trans ?_
    have := wm_move (p := p) a b (n - (s + 1)) s
    rw [show n - (s + 1) + 1 = n - s by omega] at this
    exact this
theorem mA_wA {p : Int} (hp : 2 ≤ p ∧ p ≤ 10007) (a b : List Int) (h0 : 0 < a.length) (n : Nat) : mA p a b n 0 = wA p a b a.length 0 n 0 := by
  have h := wm_all (p := p) a b n n (Nat.le_refl n)
  have e1 : sm (fun i => wA p a b a.length 0 n i * mA p a b 0 i) a.length = wA p a b a.length 0 n 0 := by
    rw [sm_congr (g := fun i => if i = 0 then wA p a b a.length 0 n i else 0) fun i hi => by
      rw [mA_zero p a b hi]; split <;> grind]
    exact sm_one _ h0
  have e2 : sm (fun i => wA p a b a.length 0 (n - n) i * mA p a b n i) a.length = mA p a b n 0 := by
    rw [Nat.sub_self, sm_congr (g := fun i => if i = 0 then mA p a b n i else 0) fun i hi => by
      rw [wA_zero p a b i hi]
      by_cases c : i = 0
      · subst c; simp
      · rw [if_neg c, if_neg (fun e => c e.symm)]; grind]
    exact sm_one _ h0
  rw [e1, e2] at h
  exact (cg.eq (by omega) h (wA_fine hp _ _ _ _ _ _) (mT_fine hp a b n 0)).symm
end Go.Proofs.Ytacfkfdnncgjcaa.Ev
