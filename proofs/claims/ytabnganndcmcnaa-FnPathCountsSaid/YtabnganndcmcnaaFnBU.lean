/- The paths one by one, and that they are as many as countPaths says. Conditions: none. -/
import Derived.Test.YtabnganndcmcnaaFnBA
import Derived.Test.YtabnganndcmcnaaFnC
set_option linter.unusedSimpArgs false
set_option linter.unusedVariables false
namespace Go.Proofs.Ytabnganndcmcnaa.Ev
open Go Go.Proofs
set_option maxRecDepth 4000
set_option maxHeartbeats 4000000

/-- How many paths of n steps lead from i to k between 0 and h. -/
def plc (h : Int) (k : Int) : Nat → Int → Nat
  | 0, i => if 0 ≤ i ∧ i ≤ h ∧ i = k then 1 else 0
  | n + 1, i => if 0 ≤ i ∧ i ≤ h then plc h k n (i - 1) + plc h k n i + plc h k n (i + 1) else 0
theorem plc_out {h k i : Int} (c : ¬ (0 ≤ i ∧ i ≤ h)) : ∀ n, plc h k n i = 0
  | 0 => by rw [plc, if_neg]; omega
  | n + 1 => by rw [plc, if_neg c]
theorem plc_in {h k i : Int} (c : 0 ≤ i ∧ i ≤ h) (n : Nat) : plc h k (n + 1) i = plc h k n (i - 1) + plc h k n i + plc h k n (i + 1) := by rw [plc, if_pos c]
theorem plc_last (h k : Int) : ∀ (n : Nat) (i : Int), plc h k (n + 1) i = if 0 ≤ k ∧ k ≤ h then plc h (k - 1) n i + plc h k n i + plc h (k + 1) n i else 0
  | 0, i => by
    by_cases c : 0 ≤ i ∧ i ≤ h
    · rw [plc_in c]; simp only [plc]; (repeat' split) <;> omega
    · rw [plc_out c, plc_out c, plc_out c, plc_out c]; simp
  | n + 1, i => by
    by_cases c : 0 ≤ i ∧ i ≤ h
    · have e0 := plc_in (k := k) c (n + 1)
      have e1 := plc_in (k := k - 1) c n
      have e2 := plc_in (k := k) c n
      have e3 := plc_in (k := k + 1) c n
      have i1 := plc_last h k n (i - 1)
      have i2 := plc_last h k n i
      have i3 := plc_last h k n (i + 1)
      by_cases ck : 0 ≤ k ∧ k ≤ h
      · rw [if_pos ck] at i1 i2 i3 ⊢; omega
      · rw [if_neg ck] at i1 i2 i3 ⊢; omega
    · rw [plc_out c, plc_out c, plc_out c, plc_out c]; simp
theorem plc_le (h k : Int) : ∀ (n : Nat) (i : Int), plc h k n i ≤ 3 ^ n
  | 0, i => by rw [plc]; split <;> omega
  | n + 1, i => by
    have h1 := plc_le h k n (i - 1)
    have h2 := plc_le h k n i
    have h3 := plc_le h k n (i + 1)
    rw [plc]; split <;> omega
theorem plc_far {h k : Int} : ∀ (n : Nat) (i : Int), (n : Int) < i - k ∨ (n : Int) < k - i → plc h k n i = 0
  | 0, i, c => by rw [plc, if_neg]; omega
  | n + 1, i, c => by
    rw [plc]
    split
    · rw [plc_far n (i - 1) (by omega), plc_far n i (by omega), plc_far n (i + 1) (by omega)]
    · rfl
theorem plc_kout {h k : Int} (c : ¬ (0 ≤ k ∧ k ≤ h)) : ∀ (n : Nat) (i : Int), plc h k n i = 0
  | 0, i => by rw [plc, if_neg]; omega
  | n + 1, i => by rw [plc_last, if_neg c]

theorem rdI_put {l : List Int} {i : Nat} {x : Int} (h : i < l.length) (j : Nat) : rdI (l.set i x) j = if j = i then x else rdI l j := by
  by_cases c : j < l.length
  · rw [rdI_set c]; by_cases e : j = i
    · rw [if_pos e, if_pos e.symm]
    · rw [if_neg e, if_neg (fun q => e q.symm)]
  · rw [if_neg (by omega)]; simp [rdI, List.getElem?_eq_none (by omega : l.length ≤ j), List.getElem?_eq_none (by simp; omega : (l.set i x).length ≤ j)]
theorem rdI_zero (n j : Nat) : rdI (List.replicate n (0 : Int)) j = 0 := by
  simp [rdI, List.getD_eq_getElem?_getD, List.getElem?_replicate]; split <;> rfl
theorem bump_rd {l : List Int} {i : Nat} {y : Int} (h : i < l.length) (h0 : 0 ≤ rdI l i + y) (h1 : rdI l i + y ≤ 4611686018427387904) (j : Nat) : rdI (bump l i y) j = rdI l j + if j = i then y else 0 := by
  unfold bump
  rw [rdI_put h, IntWalk.i64_in _ (by omega)]
  split
  · rename_i e; rw [e]
  · omega
theorem spread_rd {l : List Int} {h q : Nat} {x C : Int} (hl : l.length = h + 1) (hq : q ≤ h) (hb : ∀ j, 0 ≤ rdI l j ∧ rdI l j ≤ C) (hx : 0 ≤ x) (hC : C + x ≤ 4611686018427387904) (j : Nat) :
    rdI (spread true h q x l) j = rdI l j + (if j = q then x else 0) + (if 0 < q ∧ j = q - 1 then x else 0) + (if q < h ∧ j = q + 1 then x else 0) := by
  unfold spread
  simp only [if_true]
  have e1 : ∀ j, rdI (bump l q x) j = rdI l j + if j = q then x else 0 := fun j => bump_rd (by omega) (by have := hb q; omega) (by have := hb q; omega) j
  have l1 : (bump l q x).length = h + 1 := by rw [bump_len, hl]
  generalize bump l q x = n1 at *
  have e2 : ∀ j, rdI (if 0 < q then bump n1 (q - 1) x else n1) j = rdI l j + (if j = q then x else 0) + if 0 < q ∧ j = q - 1 then x else 0 := by
    intro j
    by_cases c : 0 < q
    · have e := e1 (q - 1)
      have b := hb (q - 1)
      rw [if_neg (by omega)] at e
      rw [if_pos c, bump_rd (by omega) (by omega) (by omega), e1 j]
      simp only [c, true_and]
    · rw [if_neg c, e1 j]; simp only [c, false_and, if_false]; omega
  have l2 : (if 0 < q then bump n1 (q - 1) x else n1).length = h + 1 := by split <;> simp [bump_len, l1]
  generalize (if 0 < q then bump n1 (q - 1) x else n1) = n2 at *
  by_cases c : q < h
  · have e := e2 (q + 1)
    have b := hb (q + 1)
    rw [if_neg (by omega), if_neg (by omega)] at e
    rw [if_pos c, bump_rd (by omega) (by omega) (by omega), e2 j]
    simp only [c, true_and]
  · rw [if_neg c, e2 j]; simp only [c, false_and, if_false]; omega
theorem spreadTo_rd {D : List Int} {h : Nat} {C : Int} (hb : ∀ j, 0 ≤ rdI D j ∧ rdI D j ≤ C) (hC : 4 * C ≤ 4611686018427387904) : ∀ (q : Nat), q ≤ h + 1 → ∀ j, j ≤ h → rdI (spreadTo true h D q) j = (if j < q then rdI D j else 0) + (if j + 1 < q then rdI D (j + 1) else 0) + (if 0 < j ∧ j - 1 < q then rdI D (j - 1) else 0)
  | 0, _, j, hj => by simp [spreadTo, rdI_zero]
  | q + 1, hq, j, hj => by
    have ih := spreadTo_rd (h := h) hb hC q (by omega)
    have lz := spreadTo_len true h D q
    have bz : ∀ j, 0 ≤ rdI (spreadTo true h D q) j ∧ rdI (spreadTo true h D q) j ≤ 3 * C := by
      intro j
      have b0 := hb j; have b1 := hb (j + 1); have b2 := hb (j - 1)
      by_cases c : j ≤ h
      · rw [ih j c]; (repeat' split) <;> omega
      · rw [show rdI (spreadTo true h D q) j = 0 by simp [rdI, List.getElem?_eq_none (by omega : (spreadTo true h D q).length ≤ j)]]; omega
    have bq := hb q
    rw [spreadTo, spread_rd lz (by omega) bz bq.1 (by omega), ih j hj]
    by_cases c1 : j = q
    · subst c1
      simp; (repeat' split) <;> first | omega | (exfalso; omega)
    · by_cases c2 : j + 1 = q
      · subst c2
        simp; (repeat' split) <;> first | omega | (exfalso; omega)
      · by_cases c3 : j = q + 1
        · subst c3
          simp; (repeat' split) <;> first | omega | (exfalso; omega)
        · have x1 : (j < q + 1) = (j < q) := by simp; omega
          have x2 : (j + 1 < q + 1) = (j + 1 < q) := by simp; omega
          have x3 : (0 < j ∧ j - 1 < q + 1) = (0 < j ∧ j - 1 < q) := by simp; omega
          simp only [x1, x2, x3]
          rw [if_neg c1, if_neg (by omega : ¬ (0 < q ∧ j = q - 1)), if_neg (by omega : ¬ (q < h ∧ j = q + 1))]
          omega
theorem startI_rd (h i j : Nat) (hi : i ≤ h) : rdI (startI h i) j = if j = i then 1 else 0 := by
  unfold startI; rw [rdI_put (by simp; omega)]; split
  · rfl
  · exact rdI_zero ..
theorem dp_plc (h i : Nat) (hi : i ≤ h) : ∀ t, t ≤ 24 → ∀ j, rdI (dpAt true h (startI h i) t) j = (plc h j t i : Int)
  | 0, _, j => by
    rw [dpAt, startI_rd h i j hi, plc]
    by_cases c : j = i
    · rw [if_pos c, if_pos (by omega)]; rfl
    · rw [if_neg c, if_neg (by omega)]; rfl
  | t + 1, ht, j => by
    have ih := dp_plc h i hi t (by omega)
    have hb : ∀ j, 0 ≤ rdI (dpAt true h (startI h i) t) j ∧ rdI (dpAt true h (startI h i) t) j ≤ 282429536481 := by
      intro j; rw [ih j]
      have h1 := plc_le h j t i
      have h2 : 3 ^ t ≤ 3 ^ 24 := Nat.pow_le_pow_right (by omega) (by omega)
      have h3 : (3 : Nat) ^ 24 = 282429536481 := by decide
      omega
    have hl := dpAt_len true h (startI h i) (by simp [startI]) (t + 1)
    by_cases c : j ≤ h
    · rw [dpAt, spreadTo_rd hb (by omega) (h + 1) (Nat.le_refl _) j c, plc_last, if_pos (show 0 ≤ (j : Int) ∧ (j : Int) ≤ (h : Int) by omega), if_pos (show j < h + 1 by omega), ih j]
      have a1 : (if j + 1 < h + 1 then rdI (dpAt true h (startI h i) t) (j + 1) else 0) = (plc h ((j : Int) + 1) t i : Int) := by
        split
        · rw [ih (j + 1)]; rfl
        · rw [plc_kout (by omega)]; rfl
      have a2 : (if 0 < j ∧ j - 1 < h + 1 then rdI (dpAt true h (startI h i) t) (j - 1) else 0) = (plc h ((j : Int) - 1) t i : Int) := by
        split
        · rw [ih (j - 1), show ((j - 1 : Nat) : Int) = (j : Int) - 1 by omega]
        · rw [plc_kout (by omega)]; rfl
      rw [a1, a2]; omega
    · rw [show rdI (dpAt true h (startI h i) (t + 1)) j = 0 by simp [rdI, List.getElem?_eq_none (by omega : (dpAt true h (startI h i) (t + 1)).length ≤ j)], plc_kout (by omega)]; rfl

def putB (c : ByteArray) (l : List ByteArray) : List ByteArray := l.map (c ++ ·)
/-- The paths one by one. -/
def pths (h k : Int) : Nat → Int → List ByteArray
  | 0, i => if 0 ≤ i ∧ i ≤ h ∧ i = k then [⟨#[]⟩] else []
  | n + 1, i => if 0 ≤ i ∧ i ≤ h then putB ⟨#[68]⟩ (pths h k n (i - 1)) ++ putB ⟨#[76]⟩ (pths h k n i) ++ putB ⟨#[85]⟩ (pths h k n (i + 1)) else []
theorem pths_len (h k : Int) : ∀ (n : Nat) (i : Int), (pths h k n i).length = plc h k n i
  | 0, i => by rw [pths, plc]; split <;> rfl
  | n + 1, i => by
    rw [pths, plc]; split
    · simp [putB, pths_len h k n, Nat.add_assoc]
    · rfl
theorem pths_size (h k : Int) : ∀ (n : Nat) (i : Int) (s : ByteArray), s ∈ pths h k n i → s.size = n
  | 0, i, s, hs => by
    rw [pths] at hs; split at hs
    · rw [List.mem_singleton] at hs; subst hs; rfl
    · cases hs
  | n + 1, i, s, hs => by
    rw [pths] at hs
    split at hs
    · simp only [putB, List.mem_append, List.mem_map] at hs
      rcases hs with (⟨t, ht, rfl⟩ | ⟨t, ht, rfl⟩) | ⟨t, ht, rfl⟩
      · have := pths_size h k n _ t ht; rw [ByteArray.size_append, this]; show 1 + n = n + 1; omega
      · have := pths_size h k n _ t ht; rw [ByteArray.size_append, this]; show 1 + n = n + 1; omega
      · have := pths_size h k n _ t ht; rw [ByteArray.size_append, this]; show 1 + n = n + 1; omega
    · cases hs
theorem pths_nil {h k i : Int} {n : Nat} (c : plc h k n i = 0) : pths h k n i = [] := List.eq_nil_of_length_eq_zero (by rw [pths_len, c])
end Go.Proofs.Ytabnganndcmcnaa.Ev
