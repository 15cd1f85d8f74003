/- Halves of data: their moments are the even moments of the data. Conditions: none. -/
/- The plain laws of FnMasses: halves, doubles, masses, quotients. Conditions: none. -/
import Derived.Test.YtabnganndcmcnaaGreatFnDP
import Derived.Test.YtabnganndcmcnaaGreatFnAC
import Derived.Test.YtabnganndcmcnaaGreatFnX
set_option linter.unusedSimpArgs false
set_option linter.unusedVariables false
namespace Go.Proofs.YtabnganndcmcnaaGreat.Ev
open Go Go.Proofs
set_option maxRecDepth 4000
set_option maxHeartbeats 4000000

theorem mA_supp {p : Int} (a b : List Int) : ∀ (t i : Nat), t < i → i < a.length → cg p (mA p a b t i) 0
  | 0, i, h, hi => by rw [mA_zero p a b hi, if_neg (by omega)]; exact cg.refl _ _
  | t + 1, i, h, hi => by
    refine (mA_next a b t hi).trans ?_
    have e1 := (mA_supp (p := p) a b t i (by omega) hi)|> cg.mulL (rdI a i)
    have e2 : cg p (if i + 1 < a.length then mA p a b t (i + 1) else 0) 0 := by
      split
      · exact mA_supp a b t (i + 1) (by omega) ‹_›
      · exact cg.refl _ _
    have e3 : cg p (if 0 < i then rdI b i * mA p a b t (i - 1) else 0) 0 := by
      split
      · have := (mA_supp (p := p) a b t (i - 1) (by omega) (by omega))|> cg.mulL (rdI b i)
        simpa using this
      · exact cg.refl _ _
    have := (e1.add e2).add e3
    simpa using this
theorem mA_even0 {p : Int} {a : List Int} (b : List Int) (hz : ∀ i, rdI a i = 0) (h : 2 ≤ a.length) (t : Nat) :
    cg p (mA p a b (t + 2) 0) ((if 2 < a.length then mA p a b t 2 else 0) + rdI b 1 * mA p a b t 0) := by
  have e : cg p (mA p a b (t + 2) 0) (mA p a b (t + 1) 1) := by
    have e := mA_next (p := p) a b (t + 1) (i := 0) (by omega)
    rw [hz, if_pos (by omega), if_neg (by omega)] at e
    simpa using e
  have e1 : cg p (mA p a b (t + 1) 1) ((if 2 < a.length then mA p a b t 2 else 0) + rdI b 1 * mA p a b t 0) := by
    have e := mA_next (p := p) a b t (i := 1) (by omega)
    rw [hz, if_pos (show 0 < 1 by omega)] at e
    simpa using e
  exact e.trans e1
theorem mA_evenS {p : Int} {a : List Int} (b : List Int) (hz : ∀ i, rdI a i = 0) (t q : Nat) (h : 2 * q + 4 ≤ a.length) :
    cg p (mA p a b (t + 2) (2 * q + 2)) (((if 2 * q + 4 < a.length then mA p a b t (2 * q + 4) else 0) + rdI b (2 * q + 3) * mA p a b t (2 * q + 2)) + rdI b (2 * q + 2) * (mA p a b t (2 * q + 2) + rdI b (2 * q + 1) * mA p a b t (2 * q))) := by
  have e : cg p (mA p a b (t + 2) (2 * q + 2)) (mA p a b (t + 1) (2 * q + 3) + rdI b (2 * q + 2) * mA p a b (t + 1) (2 * q + 1)) := by
    have e := mA_next (p := p) a b (t + 1) (i := 2 * q + 2) (by omega)
    rw [hz, if_pos (by omega), if_pos (by omega)] at e
    simpa using e
  have e1 : cg p (mA p a b (t + 1) (2 * q + 3)) ((if 2 * q + 4 < a.length then mA p a b t (2 * q + 4) else 0) + rdI b (2 * q + 3) * mA p a b t (2 * q + 2)) := by
    have e := mA_next (p := p) a b t (i := 2 * q + 3) (by omega)
    rw [hz, if_pos (show 0 < 2 * q + 3 by omega)] at e
    simpa using e
  have e2 : cg p (mA p a b (t + 1) (2 * q + 1)) (mA p a b t (2 * q + 2) + rdI b (2 * q + 1) * mA p a b t (2 * q)) := by
    have e := mA_next (p := p) a b t (i := 2 * q + 1) (by omega)
    rw [hz, if_pos (show 2 * q + 1 + 1 < a.length by omega), if_pos (show 0 < 2 * q + 1 by omega)] at e
    simpa using e
  exact e.trans (e1.add (cg.mulL _ e2))
theorem halve_mA {p : Int} {a : List Int} (b : List Int) {m : Nat} (hz : ∀ i, rdI a i = 0) (hm : 2 * m ≤ a.length) : ∀ t k, t + k ≤ 2 * m - 1 → k < m →
    cg p (mA p a b (2 * t) (2 * k)) (mA p (tab m (hvA p b)) (tab m (hvB p b)) t k)
  | 0, k, h, hk => by
    rw [Nat.mul_zero, mA_zero p a b (by omega), mA_zero p _ _ (by rw [tab_len]; exact hk)]
    refine cg.of_eq ?_
    by_cases c : k = 0
    · subst c; rfl
    · rw [if_neg (by omega), if_neg c]
  | t + 1, k, h, hk => by
    have r := mA_next (p := p) (tab m (hvA p b)) (tab m (hvB p b)) t (i := k) (by rw [tab_len]; exact hk)
    rw [tab_len, tab_rd hk, tab_rd hk] at r
    -- what comes from above
    have up : cg p (if 2 * k + 2 < a.length then mA p a b (2 * t) (2 * k + 2) else 0) (if k + 1 < m then mA p (tab m (hvA p b)) (tab m (hvB p b)) t (k + 1) else 0) := by
      by_cases c : k + 1 < m
      · rw [if_pos c, if_pos (by omega)]
        exact halve_mA b hz hm t (k + 1) (by omega) c
      · rw [if_neg c]
        split
        · exact mA_supp a b (2 * t) (2 * k + 2) (by omega) ‹_›
        · exact cg.refl _ _
    have own := halve_mA (p := p) b hz hm t k (by omega) hk
    refine cg.trans ?_ r.symm
    cases k with
    | zero =>
      rw [if_neg (show ¬ 0 < 0 by omega)]
      have e := mA_even0 (p := p) b hz (by omega) (2 * t)
      refine e.trans ?_
      have := up.add (cg.mulL (rdI b 1) own)
      refine this.trans (cg.of_eq ?_)
      show _ = rdI b 1 * _ + _ + 0
      omega
    | succ q =>
      rw [if_pos (show 0 < q + 1 by omega)]
      have low := halve_mA (p := p) b hz hm t q (by omega) (by omega)
      have e := mA_evenS (p := p) b hz (2 * t) q (by omega)
      have hA : cg p (hvA p b (q + 1)) (rdI b (2 * q + 2) + rdI b (2 * q + 3)) := by
        unfold hvA; rw [if_neg (by omega)]; exact cg.md _ _
      have hB : cg p (hvB p b (q + 1)) (rdI b (2 * q + 1) * rdI b (2 * q + 2)) := by
        unfold hvB; rw [if_neg (by omega)]; exact cg.md _ _
      refine e.trans ?_
      have z1 := (up.add (cg.mulL (rdI b (2 * q + 3)) own)).add (cg.mulL (rdI b (2 * q + 2)) (own.add (cg.mulL (rdI b (2 * q + 1)) low)))
      refine z1.trans ?_
      have z2 := ((hA.mul (cg.refl p (mA p (tab m (hvA p b)) (tab m (hvB p b)) t (q + 1)))).add (cg.refl p (if q + 1 + 1 < m then mA p (tab m (hvA p b)) (tab m (hvB p b)) t (q + 1 + 1) else 0))).add (hB.mul (cg.refl p (mA p (tab m (hvA p b)) (tab m (hvB p b)) t q)))
      refine cg.trans (cg.of_eq ?_) z2.symm
      generalize mA p (tab m (hvA p b)) (tab m (hvB p b)) t (q + 1) = X
      generalize mA p (tab m (hvA p b)) (tab m (hvB p b)) t q = Y
      generalize (if q + 1 + 1 < m then mA p (tab m (hvA p b)) (tab m (hvB p b)) t (q + 1 + 1) else 0) = Z
      grind
theorem halve_mo {p : Int} {a : List Int} (hp : 0 < p) (b : List Int) {m t : Nat} (hz : ∀ i, rdI a i = 0) (hm : 2 * m ≤ a.length) (ht : t < 2 * m) :
    mo p (tab m (hvA p b)) (tab m (hvB p b)) t = mo p a b (2 * t) := by
  have h := halve_mA (p := p) b hz hm t 0 (by omega) (by omega)
  have e : rdI (tab m (hvB p b)) 0 = rdI b 0 := by rw [tab_rd (by omega)]; rfl
  unfold mo
  rw [e]
  exact (cg.mulL (rdI b 0) h.symm).mod hp
end Go.Proofs.YtabnganndcmcnaaGreat.Ev

set_option linter.unusedSimpArgs false
set_option linter.unusedVariables false
namespace Go.Proofs.YtabnganndcmcnaaGreat.Ev
open Go Go.Proofs
set_option maxRecDepth 4000
set_option maxHeartbeats 4000000

theorem mA_odd {p : Int} {a : List Int} (b : List Int) (hz : ∀ i, rdI a i = 0) : ∀ (t i : Nat), (t + i) % 2 = 1 → i < a.length → cg p (mA p a b t i) 0
  | 0, i, h, hi => by rw [mA_zero p a b hi, if_neg (by omega)]; exact cg.refl _ _
  | t + 1, i, h, hi => by
    refine (mA_next a b t hi).trans ?_
    rw [hz]
    have e2 : cg p (if i + 1 < a.length then mA p a b t (i + 1) else 0) 0 := by
      split
      · exact mA_odd b hz t (i + 1) (by omega) ‹_›
      · exact cg.refl _ _
    have e3 : cg p (if 0 < i then rdI b i * mA p a b t (i - 1) else 0) 0 := by
      split
      · have := cg.mulL (rdI b i) (mA_odd (p := p) b hz t (i - 1) (by omega) (by omega))
        simpa using this
      · exact cg.refl _ _
    have := ((cg.of_eq (Int.zero_mul (mA p a b t i))).add e2).add e3
    simpa using this
theorem mo_odd {p : Int} {a : List Int} (hp : 0 < p) (b : List Int) (hz : ∀ i, rdI a i = 0) (h : 0 < a.length) {t : Nat} (ht : t % 2 = 1) : mo p a b t = 0 := by
  have := (cg.mulL (rdI b 0) (mA_odd (p := p) b hz t 0 (by omega) h)).mod hp
  rw [Int.mul_zero, Int.zero_emod] at this
  exact this
theorem zeroB_rd {a : List Int} (h : zeroB a = true) (i : Nat) : rdI a i = 0 := by
  by_cases c : i < a.length
  · unfold zeroB at h
    rw [List.all_eq_true] at h
    have := h a[i] (List.getElem_mem c)
    rw [← rdI_get c] ; simpa using this
  · exact rdI_out (by omega)
theorem all_tab {n : Nat} {f : Nat → Int} {q : Int → Bool} (h : ∀ k, k < n → q (f k) = true) : (tab n f).all q = true := by
  rw [List.all_eq_true]; intro x hx
  obtain ⟨k, hk, rfl⟩ := List.mem_map.1 hx
  exact h k (List.mem_range.1 hk)
theorem hasB_of {p x : Int} (h : 0 ≤ x ∧ x < p) : hasB p x = true := by
  show (decide (0 ≤ x) && decide (x < p)) = true
  simp only [Bool.and_eq_true, decide_eq_true_eq]; exact h
theorem momB_tab {p : Int} {n : Nat} {f : Nat → Int} (h : primeB p = true) (hn : 1 ≤ n ∧ n ≤ 24) (hf : ∀ t, t < n → 0 ≤ f t ∧ f t < p) : momB p (tab n f) = true := by
  unfold momB
  have k1 : upTo (tab n f) 24 = true := by simp [upTo, tab_len]; omega
  rw [h, k1, all_tab fun k hk => hasB_of (hf k hk)]; rfl
theorem momB_pr {p : Int} {l : List Int} (h : momB p l = true) : primeB p = true := by
  cases x : primeB p
  · simp [momB, x] at h
  · rfl
theorem halve_jacB {p : Int} {a b : List Int} (h : jacB p a b = true) (h2 : 2 ≤ a.length) : jacB p (tab (a.length / 2) (hvA p b)) (tab (a.length / 2) (hvB p b)) = true := by
  have hp := jacB_prime h
  have hl := jacB_len h
  have hA : (tab (a.length / 2) (hvA p b)).all (hasB p) = true := by
    refine all_tab fun k hk => hasB_of ?_
    unfold hvA
    split
    · have := jacB_b h (show 1 < a.length by omega); omega
    · exact mod_small hp _
  have hB : (tab (a.length / 2) (hvB p b)).all (unitB p) = true := by
    refine all_tab fun k hk => ?_
    have r : 0 < hvB p b k ∧ hvB p b k < p := by
      unfold hvB
      split
      · have := jacB_b h (show 0 < a.length by omega); omega
      · have b1 := jacB_b h (show 2 * k - 1 < a.length by omega)
        have b2 := jacB_b h (show 2 * k < a.length by omega)
        have n := prime_nz (jacB_pr h) (show 0 < rdI b (2 * k - 1) ∧ rdI b (2 * k - 1) < p by omega) (show 0 < rdI b (2 * k) ∧ rdI b (2 * k) < p by omega)
        have r := mod_small hp (rdI b (2 * k - 1) * rdI b (2 * k))
        omega
    simp only [unitB, Bool.and_eq_true, decide_eq_true_eq]; omega
  unfold jacB
  rw [hA, hB, jacB_pr h]
  simp [upTo, tab_len]; omega
/-- The moments of the halved data are the halved moments. -/
theorem halve_half {p : Int} {a b : List Int} (h : jacB p a b = true) (hz : zeroB a = true) {m : Nat} (hm : 1 ≤ m ∧ 2 * m ≤ a.length) :
    halfM p (tab (4 * m - 1) (mo p a b)) = (p, tab (2 * m) (mo p (tab m (hvA p b)) (tab m (hvB p b))), 0) := by
  have hp := jacB_prime h
  have hl := jacB_len h
  have z := zeroB_rd hz
  unfold halfM
  rw [momB_tab (f := mo p a b) (jacB_pr h) (by omega) (fun t _ => mod_small hp _), if_pos rfl, symB_true (fun k hk h1 => by
    rw [tab_len] at hk
    rw [tab_rd hk]; exact mo_odd (by omega) b z (by omega) h1), if_pos rfl, tab_len, show (4 * m - 1 + 1) / 2 = 2 * m by omega]
  congr 2
  refine tab_ext fun k hk => ?_
  rw [tab_rd (by omega), halve_mo (by omega) b z (by omega) hk]
theorem half_dbl {p : Int} {l : List Int} (h : (dblM p l).2.2 = 0) : (dblM p l).1 = p ∧ halfM p (dblM p l).2.1 = (p, l, 0) := by
  unfold dblM at h ⊢
  cases e : momB p l with
  | false => rw [e] at h; simp at h
  | true =>
    rw [e] at h
    have hl := momB_len e
    have hp := momB_prime e
    by_cases c : 2 * l.length - 1 ≤ 24
    · rw [if_pos rfl, if_pos c]
      refine ⟨rfl, ?_⟩
      unfold halfM
      simp only
      rw [momB_tab (momB_pr e) (by omega) (fun t ht => by
        split
        · exact momB_rd e (by omega)
        · omega), if_pos rfl, symB_true (fun k hk h1 => by
        rw [tab_len] at hk
        rw [tab_rd hk, if_neg (by omega)]), if_pos rfl, tab_len, show (2 * l.length - 1 + 1) / 2 = l.length by omega]
      congr 2
      symm
      refine eq_tab rfl fun k hk => ?_
      rw [tab_rd (by omega), if_pos (by omega), show 2 * k / 2 = k by omega]
    · rw [if_pos rfl, if_neg c] at h; simp at h
theorem mass_back {p c w : Int} {l : List Int} (h : (massM p l c w).2.2 = 0) : (massM p l c w).1 = p ∧ massM p (massM p l c w).2.1 c ((p - w) % p) = (p, l, 0) := by
  unfold massM at h
  cases e : momB p l with
  | false => rw [e] at h; simp at h
  | true =>
    rw [e, if_pos rfl] at h
    have hl := momB_len e
    have hp := momB_prime e
    by_cases c2 : (hasB p c && hasB p w) = true
    · have e1 : massM p l c w = (p, massL p l c w, 0) := by unfold massM; rw [e, if_pos rfl, if_pos c2]
      rw [e1]
      refine ⟨rfl, ?_⟩
      simp only [Bool.and_eq_true] at c2
      unfold massM
      have hm : momB p (massL p l c w) = true := momB_tab (momB_pr e) hl (fun t _ => mod_small hp _)
      simp only
      rw [hm, if_pos rfl, c2.1, hasB_of (mod_small hp (p - w)), if_pos (show (true && true) = true from rfl)]
      congr 2
      unfold massL
      rw [tab_len]
      symm
      refine eq_tab rfl fun k hk => ?_
      rw [tab_rd hk]
      refine cg.eq (by omega) ?_ (momB_rd e hk) (mod_small hp _)
      have z := ((cg.md p (rdI l k + w * (c ^ k % p))).add ((cg.md p (p - w)).mulR (c ^ k % p)))
      refine cg.symm (((cg.md p _).trans z).trans ?_)
      exact ⟨c ^ k % p, by grind⟩
    · rw [if_neg c2] at h; simp at h
theorem mul_div {p c t : Int} {l : List Int} (h : (divM p l c t).2.2 = 0) : (divM p l c t).1 = p ∧ mulM p (divM p l c t).2.1 c = (p, l, 0) := by
  unfold divM at h
  cases e : momB p l with
  | false => rw [e] at h; simp at h
  | true =>
    rw [e, if_pos rfl] at h
    have hl := momB_len e
    have hp := momB_prime e
    by_cases c2 : (hasB p c && hasB p t) = true
    · rw [if_pos c2] at h
      by_cases c3 : l.length = 24
      · rw [if_pos c3] at h; simp at h
      · have e1 : divM p l c t = (p, tab (l.length + 1) (dvd p l c t), 0) := by unfold divM; rw [e, if_pos rfl, if_pos c2, if_neg c3]
        rw [e1]
        refine ⟨rfl, ?_⟩
        simp only [Bool.and_eq_true] at c2
        have ht : 0 ≤ t ∧ t < p := by
          have := c2.2
          simp only [hasB, Bool.and_eq_true, decide_eq_true_eq] at this; exact this
        have hd : ∀ k, 0 ≤ dvd p l c t k ∧ dvd p l c t k < p := fun k => by
          cases k with
          | zero => exact ht
          | succ k => exact mod_small hp _
        have hm : momB p (tab (l.length + 1) (dvd p l c t)) = true := momB_tab (momB_pr e) (by omega) (fun k _ => hd k)
        unfold mulM
        simp only
        rw [hm, if_pos rfl, c2.1, if_pos rfl, tab_len, if_neg (by omega)]
        congr 2
        unfold mulL
        rw [tab_len]
        symm
        refine eq_tab (by omega) fun k hk => ?_
        rw [tab_rd (by omega), tab_rd (by omega)]
        refine cg.eq (by omega) ?_ (momB_rd e (by omega)) (mod_small hp _)
        have z : cg p (dvd p l c t (k + 1)) (rdI l k + c * dvd p l c t k) := cg.md p _
        have z2 := (cg.md p (dvd p l c t (k + 1) - c * dvd p l c t k)).trans (z.sub (cg.refl p (c * dvd p l c t k)))
        exact (z2.trans (cg.of_eq (by omega))).symm
    · rw [if_neg c2] at h; simp at h
end Go.Proofs.YtabnganndcmcnaaGreat.Ev
