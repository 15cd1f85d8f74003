/- Plain laws of linear combinations of the polynomials of data. Conditions: none. -/
import Derived.Test.YtacfkfdnncgjcaaFnDJ
import Derived.Test.YtacfkfdnncgjcaaFnBK
import Derived.Test.YtacfkfdnncgjcaaFnBI
import Derived.Test.YtacfkfdnncgjcaaFnBJ
import Derived.Test.YtacfkfdnncgjcaaFnBM
import Derived.Test.YtacfkfdnncgjcaaFnBH
set_option linter.unusedSimpArgs false
set_option linter.unusedVariables false
namespace Go.Proofs.Ytacfkfdnncgjcaa.Ev
open Go Go.Proofs
set_option maxRecDepth 4000
set_option maxHeartbeats 4000000

/-! ### Lists without noughts at the end -/
theorem tln_top (f : List Int) : ∀ n m, tln f n = m + 1 → rdI f m ≠ 0
  | 0, m, h => by cases h
  | n + 1, m, h => by
    unfold tln at h
    split at h
    · exact tln_top f n m h
    · rename_i h0
      have : n = m := by omega
      subst this; exact h0
theorem trimL_idem (f : List Int) : trimL (trimL f) = trimL f := by
  by_cases c : 0 < (trimL f).length
  · refine trimL_top c ?_
    rw [trimL_rd]
    exact tln_top f f.length _ (by rw [← trimL_len]; omega)
  · have : trimL f = [] := List.eq_nil_of_length_eq_zero (by omega)
    rw [this]; rfl
theorem trimL_nil : trimL [] = [] := rfl
theorem list_eq {p : Int} (hp : 0 < p) {f g : List Int} (hf : fine p f) (hg : fine p g) (tf : trimL f = f) (tg : trimL g = g) (h : ∀ j, cg p (rdI f j) (rdI g j)) : f = g := by
  have e : ∀ j, rdI f j = rdI g j := fun j => cg.eq hp (h j) (hf j) (hg j)
  have key : ∀ {x y : List Int}, trimL x = x → (∀ j, rdI x j = rdI y j) → x.length ≤ y.length := fun {x y} tx hxy => by
    by_cases c : x.length = 0
    · omega
    · by_cases h0 : rdI x (x.length - 1) = 0
      · exfalso
        have := trimL_zero (f := x) (n := x.length - 1) (by omega) h0
        rw [tx] at this; omega
      · rw [hxy] at h0
        by_cases hl : x.length - 1 < y.length
        · omega
        · exact absurd (rdI_out (by omega)) h0
  have l1 := key tf e
  have l2 := key tg fun j => (e j).symm
  exact rdI_eq (by omega) fun j _ => e j
theorem addP_trim (p : Int) (f g : List Int) (k : Int) : trimL (addP p f g k) = addP p f g k := trimL_idem _
theorem sumP_trim (p : Int) (a b cs : List Int) : ∀ k, trimL (sumP p a b cs k) = sumP p a b cs k
  | 0 => rfl
  | k + 1 => addP_trim ..
theorem mulP_trim (p : Int) (f g : List Int) : trimL (mulP p f g) = mulP p f g := by
  unfold mulP
  split
  · rfl
  · exact trimL_idem _
theorem fine_hasB {p : Int} {l : List Int} (h : fine p l) : l.all (hasB p) = true := by
  rw [List.all_eq_true]; intro x hx
  obtain ⟨k, hk, rfl⟩ := List.getElem_of_mem hx
  rw [rdI_get hk]
  have := h k
  show (decide (0 ≤ rdI l k) && decide (rdI l k < p)) = true
  simp only [Bool.and_eq_true, decide_eq_true_eq]; exact this
/-! ### Sums -/
theorem sumP_cg {p : Int} (a b cs : List Int) (j : Nat) : ∀ k, cg p (rdI (sumP p a b cs k) j) (sm (fun i => rdI cs i * Pc p a b i j) k)
  | 0 => cg.of_eq (rdI_out (by simp [sumP]))
  | k + 1 => by
    rw [sumP, sm]
    exact (addP_rd _ _ _ j).trans ((sumP_cg a b cs j k).add (cg.refl _ _))
theorem set_sum {p : Int} (a b out : List Int) {N k : Nat} (x : Int) (j : Nat) (hN : out.length = N) (hk : k < N) (h0 : rdI out k = 0) :
    sm (fun i => rdI (out.set k x) i * Pc p a b i j) N = sm (fun i => rdI out i * Pc p a b i j) N + x * Pc p a b k j := by
  have e : sm (fun i => rdI (out.set k x) i * Pc p a b i j) N = sm (fun i => rdI out i * Pc p a b i j + (if i = k then x * Pc p a b i j else 0)) N := sm_congr fun i hi => by
    rw [rdI_set (by omega)]
    by_cases c : k = i
    · subst c; rw [if_pos rfl, if_pos rfl, h0]; omega
    · rw [if_neg c, if_neg (fun q => c q.symm)]; omega
  rw [e, sm_add, sm_one (fun i => x * Pc p a b i j) hk]
theorem exF_cg {p : Int} (hp : 2 ≤ p ∧ p ≤ 10007) (a b : List Int) (N j : Nat) : ∀ (n : Nat) (f out : List Int), f.length ≤ n → out.length = N → f.length ≤ N → (∀ i, i < f.length → rdI out i = 0) →
    cg p (sm (fun i => rdI (exF p a b n f out) i * Pc p a b i j) N) (sm (fun i => rdI out i * Pc p a b i j) N + rdI f j)
  | 0, f, out, h1, _, _, _ => by
    rw [exF, rdI_out (by omega : f.length ≤ j)]; exact cg.of_eq (by omega)
  | n + 1, f, out, h1, h2, h3, h4 => by
    rw [exF]
    by_cases c : f.length = 0
    · rw [if_pos c, rdI_out (by omega : f.length ≤ j)]; exact cg.of_eq (by omega)
    · rw [if_neg c]
      obtain ⟨k, hk⟩ : ∃ k, f.length = k + 1 := ⟨f.length - 1, by omega⟩
      rw [show f.length - 1 = k by omega]
      have d := down hp a b hk
      have ih := exF_cg hp a b N j n (addP p f (pl p a b k).1 ((-(rdI f k)) % p)) (out.set k (rdI f k)) (by omega) (by simpa using h2) (by omega) (fun i hi => by
        rw [rdI_ne (by omega)]; exact h4 i (by omega))
      refine ih.trans ?_
      rw [set_sum a b out (rdI f k) j h2 (by omega) (h4 k (by omega))]
      have z := (addP_rd (p := p) f (pl p a b k).1 ((-(rdI f k)) % p) j).trans ((cg.refl p (rdI f j)).add (cg.mulR (rdI (pl p a b k).1 j) (cg.md p (-(rdI f k)))))
      refine ((cg.refl p _).add z).trans (cg.of_eq ?_)
      show _ + rdI f k * rdI (pl p a b k).1 j + (rdI f j + -rdI f k * rdI (pl p a b k).1 j) = _
      rw [Int.neg_mul]; omega
theorem exF_fine {p : Int} (hp : 2 ≤ p ∧ p ≤ 10007) (a b : List Int) : ∀ (n : Nat) (f out : List Int), fine p f → fine p out → fine p (exF p a b n f out)
  | 0, f, out, _, h => h
  | n + 1, f, out, hf, h => by
    rw [exF]
    split
    · exact h
    · refine exF_fine hp a b n _ _ (addP_fine hp hf _) fun i => ?_
      by_cases c : i < out.length
      · rw [rdI_set c]
        split
        · exact hf _
        · exact h i
      · rw [rdI_out (by simp; omega)]; omega
theorem expandP_fine {p : Int} (hp : 2 ≤ p ∧ p ≤ 10007) (a b : List Int) {f : List Int} (hf : fine p f) : fine p (expandP p a b f) := exF_fine hp a b _ _ _ hf (zeros_fine hp.1 _)
/-- An expansion's sum is the polynomial. -/
theorem sum_expand {p : Int} (hp : 2 ≤ p ∧ p ≤ 10007) (a b : List Int) {f : List Int} (hf : fine p f) (tf : trimL f = f) : sumP p a b (expandP p a b f) f.length = f := by
  refine list_eq (p := p) (by omega) (sumP_fine hp _ _ _ _) hf (sumP_trim ..) tf fun j => ?_
  refine (sumP_cg a b _ j _).trans ?_
  refine (exF_cg hp a b f.length j f.length f (List.replicate f.length 0) (Nat.le_refl _) (by simp) (Nat.le_refl _) (fun i _ => rdI_zeros _ _)).trans (cg.of_eq ?_)
  rw [sm_congr (g := fun _ => 0) fun i _ => by rw [rdI_zeros]; omega, sm_zero]; omega
/-! ### Products -/
theorem mulI_cg {p : Int} (f g : List Int) (j : Nat) : ∀ i, i ≤ f.length → cg p (rdI (mulI p f g i) j) (sm (fun i => if i ≤ j then rdI f i * rdI g (j - i) else 0) i)
  | 0, _ => by rw [mulI, rdI_zeros]; exact cg.refl _ _
  | i + 1, h => by
    rw [mulI, sm]
    by_cases hg : g.length = 0
    · rw [hg, mulK]
      refine ((mulI_cg f g j i (by omega)).add (cg.refl p 0)).trans ?_ |> fun q => (cg.of_eq (by omega)).trans q
      refine cg.of_eq ?_
      split
      · rw [rdI_out (by omega : g.length ≤ j - i)]; omega
      · rfl
    · refine (mulK_cg f g i _ g.length (by rw [mulI_len]; omega) j).trans ((mulI_cg f g j i (by omega)).add (cg.of_eq ?_))
      by_cases c : i ≤ j
      · rw [if_pos c]
        by_cases c2 : j < i + g.length
        · rw [if_pos ⟨c, c2⟩]
        · rw [if_neg (fun q => c2 q.2), rdI_out (by omega : g.length ≤ j - i)]; omega
      · rw [if_neg c, if_neg (fun q => c q.1)]
theorem mulP_cg {p : Int} (f g : List Int) (j : Nat) : cg p (rdI (mulP p f g) j) (sm (fun i => if i ≤ j then rdI f i * rdI g (j - i) else 0) f.length) := by
  unfold mulP
  by_cases c : f.length = 0 ∨ g.length = 0
  · rw [if_pos c, rdI_out (by simp)]
    refine cg.of_eq ?_
    rw [sm_congr (g := fun _ => 0) fun i hi => ?_, sm_zero]
    split
    · rcases c with c | c
      · omega
      · rw [rdI_out (by omega : g.length ≤ j - i)]; omega
    · rfl
  · rw [if_neg c, trimL_rd]; exact mulI_cg f g j _ (Nat.le_refl _)
theorem sm_more {f : Nat → Int} {n : Nat} : ∀ m, (∀ i, n ≤ i → f i = 0) → sm f (n + m) = sm f n
  | 0, _ => rfl
  | m + 1, h => by rw [← Nat.add_assoc, sm, sm_more m h, h _ (by omega)]; omega
theorem sm_first (f : Nat → Int) : ∀ n, sm f (n + 1) = f 0 + sm (fun i => f (i + 1)) n
  | 0 => by simp only [sm]; omega
  | n + 1 => by rw [sm, sm_first f n, sm]; omega
theorem sm_rev : ∀ (n : Nat) (f : Nat → Int), sm f n = sm (fun i => f (n - 1 - i)) n
  | 0, _ => rfl
  | n + 1, f => by
    rw [sm_first (fun i => f (n + 1 - 1 - i)) n, sm, sm_rev n f]
    have : sm (fun i => f (n - 1 - i)) n = sm (fun i => f (n + 1 - 1 - (i + 1))) n := sm_congr fun i hi => by rw [show n - 1 - i = n + 1 - 1 - (i + 1) by omega]
    rw [this]
    show _ + f n = f (n + 1 - 1 - 0) + _
    rw [show n + 1 - 1 - 0 = n by omega]; omega
theorem conv_to (f g : List Int) (j : Nat) : sm (fun i => if i ≤ j then rdI f i * rdI g (j - i) else 0) f.length = sm (fun i => rdI f i * rdI g (j - i)) (j + 1) := by
  have e : sm (fun i => if i ≤ j then rdI f i * rdI g (j - i) else 0) (j + 1) = sm (fun i => rdI f i * rdI g (j - i)) (j + 1) := sm_congr fun i hi => if_pos (by omega)
  rw [← e]
  rcases Nat.le_total f.length (j + 1) with c | c
  · obtain ⟨m, hm⟩ : ∃ m, j + 1 = f.length + m := ⟨j + 1 - f.length, by omega⟩
    rw [hm, sm_more m fun i hi => by
      split
      · rw [rdI_out hi]; omega
      · rfl]
  · obtain ⟨m, hm⟩ : ∃ m, f.length = (j + 1) + m := ⟨f.length - (j + 1), by omega⟩
    rw [hm, sm_more m fun i hi => if_neg (by omega)]
theorem mulP_comm {p : Int} (hp : 2 ≤ p ∧ p ≤ 10007) (f g : List Int) : mulP p f g = mulP p g f := by
  refine list_eq (p := p) (by omega) (mulP_fine hp _ _) (mulP_fine hp _ _) (mulP_trim ..) (mulP_trim ..) fun j => ?_
  refine (mulP_cg f g j).trans (cg.trans (cg.of_eq ?_) (mulP_cg g f j).symm)
  rw [conv_to, conv_to, sm_rev]
  refine sm_congr fun i hi => ?_
  rw [show j + 1 - 1 - i = j - i by omega, show j - (j - i) = i by omega, Int.mul_comm]
theorem pl_trim {p : Int} (hp : 2 ≤ p ∧ p ≤ 10007) (a b : List Int) (k : Nat) : trimL (pl p a b k).1 = (pl p a b k).1 := by
  obtain ⟨h1, h2⟩ := pl_monic hp a b k
  exact trimL_top (by omega) (by rw [h1, Nat.add_sub_cancel, h2]; omega)
theorem mul_pl_len {p : Int} (hp : 2 ≤ p ∧ p ≤ 10007) (a b : List Int) (k l : Nat) : (mulP p (pl p a b k).1 (pl p a b l).1).length = k + l + 1 := by
  obtain ⟨h1, h2⟩ := pl_monic hp a b k
  obtain ⟨h3, h4⟩ := pl_monic hp a b l
  have le := mulP_le p (pl p a b k).1 (pl p a b l).1
  have c : cg p (rdI (mulP p (pl p a b k).1 (pl p a b l).1) (k + l)) 1 := by
    refine (mulP_cg _ _ _).trans (cg.of_eq ?_)
    rw [h1, sm_congr (g := fun i => if i = k then 1 else 0) fun i hi => ?_, sm_one (fun _ => 1) (by omega)]
    rw [if_pos (by omega)]
    by_cases e : i = k
    · subst e; rw [if_pos rfl, show i + l - i = l by omega, h2, h4]; omega
    · rw [if_neg e, rdI_out (f := (pl p a b l).1) (by omega)]; omega
  have e1 := cg.eq (by omega) c (mulP_fine hp _ _ _) (by omega)
  by_cases hl : k + l < (mulP p (pl p a b k).1 (pl p a b l).1).length
  · omega
  · rw [rdI_out (by omega)] at e1; omega
/-! ### Products by x -/
theorem times_sum {p : Int} (hp : 2 ≤ p ∧ p ≤ 10007) (a b cs : List Int) : sumP p a b (timesL p a b cs) (timesL p a b cs).length = mulP p (sumP p a b cs cs.length) [0, 1] := by
  by_cases c : cs.length = 0
  · have : cs = [] := List.eq_nil_of_length_eq_zero c
    subst this
    rfl
  · have lt : (timesL p a b cs).length = cs.length + 1 := by unfold timesL; rw [if_neg c, tab_len]
    rw [lt]
    refine list_eq (p := p) (by omega) (sumP_fine hp _ _ _ _) (mulP_fine hp _ _) (sumP_trim ..) (mulP_trim ..) fun j => ?_
    rw [mulP_comm hp]
    refine cg.trans ?_ (mulP2_rd 0 1 _ j).symm
    refine (sumP_cg a b _ j _).trans ?_
    obtain ⟨n, hn⟩ : ∃ n, cs.length = n := ⟨_, rfl⟩
    rw [hn]
    -- the left side
    have L : cg p (sm (fun i => rdI (timesL p a b cs) i * Pc p a b i j) (n + 1)) (sm (fun i => rdI cs i * Pc p a b (i + 1) j) n + sm (fun i => rdI a i * rdI cs i * Pc p a b i j) n + sm (fun i => if 0 < i then Pc p a b (i - 1) j * (rdI b i * rdI cs i) else 0) n) := by
      have e1 : cg p (sm (fun i => rdI (timesL p a b cs) i * Pc p a b i j) (n + 1)) (sm (fun i => ((if 0 < i then rdI cs (i - 1) * Pc p a b i j else 0) + (if i < n then rdI a i * rdI cs i * Pc p a b i j else 0)) + (if i + 1 < n then Pc p a b i j * (rdI b (i + 1) * rdI cs (i + 1)) else 0)) (n + 1)) := sm_cg fun i hi => by
        have : rdI (timesL p a b cs) i = txG a b cs n i % p := by unfold timesL; rw [if_neg (by omega), tab_rd (by omega), hn]
        rw [this]
        refine (cg.mulR _ (cg.md p _)).trans (cg.of_eq ?_)
        unfold txG
        by_cases q1 : 0 < i <;> by_cases q2 : i < n <;> by_cases q3 : i + 1 < n <;> simp only [q1, q2, q3, if_true, if_false, show i ≤ n by omega, true_and, false_and, and_true] <;> grind
      refine e1.trans (cg.of_eq ?_)
      rw [sm_add, sm_add]
      have s1 : sm (fun i => if 0 < i then rdI cs (i - 1) * Pc p a b i j else 0) (n + 1) = sm (fun i => rdI cs i * Pc p a b (i + 1) j) n := by
        rw [sm_first, if_neg (by omega)]
        simp only [Int.zero_add]
        exact sm_congr fun i hi => by rw [if_pos (by omega), Nat.add_sub_cancel]
      have s2 : sm (fun i => if i < n then rdI a i * rdI cs i * Pc p a b i j else 0) (n + 1) = sm (fun i => rdI a i * rdI cs i * Pc p a b i j) n := by
        rw [sm, if_neg (by omega)]
        simp only [Int.add_zero]
        exact sm_congr fun i hi => if_pos hi
      have s3 : sm (fun i => if i + 1 < n then Pc p a b i j * (rdI b (i + 1) * rdI cs (i + 1)) else 0) (n + 1) = sm (fun i => if 0 < i then Pc p a b (i - 1) j * (rdI b i * rdI cs i) else 0) n := by
        rw [sm, if_neg (by omega)]
        simp only [Int.add_zero]
        exact (sm_shift (fun i => Pc p a b i j) (fun i => rdI b i * rdI cs i) n).symm
      rw [s1, s2, s3]
    refine L.trans ?_
    -- the right side
    have R : cg p (if 0 < j then rdI (sumP p a b cs n) (j - 1) else 0) (sm (fun i => rdI cs i * (if 0 < j then Pc p a b i (j - 1) else 0)) n) := by
      by_cases q : 0 < j
      · simp only [q, if_true]
        exact sumP_cg a b cs (j - 1) n
      · simp only [q, if_false, Int.mul_zero, sm_zero]
        exact cg.refl _ _
    have R2 : cg p (sm (fun i => rdI cs i * (if 0 < j then Pc p a b i (j - 1) else 0)) n) (sm (fun i => (rdI cs i * Pc p a b (i + 1) j + rdI a i * rdI cs i * Pc p a b i j) + (if 0 < i then Pc p a b (i - 1) j * (rdI b i * rdI cs i) else 0)) n) := sm_cg fun i hi => by
      have z := cg.mulL (rdI cs i) ((Pc_next (p := p) a b i j).symm)
      obtain ⟨t, ht⟩ := z
      refine ⟨t, ?_⟩
      by_cases q : 0 < i <;> simp only [q, if_true, if_false] at ht ⊢ <;> grind
    rw [sm_add, sm_add] at R2
    refine (R.trans R2).symm.trans (cg.of_eq ?_)
    by_cases q : 0 < j <;> simp only [q, if_true, if_false] <;> omega
end Go.Proofs.Ytacfkfdnncgjcaa.Ev
