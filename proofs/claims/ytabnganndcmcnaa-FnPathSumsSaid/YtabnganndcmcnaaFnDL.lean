/- Sums over paths one by one; turning sums. Conditions: none. -/
import Derived.Test.YtabnganndcmcnaaFnDK
import Derived.Test.YtabnganndcmcnaaFnDF
import Derived.Test.YtabnganndcmcnaaFnBT
set_option linter.unusedSimpArgs false
set_option linter.unusedVariables false
namespace Go.Proofs.Ytabnganndcmcnaa.Ev
open Go Go.Proofs
set_option maxRecDepth 4000
set_option maxHeartbeats 4000000

/-! ### Turning sums add up -/
theorem turn_sum {p : Int} (a b : List Int) (n : Nat) : ∀ h, cg p (sm (turnH p a b n) h) (upToH p a b n h)
  | 0 => cg.refl _ _
  | h + 1 => by
    rw [sm]
    refine ((turn_sum a b n h).add (cg.md _ _)).trans (cg.of_eq ?_)
    omega
/-! ### The first step of a path -/
theorem wA_first {p : Int} (a b : List Int) {r i : Nat} (hi : i < r) : ∀ (n : Nat) {k : Nat}, k < r → cg p (wA p a b r i (n + 1) k) (rdI a i * wA p a b r i n k + (if i + 1 < r then wA p a b r (i + 1) n k else 0) + (if 0 < i then rdI b i * wA p a b r (i - 1) n k else 0))
  | 0, k, hk => by
    refine (wA_next a b i 0 hk).trans (cg.of_eq ?_)
    rw [wA_zero p a b k hk, wA_zero p a b (i := i + 1) k hk, wA_zero p a b (i := i - 1) k hk]
    have z1 : (if 0 < k then wA p a b r i 0 (k - 1) else 0) = if i + 1 < r then (if i + 1 = k then (1 : Int) else 0) else 0 := by
      by_cases c : 0 < k
      · rw [if_pos c, wA_zero p a b (k - 1) (by omega)]
        by_cases q : i + 1 = k
        · have e1 : i = k - 1 := by omega
          have e2 : i + 1 < r := by omega
          simp only [e1, if_true, q]
          rw [if_pos (by omega), if_pos (by omega)]
        · have e1 : ¬ i = k - 1 := by omega
          simp only [e1, q, if_false, ite_self]
      · have q : ¬ i + 1 = k := by omega
        simp only [c, q, if_false, ite_self]
    have z2 : (if k + 1 < r then rdI b (k + 1) * wA p a b r i 0 (k + 1) else 0) = if 0 < i then rdI b i * (if i - 1 = k then (1 : Int) else 0) else 0 := by
      by_cases c : k + 1 < r
      · rw [if_pos c, wA_zero p a b (k + 1) c]
        by_cases q : i = k + 1
        · subst q; rw [if_pos rfl, if_pos (by omega), if_pos (by omega)]
        · rw [if_neg q]
          by_cases c0 : 0 < i
          · have e1 : ¬ i - 1 = k := by omega
            simp only [c0, e1, if_true, if_false, Int.mul_zero]
          · simp only [c0, if_false]; grind
      · by_cases c0 : 0 < i
        · have e1 : ¬ i - 1 = k := by omega
          simp only [c, c0, e1, if_true, if_false]; grind
        · simp only [c, c0, if_false]
    rw [z1, z2]
    by_cases q : i = k
    · subst q; grind
    · rw [if_neg q]; grind
  | n + 1, k, hk => by
    have t0 := wA_next (p := p) a b i (n + 1) hk
    have i0 := wA_first (p := p) a b hi n hk
    have i1 : cg p (if 0 < k then wA p a b r i (n + 1) (k - 1) else 0) (if 0 < k then rdI a i * wA p a b r i n (k - 1) + (if i + 1 < r then wA p a b r (i + 1) n (k - 1) else 0) + (if 0 < i then rdI b i * wA p a b r (i - 1) n (k - 1) else 0) else 0) := cg.ite (fun c => wA_first a b hi n (by omega)) fun _ => cg.refl _ _
    have i2 : cg p (if k + 1 < r then rdI b (k + 1) * wA p a b r i (n + 1) (k + 1) else 0) (if k + 1 < r then rdI b (k + 1) * (rdI a i * wA p a b r i n (k + 1) + (if i + 1 < r then wA p a b r (i + 1) n (k + 1) else 0) + (if 0 < i then rdI b i * wA p a b r (i - 1) n (k + 1) else 0)) else 0) := cg.ite (fun c => (wA_first a b hi n c).mulL _) fun _ => cg.refl _ _
    have r0 := wA_next (p := p) a b i n hk
    have r1 := wA_next (p := p) a b (i + 1) n hk
    have r2 := wA_next (p := p) a b (i - 1) n hk
    have lhs := t0.trans (((i0.mulL (rdI a k)).add i1).add i2)
    have rhs : cg p (rdI a i * wA p a b r i (n + 1) k + (if i + 1 < r then wA p a b r (i + 1) (n + 1) k else 0) + (if 0 < i then rdI b i * wA p a b r (i - 1) (n + 1) k else 0)) _ := ((r0.mulL (rdI a i)).add (cg.ite (c := i + 1 < r) (fun _ => r1) fun _ => cg.refl p 0)).add (cg.ite (c := 0 < i) (fun _ => r2.mulL (rdI b i)) fun _ => cg.refl p 0)
    refine lhs.trans (cg.trans (cg.of_eq ?_) rhs.symm)
    by_cases c1 : 0 < k <;> by_cases c2 : k + 1 < r <;> by_cases c3 : i + 1 < r <;> by_cases c4 : 0 < i <;> simp only [c1, c2, c3, c4, if_true, if_false] <;> grind
/-! ### The weight of a path, letter by letter -/
def fW (a b : List Int) (c h : Int) : Int := if c = 76 then rdI a h.toNat else if c = 68 then rdI b h.toNat else 1
def wtl (a b : List Int) : List Int → Int → Int
  | [], _ => 1
  | c :: cs, i => fW a b c i * wtl a b cs (match stepH c i with | some j => j | none => i)
theorem wAt_shift {p : Int} (a b : List Int) (c i : Int) (cs hs : List Int) : ∀ k, cg p (wAt p a b (c :: cs) (i :: hs) (k + 1)) (fW a b c i * wAt p a b cs hs k)
  | 0 => by
    show cg p (if c = 76 then 1 * rdI a i.toNat % p else if c = 68 then 1 * rdI b i.toNat % p else 1) (fW a b c i * 1)
    unfold fW
    split
    · exact (cg.md _ _).trans (cg.of_eq (by omega))
    · split
      · exact (cg.md _ _).trans (cg.of_eq (by omega))
      · exact cg.of_eq (by omega)
  | k + 1 => by
    have ih := wAt_shift (p := p) a b c i cs hs k
    have e : ∀ (x : Int) (l : List Int), rdI (x :: l) (k + 1) = rdI l k := fun _ _ => rfl
    rw [wAt, e, e]
    rw [show wAt p a b cs hs (k + 1) = if rdI cs k = 76 then wAt p a b cs hs k * rdI a (rdI hs k).toNat % p else if rdI cs k = 68 then wAt p a b cs hs k * rdI b (rdI hs k).toNat % p else wAt p a b cs hs k from rfl]
    split
    · exact (cg.md _ _).trans ((ih.mulR _).trans (cg.trans (cg.of_eq (by grind)) ((cg.md _ _).mulL _).symm))
    · split
      · exact (cg.md _ _).trans ((ih.mulR _).trans (cg.trans (cg.of_eq (by grind)) ((cg.md _ _).mulL _).symm))
      · exact ih
theorem wAt_wtl {p : Int} (a b : List Int) : ∀ (cs : List Int) (i : Int) (l : List Int), hts cs i = some l → cg p (wAt p a b cs (i :: l) cs.length) (wtl a b cs i)
  | [], i, l, h => cg.refl _ _
  | c :: cs, i, l, h => by
    simp only [hts] at h
    cases hs : stepH c i with
    | none => rw [hs] at h; cases h
    | some j =>
      rw [hs] at h
      simp only at h
      split at h
      · cases h
      · obtain ⟨l', h1, rfl⟩ := Option.map_eq_some_iff.1 h
        have ih := wAt_wtl (p := p) a b cs j l' h1
        show cg p (wAt p a b (c :: cs) (i :: j :: l') (cs.length + 1)) (wtl a b (c :: cs) i)
        refine (wAt_shift a b c i cs (j :: l') cs.length).trans ?_
        rw [wtl, hs]
        exact ih.mulL _
/-- The sum of the weights of paths. -/
def smL (f : ByteArray → Int) : List ByteArray → Int
  | [] => 0
  | s :: l => f s + smL f l
theorem smL_append (f : ByteArray → Int) : ∀ l m, smL f (l ++ m) = smL f l + smL f m
  | [], m => by simp [smL]
  | s :: l, m => by rw [List.cons_append, smL, smL, smL_append f l m]; omega
theorem smL_put {f g : ByteArray → Int} {c : ByteArray} {y : Int} (h : ∀ s, f (c ++ s) = y * g s) : ∀ l, smL f (putB c l) = y * smL g l
  | [] => by simp [putB, smL]
  | s :: l => by
    have := smL_put h l
    unfold putB at this ⊢
    rw [List.map_cons, smL, smL, this, h]; grind
def zW (a b : List Int) (h k : Int) (n : Nat) (i : Int) : Int := smL (fun s => wtl a b (bl s) i) (pths h k n i)
theorem zW_next (a b : List Int) {h : Int} (k : Int) (n : Nat) {i : Int} (hi : 0 ≤ i ∧ i ≤ h) : zW a b h k (n + 1) i = rdI b i.toNat * zW a b h k n (i - 1) + rdI a i.toNat * zW a b h k n i + zW a b h k n (i + 1) := by
  unfold zW
  rw [pths, if_pos hi, smL_append, smL_append]
  have step : ∀ (c : UInt8) (j : Int) (s : ByteArray), stepH c.toNat i = some j → wtl a b (bl (⟨#[c]⟩ ++ s)) i = fW a b c.toNat i * wtl a b (bl s) j := fun c j s hj => by
    rw [bl_app]
    show wtl a b ((c.toNat : Int) :: bl s) i = _
    rw [wtl, hj]
  have e1 := smL_put (f := fun s => wtl a b (bl s) i) (g := fun s => wtl a b (bl s) (i - 1)) (c := ⟨#[68]⟩) (y := rdI b i.toNat) (fun s => step 68 (i - 1) s rfl) (pths h k n (i - 1))
  have e2 := smL_put (f := fun s => wtl a b (bl s) i) (g := fun s => wtl a b (bl s) i) (c := ⟨#[76]⟩) (y := rdI a i.toNat) (fun s => step 76 i s rfl) (pths h k n i)
  have e3 := smL_put (f := fun s => wtl a b (bl s) i) (g := fun s => wtl a b (bl s) (i + 1)) (c := ⟨#[85]⟩) (y := 1) (fun s => step 85 (i + 1) s rfl) (pths h k n (i + 1))
  rw [e1, e2, e3]; omega
theorem zW_out (a b : List Int) {h k i : Int} (n : Nat) (hi : ¬ (0 ≤ i ∧ i ≤ h)) : zW a b h k n i = 0 := by
  unfold zW; rw [pths_nil (plc_out hi n)]; rfl
theorem zW_wA {p : Int} (a b : List Int) {r : Nat} (hr : 0 < r) : ∀ (n : Nat) {i k : Nat}, i < r → k < r → cg p (zW a b ((r : Int) - 1) k n i) (wA p a b r i n k)
  | 0, i, k, hi, hk => by
    refine cg.of_eq ?_
    rw [wA_zero p a b k hk]
    unfold zW
    rw [pths]
    by_cases c : i = k
    · rw [if_pos (by omega), if_pos c]; rfl
    · rw [if_neg (by omega), if_neg c]; rfl
  | n + 1, i, k, hi, hk => by
    rw [zW_next a b k n (by omega)]
    have i0 := zW_wA (p := p) a b hr n hi hk
    have i1 : cg p (zW a b ((r : Int) - 1) k n ((i : Int) + 1)) (if i + 1 < r then wA p a b r (i + 1) n k else 0) := by
      by_cases c : i + 1 < r
      · rw [if_pos c]
        have := zW_wA (p := p) a b hr n c hk
        rw [Int.natCast_add] at this; exact this
      · rw [if_neg c, zW_out a b n (by omega)]; exact cg.refl _ _
    have i2 : cg p (rdI b i * zW a b ((r : Int) - 1) k n ((i : Int) - 1)) (if 0 < i then rdI b i * wA p a b r (i - 1) n k else 0) := by
      by_cases c : 0 < i
      · rw [if_pos c]
        have := zW_wA (p := p) a b hr n (i := i - 1) (by omega) hk
        rw [show ((i - 1 : Nat) : Int) = (i : Int) - 1 by omega] at this
        exact this.mulL _
      · rw [if_neg c, zW_out a b n (by omega)]; exact cg.of_eq (by grind)
    rw [Int.toNat_natCast]
    refine ((i2.add (i0.mulL _)).add i1).trans (cg.trans (cg.of_eq ?_) (wA_first a b hi n hk).symm)
    omega
/-! ### The paths between 0 and r - 1 have weights -/
theorem pths_low (h k : Int) : ∀ (n : Nat) (i : Int) (s : ByteArray), s ∈ pths h k n i → ∃ l, hts (bl s) i = some l ∧ ∀ x, x ∈ i :: l → x ≤ h
  | 0, i, s, hs => by
    rw [pths] at hs; split at hs
    · rename_i c
      rw [List.mem_singleton] at hs; subst hs
      exact ⟨[], rfl, fun x hx => by rw [List.mem_singleton] at hx; omega⟩
    · cases hs
  | n + 1, i, s, hs => by
    rw [pths] at hs
    have key : ∀ (c : UInt8) (j : Int) (t : ByteArray), i ≤ h → stepH c.toNat i = some j → t ∈ pths h k n j → ∃ l, hts (bl (⟨#[c]⟩ ++ t)) i = some l ∧ ∀ x, x ∈ i :: l → x ≤ h := fun c j t hi hj ht => by
      obtain ⟨l, h1, h2⟩ := pths_low h k n j t ht
      have hj0 : ¬ j < 0 := fun c => by
        have : pths h k n j = [] := pths_nil (plc_out (by omega) n)
        rw [this] at ht; cases ht
      refine ⟨j :: l, ?_, fun x hx => ?_⟩
      · rw [bl_app]
        show hts ((c.toNat : Int) :: bl t) i = _
        simp only [hts, hj, hj0, if_false, h1]; rfl
      · rcases List.mem_cons.1 hx with rfl | hx
        · exact hi
        · exact h2 x hx
    split at hs
    · rename_i hi
      simp only [putB, List.mem_append, List.mem_map] at hs
      rcases hs with (⟨t, ht, rfl⟩ | ⟨t, ht, rfl⟩) | ⟨t, ht, rfl⟩
      · exact key 68 _ t hi.2 rfl ht
      · exact key 76 _ t hi.2 rfl ht
      · exact key 85 _ t hi.2 rfl ht
    · cases hs
theorem wtR_path {p : Int} {a b : List Int} (hj : jacB p a b = true) {n i k : Int} {s : ByteArray} (hs : s ∈ (pathsR n i k ((a.length : Int) - 1)).1) (hi : inH a i = true) :
    (wtR p a b s i).2 = 0 ∧ cg p (wtR p a b s i).1 (wtl a b (bl s) i) ∧ s.size ≤ 24 := by
  unfold pathsR at hs
  split at hs
  · rename_i e
    simp only [given, Bool.and_eq_true] at e
    obtain ⟨n, rfl, hn⟩ := counted_nat e.1.1.1
    simp only [Int.toNat_natCast] at hs
    split at hs
    · cases hs
    · have hz := pths_size _ _ n i s hs
      obtain ⟨l, h1, h2⟩ := pths_low _ _ n i s hs
      simp only [inH, Bool.and_eq_true, decide_eq_true_eq] at hi
      have hp : pathR s i ((a.length : Int) - 1) = some (i :: l) := by
        unfold pathR heightsR
        rw [if_pos (by omega), h1]; rfl
      have hlow : lowB a.length (i :: l) = true := by
        unfold lowB
        rw [List.all_eq_true]
        intro x hx
        have := h2 x hx
        simp only [decide_eq_true_eq]; omega
      have hw : wtR p a b s i = (wAt p a b (bl s) (i :: l) s.size, 0) := by
        unfold wtR
        rw [hj, hp]
        simp only [if_true, hlow]
      rw [hw]
      refine ⟨rfl, ?_, by omega⟩
      have := wAt_wtl (p := p) a b (bl s) i l h1
      rw [bl_len] at this; exact this
  · cases hs
/-- The total of the weights, as the law adds them up. -/
def twS (p : Int) (f : ByteArray → Int) (ps : List ByteArray) : Nat → Int
  | 0 => 0
  | x + 1 => (twS p f ps x + f (ps.getD x ⟨#[]⟩)) % p
theorem twS_all {p : Int} {f g : ByteArray → Int} : ∀ (ps : List ByteArray), (∀ s, s ∈ ps → cg p (f s) (g s)) → cg p (twS p f ps ps.length) (smL g ps) := by
  have key : ∀ (ps qs : List ByteArray) (y : Nat), (∀ s, s ∈ qs → cg p (f s) (g s)) → (∀ x, x < qs.length → ps.getD (y + x) ⟨#[]⟩ = qs.getD x ⟨#[]⟩) → cg p (twS p f ps (y + qs.length)) (twS p f ps y + smL g qs) := by
    intro ps qs
    induction qs with
    | nil => intro y _ _; exact cg.of_eq (by simp [smL])
    | cons q qs ih =>
      intro y hc hx
      have h0 := hx 0 (by simp)
      simp only [Nat.add_zero, List.getD_cons_zero] at h0
      have i1 := ih (y + 1) (fun s hs => hc s (List.mem_cons_of_mem _ hs)) fun x hx' => by
        have := hx (x + 1) (by simpa using hx')
        rw [show y + 1 + x = y + (x + 1) by omega, this]; simp
      rw [show y + (q :: qs).length = y + 1 + qs.length by simp only [List.length_cons]; omega]
      refine i1.trans ?_
      rw [twS, h0, smL]
      refine ((((cg.md _ _).trans ((cg.refl _ _).add (hc q (List.mem_cons_self ..))))).add (cg.refl _ _)).trans (cg.of_eq (by omega))
  intro ps hc
  have := key ps ps 0 hc fun x _ => by rw [Nat.zero_add]
  rw [Nat.zero_add] at this
  exact this.trans (cg.of_eq (by simp [twS]))
theorem twS_range {p : Int} (hp : 2 ≤ p ∧ p ≤ 10007) (f : ByteArray → Int) (ps : List ByteArray) : ∀ x, 0 ≤ twS p f ps x ∧ twS p f ps x < p
  | 0 => by show 0 ≤ (0 : Int) ∧ (0 : Int) < p; omega
  | x + 1 => mod_small hp _
theorem path_total {p : Int} {a b : List Int} (hj : jacB p a b = true) {n i k : Int} (hs : (psum p a b n i k).2 = 0) (hc : (pathsR n i k ((a.length : Int) - 1)).2 = 0) :
    twS p (fun s => (wtR p a b s i).1) (pathsR n i k ((a.length : Int) - 1)).1 (pathsR n i k ((a.length : Int) - 1)).1.length = (psum p a b n i k).1 := by
  have hp := jacB_prime hj
  have hl := jacB_len hj
  unfold psum at hs ⊢
  rw [hj] at hs ⊢
  simp only [if_true] at hs ⊢
  split at hs
  · rename_i e
    rw [if_pos e]
    simp only [Bool.and_eq_true] at e
    have hi := e.2.1
    have hi' := hi
    have hk' := e.2.2
    simp only [inH, Bool.and_eq_true, decide_eq_true_eq] at hi' hk'
    obtain ⟨i, rfl⟩ : ∃ m : Nat, i = m := ⟨i.toNat, by omega⟩
    obtain ⟨k, rfl⟩ : ∃ m : Nat, k = m := ⟨k.toNat, by omega⟩
    have e1 := e.1
    simp only [decide_eq_true_eq] at e1
    obtain ⟨n, rfl⟩ : ∃ m : Nat, n = m := ⟨n.toNat, by omega⟩
    have hf := twS_range hp (fun s => (wtR p a b s i).1) (pathsR n i k ((a.length : Int) - 1)).1 (pathsR n i k ((a.length : Int) - 1)).1.length
    refine cg.eq (by omega) (p := p) ?_ hf (wA_fine hp a b a.length _ _ _)
    refine (twS_all (g := fun s => wtl a b (bl s) i) _ fun s hs => (wtR_path hj hs hi).2.1).trans ?_
    have := zW_wA (p := p) a b (r := a.length) (by omega) n (i := i) (k := k) (by omega) (by omega)
    unfold zW at this
    have hps : (pathsR n i k ((a.length : Int) - 1)).1 = pths ((a.length : Int) - 1) k n i := by
      unfold pathsR at hc ⊢
      split
      · rename_i g
        rw [if_pos g] at hc
        split
        · rename_i g2; rw [if_pos g2] at hc; cases hc
        · rfl
      · rename_i g; rw [if_neg g] at hc; cases hc
    rw [hps]
    exact this
  · cases hs
/-! ### The total of a triangle's row and a column of the other -/
def tsm (p : Int) (a b : List Int) (r n k : Nat) : Nat → Int
  | 0 => 0
  | m + 1 => (tsm p a b r n k m + wA p a b r 0 n (k + m) * Pc p a b (k + m) k) % p
theorem tsm_range {p : Int} (hp : 2 ≤ p ∧ p ≤ 10007) (a b : List Int) (r n k : Nat) : ∀ m, 0 ≤ tsm p a b r n k m ∧ tsm p a b r n k m < p
  | 0 => by show 0 ≤ (0 : Int) ∧ (0 : Int) < p; omega
  | m + 1 => mod_small hp _
theorem tsm_sm {p : Int} (a b : List Int) (r n k : Nat) : ∀ m, cg p (tsm p a b r n k m) (sm (fun i => wA p a b r 0 n i * Pc p a b i k) (k + m))
  | 0 => by
    rw [tsm, Nat.add_zero, sm_congr (g := fun _ => 0) fun i hi => by rw [Pc_out hi]; grind, sm_zero]; exact cg.refl _ _
  | m + 1 => by
    rw [tsm, show k + (m + 1) = k + m + 1 by omega, sm]
    exact (cg.md _ _).trans ((tsm_sm a b r n k m).add (cg.refl _ _))
theorem sm_more {f : Nat → Int} {m : Nat} : ∀ {n : Nat}, m ≤ n → (∀ i, m ≤ i → i < n → f i = 0) → sm f n = sm f m
  | 0, h, _ => by rw [show m = 0 by omega]
  | n + 1, h, h0 => by
    by_cases c : m = n + 1
    · rw [c]
    · rw [sm, sm_more (n := n) (by omega) fun i h1 h2 => h0 i h1 (by omega), h0 n (by omega) (by omega)]; omega
theorem tsm_unit {p : Int} (hp : 2 ≤ p ∧ p ≤ 10007) (a b : List Int) {r n k : Nat} (hn : n < r) (hk : k ≤ n) : tsm p a b r n k (n + 1 - k) = if n = k then 1 else 0 := by
  refine cg.eq (by omega) (p := p) ((tsm_sm a b r n k (n + 1 - k)).trans ?_) (tsm_range hp a b r n k _) (by split <;> omega)
  rw [show k + (n + 1 - k) = n + 1 by omega]
  have h := tri_inv hp a b r k n hn
  rw [sm_more (m := n + 1) (by omega) fun i h1 h2 => by rw [wA_high hp a b r n i (by omega)]; grind] at h
  exact h
end Go.Proofs.Ytabnganndcmcnaa.Ev
