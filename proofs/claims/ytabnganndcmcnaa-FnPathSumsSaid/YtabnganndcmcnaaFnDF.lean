/- Counts and paths: the plain laws. Conditions: none. -/
import Derived.Test.YtabnganndcmcnaaFnBX
import Derived.Test.YtabnganndcmcnaaFnK
set_option linter.unusedSimpArgs false
set_option linter.unusedVariables false
namespace Go.Proofs.Ytabnganndcmcnaa.Ev
open Go Go.Proofs
set_option maxRecDepth 4000
set_option maxHeartbeats 4000000

/-! ### Level counts are at most the counts -/
theorem spread_rdF {l : List Int} {h q : Nat} {x C : Int} (hl : l.length = h + 1) (hq : q ≤ h) (hb : ∀ j, 0 ≤ rdI l j ∧ rdI l j ≤ C) (hx : 0 ≤ x) (hC : C + x ≤ 4611686018427387904) (j : Nat) :
    rdI (spread false h q x l) j = rdI l j + (if 0 < q ∧ j = q - 1 then x else 0) + (if q < h ∧ j = q + 1 then x else 0) := by
  unfold spread
  simp only [Bool.false_eq_true, if_false]
  have e2 : ∀ j, rdI (if 0 < q then bump l (q - 1) x else l) j = rdI l j + if 0 < q ∧ j = q - 1 then x else 0 := by
    intro j
    by_cases c : 0 < q
    · have b := hb (q - 1)
      rw [if_pos c, bump_rd (by omega) (by omega) (by omega)]
      simp only [c, true_and]
    · rw [if_neg c]; simp only [c, false_and, if_false]; omega
  have l2 : (if 0 < q then bump l (q - 1) x else l).length = h + 1 := by split <;> simp [bump_len, hl]
  generalize (if 0 < q then bump l (q - 1) x else l) = n2 at *
  by_cases c : q < h
  · have e := e2 (q + 1)
    have b := hb (q + 1)
    rw [if_neg (by omega)] at e
    rw [if_pos c, bump_rd (by omega) (by omega) (by omega), e2 j]
    simp only [c, true_and]
  · rw [if_neg c, e2 j]; simp only [c, false_and, if_false]; omega
theorem spreadTo_rdF {D : List Int} {h : Nat} {C : Int} (hb : ∀ j, 0 ≤ rdI D j ∧ rdI D j ≤ C) (hC : 4 * C ≤ 4611686018427387904) : ∀ (q : Nat), q ≤ h + 1 → ∀ j, j ≤ h → rdI (spreadTo false h D q) j = (if j + 1 < q then rdI D (j + 1) else 0) + (if 0 < j ∧ j - 1 < q then rdI D (j - 1) else 0)
  | 0, _, j, hj => by simp [spreadTo, rdI_zero]
  | q + 1, hq, j, hj => by
    have ih := spreadTo_rdF (h := h) hb hC q (by omega)
    have lz := spreadTo_len false h D q
    have bz : ∀ j, 0 ≤ rdI (spreadTo false h D q) j ∧ rdI (spreadTo false h D q) j ≤ 2 * C := by
      intro j
      have b0 := hb j; have b1 := hb (j + 1); have b2 := hb (j - 1)
      by_cases c : j ≤ h
      · rw [ih j c]; (repeat' split) <;> omega
      · rw [show rdI (spreadTo false h D q) j = 0 by simp [rdI, List.getElem?_eq_none (by omega : (spreadTo false h D q).length ≤ j)]]; omega
    have bq := hb q
    rw [spreadTo, spread_rdF lz (by omega) bz bq.1 (by omega), ih j hj]
    by_cases c2 : j + 1 = q
    · subst c2
      simp; (repeat' split) <;> first | omega | (exfalso; omega)
    · by_cases c3 : j = q + 1
      · subst c3
        simp; (repeat' split) <;> first | omega | (exfalso; omega)
      · have x2 : (j + 1 < q + 1) = (j + 1 < q) := by simp; omega
        have x3 : (0 < j ∧ j - 1 < q + 1) = (0 < j ∧ j - 1 < q) := by simp; omega
        simp only [x2, x3]
        rw [if_neg (by omega : ¬ (0 < q ∧ j = q - 1)), if_neg (by omega : ¬ (q < h ∧ j = q + 1))]
        omega
theorem dp_lev (h i : Nat) (hi : i ≤ h) : ∀ t, t ≤ 24 → ∀ j, 0 ≤ rdI (dpAt false h (startI h i) t) j ∧ rdI (dpAt false h (startI h i) t) j ≤ (plc h j t i : Int)
  | 0, _, j => by
    have := dp_plc h i hi 0 (by omega) j
    rw [dpAt] at this ⊢; rw [this]; omega
  | t + 1, ht, j => by
    have ih := dp_lev h i hi t (by omega)
    have hb : ∀ j, 0 ≤ rdI (dpAt false h (startI h i) t) j ∧ rdI (dpAt false h (startI h i) t) j ≤ 282429536481 := by
      intro j
      have h1 := plc_le h j t i
      have h2 : 3 ^ t ≤ 3 ^ 24 := Nat.pow_le_pow_right (by omega) (by omega)
      have h3 : (3 : Nat) ^ 24 = 282429536481 := by decide
      have := ih j; omega
    have hl := dpAt_len false h (startI h i) (by simp [startI]) (t + 1)
    by_cases c : j ≤ h
    · rw [dpAt, spreadTo_rdF hb (by omega) (h + 1) (Nat.le_refl _) j c, plc_last, if_pos (show 0 ≤ (j : Int) ∧ (j : Int) ≤ (h : Int) by omega)]
      have i0 := ih j
      have i1 := ih (j + 1)
      have a1 : 0 ≤ (if j + 1 < h + 1 then rdI (dpAt false h (startI h i) t) (j + 1) else 0) ∧ (if j + 1 < h + 1 then rdI (dpAt false h (startI h i) t) (j + 1) else 0) ≤ (plc h ((j : Int) + 1) t i : Int) := by
        rw [Int.natCast_add] at i1
        split
        · exact i1
        · omega
      have a2 : 0 ≤ (if 0 < j ∧ j - 1 < h + 1 then rdI (dpAt false h (startI h i) t) (j - 1) else 0) ∧ (if 0 < j ∧ j - 1 < h + 1 then rdI (dpAt false h (startI h i) t) (j - 1) else 0) ≤ (plc h ((j : Int) - 1) t i : Int) := by
        split
        · have := ih (j - 1); rw [show ((j - 1 : Nat) : Int) = (j : Int) - 1 by omega] at this; exact this
        · omega
      omega
    · rw [show rdI (dpAt false h (startI h i) (t + 1)) j = 0 by simp [rdI, List.getElem?_eq_none (by omega : (dpAt false h (startI h i) (t + 1)).length ≤ j)]]; omega
/-- What counts say where the paths are told one by one. -/
theorem paths_counts {n i k h : Int} (hc : (pathsR n i k h).2 = 0) : (counting true n i k h).2 = 0 ∧ (counting false n i k h).2 = 0 ∧ (counting true n i k h).1 = (pathsR n i k h).1.length ∧ (counting false n i k h).1 ≤ (counting true n i k h).1 ∧ given n i k h = true := by
  unfold pathsR at hc ⊢
  cases e : given n i k h with
  | false => rw [e] at hc; simp at hc
  | true =>
    rw [e] at hc
    have e' := e
    simp only [given, Bool.and_eq_true] at e'
    obtain ⟨n, rfl, hn⟩ := counted_nat e'.1.1.1
    obtain ⟨i, rfl, hi⟩ := counted_nat e'.1.1.2
    obtain ⟨k, rfl, hk⟩ := counted_nat e'.1.2
    obtain ⟨h, rfl, hh⟩ := counted_nat e'.2
    simp only [if_true, Int.toNat_natCast] at hc ⊢
    have c : ¬ 400 < plc h k n i := fun c => by rw [if_pos c] at hc; cases hc
    rw [if_neg c]
    have c1 := counts_agree true n i k h
    have c2 := counts_agree false n i k h
    unfold counting
    simp only [e, if_true, Int.toNat_natCast]
    rw [← c1, ← c2, pths_len]
    by_cases hx : h < i ∨ h < k
    · rw [if_pos hx, if_pos hx]
      refine ⟨trivial, trivial, ?_, Int.le_refl _, trivial⟩
      have : plc h k n i = 0 := by
        rcases hx with hx | hx
        · exact plc_out (by omega) n
        · exact plc_kout (by omega) n i
      rw [this]; rfl
    · rw [if_neg hx, if_neg hx, dp_plc h i (by omega) n hn k]
      have := dp_lev h i (by omega) n hn k
      exact ⟨trivial, trivial, rfl, this.2, trivial⟩
/-! ### Each path is one -/
theorem bl_app (s t : ByteArray) : bl (s ++ t) = bl s ++ bl t := by
  simp [bl, ByteArray.data_append]
theorem pths_hts (h k : Int) : ∀ (n : Nat) (i : Int) (s : ByteArray), s ∈ pths h k n i → ∃ l, hts (bl s) i = some l ∧ (i :: l).length = n + 1 ∧ rdI (i :: l) n = k
  | 0, i, s, hs => by
    rw [pths] at hs; split at hs
    · rename_i c
      rw [List.mem_singleton] at hs; subst hs
      exact ⟨[], rfl, rfl, c.2.2⟩
    · cases hs
  | n + 1, i, s, hs => by
    rw [pths] at hs
    have key : ∀ (c : UInt8) (j : Int) (t : ByteArray), stepH c.toNat i = some j → t ∈ pths h k n j → ∃ l, hts (bl (⟨#[c]⟩ ++ t)) i = some l ∧ (i :: l).length = n + 1 + 1 ∧ rdI (i :: l) (n + 1) = k := fun c j t hj ht => by
      obtain ⟨l, h1, h2, h3⟩ := pths_hts h k n j t ht
      have hj0 : ¬ j < 0 := fun c => by
        have : pths h k n j = [] := pths_nil (plc_out (by omega) n)
        rw [this] at ht; cases ht
      refine ⟨j :: l, ?_, by simp only [List.length_cons] at h2 ⊢; omega, h3⟩
      rw [bl_app]
      show hts ((c.toNat : Int) :: bl t) i = _
      simp only [hts, hj, hj0, if_false, h1]; rfl
    split at hs
    · simp only [putB, List.mem_append, List.mem_map] at hs
      rcases hs with (⟨t, ht, rfl⟩ | ⟨t, ht, rfl⟩) | ⟨t, ht, rfl⟩
      · exact key 68 _ t rfl ht
      · exact key 76 _ t rfl ht
      · exact key 85 _ t rfl ht
    · cases hs
theorem pathsR_path {n i k h : Int} {s : ByteArray} (hs : s ∈ (pathsR n i k h).1) : ∃ l, pathR s i 24 = some l ∧ (l.length : Int) = n + 1 ∧ rdI l n.toNat = k ∧ 0 ≤ n ∧ n ≤ 24 ∧ s.size ≤ 24 := by
  unfold pathsR at hs
  split at hs
  · rename_i e
    simp only [given, Bool.and_eq_true] at e
    obtain ⟨n, rfl, hn⟩ := counted_nat e.1.1.1
    obtain ⟨i, rfl, hi⟩ := counted_nat e.1.1.2
    obtain ⟨k, rfl, hk⟩ := counted_nat e.1.2
    obtain ⟨h, rfl, hh⟩ := counted_nat e.2
    simp only [Int.toNat_natCast] at hs
    split at hs
    · cases hs
    · have hz := pths_size h k n i s hs
      obtain ⟨l, h1, h2, h3⟩ := pths_hts h k n i s hs
      refine ⟨i :: l, ?_, by omega, h3, by omega, by omega, by omega⟩
      unfold pathR heightsR
      rw [if_pos (by omega), h1]; rfl
  · cases hs
/-! ### A path turned twice -/
/-- The last height. -/
def lstH : Int → List Int → Int
  | i, [] => i
  | _, j :: l => lstH j l
theorem lstH_rd : ∀ (l : List Int) (i : Int), rdI (i :: l) l.length = lstH i l
  | [], i => rfl
  | j :: l, i => lstH_rd l j
theorem lstH_snoc : ∀ (l : List Int) (i j : Int), lstH i (l ++ [j]) = j
  | [], i, j => rfl
  | k :: l, i, j => lstH_snoc l k j
theorem hts_append : ∀ (xs ys : List Int) (i : Int), hts (xs ++ ys) i = match hts xs i with
    | none => none
    | some l => (hts ys (lstH i l)).map (l ++ ·)
  | [], ys, i => by simp [hts, lstH]
  | c :: xs, ys, i => by
    simp only [List.cons_append, hts]
    cases stepH c i with
    | none => rfl
    | some j =>
      simp only
      split
      · rfl
      · rw [hts_append xs ys j]
        cases hts xs j with
        | none => rfl
        | some l =>
          simp only [Option.map_some, lstH]
          generalize hts ys (lstH j l) = r
          cases r <;> simp
theorem turn_step {c i j : Int} (h : stepH c i = some j) : stepH (turn c) j = some i := by
  unfold stepH at h
  split at h
  · rename_i c1; injection h with h; subst h; subst c1; simp [turn, stepH]
  · split at h
    · rename_i c1 c2; injection h with h; subst h; subst c2; simp [turn, stepH]
    · split at h
      · rename_i c1 c2 c3; injection h with h; subst h; subst c3; simp [turn, stepH]
      · cases h
theorem hts_back : ∀ (cs : List Int) (i : Int) (l : List Int), 0 ≤ i → hts cs i = some l → ∃ m, hts (cs.map turn).reverse (lstH i l) = some m ∧ lstH (lstH i l) m = i
  | [], i, l, h0, h => by
    simp only [hts, Option.some.injEq] at h; subst h
    exact ⟨[], rfl, rfl⟩
  | c :: cs, i, l, h0, h => by
    simp only [hts] at h
    cases hs : stepH c i with
    | none => rw [hs] at h; cases h
    | some j =>
      rw [hs] at h
      simp only at h
      split at h
      · cases h
      · rename_i hj
        obtain ⟨l', h1, rfl⟩ := Option.map_eq_some_iff.1 h
        obtain ⟨m, m1, m2⟩ := hts_back cs j l' (by omega) h1
        have ht : hts [turn c] j = some [i] := by
          simp only [hts, turn_step hs]
          rw [if_neg (by omega)]; rfl
        refine ⟨m ++ [i], ?_, lstH_snoc ..⟩
        show hts ((turn c :: cs.map turn).reverse) (lstH j l') = _
        rw [List.reverse_cons, hts_append, m1]
        simp only [m2, ht, Option.map_some]
theorem turn_turn (c : Int) : turn (turn c) = c := by
  unfold turn
  by_cases c1 : c = 85
  · subst c1; rfl
  · by_cases c2 : c = 68
    · subst c2; rfl
    · simp [c1, c2]
theorem bl_strOf : ∀ (l : List Int), (∀ c, c ∈ l → 0 ≤ c ∧ c ≤ 255) → bl (strOf l) = l := fun l h => by
  unfold bl strOf
  simp only [List.map_map]
  conv => rhs; rw [← List.map_id l]
  refine List.map_congr_left fun c hc => ?_
  have := h c hc
  simp only [Function.comp, id]
  show ((UInt8.ofNat c.toNat).toNat : Int) = c
  rw [UInt8.toNat_ofNat']
  omega
theorem bl_byte (s : ByteArray) : ∀ c, c ∈ bl s → 0 ≤ c ∧ c ≤ 255 := fun c hc => by
  obtain ⟨b, _, rfl⟩ := List.mem_map.1 hc
  have := b.toNat_lt
  omega
theorem turn_byte {c : Int} (h : 0 ≤ c ∧ c ≤ 255) : 0 ≤ turn c ∧ turn c ≤ 255 := by
  unfold turn; (repeat' split) <;> omega
theorem turned_back {s : ByteArray} {i : Int} {l : List Int} (h : pathR s i 24 = some l) (hl : rdI l (l.length - 1) ≤ 24) :
    turned s i = (strOf ((bl s).map turn).reverse, 0) ∧ turned (strOf ((bl s).map turn).reverse) (rdI l (l.length - 1)) = (s, 0) := by
  have h1 : turned s i = (strOf ((bl s).map turn).reverse, 0) := by unfold turned; rw [h]; rfl
  refine ⟨h1, ?_⟩
  have h' := h
  unfold pathR at h'
  split at h'
  · rename_i hc
    unfold heightsR at h'
    obtain ⟨q, hq, rfl⟩ := Option.map_eq_some_iff.1 h'
    obtain ⟨m, m1, m2⟩ := hts_back (bl s) i q hc.2.1 hq
    have hlast : rdI (i :: q) ((i :: q).length - 1) = lstH i q := lstH_rd q i
    rw [hlast] at hl ⊢
    have hb : bl (strOf ((bl s).map turn).reverse) = ((bl s).map turn).reverse := bl_strOf _ fun c hc => by
      rw [List.mem_reverse] at hc
      obtain ⟨x, hx, rfl⟩ := List.mem_map.1 hc
      exact turn_byte (bl_byte s x hx)
    have hz : (strOf ((bl s).map turn).reverse).size = s.size := by
      rw [← bl_len, hb]; simp [bl_len]
    have hpos : 0 ≤ lstH i q := by
      have : ∀ (cs : List Int) (i : Int) (q : List Int), 0 ≤ i → hts cs i = some q → 0 ≤ lstH i q := by
        intro cs
        induction cs with
        | nil => intro i q h0 h; simp only [hts, Option.some.injEq] at h; subst h; exact h0
        | cons c cs ih =>
          intro i q h0 h
          simp only [hts] at h
          cases hs : stepH c i with
          | none => rw [hs] at h; cases h
          | some j =>
            rw [hs] at h
            simp only at h
            split at h
            · cases h
            · obtain ⟨l', h1, rfl⟩ := Option.map_eq_some_iff.1 h
              exact ih j l' (by omega) h1
      exact this (bl s) i q hc.2.1 hq
    have hp : pathR (strOf ((bl s).map turn).reverse) (lstH i q) 24 = some (lstH i q :: m) := by
      unfold pathR heightsR
      rw [hz, if_pos ⟨hc.1, hpos, hl⟩, hb, m1]; rfl
    unfold turned
    rw [hp, hb]
    simp only [Option.isSome_some, if_true]
    congr 1
    apply bl_inj
    rw [bl_strOf]
    · rw [List.map_reverse, List.reverse_reverse, List.map_map]
      conv => rhs; rw [← List.map_id (bl s)]
      exact List.map_congr_left fun c _ => turn_turn c
    · intro c hc
      rw [List.mem_reverse] at hc
      obtain ⟨x, hx, rfl⟩ := List.mem_map.1 hc
      rw [List.mem_reverse] at hx
      obtain ⟨y, hy, rfl⟩ := List.mem_map.1 hx
      exact turn_byte (turn_byte (bl_byte s y hy))
  · cases h'
end Go.Proofs.Ytabnganndcmcnaa.Ev
