/- TimesX: both texts and the law. Conditions: none. -/
import Derived.Test.YtabnganndcmcnaaFnBG
set_option linter.unusedSimpArgs false
set_option linter.unusedVariables false
namespace Go.Proofs.Ytabnganndcmcnaa.Ev
open Go Go.Proofs
open List (map_replicate map_set map_append map_reverse map_take map_drop map_tail any_map all_map mapM_map map_map)
set_option maxRecDepth 4000
set_option maxHeartbeats 4000000

/-- What a number of the product by x is after so many steps. -/
def txG (a b cs : List Int) (i j : Nat) : Int := (if 0 < j ∧ j ≤ i then rdI cs (j - 1) else 0) + (if j < i then rdI a j * rdI cs j else 0) + (if j + 1 < i then rdI b (j + 1) * rdI cs (j + 1) else 0)
def txS (p : Int) (a b cs : List Int) : Nat → List Int
  | 0 => List.replicate (cs.length + 1) 0
  | i + 1 =>
    let A := addAt p (addAt p (txS p a b cs i) (i + 1) (rdI cs i)) i (rdI a i * rdI cs i)
    if 0 < i then addAt p A (i - 1) (rdI b i * rdI cs i) else A
theorem txS_len (p : Int) (a b cs : List Int) : ∀ i, (txS p a b cs i).length = cs.length + 1
  | 0 => by simp [txS]
  | i + 1 => by
    have ih := txS_len p a b cs i
    simp only [txS]; split <;> simp [addAt_len, ih]
theorem txS_fine {p : Int} (hp : 2 ≤ p ∧ p ≤ 10007) (a b cs : List Int) : ∀ i, fine p (txS p a b cs i)
  | 0 => zeros_fine hp.1 _
  | i + 1 => by
    have h2 := addAt_fine hp (addAt_fine hp (txS_fine hp a b cs i) (i + 1) (rdI cs i)) i (rdI a i * rdI cs i)
    simp only [txS]; split
    · exact addAt_fine hp h2 _ _
    · exact h2
theorem txS_rd {p : Int} (hp : 2 ≤ p ∧ p ≤ 10007) (a b cs : List Int) : ∀ i, i ≤ cs.length → ∀ j, j ≤ cs.length → rdI (txS p a b cs i) j = txG a b cs i j % p
  | 0, _, j, hj => by
    have : txG a b cs 0 j = 0 := by unfold txG; rw [if_neg (by omega), if_neg (by omega), if_neg (by omega)]; rfl
    rw [txS, rdI_zeros, this]; simp
  | i + 1, hi, j, hj => by
    have ih := txS_rd hp a b cs i (by omega) j hj
    have l := txS_len p a b cs i
    simp only [txS]
    have key : ∀ (A : List Int) (k : Nat) (x : Int), A.length = cs.length + 1 → rdI (addAt p A k x) j = if k = j then (rdI A k + x) % p else rdI A j := fun A k x hA => addAt_rd (by omega)
    have e1 : txG a b cs (i + 1) j = txG a b cs i j + (if i + 1 = j then rdI cs i else 0) + (if i = j then rdI a i * rdI cs i else 0) + (if 0 < i ∧ i - 1 = j then rdI b i * rdI cs i else 0) := by
      unfold txG
      by_cases c1 : i + 1 = j
      · subst c1
        rw [show i + 1 - 1 = i by omega]
        (repeat' split) <;> omega
      · by_cases c2 : i = j
        · subst c2
          (repeat' split) <;> omega
        · by_cases c3 : 0 < i ∧ i - 1 = j
          · obtain ⟨c3, rfl⟩ := c3
            rw [show i - 1 + 1 = i by omega]
            (repeat' split) <;> omega
          · have h1 : (0 < j ∧ j ≤ i + 1) ↔ (0 < j ∧ j ≤ i) := by omega
            have h2 : (j < i + 1) ↔ (j < i) := by omega
            have h3 : (j + 1 < i + 1) ↔ (j + 1 < i) := by omega
            simp only [c1, c2, c3, h1, h2, h3, if_false]; omega
    rw [e1]
    by_cases c1 : i + 1 = j
    · have c2 : ¬ i = j := by omega
      have c3 : ¬ i - 1 = j := by omega
      have c4 : ¬ (0 < i ∧ i - 1 = j) := fun h => c3 h.2
      have r : rdI (addAt p (addAt p (txS p a b cs i) (i + 1) (rdI cs i)) i (rdI a i * rdI cs i)) j = (txG a b cs i j % p + rdI cs i) % p := by
        rw [key _ _ _ (by simp [addAt_len, l]), if_neg c2, key _ _ _ l, if_pos c1, c1, ih]
      rw [if_pos c1, if_neg c2, if_neg c4, Int.add_zero, Int.add_zero, ← Int.emod_add_emod, ← r]
      split
      · rw [key _ _ _ (by simp [addAt_len, l]), if_neg c3]
      · rfl
    by_cases c2 : i = j
    · have c4 : ¬ (0 < i ∧ i - 1 = j) := by omega
      have r : rdI (addAt p (addAt p (txS p a b cs i) (i + 1) (rdI cs i)) i (rdI a i * rdI cs i)) j = (txG a b cs i j % p + rdI a i * rdI cs i) % p := by
        rw [key _ _ _ (by simp [addAt_len, l]), if_pos c2, c2]
        rw [show rdI (addAt p (txS p a b cs j) (j + 1) (rdI cs j)) j = rdI (txS p a b cs j) j by rw [addAt_rd (by rw [txS_len]; omega), if_neg (by omega)]]
        rw [← c2] at ih ⊢; rw [ih]
      rw [if_neg c1, if_pos c2, if_neg c4, Int.add_zero, Int.add_zero, ← Int.emod_add_emod, ← r]
      split
      · rw [key _ _ _ (by simp [addAt_len, l]), if_neg (by omega)]
      · rfl
    have r : rdI (addAt p (addAt p (txS p a b cs i) (i + 1) (rdI cs i)) i (rdI a i * rdI cs i)) j = txG a b cs i j % p := by
      rw [key _ _ _ (by simp [addAt_len, l]), if_neg c2, key _ _ _ l, if_neg c1, ih]
    by_cases c3 : 0 < i ∧ i - 1 = j
    · rw [if_neg c1, if_neg c2, if_pos c3, if_pos c3.1, key _ _ _ (by simp [addAt_len, l]), if_pos c3.2, c3.2, r, Int.add_zero, Int.add_zero, Int.emod_add_emod]
    · rw [if_neg c1, if_neg c2, if_neg c3, Int.add_zero, Int.add_zero, Int.add_zero, ← r]
      split
      · rename_i h0
        rw [key _ _ _ (by simp [addAt_len, l]), if_neg fun h => c3 ⟨h0, h⟩]
      · rfl
def lastB (cs : List Int) : Bool := decide (cs.length = 0) || !decide (rdI cs (cs.length - 1) = 0)
def tmB (p : Int) (a cs : List Int) : Bool := decide ((cs.length : Int) ≤ a.length) && cs.all (hasB p)
def timesL (p : Int) (a b cs : List Int) : List Int := if cs.length = 0 then [] else tab (cs.length + 1) fun j => txG a b cs cs.length j % p
def timesR (p : Int) (a b cs : List Int) : List Int × Int := if jacB p a b then (if tmB p a cs && lastB cs then (timesL p a b cs, 0) else ([], 2)) else ([], 1)
theorem timesR_len (p : Int) (a b cs : List Int) (ha : a.length ≤ 1048576) (hb : b.length ≤ 1048576) (hc : cs.length ≤ 1048576) : (timesR p a b cs).1.length ≤ 1048576 := by
  unfold timesR
  split
  · split
    · rename_i h1 h2
      simp only [tmB, Bool.and_eq_true, decide_eq_true_eq] at h2
      have := (jacB_len h1).2.1
      simp only [timesL]
      split <;> simp [tab_len] <;> omega
    · simp
  · simp
theorem lastB_trim (cs : List Int) : decide ((trimL cs).length = cs.length) = lastB cs := by
  unfold lastB
  rw [trimL_len]
  rcases h : cs.length with _ | n
  · simp [tln]
  · rw [tln]
    have := tln_le cs n
    simp only [Nat.add_sub_cancel]
    split <;> simp_all <;> omega
theorem txG_range {p : Int} {a b cs : List Int} (h : jacB p a b = true) (hf : fine p cs) (hl : cs.length ≤ a.length) (i j : Nat) (hi : i ≤ cs.length) : 0 ≤ txG a b cs i j ∧ txG a b cs i j ≤ 300000000 := by
  have hp := jacB_prime h
  have c1 := hf (j - 1)
  have c2 := hf j
  have c3 := hf (j + 1)
  unfold txG
  have t2 : 0 ≤ (if j < i then rdI a j * rdI cs j else 0) ∧ (if j < i then rdI a j * rdI cs j else 0) ≤ 100140049 := by
    split
    · have := jacB_a h (show j < a.length by omega)
      exact mul_small hp this c2
    · omega
  have t3 : 0 ≤ (if j + 1 < i then rdI b (j + 1) * rdI cs (j + 1) else 0) ∧ (if j + 1 < i then rdI b (j + 1) * rdI cs (j + 1) else 0) ≤ 100140049 := by
    split
    · have := jacB_b h (show j + 1 < a.length by omega)
      exact mul_small hp (show 0 ≤ rdI b (j + 1) ∧ rdI b (j + 1) < p by omega) c3
    · omega
  generalize (if j < i then rdI a j * rdI cs j else 0) = x at *
  generalize (if j + 1 < i then rdI b (j + 1) * rdI cs (j + 1) else 0) = y at *
  split <;> omega
theorem tx_list {p : Int} {a b cs : List Int} (h : jacB p a b = true) (hc : cs.length ≤ a.length) (hne : ¬ cs.length = 0) (hf : fine p cs) (hb : lastB cs = true) : trimL (txS p a b cs cs.length) = timesL p a b cs := by
  have hp := jacB_prime h
  have l := txS_len p a b cs cs.length
  have e : txS p a b cs cs.length = timesL p a b cs := by
    unfold timesL; rw [if_neg hne]
    exact eq_tab l fun j hj => txS_rd hp a b cs cs.length (Nat.le_refl _) j (by omega)
  rw [← e]
  refine trimL_top (by omega) ?_
  rw [l, Nat.add_sub_cancel, txS_rd hp a b cs cs.length (Nat.le_refl _) _ (Nat.le_refl _)]
  have r := hf (cs.length - 1)
  have : txG a b cs cs.length cs.length = rdI cs (cs.length - 1) := by
    unfold txG
    rw [if_pos (by omega), if_neg (by omega), if_neg (by omega)]; omega
  rw [this, Int.emod_eq_of_lt r.1 r.2]
  simp only [lastB, Bool.or_eq_true, decide_eq_true_eq, Bool.not_eq_true', decide_eq_false_iff_not] at hb
  rcases hb with hb | hb
  · exact absurd hb hne
  · exact hb
theorem run_implTimesX (p : Int) (a b cs : List Int) (ha : a.length ≤ 1048576) (hb : b.length ≤ 1048576) (hc : cs.length ≤ 1048576) :
    runv E1 89 [(V.agg [V.int .i64 (p), (V.list (List.length (a)) (List.map (V.int .i64) (a))), (V.list (List.length (b)) (List.map (V.int .i64) (b)))]), (V.list (List.length (cs)) (List.map (V.int .i64) (cs)))] = some ⟨true, .tup [(V.uniq 1 (List.length ((timesR p a b cs).1)) (List.map (V.int .i64) ((timesR p a b cs).1))), .int .i64 (timesR p a b cs).2], [.agg [.undef, .undef, .undef], .undef]⟩ := by
  have cdk : codeOk Try.f89.ntmps (Try.f89.body.getD .skip) = true := by kernel_rfl
  refine run_of_WLr (fn := Try.f89) rfl Try.func89 rfl ⟨by simp [Try.ntmps89], by simp [wideA, ints], cdk, by simp [Try.f89]⟩ rfl (by simp [rebOk, noId, adoptT, adoptA, adoptL, adoptC, depth]) ?_
  have g2 := up (run_JisList p (a.length : Int) a b cs hc)
  rw [show (primeB p && (decide (0 ≤ (cs.length : Int)) && decide ((cs.length : Int) ≤ (a.length : Int))) && cs.all (hasB p)) = (primeB p && tmB p a cs) by simp [tmB, Bool.and_assoc]] at g2
  have g3 := up (run_Jfield p a b)
  have g4 := up (run_Jsize p a b)
  have g5 := up (run_trimmedL cs hc)
  have lb := lastB_trim cs
  rw [show decide ((trimL cs).length = cs.length) = decide (((trimL cs).length : Int) = (cs.length : Int)) by rw [decide_eq_decide]; omega] at lb
  have h1 := up (run_jacobiCode p a b (primeB p && tmB p a cs && lastB cs) (by omega) (by omega))
  cases e : jacB p a b with
  | false =>
    rw [e] at h1
    simp only [Bool.false_eq_true, if_false] at h1
    cases e1 : (primeB p && tmB p a cs) <;> cases e2 : lastB cs <;> rw [e1] at g2 h1 <;> rw [e2] at lb h1 <;> simp only [Bool.and_true, Bool.and_false] at h1 <;> simp [go_sem, -map_replicate, -map_set, -map_append, -map_reverse, -map_take, -map_drop, -map_tail, -any_map, -all_map, -mapM_map, -map_map, slL, szI, ldI, zI, undL, apL, setI, rdI_get, Nat.add_one_le_iff, fillV, zeros1, zeros0, appendD, segV, lvO, goneOf, sliceD, bound, Nat.add_assoc, szL, ldL, setCs0, setCs1, setCs2, setCsA2, setCsA3, ldM, fM0, fM1, szM, zM, plM0, plM1, agM, paM, ldJ, fJ0, fJ1, fJ2, szJ, zJ, plJ0, plJ1, plJ2, agJ, paJ, g2, g3, g4, g5, lb, h1] <;> (repeat refine ⟨by kernel_rfl, by kernel_rfl, ?_⟩) <;> simp [mvcgen_simp, -map_replicate, -map_set, -map_append, -map_reverse, -map_take, -map_drop, -map_tail, -any_map, -all_map, -mapM_map, -map_map, Try.f89, timesR, e]
  | true =>
    have ep := jacB_primeB e
    rw [e, ep] at h1
    rw [ep] at g2
    simp only [Bool.true_and, if_true] at h1 g2
    have hp := jacB_prime e
    have hl := jacB_len e
    cases e1 : tmB p a cs with
    | false =>
      rw [e1] at h1 g2
      simp only [Bool.false_and, Bool.false_eq_true, if_false] at h1
      simp [go_sem, -map_replicate, -map_set, -map_append, -map_reverse, -map_take, -map_drop, -map_tail, -any_map, -all_map, -mapM_map, -map_map, slL, szI, ldI, zI, undL, apL, setI, rdI_get, Nat.add_one_le_iff, fillV, zeros1, zeros0, appendD, segV, lvO, goneOf, sliceD, bound, Nat.add_assoc, szL, ldL, setCs0, setCs1, setCs2, setCsA2, setCsA3, ldM, fM0, fM1, szM, zM, plM0, plM1, agM, paM, ldJ, fJ0, fJ1, fJ2, szJ, zJ, plJ0, plJ1, plJ2, agJ, paJ, g2, g3, g4, h1]
      repeat refine ⟨by kernel_rfl, by kernel_rfl, ?_⟩
      simp [mvcgen_simp, -map_replicate, -map_set, -map_append, -map_reverse, -map_take, -map_drop, -map_tail, -any_map, -all_map, -mapM_map, -map_map, Try.f89, timesR, e, e1]
    | true =>
      rw [e1] at h1 g2
      cases e2 : lastB cs with
      | false =>
        rw [e2] at h1 lb
        simp only [Bool.and_false, Bool.false_eq_true, if_false] at h1
        simp [go_sem, -map_replicate, -map_set, -map_append, -map_reverse, -map_take, -map_drop, -map_tail, -any_map, -all_map, -mapM_map, -map_map, slL, szI, ldI, zI, undL, apL, setI, rdI_get, Nat.add_one_le_iff, fillV, zeros1, zeros0, appendD, segV, lvO, goneOf, sliceD, bound, Nat.add_assoc, szL, ldL, setCs0, setCs1, setCs2, setCsA2, setCsA3, ldM, fM0, fM1, szM, zM, plM0, plM1, agM, paM, ldJ, fJ0, fJ1, fJ2, szJ, zJ, plJ0, plJ1, plJ2, agJ, paJ, g2, g3, g4, g5, lb, h1]
        repeat refine ⟨by kernel_rfl, by kernel_rfl, ?_⟩
        simp [mvcgen_simp, -map_replicate, -map_set, -map_append, -map_reverse, -map_take, -map_drop, -map_tail, -any_map, -all_map, -mapM_map, -map_map, Try.f89, timesR, e, e1, e2]
      | true =>
        rw [e2] at h1 lb
        simp only [Bool.and_true, if_true] at h1
        have e1' := e1
        simp only [tmB, Bool.and_eq_true, decide_eq_true_eq] at e1'
        have hca : cs.length ≤ a.length := by omega
        by_cases z : cs = []
        · have et : timesL p a b cs = [] := if_pos (by rw [z]; rfl)
          subst z
          simp only [List.length_nil, List.map_nil, Int.cast_ofNat_Int, show trimL [] = [] from rfl] at g2 g5 lb et
          simp [go_sem, -map_replicate, -map_set, -map_append, -map_reverse, -map_take, -map_drop, -map_tail, -any_map, -all_map, -mapM_map, -map_map, slL, szI, ldI, zI, undL, apL, setI, rdI_get, Nat.add_one_le_iff, fillV, zeros1, zeros0, appendD, segV, lvO, goneOf, sliceD, bound, Nat.add_assoc, szL, ldL, setCs0, setCs1, setCs2, setCsA2, setCsA3, ldM, fM0, fM1, szM, zM, plM0, plM1, agM, paM, ldJ, fJ0, fJ1, fJ2, szJ, zJ, plJ0, plJ1, plJ2, agJ, paJ, g2, g3, g4, g5, lb, h1]
          repeat refine ⟨by kernel_rfl, by kernel_rfl, ?_⟩
          simp [mvcgen_simp, -map_replicate, -map_set, -map_append, -map_reverse, -map_take, -map_drop, -map_tail, -any_map, -all_map, -mapM_map, -map_map, Try.f89, timesR, e, e1, e2, et]
        · have hne : ¬ cs.length = 0 := fun h => z (List.eq_nil_of_length_eq_zero h)
          have hf := fine_all e1'.2 hp.1
          have tl := tx_list e hca hne hf e2
          obtain ⟨n, hn⟩ : ∃ n, n = cs.length := ⟨_, rfl⟩
          have w1 : IntKind.i64.wrap ((cs.length : Int) + 1) = ((n + 1 : Nat) : Int) := by rw [IntWalk.i64_in _ (by omega)]; omega
          have c1 : (n + 1) * 8 ≤ 140737488355328 := by omega
          have c2 : ((n : Int) + 1) ≤ 9223372036854775807 := by omega
          have lS := txS_len p a b cs cs.length
          have ht := up (run_trimmed (txS p a b cs cs.length) (by omega))
          rw [tl] at ht
          have kq : (0 : Int) ≤ (n : Int) + 1 := by omega
          simp [go_sem, -map_replicate, -map_set, -map_append, -map_reverse, -map_take, -map_drop, -map_tail, -any_map, -all_map, -mapM_map, -map_map, slL, szI, ldI, zI, undL, apL, setI, rdI_get, Nat.add_one_le_iff, fillV, zeros1, zeros0, appendD, segV, lvO, goneOf, sliceD, bound, Nat.add_assoc, szL, ldL, setCs0, setCs1, setCs2, setCsA2, setCsA3, ldM, fM0, fM1, szM, zM, plM0, plM1, agM, paM, ldJ, fJ0, fJ1, fJ2, szJ, zJ, plJ0, plJ1, plJ2, agJ, paJ, g2, g3, g4, g5, lb, h1, z, w1, c1, c2, kq, zerosI]
          repeat refine ⟨by kernel_rfl, by kernel_rfl, ?_⟩
          rw [WL_loop]
          refine WL_for (keep := [2, 7, 8, 38, 39, 40]) (rs := resM Try.f89) rfl (by kernel_rfl) (fun i => mkSt [(2, .ptr 0 0 0), (7, .int .i64 p), (8, .sl 1 0 0 (n + 1)), (38, (V.list (List.length (cs)) (List.map (V.int .i64) (cs)))), (39, .int .i64 (cs.length : Int)), (40, .int .i64 (i : Int))] [some (⟨0, 1, 1, [.int .i64 p, (V.list (List.length (a)) (List.map (V.int .i64) (a))), (V.list (List.length (b)) (List.map (V.int .i64) (b)))]⟩), some (⟨0, 2, 1, (txS p a b cs i).map (V.int .i64)⟩)] (resM Try.f89)) cs.length ?_ ?_ 0 _ (by omega) rfl ?_
          · intro i hi next
            have lA := txS_len p a b cs i
            have fA := txS_fine hp a b cs i
            have rc := hf i
            have ra := jacB_a e (show i < a.length by omega)
            have rb := jacB_b e (show i < a.length by omega)
            have eS : txS p a b cs (i + 1) = if 0 < i then addAt p (addAt p (addAt p (txS p a b cs i) (i + 1) (rdI cs i)) i (rdI a i * rdI cs i)) (i - 1) (rdI b i * rdI cs i) else addAt p (addAt p (txS p a b cs i) (i + 1) (rdI cs i)) i (rdI a i * rdI cs i) := rfl
            generalize txS p a b cs i = A at *
            generalize hcx : rdI cs i = c at *
            obtain ⟨A1, hA1⟩ : ∃ A1, A1 = addAt p A (i + 1) c := ⟨_, rfl⟩
            have f1 : fine p A1 := by rw [hA1]; exact addAt_fine hp fA _ _
            have l1 : A1.length = n + 1 := by rw [hA1, addAt_len, lA, hn]
            have s1 : A.set (i + 1) ((rdI A (i + 1) + c) % p) = A1 := hA1.symm
            have q1 := fA (i + 1)
            have d1 := up (run_mod p (rdI A (i + 1) + c) hp)
            have v1 : IntKind.i64.wrap (rdI A (i + 1) + c) = rdI A (i + 1) + c := IntWalk.i64_in _ (by omega)
            rw [← hA1] at eS
            have m1 := mul_small hp ra rc
            have m2 := mul_small hp (show 0 ≤ rdI b i ∧ rdI b i < p by omega) rc
            obtain ⟨A2, hA2⟩ : ∃ A2, A2 = addAt p A1 i (rdI a i * c) := ⟨_, rfl⟩
            have f2 : fine p A2 := by rw [hA2]; exact addAt_fine hp f1 _ _
            have l2 : A2.length = n + 1 := by rw [hA2, addAt_len, l1]
            have s2 : A1.set i ((rdI A1 i + rdI a i * c) % p) = A2 := hA2.symm
            have q2 := f1 i
            have d2 := up (run_mod p (rdI A1 i + rdI a i * c) hp)
            have v2 : IntKind.i64.wrap (rdI a i * c) = rdI a i * c := IntWalk.i64_in _ (by omega)
            have v3 : IntKind.i64.wrap (rdI A1 i + rdI a i * c) = rdI A1 i + rdI a i * c := IntWalk.i64_in _ (by omega)
            rw [← hA2] at eS
            have q3 := f2 (i - 1)
            have d3 := up (run_mod p (rdI A2 (i - 1) + rdI b i * c) hp)
            have v4 : IntKind.i64.wrap (rdI b i * c) = rdI b i * c := IntWalk.i64_in _ (by omega)
            have v5 : IntKind.i64.wrap (rdI A2 (i - 1) + rdI b i * c) = rdI A2 (i - 1) + rdI b i * c := IntWalk.i64_in _ (by omega)
            have w3 : IntKind.i64.wrap ((i : Int) + 1) = (i : Int) + 1 := IntWalk.i64_in _ (by omega)
            have lA' : A.length = n + 1 := by omega
            have k1 : i < n + 1 := by omega
            have k2 : i + 1 < n + 1 := by omega
            have k2' : i < n := by omega
            have k1i : (i : Int) < (n : Int) + 1 := by omega
            have k2i : (i : Int) + 1 < (n : Int) + 1 := by omega
            have ka : i < a.length := by omega
            have kb : i < b.length := by omega
            have kai : (i : Int) < a.length := by omega
            have kbi : (i : Int) < b.length := by omega
            have kp : (0 : Int) ≤ (i : Int) + 1 := by omega
            by_cases c0 : 0 < i
            · rw [if_pos c0] at eS
              have s3 : A2.set (i - 1) ((rdI A2 (i - 1) + rdI b i * c) % p) = txS p a b cs (i + 1) := eS.symm
              have w4 : IntKind.i64.wrap ((i : Int) - 1) = ((i - 1 : Nat) : Int) := by rw [IntWalk.i64_in _ (by omega)]; omega
              have k3 : i - 1 < n + 1 := by omega
              have k3i : ((i - 1 : Nat) : Int) < (n : Int) + 1 := by omega
              have k4 : i ≤ n + 1 := by omega
              simp [go_sem, -map_replicate, -map_set, -map_append, -map_reverse, -map_take, -map_drop, -map_tail, -any_map, -all_map, -mapM_map, -map_map, slL, szI, ldI, zI, undL, apL, setI, rdI_get, Nat.add_one_le_iff, fillV, zeros1, zeros0, appendD, segV, lvO, goneOf, sliceD, bound, Nat.add_assoc, szL, ldL, setCs0, setCs1, setCs2, setCsA2, setCsA3, ldM, fM0, fM1, szM, zM, plM0, plM1, agM, paM, ldJ, fJ0, fJ1, fJ2, szJ, zJ, plJ0, plJ1, plJ2, agJ, paJ, hcx, hi, k1, k2, k2', k1i, k2i, k3, k3i, k4, ka, kb, kai, kbi, kp, c0, g3, w3, w4, lA', l1, l2, s1, s2, d1, d2, d3, v1, v2, v3, v4, v5]
              repeat refine ⟨by kernel_rfl, by kernel_rfl, ?_⟩
              refine next _ rfl ?_
              (refine canon_mk ?_; simp [method_specs_simp, ordIds_app, ordRen_app, ordIds_app2, ordRen_app2, -map_replicate, -map_set, -map_append, -map_reverse, -map_take, -map_drop, -map_tail, -map_map, s3, hcx])
            · rw [if_neg c0] at eS
              have c0' : i = 0 := by omega
              subst c0'
              simp only [Nat.zero_add, Int.cast_ofNat_Int, Int.zero_add] at *
              simp [go_sem, -map_replicate, -map_set, -map_append, -map_reverse, -map_take, -map_drop, -map_tail, -any_map, -all_map, -mapM_map, -map_map, slL, szI, ldI, zI, undL, apL, setI, rdI_get, Nat.add_one_le_iff, fillV, zeros1, zeros0, appendD, segV, lvO, goneOf, sliceD, bound, Nat.add_assoc, szL, ldL, setCs0, setCs1, setCs2, setCsA2, setCsA3, ldM, fM0, fM1, szM, zM, plM0, plM1, agM, paM, ldJ, fJ0, fJ1, fJ2, szJ, zJ, plJ0, plJ1, plJ2, agJ, paJ, hcx, hi, k1, k2, k2', k1i, k2i, ka, kb, kai, kbi, kp, g3, w3, lA', l1, l2, s1, s2, d1, d2, v1, v2, v3]
              repeat refine ⟨by kernel_rfl, by kernel_rfl, ?_⟩
              refine next _ rfl ?_
              (refine canon_mk ?_; simp [method_specs_simp, ordIds_app, ordRen_app, ordIds_app2, ordRen_app2, -map_replicate, -map_set, -map_append, -map_reverse, -map_take, -map_drop, -map_tail, -map_map, eS])
          · have lS2 : (txS p a b cs cs.length).length = n + 1 := by omega
            rw [lS2] at ht
            simp [go_sem, -map_replicate, -map_set, -map_append, -map_reverse, -map_take, -map_drop, -map_tail, -any_map, -all_map, -mapM_map, -map_map, slL, szI, ldI, zI, undL, apL, setI, rdI_get, Nat.add_one_le_iff, fillV, zeros1, zeros0, appendD, segV, lvO, goneOf, sliceD, bound, Nat.add_assoc, szL, ldL, setCs0, setCs1, setCs2, setCsA2, setCsA3, ldM, fM0, fM1, szM, zM, plM0, plM1, agM, paM, ldJ, fJ0, fJ1, fJ2, szJ, zJ, plJ0, plJ1, plJ2, agJ, paJ, ht, lS2]
            simp [mvcgen_simp, -map_replicate, -map_set, -map_append, -map_reverse, -map_take, -map_drop, -map_tail, -any_map, -all_map, -mapM_map, -map_map, Try.f89, timesR, e, e1, e2]
          · (refine canon_mk ?_; simp [method_specs_simp, ordIds_app, ordRen_app, ordIds_app2, ordRen_app2, -map_replicate, -map_set, -map_append, -map_reverse, -map_take, -map_drop, -map_tail, -map_map, txS, ← hn])
theorem run_specTimesX (p : Int) (a b cs : List Int) (ha : a.length ≤ 1048576) (hb : b.length ≤ 1048576) (hc : cs.length ≤ 1048576) :
    runv E1 90 [(V.agg [V.int .i64 (p), (V.list (List.length (a)) (List.map (V.int .i64) (a))), (V.list (List.length (b)) (List.map (V.int .i64) (b)))]), (V.list (List.length (cs)) (List.map (V.int .i64) (cs)))] = some ⟨true, .tup [(V.uniq 1 (List.length ((timesR p a b cs).1)) (List.map (V.int .i64) ((timesR p a b cs).1))), .int .i64 (timesR p a b cs).2], [.agg [.undef, .undef, .undef], .undef]⟩ := by
  have cdk : codeOk Try.f90.ntmps (Try.f90.body.getD .skip) = true := by kernel_rfl
  refine run_of_WLr (fn := Try.f90) rfl Try.func90 rfl ⟨by simp [Try.ntmps90], by simp [wideA, ints], cdk, by simp [Try.f90]⟩ rfl (by simp [rebOk, noId, adoptT, adoptA, adoptL, adoptC, depth]) ?_
  have h1 := up (run_l10List p a b cs 0 ha hb hc (by omega))
  rw [Int.add_zero, show (decide ((cs.length : Int) ≤ (a.length : Int)) && cs.all (hasB p)) = tmB p a cs from rfl] at h1
  cases e : jacB p a b with
  | false =>
    rw [e] at h1
    simp only [Bool.false_eq_true, if_false] at h1
    simp [go_sem, -map_replicate, -map_set, -map_append, -map_reverse, -map_take, -map_drop, -map_tail, -any_map, -all_map, -mapM_map, -map_map, slL, szI, ldI, zI, undL, apL, setI, rdI_get, Nat.add_one_le_iff, fillV, zeros1, zeros0, appendD, segV, lvO, goneOf, sliceD, bound, Nat.add_assoc, szL, ldL, setCs0, setCs1, setCs2, setCsA2, setCsA3, ldM, fM0, fM1, szM, zM, plM0, plM1, agM, paM, ldJ, fJ0, fJ1, fJ2, szJ, zJ, plJ0, plJ1, plJ2, agJ, paJ, h1]
    simp [mvcgen_simp, -map_replicate, -map_set, -map_append, -map_reverse, -map_take, -map_drop, -map_tail, -any_map, -all_map, -mapM_map, -map_map, Try.f90, timesR, e]
  | true =>
    rw [e] at h1
    have hp := jacB_prime e
    have hl := jacB_len e
    cases e1 : tmB p a cs with
    | false =>
      rw [e1] at h1
      simp only [Bool.false_eq_true, if_false, if_true] at h1
      simp [go_sem, -map_replicate, -map_set, -map_append, -map_reverse, -map_take, -map_drop, -map_tail, -any_map, -all_map, -mapM_map, -map_map, slL, szI, ldI, zI, undL, apL, setI, rdI_get, Nat.add_one_le_iff, fillV, zeros1, zeros0, appendD, segV, lvO, goneOf, sliceD, bound, Nat.add_assoc, szL, ldL, setCs0, setCs1, setCs2, setCsA2, setCsA3, ldM, fM0, fM1, szM, zM, plM0, plM1, agM, paM, ldJ, fJ0, fJ1, fJ2, szJ, zJ, plJ0, plJ1, plJ2, agJ, paJ, h1]
      simp [mvcgen_simp, -map_replicate, -map_set, -map_append, -map_reverse, -map_take, -map_drop, -map_tail, -any_map, -all_map, -mapM_map, -map_map, Try.f90, timesR, e, e1]
    | true =>
      rw [e1] at h1
      simp only [if_true] at h1
      have e1' := e1
      simp only [tmB, Bool.and_eq_true, decide_eq_true_eq] at e1'
      have hca : cs.length ≤ a.length := by omega
      by_cases z : cs = []
      · have et : timesL p a b cs = [] := if_pos (by rw [z]; rfl)
        have e2 : lastB cs = true := by rw [z]; rfl
        subst z
        simp only [List.length_nil, List.map_nil, Int.cast_ofNat_Int] at h1 et
        simp [go_sem, -map_replicate, -map_set, -map_append, -map_reverse, -map_take, -map_drop, -map_tail, -any_map, -all_map, -mapM_map, -map_map, slL, szI, ldI, zI, undL, apL, setI, rdI_get, Nat.add_one_le_iff, fillV, zeros1, zeros0, appendD, segV, lvO, goneOf, sliceD, bound, Nat.add_assoc, szL, ldL, setCs0, setCs1, setCs2, setCsA2, setCsA3, ldM, fM0, fM1, szM, zM, plM0, plM1, agM, paM, ldJ, fJ0, fJ1, fJ2, szJ, zJ, plJ0, plJ1, plJ2, agJ, paJ, h1]
        repeat refine ⟨by kernel_rfl, by kernel_rfl, ?_⟩
        rw [WL_loop, WL_reb rfl]
        rw [show maskL (livK (resM Try.f90) (.inLoop _ :: _)).1 = [1, 2, 7, 8, 9] by kernel_rfl]
        rw [show canon [1, 2, 7, 8, 9] _ = mkSt [(1, .list 0 []), (2, .ptr 0 0 0), (7, .nils), (8, .int .i64 0), (9, .int .i64 0)] [some (⟨0, 1, 1, [.int .i64 p, (V.list (List.length (a)) (List.map (V.int .i64) (a))), (V.list (List.length (b)) (List.map (V.int .i64) (b)))]⟩)] (resM Try.f90) by (refine canon_mk ?_; simp [method_specs_simp, ordIds_app, ordRen_app, ordIds_app2, ordRen_app2, -map_replicate, -map_set, -map_append, -map_reverse, -map_take, -map_drop, -map_tail, -map_map])]
        simp [go_sem, -map_replicate, -map_set, -map_append, -map_reverse, -map_take, -map_drop, -map_tail, -any_map, -all_map, -mapM_map, -map_map, slL, szI, ldI, zI, undL, apL, setI, rdI_get, Nat.add_one_le_iff, fillV, zeros1, zeros0, appendD, segV, lvO, goneOf, sliceD, bound, Nat.add_assoc, szL, ldL, setCs0, setCs1, setCs2, setCsA2, setCsA3, ldM, fM0, fM1, szM, zM, plM0, plM1, agM, paM, ldJ, fJ0, fJ1, fJ2, szJ, zJ, plJ0, plJ1, plJ2, agJ, paJ]
        simp [mvcgen_simp, -map_replicate, -map_set, -map_append, -map_reverse, -map_take, -map_drop, -map_tail, -any_map, -all_map, -mapM_map, -map_map, Try.f90, timesR, e, e1, e2, et]
      · have hne : ¬ cs.length = 0 := fun h => z (List.eq_nil_of_length_eq_zero h)
        have hpos : 0 < cs.length := by omega
        have wl : IntKind.i64.wrap ((cs.length : Int) - 1) = ((cs.length - 1 : Nat) : Int) := by rw [IntWalk.i64_in _ (by omega)]; omega
        have kl : cs.length - 1 < cs.length := by omega
        have kli : ((cs.length - 1 : Nat) : Int) < cs.length := by omega
        by_cases zl : rdI cs (cs.length - 1) = 0
        · have e2 : lastB cs = false := by simp [lastB, hne, z, zl]
          simp [go_sem, -map_replicate, -map_set, -map_append, -map_reverse, -map_take, -map_drop, -map_tail, -any_map, -all_map, -mapM_map, -map_map, slL, szI, ldI, zI, undL, apL, setI, rdI_get, Nat.add_one_le_iff, fillV, zeros1, zeros0, appendD, segV, lvO, goneOf, sliceD, bound, Nat.add_assoc, szL, ldL, setCs0, setCs1, setCs2, setCsA2, setCsA3, ldM, fM0, fM1, szM, zM, plM0, plM1, agM, paM, ldJ, fJ0, fJ1, fJ2, szJ, zJ, plJ0, plJ1, plJ2, agJ, paJ, h1, z, hpos, wl, kl, kli, zl]
          repeat refine ⟨by kernel_rfl, by kernel_rfl, ?_⟩
          simp [mvcgen_simp, -map_replicate, -map_set, -map_append, -map_reverse, -map_take, -map_drop, -map_tail, -any_map, -all_map, -mapM_map, -map_map, Try.f90, timesR, e, e1, e2]
        have e2 : lastB cs = true := by simp [lastB, z, zl]
        have hf := fine_all e1'.2 hp.1
        have et : timesL p a b cs = tab (cs.length + 1) fun j => txG a b cs cs.length j % p := if_neg hne
        simp [go_sem, -map_replicate, -map_set, -map_append, -map_reverse, -map_take, -map_drop, -map_tail, -any_map, -all_map, -mapM_map, -map_map, slL, szI, ldI, zI, undL, apL, setI, rdI_get, Nat.add_one_le_iff, fillV, zeros1, zeros0, appendD, segV, lvO, goneOf, sliceD, bound, Nat.add_assoc, szL, ldL, setCs0, setCs1, setCs2, setCsA2, setCsA3, ldM, fM0, fM1, szM, zM, plM0, plM1, agM, paM, ldJ, fJ0, fJ1, fJ2, szJ, zJ, plJ0, plJ1, plJ2, agJ, paJ, h1, z, hpos, wl, kl, kli, zl]
        repeat refine ⟨by kernel_rfl, by kernel_rfl, ?_⟩
        rw [WL_loop]
        have hpn : ¬ p = 0 := by omega
        refine WL_for (keep := [1, 2, 7, 8, 9]) (rs := resM Try.f90) rfl (by kernel_rfl) (fun x => match x with | 0 => mkSt [(1, (V.list (List.length (cs)) (List.map (V.int .i64) (cs)))), (2, .ptr 0 0 0), (7, .nils), (8, .int .i64 (cs.length : Int)), (9, .int .i64 0)] [some (⟨0, 1, 1, [.int .i64 p, (V.list (List.length (a)) (List.map (V.int .i64) (a))), (V.list (List.length (b)) (List.map (V.int .i64) (b)))]⟩)] (resM Try.f90) | k + 1 => mkSt [(1, (V.list (List.length (cs)) (List.map (V.int .i64) (cs)))), (2, .ptr 0 0 0), (7, .sl 1 0 0 (k + 1)), (8, .int .i64 (cs.length : Int)), (9, .int .i64 ((k : Int) + 1))] [some (⟨0, 1, 1, [.int .i64 p, (V.list (List.length (a)) (List.map (V.int .i64) (a))), (V.list (List.length (b)) (List.map (V.int .i64) (b)))]⟩), some (⟨0, 2, 1, (tab (k + 1) (fun j => txG a b cs cs.length j % p)).map (V.int .i64)⟩)] (resM Try.f90)) (cs.length + 1) ?_ ?_ 0 _ (by omega) rfl ?_
        · intro i hi next
          have rg := txG_range e hf hca cs.length i (Nat.le_refl _)
          have tA : tab (i + 1) (fun j => txG a b cs cs.length j % p) = tab i (fun j => txG a b cs cs.length j % p) ++ [txG a b cs cs.length i % p] := tab_succ _ _
          have lA := tab_len i (fun j => txG a b cs cs.length j % p)
          have w3 : IntKind.i64.wrap ((i : Int) + 1) = (i : Int) + 1 := IntWalk.i64_in _ (by omega)
          have ci : (i : Int) ≤ cs.length := by omega
          have cpi : (0 : Int) < cs.length := by omega
          have c3 : (i + 1) * 8 ≤ 140737488355328 := by omega
          have dG : (txG a b cs cs.length i).tmod p = txG a b cs cs.length i % p := Int.tmod_eq_emod_of_nonneg rg.1
          have r0 := hf (i - 1)
          have r1 := hf i
          have r2 := hf (i + 1)
          have pa : i < cs.length → 0 ≤ rdI a i * rdI cs i ∧ rdI a i * rdI cs i ≤ 100140049 := fun h => mul_small hp (jacB_a e (show i < a.length by omega)) r1
          have pb : i + 1 < cs.length → 0 ≤ rdI b (i + 1) * rdI cs (i + 1) ∧ rdI b (i + 1) * rdI cs (i + 1) ≤ 100140049 := fun h => by
            have := jacB_b e (show i + 1 < a.length by omega)
            exact mul_small hp (show 0 ≤ rdI b (i + 1) ∧ rdI b (i + 1) < p by omega) r2
          have eG : txG a b cs cs.length i = (if 0 < i then rdI cs (i - 1) else 0) + (if i < cs.length then rdI a i * rdI cs i else 0) + (if i + 1 < cs.length then rdI b (i + 1) * rdI cs (i + 1) else 0) := by
            unfold txG
            have hz : (0 < i ∧ i ≤ cs.length) ↔ 0 < i := by omega
            simp only [hz]
          generalize hTA : tab i (fun j => txG a b cs cs.length j % p) = TA at *
          generalize hx : txG a b cs cs.length i % p = x at *
          rcases i with _ | k
          · obtain rfl : TA = [] := hTA.symm
            dsimp only at next ⊢
            have pa := pa (by omega)
            have v1 : IntKind.i64.wrap (rdI a 0 * rdI cs 0) = rdI a 0 * rdI cs 0 := IntWalk.i64_in _ (by omega)
            have ka : 0 < a.length := by omega
            have kb : 1 < a.length → 1 < b.length := by omega
            by_cases c4 : 1 < cs.length
            · have pb := pb (by omega)
              simp only [Nat.lt_irrefl, if_false, hpos, c4, if_true, Nat.zero_add, Int.zero_add] at eG pb
              rw [eG] at dG
              have v2 : IntKind.i64.wrap (rdI b 1 * rdI cs 1) = rdI b 1 * rdI cs 1 := IntWalk.i64_in _ (by omega)
              have v3 : IntKind.i64.wrap (rdI a 0 * rdI cs 0 + rdI b 1 * rdI cs 1) = rdI a 0 * rdI cs 0 + rdI b 1 * rdI cs 1 := IntWalk.i64_in _ (by omega)
              have kb := kb (by omega)
              have c4i : (1 : Int) < cs.length := by omega
              have kbi : (1 : Int) < b.length := by omega
              simp [go_sem, -map_replicate, -map_set, -map_append, -map_reverse, -map_take, -map_drop, -map_tail, -any_map, -all_map, -mapM_map, -map_map, slL, szI, ldI, zI, undL, apL, setI, rdI_get, Nat.add_one_le_iff, fillV, zeros1, zeros0, appendD, segV, lvO, goneOf, sliceD, bound, Nat.add_assoc, szL, ldL, setCs0, setCs1, setCs2, setCsA2, setCsA3, ldM, fM0, fM1, szM, zM, plM0, plM1, agM, paM, ldJ, fJ0, fJ1, fJ2, szJ, zJ, plJ0, plJ1, plJ2, agJ, paJ, hpos, cpi, ci, wz1, ka, kb, kbi, c4, c4i, v1, v2, v3, dG, hpn]
              repeat refine ⟨by kernel_rfl, by kernel_rfl, ?_⟩
              refine next _ rfl ?_
              (refine canon_mk ?_; simp [method_specs_simp, ordIds_app, ordRen_app, ordIds_app2, ordRen_app2, -map_replicate, -map_set, -map_append, -map_reverse, -map_take, -map_drop, -map_tail, -map_map, tA])
            · simp only [Nat.lt_irrefl, if_false, hpos, c4, if_true, Nat.zero_add, Int.zero_add, Int.add_zero] at eG
              rw [eG] at dG
              have c4i : ¬ (1 : Int) < cs.length := by omega
              simp [go_sem, -map_replicate, -map_set, -map_append, -map_reverse, -map_take, -map_drop, -map_tail, -any_map, -all_map, -mapM_map, -map_map, slL, szI, ldI, zI, undL, apL, setI, rdI_get, Nat.add_one_le_iff, fillV, zeros1, zeros0, appendD, segV, lvO, goneOf, sliceD, bound, Nat.add_assoc, szL, ldL, setCs0, setCs1, setCs2, setCsA2, setCsA3, ldM, fM0, fM1, szM, zM, plM0, plM1, agM, paM, ldJ, fJ0, fJ1, fJ2, szJ, zJ, plJ0, plJ1, plJ2, agJ, paJ, hpos, cpi, ci, wz1, ka, c4, c4i, v1, dG, hpn]
              repeat refine ⟨by kernel_rfl, by kernel_rfl, ?_⟩
              refine next _ rfl ?_
              (refine canon_mk ?_; simp [method_specs_simp, ordIds_app, ordRen_app, ordIds_app2, ordRen_app2, -map_replicate, -map_set, -map_append, -map_reverse, -map_take, -map_drop, -map_tail, -map_map, tA])
          · dsimp only at next ⊢
            have w5 : IntKind.i64.wrap (k : Int) = (k : Int) := IntWalk.i64_in _ (by omega)
            have kk : k < cs.length := by omega
            have kki : (k : Int) < cs.length := by omega
            have q1 : (0 : Int) < (k : Int) + 1 := by omega
            have q2 : (0 : Int) ≤ (k : Int) + 1 := by omega
            have q3 : (0 : Int) ≤ (k : Int) + 1 + 1 := by omega
            simp only [Nat.add_sub_cancel, Nat.succ_pos, if_true, Int.natCast_add, Int.cast_ofNat_Int, Nat.add_assoc, Nat.reduceAdd] at *
            by_cases c4 : k + 1 < cs.length
            · have pa := pa (by omega)
              have v1 : IntKind.i64.wrap (rdI a (k + 1) * rdI cs (k + 1)) = rdI a (k + 1) * rdI cs (k + 1) := IntWalk.i64_in _ (by omega)
              have v4 : IntKind.i64.wrap (rdI cs k + rdI a (k + 1) * rdI cs (k + 1)) = rdI cs k + rdI a (k + 1) * rdI cs (k + 1) := IntWalk.i64_in _ (by omega)
              have c4i : (k : Int) + 1 < cs.length := by omega
              have ka : k + 1 < a.length := by omega
              have kai : (k : Int) + 1 < a.length := by omega
              by_cases c5 : k + 2 < cs.length
              · have pb := pb (by omega)
                simp only [c4, c5, if_true] at eG
                rw [eG] at dG
                have v2 : IntKind.i64.wrap (rdI b (k + 2) * rdI cs (k + 2)) = rdI b (k + 2) * rdI cs (k + 2) := IntWalk.i64_in _ (by omega)
                have v3 : IntKind.i64.wrap (rdI cs k + rdI a (k + 1) * rdI cs (k + 1) + rdI b (k + 2) * rdI cs (k + 2)) = rdI cs k + rdI a (k + 1) * rdI cs (k + 1) + rdI b (k + 2) * rdI cs (k + 2) := IntWalk.i64_in _ (by omega)
                have kb : k + 2 < b.length := by omega
                have c5i : (k : Int) + 1 + 1 < cs.length := by omega
                have kbi : (k : Int) + 1 + 1 < b.length := by omega
                have t2 : ((k : Int) + 1 + 1).toNat = k + 2 := by omega
                simp [go_sem, -map_replicate, -map_set, -map_append, -map_reverse, -map_take, -map_drop, -map_tail, -any_map, -all_map, -mapM_map, -map_map, slL, szI, ldI, zI, undL, apL, setI, rdI_get, Nat.add_one_le_iff, fillV, zeros1, zeros0, appendD, segV, lvO, goneOf, sliceD, bound, Nat.add_assoc, szL, ldL, setCs0, setCs1, setCs2, setCsA2, setCsA3, ldM, fM0, fM1, szM, zM, plM0, plM1, agM, paM, ldJ, fJ0, fJ1, fJ2, szJ, zJ, plJ0, plJ1, plJ2, agJ, paJ, hpos, cpi, ci, w3, w5, kk, kki, q1, q2, q3, ka, kai, kb, kbi, t2, c3, c4, c4i, c5, c5i, v1, v2, v3, v4, lA, hTA, dG, hpn]
                repeat refine ⟨by kernel_rfl, by kernel_rfl, ?_⟩
                refine next _ rfl ?_
                (refine canon_mk ?_; simp [method_specs_simp, ordIds_app, ordRen_app, ordIds_app2, ordRen_app2, -map_replicate, -map_set, -map_append, -map_reverse, -map_take, -map_drop, -map_tail, -map_map, tA])
              · simp only [c4, c5, if_true, if_false, Int.add_zero] at eG
                rw [eG] at dG
                have c5i : ¬ (k : Int) + 1 + 1 < cs.length := by omega
                simp [go_sem, -map_replicate, -map_set, -map_append, -map_reverse, -map_take, -map_drop, -map_tail, -any_map, -all_map, -mapM_map, -map_map, slL, szI, ldI, zI, undL, apL, setI, rdI_get, Nat.add_one_le_iff, fillV, zeros1, zeros0, appendD, segV, lvO, goneOf, sliceD, bound, Nat.add_assoc, szL, ldL, setCs0, setCs1, setCs2, setCsA2, setCsA3, ldM, fM0, fM1, szM, zM, plM0, plM1, agM, paM, ldJ, fJ0, fJ1, fJ2, szJ, zJ, plJ0, plJ1, plJ2, agJ, paJ, hpos, cpi, ci, w3, w5, kk, kki, q1, q2, q3, ka, kai, c3, c4, c4i, c5, c5i, v1, v4, lA, hTA, dG, hpn]
                repeat refine ⟨by kernel_rfl, by kernel_rfl, ?_⟩
                refine next _ rfl ?_
                (refine canon_mk ?_; simp [method_specs_simp, ordIds_app, ordRen_app, ordIds_app2, ordRen_app2, -map_replicate, -map_set, -map_append, -map_reverse, -map_take, -map_drop, -map_tail, -map_map, tA])
            · have c5 : ¬ k + 2 < cs.length := by omega
              simp only [c4, c5, if_true, if_false, Int.add_zero] at eG
              rw [eG] at dG
              have c4i : ¬ (k : Int) + 1 < cs.length := by omega
              have c5i : ¬ (k : Int) + 1 + 1 < cs.length := by omega
              simp [go_sem, -map_replicate, -map_set, -map_append, -map_reverse, -map_take, -map_drop, -map_tail, -any_map, -all_map, -mapM_map, -map_map, slL, szI, ldI, zI, undL, apL, setI, rdI_get, Nat.add_one_le_iff, fillV, zeros1, zeros0, appendD, segV, lvO, goneOf, sliceD, bound, Nat.add_assoc, szL, ldL, setCs0, setCs1, setCs2, setCsA2, setCsA3, ldM, fM0, fM1, szM, zM, plM0, plM1, agM, paM, ldJ, fJ0, fJ1, fJ2, szJ, zJ, plJ0, plJ1, plJ2, agJ, paJ, hpos, cpi, ci, w3, w5, kk, kki, q1, q2, q3, c3, c4, c4i, c5, c5i, lA, hTA, dG, hpn]
              repeat refine ⟨by kernel_rfl, by kernel_rfl, ?_⟩
              refine next _ rfl ?_
              (refine canon_mk ?_; simp [method_specs_simp, ordIds_app, ordRen_app, ordIds_app2, ordRen_app2, -map_replicate, -map_set, -map_append, -map_reverse, -map_take, -map_drop, -map_tail, -map_map, tA])
        · dsimp only
          have c9 : ¬ (cs.length : Int) + 1 ≤ cs.length := by omega
          have lT := tab_len (cs.length + 1) (fun j => txG a b cs cs.length j % p)
          rw [← et] at lT ⊢
          simp [go_sem, -map_replicate, -map_set, -map_append, -map_reverse, -map_take, -map_drop, -map_tail, -any_map, -all_map, -mapM_map, -map_map, slL, szI, ldI, zI, undL, apL, setI, rdI_get, Nat.add_one_le_iff, fillV, zeros1, zeros0, appendD, segV, lvO, goneOf, sliceD, bound, Nat.add_assoc, szL, ldL, setCs0, setCs1, setCs2, setCsA2, setCsA3, ldM, fM0, fM1, szM, zM, plM0, plM1, agM, paM, ldJ, fJ0, fJ1, fJ2, szJ, zJ, plJ0, plJ1, plJ2, agJ, paJ, c9]
          simp [mvcgen_simp, -map_replicate, -map_set, -map_append, -map_reverse, -map_take, -map_drop, -map_tail, -any_map, -all_map, -mapM_map, -map_map, Try.f90, timesR, e, e1, e2, lT]
        · (refine canon_mk ?_; simp [method_specs_simp, ordIds_app, ordRen_app, ordIds_app2, ordRen_app2, -map_replicate, -map_set, -map_append, -map_reverse, -map_take, -map_drop, -map_tail, -map_map])

end Go.Proofs.Ytabnganndcmcnaa.Ev
