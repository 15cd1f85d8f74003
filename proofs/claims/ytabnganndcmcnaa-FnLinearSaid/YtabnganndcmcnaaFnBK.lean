/- ExpandProduct: both texts and the law. Conditions: none. -/
import Derived.Test.YtabnganndcmcnaaFnBJ
set_option linter.unusedSimpArgs false
set_option linter.unusedVariables false
namespace Go.Proofs.Ytabnganndcmcnaa.Ev
open Go Go.Proofs
open List (map_replicate map_set map_append map_reverse map_take map_drop map_tail any_map all_map mapM_map map_map)
set_option maxRecDepth 4000
set_option maxHeartbeats 4000000

def prdB (a : List Int) (k l : Int) : Bool := inK a k && (decide (0 ≤ l) && decide (l ≤ (a.length : Int) - k))
def prdR (p : Int) (a b : List Int) (k l : Int) : List Int × Int := if jacB p a b then (if prdB a k l then (expandP p a b (mulP p (pl p a b k.toNat).1 (pl p a b l.toNat).1), 0) else ([], 2)) else ([], 1)
theorem prdR_len (p : Int) (a b : List Int) (k l : Int) (ha : a.length ≤ 1048576) (hb : b.length ≤ 1048576) : (prdR p a b k l).1.length ≤ 1048576 := by
  unfold prdR
  split
  · split
    · rename_i h1 h2
      simp only [prdB, inK, Bool.and_eq_true, decide_eq_true_eq] at h2
      have := mulP_le p (pl p a b k.toNat).1 (pl p a b l.toNat).1
      have := (jacB_len h1).2.1
      have := (pl_le p a b k.toNat).1
      have := (pl_le p a b l.toNat).1
      simp only [expandP_len]; omega
    · simp
  · simp
theorem run_specExpandProduct (p : Int) (a b : List Int) (k l : Int) (ha : a.length ≤ 1048576) (hb : b.length ≤ 1048576) :
    runv E1 81 [(V.agg [V.int .i64 (p), (V.list (List.length (a)) (List.map (V.int .i64) (a))), (V.list (List.length (b)) (List.map (V.int .i64) (b)))]), .int .i64 k, .int .i64 l] = some ⟨true, .tup [(V.uniq 1 (List.length ((prdR p a b k l).1)) (List.map (V.int .i64) ((prdR p a b k l).1))), .int .i64 (prdR p a b k l).2], [.agg [.undef, .undef, .undef], .undef, .undef]⟩ := by
  have cdk : codeOk Try.f81.ntmps (Try.f81.body.getD .skip) = true := by kernel_rfl
  refine run_of_WLr (fn := Try.f81) rfl Try.func81 rfl ⟨by simp [Try.ntmps81], by simp [wideA, ints], cdk, by simp [Try.f81]⟩ rfl (by simp [rebOk, noId, adoptT, adoptA, adoptL, adoptC, depth]) ?_
  have h1 := run_l10Code p a b [k, l] ha hb (by simp)
  simp only [List.length_cons, List.length_nil, List.map_cons, List.map_nil, Nat.zero_add, List.all_cons, List.all_nil, Bool.and_true, Nat.reduceAdd] at h1
  cases e : jacB p a b with
  | false =>
    rw [e] at h1
    simp [go_sem, -map_replicate, -map_set, -map_append, -map_reverse, -map_take, -map_drop, -map_tail, -any_map, -all_map, -mapM_map, -map_map, slL, szI, ldI, zI, undL, apL, setI, rdI_get, Nat.add_one_le_iff, fillV, zeros1, zeros0, appendD, segV, lvO, goneOf, sliceD, bound, Nat.add_assoc, szL, ldL, setCs0, setCs1, setCs2, setCsA2, setCsA3, ldM, fM0, fM1, szM, zM, plM0, plM1, agM, paM, ldJ, fJ0, fJ1, fJ2, szJ, zJ, plJ0, plJ1, plJ2, agJ, paJ, h1, zerosV2]
    repeat refine ⟨by kernel_rfl, by kernel_rfl, ?_⟩
    simp [mvcgen_simp, -map_replicate, -map_set, -map_append, -map_reverse, -map_take, -map_drop, -map_tail, -any_map, -all_map, -mapM_map, -map_map, Try.f81, prdR, e]
  | true =>
    rw [e] at h1
    cases e1 : (inK a k && inK a l) with
    | false =>
      rw [e1] at h1
      have hps : prdR p a b k l = ([], 2) := by
        have : prdB a k l = false := by
          cases h : prdB a k l
          · rfl
          · simp only [prdB, inK, Bool.and_eq_true, decide_eq_true_eq] at h
            simp only [inK, Bool.and_eq_false_iff, decide_eq_false_iff_not] at e1
            omega
        simp only [prdR, e, this]; rfl
      simp [go_sem, -map_replicate, -map_set, -map_append, -map_reverse, -map_take, -map_drop, -map_tail, -any_map, -all_map, -mapM_map, -map_map, slL, szI, ldI, zI, undL, apL, setI, rdI_get, Nat.add_one_le_iff, fillV, zeros1, zeros0, appendD, segV, lvO, goneOf, sliceD, bound, Nat.add_assoc, szL, ldL, setCs0, setCs1, setCs2, setCsA2, setCsA3, ldM, fM0, fM1, szM, zM, plM0, plM1, agM, paM, ldJ, fJ0, fJ1, fJ2, szJ, zJ, plJ0, plJ1, plJ2, agJ, paJ, h1, zerosV2]
      repeat refine ⟨by kernel_rfl, by kernel_rfl, ?_⟩
      simp [mvcgen_simp, -map_replicate, -map_set, -map_append, -map_reverse, -map_take, -map_drop, -map_tail, -any_map, -all_map, -mapM_map, -map_map, Try.f81, hps]
    | true =>
      rw [e1] at h1
      have hp := jacB_prime e
      have hl := jacB_len e
      simp only [inK, Bool.and_eq_true, decide_eq_true_eq] at e1
      obtain ⟨K, rfl⟩ : ∃ K : Nat, k = K := ⟨k.toNat, by omega⟩
      obtain ⟨L, rfl⟩ : ∃ L : Nat, l = L := ⟨l.toNat, by omega⟩
      have w1 : IntKind.i64.wrap ((K : Int) + L) = (K : Int) + L := IntWalk.i64_in _ (by omega)
      by_cases c : (a.length : Int) < (K : Int) + L
      · have hps : prdR p a b K L = ([], 2) := by
          have : prdB a K L = false := by
            cases h : prdB a K L
            · rfl
            · simp only [prdB, inK, Bool.and_eq_true, decide_eq_true_eq] at h
              omega
          simp only [prdR, e, this]; rfl
        simp [go_sem, -map_replicate, -map_set, -map_append, -map_reverse, -map_take, -map_drop, -map_tail, -any_map, -all_map, -mapM_map, -map_map, slL, szI, ldI, zI, undL, apL, setI, rdI_get, Nat.add_one_le_iff, fillV, zeros1, zeros0, appendD, segV, lvO, goneOf, sliceD, bound, Nat.add_assoc, szL, ldL, setCs0, setCs1, setCs2, setCsA2, setCsA3, ldM, fM0, fM1, szM, zM, plM0, plM1, agM, paM, ldJ, fJ0, fJ1, fJ2, szJ, zJ, plJ0, plJ1, plJ2, agJ, paJ, h1, zerosV2, w1, c]
        repeat refine ⟨by kernel_rfl, by kernel_rfl, ?_⟩
        simp [mvcgen_simp, -map_replicate, -map_set, -map_append, -map_reverse, -map_take, -map_drop, -map_tail, -any_map, -all_map, -mapM_map, -map_map, Try.f81, hps]
      · have hps : prdR p a b K L = (expandP p a b (mulP p (pl p a b K).1 (pl p a b L).1), 0) := by
          have : prdB a K L = true := by
            simp only [prdB, inK, Bool.and_eq_true, decide_eq_true_eq]; omega
          simp only [prdR, e, this, Int.toNat_natCast]; rfl
        have h2 := run_l03Poly p a b K e (by omega)
        have h3 := run_l03Poly p a b L e (by omega)
        have l2 := (pl_le p a b K).1
        have f2 := (pl_fine hp a b K).1
        have l3 := (pl_le p a b L).1
        have f3 := (pl_fine hp a b L).1
        generalize (pl p a b K).1 = f at *
        generalize (pl p a b L).1 = g at *
        have h4 := run_l01Times p f g hp f2 f3 (by omega) (by omega)
        have l4 := mulP_le p f g
        have f4 := mulP_fine hp f g
        generalize mulP p f g = m at *
        have h5 := run_l10Expand p a b m e (by omega) f4
        have lE := expandP_len p a b m
        simp [go_sem, -map_replicate, -map_set, -map_append, -map_reverse, -map_take, -map_drop, -map_tail, -any_map, -all_map, -mapM_map, -map_map, slL, szI, ldI, zI, undL, apL, setI, rdI_get, Nat.add_one_le_iff, fillV, zeros1, zeros0, appendD, segV, lvO, goneOf, sliceD, bound, Nat.add_assoc, szL, ldL, setCs0, setCs1, setCs2, setCsA2, setCsA3, ldM, fM0, fM1, szM, zM, plM0, plM1, agM, paM, ldJ, fJ0, fJ1, fJ2, szJ, zJ, plJ0, plJ1, plJ2, agJ, paJ, h1, h2, h3, h4, h5, lE, zerosV2, w1, c]
        repeat refine ⟨by kernel_rfl, by kernel_rfl, ?_⟩
        simp [mvcgen_simp, -map_replicate, -map_set, -map_append, -map_reverse, -map_take, -map_drop, -map_tail, -any_map, -all_map, -mapM_map, -map_map, Try.f81, hps, lE]
theorem run_implExpandProduct (p : Int) (a b : List Int) (k l : Int) (ha : a.length ≤ 1048576) (hb : b.length ≤ 1048576) :
    runv E1 80 [(V.agg [V.int .i64 (p), (V.list (List.length (a)) (List.map (V.int .i64) (a))), (V.list (List.length (b)) (List.map (V.int .i64) (b)))]), .int .i64 k, .int .i64 l] = some ⟨true, .tup [(V.uniq 1 (List.length ((prdR p a b k l).1)) (List.map (V.int .i64) ((prdR p a b k l).1))), .int .i64 (prdR p a b k l).2], [.agg [.undef, .undef, .undef], .undef, .undef]⟩ := by
  have cdk : codeOk Try.f80.ntmps (Try.f80.body.getD .skip) = true := by kernel_rfl
  refine run_of_WLr (fn := Try.f80) rfl Try.func80 rfl ⟨by simp [Try.ntmps80], by simp [wideA, ints], cdk, by simp [Try.f80]⟩ rfl (by simp [rebOk, noId, adoptT, adoptA, adoptL, adoptC, depth]) ?_
  have g2 := up (run_within k 0 (a.length : Int))
  rw [show (decide (0 ≤ k) && decide (k ≤ (a.length : Int))) = inK a k from rfl] at g2
  have g3 := up (run_Jfield p a b)
  have g4 := up (run_Jsize p a b)
  cases e1 : inK a k with
  | false =>
    rw [e1] at g2
    have h1 := up (run_jacobiCode p a b false (by omega) (by omega))
    have hps : prdR p a b k l = ([], if jacB p a b then 2 else 1) := by
      simp only [prdR, prdB, e1]
      cases jacB p a b <;> rfl
    cases e : jacB p a b <;> rw [e] at h1 hps <;> simp only [Bool.false_eq_true, if_false, if_true] at h1 hps <;> simp [go_sem, -map_replicate, -map_set, -map_append, -map_reverse, -map_take, -map_drop, -map_tail, -any_map, -all_map, -mapM_map, -map_map, slL, szI, ldI, zI, undL, apL, setI, rdI_get, Nat.add_one_le_iff, fillV, zeros1, zeros0, appendD, segV, lvO, goneOf, sliceD, bound, Nat.add_assoc, szL, ldL, setCs0, setCs1, setCs2, setCsA2, setCsA3, ldM, fM0, fM1, szM, zM, plM0, plM1, agM, paM, ldJ, fJ0, fJ1, fJ2, szJ, zJ, plJ0, plJ1, plJ2, agJ, paJ, g2, g3, g4, h1] <;> (repeat refine ⟨by kernel_rfl, by kernel_rfl, ?_⟩) <;> simp [mvcgen_simp, -map_replicate, -map_set, -map_append, -map_reverse, -map_take, -map_drop, -map_tail, -any_map, -all_map, -mapM_map, -map_map, Try.f80, hps]
  | true =>
    rw [e1] at g2
    have e1' := e1
    simp only [inK, Bool.and_eq_true, decide_eq_true_eq] at e1'
    obtain ⟨K, rfl⟩ : ∃ K : Nat, k = K := ⟨k.toNat, by omega⟩
    have w1 : IntKind.i64.wrap ((a.length : Int) - K) = (a.length : Int) - K := IntWalk.i64_in _ (by omega)
    have g5 := up (run_within l 0 ((a.length : Int) - K))
    have h1 := up (run_jacobiCode p a b (decide (0 ≤ l) && decide (l ≤ (a.length : Int) - K)) (by omega) (by omega))
    cases e : jacB p a b with
    | false =>
      rw [e] at h1
      simp only [Bool.false_eq_true, if_false] at h1
      cases e2 : (decide (0 ≤ l) && decide (l ≤ (a.length : Int) - K)) <;> rw [e2] at g5 h1 <;> simp [go_sem, -map_replicate, -map_set, -map_append, -map_reverse, -map_take, -map_drop, -map_tail, -any_map, -all_map, -mapM_map, -map_map, slL, szI, ldI, zI, undL, apL, setI, rdI_get, Nat.add_one_le_iff, fillV, zeros1, zeros0, appendD, segV, lvO, goneOf, sliceD, bound, Nat.add_assoc, szL, ldL, setCs0, setCs1, setCs2, setCsA2, setCsA3, ldM, fM0, fM1, szM, zM, plM0, plM1, agM, paM, ldJ, fJ0, fJ1, fJ2, szJ, zJ, plJ0, plJ1, plJ2, agJ, paJ, g2, g3, g4, g5, h1, w1] <;> (repeat refine ⟨by kernel_rfl, by kernel_rfl, ?_⟩) <;> simp [mvcgen_simp, -map_replicate, -map_set, -map_append, -map_reverse, -map_take, -map_drop, -map_tail, -any_map, -all_map, -mapM_map, -map_map, Try.f80, prdR, e]
    | true =>
      rw [e] at h1
      cases e2 : (decide (0 ≤ l) && decide (l ≤ (a.length : Int) - K)) with
      | false =>
        rw [e2] at g5 h1
        have hps : prdR p a b K l = ([], 2) := by simp only [prdR, prdB, e, e1, e2]; rfl
        simp only [Bool.false_eq_true, if_false, if_true] at h1
        simp [go_sem, -map_replicate, -map_set, -map_append, -map_reverse, -map_take, -map_drop, -map_tail, -any_map, -all_map, -mapM_map, -map_map, slL, szI, ldI, zI, undL, apL, setI, rdI_get, Nat.add_one_le_iff, fillV, zeros1, zeros0, appendD, segV, lvO, goneOf, sliceD, bound, Nat.add_assoc, szL, ldL, setCs0, setCs1, setCs2, setCsA2, setCsA3, ldM, fM0, fM1, szM, zM, plM0, plM1, agM, paM, ldJ, fJ0, fJ1, fJ2, szJ, zJ, plJ0, plJ1, plJ2, agJ, paJ, g2, g3, g4, g5, h1, w1]
        repeat refine ⟨by kernel_rfl, by kernel_rfl, ?_⟩
        simp [mvcgen_simp, -map_replicate, -map_set, -map_append, -map_reverse, -map_take, -map_drop, -map_tail, -any_map, -all_map, -mapM_map, -map_map, Try.f80, hps]
      | true =>
        rw [e2] at g5 h1
        have hp := jacB_prime e
        have hl := jacB_len e
        simp only [if_true] at h1
        have hps : prdR p a b K l = (expandP p a b (mulP p (pl p a b K).1 (pl p a b l.toNat).1), 0) := by simp only [prdR, prdB, e, e1, e2, Int.toNat_natCast]; rfl
        simp only [Bool.and_eq_true, decide_eq_true_eq] at e2
        obtain ⟨L, rfl⟩ : ∃ L : Nat, l = L := ⟨l.toNat, by omega⟩
        rw [Int.toNat_natCast] at hps
        have h2 := run_polys p a b e
        have tk : List.take (a.length + 1) (List.map UV (prow p a b (a.length + 1))) = List.map UV (prow p a b (a.length + 1)) := take_map_full (by rw [prow_len]; exact Nat.le_refl _)
        have l2 := (pl_le p a b K).1
        have f2 := (pl_fine hp a b K).1
        have l3 := (pl_le p a b L).1
        have f3 := (pl_fine hp a b L).1
        have hK : K < a.length + 1 := by omega
        have hKi : (K : Int) < (a.length : Int) + 1 := by omega
        have hL : L < a.length + 1 := by omega
        have hLi : (L : Int) < (a.length : Int) + 1 := by omega
        have h4 := run_product p (pl p a b K).1 (pl p a b L).1 hp f2 f3 (by omega) (by omega)
        have l4 := mulP_le p (pl p a b K).1 (pl p a b L).1
        have f4 := mulP_fine hp (pl p a b K).1 (pl p a b L).1
        generalize mulP p (pl p a b K).1 (pl p a b L).1 = m at *
        have h5 := run_expand p a b m e (by omega) f4
        have lE := expandP_len p a b m
        simp [go_sem, -map_replicate, -map_set, -map_append, -map_reverse, -map_take, -map_drop, -map_tail, -any_map, -all_map, -mapM_map, -map_map, slL, szI, ldI, zI, undL, apL, setI, rdI_get, Nat.add_one_le_iff, fillV, zeros1, zeros0, appendD, segV, lvO, goneOf, sliceD, bound, Nat.add_assoc, szL, ldL, setCs0, setCs1, setCs2, setCsA2, setCsA3, ldM, fM0, fM1, szM, zM, plM0, plM1, agM, paM, ldJ, fJ0, fJ1, fJ2, szJ, zJ, plJ0, plJ1, plJ2, agJ, paJ, g2, g3, g4, g5, w1, h1, h2, h4, h5, lE, hK, hKi, hL, hLi, prow_get, prow_len, viewN_UV, LV, slR, tk, mapM_purN_UV, flatMap_idsN_UV, any_hasU_UV]
        repeat refine ⟨by kernel_rfl, by kernel_rfl, ?_⟩
        simp [mvcgen_simp, -map_replicate, -map_set, -map_append, -map_reverse, -map_take, -map_drop, -map_tail, -any_map, -all_map, -mapM_map, -map_map, Try.f80, hps, lE]

end Go.Proofs.Ytabnganndcmcnaa.Ev
