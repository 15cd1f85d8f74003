/- SumBy: both texts and the law. Conditions: none. -/
import Derived.Test.YtabnganndcmcnaaFnBF
set_option linter.unusedSimpArgs false
set_option linter.unusedVariables false
namespace Go.Proofs.Ytabnganndcmcnaa.Ev
open Go Go.Proofs
open List (map_replicate map_set map_append map_reverse map_take map_drop map_tail any_map all_map mapM_map map_map)
set_option maxRecDepth 4000
set_option maxHeartbeats 4000000

theorem jacB_primeB {p : Int} {a b : List Int} (h : jacB p a b = true) : primeB p = true := by
  cases x : primeB p
  · simp [jacB, x] at h
  · rfl
def listB (p : Int) (a cs : List Int) : Bool := decide ((cs.length : Int) ≤ (a.length : Int) + 1) && cs.all (hasB p)
def sumR (p : Int) (a b cs : List Int) : List Int × Int := if jacB p a b then (if listB p a cs then (sumP p a b cs cs.length, 0) else ([], 2)) else ([], 1)
theorem sumR_len (p : Int) (a b cs : List Int) (ha : a.length ≤ 1048576) (hb : b.length ≤ 1048576) (hc : cs.length ≤ 1048576) : (sumR p a b cs).1.length ≤ 1048576 := by
  unfold sumR
  have := sumP_le p a b cs cs.length
  (repeat' split) <;> simp <;> omega
theorem run_specSumBy (p : Int) (a b cs : List Int) (ha : a.length ≤ 1048576) (hb : b.length ≤ 1048576) (hc : cs.length ≤ 1048576) :
    runv E1 75 [(V.agg [V.int .i64 (p), (V.list (List.length (a)) (List.map (V.int .i64) (a))), (V.list (List.length (b)) (List.map (V.int .i64) (b)))]), (V.list (List.length (cs)) (List.map (V.int .i64) (cs)))] = some ⟨true, .tup [(V.uniq 1 (List.length ((sumR p a b cs).1)) (List.map (V.int .i64) ((sumR p a b cs).1))), .int .i64 (sumR p a b cs).2], [.agg [.undef, .undef, .undef], .undef]⟩ := by
  have cdk : codeOk Try.f75.ntmps (Try.f75.body.getD .skip) = true := by kernel_rfl
  refine run_of_WLr (fn := Try.f75) rfl Try.func75 rfl ⟨by simp [Try.ntmps75], by simp [wideA, ints], cdk, by simp [Try.f75]⟩ rfl (by simp [rebOk, noId, adoptT, adoptA, adoptL, adoptC, depth]) ?_
  have h1 := up (run_l10List p a b cs 1 ha hb hc (by omega))
  rw [show (decide ((cs.length : Int) ≤ (a.length : Int) + 1) && cs.all (hasB p)) = listB p a cs from rfl] at h1
  cases e : jacB p a b with
  | false =>
    rw [e] at h1
    simp [go_sem, -map_replicate, -map_set, -map_append, -map_reverse, -map_take, -map_drop, -map_tail, -any_map, -all_map, -mapM_map, -map_map, slL, szI, ldI, zI, undL, apL, setI, rdI_get, Nat.add_one_le_iff, fillV, zeros1, zeros0, appendD, segV, lvO, goneOf, sliceD, bound, Nat.add_assoc, szL, ldL, setCs0, setCs1, setCs2, setCsA2, setCsA3, ldM, fM0, fM1, szM, zM, plM0, plM1, agM, paM, ldJ, fJ0, fJ1, fJ2, szJ, zJ, plJ0, plJ1, plJ2, agJ, paJ, h1]
    simp [mvcgen_simp, -map_replicate, -map_set, -map_append, -map_reverse, -map_take, -map_drop, -map_tail, -any_map, -all_map, -mapM_map, -map_map, Try.f75, sumR, e]
  | true =>
    rw [e] at h1
    cases e1 : listB p a cs with
    | false =>
      rw [e1] at h1
      simp [go_sem, -map_replicate, -map_set, -map_append, -map_reverse, -map_take, -map_drop, -map_tail, -any_map, -all_map, -mapM_map, -map_map, slL, szI, ldI, zI, undL, apL, setI, rdI_get, Nat.add_one_le_iff, fillV, zeros1, zeros0, appendD, segV, lvO, goneOf, sliceD, bound, Nat.add_assoc, szL, ldL, setCs0, setCs1, setCs2, setCsA2, setCsA3, ldM, fM0, fM1, szM, zM, plM0, plM1, agM, paM, ldJ, fJ0, fJ1, fJ2, szJ, zJ, plJ0, plJ1, plJ2, agJ, paJ, h1]
      simp [mvcgen_simp, -map_replicate, -map_set, -map_append, -map_reverse, -map_take, -map_drop, -map_tail, -any_map, -all_map, -mapM_map, -map_map, Try.f75, sumR, e, e1]
    | true =>
      rw [e1] at h1
      have hl := jacB_len e
      have e1' := e1
      simp only [listB, Bool.and_eq_true, decide_eq_true_eq] at e1'
      have h2 := run_l10Sum p a b cs e (by omega) e1'.2
      simp [go_sem, -map_replicate, -map_set, -map_append, -map_reverse, -map_take, -map_drop, -map_tail, -any_map, -all_map, -mapM_map, -map_map, slL, szI, ldI, zI, undL, apL, setI, rdI_get, Nat.add_one_le_iff, fillV, zeros1, zeros0, appendD, segV, lvO, goneOf, sliceD, bound, Nat.add_assoc, szL, ldL, setCs0, setCs1, setCs2, setCsA2, setCsA3, ldM, fM0, fM1, szM, zM, plM0, plM1, agM, paM, ldJ, fJ0, fJ1, fJ2, szJ, zJ, plJ0, plJ1, plJ2, agJ, paJ, h1, h2]
      simp [mvcgen_simp, -map_replicate, -map_set, -map_append, -map_reverse, -map_take, -map_drop, -map_tail, -any_map, -all_map, -mapM_map, -map_map, Try.f75, sumR, e, e1]
theorem run_implSumBy (p : Int) (a b cs : List Int) (ha : a.length ≤ 1048576) (hb : b.length ≤ 1048576) (hc : cs.length ≤ 1048576) :
    runv E1 74 [(V.agg [V.int .i64 (p), (V.list (List.length (a)) (List.map (V.int .i64) (a))), (V.list (List.length (b)) (List.map (V.int .i64) (b)))]), (V.list (List.length (cs)) (List.map (V.int .i64) (cs)))] = some ⟨true, .tup [(V.uniq 1 (List.length ((sumR p a b cs).1)) (List.map (V.int .i64) ((sumR p a b cs).1))), .int .i64 (sumR p a b cs).2], [.agg [.undef, .undef, .undef], .undef]⟩ := by
  have cdk : codeOk Try.f74.ntmps (Try.f74.body.getD .skip) = true := by kernel_rfl
  refine run_of_WLr (fn := Try.f74) rfl Try.func74 rfl ⟨by simp [Try.ntmps74], by simp [wideA, ints], cdk, by simp [Try.f74]⟩ rfl (by simp [rebOk, noId, adoptT, adoptA, adoptL, adoptC, depth]) ?_
  have w1 : IntKind.i64.wrap ((a.length : Int) + 1) = (a.length : Int) + 1 := IntWalk.i64_in _ (by omega)
  have g2 := up (run_JisList p ((a.length : Int) + 1) a b cs hc)
  rw [show (primeB p && (decide (0 ≤ (cs.length : Int)) && decide ((cs.length : Int) ≤ (a.length : Int) + 1)) && cs.all (hasB p)) = (primeB p && listB p a cs) by simp [listB, Bool.and_assoc]] at g2
  have g3 := up (run_Jfield p a b)
  have g4 := up (run_Jsize p a b)
  have h1 := up (run_jacobiCode p a b (primeB p && listB p a cs) (by omega) (by omega))
  cases e : jacB p a b with
  | false =>
    rw [e] at h1
    simp only [Bool.false_eq_true, if_false] at h1
    cases e1 : (primeB p && listB p a cs) <;> rw [e1] at g2 h1 <;> simp [go_sem, -map_replicate, -map_set, -map_append, -map_reverse, -map_take, -map_drop, -map_tail, -any_map, -all_map, -mapM_map, -map_map, slL, szI, ldI, zI, undL, apL, setI, rdI_get, Nat.add_one_le_iff, fillV, zeros1, zeros0, appendD, segV, lvO, goneOf, sliceD, bound, Nat.add_assoc, szL, ldL, setCs0, setCs1, setCs2, setCsA2, setCsA3, ldM, fM0, fM1, szM, zM, plM0, plM1, agM, paM, ldJ, fJ0, fJ1, fJ2, szJ, zJ, plJ0, plJ1, plJ2, agJ, paJ, w1, g2, g3, g4, h1] <;> (repeat refine ⟨by kernel_rfl, by kernel_rfl, ?_⟩) <;> simp [mvcgen_simp, -map_replicate, -map_set, -map_append, -map_reverse, -map_take, -map_drop, -map_tail, -any_map, -all_map, -mapM_map, -map_map, Try.f74, sumR, e]
  | true =>
    have ep := jacB_primeB e
    rw [e, ep] at h1
    rw [ep] at g2
    simp only [Bool.true_and, if_true] at h1 g2
    cases e1 : listB p a cs with
    | false =>
      rw [e1] at h1 g2
      simp [go_sem, -map_replicate, -map_set, -map_append, -map_reverse, -map_take, -map_drop, -map_tail, -any_map, -all_map, -mapM_map, -map_map, slL, szI, ldI, zI, undL, apL, setI, rdI_get, Nat.add_one_le_iff, fillV, zeros1, zeros0, appendD, segV, lvO, goneOf, sliceD, bound, Nat.add_assoc, szL, ldL, setCs0, setCs1, setCs2, setCsA2, setCsA3, ldM, fM0, fM1, szM, zM, plM0, plM1, agM, paM, ldJ, fJ0, fJ1, fJ2, szJ, zJ, plJ0, plJ1, plJ2, agJ, paJ, w1, g2, g3, g4, h1]
      repeat refine ⟨by kernel_rfl, by kernel_rfl, ?_⟩
      simp [mvcgen_simp, -map_replicate, -map_set, -map_append, -map_reverse, -map_take, -map_drop, -map_tail, -any_map, -all_map, -mapM_map, -map_map, Try.f74, sumR, e, e1]
    | true =>
      rw [e1] at h1 g2
      have hl := jacB_len e
      have e1' := e1
      simp only [listB, Bool.and_eq_true, decide_eq_true_eq] at e1'
      have h2 := run_sum p a b cs e (by omega) e1'.2
      have h3 := run_polys p a b e
      have tk : List.take (a.length + 1) (List.map UV (prow p a b (a.length + 1))) = List.map UV (prow p a b (a.length + 1)) := take_map_full (by rw [prow_len]; exact Nat.le_refl _)
      simp [go_sem, -map_replicate, -map_set, -map_append, -map_reverse, -map_take, -map_drop, -map_tail, -any_map, -all_map, -mapM_map, -map_map, slL, szI, ldI, zI, undL, apL, setI, rdI_get, Nat.add_one_le_iff, fillV, zeros1, zeros0, appendD, segV, lvO, goneOf, sliceD, bound, Nat.add_assoc, szL, ldL, setCs0, setCs1, setCs2, setCsA2, setCsA3, ldM, fM0, fM1, szM, zM, plM0, plM1, agM, paM, ldJ, fJ0, fJ1, fJ2, szJ, zJ, plJ0, plJ1, plJ2, agJ, paJ, w1, g2, g3, g4, h1, h2, h3, mapM_purN_UV, flatMap_idsN_UV, any_hasU_UV, tk, prow_len]
      repeat refine ⟨by kernel_rfl, by kernel_rfl, ?_⟩
      simp [mvcgen_simp, -map_replicate, -map_set, -map_append, -map_reverse, -map_take, -map_drop, -map_tail, -any_map, -all_map, -mapM_map, -map_map, Try.f74, sumR, e, e1]

end Go.Proofs.Ytabnganndcmcnaa.Ev
