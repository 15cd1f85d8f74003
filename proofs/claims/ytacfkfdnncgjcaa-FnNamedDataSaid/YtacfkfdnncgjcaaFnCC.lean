/- NamedMoments: both texts and the law. Conditions: none. -/
import Derived.Test.YtacfkfdnncgjcaaFnCB
set_option linter.unusedSimpArgs false
set_option linter.unusedVariables false
namespace Go.Proofs.Ytacfkfdnncgjcaa.Ev
open Go Go.Proofs
open List (map_replicate map_set map_append map_reverse map_take map_drop map_tail any_map all_map mapM_map map_map)
set_option maxRecDepth 4000
set_option maxHeartbeats 4000000

def namedM (s : ByteArray) (p n : Int) : Int × List Int × Int :=
  if primeB p && (decide (1 ≤ n) && decide (n ≤ 24)) then (if mk s = 0 then (0, [], 4) else if okM (mk s) p n.toNat then (p, nmL (mk s) p n.toNat, 0) else (0, [], 5)) else (0, [], 2)
theorem namedM_len (s : ByteArray) (p n : Int) (hs : s.size ≤ 1048576) : (namedM s p n).2.1.length ≤ 1048576 := by
  unfold namedM
  split
  · rename_i h
    simp only [Bool.and_eq_true, decide_eq_true_eq] at h
    (repeat' split) <;> simp [nmL_len] <;> omega
  · simp
theorem primeB_rangeM {p : Int} (h : primeB p = true) : 2 ≤ p ∧ p ≤ 10007 := by
  simp only [primeB, Bool.and_eq_true, decide_eq_true_eq] at h; omega
theorem run_implNamedMoments (s : ByteArray) (p n : Int) (hs : s.size ≤ 1048576) :
    runv E1 44 [.str s, .int .i64 p, .int .i64 n] = some ⟨true, .tup [(V.agg [V.int .i64 ((namedM s p n).1), (V.uniq 1 (List.length ((namedM s p n).2.1)) (List.map (V.int .i64) ((namedM s p n).2.1)))]), .int .i64 (namedM s p n).2.2], [.undef, .undef, .undef]⟩ := by
  have cdk : codeOk Try.f44.ntmps (Try.f44.body.getD .skip) = true := by kernel_rfl
  refine run_of_WLr (fn := Try.f44) rfl Try.func44 rfl ⟨by simp [Try.ntmps44], by simp [wideA, ints], cdk, by simp [Try.f44]⟩ rfl (by simp [rebOk, noId, adoptT, adoptA, adoptL, adoptC, depth]) ?_
  have h1 := up (run_IsPrime p)
  have h2 := up (run_within n 1 24)
  cases e1 : primeB p with
  | false =>
    rw [e1] at h1
    simp [go_sem, -map_replicate, -map_set, -map_append, -map_reverse, -map_take, -map_drop, -map_tail, -any_map, -all_map, -mapM_map, -map_map, slL, szI, ldI, zI, undL, apL, setI, rdI_get, Nat.add_one_le_iff, fillV, zeros1, zeros0, appendD, segV, lvO, goneOf, sliceD, bound, Nat.add_assoc, szL, ldL, setCs0, setCs1, setCs2, setCsA2, setCsA3, ldM, fM0, fM1, szM, zM, plM0, plM1, agM, paM, ldJ, fJ0, fJ1, fJ2, szJ, zJ, plJ0, plJ1, plJ2, agJ, paJ, h1, fillV]
    simp [mvcgen_simp, -map_replicate, -map_set, -map_append, -map_reverse, -map_take, -map_drop, -map_tail, -any_map, -all_map, -mapM_map, -map_map, Try.f44, namedM, e1, szL, ldL, setCs0, setCs1, setCs2, setCsA2, setCsA3, ldM, fM0, fM1, szM, zM, plM0, plM1, agM, paM, ldJ, fJ0, fJ1, fJ2, szJ, zJ, plJ0, plJ1, plJ2, agJ, paJ, ctM, loadD, viewN]
  | true =>
    rw [e1] at h1
    cases e2 : (decide (1 ≤ n) && decide (n ≤ 24)) with
    | false =>
      rw [e2] at h2
      have hps : namedM s p n = (0, [], 2) := by simp only [namedM, e1, e2]; rfl
      simp [go_sem, -map_replicate, -map_set, -map_append, -map_reverse, -map_take, -map_drop, -map_tail, -any_map, -all_map, -mapM_map, -map_map, slL, szI, ldI, zI, undL, apL, setI, rdI_get, Nat.add_one_le_iff, fillV, zeros1, zeros0, appendD, segV, lvO, goneOf, sliceD, bound, Nat.add_assoc, szL, ldL, setCs0, setCs1, setCs2, setCsA2, setCsA3, ldM, fM0, fM1, szM, zM, plM0, plM1, agM, paM, ldJ, fJ0, fJ1, fJ2, szJ, zJ, plJ0, plJ1, plJ2, agJ, paJ, h1, h2, fillV]
      simp [mvcgen_simp, -map_replicate, -map_set, -map_append, -map_reverse, -map_take, -map_drop, -map_tail, -any_map, -all_map, -mapM_map, -map_map, Try.f44, hps, szL, ldL, setCs0, setCs1, setCs2, setCsA2, setCsA3, ldM, fM0, fM1, szM, zM, plM0, plM1, agM, paM, ldJ, fJ0, fJ1, fJ2, szJ, zJ, plJ0, plJ1, plJ2, agJ, paJ, ctM, loadD, viewN]
    | true =>
      rw [e2] at h2
      have hp := primeB_rangeM e1
      have hn : 1 ≤ n ∧ n ≤ 24 := by simpa using e2
      obtain ⟨N, rfl⟩ : ∃ N : Nat, n = N := ⟨n.toNat, by omega⟩
      have h4 := run_named s p N hp (by omega)
      have lN := nmL_len (mk s) p N
      obtain ⟨⟨q1, q2, q3, q4, q5⟩, ht⟩ := mk_spec s
      unfold mUni at q1
      by_cases e3 : mk s = 0
      · have hps : namedM s p N = (0, [], 4) := by simp only [namedM, e1, e2, e3]; rfl
        rw [decide_eq_false (not_not_intro e3)] at h4
        generalize nmL (mk s) p N = L at *
        simp [go_sem, -map_replicate, -map_set, -map_append, -map_reverse, -map_take, -map_drop, -map_tail, -any_map, -all_map, -mapM_map, -map_map, slL, szI, ldI, zI, undL, apL, setI, rdI_get, Nat.add_one_le_iff, fillV, zeros1, zeros0, appendD, segV, lvO, goneOf, sliceD, bound, Nat.add_assoc, szL, ldL, setCs0, setCs1, setCs2, setCsA2, setCsA3, ldM, fM0, fM1, szM, zM, plM0, plM1, agM, paM, ldJ, fJ0, fJ1, fJ2, szJ, zJ, plJ0, plJ1, plJ2, agJ, paJ, undS, strOp, h1, h2, h4, lN, fillV]
        repeat refine ⟨by kernel_rfl, by kernel_rfl, ?_⟩
        simp [mvcgen_simp, -map_replicate, -map_set, -map_append, -map_reverse, -map_take, -map_drop, -map_tail, -any_map, -all_map, -mapM_map, -map_map, Try.f44, hps, szL, ldL, setCs0, setCs1, setCs2, setCsA2, setCsA3, ldM, fM0, fM1, szM, zM, plM0, plM1, agM, paM, ldJ, fJ0, fJ1, fJ2, szJ, zJ, plJ0, plJ1, plJ2, agJ, paJ, ctM, loadD, viewN]
      · rw [decide_eq_true e3] at h4
        by_cases e5 : mk s = 1
        · rw [decide_eq_true e5] at q1
          by_cases e6 : p ≤ N
          · have e4 : okM (mk s) p N = false := by simp [okM, e5, e6]
            have hps : namedM s p N = (0, [], 5) := by simp only [namedM, e1, e2, e3, e4, Int.toNat_natCast]; rfl
            generalize nmL (mk s) p N = L at *
            simp [go_sem, -map_replicate, -map_set, -map_append, -map_reverse, -map_take, -map_drop, -map_tail, -any_map, -all_map, -mapM_map, -map_map, slL, szI, ldI, zI, undL, apL, setI, rdI_get, Nat.add_one_le_iff, fillV, zeros1, zeros0, appendD, segV, lvO, goneOf, sliceD, bound, Nat.add_assoc, szL, ldL, setCs0, setCs1, setCs2, setCsA2, setCsA3, ldM, fM0, fM1, szM, zM, plM0, plM1, agM, paM, ldJ, fJ0, fJ1, fJ2, szJ, zJ, plJ0, plJ1, plJ2, agJ, paJ, undS, strOp, q1, e6, h1, h2, h4, lN, fillV]
            repeat refine ⟨by kernel_rfl, by kernel_rfl, ?_⟩
            simp [mvcgen_simp, -map_replicate, -map_set, -map_append, -map_reverse, -map_take, -map_drop, -map_tail, -any_map, -all_map, -mapM_map, -map_map, Try.f44, hps, szL, ldL, setCs0, setCs1, setCs2, setCsA2, setCsA3, ldM, fM0, fM1, szM, zM, plM0, plM1, agM, paM, ldJ, fJ0, fJ1, fJ2, szJ, zJ, plJ0, plJ1, plJ2, agJ, paJ, ctM, loadD, viewN]
          · have e4 : okM (mk s) p N = true := by simp [okM, e6]
            have hps : namedM s p N = (p, nmL (mk s) p N, 0) := by simp only [namedM, e1, e2, e3, e4, Int.toNat_natCast]; rfl
            generalize nmL (mk s) p N = L at *
            simp [go_sem, -map_replicate, -map_set, -map_append, -map_reverse, -map_take, -map_drop, -map_tail, -any_map, -all_map, -mapM_map, -map_map, slL, szI, ldI, zI, undL, apL, setI, rdI_get, Nat.add_one_le_iff, fillV, zeros1, zeros0, appendD, segV, lvO, goneOf, sliceD, bound, Nat.add_assoc, szL, ldL, setCs0, setCs1, setCs2, setCsA2, setCsA3, ldM, fM0, fM1, szM, zM, plM0, plM1, agM, paM, ldJ, fJ0, fJ1, fJ2, szJ, zJ, plJ0, plJ1, plJ2, agJ, paJ, undS, strOp, q1, e6, h1, h2, h4, lN, fillV]
            repeat refine ⟨by kernel_rfl, by kernel_rfl, ?_⟩
            simp [mvcgen_simp, -map_replicate, -map_set, -map_append, -map_reverse, -map_take, -map_drop, -map_tail, -any_map, -all_map, -mapM_map, -map_map, Try.f44, hps, lN, szL, ldL, setCs0, setCs1, setCs2, setCsA2, setCsA3, ldM, fM0, fM1, szM, zM, plM0, plM1, agM, paM, ldJ, fJ0, fJ1, fJ2, szJ, zJ, plJ0, plJ1, plJ2, agJ, paJ, ctM, loadD, viewN]
        · rw [decide_eq_false e5] at q1
          have e4 : okM (mk s) p N = true := by simp [okM, e5]
          have hps : namedM s p N = (p, nmL (mk s) p N, 0) := by simp only [namedM, e1, e2, e3, e4, Int.toNat_natCast]; rfl
          generalize nmL (mk s) p N = L at *
          simp [go_sem, -map_replicate, -map_set, -map_append, -map_reverse, -map_take, -map_drop, -map_tail, -any_map, -all_map, -mapM_map, -map_map, slL, szI, ldI, zI, undL, apL, setI, rdI_get, Nat.add_one_le_iff, fillV, zeros1, zeros0, appendD, segV, lvO, goneOf, sliceD, bound, Nat.add_assoc, szL, ldL, setCs0, setCs1, setCs2, setCsA2, setCsA3, ldM, fM0, fM1, szM, zM, plM0, plM1, agM, paM, ldJ, fJ0, fJ1, fJ2, szJ, zJ, plJ0, plJ1, plJ2, agJ, paJ, undS, strOp, q1, h1, h2, h4, lN, fillV]
          repeat refine ⟨by kernel_rfl, by kernel_rfl, ?_⟩
          simp [mvcgen_simp, -map_replicate, -map_set, -map_append, -map_reverse, -map_take, -map_drop, -map_tail, -any_map, -all_map, -mapM_map, -map_map, Try.f44, hps, lN, szL, ldL, setCs0, setCs1, setCs2, setCsA2, setCsA3, ldM, fM0, fM1, szM, zM, plM0, plM1, agM, paM, ldJ, fJ0, fJ1, fJ2, szJ, zJ, plJ0, plJ1, plJ2, agJ, paJ, ctM, loadD, viewN]

end Go.Proofs.Ytacfkfdnncgjcaa.Ev
