/- PathsOf: both texts and the law. Conditions: none. -/
import Derived.Test.YtabnganndcmcnaaFnBW
set_option linter.unusedSimpArgs false
set_option linter.unusedVariables false
namespace Go.Proofs.Ytabnganndcmcnaa.Ev
open Go Go.Proofs
set_option maxRecDepth 4000
set_option maxHeartbeats 4000000

def pathsR (n i k h : Int) : List ByteArray × Int :=
  if given n i k h then (if 400 < plc h k n.toNat i then ([], 3) else (pths h k n.toNat i, 0)) else ([], 2)
theorem pathsR_len (n i k h : Int) : (pathsR n i k h).1.length ≤ 400 := by
  unfold pathsR
  (repeat' split) <;> simp [pths_len] <;> omega
theorem run_specPathsOf (n i k h : Int) : runv E1 38 [.int .i64 n, .int .i64 i, .int .i64 k, .int .i64 h] = some ⟨true, .tup [.uniq 1 (pathsR n i k h).1.length ((pathsR n i k h).1.map V.str), .int .i64 (pathsR n i k h).2], [.undef, .undef, .undef, .undef]⟩ := by
  have cdk : codeOk Try.f38.ntmps (Try.f38.body.getD .skip) = true := by kernel_rfl
  refine run_of_WLr (fn := Try.f38) rfl Try.func38 rfl ⟨by simp [Try.ntmps38], by simp [wideA, ints], cdk, by simp [Try.f38]⟩ rfl (by simp [rebOk, noId, adoptT, adoptA, adoptL, adoptC, depth]) ?_
  have h1 := up (run_l09Given n i k h)
  cases e : given n i k h with
  | false =>
    rw [e] at h1
    have hps : pathsR n i k h = ([], 2) := by simp only [pathsR, e]; rfl
    simp [go_sem, -List.map_replicate, -List.map_set, -List.map_append, -List.map_reverse, -List.map_take, -List.map_drop, -List.map_tail, -List.any_map, -List.all_map, -List.mapM_map, -List.map_map, slL, szI, ldI, zI, undL, apL, setI, rdI_get, Nat.add_one_le_iff, fillV, zeros1, zeros0, appendD, segV, lvO, goneOf, sliceD, bound, Nat.add_assoc, szL, ldL, setCs0, setCs1, setCs2, setCsA2, setCsA3, ldM, fM0, fM1, szM, zM, plM0, plM1, agM, paM, ldJ, fJ0, fJ1, fJ2, szJ, zJ, plJ0, plJ1, plJ2, agJ, paJ, h1, undStr, ldStr, szStr, slStr, apStr, undStrS, zStr, zerosS0, zerosS1, zerosS3, mapM_purN_str, flatMap_idsN_str, any_hasU_str]
    simp [Ends, finish, onlyP, finPtr, anyU, ptrU, ownI, isLR, finFresh, finRead, resV, expN, treeN, eidN, outs, outA, outC, outL, outsI, outAI, outI, outIL, nodupB, depth, normR, normA, normL, normC, noTup, oneV, purN, idsN, upd, E0_P, E1_P, E2_P, mkSt_fr, mkSt_H, mkSt_nx, mkSt_rs, lookF, flatO, disjN, getO, mapM_purN_int, mapM_expN_int, flatMap_idsN_int, flatMap_eidN_int, any_hasU_int, all_treeN_int, mapM_purN_str, mapM_expN_str, flatMap_idsN_str, flatMap_eidN_str, any_hasU_str, all_treeN_str, ctBool, ctInt, ctI64, ctL, take_map_full, -List.map_replicate, -List.map_set, -List.map_append, -List.map_reverse, -List.map_take, -List.map_drop, -List.map_tail, -List.any_map, -List.all_map, -List.mapM_map, -List.map_map, Try.f38, hps, ctStr, ctStrS, mapM_expN_str, flatMap_eidN_str, all_treeN_str, any_hasU_str]
  | true =>
    rw [e] at h1
    have e' := e
    simp only [given, Bool.and_eq_true] at e'
    obtain ⟨n, rfl, hn⟩ := counted_nat e'.1.1.1
    obtain ⟨i, rfl, hi⟩ := counted_nat e'.1.1.2
    obtain ⟨k, rfl, hk⟩ := counted_nat e'.1.2
    obtain ⟨h, rfl, hh⟩ := counted_nat e'.2
    have h2 := up (run_l09Count n i k h false (by omega) (by omega) (by omega))
    rw [Bool.not_false, ← counts_agree, cnt_plc n i k h hn] at h2
    have h3 := run_l09Paths k h hk hh n hn i (by omega)
    by_cases c : 400 < plc h k n i
    · have ci : (400 : Int) < (plc h k n i : Int) := by omega
      have hps : pathsR n i k h = ([], 3) := by simp only [pathsR, e, Int.toNat_natCast, c, if_true]
      simp [go_sem, -List.map_replicate, -List.map_set, -List.map_append, -List.map_reverse, -List.map_take, -List.map_drop, -List.map_tail, -List.any_map, -List.all_map, -List.mapM_map, -List.map_map, slL, szI, ldI, zI, undL, apL, setI, rdI_get, Nat.add_one_le_iff, fillV, zeros1, zeros0, appendD, segV, lvO, goneOf, sliceD, bound, Nat.add_assoc, szL, ldL, setCs0, setCs1, setCs2, setCsA2, setCsA3, ldM, fM0, fM1, szM, zM, plM0, plM1, agM, paM, ldJ, fJ0, fJ1, fJ2, szJ, zJ, plJ0, plJ1, plJ2, agJ, paJ, h1, h2, c, ci, undStr, ldStr, szStr, slStr, apStr, undStrS, zStr, zerosS0, zerosS1, zerosS3, mapM_purN_str, flatMap_idsN_str, any_hasU_str]
      simp [Ends, finish, onlyP, finPtr, anyU, ptrU, ownI, isLR, finFresh, finRead, resV, expN, treeN, eidN, outs, outA, outC, outL, outsI, outAI, outI, outIL, nodupB, depth, normR, normA, normL, normC, noTup, oneV, purN, idsN, upd, E0_P, E1_P, E2_P, mkSt_fr, mkSt_H, mkSt_nx, mkSt_rs, lookF, flatO, disjN, getO, mapM_purN_int, mapM_expN_int, flatMap_idsN_int, flatMap_eidN_int, any_hasU_int, all_treeN_int, mapM_purN_str, mapM_expN_str, flatMap_idsN_str, flatMap_eidN_str, any_hasU_str, all_treeN_str, ctBool, ctInt, ctI64, ctL, take_map_full, -List.map_replicate, -List.map_set, -List.map_append, -List.map_reverse, -List.map_take, -List.map_drop, -List.map_tail, -List.any_map, -List.all_map, -List.mapM_map, -List.map_map, Try.f38, hps, ctStr, ctStrS, mapM_expN_str, flatMap_eidN_str, all_treeN_str, any_hasU_str]
    · have ci : ¬ (400 : Int) < (plc h k n i : Int) := by omega
      have hps : pathsR n i k h = (pths h k n i, 0) := by simp only [pathsR, e, Int.toNat_natCast, c, if_true, if_false]
      simp [go_sem, -List.map_replicate, -List.map_set, -List.map_append, -List.map_reverse, -List.map_take, -List.map_drop, -List.map_tail, -List.any_map, -List.all_map, -List.mapM_map, -List.map_map, slL, szI, ldI, zI, undL, apL, setI, rdI_get, Nat.add_one_le_iff, fillV, zeros1, zeros0, appendD, segV, lvO, goneOf, sliceD, bound, Nat.add_assoc, szL, ldL, setCs0, setCs1, setCs2, setCsA2, setCsA3, ldM, fM0, fM1, szM, zM, plM0, plM1, agM, paM, ldJ, fJ0, fJ1, fJ2, szJ, zJ, plJ0, plJ1, plJ2, agJ, paJ, h1, h2, h3, c, ci, undStr, ldStr, szStr, slStr, apStr, undStrS, zStr, zerosS0, zerosS1, zerosS3, mapM_purN_str, flatMap_idsN_str, any_hasU_str]
      repeat refine ⟨by kernel_rfl, by kernel_rfl, ?_⟩
      simp [Ends, finish, onlyP, finPtr, anyU, ptrU, ownI, isLR, finFresh, finRead, resV, expN, treeN, eidN, outs, outA, outC, outL, outsI, outAI, outI, outIL, nodupB, depth, normR, normA, normL, normC, noTup, oneV, purN, idsN, upd, E0_P, E1_P, E2_P, mkSt_fr, mkSt_H, mkSt_nx, mkSt_rs, lookF, flatO, disjN, getO, mapM_purN_int, mapM_expN_int, flatMap_idsN_int, flatMap_eidN_int, any_hasU_int, all_treeN_int, mapM_purN_str, mapM_expN_str, flatMap_idsN_str, flatMap_eidN_str, any_hasU_str, all_treeN_str, ctBool, ctInt, ctI64, ctL, take_map_full, -List.map_replicate, -List.map_set, -List.map_append, -List.map_reverse, -List.map_take, -List.map_drop, -List.map_tail, -List.any_map, -List.all_map, -List.mapM_map, -List.map_map, Try.f38, hps, ctStr, ctStrS, mapM_expN_str, flatMap_eidN_str, all_treeN_str, any_hasU_str]
theorem run_implPathsOf (n i k h : Int) : runv E1 37 [.int .i64 n, .int .i64 i, .int .i64 k, .int .i64 h] = some ⟨true, .tup [.uniq 1 (pathsR n i k h).1.length ((pathsR n i k h).1.map V.str), .int .i64 (pathsR n i k h).2], [.undef, .undef, .undef, .undef]⟩ := by
  have cdk : codeOk Try.f37.ntmps (Try.f37.body.getD .skip) = true := by kernel_rfl
  refine run_of_WLr (fn := Try.f37) rfl Try.func37 rfl ⟨by simp [Try.ntmps37], by simp [wideA, ints], cdk, by simp [Try.f37]⟩ rfl (by simp [rebOk, noId, adoptT, adoptA, adoptL, adoptC, depth]) ?_
  have h1 : runv E0 159 [.list 4 [.int .i64 n, .int .i64 i, .int .i64 k, .int .i64 h]] = some ⟨true, .bool (given n i k h), [.undef]⟩ := by
    have := run_areCounted [n, i, k, h] (by simp)
    simpa [ints, given, counted, Bool.and_assoc] using this
  have h1 := up h1
  have z4 : zerosV 4 [V.int .i64 0] = [.int .i64 0, .int .i64 0, .int .i64 0, .int .i64 0] := rfl
  cases e : given n i k h with
  | false =>
    rw [e] at h1
    have hps : pathsR n i k h = ([], 2) := by simp only [pathsR, e]; rfl
    simp [go_sem, -List.map_replicate, -List.map_set, -List.map_append, -List.map_reverse, -List.map_take, -List.map_drop, -List.map_tail, -List.any_map, -List.all_map, -List.mapM_map, -List.map_map, slL, szI, ldI, zI, undL, apL, setI, rdI_get, Nat.add_one_le_iff, fillV, zeros1, zeros0, appendD, segV, lvO, goneOf, sliceD, bound, Nat.add_assoc, szL, ldL, setCs0, setCs1, setCs2, setCsA2, setCsA3, ldM, fM0, fM1, szM, zM, plM0, plM1, agM, paM, ldJ, fJ0, fJ1, fJ2, szJ, zJ, plJ0, plJ1, plJ2, agJ, paJ, h1, z4, undStr, ldStr, szStr, slStr, apStr, undStrS, zStr, zerosS0, zerosS1, zerosS3, mapM_purN_str, flatMap_idsN_str, any_hasU_str]
    simp [Ends, finish, onlyP, finPtr, anyU, ptrU, ownI, isLR, finFresh, finRead, resV, expN, treeN, eidN, outs, outA, outC, outL, outsI, outAI, outI, outIL, nodupB, depth, normR, normA, normL, normC, noTup, oneV, purN, idsN, upd, E0_P, E1_P, E2_P, mkSt_fr, mkSt_H, mkSt_nx, mkSt_rs, lookF, flatO, disjN, getO, mapM_purN_int, mapM_expN_int, flatMap_idsN_int, flatMap_eidN_int, any_hasU_int, all_treeN_int, mapM_purN_str, mapM_expN_str, flatMap_idsN_str, flatMap_eidN_str, any_hasU_str, all_treeN_str, ctBool, ctInt, ctI64, ctL, take_map_full, -List.map_replicate, -List.map_set, -List.map_append, -List.map_reverse, -List.map_take, -List.map_drop, -List.map_tail, -List.any_map, -List.all_map, -List.mapM_map, -List.map_map, Try.f37, hps, ctStr, ctStrS, mapM_expN_str, flatMap_eidN_str, all_treeN_str, any_hasU_str]
  | true =>
    rw [e] at h1
    have e' := e
    simp only [given, Bool.and_eq_true] at e'
    obtain ⟨n, rfl, hn⟩ := counted_nat e'.1.1.1
    obtain ⟨i, rfl, hi⟩ := counted_nat e'.1.1.2
    obtain ⟨k, rfl, hk⟩ := counted_nat e'.1.2
    obtain ⟨h, rfl, hh⟩ := counted_nat e'.2
    have h2 := up (run_countPaths n i k h true (by omega) (by omega))
    rw [cnt_plc n i k h hn] at h2
    have h3 := run_pathsOf k h hk hh n hn i (by omega) (by omega)
    by_cases c : 400 < plc h k n i
    · have ci : (400 : Int) < (plc h k n i : Int) := by omega
      have hps : pathsR n i k h = ([], 3) := by simp only [pathsR, e, Int.toNat_natCast, c, if_true]
      simp [go_sem, -List.map_replicate, -List.map_set, -List.map_append, -List.map_reverse, -List.map_take, -List.map_drop, -List.map_tail, -List.any_map, -List.all_map, -List.mapM_map, -List.map_map, slL, szI, ldI, zI, undL, apL, setI, rdI_get, Nat.add_one_le_iff, fillV, zeros1, zeros0, appendD, segV, lvO, goneOf, sliceD, bound, Nat.add_assoc, szL, ldL, setCs0, setCs1, setCs2, setCsA2, setCsA3, ldM, fM0, fM1, szM, zM, plM0, plM1, agM, paM, ldJ, fJ0, fJ1, fJ2, szJ, zJ, plJ0, plJ1, plJ2, agJ, paJ, h1, h2, z4, c, ci, undStr, ldStr, szStr, slStr, apStr, undStrS, zStr, zerosS0, zerosS1, zerosS3, mapM_purN_str, flatMap_idsN_str, any_hasU_str]
      simp [Ends, finish, onlyP, finPtr, anyU, ptrU, ownI, isLR, finFresh, finRead, resV, expN, treeN, eidN, outs, outA, outC, outL, outsI, outAI, outI, outIL, nodupB, depth, normR, normA, normL, normC, noTup, oneV, purN, idsN, upd, E0_P, E1_P, E2_P, mkSt_fr, mkSt_H, mkSt_nx, mkSt_rs, lookF, flatO, disjN, getO, mapM_purN_int, mapM_expN_int, flatMap_idsN_int, flatMap_eidN_int, any_hasU_int, all_treeN_int, mapM_purN_str, mapM_expN_str, flatMap_idsN_str, flatMap_eidN_str, any_hasU_str, all_treeN_str, ctBool, ctInt, ctI64, ctL, take_map_full, -List.map_replicate, -List.map_set, -List.map_append, -List.map_reverse, -List.map_take, -List.map_drop, -List.map_tail, -List.any_map, -List.all_map, -List.mapM_map, -List.map_map, Try.f37, hps, ctStr, ctStrS, mapM_expN_str, flatMap_eidN_str, all_treeN_str, any_hasU_str]
    · have ci : ¬ (400 : Int) < (plc h k n i : Int) := by omega
      have hps : pathsR n i k h = (pths h k n i, 0) := by simp only [pathsR, e, Int.toNat_natCast, c, if_true, if_false]
      simp [go_sem, -List.map_replicate, -List.map_set, -List.map_append, -List.map_reverse, -List.map_take, -List.map_drop, -List.map_tail, -List.any_map, -List.all_map, -List.mapM_map, -List.map_map, slL, szI, ldI, zI, undL, apL, setI, rdI_get, Nat.add_one_le_iff, fillV, zeros1, zeros0, appendD, segV, lvO, goneOf, sliceD, bound, Nat.add_assoc, szL, ldL, setCs0, setCs1, setCs2, setCsA2, setCsA3, ldM, fM0, fM1, szM, zM, plM0, plM1, agM, paM, ldJ, fJ0, fJ1, fJ2, szJ, zJ, plJ0, plJ1, plJ2, agJ, paJ, h1, h2, h3, z4, c, ci, undStr, ldStr, szStr, slStr, apStr, undStrS, zStr, zerosS0, zerosS1, zerosS3, mapM_purN_str, flatMap_idsN_str, any_hasU_str]
      repeat refine ⟨by kernel_rfl, by kernel_rfl, ?_⟩
      simp [Ends, finish, onlyP, finPtr, anyU, ptrU, ownI, isLR, finFresh, finRead, resV, expN, treeN, eidN, outs, outA, outC, outL, outsI, outAI, outI, outIL, nodupB, depth, normR, normA, normL, normC, noTup, oneV, purN, idsN, upd, E0_P, E1_P, E2_P, mkSt_fr, mkSt_H, mkSt_nx, mkSt_rs, lookF, flatO, disjN, getO, mapM_purN_int, mapM_expN_int, flatMap_idsN_int, flatMap_eidN_int, any_hasU_int, all_treeN_int, mapM_purN_str, mapM_expN_str, flatMap_idsN_str, flatMap_eidN_str, any_hasU_str, all_treeN_str, ctBool, ctInt, ctI64, ctL, take_map_full, -List.map_replicate, -List.map_set, -List.map_append, -List.map_reverse, -List.map_take, -List.map_drop, -List.map_tail, -List.any_map, -List.all_map, -List.mapM_map, -List.map_map, Try.f37, hps, ctStr, ctStrS, mapM_expN_str, flatMap_eidN_str, all_treeN_str, any_hasU_str]
end Go.Proofs.Ytabnganndcmcnaa.Ev
