/- BallotNumber, the reference's and the program's, and that they agree. Conditions: none. -/
import Derived.Test.YtabnganndcmcnaaFnD
import Derived.Test.YtabnganndcmcnaaFnM
set_option linter.unusedSimpArgs false
set_option linter.unusedVariables false
namespace Go.Proofs.Ytabnganndcmcnaa.Ev
open Go Go.Proofs
set_option maxRecDepth 4000
set_option maxHeartbeats 4000000


theorem run_l09Count (n i k h : Nat) (lev : Bool) (hn : n ≤ 1000000) (hi0 : i ≤ 1000000) (hh : h ≤ 1000000) :
    runv E0 163 [.int .i64 n, .int .i64 i, .int .i64 k, .int .i64 h, .bool lev] = some ⟨true, .int .i64 (if h < k then 0 else rdI (dpAt (!lev) h (startS h i) n) k), [.undef, .undef, .undef, .undef, .undef]⟩ := by
  have cdk : codeOk Try.f163.ntmps (Try.f163.body.getD .skip) = true := by kernel_rfl
  refine run_of_WL (fn := Try.f163) rfl Try.func163 rfl ⟨by simp [Try.ntmps163], by simp [wideA, ints], cdk, by simp [Try.f163]⟩ ?_
  by_cases hk : h < k
  · simp [go_sem, -List.map_replicate, -List.map_set, -List.map_append, -List.map_reverse, -List.map_take, -List.map_drop, -List.map_tail, -List.any_map, -List.all_map, -List.mapM_map, -List.map_map, hk]
    simp [Ends, finish, onlyP, finPtr, anyU, ptrU, ownI, isLR, finFresh, finRead, resV, expN, treeN, eidN, outs, outA, outC, outL, outsI, outAI, outI, outIL, nodupB, depth, normR, normA, normL, normC, noTup, oneV, purN, idsN, upd, E0_P, E1_P, E2_P, mkSt_fr, mkSt_H, mkSt_nx, mkSt_rs, lookF, flatO, disjN, getO, mapM_purN_int, mapM_expN_int, flatMap_idsN_int, flatMap_eidN_int, any_hasU_int, all_treeN_int, mapM_purN_str, mapM_expN_str, flatMap_idsN_str, flatMap_eidN_str, any_hasU_str, all_treeN_str, ctBool, ctInt, ctI64, ctL, take_map_full, -List.map_replicate, -List.map_set, -List.map_append, -List.map_reverse, -List.map_take, -List.map_drop, -List.map_tail, -List.any_map, -List.all_map, -List.mapM_map, -List.map_map, Try.f163, ctI64]
  · have hl := dpAt_len (!lev) h (startS h i) (startS_len h i) n
    have k1 : (k : Int) < (h : Int) + 1 := by omega
    have k2 : k < (dpAt (!lev) h (startS h i) n).length := by omega
    simp [go_sem, -List.map_replicate, -List.map_set, -List.map_append, -List.map_reverse, -List.map_take, -List.map_drop, -List.map_tail, -List.any_map, -List.all_map, -List.mapM_map, -List.map_map, hk, run_l09Counts n i h lev hn hi0 hh, slL, ldI, k1, getI k2]
    simp [Ends, finish, onlyP, finPtr, anyU, ptrU, ownI, isLR, finFresh, finRead, resV, expN, treeN, eidN, outs, outA, outC, outL, outsI, outAI, outI, outIL, nodupB, depth, normR, normA, normL, normC, noTup, oneV, purN, idsN, upd, E0_P, E1_P, E2_P, mkSt_fr, mkSt_H, mkSt_nx, mkSt_rs, lookF, flatO, disjN, getO, mapM_purN_int, mapM_expN_int, flatMap_idsN_int, flatMap_eidN_int, any_hasU_int, all_treeN_int, mapM_purN_str, mapM_expN_str, flatMap_idsN_str, flatMap_eidN_str, any_hasU_str, all_treeN_str, ctBool, ctInt, ctI64, ctL, take_map_full, -List.map_replicate, -List.map_set, -List.map_append, -List.map_reverse, -List.map_take, -List.map_drop, -List.map_tail, -List.any_map, -List.all_map, -List.mapM_map, -List.map_map, Try.f163, ctI64]

def counted (n : Int) : Bool := decide (0 ≤ n) && decide (n ≤ 24)
theorem counted_nat {n : Int} (h : counted n = true) : ∃ m : Nat, n = m ∧ m ≤ 24 := by
  simp [counted] at h
  exact ⟨n.toNat, by omega, by omega⟩

/-- The answer of BallotNumber: a number and an error's number. -/
def ballot (n k : Int) : Int × Int := if counted n && counted k then (rdI (dpAt false 24 (startS 24 0) n.toNat) k.toNat, 0) else (0, 2)

theorem run_specBallot (n k : Int) : runv E0 47 [.int .i64 n, .int .i64 k] = some ⟨true, .tup [.int .i64 (ballot n k).1, .int .i64 (ballot n k).2], [.undef, .undef]⟩ := by
  have cdk : codeOk Try.f47.ntmps (Try.f47.body.getD .skip) = true := by kernel_rfl
  refine run_of_WL (fn := Try.f47) rfl Try.func47 rfl ⟨by simp [Try.ntmps47], by simp [wideA, ints], cdk, by simp [Try.f47]⟩ ?_
  cases hn : counted n with
  | false =>
    have hb : ballot n k = (0, 2) := by simp [ballot, hn]
    have hn' := hn
    simp only [counted] at hn'
    simp [go_sem, -List.map_replicate, -List.map_set, -List.map_append, -List.map_reverse, -List.map_take, -List.map_drop, -List.map_tail, -List.any_map, -List.all_map, -List.mapM_map, -List.map_map, run_l01In, hn']
    simp [Ends, finish, onlyP, finPtr, anyU, ptrU, ownI, isLR, finFresh, finRead, resV, expN, treeN, eidN, outs, outA, outC, outL, outsI, outAI, outI, outIL, nodupB, depth, normR, normA, normL, normC, noTup, oneV, purN, idsN, upd, E0_P, E1_P, E2_P, mkSt_fr, mkSt_H, mkSt_nx, mkSt_rs, lookF, flatO, disjN, getO, mapM_purN_int, mapM_expN_int, flatMap_idsN_int, flatMap_eidN_int, any_hasU_int, all_treeN_int, mapM_purN_str, mapM_expN_str, flatMap_idsN_str, flatMap_eidN_str, any_hasU_str, all_treeN_str, ctBool, ctInt, ctI64, ctL, take_map_full, -List.map_replicate, -List.map_set, -List.map_append, -List.map_reverse, -List.map_take, -List.map_drop, -List.map_tail, -List.any_map, -List.all_map, -List.mapM_map, -List.map_map, Try.f47, ctI64, hb]
  | true =>
    cases hk : counted k with
    | false =>
      have hb : ballot n k = (0, 2) := by simp [ballot, hk]
      have hn' := hn
      have hk' := hk
      simp only [counted] at hn' hk'
      simp [go_sem, -List.map_replicate, -List.map_set, -List.map_append, -List.map_reverse, -List.map_take, -List.map_drop, -List.map_tail, -List.any_map, -List.all_map, -List.mapM_map, -List.map_map, run_l01In, hn', hk']
      simp [Ends, finish, onlyP, finPtr, anyU, ptrU, ownI, isLR, finFresh, finRead, resV, expN, treeN, eidN, outs, outA, outC, outL, outsI, outAI, outI, outIL, nodupB, depth, normR, normA, normL, normC, noTup, oneV, purN, idsN, upd, E0_P, E1_P, E2_P, mkSt_fr, mkSt_H, mkSt_nx, mkSt_rs, lookF, flatO, disjN, getO, mapM_purN_int, mapM_expN_int, flatMap_idsN_int, flatMap_eidN_int, any_hasU_int, all_treeN_int, mapM_purN_str, mapM_expN_str, flatMap_idsN_str, flatMap_eidN_str, any_hasU_str, all_treeN_str, ctBool, ctInt, ctI64, ctL, take_map_full, -List.map_replicate, -List.map_set, -List.map_append, -List.map_reverse, -List.map_take, -List.map_drop, -List.map_tail, -List.any_map, -List.all_map, -List.mapM_map, -List.map_map, Try.f47, ctI64, hb]
    | true =>
      have hb : ballot n k = (rdI (dpAt false 24 (startS 24 0) n.toNat) k.toNat, 0) := by simp [ballot, hk, hn]
      have hn' := hn
      have hk' := hk
      simp only [counted] at hn' hk'
      obtain ⟨m, rfl, hm⟩ := counted_nat hn
      obtain ⟨q, rfl, hq⟩ := counted_nat hk
      have hr := run_l09Count m 0 q 24 true (by omega) (by omega) (by omega)
      have hq' : ¬ 24 < q := by omega
      have mi : (m : Int) ≤ 24 := by omega
      have qi : (q : Int) ≤ 24 := by omega
      simp at hr
      simp [go_sem, -List.map_replicate, -List.map_set, -List.map_append, -List.map_reverse, -List.map_take, -List.map_drop, -List.map_tail, -List.any_map, -List.all_map, -List.mapM_map, -List.map_map, run_l01In, mi, qi, hr, hq']
      simp [Ends, finish, onlyP, finPtr, anyU, ptrU, ownI, isLR, finFresh, finRead, resV, expN, treeN, eidN, outs, outA, outC, outL, outsI, outAI, outI, outIL, nodupB, depth, normR, normA, normL, normC, noTup, oneV, purN, idsN, upd, E0_P, E1_P, E2_P, mkSt_fr, mkSt_H, mkSt_nx, mkSt_rs, lookF, flatO, disjN, getO, mapM_purN_int, mapM_expN_int, flatMap_idsN_int, flatMap_eidN_int, any_hasU_int, all_treeN_int, mapM_purN_str, mapM_expN_str, flatMap_idsN_str, flatMap_eidN_str, any_hasU_str, all_treeN_str, ctBool, ctInt, ctI64, ctL, take_map_full, -List.map_replicate, -List.map_set, -List.map_append, -List.map_reverse, -List.map_take, -List.map_drop, -List.map_tail, -List.any_map, -List.all_map, -List.mapM_map, -List.map_map, Try.f47, ctI64, hb]
end Go.Proofs.Ytabnganndcmcnaa.Ev
