/- Draws of numbers and paths. Conditions: none. -/
import Derived.Test.YtabnganndcmcnaaFnDA
import Derived.Test.YtabnganndcmcnaaFnI
set_option linter.unusedSimpArgs false
set_option linter.unusedVariables false
namespace Go.Proofs.Ytabnganndcmcnaa.Ev
open Go Go.Proofs
set_option maxRecDepth 4000
set_option maxHeartbeats 4000000

theorem zerosV4 : zerosV 4 [V.int .i64 0] = [.int .i64 0, .int .i64 0, .int .i64 0, .int .i64 0] := rfl
theorem zerosV3 : zerosV 3 [V.int .i64 0] = [.int .i64 0, .int .i64 0, .int .i64 0] := rfl
theorem zerosV5 : zerosV 5 [V.int .i64 0] = [.int .i64 0, .int .i64 0, .int .i64 0, .int .i64 0, .int .i64 0] := rfl
theorem zerosV12 : zerosV 12 [V.int .i64 0] = List.replicate 12 (.int .i64 0) := rfl
theorem run_l01Pick (s : Src) (l : List Int) (h0 : 0 < l.length) (hl : l.length ≤ 4096) : ∃ (s' : Src) (x : Int), x ∈ l ∧
    runv E1 158 [(V.uptr [V.list (s).code.length ((s).code.map (V.int .u8)), V.int .i64 (s).i, V.int .u64 (s).h]), .list l.length (l.map (V.int .i64))] = some ⟨true, (V.int .i64 (x)), [(V.uptr [V.list (s').code.length ((s').code.map (V.int .u8)), V.int .i64 (s').i, V.int .u64 (s').h]), .undef]⟩ := by
  have w0 : IntKind.i64.wrap (l.length : Int) = l.length := IntWalk.i64_in _ (by omega)
  obtain ⟨s', x, _, hx, h1⟩ := run_l01Next s l.length
  have hx := hx (by omega)
  obtain ⟨k, rfl⟩ : ∃ k : Nat, x = k := ⟨x.toNat, by omega⟩
  have hk : k < l.length := by omega
  have hk2 : (k : Int) < l.length := by omega
  have k0 : (0 : Int) ≤ (k : Int) := by omega
  refine ⟨s', l[k], List.getElem_mem hk, ?_⟩
  rw [rdI_get hk]
  have cdk : codeOk Try.f158.ntmps (Try.f158.body.getD .skip) = true := by kernel_rfl
  refine run_of_WLp (fn := Try.f158) rfl Try.func158 rfl ⟨by simp [Try.ntmps158], by simp [wideA, ints], cdk, by simp [Try.f158]⟩ rfl (by simp [rebOk, noId, adoptT, adoptA, adoptL, adoptC, depth]) (by simp [pinned, adoptT, adoptA, adoptL, adoptC]) ?_
  simp [go_sem, -List.map_replicate, -List.map_set, -List.map_append, -List.map_reverse, -List.map_take, -List.map_drop, -List.map_tail, -List.any_map, -List.all_map, -List.mapM_map, -List.map_map, slL, szI, ldI, zI, undL, apL, setI, rdI_get, Nat.add_one_le_iff, fillV, zeros1, zeros0, appendD, segV, lvO, goneOf, sliceD, bound, Nat.add_assoc, undI64, undInt, convD, w0, h1, hk, hk2, k0]
  repeat refine ⟨by kernel_rfl, by kernel_rfl, ?_⟩
  simp [Ends, finish, onlyP, finPtr, anyU, ptrU, ownI, isLR, finFresh, finRead, resV, expN, treeN, eidN, outs, outA, outC, outL, outsI, outAI, outI, outIL, nodupB, depth, normR, normA, normL, normC, noTup, oneV, purN, idsN, upd, E0_P, E1_P, E2_P, mkSt_fr, mkSt_H, mkSt_nx, mkSt_rs, lookF, flatO, disjN, getO, mapM_purN_int, mapM_expN_int, flatMap_idsN_int, flatMap_eidN_int, any_hasU_int, all_treeN_int, mapM_purN_str, mapM_expN_str, flatMap_idsN_str, flatMap_eidN_str, any_hasU_str, all_treeN_str, ctBool, ctInt, ctI64, ctL, take_map_full, -List.map_replicate, -List.map_set, -List.map_append, -List.map_reverse, -List.map_take, -List.map_drop, -List.map_tail, -List.any_map, -List.all_map, -List.mapM_map, -List.map_map, Try.f158, isLR, hasU]
theorem run_l01Near (s : Src) (m : Int) (hm : 0 ≤ m + 1 ∧ m ≤ 9223372036854775806) : ∃ (s' : Src) (x : Int), (x = -1 ∨ x = m + 1 ∨ x = 1099511627776 ∨ x = -4611686018427387904 ∨ (0 ≤ x ∧ x ≤ m) ∨ x = 0) ∧
    runv E1 166 [(V.uptr [V.list (s).code.length ((s).code.map (V.int .u8)), V.int .i64 (s).i, V.int .u64 (s).h]), (V.int .i64 (m))] = some ⟨true, (V.int .i64 (x)), [(V.uptr [V.list (s').code.length ((s').code.map (V.int .u8)), V.int .i64 (s').i, V.int .u64 (s').h]), .undef]⟩ := by
  have w0 : IntKind.i64.wrap (m + 1) = m + 1 := IntWalk.i64_in _ (by omega)
  obtain ⟨s1, x1, _, hx1, h1⟩ := run_l01Next s 14
  by_cases c : x1 = 0
  · obtain ⟨s2, x2, hx2, h2⟩ := run_l01Pick s1 [-1, m + 1, 1099511627776, -4611686018427387904] (by simp) (by simp)
    simp only [List.map_cons, List.map_nil, List.length_cons, List.length_nil, Nat.reduceAdd] at h2
    refine ⟨s2, x2, ?_, ?_⟩
    · simp only [List.mem_cons, List.not_mem_nil, or_false] at hx2; omega
    rw [c] at h1
    have cdk : codeOk Try.f166.ntmps (Try.f166.body.getD .skip) = true := by kernel_rfl
    refine run_of_WLp (fn := Try.f166) rfl Try.func166 rfl ⟨by simp [Try.ntmps166], by simp [wideA, ints], cdk, by simp [Try.f166]⟩ rfl (by simp [rebOk, noId, adoptT, adoptA, adoptL, adoptC, depth]) (by simp [pinned, adoptT, adoptA, adoptL, adoptC]) ?_
    simp [go_sem, -List.map_replicate, -List.map_set, -List.map_append, -List.map_reverse, -List.map_take, -List.map_drop, -List.map_tail, -List.any_map, -List.all_map, -List.mapM_map, -List.map_map, slL, szI, ldI, zI, undL, apL, setI, rdI_get, Nat.add_one_le_iff, fillV, zeros1, zeros0, appendD, segV, lvO, goneOf, sliceD, bound, Nat.add_assoc, w0, h1, h2, zerosV4, fillV]
    repeat refine ⟨by kernel_rfl, by kernel_rfl, ?_⟩
    simp [Ends, finish, onlyP, finPtr, anyU, ptrU, ownI, isLR, finFresh, finRead, resV, expN, treeN, eidN, outs, outA, outC, outL, outsI, outAI, outI, outIL, nodupB, depth, normR, normA, normL, normC, noTup, oneV, purN, idsN, upd, E0_P, E1_P, E2_P, mkSt_fr, mkSt_H, mkSt_nx, mkSt_rs, lookF, flatO, disjN, getO, mapM_purN_int, mapM_expN_int, flatMap_idsN_int, flatMap_eidN_int, any_hasU_int, all_treeN_int, mapM_purN_str, mapM_expN_str, flatMap_idsN_str, flatMap_eidN_str, any_hasU_str, all_treeN_str, ctBool, ctInt, ctI64, ctL, take_map_full, -List.map_replicate, -List.map_set, -List.map_append, -List.map_reverse, -List.map_take, -List.map_drop, -List.map_tail, -List.any_map, -List.all_map, -List.mapM_map, -List.map_map, Try.f166, isLR, hasU]
  · obtain ⟨s2, x2, hx2, hx3, h2⟩ := run_l01Next s1 (m + 1)
    refine ⟨s2, x2, ?_, ?_⟩
    · by_cases e : m + 1 < 1
      · have := hx2 e; omega
      · have := hx3 (by omega); omega
    have cdk : codeOk Try.f166.ntmps (Try.f166.body.getD .skip) = true := by kernel_rfl
    refine run_of_WLp (fn := Try.f166) rfl Try.func166 rfl ⟨by simp [Try.ntmps166], by simp [wideA, ints], cdk, by simp [Try.f166]⟩ rfl (by simp [rebOk, noId, adoptT, adoptA, adoptL, adoptC, depth]) (by simp [pinned, adoptT, adoptA, adoptL, adoptC]) ?_
    simp [go_sem, -List.map_replicate, -List.map_set, -List.map_append, -List.map_reverse, -List.map_take, -List.map_drop, -List.map_tail, -List.any_map, -List.all_map, -List.mapM_map, -List.map_map, slL, szI, ldI, zI, undL, apL, setI, rdI_get, Nat.add_one_le_iff, fillV, zeros1, zeros0, appendD, segV, lvO, goneOf, sliceD, bound, Nat.add_assoc, w0, h1, h2, c, zerosV4, fillV]
    repeat refine ⟨by kernel_rfl, by kernel_rfl, ?_⟩
    simp [Ends, finish, onlyP, finPtr, anyU, ptrU, ownI, isLR, finFresh, finRead, resV, expN, treeN, eidN, outs, outA, outC, outL, outsI, outAI, outI, outIL, nodupB, depth, normR, normA, normL, normC, noTup, oneV, purN, idsN, upd, E0_P, E1_P, E2_P, mkSt_fr, mkSt_H, mkSt_nx, mkSt_rs, lookF, flatO, disjN, getO, mapM_purN_int, mapM_expN_int, flatMap_idsN_int, flatMap_eidN_int, any_hasU_int, all_treeN_int, mapM_purN_str, mapM_expN_str, flatMap_idsN_str, flatMap_eidN_str, any_hasU_str, all_treeN_str, ctBool, ctInt, ctI64, ctL, take_map_full, -List.map_replicate, -List.map_set, -List.map_append, -List.map_reverse, -List.map_take, -List.map_drop, -List.map_tail, -List.any_map, -List.all_map, -List.mapM_map, -List.map_map, Try.f166, isLR, hasU]
end Go.Proofs.Ytabnganndcmcnaa.Ev
