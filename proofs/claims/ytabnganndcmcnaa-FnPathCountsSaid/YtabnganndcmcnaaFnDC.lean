/- Draws of paths and of their numbers. Conditions: none. -/
import Derived.Test.YtabnganndcmcnaaFnDB
set_option linter.unusedSimpArgs false
set_option linter.unusedVariables false
namespace Go.Proofs.Ytabnganndcmcnaa.Ev
open Go Go.Proofs
set_option maxRecDepth 4000
set_option maxHeartbeats 4000000

theorem run_l09Numbers (s : Src) (m : Int) (hm : 0 ≤ m + 1 ∧ m ≤ 9223372036854775806) : ∃ (s' : Src) (n i k h : Int),
    runv E1 157 [(V.uptr [V.list (s).code.length ((s).code.map (V.int .u8)), V.int .i64 (s).i, V.int .u64 (s).h]), (V.int .i64 (m))] = some ⟨true, .tup [(V.int .i64 (n)), (V.int .i64 (i)), (V.int .i64 (k)), (V.int .i64 (h))], [(V.uptr [V.list (s').code.length ((s').code.map (V.int .u8)), V.int .i64 (s').i, V.int .u64 (s').h]), .undef]⟩ := by
  obtain ⟨s1, n, _, h1⟩ := run_l01Near s m hm
  obtain ⟨s2, a, _, _, h2⟩ := run_l01Next s1 5
  obtain ⟨s3, i, _, h3⟩ := run_l01Pick s2 [0, 0, 1, a] (by simp) (by simp)
  obtain ⟨s4, b, _, _, h4⟩ := run_l01Next s3 5
  obtain ⟨s5, k, _, h5⟩ := run_l01Pick s4 [0, 0, 1, b] (by simp) (by simp)
  obtain ⟨s6, c, _, _, h6⟩ := run_l01Next s5 30
  simp only [List.map_cons, List.map_nil, List.length_cons, List.length_nil, Nat.reduceAdd] at h3 h5
  by_cases c0 : c = 0
  · rw [c0] at h6
    obtain ⟨s7, i', _, h7⟩ := run_l01Pick s6 [-1, 25, 24] (by simp) (by simp)
    obtain ⟨s8, d, _, h8⟩ := run_l01Near s7 24 (by omega)
    obtain ⟨s9, h, _, h9⟩ := run_l01Pick s8 [1, 2, 3, 24, d] (by simp) (by simp)
    simp only [List.map_cons, List.map_nil, List.length_cons, List.length_nil, Nat.reduceAdd] at h7 h9
    refine ⟨s9, n, i', k, h, ?_⟩
    have cdk : codeOk Try.f157.ntmps (Try.f157.body.getD .skip) = true := by kernel_rfl
    refine run_of_WLp (fn := Try.f157) rfl Try.func157 rfl ⟨by simp [Try.ntmps157], by simp [wideA, ints], cdk, by simp [Try.f157]⟩ rfl (by simp [rebOk, noId, adoptT, adoptA, adoptL, adoptC, depth]) (by simp [pinned, adoptT, adoptA, adoptL, adoptC]) ?_
    simp [go_sem, -List.map_replicate, -List.map_set, -List.map_append, -List.map_reverse, -List.map_take, -List.map_drop, -List.map_tail, -List.any_map, -List.all_map, -List.mapM_map, -List.map_map, slL, szI, ldI, zI, undL, apL, setI, rdI_get, Nat.add_one_le_iff, fillV, zeros1, zeros0, appendD, segV, lvO, goneOf, sliceD, bound, Nat.add_assoc, h1, h2, h3, h4, h5, h6, h7, h8, h9, zerosV3, zerosV4, zerosV5, fillV]
    repeat refine ⟨by kernel_rfl, by kernel_rfl, ?_⟩
    simp [Ends, finish, onlyP, finPtr, anyU, ptrU, ownI, isLR, finFresh, finRead, resV, expN, treeN, eidN, outs, outA, outC, outL, outsI, outAI, outI, outIL, nodupB, depth, normR, normA, normL, normC, noTup, oneV, purN, idsN, upd, E0_P, E1_P, E2_P, mkSt_fr, mkSt_H, mkSt_nx, mkSt_rs, lookF, flatO, disjN, getO, mapM_purN_int, mapM_expN_int, flatMap_idsN_int, flatMap_eidN_int, any_hasU_int, all_treeN_int, mapM_purN_str, mapM_expN_str, flatMap_idsN_str, flatMap_eidN_str, any_hasU_str, all_treeN_str, ctBool, ctInt, ctI64, ctL, take_map_full, -List.map_replicate, -List.map_set, -List.map_append, -List.map_reverse, -List.map_take, -List.map_drop, -List.map_tail, -List.any_map, -List.all_map, -List.mapM_map, -List.map_map, Try.f157, isLR, hasU]
  · obtain ⟨s8, d, _, h8⟩ := run_l01Near s6 24 (by omega)
    obtain ⟨s9, h, _, h9⟩ := run_l01Pick s8 [1, 2, 3, 24, d] (by simp) (by simp)
    simp only [List.map_cons, List.map_nil, List.length_cons, List.length_nil, Nat.reduceAdd] at h9
    refine ⟨s9, n, i, k, h, ?_⟩
    have cdk : codeOk Try.f157.ntmps (Try.f157.body.getD .skip) = true := by kernel_rfl
    refine run_of_WLp (fn := Try.f157) rfl Try.func157 rfl ⟨by simp [Try.ntmps157], by simp [wideA, ints], cdk, by simp [Try.f157]⟩ rfl (by simp [rebOk, noId, adoptT, adoptA, adoptL, adoptC, depth]) (by simp [pinned, adoptT, adoptA, adoptL, adoptC]) ?_
    simp [go_sem, -List.map_replicate, -List.map_set, -List.map_append, -List.map_reverse, -List.map_take, -List.map_drop, -List.map_tail, -List.any_map, -List.all_map, -List.mapM_map, -List.map_map, slL, szI, ldI, zI, undL, apL, setI, rdI_get, Nat.add_one_le_iff, fillV, zeros1, zeros0, appendD, segV, lvO, goneOf, sliceD, bound, Nat.add_assoc, h1, h2, h3, h4, h5, h6, h8, h9, c0, zerosV3, zerosV4, zerosV5, fillV]
    repeat refine ⟨by kernel_rfl, by kernel_rfl, ?_⟩
    simp [Ends, finish, onlyP, finPtr, anyU, ptrU, ownI, isLR, finFresh, finRead, resV, expN, treeN, eidN, outs, outA, outC, outL, outsI, outAI, outI, outIL, nodupB, depth, normR, normA, normL, normC, noTup, oneV, purN, idsN, upd, E0_P, E1_P, E2_P, mkSt_fr, mkSt_H, mkSt_nx, mkSt_rs, lookF, flatO, disjN, getO, mapM_purN_int, mapM_expN_int, flatMap_idsN_int, flatMap_eidN_int, any_hasU_int, all_treeN_int, mapM_purN_str, mapM_expN_str, flatMap_idsN_str, flatMap_eidN_str, any_hasU_str, all_treeN_str, ctBool, ctInt, ctI64, ctL, take_map_full, -List.map_replicate, -List.map_set, -List.map_append, -List.map_reverse, -List.map_take, -List.map_drop, -List.map_tail, -List.any_map, -List.all_map, -List.mapM_map, -List.map_map, Try.f157, isLR, hasU]
theorem run_DrawPathsOf (code : List Int) (hb : ∀ z, z ∈ code → 0 ≤ z ∧ z ≤ 255) (hl : code.length ≤ 4096) : ∃ (n i k h : Int),
    runv E1 36 [.list code.length (code.map (V.int .u8))] = some ⟨true, .tup [(V.int .i64 (n)), (V.int .i64 (i)), (V.int .i64 (k)), (V.int .i64 (h))], [.undef]⟩ := by
  obtain ⟨s, h0⟩ := run_l01From code hb hl
  obtain ⟨s1, m, hm, h1⟩ := run_l01Pick s [4, 6, 8] (by simp) (by simp)
  simp only [List.mem_cons, List.not_mem_nil, or_false] at hm
  obtain ⟨s2, n, i, k, h, h2⟩ := run_l09Numbers s1 m (by omega)
  simp only [List.map_cons, List.map_nil, List.length_cons, List.length_nil, Nat.reduceAdd] at h1
  refine ⟨n, i, k, h, ?_⟩
  have cdk : codeOk Try.f36.ntmps (Try.f36.body.getD .skip) = true := by kernel_rfl
  refine run_of_WLr (fn := Try.f36) rfl Try.func36 rfl ⟨by simp [Try.ntmps36], by simp [wideA, ints], cdk, by simp [Try.f36]⟩ rfl (by simp [rebOk, noId, adoptT, adoptA, adoptL, adoptC, depth]) ?_
  simp [go_sem, -List.map_replicate, -List.map_set, -List.map_append, -List.map_reverse, -List.map_take, -List.map_drop, -List.map_tail, -List.any_map, -List.all_map, -List.mapM_map, -List.map_map, slL, szI, ldI, zI, undL, apL, setI, rdI_get, Nat.add_one_le_iff, fillV, zeros1, zeros0, appendD, segV, lvO, goneOf, sliceD, bound, Nat.add_assoc, h0, h1, h2, zerosV3, fillV]
  repeat refine ⟨by kernel_rfl, by kernel_rfl, ?_⟩
  simp [Ends, finish, onlyP, finPtr, anyU, ptrU, ownI, isLR, finFresh, finRead, resV, expN, treeN, eidN, outs, outA, outC, outL, outsI, outAI, outI, outIL, nodupB, depth, normR, normA, normL, normC, noTup, oneV, purN, idsN, upd, E0_P, E1_P, E2_P, mkSt_fr, mkSt_H, mkSt_nx, mkSt_rs, lookF, flatO, disjN, getO, mapM_purN_int, mapM_expN_int, flatMap_idsN_int, flatMap_eidN_int, any_hasU_int, all_treeN_int, mapM_purN_str, mapM_expN_str, flatMap_idsN_str, flatMap_eidN_str, any_hasU_str, all_treeN_str, ctBool, ctInt, ctI64, ctL, take_map_full, -List.map_replicate, -List.map_set, -List.map_append, -List.map_reverse, -List.map_take, -List.map_drop, -List.map_tail, -List.any_map, -List.all_map, -List.mapM_map, -List.map_map, Try.f36, isLR, hasU]
theorem run_DrawCountPaths (code : List Int) (hb : ∀ z, z ∈ code → 0 ≤ z ∧ z ≤ 255) (hl : code.length ≤ 4096) : ∃ (n i k h : Int),
    runv E1 51 [.list code.length (code.map (V.int .u8))] = some ⟨true, .tup [(V.int .i64 (n)), (V.int .i64 (i)), (V.int .i64 (k)), (V.int .i64 (h))], [.undef]⟩ := by
  obtain ⟨s, h0⟩ := run_l01From code hb hl
  obtain ⟨s1, m, hm, h1⟩ := run_l01Pick s [6, 12, 24] (by simp) (by simp)
  simp only [List.mem_cons, List.not_mem_nil, or_false] at hm
  obtain ⟨s2, n, i, k, h, h2⟩ := run_l09Numbers s1 m (by omega)
  simp only [List.map_cons, List.map_nil, List.length_cons, List.length_nil, Nat.reduceAdd] at h1
  refine ⟨n, i, k, h, ?_⟩
  have cdk : codeOk Try.f51.ntmps (Try.f51.body.getD .skip) = true := by kernel_rfl
  refine run_of_WLr (fn := Try.f51) rfl Try.func51 rfl ⟨by simp [Try.ntmps51], by simp [wideA, ints], cdk, by simp [Try.f51]⟩ rfl (by simp [rebOk, noId, adoptT, adoptA, adoptL, adoptC, depth]) ?_
  simp [go_sem, -List.map_replicate, -List.map_set, -List.map_append, -List.map_reverse, -List.map_take, -List.map_drop, -List.map_tail, -List.any_map, -List.all_map, -List.mapM_map, -List.map_map, slL, szI, ldI, zI, undL, apL, setI, rdI_get, Nat.add_one_le_iff, fillV, zeros1, zeros0, appendD, segV, lvO, goneOf, sliceD, bound, Nat.add_assoc, h0, h1, h2, zerosV3, fillV]
  repeat refine ⟨by kernel_rfl, by kernel_rfl, ?_⟩
  simp [Ends, finish, onlyP, finPtr, anyU, ptrU, ownI, isLR, finFresh, finRead, resV, expN, treeN, eidN, outs, outA, outC, outL, outsI, outAI, outI, outIL, nodupB, depth, normR, normA, normL, normC, noTup, oneV, purN, idsN, upd, E0_P, E1_P, E2_P, mkSt_fr, mkSt_H, mkSt_nx, mkSt_rs, lookF, flatO, disjN, getO, mapM_purN_int, mapM_expN_int, flatMap_idsN_int, flatMap_eidN_int, any_hasU_int, all_treeN_int, mapM_purN_str, mapM_expN_str, flatMap_idsN_str, flatMap_eidN_str, any_hasU_str, all_treeN_str, ctBool, ctInt, ctI64, ctL, take_map_full, -List.map_replicate, -List.map_set, -List.map_append, -List.map_reverse, -List.map_take, -List.map_drop, -List.map_tail, -List.any_map, -List.all_map, -List.mapM_map, -List.map_map, Try.f51, isLR, hasU]
theorem run_DrawCountLevelPaths (code : List Int) (hb : ∀ z, z ∈ code → 0 ≤ z ∧ z ≤ 255) (hl : code.length ≤ 4096) : ∃ (n i k h : Int),
    runv E1 53 [.list code.length (code.map (V.int .u8))] = some ⟨true, .tup [(V.int .i64 (n)), (V.int .i64 (i)), (V.int .i64 (k)), (V.int .i64 (h))], [.undef]⟩ := by
  obtain ⟨s, h0⟩ := run_l01From code hb hl
  obtain ⟨s1, m, hm, h1⟩ := run_l01Pick s [6, 12, 24] (by simp) (by simp)
  simp only [List.mem_cons, List.not_mem_nil, or_false] at hm
  obtain ⟨s2, n, i, k, h, h2⟩ := run_l09Numbers s1 m (by omega)
  simp only [List.map_cons, List.map_nil, List.length_cons, List.length_nil, Nat.reduceAdd] at h1
  refine ⟨n, i, k, h, ?_⟩
  have cdk : codeOk Try.f53.ntmps (Try.f53.body.getD .skip) = true := by kernel_rfl
  refine run_of_WLr (fn := Try.f53) rfl Try.func53 rfl ⟨by simp [Try.ntmps53], by simp [wideA, ints], cdk, by simp [Try.f53]⟩ rfl (by simp [rebOk, noId, adoptT, adoptA, adoptL, adoptC, depth]) ?_
  simp [go_sem, -List.map_replicate, -List.map_set, -List.map_append, -List.map_reverse, -List.map_take, -List.map_drop, -List.map_tail, -List.any_map, -List.all_map, -List.mapM_map, -List.map_map, slL, szI, ldI, zI, undL, apL, setI, rdI_get, Nat.add_one_le_iff, fillV, zeros1, zeros0, appendD, segV, lvO, goneOf, sliceD, bound, Nat.add_assoc, h0, h1, h2, zerosV3, fillV]
  repeat refine ⟨by kernel_rfl, by kernel_rfl, ?_⟩
  simp [Ends, finish, onlyP, finPtr, anyU, ptrU, ownI, isLR, finFresh, finRead, resV, expN, treeN, eidN, outs, outA, outC, outL, outsI, outAI, outI, outIL, nodupB, depth, normR, normA, normL, normC, noTup, oneV, purN, idsN, upd, E0_P, E1_P, E2_P, mkSt_fr, mkSt_H, mkSt_nx, mkSt_rs, lookF, flatO, disjN, getO, mapM_purN_int, mapM_expN_int, flatMap_idsN_int, flatMap_eidN_int, any_hasU_int, all_treeN_int, mapM_purN_str, mapM_expN_str, flatMap_idsN_str, flatMap_eidN_str, any_hasU_str, all_treeN_str, ctBool, ctInt, ctI64, ctL, take_map_full, -List.map_replicate, -List.map_set, -List.map_append, -List.map_reverse, -List.map_take, -List.map_drop, -List.map_tail, -List.any_map, -List.all_map, -List.mapM_map, -List.map_map, Try.f53, isLR, hasU]
theorem run_DrawBallotNumber (code : List Int) (hb : ∀ z, z ∈ code → 0 ≤ z ∧ z ≤ 255) (hl : code.length ≤ 4096) : ∃ (n k : Int),
    runv E1 45 [.list code.length (code.map (V.int .u8))] = some ⟨true, .tup [(V.int .i64 (n)), (V.int .i64 (k))], [.undef]⟩ := by
  obtain ⟨s, h0⟩ := run_l01From code hb hl
  obtain ⟨s1, n, _, h1⟩ := run_l01Near s 24 (by omega)
  obtain ⟨s2, m, hm, h2⟩ := run_l01Pick s1 [4, 24] (by simp) (by simp)
  simp only [List.mem_cons, List.not_mem_nil, or_false] at hm
  obtain ⟨s3, k, _, h3⟩ := run_l01Near s2 m (by omega)
  simp only [List.map_cons, List.map_nil, List.length_cons, List.length_nil, Nat.reduceAdd] at h2
  refine ⟨n, k, ?_⟩
  have cdk : codeOk Try.f45.ntmps (Try.f45.body.getD .skip) = true := by kernel_rfl
  refine run_of_WLr (fn := Try.f45) rfl Try.func45 rfl ⟨by simp [Try.ntmps45], by simp [wideA, ints], cdk, by simp [Try.f45]⟩ rfl (by simp [rebOk, noId, adoptT, adoptA, adoptL, adoptC, depth]) ?_
  simp [go_sem, -List.map_replicate, -List.map_set, -List.map_append, -List.map_reverse, -List.map_take, -List.map_drop, -List.map_tail, -List.any_map, -List.all_map, -List.mapM_map, -List.map_map, slL, szI, ldI, zI, undL, apL, setI, rdI_get, Nat.add_one_le_iff, fillV, zeros1, zeros0, appendD, segV, lvO, goneOf, sliceD, bound, Nat.add_assoc, h0, h1, h2, h3, zerosV2, fillV]
  repeat refine ⟨by kernel_rfl, by kernel_rfl, ?_⟩
  simp [Ends, finish, onlyP, finPtr, anyU, ptrU, ownI, isLR, finFresh, finRead, resV, expN, treeN, eidN, outs, outA, outC, outL, outsI, outAI, outI, outIL, nodupB, depth, normR, normA, normL, normC, noTup, oneV, purN, idsN, upd, E0_P, E1_P, E2_P, mkSt_fr, mkSt_H, mkSt_nx, mkSt_rs, lookF, flatO, disjN, getO, mapM_purN_int, mapM_expN_int, flatMap_idsN_int, flatMap_eidN_int, any_hasU_int, all_treeN_int, mapM_purN_str, mapM_expN_str, flatMap_idsN_str, flatMap_eidN_str, any_hasU_str, all_treeN_str, ctBool, ctInt, ctI64, ctL, take_map_full, -List.map_replicate, -List.map_set, -List.map_append, -List.map_reverse, -List.map_take, -List.map_drop, -List.map_tail, -List.any_map, -List.all_map, -List.mapM_map, -List.map_map, Try.f45, isLR, hasU]
/-! ### Paths -/
theorem slStrD : slT Try.prog 57 = some (9, 1, 16) := by kernel_rfl
theorem ldStrD : ldT Try.prog 9 = some (false, 1) := by kernel_rfl
theorem undStrSD : Try.prog.underlying 57 = some (.slice 9) := by kernel_rfl
theorem zStrD : zeroT Try.prog 9 = some [.str ⟨#[]⟩] := by kernel_rfl
theorem szStrD : szT Try.prog 9 = some 1 := by kernel_rfl
theorem zerosSD4 : zerosV 4 [V.str ⟨#[]⟩] = List.replicate 4 (.str ⟨#[]⟩) := rfl
theorem zerosSD3 : zerosV 3 [V.str ⟨#[]⟩] = List.replicate 3 (.str ⟨#[]⟩) := rfl
theorem run_l09NoPath (s : Src) : ∃ (s' : Src) (t : ByteArray), t.size ≤ 51 ∧
    runv E1 246 [(V.uptr [V.list (s).code.length ((s).code.map (V.int .u8)), V.int .i64 (s).i, V.int .u64 (s).h])] = some ⟨true, .str t, [(V.uptr [V.list (s').code.length ((s').code.map (V.int .u8)), V.int .i64 (s').i, V.int .u64 (s').h])]⟩ := by
  obtain ⟨s1, x, _, hx, h1⟩ := run_l01Next s 4
  have hx := hx (by omega)
  have : x = 0 ∨ x = 1 ∨ x = 2 ∨ x = 3 := by omega
  rcases this with rfl | rfl | rfl | rfl
  · refine ⟨s1, ⟨#[117]⟩, by decide +kernel, ?_⟩
    have cdk : codeOk Try.f246.ntmps (Try.f246.body.getD .skip) = true := by kernel_rfl
    refine run_of_WLp (fn := Try.f246) rfl Try.func246 rfl ⟨by simp [Try.ntmps246], by simp [wideA, ints], cdk, by simp [Try.f246]⟩ rfl (by simp [rebOk, noId, adoptT, adoptA, adoptL, adoptC, depth]) (by simp [pinned, adoptT, adoptA, adoptL, adoptC]) ?_
    simp [go_sem, -List.map_replicate, -List.map_set, -List.map_append, -List.map_reverse, -List.map_take, -List.map_drop, -List.map_tail, -List.any_map, -List.all_map, -List.mapM_map, -List.map_map, slL, szI, ldI, zI, undL, apL, setI, rdI_get, Nat.add_one_le_iff, fillV, zeros1, zeros0, appendD, segV, lvO, goneOf, sliceD, bound, Nat.add_assoc, h1, slStrD, ldStrD, undStrSD, zStrD, szStrD, zerosSD4, fillV, List.replicate]
    repeat refine ⟨by kernel_rfl, by kernel_rfl, ?_⟩
    simp [Ends, finish, onlyP, finPtr, anyU, ptrU, ownI, isLR, finFresh, finRead, resV, expN, treeN, eidN, outs, outA, outC, outL, outsI, outAI, outI, outIL, nodupB, depth, normR, normA, normL, normC, noTup, oneV, purN, idsN, upd, E0_P, E1_P, E2_P, mkSt_fr, mkSt_H, mkSt_nx, mkSt_rs, lookF, flatO, disjN, getO, mapM_purN_int, mapM_expN_int, flatMap_idsN_int, flatMap_eidN_int, any_hasU_int, all_treeN_int, mapM_purN_str, mapM_expN_str, flatMap_idsN_str, flatMap_eidN_str, any_hasU_str, all_treeN_str, ctBool, ctInt, ctI64, ctL, take_map_full, -List.map_replicate, -List.map_set, -List.map_append, -List.map_reverse, -List.map_take, -List.map_drop, -List.map_tail, -List.any_map, -List.all_map, -List.mapM_map, -List.map_map, Try.f246, isLR, hasU]
  · refine ⟨s1, ⟨#[88]⟩, by decide +kernel, ?_⟩
    have cdk : codeOk Try.f246.ntmps (Try.f246.body.getD .skip) = true := by kernel_rfl
    refine run_of_WLp (fn := Try.f246) rfl Try.func246 rfl ⟨by simp [Try.ntmps246], by simp [wideA, ints], cdk, by simp [Try.f246]⟩ rfl (by simp [rebOk, noId, adoptT, adoptA, adoptL, adoptC, depth]) (by simp [pinned, adoptT, adoptA, adoptL, adoptC]) ?_
    simp [go_sem, -List.map_replicate, -List.map_set, -List.map_append, -List.map_reverse, -List.map_take, -List.map_drop, -List.map_tail, -List.any_map, -List.all_map, -List.mapM_map, -List.map_map, slL, szI, ldI, zI, undL, apL, setI, rdI_get, Nat.add_one_le_iff, fillV, zeros1, zeros0, appendD, segV, lvO, goneOf, sliceD, bound, Nat.add_assoc, h1, slStrD, ldStrD, undStrSD, zStrD, szStrD, zerosSD4, fillV, List.replicate]
    repeat refine ⟨by kernel_rfl, by kernel_rfl, ?_⟩
    simp [Ends, finish, onlyP, finPtr, anyU, ptrU, ownI, isLR, finFresh, finRead, resV, expN, treeN, eidN, outs, outA, outC, outL, outsI, outAI, outI, outIL, nodupB, depth, normR, normA, normL, normC, noTup, oneV, purN, idsN, upd, E0_P, E1_P, E2_P, mkSt_fr, mkSt_H, mkSt_nx, mkSt_rs, lookF, flatO, disjN, getO, mapM_purN_int, mapM_expN_int, flatMap_idsN_int, flatMap_eidN_int, any_hasU_int, all_treeN_int, mapM_purN_str, mapM_expN_str, flatMap_idsN_str, flatMap_eidN_str, any_hasU_str, all_treeN_str, ctBool, ctInt, ctI64, ctL, take_map_full, -List.map_replicate, -List.map_set, -List.map_append, -List.map_reverse, -List.map_take, -List.map_drop, -List.map_tail, -List.any_map, -List.all_map, -List.mapM_map, -List.map_map, Try.f246, isLR, hasU]
  · refine ⟨s1, ⟨#[68, 68, 68, 68, 68, 68, 68, 68, 68, 68, 68, 68, 68, 68, 68, 68, 68, 68, 68, 68, 68, 68, 68, 68, 68, 68, 68, 68, 68, 68, 68, 68, 68, 68, 68, 68, 68, 68, 68, 68, 68, 68, 68, 68, 68, 68, 68, 68, 68, 68, 68]⟩, by decide +kernel, ?_⟩
    have cdk : codeOk Try.f246.ntmps (Try.f246.body.getD .skip) = true := by kernel_rfl
    refine run_of_WLp (fn := Try.f246) rfl Try.func246 rfl ⟨by simp [Try.ntmps246], by simp [wideA, ints], cdk, by simp [Try.f246]⟩ rfl (by simp [rebOk, noId, adoptT, adoptA, adoptL, adoptC, depth]) (by simp [pinned, adoptT, adoptA, adoptL, adoptC]) ?_
    simp [go_sem, -List.map_replicate, -List.map_set, -List.map_append, -List.map_reverse, -List.map_take, -List.map_drop, -List.map_tail, -List.any_map, -List.all_map, -List.mapM_map, -List.map_map, slL, szI, ldI, zI, undL, apL, setI, rdI_get, Nat.add_one_le_iff, fillV, zeros1, zeros0, appendD, segV, lvO, goneOf, sliceD, bound, Nat.add_assoc, h1, slStrD, ldStrD, undStrSD, zStrD, szStrD, zerosSD4, fillV, List.replicate]
    repeat refine ⟨by kernel_rfl, by kernel_rfl, ?_⟩
    simp [Ends, finish, onlyP, finPtr, anyU, ptrU, ownI, isLR, finFresh, finRead, resV, expN, treeN, eidN, outs, outA, outC, outL, outsI, outAI, outI, outIL, nodupB, depth, normR, normA, normL, normC, noTup, oneV, purN, idsN, upd, E0_P, E1_P, E2_P, mkSt_fr, mkSt_H, mkSt_nx, mkSt_rs, lookF, flatO, disjN, getO, mapM_purN_int, mapM_expN_int, flatMap_idsN_int, flatMap_eidN_int, any_hasU_int, all_treeN_int, mapM_purN_str, mapM_expN_str, flatMap_idsN_str, flatMap_eidN_str, any_hasU_str, all_treeN_str, ctBool, ctInt, ctI64, ctL, take_map_full, -List.map_replicate, -List.map_set, -List.map_append, -List.map_reverse, -List.map_take, -List.map_drop, -List.map_tail, -List.any_map, -List.all_map, -List.mapM_map, -List.map_map, Try.f246, isLR, hasU]
  · refine ⟨s1, ⟨#[32]⟩, by decide +kernel, ?_⟩
    have cdk : codeOk Try.f246.ntmps (Try.f246.body.getD .skip) = true := by kernel_rfl
    refine run_of_WLp (fn := Try.f246) rfl Try.func246 rfl ⟨by simp [Try.ntmps246], by simp [wideA, ints], cdk, by simp [Try.f246]⟩ rfl (by simp [rebOk, noId, adoptT, adoptA, adoptL, adoptC, depth]) (by simp [pinned, adoptT, adoptA, adoptL, adoptC]) ?_
    simp [go_sem, -List.map_replicate, -List.map_set, -List.map_append, -List.map_reverse, -List.map_take, -List.map_drop, -List.map_tail, -List.any_map, -List.all_map, -List.mapM_map, -List.map_map, slL, szI, ldI, zI, undL, apL, setI, rdI_get, Nat.add_one_le_iff, fillV, zeros1, zeros0, appendD, segV, lvO, goneOf, sliceD, bound, Nat.add_assoc, h1, slStrD, ldStrD, undStrSD, zStrD, szStrD, zerosSD4, fillV, List.replicate]
    repeat refine ⟨by kernel_rfl, by kernel_rfl, ?_⟩
    simp [Ends, finish, onlyP, finPtr, anyU, ptrU, ownI, isLR, finFresh, finRead, resV, expN, treeN, eidN, outs, outA, outC, outL, outsI, outAI, outI, outIL, nodupB, depth, normR, normA, normL, normC, noTup, oneV, purN, idsN, upd, E0_P, E1_P, E2_P, mkSt_fr, mkSt_H, mkSt_nx, mkSt_rs, lookF, flatO, disjN, getO, mapM_purN_int, mapM_expN_int, flatMap_idsN_int, flatMap_eidN_int, any_hasU_int, all_treeN_int, mapM_purN_str, mapM_expN_str, flatMap_idsN_str, flatMap_eidN_str, any_hasU_str, all_treeN_str, ctBool, ctInt, ctI64, ctL, take_map_full, -List.map_replicate, -List.map_set, -List.map_append, -List.map_reverse, -List.map_take, -List.map_drop, -List.map_tail, -List.any_map, -List.all_map, -List.mapM_map, -List.map_map, Try.f246, isLR, hasU]
/-- The outcome is not named ahead. -/
theorem run_of_WLpQ {E : Env} {f : FuncId} {fn : Func} {c : Code} {args : List V} {G : Res → Prop} (hp : E.prim f args = none) (hf : E.P.funcs[f]? = some fn) (hb : fn.body = some c)
    (hn : args.length ≤ fn.ntmps ∧ args.all wideA ∧ codeOk fn.ntmps c ∧ fn.name ≠ "runtime.NumGoroutine") (hr : E.reb = true) (ho : rebOk args = true) (hpin : pinned args = true)
    (h : WL E (E.strict f) [.code c] (fun st => ∃ r, finish E.P (E.strict f) fn args st = some r ∧ G r) { St.enter args with rs := resM fn ||| 1 }) : ∃ r, runv E f args = some r ∧ G r := by
  obtain ⟨n, st, e, r, hfin, hg⟩ := h
  exact ⟨r, run_of_WLp hp hf hb hn hr ho hpin ⟨n, st, e, hfin⟩, hg⟩
theorem size_push (a b : ByteArray) : (a ++ b).size = a.size + b.size := ByteArray.size_append
theorem run_l09DrawPath (s : Src) (i m b : Int) (hi : 0 ≤ i ∧ i ≤ 1000) (hm : 0 ≤ m ∧ m ≤ 1000) (hb : 0 ≤ b ∧ b ≤ 1000) : ∃ (s' : Src) (t : ByteArray), t.size ≤ 2000 ∧
    runv E1 167 [(V.uptr [V.list (s).code.length ((s).code.map (V.int .u8)), V.int .i64 (s).i, V.int .u64 (s).h]), (V.int .i64 (i)), (V.int .i64 (m)), (V.int .i64 (b))] = some ⟨true, .str t, [(V.uptr [V.list (s').code.length ((s').code.map (V.int .u8)), V.int .i64 (s').i, V.int .u64 (s').h]), .undef, .undef, .undef]⟩ := by
  suffices h : ∃ r, runv E1 167 [(V.uptr [V.list (s).code.length ((s).code.map (V.int .u8)), V.int .i64 (s).i, V.int .u64 (s).h]), (V.int .i64 (i)), (V.int .i64 (m)), (V.int .i64 (b))] = some r ∧ ∃ (s' : Src) (t : ByteArray), t.size ≤ 2000 ∧ r = ⟨true, .str t, [(V.uptr [V.list (s').code.length ((s').code.map (V.int .u8)), V.int .i64 (s').i, V.int .u64 (s').h]), .undef, .undef, .undef]⟩ by
    obtain ⟨r, h, s', t, ht, rfl⟩ := h
    exact ⟨s', t, ht, h⟩
  have w0 : IntKind.i64.wrap (m + 1) = m + 1 := IntWalk.i64_in _ (by omega)
  obtain ⟨s0, n0, _, hn0, h0⟩ := run_l01Next s (m + 1)
  have hn0 := hn0 (by omega)
  obtain ⟨n, rfl⟩ : ∃ n : Nat, n0 = n := ⟨n0.toNat, by omega⟩
  have e1 : (ByteArray.toList ⟨#[85]⟩ == ByteArray.toList ⟨#[76]⟩) = false := by decide +kernel
  have e2 : (ByteArray.toList ⟨#[85]⟩ == ByteArray.toList ⟨#[68]⟩) = false := by decide +kernel
  have e3 : (ByteArray.toList ⟨#[76]⟩ == ByteArray.toList ⟨#[85]⟩) = false := by decide +kernel
  have e4 : (ByteArray.toList ⟨#[76]⟩ == ByteArray.toList ⟨#[68]⟩) = false := by decide +kernel
  have e5 : (ByteArray.toList ⟨#[68]⟩ == ByteArray.toList ⟨#[85]⟩) = false := by decide +kernel
  have e6 : (ByteArray.toList ⟨#[68]⟩ == ByteArray.toList ⟨#[76]⟩) = false := by decide +kernel
  have z1 : ByteArray.size ⟨#[85]⟩ = 1 := rfl
  have z2 : ByteArray.size ⟨#[76]⟩ = 1 := rfl
  have z3 : ByteArray.size ⟨#[68]⟩ = 1 := rfl
  have cdk : codeOk Try.f167.ntmps (Try.f167.body.getD .skip) = true := by kernel_rfl
  refine run_of_WLpQ (fn := Try.f167) rfl Try.func167 rfl ⟨by simp [Try.ntmps167], by simp [wideA, ints], cdk, by simp [Try.f167]⟩ rfl (by simp [rebOk, noId, adoptT, adoptA, adoptL, adoptC, depth]) (by simp [pinned, adoptT, adoptA, adoptL, adoptC]) ?_
  simp [go_sem, -List.map_replicate, -List.map_set, -List.map_append, -List.map_reverse, -List.map_take, -List.map_drop, -List.map_tail, -List.any_map, -List.all_map, -List.mapM_map, -List.map_map, slL, szI, ldI, zI, undL, apL, setI, rdI_get, Nat.add_one_le_iff, fillV, zeros1, zeros0, appendD, segV, lvO, goneOf, sliceD, bound, Nat.add_assoc, w0, h0]
  rw [WL_loop]
  refine WL_forX (keep := [0, 1, 3, 9, 10]) (rs := resM Try.f167 ||| 1) rfl (by kernel_rfl) (α := Src × Int × ByteArray × Nat) (fun x => mkSt [(0, .ptr 0 0 0), (1, .int .i64 x.2.1), (3, .int .i64 b), (9, .str x.2.2.1), (10, .int .i64 (x.2.2.2 : Int))] [some (⟨0, 1, 1, [V.list (x.1).code.length ((x.1).code.map (V.int .u8)), V.int .i64 (x.1).i, V.int .u64 (x.1).h]⟩)] (resM Try.f167 ||| 1)) (fun x => x.2.2.2 ≤ n ∧ x.2.2.1.size + x.2.2.2 = n ∧ 0 ≤ x.2.1 ∧ x.2.1 + x.2.2.2 ≤ 1000 + n) (fun x => x.2.2.2) ?_ (s0, i, ByteArray.empty, n) _ ?_ rfl ?_
  · rintro ⟨s1, i1, t1, k⟩ ⟨q1, q2, q3, q4⟩ next
    simp only at q1 q2 q3 q4 next ⊢
    rcases k with _ | k
    · -- the end
      obtain ⟨s2, x, _, hx, h2⟩ := run_l01Next s1 30
      by_cases x0 : x = 0
      · rw [x0] at h2
        obtain ⟨s3, t2, ht2, h3⟩ := run_l09NoPath s2
        have hc : t1.size + t2.size ≤ 9223372036854775807 := by omega
        simp [go_sem, -List.map_replicate, -List.map_set, -List.map_append, -List.map_reverse, -List.map_take, -List.map_drop, -List.map_tail, -List.any_map, -List.all_map, -List.mapM_map, -List.map_map, slL, szI, ldI, zI, undL, apL, setI, rdI_get, Nat.add_one_le_iff, fillV, zeros1, zeros0, appendD, segV, lvO, goneOf, sliceD, bound, Nat.add_assoc, h2, h3, strOp, hc]
        refine ⟨_, ?_, s3, t1 ++ t2, by rw [size_push]; omega, rfl⟩
        simp [Ends, finish, onlyP, finPtr, anyU, ptrU, ownI, isLR, finFresh, finRead, resV, expN, treeN, eidN, outs, outA, outC, outL, outsI, outAI, outI, outIL, nodupB, depth, normR, normA, normL, normC, noTup, oneV, purN, idsN, upd, E0_P, E1_P, E2_P, mkSt_fr, mkSt_H, mkSt_nx, mkSt_rs, lookF, flatO, disjN, getO, mapM_purN_int, mapM_expN_int, flatMap_idsN_int, flatMap_eidN_int, any_hasU_int, all_treeN_int, mapM_purN_str, mapM_expN_str, flatMap_idsN_str, flatMap_eidN_str, any_hasU_str, all_treeN_str, ctBool, ctInt, ctI64, ctL, take_map_full, -List.map_replicate, -List.map_set, -List.map_append, -List.map_reverse, -List.map_take, -List.map_drop, -List.map_tail, -List.any_map, -List.all_map, -List.mapM_map, -List.map_map, Try.f167, isLR, hasU]
      · simp [go_sem, -List.map_replicate, -List.map_set, -List.map_append, -List.map_reverse, -List.map_take, -List.map_drop, -List.map_tail, -List.any_map, -List.all_map, -List.mapM_map, -List.map_map, slL, szI, ldI, zI, undL, apL, setI, rdI_get, Nat.add_one_le_iff, fillV, zeros1, zeros0, appendD, segV, lvO, goneOf, sliceD, bound, Nat.add_assoc, h2, x0, strOp]
        refine ⟨_, ?_, s2, t1, by omega, rfl⟩
        simp [Ends, finish, onlyP, finPtr, anyU, ptrU, ownI, isLR, finFresh, finRead, resV, expN, treeN, eidN, outs, outA, outC, outL, outsI, outAI, outI, outIL, nodupB, depth, normR, normA, normL, normC, noTup, oneV, purN, idsN, upd, E0_P, E1_P, E2_P, mkSt_fr, mkSt_H, mkSt_nx, mkSt_rs, lookF, flatO, disjN, getO, mapM_purN_int, mapM_expN_int, flatMap_idsN_int, flatMap_eidN_int, any_hasU_int, all_treeN_int, mapM_purN_str, mapM_expN_str, flatMap_idsN_str, flatMap_eidN_str, any_hasU_str, all_treeN_str, ctBool, ctInt, ctI64, ctL, take_map_full, -List.map_replicate, -List.map_set, -List.map_append, -List.map_reverse, -List.map_take, -List.map_drop, -List.map_tail, -List.any_map, -List.all_map, -List.mapM_map, -List.map_map, Try.f167, isLR, hasU]
    · have hk0 : (0 : Int) < (k : Int) + 1 := by omega
      have w1 : IntKind.i64.wrap (k : Int) = k := IntWalk.i64_in _ (by omega)
      have w2 : IntKind.i64.wrap (i1 + 1) = i1 + 1 := IntWalk.i64_in _ (by omega)
      have w3 : IntKind.i64.wrap (i1 - 1) = i1 - 1 := IntWalk.i64_in _ (by omega)
      have hc : t1.size + 1 ≤ 9223372036854775807 := by omega
      obtain ⟨s2, x, _, hx, h2⟩ := run_l01Next s1 3
      obtain ⟨s3, y, _, hy, h3⟩ := run_l01Next s2 30
      have hx := hx (by omega)
      have hy := hy (by omega)
      have : x = 0 ∨ x = 1 ∨ x = 2 := by omega
      rcases this with rfl | rfl | rfl
      · by_cases c1 : i1 + 1 < b
        · simp [go_sem, -List.map_replicate, -List.map_set, -List.map_append, -List.map_reverse, -List.map_take, -List.map_drop, -List.map_tail, -List.any_map, -List.all_map, -List.mapM_map, -List.map_map, slL, szI, ldI, zI, undL, apL, setI, rdI_get, Nat.add_one_le_iff, fillV, zeros1, zeros0, appendD, segV, lvO, goneOf, sliceD, bound, Nat.add_assoc, hk0, w1, w2, h2, c1, strOp, slStrD, ldStrD, undStrSD, zStrD, szStrD, zerosSD3, fillV, List.replicate, e1, e2, e3, e4, e5, e6, z1, z2, z3, hc]
          repeat refine ⟨by kernel_rfl, by kernel_rfl, ?_⟩
          refine next (s2, i1 + 1, t1 ++ ⟨#[85]⟩, k) _ ⟨by simp only; omega, by simp only [size_push, z1]; omega, by simp only; omega, by simp only; omega⟩ (by simp) rfl ?_
          (refine canon_mkP ?_; simp [ordOf, dedupA, idsF, inside, renV, renI, renC, renO, posN, noId, mkSt_fr, mkSt_H, mkSt_nx, mkSt_rs, lookF, nodupB, depth, upd, ordIds_int, ordRen_int, ordIds_app, ordRen_app, ordIds_app2, ordRen_app2, appW, -List.map_replicate, -List.map_set, -List.map_append, -List.map_reverse, -List.map_take, -List.map_drop, -List.map_tail, -List.map_map, pinH])
        · by_cases c2 : 0 < y
          · simp [go_sem, -List.map_replicate, -List.map_set, -List.map_append, -List.map_reverse, -List.map_take, -List.map_drop, -List.map_tail, -List.any_map, -List.all_map, -List.mapM_map, -List.map_map, slL, szI, ldI, zI, undL, apL, setI, rdI_get, Nat.add_one_le_iff, fillV, zeros1, zeros0, appendD, segV, lvO, goneOf, sliceD, bound, Nat.add_assoc, hk0, w1, w2, h2, h3, c1, c2, strOp, slStrD, ldStrD, undStrSD, zStrD, szStrD, zerosSD3, fillV, List.replicate, e1, e2, e3, e4, e5, e6, z1, z2, z3, hc]
            repeat refine ⟨by kernel_rfl, by kernel_rfl, ?_⟩
            refine next (s3, i1, t1 ++ ⟨#[76]⟩, k) _ ⟨by simp only; omega, by simp only [size_push, z2]; omega, by simp only; omega, by simp only; omega⟩ (by simp) rfl ?_
            (refine canon_mkP ?_; simp [ordOf, dedupA, idsF, inside, renV, renI, renC, renO, posN, noId, mkSt_fr, mkSt_H, mkSt_nx, mkSt_rs, lookF, nodupB, depth, upd, ordIds_int, ordRen_int, ordIds_app, ordRen_app, ordIds_app2, ordRen_app2, appW, -List.map_replicate, -List.map_set, -List.map_append, -List.map_reverse, -List.map_take, -List.map_drop, -List.map_tail, -List.map_map, pinH])
          · simp [go_sem, -List.map_replicate, -List.map_set, -List.map_append, -List.map_reverse, -List.map_take, -List.map_drop, -List.map_tail, -List.any_map, -List.all_map, -List.mapM_map, -List.map_map, slL, szI, ldI, zI, undL, apL, setI, rdI_get, Nat.add_one_le_iff, fillV, zeros1, zeros0, appendD, segV, lvO, goneOf, sliceD, bound, Nat.add_assoc, hk0, w1, w2, h2, h3, c1, c2, strOp, slStrD, ldStrD, undStrSD, zStrD, szStrD, zerosSD3, fillV, List.replicate, e1, e2, e3, e4, e5, e6, z1, z2, z3, hc]
            repeat refine ⟨by kernel_rfl, by kernel_rfl, ?_⟩
            refine next (s3, i1, t1 ++ ⟨#[85]⟩, k) _ ⟨by simp only; omega, by simp only [size_push, z1]; omega, by simp only; omega, by simp only; omega⟩ (by simp) rfl ?_
            (refine canon_mkP ?_; simp [ordOf, dedupA, idsF, inside, renV, renI, renC, renO, posN, noId, mkSt_fr, mkSt_H, mkSt_nx, mkSt_rs, lookF, nodupB, depth, upd, ordIds_int, ordRen_int, ordIds_app, ordRen_app, ordIds_app2, ordRen_app2, appW, -List.map_replicate, -List.map_set, -List.map_append, -List.map_reverse, -List.map_take, -List.map_drop, -List.map_tail, -List.map_map, pinH])
      · simp [go_sem, -List.map_replicate, -List.map_set, -List.map_append, -List.map_reverse, -List.map_take, -List.map_drop, -List.map_tail, -List.any_map, -List.all_map, -List.mapM_map, -List.map_map, slL, szI, ldI, zI, undL, apL, setI, rdI_get, Nat.add_one_le_iff, fillV, zeros1, zeros0, appendD, segV, lvO, goneOf, sliceD, bound, Nat.add_assoc, hk0, w1, h2, strOp, slStrD, ldStrD, undStrSD, zStrD, szStrD, zerosSD3, fillV, List.replicate, e1, e2, e3, e4, e5, e6, z1, z2, z3, hc]
        repeat refine ⟨by kernel_rfl, by kernel_rfl, ?_⟩
        refine next (s2, i1, t1 ++ ⟨#[76]⟩, k) _ ⟨by simp only; omega, by simp only [size_push, z2]; omega, by simp only; omega, by simp only; omega⟩ (by simp) rfl ?_
        (refine canon_mkP ?_; simp [ordOf, dedupA, idsF, inside, renV, renI, renC, renO, posN, noId, mkSt_fr, mkSt_H, mkSt_nx, mkSt_rs, lookF, nodupB, depth, upd, ordIds_int, ordRen_int, ordIds_app, ordRen_app, ordIds_app2, ordRen_app2, appW, -List.map_replicate, -List.map_set, -List.map_append, -List.map_reverse, -List.map_take, -List.map_drop, -List.map_tail, -List.map_map, pinH])
      · by_cases c1 : 0 < i1
        · simp [go_sem, -List.map_replicate, -List.map_set, -List.map_append, -List.map_reverse, -List.map_take, -List.map_drop, -List.map_tail, -List.any_map, -List.all_map, -List.mapM_map, -List.map_map, slL, szI, ldI, zI, undL, apL, setI, rdI_get, Nat.add_one_le_iff, fillV, zeros1, zeros0, appendD, segV, lvO, goneOf, sliceD, bound, Nat.add_assoc, hk0, w1, w3, h2, c1, strOp, slStrD, ldStrD, undStrSD, zStrD, szStrD, zerosSD3, fillV, List.replicate, e1, e2, e3, e4, e5, e6, z1, z2, z3, hc]
          repeat refine ⟨by kernel_rfl, by kernel_rfl, ?_⟩
          refine next (s2, i1 - 1, t1 ++ ⟨#[68]⟩, k) _ ⟨by simp only; omega, by simp only [size_push, z3]; omega, by simp only; omega, by simp only; omega⟩ (by simp) rfl ?_
          (refine canon_mkP ?_; simp [ordOf, dedupA, idsF, inside, renV, renI, renC, renO, posN, noId, mkSt_fr, mkSt_H, mkSt_nx, mkSt_rs, lookF, nodupB, depth, upd, ordIds_int, ordRen_int, ordIds_app, ordRen_app, ordIds_app2, ordRen_app2, appW, -List.map_replicate, -List.map_set, -List.map_append, -List.map_reverse, -List.map_take, -List.map_drop, -List.map_tail, -List.map_map, pinH])
        · by_cases c2 : 0 < y
          · simp [go_sem, -List.map_replicate, -List.map_set, -List.map_append, -List.map_reverse, -List.map_take, -List.map_drop, -List.map_tail, -List.any_map, -List.all_map, -List.mapM_map, -List.map_map, slL, szI, ldI, zI, undL, apL, setI, rdI_get, Nat.add_one_le_iff, fillV, zeros1, zeros0, appendD, segV, lvO, goneOf, sliceD, bound, Nat.add_assoc, hk0, w1, w2, h2, h3, c1, c2, strOp, slStrD, ldStrD, undStrSD, zStrD, szStrD, zerosSD3, fillV, List.replicate, e1, e2, e3, e4, e5, e6, z1, z2, z3, hc]
            repeat refine ⟨by kernel_rfl, by kernel_rfl, ?_⟩
            refine next (s3, i1, t1 ++ ⟨#[76]⟩, k) _ ⟨by simp only; omega, by simp only [size_push, z2]; omega, by simp only; omega, by simp only; omega⟩ (by simp) rfl ?_
            (refine canon_mkP ?_; simp [ordOf, dedupA, idsF, inside, renV, renI, renC, renO, posN, noId, mkSt_fr, mkSt_H, mkSt_nx, mkSt_rs, lookF, nodupB, depth, upd, ordIds_int, ordRen_int, ordIds_app, ordRen_app, ordIds_app2, ordRen_app2, appW, -List.map_replicate, -List.map_set, -List.map_append, -List.map_reverse, -List.map_take, -List.map_drop, -List.map_tail, -List.map_map, pinH])
          · simp [go_sem, -List.map_replicate, -List.map_set, -List.map_append, -List.map_reverse, -List.map_take, -List.map_drop, -List.map_tail, -List.any_map, -List.all_map, -List.mapM_map, -List.map_map, slL, szI, ldI, zI, undL, apL, setI, rdI_get, Nat.add_one_le_iff, fillV, zeros1, zeros0, appendD, segV, lvO, goneOf, sliceD, bound, Nat.add_assoc, hk0, w1, w2, h2, h3, c1, c2, strOp, slStrD, ldStrD, undStrSD, zStrD, szStrD, zerosSD3, fillV, List.replicate, e1, e2, e3, e4, e5, e6, z1, z2, z3, hc]
            repeat refine ⟨by kernel_rfl, by kernel_rfl, ?_⟩
            refine next (s3, i1, t1 ++ ⟨#[68]⟩, k) _ ⟨by simp only; omega, by simp only [size_push, z3]; omega, by simp only; omega, by simp only; omega⟩ (by simp) rfl ?_
            (refine canon_mkP ?_; simp [ordOf, dedupA, idsF, inside, renV, renI, renC, renO, posN, noId, mkSt_fr, mkSt_H, mkSt_nx, mkSt_rs, lookF, nodupB, depth, upd, ordIds_int, ordRen_int, ordIds_app, ordRen_app, ordIds_app2, ordRen_app2, appW, -List.map_replicate, -List.map_set, -List.map_append, -List.map_reverse, -List.map_take, -List.map_drop, -List.map_tail, -List.map_map, pinH])
  · exact ⟨Nat.le_refl _, by simp, hi.1, by show i + (n : Int) ≤ 1000 + n; omega⟩
  · (refine canon_mkP ?_; simp [ordOf, dedupA, idsF, inside, renV, renI, renC, renO, posN, noId, mkSt_fr, mkSt_H, mkSt_nx, mkSt_rs, lookF, nodupB, depth, upd, ordIds_int, ordRen_int, ordIds_app, ordRen_app, ordIds_app2, ordRen_app2, appW, -List.map_replicate, -List.map_set, -List.map_append, -List.map_reverse, -List.map_take, -List.map_drop, -List.map_tail, -List.map_map, pinH])
    rfl
theorem run_DrawReversePath (code : List Int) (hb : ∀ z, z ∈ code → 0 ≤ z ∧ z ≤ 255) (hl : code.length ≤ 4096) : ∃ (t : ByteArray) (i : Int), t.size ≤ 2000 ∧
    runv E1 42 [.list code.length (code.map (V.int .u8))] = some ⟨true, .tup [.str t, (V.int .i64 (i))], [.undef]⟩ := by
  obtain ⟨s, h0⟩ := run_l01From code hb hl
  obtain ⟨s1, m, hm, h1⟩ := run_l01Pick s [2, 24] (by simp) (by simp)
  simp only [List.mem_cons, List.not_mem_nil, or_false] at hm
  obtain ⟨s2, i, _, h2⟩ := run_l01Near s1 m (by omega)
  obtain ⟨s3, q, hq, h3⟩ := run_l01Pick s2 [4, 10, 25] (by simp) (by simp)
  simp only [List.mem_cons, List.not_mem_nil, or_false] at hq
  obtain ⟨s4, t, ht, h4⟩ := run_l09DrawPath s3 (mnI (mxI i 0) 24) q 100 (by unfold mnI mxI; (repeat' split) <;> omega) (by omega) (by omega)
  simp only [List.map_cons, List.map_nil, List.length_cons, List.length_nil, Nat.reduceAdd] at h1 h3
  refine ⟨t, i, ht, ?_⟩
  have cdk : codeOk Try.f42.ntmps (Try.f42.body.getD .skip) = true := by kernel_rfl
  refine run_of_WLr (fn := Try.f42) rfl Try.func42 rfl ⟨by simp [Try.ntmps42], by simp [wideA, ints], cdk, by simp [Try.f42]⟩ rfl (by simp [rebOk, noId, adoptT, adoptA, adoptL, adoptC, depth]) ?_
  simp [go_sem, -List.map_replicate, -List.map_set, -List.map_append, -List.map_reverse, -List.map_take, -List.map_drop, -List.map_tail, -List.any_map, -List.all_map, -List.mapM_map, -List.map_map, slL, szI, ldI, zI, undL, apL, setI, rdI_get, Nat.add_one_le_iff, fillV, zeros1, zeros0, appendD, segV, lvO, goneOf, sliceD, bound, Nat.add_assoc, h0, h1, h2, h3, h4, zerosV2, zerosV3, fillV, mmV]
  repeat refine ⟨by kernel_rfl, by kernel_rfl, ?_⟩
  simp [Ends, finish, onlyP, finPtr, anyU, ptrU, ownI, isLR, finFresh, finRead, resV, expN, treeN, eidN, outs, outA, outC, outL, outsI, outAI, outI, outIL, nodupB, depth, normR, normA, normL, normC, noTup, oneV, purN, idsN, upd, E0_P, E1_P, E2_P, mkSt_fr, mkSt_H, mkSt_nx, mkSt_rs, lookF, flatO, disjN, getO, mapM_purN_int, mapM_expN_int, flatMap_idsN_int, flatMap_eidN_int, any_hasU_int, all_treeN_int, mapM_purN_str, mapM_expN_str, flatMap_idsN_str, flatMap_eidN_str, any_hasU_str, all_treeN_str, ctBool, ctInt, ctI64, ctL, take_map_full, -List.map_replicate, -List.map_set, -List.map_append, -List.map_reverse, -List.map_take, -List.map_drop, -List.map_tail, -List.any_map, -List.all_map, -List.mapM_map, -List.map_map, Try.f42, isLR, hasU]
theorem run_DrawHeightsOf (code : List Int) (hb : ∀ z, z ∈ code → 0 ≤ z ∧ z ≤ 255) (hl : code.length ≤ 4096) : ∃ (t : ByteArray) (i : Int), t.size ≤ 2000 ∧
    runv E1 55 [.list code.length (code.map (V.int .u8))] = some ⟨true, .tup [.str t, (V.int .i64 (i))], [.undef]⟩ := by
  obtain ⟨s, h0⟩ := run_l01From code hb hl
  obtain ⟨s1, m, hm, h1⟩ := run_l01Pick s [2, 24] (by simp) (by simp)
  simp only [List.mem_cons, List.not_mem_nil, or_false] at hm
  obtain ⟨s2, i, _, h2⟩ := run_l01Near s1 m (by omega)
  obtain ⟨s3, q, hq, h3⟩ := run_l01Pick s2 [4, 10, 25] (by simp) (by simp)
  simp only [List.mem_cons, List.not_mem_nil, or_false] at hq
  obtain ⟨s4, t, ht, h4⟩ := run_l09DrawPath s3 (mnI (mxI i 0) 24) q 100 (by unfold mnI mxI; (repeat' split) <;> omega) (by omega) (by omega)
  simp only [List.map_cons, List.map_nil, List.length_cons, List.length_nil, Nat.reduceAdd] at h1 h3
  refine ⟨t, i, ht, ?_⟩
  have cdk : codeOk Try.f55.ntmps (Try.f55.body.getD .skip) = true := by kernel_rfl
  refine run_of_WLr (fn := Try.f55) rfl Try.func55 rfl ⟨by simp [Try.ntmps55], by simp [wideA, ints], cdk, by simp [Try.f55]⟩ rfl (by simp [rebOk, noId, adoptT, adoptA, adoptL, adoptC, depth]) ?_
  simp [go_sem, -List.map_replicate, -List.map_set, -List.map_append, -List.map_reverse, -List.map_take, -List.map_drop, -List.map_tail, -List.any_map, -List.all_map, -List.mapM_map, -List.map_map, slL, szI, ldI, zI, undL, apL, setI, rdI_get, Nat.add_one_le_iff, fillV, zeros1, zeros0, appendD, segV, lvO, goneOf, sliceD, bound, Nat.add_assoc, h0, h1, h2, h3, h4, zerosV2, zerosV3, fillV, mmV]
  repeat refine ⟨by kernel_rfl, by kernel_rfl, ?_⟩
  simp [Ends, finish, onlyP, finPtr, anyU, ptrU, ownI, isLR, finFresh, finRead, resV, expN, treeN, eidN, outs, outA, outC, outL, outsI, outAI, outI, outIL, nodupB, depth, normR, normA, normL, normC, noTup, oneV, purN, idsN, upd, E0_P, E1_P, E2_P, mkSt_fr, mkSt_H, mkSt_nx, mkSt_rs, lookF, flatO, disjN, getO, mapM_purN_int, mapM_expN_int, flatMap_idsN_int, flatMap_eidN_int, any_hasU_int, all_treeN_int, mapM_purN_str, mapM_expN_str, flatMap_idsN_str, flatMap_eidN_str, any_hasU_str, all_treeN_str, ctBool, ctInt, ctI64, ctL, take_map_full, -List.map_replicate, -List.map_set, -List.map_append, -List.map_reverse, -List.map_take, -List.map_drop, -List.map_tail, -List.any_map, -List.all_map, -List.mapM_map, -List.map_map, Try.f55, isLR, hasU]
end Go.Proofs.Ytabnganndcmcnaa.Ev
