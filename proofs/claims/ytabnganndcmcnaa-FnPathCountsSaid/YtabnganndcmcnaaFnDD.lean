/- Draws of lists and of Jacobi data. Conditions: none. -/
import Derived.Test.YtabnganndcmcnaaFnDC
import Derived.Test.YtabnganndcmcnaaFnBB
set_option linter.unusedSimpArgs false
set_option linter.unusedVariables false
namespace Go.Proofs.Ytabnganndcmcnaa.Ev
open Go Go.Proofs
set_option maxRecDepth 4000
set_option maxHeartbeats 4000000

theorem run_l01DrawPrime (s : Src) : ∃ (s' : Src) (p : Int), (2 ≤ p ∧ p ≤ 10007) ∧
    runv E1 204 [(V.uptr [V.list (s).code.length ((s).code.map (V.int .u8)), V.int .i64 (s).i, V.int .u64 (s).h])] = some ⟨true, (V.int .i64 (p)), [(V.uptr [V.list (s').code.length ((s').code.map (V.int .u8)), V.int .i64 (s').i, V.int .u64 (s').h])]⟩ := by
  obtain ⟨s1, p, hp, h1⟩ := run_l01Pick s [2, 3, 5, 7, 7, 11, 13, 17, 31, 101, 997, 10007] (by simp) (by simp)
  simp only [List.mem_cons, List.not_mem_nil, or_false] at hp
  simp only [List.map_cons, List.map_nil, List.length_cons, List.length_nil, Nat.reduceAdd] at h1
  refine ⟨s1, p, by omega, ?_⟩
  have cdk : codeOk Try.f204.ntmps (Try.f204.body.getD .skip) = true := by kernel_rfl
  refine run_of_WLp (fn := Try.f204) rfl Try.func204 rfl ⟨by simp [Try.ntmps204], by simp [wideA, ints], cdk, by simp [Try.f204]⟩ rfl (by simp [rebOk, noId, adoptT, adoptA, adoptL, adoptC, depth]) (by simp [pinned, adoptT, adoptA, adoptL, adoptC]) ?_
  simp [go_sem, -List.map_replicate, -List.map_set, -List.map_append, -List.map_reverse, -List.map_take, -List.map_drop, -List.map_tail, -List.any_map, -List.all_map, -List.mapM_map, -List.map_map, slL, szI, ldI, zI, undL, apL, setI, rdI_get, Nat.add_one_le_iff, fillV, zeros1, zeros0, appendD, segV, lvO, goneOf, sliceD, bound, Nat.add_assoc, h1, zerosV12, fillV, List.replicate]
  repeat refine ⟨by kernel_rfl, by kernel_rfl, ?_⟩
  simp [Ends, finish, onlyP, finPtr, anyU, ptrU, ownI, isLR, finFresh, finRead, resV, expN, treeN, eidN, outs, outA, outC, outL, outsI, outAI, outI, outIL, nodupB, depth, normR, normA, normL, normC, noTup, oneV, purN, idsN, upd, E0_P, E1_P, E2_P, mkSt_fr, mkSt_H, mkSt_nx, mkSt_rs, lookF, flatO, disjN, getO, mapM_purN_int, mapM_expN_int, flatMap_idsN_int, flatMap_eidN_int, any_hasU_int, all_treeN_int, mapM_purN_str, mapM_expN_str, flatMap_idsN_str, flatMap_eidN_str, any_hasU_str, all_treeN_str, ctBool, ctInt, ctI64, ctL, take_map_full, -List.map_replicate, -List.map_set, -List.map_append, -List.map_reverse, -List.map_take, -List.map_drop, -List.map_tail, -List.any_map, -List.all_map, -List.mapM_map, -List.map_map, Try.f204, isLR, hasU]
theorem run_l01DrawList (s : Src) (p n : Int) (hn : n ≤ 1000) : ∃ (s' : Src) (l : List Int), l.length = n.toNat ∧
    runv E1 206 [(V.uptr [V.list (s).code.length ((s).code.map (V.int .u8)), V.int .i64 (s).i, V.int .u64 (s).h]), (V.int .i64 (p)), (V.int .i64 (n))] = some ⟨true, (V.uniq 1 (List.length (l)) (List.map (V.int .i64) (l))), [(V.uptr [V.list (s').code.length ((s').code.map (V.int .u8)), V.int .i64 (s').i, V.int .u64 (s').h]), .undef, .undef]⟩ := by
  suffices h : ∃ r, runv E1 206 [(V.uptr [V.list (s).code.length ((s).code.map (V.int .u8)), V.int .i64 (s).i, V.int .u64 (s).h]), (V.int .i64 (p)), (V.int .i64 (n))] = some r ∧ ∃ (s' : Src) (l : List Int), l.length = n.toNat ∧ r = ⟨true, (V.uniq 1 (List.length (l)) (List.map (V.int .i64) (l))), [(V.uptr [V.list (s').code.length ((s').code.map (V.int .u8)), V.int .i64 (s').i, V.int .u64 (s').h]), .undef, .undef]⟩ by
    obtain ⟨r, h, s', t, ht, rfl⟩ := h
    exact ⟨s', t, ht, h⟩
  obtain ⟨s0, cm, _, _, h0⟩ := run_l01Next s 3
  have cdk : codeOk Try.f206.ntmps (Try.f206.body.getD .skip) = true := by kernel_rfl
  refine run_of_WLpQ (fn := Try.f206) rfl Try.func206 rfl ⟨by simp [Try.ntmps206], by simp [wideA, ints], cdk, by simp [Try.f206]⟩ rfl (by simp [rebOk, noId, adoptT, adoptA, adoptL, adoptC, depth]) (by simp [pinned, adoptT, adoptA, adoptL, adoptC]) ?_
  simp [go_sem, -List.map_replicate, -List.map_set, -List.map_append, -List.map_reverse, -List.map_take, -List.map_drop, -List.map_tail, -List.any_map, -List.all_map, -List.mapM_map, -List.map_map, slL, szI, ldI, zI, undL, apL, setI, rdI_get, Nat.add_one_le_iff, fillV, zeros1, zeros0, appendD, segV, lvO, goneOf, sliceD, bound, Nat.add_assoc, h0, zeros0]
  rw [WL_loop]
  refine WL_forX (keep := [0, 1, 2, 7, 8]) (rs := resM Try.f206 ||| 1) rfl (by kernel_rfl) (α := Src × List Int × Int) (fun x => if x.2.1 = [] then mkSt [(0, .ptr 0 0 0), (1, .int .i64 p), (2, .int .i64 x.2.2), (7, .nils), (8, .int .i64 cm)] [some (⟨0, 1, 1, [V.list (x.1).code.length ((x.1).code.map (V.int .u8)), V.int .i64 (x.1).i, V.int .u64 (x.1).h]⟩)] (resM Try.f206 ||| 1) else mkSt [(0, .ptr 0 0 0), (1, .int .i64 p), (2, .int .i64 x.2.2), (7, .sl 1 0 0 x.2.1.length), (8, .int .i64 cm)] [some (⟨0, 1, 1, [V.list (x.1).code.length ((x.1).code.map (V.int .u8)), V.int .i64 (x.1).i, V.int .u64 (x.1).h]⟩), some (⟨0, 2, 1, x.2.1.map (V.int .i64)⟩)] (resM Try.f206 ||| 1)) (fun x => x.2.1.length + x.2.2.toNat = n.toNat ∧ (x.2.1.length ≤ 1000 ∧ x.2.2 ≤ 1000)) (fun x => x.2.2.toNat) ?_ (s0, [], n) _ ?_ rfl ?_
  · rintro ⟨s1, l, m⟩ ⟨q1, q2⟩ next
    simp only at q1 q2 next ⊢
    by_cases m0 : 0 < m
    · have w1 : IntKind.i64.wrap (m - 1) = m - 1 := IntWalk.i64_in _ (by omega)
      have c3 : (l.length + 1) * 8 ≤ 140737488355328 := by omega
      have fin : ∀ (s' : Src) (x : Int) (st' : St), st'.rs = resM Try.f206 ||| 1 → canon [0, 1, 2, 7, 8] st' = mkSt [(0, .ptr 0 0 0), (1, .int .i64 p), (2, .int .i64 (m - 1)), (7, .sl 1 0 0 (l.length + 1)), (8, .int .i64 cm)] [some (⟨0, 1, 1, [V.list (s').code.length ((s').code.map (V.int .u8)), V.int .i64 (s').i, V.int .u64 (s').h]⟩), some (⟨0, 2, 1, (l ++ [x]).map (V.int .i64)⟩)] (resM Try.f206 ||| 1) → _ := fun s' x st' a b => next (s', l ++ [x], m - 1) st' ⟨by simp only [List.length_append, List.length_singleton]; omega, by simp only [List.length_append, List.length_singleton]; omega⟩ (by simp only; omega) a (by
        rw [b]; simp only; rw [if_neg (by simp)]; simp)
      rcases l with _ | ⟨a, l⟩
      · simp only [List.length_nil, List.nil_append, List.length_cons, reduceCtorEq, if_true, if_false, Nat.zero_add, List.cons_append] at *
        by_cases c0 : cm = 0
        · subst c0
          obtain ⟨s3, x, _, _, h3⟩ := run_l01Next s1 p
          simp [go_sem, -List.map_replicate, -List.map_set, -List.map_append, -List.map_reverse, -List.map_take, -List.map_drop, -List.map_tail, -List.any_map, -List.all_map, -List.mapM_map, -List.map_map, slL, szI, ldI, zI, undL, apL, setI, rdI_get, Nat.add_one_le_iff, fillV, zeros1, zeros0, appendD, segV, lvO, goneOf, sliceD, bound, Nat.add_assoc, m0, w1, c3, h3, zeros1, fillV]
          repeat refine ⟨by kernel_rfl, by kernel_rfl, ?_⟩
          refine fin s3 x _ rfl ?_
          (refine canon_mkP ?_; simp [ordOf, dedupA, idsF, inside, renV, renI, renC, renO, posN, noId, mkSt_fr, mkSt_H, mkSt_nx, mkSt_rs, lookF, nodupB, depth, upd, ordIds_int, ordRen_int, ordIds_app, ordRen_app, ordIds_app2, ordRen_app2, appW, -List.map_replicate, -List.map_set, -List.map_append, -List.map_reverse, -List.map_take, -List.map_drop, -List.map_tail, -List.map_map, pinH])
        · obtain ⟨s2, y, _, _, h2⟩ := run_l01Next s1 3
          by_cases y0 : 0 < y
          · obtain ⟨s3, x, _, _, h3⟩ := run_l01Next s2 p
            simp [go_sem, -List.map_replicate, -List.map_set, -List.map_append, -List.map_reverse, -List.map_take, -List.map_drop, -List.map_tail, -List.any_map, -List.all_map, -List.mapM_map, -List.map_map, slL, szI, ldI, zI, undL, apL, setI, rdI_get, Nat.add_one_le_iff, fillV, zeros1, zeros0, appendD, segV, lvO, goneOf, sliceD, bound, Nat.add_assoc, m0, w1, c3, c0, y0, h2, h3, zeros1, fillV]
            repeat refine ⟨by kernel_rfl, by kernel_rfl, ?_⟩
            refine fin s3 x _ rfl ?_
            (refine canon_mkP ?_; simp [ordOf, dedupA, idsF, inside, renV, renI, renC, renO, posN, noId, mkSt_fr, mkSt_H, mkSt_nx, mkSt_rs, lookF, nodupB, depth, upd, ordIds_int, ordRen_int, ordIds_app, ordRen_app, ordIds_app2, ordRen_app2, appW, -List.map_replicate, -List.map_set, -List.map_append, -List.map_reverse, -List.map_take, -List.map_drop, -List.map_tail, -List.map_map, pinH])
          · simp [go_sem, -List.map_replicate, -List.map_set, -List.map_append, -List.map_reverse, -List.map_take, -List.map_drop, -List.map_tail, -List.any_map, -List.all_map, -List.mapM_map, -List.map_map, slL, szI, ldI, zI, undL, apL, setI, rdI_get, Nat.add_one_le_iff, fillV, zeros1, zeros0, appendD, segV, lvO, goneOf, sliceD, bound, Nat.add_assoc, m0, w1, c3, c0, y0, h2, zeros1, fillV]
            repeat refine ⟨by kernel_rfl, by kernel_rfl, ?_⟩
            refine fin s2 0 _ rfl ?_
            (refine canon_mkP ?_; simp [ordOf, dedupA, idsF, inside, renV, renI, renC, renO, posN, noId, mkSt_fr, mkSt_H, mkSt_nx, mkSt_rs, lookF, nodupB, depth, upd, ordIds_int, ordRen_int, ordIds_app, ordRen_app, ordIds_app2, ordRen_app2, appW, -List.map_replicate, -List.map_set, -List.map_append, -List.map_reverse, -List.map_take, -List.map_drop, -List.map_tail, -List.map_map, pinH])
      · simp only [List.length_nil, List.nil_append, List.length_cons, reduceCtorEq, if_true, if_false, Nat.zero_add, List.cons_append] at *
        by_cases c0 : cm = 0
        · subst c0
          obtain ⟨s3, x, _, _, h3⟩ := run_l01Next s1 p
          simp [go_sem, -List.map_replicate, -List.map_set, -List.map_append, -List.map_reverse, -List.map_take, -List.map_drop, -List.map_tail, -List.any_map, -List.all_map, -List.mapM_map, -List.map_map, slL, szI, ldI, zI, undL, apL, setI, rdI_get, Nat.add_one_le_iff, fillV, zeros1, zeros0, appendD, segV, lvO, goneOf, sliceD, bound, Nat.add_assoc, m0, w1, c3, h3, zeros1, fillV]
          repeat refine ⟨by kernel_rfl, by kernel_rfl, ?_⟩
          refine fin s3 x _ rfl ?_
          (refine canon_mkP ?_; simp [ordOf, dedupA, idsF, inside, renV, renI, renC, renO, posN, noId, mkSt_fr, mkSt_H, mkSt_nx, mkSt_rs, lookF, nodupB, depth, upd, ordIds_int, ordRen_int, ordIds_app, ordRen_app, ordIds_app2, ordRen_app2, appW, -List.map_replicate, -List.map_set, -List.map_append, -List.map_reverse, -List.map_take, -List.map_drop, -List.map_tail, -List.map_map, pinH])
        · obtain ⟨s2, y, _, _, h2⟩ := run_l01Next s1 3
          by_cases y0 : 0 < y
          · obtain ⟨s3, x, _, _, h3⟩ := run_l01Next s2 p
            simp [go_sem, -List.map_replicate, -List.map_set, -List.map_append, -List.map_reverse, -List.map_take, -List.map_drop, -List.map_tail, -List.any_map, -List.all_map, -List.mapM_map, -List.map_map, slL, szI, ldI, zI, undL, apL, setI, rdI_get, Nat.add_one_le_iff, fillV, zeros1, zeros0, appendD, segV, lvO, goneOf, sliceD, bound, Nat.add_assoc, m0, w1, c3, c0, y0, h2, h3, zeros1, fillV]
            repeat refine ⟨by kernel_rfl, by kernel_rfl, ?_⟩
            refine fin s3 x _ rfl ?_
            (refine canon_mkP ?_; simp [ordOf, dedupA, idsF, inside, renV, renI, renC, renO, posN, noId, mkSt_fr, mkSt_H, mkSt_nx, mkSt_rs, lookF, nodupB, depth, upd, ordIds_int, ordRen_int, ordIds_app, ordRen_app, ordIds_app2, ordRen_app2, appW, -List.map_replicate, -List.map_set, -List.map_append, -List.map_reverse, -List.map_take, -List.map_drop, -List.map_tail, -List.map_map, pinH])
          · simp [go_sem, -List.map_replicate, -List.map_set, -List.map_append, -List.map_reverse, -List.map_take, -List.map_drop, -List.map_tail, -List.any_map, -List.all_map, -List.mapM_map, -List.map_map, slL, szI, ldI, zI, undL, apL, setI, rdI_get, Nat.add_one_le_iff, fillV, zeros1, zeros0, appendD, segV, lvO, goneOf, sliceD, bound, Nat.add_assoc, m0, w1, c3, c0, y0, h2, zeros1, fillV]
            repeat refine ⟨by kernel_rfl, by kernel_rfl, ?_⟩
            refine fin s2 0 _ rfl ?_
            (refine canon_mkP ?_; simp [ordOf, dedupA, idsF, inside, renV, renI, renC, renO, posN, noId, mkSt_fr, mkSt_H, mkSt_nx, mkSt_rs, lookF, nodupB, depth, upd, ordIds_int, ordRen_int, ordIds_app, ordRen_app, ordIds_app2, ordRen_app2, appW, -List.map_replicate, -List.map_set, -List.map_append, -List.map_reverse, -List.map_take, -List.map_drop, -List.map_tail, -List.map_map, pinH])
    · have hl : l.length = n.toNat := by omega
      rcases l with _ | ⟨a, l⟩
      · simp only [if_true] at *
        simp [go_sem, -List.map_replicate, -List.map_set, -List.map_append, -List.map_reverse, -List.map_take, -List.map_drop, -List.map_tail, -List.any_map, -List.all_map, -List.mapM_map, -List.map_map, slL, szI, ldI, zI, undL, apL, setI, rdI_get, Nat.add_one_le_iff, fillV, zeros1, zeros0, appendD, segV, lvO, goneOf, sliceD, bound, Nat.add_assoc, m0]
        refine ⟨_, ?_, s1, [], hl, rfl⟩
        simp [Ends, finish, onlyP, finPtr, anyU, ptrU, ownI, isLR, finFresh, finRead, resV, expN, treeN, eidN, outs, outA, outC, outL, outsI, outAI, outI, outIL, nodupB, depth, normR, normA, normL, normC, noTup, oneV, purN, idsN, upd, E0_P, E1_P, E2_P, mkSt_fr, mkSt_H, mkSt_nx, mkSt_rs, lookF, flatO, disjN, getO, mapM_purN_int, mapM_expN_int, flatMap_idsN_int, flatMap_eidN_int, any_hasU_int, all_treeN_int, mapM_purN_str, mapM_expN_str, flatMap_idsN_str, flatMap_eidN_str, any_hasU_str, all_treeN_str, ctBool, ctInt, ctI64, ctL, take_map_full, -List.map_replicate, -List.map_set, -List.map_append, -List.map_reverse, -List.map_take, -List.map_drop, -List.map_tail, -List.any_map, -List.all_map, -List.mapM_map, -List.map_map, Try.f206, isLR, hasU, ctL]
      · simp only [reduceCtorEq, if_false] at *
        simp [go_sem, -List.map_replicate, -List.map_set, -List.map_append, -List.map_reverse, -List.map_take, -List.map_drop, -List.map_tail, -List.any_map, -List.all_map, -List.mapM_map, -List.map_map, slL, szI, ldI, zI, undL, apL, setI, rdI_get, Nat.add_one_le_iff, fillV, zeros1, zeros0, appendD, segV, lvO, goneOf, sliceD, bound, Nat.add_assoc, m0]
        refine ⟨_, ?_, s1, a :: l, hl, rfl⟩
        simp [Ends, finish, onlyP, finPtr, anyU, ptrU, ownI, isLR, finFresh, finRead, resV, expN, treeN, eidN, outs, outA, outC, outL, outsI, outAI, outI, outIL, nodupB, depth, normR, normA, normL, normC, noTup, oneV, purN, idsN, upd, E0_P, E1_P, E2_P, mkSt_fr, mkSt_H, mkSt_nx, mkSt_rs, lookF, flatO, disjN, getO, mapM_purN_int, mapM_expN_int, flatMap_idsN_int, flatMap_eidN_int, any_hasU_int, all_treeN_int, mapM_purN_str, mapM_expN_str, flatMap_idsN_str, flatMap_eidN_str, any_hasU_str, all_treeN_str, ctBool, ctInt, ctI64, ctL, take_map_full, -List.map_replicate, -List.map_set, -List.map_append, -List.map_reverse, -List.map_take, -List.map_drop, -List.map_tail, -List.any_map, -List.all_map, -List.mapM_map, -List.map_map, Try.f206, isLR, hasU, ctL]
  · exact ⟨by simp, by simp, hn⟩
  · rw [if_pos rfl]
    (refine canon_mkP ?_; simp [ordOf, dedupA, idsF, inside, renV, renI, renC, renO, posN, noId, mkSt_fr, mkSt_H, mkSt_nx, mkSt_rs, lookF, nodupB, depth, upd, ordIds_int, ordRen_int, ordIds_app, ordRen_app, ordIds_app2, ordRen_app2, appW, -List.map_replicate, -List.map_set, -List.map_append, -List.map_reverse, -List.map_take, -List.map_drop, -List.map_tail, -List.map_map, pinH])
end Go.Proofs.Ytabnganndcmcnaa.Ev
