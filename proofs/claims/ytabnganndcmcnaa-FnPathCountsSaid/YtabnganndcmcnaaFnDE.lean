/- Draws of Jacobi data. Conditions: none. -/
import Derived.Test.YtabnganndcmcnaaFnDD
import Derived.Test.YtabnganndcmcnaaFnY
set_option linter.unusedSimpArgs false
set_option linter.unusedVariables false
namespace Go.Proofs.Ytabnganndcmcnaa.Ev
open Go Go.Proofs
set_option maxRecDepth 4000
set_option maxHeartbeats 4000000

theorem run_l03DrawOf (s : Src) (p m : Int) (hp : 2 ≤ p ∧ p ≤ 10007) (hm : 1 ≤ m ∧ m ≤ 12) : ∃ (s' : Src) (a b : List Int), (a.length = b.length ∧ 1 ≤ a.length ∧ a.length ≤ 12) ∧
    runv E1 197 [(V.uptr [V.list (s).code.length ((s).code.map (V.int .u8)), V.int .i64 (s).i, V.int .u64 (s).h]), (V.int .i64 (p)), (V.int .i64 (m))] = some ⟨true, (V.agg [V.int .i64 (p), (V.uniq 1 (List.length (a)) (List.map (V.int .i64) (a))), (V.uniq 1 (List.length (b)) (List.map (V.int .i64) (b)))]), [(V.uptr [V.list (s').code.length ((s').code.map (V.int .u8)), V.int .i64 (s').i, V.int .u64 (s').h]), .undef, .undef]⟩ := by
  suffices h : ∃ r, runv E1 197 [(V.uptr [V.list (s).code.length ((s).code.map (V.int .u8)), V.int .i64 (s).i, V.int .u64 (s).h]), (V.int .i64 (p)), (V.int .i64 (m))] = some r ∧ ∃ (s' : Src) (a b : List Int), (a.length = b.length ∧ 1 ≤ a.length ∧ a.length ≤ 12) ∧ r = ⟨true, (V.agg [V.int .i64 (p), (V.uniq 1 (List.length (a)) (List.map (V.int .i64) (a))), (V.uniq 1 (List.length (b)) (List.map (V.int .i64) (b)))]), [(V.uptr [V.list (s').code.length ((s').code.map (V.int .u8)), V.int .i64 (s').i, V.int .u64 (s').h]), .undef, .undef]⟩ by
    obtain ⟨r, h, s', a, b, ht, rfl⟩ := h
    exact ⟨s', a, b, ht, h⟩
  obtain ⟨s0, n0, _, hn0, h0⟩ := run_l01Next s m
  have hn0 := hn0 (by omega)
  have w0 : IntKind.i64.wrap (1 + n0) = 1 + n0 := IntWalk.i64_in _ (by omega)
  obtain ⟨s1, a, ha, h1⟩ := run_l01DrawList s0 p (1 + n0) (by omega)
  have ha' : (a.length : Int) = 1 + n0 := by omega
  have han : ¬ a = [] := fun h => by rw [h] at ha'; simp at ha'; omega
  have ha12 : a.length ≤ 12 := by omega
  have ha0 : 1 ≤ a.length := by omega
  have cdk : codeOk Try.f197.ntmps (Try.f197.body.getD .skip) = true := by kernel_rfl
  refine run_of_WLpQ (fn := Try.f197) rfl Try.func197 rfl ⟨by simp [Try.ntmps197], by simp [wideA, ints], cdk, by simp [Try.f197]⟩ rfl (by simp [rebOk, noId, adoptT, adoptA, adoptL, adoptC, depth]) (by simp [pinned, adoptT, adoptA, adoptL, adoptC]) ?_
  simp [go_sem, -List.map_replicate, -List.map_set, -List.map_append, -List.map_reverse, -List.map_take, -List.map_drop, -List.map_tail, -List.any_map, -List.all_map, -List.mapM_map, -List.map_map, slL, szI, ldI, zI, undL, apL, setI, rdI_get, Nat.add_one_le_iff, fillV, zeros1, zeros0, appendD, segV, lvO, goneOf, sliceD, bound, Nat.add_assoc, szL, ldL, setCs0, setCs1, setCs2, setCsA2, setCsA3, ldM, fM0, fM1, szM, zM, plM0, plM1, agM, paM, ldJ, fJ0, fJ1, fJ2, szJ, zJ, plJ0, plJ1, plJ2, agJ, paJ, w0, h0, h1, zeros0, fillV]
  rw [WL_loop]
  refine WL_forX (keep := [0, 1, 6, 7, 8]) (rs := resM Try.f197 ||| 1) rfl (by kernel_rfl) (α := Src × List Int × Int) (fun x => if x.2.1 = [] then mkSt [(0, .ptr 0 0 0), (1, .int .i64 p), (6, .ptr 1 0 0), (7, .int .i64 x.2.2), (8, .ptr 2 0 0)] [some (⟨0, 1, 1, [V.list (x.1).code.length ((x.1).code.map (V.int .u8)), V.int .i64 (x.1).i, V.int .u64 (x.1).h]⟩), some (⟨0, 1, 1, [.int .i64 0, .nils, .nils]⟩), some (⟨0, 1, 1, [.int .i64 p, .sl 3 0 0 a.length, .nils]⟩), some (⟨0, 2, 1, a.map (V.int .i64)⟩)] (resM Try.f197 ||| 1) else mkSt [(0, .ptr 0 0 0), (1, .int .i64 p), (6, .ptr 1 0 0), (7, .int .i64 x.2.2), (8, .ptr 2 0 0)] [some (⟨0, 1, 1, [V.list (x.1).code.length ((x.1).code.map (V.int .u8)), V.int .i64 (x.1).i, V.int .u64 (x.1).h]⟩), some (⟨0, 1, 1, [.int .i64 0, .nils, .nils]⟩), some (⟨0, 1, 1, [.int .i64 p, .sl 3 0 0 a.length, .sl 4 0 0 x.2.1.length]⟩), some (⟨0, 2, 1, a.map (V.int .i64)⟩), some (⟨0, 2, 1, x.2.1.map (V.int .i64)⟩)] (resM Try.f197 ||| 1)) (fun x => (x.2.1.length : Int) + x.2.2 = a.length ∧ 0 ≤ x.2.2) (fun x => x.2.2.toNat) ?_ (s1, [], 1 + n0) _ ?_ rfl ?_
  · rintro ⟨s1, l, k⟩ ⟨q1, q2⟩ next
    simp only at q1 q2 next ⊢
    by_cases m0 : 0 < k
    · have w1 : IntKind.i64.wrap (k - 1) = k - 1 := IntWalk.i64_in _ (by omega)
      have w2 : IntKind.i64.wrap (p - 1) = p - 1 := IntWalk.i64_in _ (by omega)
      have c3 : (l.length + 1) * 8 ≤ 140737488355328 := by omega
      have fin : ∀ (s' : Src) (x : Int) (st' : St), st'.rs = resM Try.f197 ||| 1 → canon [0, 1, 6, 7, 8] st' = mkSt [(0, .ptr 0 0 0), (1, .int .i64 p), (6, .ptr 1 0 0), (7, .int .i64 (k - 1)), (8, .ptr 2 0 0)] [some (⟨0, 1, 1, [V.list (s').code.length ((s').code.map (V.int .u8)), V.int .i64 (s').i, V.int .u64 (s').h]⟩), some (⟨0, 1, 1, [.int .i64 0, .nils, .nils]⟩), some (⟨0, 1, 1, [.int .i64 p, .sl 3 0 0 a.length, .sl 4 0 0 (l.length + 1)]⟩), some (⟨0, 2, 1, a.map (V.int .i64)⟩), some (⟨0, 2, 1, (l ++ [x]).map (V.int .i64)⟩)] (resM Try.f197 ||| 1) → _ := fun s' x st' a b => next (s', l ++ [x], k - 1) st' ⟨by simp only [List.length_append, List.length_singleton]; omega, by simp only; omega⟩ (by simp only; omega) a (by
        rw [b]; simp only; rw [if_neg (by simp)]; simp)
      obtain ⟨s3, x, _, hx, h3⟩ := run_l01Next s1 (p - 1)
      have hx := hx (by omega)
      have w3 : IntKind.i64.wrap (1 + x) = 1 + x := IntWalk.i64_in _ (by omega)
      rcases l with _ | ⟨c, l⟩
      · simp only [List.length_nil, List.nil_append, List.length_cons, reduceCtorEq, if_true, if_false, Nat.zero_add, List.cons_append] at *
        simp [go_sem, -List.map_replicate, -List.map_set, -List.map_append, -List.map_reverse, -List.map_take, -List.map_drop, -List.map_tail, -List.any_map, -List.all_map, -List.mapM_map, -List.map_map, slL, szI, ldI, zI, undL, apL, setI, rdI_get, Nat.add_one_le_iff, fillV, zeros1, zeros0, appendD, segV, lvO, goneOf, sliceD, bound, Nat.add_assoc, szL, ldL, setCs0, setCs1, setCs2, setCsA2, setCsA3, ldM, fM0, fM1, szM, zM, plM0, plM1, agM, paM, ldJ, fJ0, fJ1, fJ2, szJ, zJ, plJ0, plJ1, plJ2, agJ, paJ, m0, w1, w2, w3, c3, h3, zeros1, fillV]
        repeat refine ⟨by kernel_rfl, by kernel_rfl, ?_⟩
        refine fin s3 (1 + x) _ rfl ?_
        (refine canon_mkP ?_; simp [ordOf, dedupA, idsF, inside, renV, renI, renC, renO, posN, noId, mkSt_fr, mkSt_H, mkSt_nx, mkSt_rs, lookF, nodupB, depth, upd, ordIds_int, ordRen_int, ordIds_app, ordRen_app, ordIds_app2, ordRen_app2, appW, -List.map_replicate, -List.map_set, -List.map_append, -List.map_reverse, -List.map_take, -List.map_drop, -List.map_tail, -List.map_map, pinH])
      · simp only [List.length_nil, List.nil_append, List.length_cons, reduceCtorEq, if_true, if_false, Nat.zero_add, List.cons_append] at *
        simp [go_sem, -List.map_replicate, -List.map_set, -List.map_append, -List.map_reverse, -List.map_take, -List.map_drop, -List.map_tail, -List.any_map, -List.all_map, -List.mapM_map, -List.map_map, slL, szI, ldI, zI, undL, apL, setI, rdI_get, Nat.add_one_le_iff, fillV, zeros1, zeros0, appendD, segV, lvO, goneOf, sliceD, bound, Nat.add_assoc, szL, ldL, setCs0, setCs1, setCs2, setCsA2, setCsA3, ldM, fM0, fM1, szM, zM, plM0, plM1, agM, paM, ldJ, fJ0, fJ1, fJ2, szJ, zJ, plJ0, plJ1, plJ2, agJ, paJ, m0, w1, w2, w3, c3, h3, zeros1, fillV]
        repeat refine ⟨by kernel_rfl, by kernel_rfl, ?_⟩
        refine fin s3 (1 + x) _ rfl ?_
        (refine canon_mkP ?_; simp [ordOf, dedupA, idsF, inside, renV, renI, renC, renO, posN, noId, mkSt_fr, mkSt_H, mkSt_nx, mkSt_rs, lookF, nodupB, depth, upd, ordIds_int, ordRen_int, ordIds_app, ordRen_app, ordIds_app2, ordRen_app2, appW, -List.map_replicate, -List.map_set, -List.map_append, -List.map_reverse, -List.map_take, -List.map_drop, -List.map_tail, -List.map_map, pinH])
    · have hk : k = 0 := by omega
      subst hk
      have hl : l.length = a.length := by omega
      obtain ⟨s2, y, _, _, h2⟩ := run_l01Next s1 6
      rcases l with _ | ⟨c, l⟩
      · exfalso; simp at hl; omega
      · simp only [reduceCtorEq, if_false] at *
        by_cases y0 : y = 0
        · have c4 : a.length * 8 ≤ 140737488355328 := by omega
          have c5 : (a.length : Int) ≤ 9223372036854775807 := by omega
          have c6 : (0 : Int) ≤ (a.length : Int) := by omega
          subst y0
          simp [go_sem, -List.map_replicate, -List.map_set, -List.map_append, -List.map_reverse, -List.map_take, -List.map_drop, -List.map_tail, -List.any_map, -List.all_map, -List.mapM_map, -List.map_map, slL, szI, ldI, zI, undL, apL, setI, rdI_get, Nat.add_one_le_iff, fillV, zeros1, zeros0, appendD, segV, lvO, goneOf, sliceD, bound, Nat.add_assoc, szL, ldL, setCs0, setCs1, setCs2, setCsA2, setCsA3, ldM, fM0, fM1, szM, zM, plM0, plM1, agM, paM, ldJ, fJ0, fJ1, fJ2, szJ, zJ, plJ0, plJ1, plJ2, agJ, paJ, h2, c4, c5, c6, zerosI]
          repeat refine ⟨by kernel_rfl, by kernel_rfl, ?_⟩
          refine ⟨_, ?_, s2, List.replicate a.length 0, c :: l, ⟨by simp only [List.length_replicate]; omega, by simp only [List.length_replicate]; omega, by simp only [List.length_replicate]; omega⟩, rfl⟩
          simp [Ends, finish, onlyP, finPtr, anyU, ptrU, ownI, isLR, finFresh, finRead, resV, expN, treeN, eidN, outs, outA, outC, outL, outsI, outAI, outI, outIL, nodupB, depth, normR, normA, normL, normC, noTup, oneV, purN, idsN, upd, E0_P, E1_P, E2_P, mkSt_fr, mkSt_H, mkSt_nx, mkSt_rs, lookF, flatO, disjN, getO, mapM_purN_int, mapM_expN_int, flatMap_idsN_int, flatMap_eidN_int, any_hasU_int, all_treeN_int, mapM_purN_str, mapM_expN_str, flatMap_idsN_str, flatMap_eidN_str, any_hasU_str, all_treeN_str, ctBool, ctInt, ctI64, ctL, take_map_full, -List.map_replicate, -List.map_set, -List.map_append, -List.map_reverse, -List.map_take, -List.map_drop, -List.map_tail, -List.any_map, -List.all_map, -List.mapM_map, -List.map_map, Try.f197, szL, ldL, setCs0, setCs1, setCs2, setCsA2, setCsA3, ldM, fM0, fM1, szM, zM, plM0, plM1, agM, paM, ldJ, fJ0, fJ1, fJ2, szJ, zJ, plJ0, plJ1, plJ2, agJ, paJ, ctJ, loadD, viewN, isLR, hasU]
        · simp [go_sem, -List.map_replicate, -List.map_set, -List.map_append, -List.map_reverse, -List.map_take, -List.map_drop, -List.map_tail, -List.any_map, -List.all_map, -List.mapM_map, -List.map_map, slL, szI, ldI, zI, undL, apL, setI, rdI_get, Nat.add_one_le_iff, fillV, zeros1, zeros0, appendD, segV, lvO, goneOf, sliceD, bound, Nat.add_assoc, szL, ldL, setCs0, setCs1, setCs2, setCsA2, setCsA3, ldM, fM0, fM1, szM, zM, plM0, plM1, agM, paM, ldJ, fJ0, fJ1, fJ2, szJ, zJ, plJ0, plJ1, plJ2, agJ, paJ, h2, y0]
          repeat refine ⟨by kernel_rfl, by kernel_rfl, ?_⟩
          refine ⟨_, ?_, s2, a, c :: l, ⟨by omega, ha0, ha12⟩, rfl⟩
          simp [Ends, finish, onlyP, finPtr, anyU, ptrU, ownI, isLR, finFresh, finRead, resV, expN, treeN, eidN, outs, outA, outC, outL, outsI, outAI, outI, outIL, nodupB, depth, normR, normA, normL, normC, noTup, oneV, purN, idsN, upd, E0_P, E1_P, E2_P, mkSt_fr, mkSt_H, mkSt_nx, mkSt_rs, lookF, flatO, disjN, getO, mapM_purN_int, mapM_expN_int, flatMap_idsN_int, flatMap_eidN_int, any_hasU_int, all_treeN_int, mapM_purN_str, mapM_expN_str, flatMap_idsN_str, flatMap_eidN_str, any_hasU_str, all_treeN_str, ctBool, ctInt, ctI64, ctL, take_map_full, -List.map_replicate, -List.map_set, -List.map_append, -List.map_reverse, -List.map_take, -List.map_drop, -List.map_tail, -List.any_map, -List.all_map, -List.mapM_map, -List.map_map, Try.f197, szL, ldL, setCs0, setCs1, setCs2, setCsA2, setCsA3, ldM, fM0, fM1, szM, zM, plM0, plM1, agM, paM, ldJ, fJ0, fJ1, fJ2, szJ, zJ, plJ0, plJ1, plJ2, agJ, paJ, ctJ, loadD, viewN, isLR, hasU]
  · exact ⟨by simp only [List.length_nil]; omega, by simp only; omega⟩
  · rw [if_pos rfl]
    (refine canon_mkP ?_; simp [ordOf, dedupA, idsF, inside, renV, renI, renC, renO, posN, noId, mkSt_fr, mkSt_H, mkSt_nx, mkSt_rs, lookF, nodupB, depth, upd, ordIds_int, ordRen_int, ordIds_app, ordRen_app, ordIds_app2, ordRen_app2, appW, -List.map_replicate, -List.map_set, -List.map_append, -List.map_reverse, -List.map_take, -List.map_drop, -List.map_tail, -List.map_map, pinH])
theorem run_l03Draw (s : Src) : ∃ (s' : Src) (p : Int) (a b : List Int), (a.length = b.length ∧ 1 ≤ a.length ∧ a.length ≤ 12) ∧
    runv E1 248 [(V.uptr [V.list (s).code.length ((s).code.map (V.int .u8)), V.int .i64 (s).i, V.int .u64 (s).h])] = some ⟨true, (V.agg [V.int .i64 (p), (V.uniq 1 (List.length (a)) (List.map (V.int .i64) (a))), (V.uniq 1 (List.length (b)) (List.map (V.int .i64) (b)))]), [(V.uptr [V.list (s').code.length ((s').code.map (V.int .u8)), V.int .i64 (s').i, V.int .u64 (s').h])]⟩ := by
  obtain ⟨s1, p, hp, h1⟩ := run_l01DrawPrime s
  obtain ⟨s2, m, hm, h2⟩ := run_l01Pick s1 [2, 3, 4, 6, 12] (by simp) (by simp)
  simp only [List.mem_cons, List.not_mem_nil, or_false] at hm
  obtain ⟨s3, a, b, hab, h3⟩ := run_l03DrawOf s2 p m hp (by omega)
  simp only [List.map_cons, List.map_nil, List.length_cons, List.length_nil, Nat.reduceAdd] at h2
  refine ⟨s3, p, a, b, hab, ?_⟩
  have cdk : codeOk Try.f248.ntmps (Try.f248.body.getD .skip) = true := by kernel_rfl
  refine run_of_WLp (fn := Try.f248) rfl Try.func248 rfl ⟨by simp [Try.ntmps248], by simp [wideA, ints], cdk, by simp [Try.f248]⟩ rfl (by simp [rebOk, noId, adoptT, adoptA, adoptL, adoptC, depth]) (by simp [pinned, adoptT, adoptA, adoptL, adoptC]) ?_
  simp [go_sem, -List.map_replicate, -List.map_set, -List.map_append, -List.map_reverse, -List.map_take, -List.map_drop, -List.map_tail, -List.any_map, -List.all_map, -List.mapM_map, -List.map_map, slL, szI, ldI, zI, undL, apL, setI, rdI_get, Nat.add_one_le_iff, fillV, zeros1, zeros0, appendD, segV, lvO, goneOf, sliceD, bound, Nat.add_assoc, szL, ldL, setCs0, setCs1, setCs2, setCsA2, setCsA3, ldM, fM0, fM1, szM, zM, plM0, plM1, agM, paM, ldJ, fJ0, fJ1, fJ2, szJ, zJ, plJ0, plJ1, plJ2, agJ, paJ, h1, h2, h3, zerosV5, fillV]
  repeat refine ⟨by kernel_rfl, by kernel_rfl, ?_⟩
  simp [Ends, finish, onlyP, finPtr, anyU, ptrU, ownI, isLR, finFresh, finRead, resV, expN, treeN, eidN, outs, outA, outC, outL, outsI, outAI, outI, outIL, nodupB, depth, normR, normA, normL, normC, noTup, oneV, purN, idsN, upd, E0_P, E1_P, E2_P, mkSt_fr, mkSt_H, mkSt_nx, mkSt_rs, lookF, flatO, disjN, getO, mapM_purN_int, mapM_expN_int, flatMap_idsN_int, flatMap_eidN_int, any_hasU_int, all_treeN_int, mapM_purN_str, mapM_expN_str, flatMap_idsN_str, flatMap_eidN_str, any_hasU_str, all_treeN_str, ctBool, ctInt, ctI64, ctL, take_map_full, -List.map_replicate, -List.map_set, -List.map_append, -List.map_reverse, -List.map_take, -List.map_drop, -List.map_tail, -List.any_map, -List.all_map, -List.mapM_map, -List.map_map, Try.f248, szL, ldL, setCs0, setCs1, setCs2, setCsA2, setCsA3, ldM, fM0, fM1, szM, zM, plM0, plM1, agM, paM, ldJ, fJ0, fJ1, fJ2, szJ, zJ, plJ0, plJ1, plJ2, agJ, paJ, ctJ, loadD, viewN, isLR, hasU]
theorem run_l03Bad (s : Src) (p : Int) (a b : List Int) (hab : a.length = b.length ∧ 1 ≤ a.length ∧ a.length ≤ 12) : ∃ (s' : Src) (p' : Int) (a' b' : List Int), (1 ≤ a'.length ∧ a'.length ≤ 13 ∧ b'.length ≤ 13) ∧
    runv E1 247 [(V.uptr [V.list (s).code.length ((s).code.map (V.int .u8)), V.int .i64 (s).i, V.int .u64 (s).h]), (V.agg [V.int .i64 (p), (V.list (List.length (a)) (List.map (V.int .i64) (a))), (V.list (List.length (b)) (List.map (V.int .i64) (b)))])] = some ⟨false, (V.agg [V.int .i64 (p'), (V.list (List.length (a')) (List.map (V.int .i64) (a'))), (V.list (List.length (b')) (List.map (V.int .i64) (b')))]), [(V.uptr [V.list (s').code.length ((s').code.map (V.int .u8)), V.int .i64 (s').i, V.int .u64 (s').h]), .agg [.undef, .undef, .undef]]⟩ := by
  obtain ⟨s1, x, _, hx, h1⟩ := run_l01Next s 40
  by_cases x0 : x = 0
  · subst x0
    obtain ⟨s2, q, _, h2⟩ := run_l01Pick s1 [0, 4, 10009] (by simp) (by simp)
    simp only [List.map_cons, List.map_nil, List.length_cons, List.length_nil, Nat.reduceAdd] at h2
    refine ⟨s2, q, a, b, by omega, ?_⟩
    have cdk : codeOk Try.f247.ntmps (Try.f247.body.getD .skip) = true := by kernel_rfl
    refine run_of_WLp (fn := Try.f247) rfl Try.func247 rfl ⟨by simp [Try.ntmps247], by simp [wideA, ints], cdk, by simp [Try.f247]⟩ rfl (by simp [rebOk, noId, adoptT, adoptA, adoptL, adoptC, depth]) (by simp [pinned, adoptT, adoptA, adoptL, adoptC]) ?_
    simp [go_sem, -List.map_replicate, -List.map_set, -List.map_append, -List.map_reverse, -List.map_take, -List.map_drop, -List.map_tail, -List.any_map, -List.all_map, -List.mapM_map, -List.map_map, slL, szI, ldI, zI, undL, apL, setI, rdI_get, Nat.add_one_le_iff, fillV, zeros1, zeros0, appendD, segV, lvO, goneOf, sliceD, bound, Nat.add_assoc, szL, ldL, setCs0, setCs1, setCs2, setCsA2, setCsA3, ldM, fM0, fM1, szM, zM, plM0, plM1, agM, paM, ldJ, fJ0, fJ1, fJ2, szJ, zJ, plJ0, plJ1, plJ2, agJ, paJ, h1, h2, zerosV3, fillV]
    repeat refine ⟨by kernel_rfl, by kernel_rfl, ?_⟩
    simp [Ends, finish, onlyP, finPtr, anyU, ptrU, ownI, isLR, finFresh, finRead, resV, expN, treeN, eidN, outs, outA, outC, outL, outsI, outAI, outI, outIL, nodupB, depth, normR, normA, normL, normC, noTup, oneV, purN, idsN, upd, E0_P, E1_P, E2_P, mkSt_fr, mkSt_H, mkSt_nx, mkSt_rs, lookF, flatO, disjN, getO, mapM_purN_int, mapM_expN_int, flatMap_idsN_int, flatMap_eidN_int, any_hasU_int, all_treeN_int, mapM_purN_str, mapM_expN_str, flatMap_idsN_str, flatMap_eidN_str, any_hasU_str, all_treeN_str, ctBool, ctInt, ctI64, ctL, take_map_full, -List.map_replicate, -List.map_set, -List.map_append, -List.map_reverse, -List.map_take, -List.map_drop, -List.map_tail, -List.any_map, -List.all_map, -List.mapM_map, -List.map_map, Try.f247, szL, ldL, setCs0, setCs1, setCs2, setCsA2, setCsA3, ldM, fM0, fM1, szM, zM, plM0, plM1, agM, paM, ldJ, fJ0, fJ1, fJ2, szJ, zJ, plJ0, plJ1, plJ2, agJ, paJ, ctJ, loadD, viewN, isLR, hasU]
  by_cases x1 : x = 1
  · subst x1
    have h2 := up (run_l01Own b (by omega))
    have c3 : (b.length + 1) * 8 ≤ 140737488355328 := by omega
    refine ⟨s1, p, a, b ++ [1], by simp only [List.length_append, List.length_singleton]; omega, ?_⟩
    have cdk : codeOk Try.f247.ntmps (Try.f247.body.getD .skip) = true := by kernel_rfl
    refine run_of_WLp (fn := Try.f247) rfl Try.func247 rfl ⟨by simp [Try.ntmps247], by simp [wideA, ints], cdk, by simp [Try.f247]⟩ rfl (by simp [rebOk, noId, adoptT, adoptA, adoptL, adoptC, depth]) (by simp [pinned, adoptT, adoptA, adoptL, adoptC]) ?_
    have app : b.map (V.int .i64) ++ [V.int .i64 1] = (b ++ [1]).map (V.int .i64) := by simp
    have lap : (b ++ [1]).length = b.length + 1 := by simp
    simp [go_sem, -List.map_replicate, -List.map_set, -List.map_append, -List.map_reverse, -List.map_take, -List.map_drop, -List.map_tail, -List.any_map, -List.all_map, -List.mapM_map, -List.map_map, slL, szI, ldI, zI, undL, apL, setI, rdI_get, Nat.add_one_le_iff, fillV, zeros1, zeros0, appendD, segV, lvO, goneOf, sliceD, bound, Nat.add_assoc, szL, ldL, setCs0, setCs1, setCs2, setCsA2, setCsA3, ldM, fM0, fM1, szM, zM, plM0, plM1, agM, paM, ldJ, fJ0, fJ1, fJ2, szJ, zJ, plJ0, plJ1, plJ2, agJ, paJ, h1, h2, c3, zeros1, fillV, app]
    repeat refine ⟨by kernel_rfl, by kernel_rfl, ?_⟩
    generalize b ++ [1] = b2 at *
    simp [Ends, finish, onlyP, finPtr, anyU, ptrU, ownI, isLR, finFresh, finRead, resV, expN, treeN, eidN, outs, outA, outC, outL, outsI, outAI, outI, outIL, nodupB, depth, normR, normA, normL, normC, noTup, oneV, purN, idsN, upd, E0_P, E1_P, E2_P, mkSt_fr, mkSt_H, mkSt_nx, mkSt_rs, lookF, flatO, disjN, getO, mapM_purN_int, mapM_expN_int, flatMap_idsN_int, flatMap_eidN_int, any_hasU_int, all_treeN_int, mapM_purN_str, mapM_expN_str, flatMap_idsN_str, flatMap_eidN_str, any_hasU_str, all_treeN_str, ctBool, ctInt, ctI64, ctL, take_map_full, -List.map_replicate, -List.map_set, -List.map_append, -List.map_reverse, -List.map_take, -List.map_drop, -List.map_tail, -List.any_map, -List.all_map, -List.mapM_map, -List.map_map, Try.f247, szL, ldL, setCs0, setCs1, setCs2, setCsA2, setCsA3, ldM, fM0, fM1, szM, zM, plM0, plM1, agM, paM, ldJ, fJ0, fJ1, fJ2, szJ, zJ, plJ0, plJ1, plJ2, agJ, paJ, ctJ, loadD, viewN, isLR, hasU, app, lap]
  by_cases x2 : x = 2
  · subst x2
    have h2 := up (run_l01Own b (by omega))
    have w2 : IntKind.i64.wrap (b.length : Int) = b.length := IntWalk.i64_in _ (by omega)
    obtain ⟨s2, y, _, hy, h3⟩ := run_l01Next s1 b.length
    have hy := hy (by omega)
    obtain ⟨k, rfl⟩ : ∃ k : Nat, y = k := ⟨y.toNat, by omega⟩
    have hk : k < b.length := by omega
    have hk2 : (k : Int) < b.length := by omega
    obtain ⟨s3, q, _, h4⟩ := run_l01Pick s2 [0, p] (by simp) (by simp)
    simp only [List.map_cons, List.map_nil, List.length_cons, List.length_nil, Nat.reduceAdd] at h4
    refine ⟨s3, p, a, b.set k q, by simp; omega, ?_⟩
    have cdk : codeOk Try.f247.ntmps (Try.f247.body.getD .skip) = true := by kernel_rfl
    refine run_of_WLp (fn := Try.f247) rfl Try.func247 rfl ⟨by simp [Try.ntmps247], by simp [wideA, ints], cdk, by simp [Try.f247]⟩ rfl (by simp [rebOk, noId, adoptT, adoptA, adoptL, adoptC, depth]) (by simp [pinned, adoptT, adoptA, adoptL, adoptC]) ?_
    simp [go_sem, -List.map_replicate, -List.map_set, -List.map_append, -List.map_reverse, -List.map_take, -List.map_drop, -List.map_tail, -List.any_map, -List.all_map, -List.mapM_map, -List.map_map, slL, szI, ldI, zI, undL, apL, setI, rdI_get, Nat.add_one_le_iff, fillV, zeros1, zeros0, appendD, segV, lvO, goneOf, sliceD, bound, Nat.add_assoc, szL, ldL, setCs0, setCs1, setCs2, setCsA2, setCsA3, ldM, fM0, fM1, szM, zM, plM0, plM1, agM, paM, ldJ, fJ0, fJ1, fJ2, szJ, zJ, plJ0, plJ1, plJ2, agJ, paJ, h1, h2, h3, h4, hk, hk2, w2, undI64, convD, zerosV2, fillV]
    repeat refine ⟨by kernel_rfl, by kernel_rfl, ?_⟩
    simp [Ends, finish, onlyP, finPtr, anyU, ptrU, ownI, isLR, finFresh, finRead, resV, expN, treeN, eidN, outs, outA, outC, outL, outsI, outAI, outI, outIL, nodupB, depth, normR, normA, normL, normC, noTup, oneV, purN, idsN, upd, E0_P, E1_P, E2_P, mkSt_fr, mkSt_H, mkSt_nx, mkSt_rs, lookF, flatO, disjN, getO, mapM_purN_int, mapM_expN_int, flatMap_idsN_int, flatMap_eidN_int, any_hasU_int, all_treeN_int, mapM_purN_str, mapM_expN_str, flatMap_idsN_str, flatMap_eidN_str, any_hasU_str, all_treeN_str, ctBool, ctInt, ctI64, ctL, take_map_full, -List.map_replicate, -List.map_set, -List.map_append, -List.map_reverse, -List.map_take, -List.map_drop, -List.map_tail, -List.any_map, -List.all_map, -List.mapM_map, -List.map_map, Try.f247, szL, ldL, setCs0, setCs1, setCs2, setCsA2, setCsA3, ldM, fM0, fM1, szM, zM, plM0, plM1, agM, paM, ldJ, fJ0, fJ1, fJ2, szJ, zJ, plJ0, plJ1, plJ2, agJ, paJ, ctJ, loadD, viewN, isLR, hasU]
  by_cases x3 : x = 3
  · subst x3
    have h2 := up (run_l01Own a (by omega))
    obtain ⟨s3, q, _, h4⟩ := run_l01Pick s1 [-1, p] (by simp) (by simp)
    simp only [List.map_cons, List.map_nil, List.length_cons, List.length_nil, Nat.reduceAdd] at h4
    have hk : 0 < a.length := by omega
    have hk2 : (0 : Int) < a.length := by omega
    refine ⟨s3, p, a.set 0 q, b, by simp; omega, ?_⟩
    have cdk : codeOk Try.f247.ntmps (Try.f247.body.getD .skip) = true := by kernel_rfl
    refine run_of_WLp (fn := Try.f247) rfl Try.func247 rfl ⟨by simp [Try.ntmps247], by simp [wideA, ints], cdk, by simp [Try.f247]⟩ rfl (by simp [rebOk, noId, adoptT, adoptA, adoptL, adoptC, depth]) (by simp [pinned, adoptT, adoptA, adoptL, adoptC]) ?_
    simp [go_sem, -List.map_replicate, -List.map_set, -List.map_append, -List.map_reverse, -List.map_take, -List.map_drop, -List.map_tail, -List.any_map, -List.all_map, -List.mapM_map, -List.map_map, slL, szI, ldI, zI, undL, apL, setI, rdI_get, Nat.add_one_le_iff, fillV, zeros1, zeros0, appendD, segV, lvO, goneOf, sliceD, bound, Nat.add_assoc, szL, ldL, setCs0, setCs1, setCs2, setCsA2, setCsA3, ldM, fM0, fM1, szM, zM, plM0, plM1, agM, paM, ldJ, fJ0, fJ1, fJ2, szJ, zJ, plJ0, plJ1, plJ2, agJ, paJ, h1, h2, h4, hk, hk2, zerosV2, fillV]
    repeat refine ⟨by kernel_rfl, by kernel_rfl, ?_⟩
    simp [Ends, finish, onlyP, finPtr, anyU, ptrU, ownI, isLR, finFresh, finRead, resV, expN, treeN, eidN, outs, outA, outC, outL, outsI, outAI, outI, outIL, nodupB, depth, normR, normA, normL, normC, noTup, oneV, purN, idsN, upd, E0_P, E1_P, E2_P, mkSt_fr, mkSt_H, mkSt_nx, mkSt_rs, lookF, flatO, disjN, getO, mapM_purN_int, mapM_expN_int, flatMap_idsN_int, flatMap_eidN_int, any_hasU_int, all_treeN_int, mapM_purN_str, mapM_expN_str, flatMap_idsN_str, flatMap_eidN_str, any_hasU_str, all_treeN_str, ctBool, ctInt, ctI64, ctL, take_map_full, -List.map_replicate, -List.map_set, -List.map_append, -List.map_reverse, -List.map_take, -List.map_drop, -List.map_tail, -List.any_map, -List.all_map, -List.mapM_map, -List.map_map, Try.f247, szL, ldL, setCs0, setCs1, setCs2, setCsA2, setCsA3, ldM, fM0, fM1, szM, zM, plM0, plM1, agM, paM, ldJ, fJ0, fJ1, fJ2, szJ, zJ, plJ0, plJ1, plJ2, agJ, paJ, ctJ, loadD, viewN, isLR, hasU]
  refine ⟨s1, p, a, b, by omega, ?_⟩
  have cdk : codeOk Try.f247.ntmps (Try.f247.body.getD .skip) = true := by kernel_rfl
  refine run_of_WLp (fn := Try.f247) rfl Try.func247 rfl ⟨by simp [Try.ntmps247], by simp [wideA, ints], cdk, by simp [Try.f247]⟩ rfl (by simp [rebOk, noId, adoptT, adoptA, adoptL, adoptC, depth]) (by simp [pinned, adoptT, adoptA, adoptL, adoptC]) ?_
  simp [go_sem, -List.map_replicate, -List.map_set, -List.map_append, -List.map_reverse, -List.map_take, -List.map_drop, -List.map_tail, -List.any_map, -List.all_map, -List.mapM_map, -List.map_map, slL, szI, ldI, zI, undL, apL, setI, rdI_get, Nat.add_one_le_iff, fillV, zeros1, zeros0, appendD, segV, lvO, goneOf, sliceD, bound, Nat.add_assoc, szL, ldL, setCs0, setCs1, setCs2, setCsA2, setCsA3, ldM, fM0, fM1, szM, zM, plM0, plM1, agM, paM, ldJ, fJ0, fJ1, fJ2, szJ, zJ, plJ0, plJ1, plJ2, agJ, paJ, h1, x0, x1, x2, x3]
  repeat refine ⟨by kernel_rfl, by kernel_rfl, ?_⟩
  simp [Ends, finish, onlyP, finPtr, anyU, ptrU, ownI, isLR, finFresh, finRead, resV, expN, treeN, eidN, outs, outA, outC, outL, outsI, outAI, outI, outIL, nodupB, depth, normR, normA, normL, normC, noTup, oneV, purN, idsN, upd, E0_P, E1_P, E2_P, mkSt_fr, mkSt_H, mkSt_nx, mkSt_rs, lookF, flatO, disjN, getO, mapM_purN_int, mapM_expN_int, flatMap_idsN_int, flatMap_eidN_int, any_hasU_int, all_treeN_int, mapM_purN_str, mapM_expN_str, flatMap_idsN_str, flatMap_eidN_str, any_hasU_str, all_treeN_str, ctBool, ctInt, ctI64, ctL, take_map_full, -List.map_replicate, -List.map_set, -List.map_append, -List.map_reverse, -List.map_take, -List.map_drop, -List.map_tail, -List.any_map, -List.all_map, -List.mapM_map, -List.map_map, Try.f247, szL, ldL, setCs0, setCs1, setCs2, setCsA2, setCsA3, ldM, fM0, fM1, szM, zM, plM0, plM1, agM, paM, ldJ, fJ0, fJ1, fJ2, szJ, zJ, plJ0, plJ1, plJ2, agJ, paJ, ctJ, loadD, viewN, isLR, hasU]
theorem run_l03Spoil (s : Src) : ∃ (s' : Src) (p : Int) (a b : List Int), (1 ≤ a.length ∧ a.length ≤ 13 ∧ b.length ≤ 13) ∧
    runv E1 170 [(V.uptr [V.list (s).code.length ((s).code.map (V.int .u8)), V.int .i64 (s).i, V.int .u64 (s).h])] = some ⟨false, (V.agg [V.int .i64 (p), (V.list (List.length (a)) (List.map (V.int .i64) (a))), (V.list (List.length (b)) (List.map (V.int .i64) (b)))]), [(V.uptr [V.list (s').code.length ((s').code.map (V.int .u8)), V.int .i64 (s').i, V.int .u64 (s').h])]⟩ := by
  obtain ⟨s1, p, a, b, hab, h1⟩ := run_l03Draw s
  obtain ⟨s2, p', a', b', hab', h2⟩ := run_l03Bad s1 p a b hab
  refine ⟨s2, p', a', b', hab', ?_⟩
  have cdk : codeOk Try.f170.ntmps (Try.f170.body.getD .skip) = true := by kernel_rfl
  refine run_of_WLp (fn := Try.f170) rfl Try.func170 rfl ⟨by simp [Try.ntmps170], by simp [wideA, ints], cdk, by simp [Try.f170]⟩ rfl (by simp [rebOk, noId, adoptT, adoptA, adoptL, adoptC, depth]) (by simp [pinned, adoptT, adoptA, adoptL, adoptC]) ?_
  simp [go_sem, -List.map_replicate, -List.map_set, -List.map_append, -List.map_reverse, -List.map_take, -List.map_drop, -List.map_tail, -List.any_map, -List.all_map, -List.mapM_map, -List.map_map, slL, szI, ldI, zI, undL, apL, setI, rdI_get, Nat.add_one_le_iff, fillV, zeros1, zeros0, appendD, segV, lvO, goneOf, sliceD, bound, Nat.add_assoc, szL, ldL, setCs0, setCs1, setCs2, setCsA2, setCsA3, ldM, fM0, fM1, szM, zM, plM0, plM1, agM, paM, ldJ, fJ0, fJ1, fJ2, szJ, zJ, plJ0, plJ1, plJ2, agJ, paJ, h1, h2]
  repeat refine ⟨by kernel_rfl, by kernel_rfl, ?_⟩
  simp [Ends, finish, onlyP, finPtr, anyU, ptrU, ownI, isLR, finFresh, finRead, resV, expN, treeN, eidN, outs, outA, outC, outL, outsI, outAI, outI, outIL, nodupB, depth, normR, normA, normL, normC, noTup, oneV, purN, idsN, upd, E0_P, E1_P, E2_P, mkSt_fr, mkSt_H, mkSt_nx, mkSt_rs, lookF, flatO, disjN, getO, mapM_purN_int, mapM_expN_int, flatMap_idsN_int, flatMap_eidN_int, any_hasU_int, all_treeN_int, mapM_purN_str, mapM_expN_str, flatMap_idsN_str, flatMap_eidN_str, any_hasU_str, all_treeN_str, ctBool, ctInt, ctI64, ctL, take_map_full, -List.map_replicate, -List.map_set, -List.map_append, -List.map_reverse, -List.map_take, -List.map_drop, -List.map_tail, -List.any_map, -List.all_map, -List.mapM_map, -List.map_map, Try.f170, szL, ldL, setCs0, setCs1, setCs2, setCsA2, setCsA3, ldM, fM0, fM1, szM, zM, plM0, plM1, agM, paM, ldJ, fJ0, fJ1, fJ2, szJ, zJ, plJ0, plJ1, plJ2, agJ, paJ, ctJ, loadD, viewN, isLR, hasU]
end Go.Proofs.Ytabnganndcmcnaa.Ev
