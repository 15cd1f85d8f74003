/- StepsOfJacobi: the program, for good arguments. Conditions: none. -/
import Derived.Test.YtclebbjpacpbmaaFnCG
set_option linter.unusedSimpArgs false
set_option linter.unusedVariables false
namespace Go.Proofs.Ytclebbjpacpbmaa.Ev
open Go Go.Proofs
set_option maxRecDepth 4000
set_option maxHeartbeats 4000000

theorem run_implStepsOfJacobi (p c : Int) (n : Nat) (a b : List Int) (e : jacB p a b = true) (e1 : hasB p c = true) (hn : n ≤ 12) :
    runv E1 32 [(V.agg [V.int .i64 (p), (V.list (List.length (a)) (List.map (V.int .i64) (a))), (V.list (List.length (b)) (List.map (V.int .i64) (b)))]), .int .i64 c, .int .i64 (n : Int)] = some ⟨true, stepsV p c a b n, [.agg [.undef, .undef, .undef], .undef, .undef]⟩ := by
  have cdk : codeOk Try.f32.ntmps (Try.f32.body.getD .skip) = true := by kernel_rfl
  refine run_of_WLr (fn := Try.f32) rfl Try.func32 rfl ⟨by simp [Try.ntmps32], by simp [wideA, ints], cdk, by simp [Try.f32]⟩ rfl (by simp [rebOk, noId, adoptT, adoptA, adoptL, adoptC, depth]) ?_
  have hl := jacB_len e
  have g2 := up (run_within (n : Int) 0 12)
  rw [show (decide (0 ≤ (n : Int)) && decide ((n : Int) ≤ 12)) = true by simp; omega] at g2
  have g3 := up (run_Jfield p a b)
  have g4 := up (run_Jsize p a b)
  have g5 := up (run_has p c)
  rw [e1] at g5
  have h1 := up (run_jacobiCode p a b true (by omega) (by omega))
  rw [e] at h1
  simp only [if_true] at h1
  have h3 := up (run_part0 p a b (by omega) (by omega) hl.2.2)
  simp [WL_nil, WL_seq, WL_region, WL_ret, WL_skip, WL_block, WL_inBlock, WL_cond, WC_t, WC_f, WL_label, WL_exitX, WL_gotoX, WX_some, WL_scope, WL_inScope, WL_regionD, WO_cons, WO_nil, WD_some, WOd_cons, WOd_nil, WDd_some, List.nil_append, List.cons_append, stepD, wantV, opD, ev, V.ofC, V.ofS, ret, binV, intOp, unV, St.app, updO, upd, appW, E0_P, E0_m, E0_s, E1_P, E1_m, E1_s, E2_P, E2_m, E2_s, mkSt_fr, mkSt_H, mkSt_nx, mkSt_rs, lookF, modesOf, callOp, evL, calleeV, callD, prepL, prepA, purN, idsN, isRefV, flatO, backW, adopt, adoptA, adoptC, adoptL, adoptT, widthOk, wideA, freezeW, depth, noTup, nodupB, treeN, St.enter, exitTo, gotoIn, findLabel, getO, lenV, bltD, loadD, viewN, V.cells, storeD, mvC, expN, eidN, hasU, optE, sliceNil, eqV, isC, mapM_purN_int, mapM_expN_int, mapM_viewN_int, flatMap_idsN_int, flatMap_eidN_int, any_hasU_int, all_treeN_int, mapM_purN_str, mapM_expN_str, flatMap_idsN_str, flatMap_eidN_str, any_hasU_str, all_treeN_str, ownX, ownI, backO, backL, take_map_full, -List.map_replicate, -List.map_set, -List.map_append, -List.map_reverse, -List.map_take, -List.map_drop, -List.map_tail, -List.any_map, -List.all_map, -List.mapM_map, -List.map_map, slL, szI, ldI, zI, undL, apL, setI, rdI_get, Nat.add_one_le_iff, fillV, zeros1, zeros0, appendD, segV, lvO, goneOf, sliceD, bound, Nat.add_assoc, szL, ldL, setCs0, setCs1, setCs2, setCsA2, setCsA3, ldM, fM0, fM1, szM, zM, plM0, plM1, agM, paM, ldJ, fJ0, fJ1, fJ2, szJ, zJ, plJ0, plJ1, plJ2, agJ, paJ, ldJl, fJl0, fJl1, fJl2, szJl, slT3, apT3, und3, zeros3J, g2, g3, g4, g5, h1, h3, fillV]
  repeat refine ⟨by kernel_rfl, by kernel_rfl, ?_⟩
  rw [WL_loop]
  have hC : 0 ≤ c ∧ c < p := hasB_range e1
  refine WL_forP (keep := [1, 9, 31, 32]) (rs := resM Try.f32) rfl (by kernel_rfl) (fun i => mkSt [(1, .int .i64 c), (9, .sl 0 0 0 (i + 1)), (31, .int .i64 (n : Int)), (32, .int .i64 (i : Int))] [some (⟨0, 2, 3, tri p (itL p c a b (i + 1))⟩)] (resM Try.f32)) n (fun i => ∀ j, j < i → okS p c a b j = true) ?_ ?_ 0 _ (by omega) (fun j hj => by omega) rfl ?_
  · intro i hi hP next
    have hj := itJ_jacB e i hP
    have hl2 := jacB_len hj
    have hs := run_step p (itJ p c a b i).1 (itJ p c a b i).2 c hj hC
    have b1 : (i : Int) < n := by omega
    have b2 : IntKind.i64.wrap ((i : Int) + 1) = (i : Int) + 1 := IntWalk.i64_in _ (by omega)
    have w0 : IntKind.i64.wrap (i : Int) = (i : Int) := IntWalk.i64_in _ (by omega)
    have w1 : IntKind.i64.wrap ((i : Int) + 1 - 1) = (i : Int) := by rw [IntWalk.i64_in _ (by omega)]; omega
    have lT := tri_len p (itL p c a b (i + 1))
    rw [itL_len] at lT
    have hv := itL_view p c a b i 5
    have eT : tri p (itL p c a b (i + 1 + 1)) = tri p (itL p c a b (i + 1)) ++ [.int .i64 p, UV (itJ p c a b (i + 1)).1, UV (itJ p c a b (i + 1)).2] := by
      rw [itL_succ p c a b (i + 1), tri_snoc]
    rw [eT] at next
    have eI : itJ p c a b (i + 1) = (tab ((itJ p c a b i).1.length - 1) (stA p c (itJ p c a b i).1 (itJ p c a b i).2), tab ((itJ p c a b i).1.length - 1) (stB p c (itJ p c a b i).1 (itJ p c a b i).2)) := rfl
    have hO : okS p c a b i = stOk p c (itJ p c a b i).1 (itJ p c a b i).2 := rfl
    rw [eI] at next
    have oT : ∀ d, (tri p (itL p c a b (i + 1))).flatMap (idsF d) = [] := fun d => ordIds_tri p _
    have rT : ∀ ord H, (tri p (itL p c a b (i + 1))).map (renC ord H) = tri p (itL p c a b (i + 1)) := fun _ _ => ordRen_tri p _
    have oT2 : ∀ d (u v : V), (∀ d, idsF d u = []) → (∀ d, idsF d v = []) → (tri p (itL p c a b (i + 1)) ++ [.int .i64 p, u, v]).flatMap (idsF d) = [] := fun d u v hu hv => by
      rw [List.flatMap_append, oT]; simp [hu, hv]; cases d <;> rfl
    generalize hT : tri p (itL p c a b (i + 1)) = T at *
    generalize (itJ p c a b i).1 = x at *
    generalize (itJ p c a b i).2 = y at *
    have ii : (i : Int) < (i : Int) + 1 := by omega
    have iq : (0 : Int) ≤ (i : Int) := by omega
    have i3 : i * 3 + 2 < 3 * (i + 1) := by omega
    have i33 : (3 * (i + 1) = (i + 1) * 3) = True := eq_true (by omega)
    have c3 : (i + 2) * 56 ≤ 140737488355328 := by omega
    cases e2 : stOk p c x y with
    | false =>
      have eS : stI p c x y = (0, [], [], false) := by unfold stI; rw [e2]; rfl
      rw [eS] at hs
      simp only [List.length_nil, List.map_nil] at hs
      unfold LV at hv
      simp [WL_nil, WL_seq, WL_region, WL_ret, WL_skip, WL_block, WL_inBlock, WL_cond, WC_t, WC_f, WL_label, WL_exitX, WL_gotoX, WX_some, WL_scope, WL_inScope, WL_regionD, WO_cons, WO_nil, WD_some, WOd_cons, WOd_nil, WDd_some, List.nil_append, List.cons_append, stepD, wantV, opD, ev, V.ofC, V.ofS, ret, binV, intOp, unV, St.app, updO, upd, appW, E0_P, E0_m, E0_s, E1_P, E1_m, E1_s, E2_P, E2_m, E2_s, mkSt_fr, mkSt_H, mkSt_nx, mkSt_rs, lookF, modesOf, callOp, evL, calleeV, callD, prepL, prepA, purN, idsN, isRefV, flatO, backW, adopt, adoptA, adoptC, adoptL, adoptT, widthOk, wideA, freezeW, depth, noTup, nodupB, treeN, St.enter, exitTo, gotoIn, findLabel, getO, lenV, bltD, loadD, viewN, V.cells, storeD, mvC, expN, eidN, hasU, optE, sliceNil, eqV, isC, mapM_purN_int, mapM_expN_int, mapM_viewN_int, flatMap_idsN_int, flatMap_eidN_int, any_hasU_int, all_treeN_int, mapM_purN_str, mapM_expN_str, flatMap_idsN_str, flatMap_eidN_str, any_hasU_str, all_treeN_str, ownX, ownI, backO, backL, take_map_full, -List.map_replicate, -List.map_set, -List.map_append, -List.map_reverse, -List.map_take, -List.map_drop, -List.map_tail, -List.any_map, -List.all_map, -List.mapM_map, -List.map_map, slL, szI, ldI, zI, undL, apL, setI, rdI_get, Nat.add_one_le_iff, fillV, zeros1, zeros0, appendD, segV, lvO, goneOf, sliceD, bound, Nat.add_assoc, szL, ldL, setCs0, setCs1, setCs2, setCsA2, setCsA3, ldM, fM0, fM1, szM, zM, plM0, plM1, agM, paM, ldJ, fJ0, fJ1, fJ2, szJ, zJ, plJ0, plJ1, plJ2, agJ, paJ, ldJl, fJl0, fJl1, fJl2, szJl, slT3, apT3, und3, zeros3J, hi, b1, b2, w0, w1, lT, ii, iq, i3, hv, hs, fillV]
      repeat refine ⟨by kernel_rfl, by kernel_rfl, ?_⟩
      have hps : stepsV p c a b n = .tup [.uniq 3 0 [], .int .i64 5] := by
        have : stepsOk p c a b n = false := by
          unfold stepsOk; rw [List.all_eq_false]
          exact ⟨i, by simpa using hi, by rw [hO, e2]; simp⟩
        unfold stepsV; rw [this]; rfl
      rw [hps]
      simp [Ends, finish, finFresh, finRead, resV, expN, treeN, eidN, outs, outA, outC, outL, outsI, outAI, outI, outIL, nodupB, depth, normR, normA, normL, normC, noTup, oneV, purN, idsN, upd, E0_P, E1_P, E2_P, mkSt_fr, mkSt_H, mkSt_nx, mkSt_rs, lookF, flatO, disjN, getO, mapM_purN_int, mapM_expN_int, flatMap_idsN_int, flatMap_eidN_int, any_hasU_int, all_treeN_int, mapM_purN_str, mapM_expN_str, flatMap_idsN_str, flatMap_eidN_str, any_hasU_str, all_treeN_str, ctBool, ctInt, ctI64, ctL, take_map_full, -List.map_replicate, -List.map_set, -List.map_append, -List.map_reverse, -List.map_take, -List.map_drop, -List.map_tail, -List.any_map, -List.all_map, -List.mapM_map, -List.map_map, Try.f32, ct3]
    | true =>
      have eS : stI p c x y = (p, tab (x.length - 1) (stA p c x y), tab (x.length - 1) (stB p c x y), true) := by unfold stI; rw [e2]; rfl
      rw [eS] at hs
      simp only at hs
      have lA := tab_len (x.length - 1) (stA p c x y)
      have lB := tab_len (x.length - 1) (stB p c x y)
      have hP' : ∀ j, j < i + 1 → okS p c a b j = true := fun j hj => by
        by_cases c : j = i
        · subst c; rw [hO, e2]
        · exact hP j (by omega)
      unfold LV at hv
      unfold UV at next
      generalize tab (x.length - 1) (stA p c x y) = x1 at *
      generalize tab (x.length - 1) (stB p c x y) = y1 at *
      simp [WL_nil, WL_seq, WL_region, WL_ret, WL_skip, WL_block, WL_inBlock, WL_cond, WC_t, WC_f, WL_label, WL_exitX, WL_gotoX, WX_some, WL_scope, WL_inScope, WL_regionD, WO_cons, WO_nil, WD_some, WOd_cons, WOd_nil, WDd_some, List.nil_append, List.cons_append, stepD, wantV, opD, ev, V.ofC, V.ofS, ret, binV, intOp, unV, St.app, updO, upd, appW, E0_P, E0_m, E0_s, E1_P, E1_m, E1_s, E2_P, E2_m, E2_s, mkSt_fr, mkSt_H, mkSt_nx, mkSt_rs, lookF, modesOf, callOp, evL, calleeV, callD, prepL, prepA, purN, idsN, isRefV, flatO, backW, adopt, adoptA, adoptC, adoptL, adoptT, widthOk, wideA, freezeW, depth, noTup, nodupB, treeN, St.enter, exitTo, gotoIn, findLabel, getO, lenV, bltD, loadD, viewN, V.cells, storeD, mvC, expN, eidN, hasU, optE, sliceNil, eqV, isC, mapM_purN_int, mapM_expN_int, mapM_viewN_int, flatMap_idsN_int, flatMap_eidN_int, any_hasU_int, all_treeN_int, mapM_purN_str, mapM_expN_str, flatMap_idsN_str, flatMap_eidN_str, any_hasU_str, all_treeN_str, ownX, ownI, backO, backL, take_map_full, -List.map_replicate, -List.map_set, -List.map_append, -List.map_reverse, -List.map_take, -List.map_drop, -List.map_tail, -List.any_map, -List.all_map, -List.mapM_map, -List.map_map, slL, szI, ldI, zI, undL, apL, setI, rdI_get, Nat.add_one_le_iff, fillV, zeros1, zeros0, appendD, segV, lvO, goneOf, sliceD, bound, Nat.add_assoc, szL, ldL, setCs0, setCs1, setCs2, setCsA2, setCsA3, ldM, fM0, fM1, szM, zM, plM0, plM1, agM, paM, ldJ, fJ0, fJ1, fJ2, szJ, zJ, plJ0, plJ1, plJ2, agJ, paJ, ldJl, fJl0, fJl1, fJl2, szJl, slT3, apT3, und3, zeros3J, hi, b1, b2, w0, w1, lT, ii, iq, i3, i33, c3, hv, hs, lA, lB, fillV]
      repeat refine ⟨by kernel_rfl, by kernel_rfl, ?_⟩
      refine next _ hP' rfl ?_
      have oU : ∀ d n (l : List Int), idsF d (.uniq 1 n (l.map (V.int .i64))) = [] := fun d n l => by cases d <;> rfl
      have rT3 : ∀ ord H n m (u v : List Int), (T ++ [V.int .i64 p, V.uniq 1 n (u.map (V.int .i64)), V.uniq 1 m (v.map (V.int .i64))]).map (renC ord H) = T ++ [V.int .i64 p, V.uniq 1 n (u.map (V.int .i64)), V.uniq 1 m (v.map (V.int .i64))] := fun ord H n m u v => by
        rw [List.map_append, rT]; rfl
      (refine canon_mk ?_; simp [ordOf, dedupA, idsF, inside, renV, renI, renC, renO, posN, noId, mkSt_fr, mkSt_H, mkSt_nx, mkSt_rs, lookF, nodupB, depth, upd, ordIds_int, ordRen_int, ordIds_app, ordRen_app, ordIds_app2, ordRen_app2, appW, -List.map_replicate, -List.map_set, -List.map_append, -List.map_reverse, -List.map_take, -List.map_drop, -List.map_tail, -List.map_map, oT, oT2, oU, rT, rT3, lA, lB]) <;> omega
  · intro hP
    have hps : stepsV p c a b n = .tup [.uniq 3 (n + 1) (tri p (itL p c a b (n + 1))), .int .i64 0] := by
      have : stepsOk p c a b n = true := by
        unfold stepsOk; rw [List.all_eq_true]
        intro j hj; exact hP j (by simpa using hj)
      unfold stepsV; rw [this]; rfl
    rw [hps]
    have lT := tri_len p (itL p c a b (n + 1))
    rw [itL_len] at lT
    have x1 : ∀ H, (tri p (itL p c a b (n + 1))).mapM (expN H 5) = some (tri p (itL p c a b (n + 1))) := fun H => mapM_expN_tri (d := 4) p _
    have x2 : ∀ H, (tri p (itL p c a b (n + 1))).flatMap (eidN H 5) = [] := fun H => flatMap_eidN_tri (d := 4) p _
    have x3 : (tri p (itL p c a b (n + 1))).all (treeN 5) = true := all_treeN_tri (d := 4) p _
    have x4 : (tri p (itL p c a b (n + 1))).take ((n + 1) * 3) = tri p (itL p c a b (n + 1)) := List.take_of_length_le (by omega)
    have x5 : ((n + 1) * 3 ≤ 3 * (n + 1)) = True := eq_true (by omega)
    generalize tri p (itL p c a b (n + 1)) = T at *
    simp [WL_nil, WL_seq, WL_region, WL_ret, WL_skip, WL_block, WL_inBlock, WL_cond, WC_t, WC_f, WL_label, WL_exitX, WL_gotoX, WX_some, WL_scope, WL_inScope, WL_regionD, WO_cons, WO_nil, WD_some, WOd_cons, WOd_nil, WDd_some, List.nil_append, List.cons_append, stepD, wantV, opD, ev, V.ofC, V.ofS, ret, binV, intOp, unV, St.app, updO, upd, appW, E0_P, E0_m, E0_s, E1_P, E1_m, E1_s, E2_P, E2_m, E2_s, mkSt_fr, mkSt_H, mkSt_nx, mkSt_rs, lookF, modesOf, callOp, evL, calleeV, callD, prepL, prepA, purN, idsN, isRefV, flatO, backW, adopt, adoptA, adoptC, adoptL, adoptT, widthOk, wideA, freezeW, depth, noTup, nodupB, treeN, St.enter, exitTo, gotoIn, findLabel, getO, lenV, bltD, loadD, viewN, V.cells, storeD, mvC, expN, eidN, hasU, optE, sliceNil, eqV, isC, mapM_purN_int, mapM_expN_int, mapM_viewN_int, flatMap_idsN_int, flatMap_eidN_int, any_hasU_int, all_treeN_int, mapM_purN_str, mapM_expN_str, flatMap_idsN_str, flatMap_eidN_str, any_hasU_str, all_treeN_str, ownX, ownI, backO, backL, take_map_full, -List.map_replicate, -List.map_set, -List.map_append, -List.map_reverse, -List.map_take, -List.map_drop, -List.map_tail, -List.any_map, -List.all_map, -List.mapM_map, -List.map_map, slL, szI, ldI, zI, undL, apL, setI, rdI_get, Nat.add_one_le_iff, fillV, zeros1, zeros0, appendD, segV, lvO, goneOf, sliceD, bound, Nat.add_assoc, szL, ldL, setCs0, setCs1, setCs2, setCsA2, setCsA3, ldM, fM0, fM1, szM, zM, plM0, plM1, agM, paM, ldJ, fJ0, fJ1, fJ2, szJ, zJ, plJ0, plJ1, plJ2, agJ, paJ, ldJl, fJl0, fJl1, fJl2, szJl, slT3, apT3, und3]
    simp [Ends, finish, finFresh, finRead, resV, expN, treeN, eidN, outs, outA, outC, outL, outsI, outAI, outI, outIL, nodupB, depth, normR, normA, normL, normC, noTup, oneV, purN, idsN, upd, E0_P, E1_P, E2_P, mkSt_fr, mkSt_H, mkSt_nx, mkSt_rs, lookF, flatO, disjN, getO, mapM_purN_int, mapM_expN_int, flatMap_idsN_int, flatMap_eidN_int, any_hasU_int, all_treeN_int, mapM_purN_str, mapM_expN_str, flatMap_idsN_str, flatMap_eidN_str, any_hasU_str, all_treeN_str, ctBool, ctInt, ctI64, ctL, take_map_full, -List.map_replicate, -List.map_set, -List.map_append, -List.map_reverse, -List.map_take, -List.map_drop, -List.map_tail, -List.any_map, -List.all_map, -List.mapM_map, -List.map_map, Try.f32, ct3, lT, x1, x2, x3, x4, x5]
  · have e0 : tri p (itL p c a b 1) = [.int .i64 p, UV a, UV b] := rfl
    unfold UV at e0
    (refine canon_mk ?_; simp [ordOf, dedupA, idsF, inside, renV, renI, renC, renO, posN, noId, mkSt_fr, mkSt_H, mkSt_nx, mkSt_rs, lookF, nodupB, depth, upd, ordIds_int, ordRen_int, ordIds_app, ordRen_app, ordIds_app2, ordRen_app2, appW, -List.map_replicate, -List.map_set, -List.map_append, -List.map_reverse, -List.map_take, -List.map_drop, -List.map_tail, -List.map_map, e0])
end Go.Proofs.Ytclebbjpacpbmaa.Ev
