/- StepsOfJacobi: the law. Conditions: none. -/
import Derived.Test.YtclebbjpacpbmaaFnCK
set_option linter.unusedSimpArgs false
set_option linter.unusedVariables false
namespace Go.Proofs.Ytclebbjpacpbmaa.Ev
open Go Go.Proofs
set_option maxRecDepth 4000
set_option maxHeartbeats 4000000

def stepsL (p c n : Int) (a b : List Int) : List (Int × List Int × List Int) × Int :=
  if jacB p a b then (if hasB p c && (decide (0 ≤ n) && decide (n ≤ 12)) then (if stepsOk p c a b n.toNat then ((itL p c a b (n.toNat + 1)).map fun x => (p, x), 0) else ([], 5)) else ([], 2)) else ([], 1)
theorem stepsR_eq (p c n : Int) (a b : List Int) : stepsR p c n a b = .tup [.uniq 3 (stepsL p c n a b).1.length (trU (stepsL p c n a b).1), .int .i64 (stepsL p c n a b).2] := by
  unfold stepsR stepsL
  split
  · split
    · unfold stepsV
      split
      · rw [show (List.range (n.toNat + 1)).map (itJ p c a b) = itL p c a b (n.toNat + 1) from rfl, trU_tri]; simp [itL_len]
      · rfl
    · rfl
  · rfl
theorem itJ_len (p c : Int) (a b : List Int) (h : jacB p a b = true) : ∀ k, (itJ p c a b k).1.length ≤ 12 ∧ (itJ p c a b k).2.length ≤ 12
  | 0 => by have := jacB_len h; simp only [itJ]; omega
  | k + 1 => by
    have := itJ_len p c a b h k
    simp only [itJ, tab_len]; omega
theorem stepsL_len (p c n : Int) (a b : List Int) : (stepsL p c n a b).1.length ≤ 13 ∧ ∀ x, x ∈ (stepsL p c n a b).1 → x.2.1.length ≤ 12 ∧ x.2.2.length ≤ 12 := by
  unfold stepsL
  split
  · rename_i hj
    split
    · rename_i hc
      split
      · simp at hc
        refine ⟨by simp [itL_len]; omega, fun x hx => ?_⟩
        simp only [itL, List.map_map, List.mem_map] at hx
        obtain ⟨i, _, rfl⟩ := hx
        exact itJ_len p c a b hj i
      · simp
    · simp
  · simp
theorem run_lawStepsOfJacobi (p : Int) (a b : List Int) (c n : Int) (h_a : a.length ≤ 9223372036854775807) (h_b : b.length ≤ 9223372036854775807) :
    runv E3 8 [(V.agg [V.int .i64 (p), (V.list (List.length (a)) (List.map (V.int .i64) (a))), (V.list (List.length (b)) (List.map (V.int .i64) (b)))]), (V.int .i64 (c)), (V.int .i64 (n))] = some ⟨true, .bool true, [.agg [.undef, .undef, .undef], .undef, .undef]⟩ := by
  have cdk : codeOk Try.f8.ntmps (Try.f8.body.getD .skip) = true := by kernel_rfl
  refine run_of_WL (E := E3) (fn := Try.f8) rfl Try.func8 rfl ⟨by simp [Try.ntmps8], by simp [wideA, ints], cdk, by simp [Try.f8]⟩ ?_
  have s_a := up3 (up (run_szJacobi p a b (1048576) (by omega) (by omega) h_a h_b))
  by_cases z_a : szJ2 (1048576) a b < 0
  · simp [WL_nil, WL_seq, WL_region, WL_ret, WL_skip, WL_block, WL_inBlock, WL_cond, WC_t, WC_f, WL_label, WL_exitX, WL_gotoX, WX_some, WL_scope, WL_inScope, WL_regionD, WO_cons, WO_nil, WD_some, WOd_cons, WOd_nil, WDd_some, List.nil_append, List.cons_append, stepD, wantV, opD, ev, V.ofC, V.ofS, ret, binV, intOp, unV, St.app, updO, upd, appW, E0_P, E0_m, E0_s, E1_P, E1_m, E1_s, E2_P, E2_m, E2_s, mkSt_fr, mkSt_H, mkSt_nx, mkSt_rs, lookF, modesOf, callOp, evL, calleeV, callD, prepL, prepA, purN, idsN, isRefV, flatO, backW, adopt, adoptA, adoptC, adoptL, adoptT, widthOk, wideA, freezeW, depth, noTup, nodupB, treeN, St.enter, exitTo, gotoIn, findLabel, getO, lenV, bltD, loadD, viewN, V.cells, storeD, mvC, expN, eidN, hasU, optE, sliceNil, eqV, isC, mapM_purN_int, mapM_expN_int, mapM_viewN_int, flatMap_idsN_int, flatMap_eidN_int, any_hasU_int, all_treeN_int, mapM_purN_str, mapM_expN_str, flatMap_idsN_str, flatMap_eidN_str, any_hasU_str, all_treeN_str, ownX, ownI, backO, backL, take_map_full, -List.map_replicate, -List.map_set, -List.map_append, -List.map_reverse, -List.map_take, -List.map_drop, -List.map_tail, -List.any_map, -List.all_map, -List.mapM_map, -List.map_map, slL, szI, ldI, zI, undL, apL, setI, rdI_get, Nat.add_one_le_iff, fillV, zeros1, zeros0, appendD, segV, lvO, goneOf, sliceD, bound, Nat.add_assoc, E3_P, E3_m, E3_s, szL, ldL, setCs0, setCs1, setCs2, setCsA2, setCsA3, ldM, fM0, fM1, szM, zM, plM0, plM1, agM, paM, ldJ, fJ0, fJ1, fJ2, szJ, zJ, plJ0, plJ1, plJ2, agJ, paJ, ldJl, fJl0, fJl1, fJl2, szJl, s_a, z_a]
    simp [Ends, finish, finFresh, finRead, resV, expN, treeN, eidN, outs, outA, outC, outL, outsI, outAI, outI, outIL, nodupB, depth, normR, normA, normL, normC, noTup, oneV, purN, idsN, upd, E0_P, E1_P, E2_P, mkSt_fr, mkSt_H, mkSt_nx, mkSt_rs, lookF, flatO, disjN, getO, mapM_purN_int, mapM_expN_int, flatMap_idsN_int, flatMap_eidN_int, any_hasU_int, all_treeN_int, mapM_purN_str, mapM_expN_str, flatMap_idsN_str, flatMap_eidN_str, any_hasU_str, all_treeN_str, ctBool, ctInt, ctI64, ctL, take_map_full, -List.map_replicate, -List.map_set, -List.map_append, -List.map_reverse, -List.map_take, -List.map_drop, -List.map_tail, -List.any_map, -List.all_map, -List.mapM_map, -List.map_map, Try.f8, E3_P]
  have y_a := szJ2_eq (by omega) z_a
  rw [y_a] at s_a z_a
  have t_a := up3 (up (run_toJacobi p a b (by omega) (by omega)))
  have e_a := up3 (up (run_eqJacobi p a b h_a h_b))
  have h2 := up3 (run_specSteps p c n a b (by omega) (by omega))
  have h3 := up3 (run_implSteps p c n a b (by omega) (by omega))
  rw [stepsR_eq] at h2 h3
  have hs := stepsL_len p c n a b
  generalize stepsL p c n a b = r at h2 h3 hs
  obtain ⟨rl, rc⟩ := r
  simp only at h2 h3 hs
  have er := up3 (run_eqJacobiS rl (by omega) (fun f hf => by have := hs.2 f hf; omega))
  have mr := up3 (up2 (run_markJacobiS 1 rl (by omega) (by omega) (fun f hf => by have := hs.2 f hf; omega)))
  have hr := up3 (run_heldJacobiS 1 rl (by omega) (by omega) (fun f hf => by have := hs.2 f hf; omega))
  have ge := mkT_ge 1 rl rl.length
  have nr : ¬ mkT 1 rl rl.length < 0 := by omega
  have lm := mtri_len 1 rl rl.length
  have m_a := up3 (up (run_markJacobi p a b (1) (by omega) (by omega)))
  have nk : ¬ (1 + (a.length : Int) + (b.length : Int)) < 0 := by omega
  have lt1 := trU_len rl
  have lt2 := trU_len (mtri 1 rl rl.length)
  rw [lm] at lt2
  have tk : List.take (rl.length * 3) (trU rl) = trU rl := List.take_of_length_le (by omega)
  have tm : List.take (rl.length * 3) (trU (mtri 1 rl rl.length)) = trU (mtri 1 rl rl.length) := List.take_of_length_le (by omega)
  have p1 : ∀ H, (trU rl).mapM (purN H 5) = some (trL rl) := fun H => mapM_purN_trU (d := 4) rl
  have p2 : ∀ H, (trU rl).flatMap (idsN H 5) = [] := fun H => flatMap_idsN_trU (d := 4) rl
  have p3 : ∀ H, (trU rl).mapM (expN H 5) = some (trU rl) := fun H => mapM_expN_trU (d := 4) rl
  have p4 : ∀ H, (trU rl).flatMap (eidN H 5) = [] := fun H => flatMap_eidN_trU (d := 4) rl
  have q1 : ∀ H, (trU (mtri 1 rl rl.length)).mapM (purN H 5) = some (trL (mtri 1 rl rl.length)) := fun H => mapM_purN_trU (d := 4) _
  have q2 : ∀ H, (trU (mtri 1 rl rl.length)).flatMap (idsN H 5) = [] := fun H => flatMap_idsN_trU (d := 4) _
  have q5 : (trU (mtri 1 rl rl.length)).all (treeN 5) = true := all_treeN_trU (d := 4) _
  generalize trU (mtri 1 rl rl.length) = U2 at *
  generalize trU rl = U1 at *
  have v1 : rl.length * 3 ≤ 3 * rl.length := by omega
  have v2 : (rl.length * 3 = 3 * rl.length) = True := eq_true (by omega)
  simp [WL_nil, WL_seq, WL_region, WL_ret, WL_skip, WL_block, WL_inBlock, WL_cond, WC_t, WC_f, WL_label, WL_exitX, WL_gotoX, WX_some, WL_scope, WL_inScope, WL_regionD, WO_cons, WO_nil, WD_some, WOd_cons, WOd_nil, WDd_some, List.nil_append, List.cons_append, stepD, wantV, opD, ev, V.ofC, V.ofS, ret, binV, intOp, unV, St.app, updO, upd, appW, E0_P, E0_m, E0_s, E1_P, E1_m, E1_s, E2_P, E2_m, E2_s, mkSt_fr, mkSt_H, mkSt_nx, mkSt_rs, lookF, modesOf, callOp, evL, calleeV, callD, prepL, prepA, purN, idsN, isRefV, flatO, backW, adopt, adoptA, adoptC, adoptL, adoptT, widthOk, wideA, freezeW, depth, noTup, nodupB, treeN, St.enter, exitTo, gotoIn, findLabel, getO, lenV, bltD, loadD, viewN, V.cells, storeD, mvC, expN, eidN, hasU, optE, sliceNil, eqV, isC, mapM_purN_int, mapM_expN_int, mapM_viewN_int, flatMap_idsN_int, flatMap_eidN_int, any_hasU_int, all_treeN_int, mapM_purN_str, mapM_expN_str, flatMap_idsN_str, flatMap_eidN_str, any_hasU_str, all_treeN_str, ownX, ownI, backO, backL, take_map_full, -List.map_replicate, -List.map_set, -List.map_append, -List.map_reverse, -List.map_take, -List.map_drop, -List.map_tail, -List.any_map, -List.all_map, -List.mapM_map, -List.map_map, slL, szI, ldI, zI, undL, apL, setI, rdI_get, Nat.add_one_le_iff, fillV, zeros1, zeros0, appendD, segV, lvO, goneOf, sliceD, bound, Nat.add_assoc, E3_P, E3_m, E3_s, szL, ldL, setCs0, setCs1, setCs2, setCsA2, setCsA3, ldM, fM0, fM1, szM, zM, plM0, plM1, agM, paM, ldJ, fJ0, fJ1, fJ2, szJ, zJ, plJ0, plJ1, plJ2, agJ, paJ, ldJl, fJl0, fJl1, fJl2, szJl, slT3, s_a, z_a, t_a, e_a, h2, h3, er, mr, hr, nr, lm, lt1, lt2, m_a, nk, tk, tm, p1, p2, p3, p4, q1, q2, q5, v1, v2, marks_len]
  repeat refine ⟨by kernel_rfl, by kernel_rfl, ?_⟩
  simp [Ends, finish, finFresh, finRead, resV, expN, treeN, eidN, outs, outA, outC, outL, outsI, outAI, outI, outIL, nodupB, depth, normR, normA, normL, normC, noTup, oneV, purN, idsN, upd, E0_P, E1_P, E2_P, mkSt_fr, mkSt_H, mkSt_nx, mkSt_rs, lookF, flatO, disjN, getO, mapM_purN_int, mapM_expN_int, flatMap_idsN_int, flatMap_eidN_int, any_hasU_int, all_treeN_int, mapM_purN_str, mapM_expN_str, flatMap_idsN_str, flatMap_eidN_str, any_hasU_str, all_treeN_str, ctBool, ctInt, ctI64, ctL, take_map_full, -List.map_replicate, -List.map_set, -List.map_append, -List.map_reverse, -List.map_take, -List.map_drop, -List.map_tail, -List.any_map, -List.all_map, -List.mapM_map, -List.map_map, Try.f8, E3_P]
end Go.Proofs.Ytclebbjpacpbmaa.Ev
