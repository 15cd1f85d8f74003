/- ExpandProduct: both texts and the law. Conditions: none. -/
import Derived.Test.YtclebbjpacpbmaaFnBJ
set_option linter.unusedSimpArgs false
set_option linter.unusedVariables false
namespace Go.Proofs.Ytclebbjpacpbmaa.Ev
open Go Go.Proofs
set_option maxRecDepth 4000
set_option maxHeartbeats 4000000

def prdB (a : List Int) (k l : Int) : Bool := inK a k && (decide (0 ≤ l) && decide (l ≤ (a.length : Int) - k))
def prdR (p : Int) (a b : List Int) (k l : Int) : List Int × Int := if jacB p a b then (if prdB a k l then (expandP p a b (mulP p (pl p a b k.toNat).1 (pl p a b l.toNat).1), 0) else ([], 2)) else ([], 1)
theorem prdR_len (p : Int) (a b : List Int) (k l : Int) (ha : a.length ≤ 1048576) (hb : b.length ≤ 1048576) : (prdR p a b k l).1.length ≤ 1048576 := by
  unfold prdR
  split
  · split
    · rename_i h1 h2
      simp only [prdB, inK, Bool.and_eq_true, decide_eq_true_eq] at h2
      have := mulP_le p (pl p a b k.toNat).1 (pl p a b l.toNat).1
      have := (jacB_len h1).2.1
      have := (pl_le p a b k.toNat).1
      have := (pl_le p a b l.toNat).1
      simp only [expandP_len]; omega
    · simp
  · simp
theorem run_specExpandProduct (p : Int) (a b : List Int) (k l : Int) (ha : a.length ≤ 1048576) (hb : b.length ≤ 1048576) :
    runv E1 19 [(V.agg [V.int .i64 (p), (V.list (List.length (a)) (List.map (V.int .i64) (a))), (V.list (List.length (b)) (List.map (V.int .i64) (b)))]), .int .i64 k, .int .i64 l] = some ⟨true, .tup [(V.uniq 1 (List.length ((prdR p a b k l).1)) (List.map (V.int .i64) ((prdR p a b k l).1))), .int .i64 (prdR p a b k l).2], [.agg [.undef, .undef, .undef], .undef, .undef]⟩ := by
  have cdk : codeOk Try.f19.ntmps (Try.f19.body.getD .skip) = true := by kernel_rfl
  refine run_of_WLr (fn := Try.f19) rfl Try.func19 rfl ⟨by simp [Try.ntmps19], by simp [wideA, ints], cdk, by simp [Try.f19]⟩ rfl (by simp [rebOk, noId, adoptT, adoptA, adoptL, adoptC, depth]) ?_
  have h1 := run_l10Code p a b [k, l] ha hb (by simp)
  simp only [List.length_cons, List.length_nil, List.map_cons, List.map_nil, Nat.zero_add, List.all_cons, List.all_nil, Bool.and_true, Nat.reduceAdd] at h1
  cases e : jacB p a b with
  | false =>
    rw [e] at h1
    simp [WL_nil, WL_seq, WL_region, WL_ret, WL_skip, WL_block, WL_inBlock, WL_cond, WC_t, WC_f, WL_label, WL_exitX, WL_gotoX, WX_some, WL_scope, WL_inScope, WL_regionD, WO_cons, WO_nil, WD_some, WOd_cons, WOd_nil, WDd_some, List.nil_append, List.cons_append, stepD, wantV, opD, ev, V.ofC, V.ofS, ret, binV, intOp, unV, St.app, updO, upd, appW, E0_P, E0_m, E0_s, E1_P, E1_m, E1_s, mkSt_fr, mkSt_H, mkSt_nx, mkSt_rs, lookF, modesOf, callOp, evL, calleeV, callD, prepL, prepA, purN, idsN, isRefV, flatO, backW, adopt, adoptA, adoptC, adoptL, adoptT, widthOk, wideA, freezeW, depth, noTup, nodupB, treeN, St.enter, exitTo, gotoIn, findLabel, getO, lenV, bltD, loadD, viewN, V.cells, storeD, mvC, expN, eidN, hasU, optE, sliceNil, eqV, isC, mapM_purN_int, mapM_expN_int, mapM_viewN_int, flatMap_idsN_int, flatMap_eidN_int, any_hasU_int, all_treeN_int, mapM_purN_str, mapM_expN_str, flatMap_idsN_str, flatMap_eidN_str, any_hasU_str, all_treeN_str, ownX, ownI, backO, backL, take_map_full, -List.map_replicate, -List.map_set, -List.map_append, -List.map_reverse, -List.map_take, -List.map_drop, -List.map_tail, -List.any_map, -List.all_map, -List.mapM_map, -List.map_map, slL, szI, ldI, zI, undL, apL, setI, rdI_get, Nat.add_one_le_iff, fillV, zeros1, zeros0, appendD, segV, lvO, goneOf, sliceD, bound, Nat.add_assoc, szL, ldL, setCs0, setCs1, setCs2, setCsA2, setCsA3, ldM, fM0, fM1, szM, zM, plM0, plM1, agM, paM, ldJ, fJ0, fJ1, fJ2, szJ, zJ, plJ0, plJ1, plJ2, agJ, paJ, ldJl, fJl0, fJl1, fJl2, szJl, h1, zerosV2]
    repeat refine ⟨by kernel_rfl, by kernel_rfl, ?_⟩
    simp [Ends, finish, finFresh, finRead, resV, expN, treeN, eidN, outs, outA, outC, outL, outsI, outAI, outI, outIL, nodupB, depth, normR, normA, normL, normC, noTup, oneV, purN, idsN, upd, E0_P, E1_P, mkSt_fr, mkSt_H, mkSt_nx, mkSt_rs, lookF, flatO, disjN, getO, mapM_purN_int, mapM_expN_int, flatMap_idsN_int, flatMap_eidN_int, any_hasU_int, all_treeN_int, mapM_purN_str, mapM_expN_str, flatMap_idsN_str, flatMap_eidN_str, any_hasU_str, all_treeN_str, ctBool, ctInt, ctI64, ctL, take_map_full, -List.map_replicate, -List.map_set, -List.map_append, -List.map_reverse, -List.map_take, -List.map_drop, -List.map_tail, -List.any_map, -List.all_map, -List.mapM_map, -List.map_map, Try.f19, prdR, e]
  | true =>
    rw [e] at h1
    cases e1 : (inK a k && inK a l) with
    | false =>
      rw [e1] at h1
      have hps : prdR p a b k l = ([], 2) := by
        have : prdB a k l = false := by
          cases h : prdB a k l
          · rfl
          · simp only [prdB, inK, Bool.and_eq_true, decide_eq_true_eq] at h
            simp only [inK, Bool.and_eq_false_iff, decide_eq_false_iff_not] at e1
            omega
        simp only [prdR, e, this]; rfl
      simp [WL_nil, WL_seq, WL_region, WL_ret, WL_skip, WL_block, WL_inBlock, WL_cond, WC_t, WC_f, WL_label, WL_exitX, WL_gotoX, WX_some, WL_scope, WL_inScope, WL_regionD, WO_cons, WO_nil, WD_some, WOd_cons, WOd_nil, WDd_some, List.nil_append, List.cons_append, stepD, wantV, opD, ev, V.ofC, V.ofS, ret, binV, intOp, unV, St.app, updO, upd, appW, E0_P, E0_m, E0_s, E1_P, E1_m, E1_s, mkSt_fr, mkSt_H, mkSt_nx, mkSt_rs, lookF, modesOf, callOp, evL, calleeV, callD, prepL, prepA, purN, idsN, isRefV, flatO, backW, adopt, adoptA, adoptC, adoptL, adoptT, widthOk, wideA, freezeW, depth, noTup, nodupB, treeN, St.enter, exitTo, gotoIn, findLabel, getO, lenV, bltD, loadD, viewN, V.cells, storeD, mvC, expN, eidN, hasU, optE, sliceNil, eqV, isC, mapM_purN_int, mapM_expN_int, mapM_viewN_int, flatMap_idsN_int, flatMap_eidN_int, any_hasU_int, all_treeN_int, mapM_purN_str, mapM_expN_str, flatMap_idsN_str, flatMap_eidN_str, any_hasU_str, all_treeN_str, ownX, ownI, backO, backL, take_map_full, -List.map_replicate, -List.map_set, -List.map_append, -List.map_reverse, -List.map_take, -List.map_drop, -List.map_tail, -List.any_map, -List.all_map, -List.mapM_map, -List.map_map, slL, szI, ldI, zI, undL, apL, setI, rdI_get, Nat.add_one_le_iff, fillV, zeros1, zeros0, appendD, segV, lvO, goneOf, sliceD, bound, Nat.add_assoc, szL, ldL, setCs0, setCs1, setCs2, setCsA2, setCsA3, ldM, fM0, fM1, szM, zM, plM0, plM1, agM, paM, ldJ, fJ0, fJ1, fJ2, szJ, zJ, plJ0, plJ1, plJ2, agJ, paJ, ldJl, fJl0, fJl1, fJl2, szJl, h1, zerosV2]
      repeat refine ⟨by kernel_rfl, by kernel_rfl, ?_⟩
      simp [Ends, finish, finFresh, finRead, resV, expN, treeN, eidN, outs, outA, outC, outL, outsI, outAI, outI, outIL, nodupB, depth, normR, normA, normL, normC, noTup, oneV, purN, idsN, upd, E0_P, E1_P, mkSt_fr, mkSt_H, mkSt_nx, mkSt_rs, lookF, flatO, disjN, getO, mapM_purN_int, mapM_expN_int, flatMap_idsN_int, flatMap_eidN_int, any_hasU_int, all_treeN_int, mapM_purN_str, mapM_expN_str, flatMap_idsN_str, flatMap_eidN_str, any_hasU_str, all_treeN_str, ctBool, ctInt, ctI64, ctL, take_map_full, -List.map_replicate, -List.map_set, -List.map_append, -List.map_reverse, -List.map_take, -List.map_drop, -List.map_tail, -List.any_map, -List.all_map, -List.mapM_map, -List.map_map, Try.f19, hps]
    | true =>
      rw [e1] at h1
      have hp := jacB_prime e
      have hl := jacB_len e
      simp only [inK, Bool.and_eq_true, decide_eq_true_eq] at e1
      obtain ⟨K, rfl⟩ : ∃ K : Nat, k = K := ⟨k.toNat, by omega⟩
      obtain ⟨L, rfl⟩ : ∃ L : Nat, l = L := ⟨l.toNat, by omega⟩
      have w1 : IntKind.i64.wrap ((K : Int) + L) = (K : Int) + L := IntWalk.i64_in _ (by omega)
      by_cases c : (a.length : Int) < (K : Int) + L
      · have hps : prdR p a b K L = ([], 2) := by
          have : prdB a K L = false := by
            cases h : prdB a K L
            · rfl
            · simp only [prdB, inK, Bool.and_eq_true, decide_eq_true_eq] at h
              omega
          simp only [prdR, e, this]; rfl
        simp [WL_nil, WL_seq, WL_region, WL_ret, WL_skip, WL_block, WL_inBlock, WL_cond, WC_t, WC_f, WL_label, WL_exitX, WL_gotoX, WX_some, WL_scope, WL_inScope, WL_regionD, WO_cons, WO_nil, WD_some, WOd_cons, WOd_nil, WDd_some, List.nil_append, List.cons_append, stepD, wantV, opD, ev, V.ofC, V.ofS, ret, binV, intOp, unV, St.app, updO, upd, appW, E0_P, E0_m, E0_s, E1_P, E1_m, E1_s, mkSt_fr, mkSt_H, mkSt_nx, mkSt_rs, lookF, modesOf, callOp, evL, calleeV, callD, prepL, prepA, purN, idsN, isRefV, flatO, backW, adopt, adoptA, adoptC, adoptL, adoptT, widthOk, wideA, freezeW, depth, noTup, nodupB, treeN, St.enter, exitTo, gotoIn, findLabel, getO, lenV, bltD, loadD, viewN, V.cells, storeD, mvC, expN, eidN, hasU, optE, sliceNil, eqV, isC, mapM_purN_int, mapM_expN_int, mapM_viewN_int, flatMap_idsN_int, flatMap_eidN_int, any_hasU_int, all_treeN_int, mapM_purN_str, mapM_expN_str, flatMap_idsN_str, flatMap_eidN_str, any_hasU_str, all_treeN_str, ownX, ownI, backO, backL, take_map_full, -List.map_replicate, -List.map_set, -List.map_append, -List.map_reverse, -List.map_take, -List.map_drop, -List.map_tail, -List.any_map, -List.all_map, -List.mapM_map, -List.map_map, slL, szI, ldI, zI, undL, apL, setI, rdI_get, Nat.add_one_le_iff, fillV, zeros1, zeros0, appendD, segV, lvO, goneOf, sliceD, bound, Nat.add_assoc, szL, ldL, setCs0, setCs1, setCs2, setCsA2, setCsA3, ldM, fM0, fM1, szM, zM, plM0, plM1, agM, paM, ldJ, fJ0, fJ1, fJ2, szJ, zJ, plJ0, plJ1, plJ2, agJ, paJ, ldJl, fJl0, fJl1, fJl2, szJl, h1, zerosV2, w1, c]
        repeat refine ⟨by kernel_rfl, by kernel_rfl, ?_⟩
        simp [Ends, finish, finFresh, finRead, resV, expN, treeN, eidN, outs, outA, outC, outL, outsI, outAI, outI, outIL, nodupB, depth, normR, normA, normL, normC, noTup, oneV, purN, idsN, upd, E0_P, E1_P, mkSt_fr, mkSt_H, mkSt_nx, mkSt_rs, lookF, flatO, disjN, getO, mapM_purN_int, mapM_expN_int, flatMap_idsN_int, flatMap_eidN_int, any_hasU_int, all_treeN_int, mapM_purN_str, mapM_expN_str, flatMap_idsN_str, flatMap_eidN_str, any_hasU_str, all_treeN_str, ctBool, ctInt, ctI64, ctL, take_map_full, -List.map_replicate, -List.map_set, -List.map_append, -List.map_reverse, -List.map_take, -List.map_drop, -List.map_tail, -List.any_map, -List.all_map, -List.mapM_map, -List.map_map, Try.f19, hps]
      · have hps : prdR p a b K L = (expandP p a b (mulP p (pl p a b K).1 (pl p a b L).1), 0) := by
          have : prdB a K L = true := by
            simp only [prdB, inK, Bool.and_eq_true, decide_eq_true_eq]; omega
          simp only [prdR, e, this, Int.toNat_natCast]; rfl
        have h2 := run_l03Poly p a b K e (by omega)
        have h3 := run_l03Poly p a b L e (by omega)
        have l2 := (pl_le p a b K).1
        have f2 := (pl_fine hp a b K).1
        have l3 := (pl_le p a b L).1
        have f3 := (pl_fine hp a b L).1
        generalize (pl p a b K).1 = f at *
        generalize (pl p a b L).1 = g at *
        have h4 := run_l01Times p f g hp f2 f3 (by omega) (by omega)
        have l4 := mulP_le p f g
        have f4 := mulP_fine hp f g
        generalize mulP p f g = m at *
        have h5 := run_l10Expand p a b m e (by omega) f4
        have lE := expandP_len p a b m
        simp [WL_nil, WL_seq, WL_region, WL_ret, WL_skip, WL_block, WL_inBlock, WL_cond, WC_t, WC_f, WL_label, WL_exitX, WL_gotoX, WX_some, WL_scope, WL_inScope, WL_regionD, WO_cons, WO_nil, WD_some, WOd_cons, WOd_nil, WDd_some, List.nil_append, List.cons_append, stepD, wantV, opD, ev, V.ofC, V.ofS, ret, binV, intOp, unV, St.app, updO, upd, appW, E0_P, E0_m, E0_s, E1_P, E1_m, E1_s, mkSt_fr, mkSt_H, mkSt_nx, mkSt_rs, lookF, modesOf, callOp, evL, calleeV, callD, prepL, prepA, purN, idsN, isRefV, flatO, backW, adopt, adoptA, adoptC, adoptL, adoptT, widthOk, wideA, freezeW, depth, noTup, nodupB, treeN, St.enter, exitTo, gotoIn, findLabel, getO, lenV, bltD, loadD, viewN, V.cells, storeD, mvC, expN, eidN, hasU, optE, sliceNil, eqV, isC, mapM_purN_int, mapM_expN_int, mapM_viewN_int, flatMap_idsN_int, flatMap_eidN_int, any_hasU_int, all_treeN_int, mapM_purN_str, mapM_expN_str, flatMap_idsN_str, flatMap_eidN_str, any_hasU_str, all_treeN_str, ownX, ownI, backO, backL, take_map_full, -List.map_replicate, -List.map_set, -List.map_append, -List.map_reverse, -List.map_take, -List.map_drop, -List.map_tail, -List.any_map, -List.all_map, -List.mapM_map, -List.map_map, slL, szI, ldI, zI, undL, apL, setI, rdI_get, Nat.add_one_le_iff, fillV, zeros1, zeros0, appendD, segV, lvO, goneOf, sliceD, bound, Nat.add_assoc, szL, ldL, setCs0, setCs1, setCs2, setCsA2, setCsA3, ldM, fM0, fM1, szM, zM, plM0, plM1, agM, paM, ldJ, fJ0, fJ1, fJ2, szJ, zJ, plJ0, plJ1, plJ2, agJ, paJ, ldJl, fJl0, fJl1, fJl2, szJl, h1, h2, h3, h4, h5, lE, zerosV2, w1, c]
        repeat refine ⟨by kernel_rfl, by kernel_rfl, ?_⟩
        simp [Ends, finish, finFresh, finRead, resV, expN, treeN, eidN, outs, outA, outC, outL, outsI, outAI, outI, outIL, nodupB, depth, normR, normA, normL, normC, noTup, oneV, purN, idsN, upd, E0_P, E1_P, mkSt_fr, mkSt_H, mkSt_nx, mkSt_rs, lookF, flatO, disjN, getO, mapM_purN_int, mapM_expN_int, flatMap_idsN_int, flatMap_eidN_int, any_hasU_int, all_treeN_int, mapM_purN_str, mapM_expN_str, flatMap_idsN_str, flatMap_eidN_str, any_hasU_str, all_treeN_str, ctBool, ctInt, ctI64, ctL, take_map_full, -List.map_replicate, -List.map_set, -List.map_append, -List.map_reverse, -List.map_take, -List.map_drop, -List.map_tail, -List.any_map, -List.all_map, -List.mapM_map, -List.map_map, Try.f19, hps, lE]
theorem run_implExpandProduct (p : Int) (a b : List Int) (k l : Int) (ha : a.length ≤ 1048576) (hb : b.length ≤ 1048576) :
    runv E1 20 [(V.agg [V.int .i64 (p), (V.list (List.length (a)) (List.map (V.int .i64) (a))), (V.list (List.length (b)) (List.map (V.int .i64) (b)))]), .int .i64 k, .int .i64 l] = some ⟨true, .tup [(V.uniq 1 (List.length ((prdR p a b k l).1)) (List.map (V.int .i64) ((prdR p a b k l).1))), .int .i64 (prdR p a b k l).2], [.agg [.undef, .undef, .undef], .undef, .undef]⟩ := by
  have cdk : codeOk Try.f20.ntmps (Try.f20.body.getD .skip) = true := by kernel_rfl
  refine run_of_WLr (fn := Try.f20) rfl Try.func20 rfl ⟨by simp [Try.ntmps20], by simp [wideA, ints], cdk, by simp [Try.f20]⟩ rfl (by simp [rebOk, noId, adoptT, adoptA, adoptL, adoptC, depth]) ?_
  have g2 := up (run_within k 0 (a.length : Int))
  rw [show (decide (0 ≤ k) && decide (k ≤ (a.length : Int))) = inK a k from rfl] at g2
  have g3 := up (run_Jfield p a b)
  have g4 := up (run_Jsize p a b)
  cases e1 : inK a k with
  | false =>
    rw [e1] at g2
    have h1 := up (run_jacobiCode p a b false (by omega) (by omega))
    have hps : prdR p a b k l = ([], if jacB p a b then 2 else 1) := by
      simp only [prdR, prdB, e1]
      cases jacB p a b <;> rfl
    cases e : jacB p a b <;> rw [e] at h1 hps <;> simp only [Bool.false_eq_true, if_false, if_true] at h1 hps <;> simp [WL_nil, WL_seq, WL_region, WL_ret, WL_skip, WL_block, WL_inBlock, WL_cond, WC_t, WC_f, WL_label, WL_exitX, WL_gotoX, WX_some, WL_scope, WL_inScope, WL_regionD, WO_cons, WO_nil, WD_some, WOd_cons, WOd_nil, WDd_some, List.nil_append, List.cons_append, stepD, wantV, opD, ev, V.ofC, V.ofS, ret, binV, intOp, unV, St.app, updO, upd, appW, E0_P, E0_m, E0_s, E1_P, E1_m, E1_s, mkSt_fr, mkSt_H, mkSt_nx, mkSt_rs, lookF, modesOf, callOp, evL, calleeV, callD, prepL, prepA, purN, idsN, isRefV, flatO, backW, adopt, adoptA, adoptC, adoptL, adoptT, widthOk, wideA, freezeW, depth, noTup, nodupB, treeN, St.enter, exitTo, gotoIn, findLabel, getO, lenV, bltD, loadD, viewN, V.cells, storeD, mvC, expN, eidN, hasU, optE, sliceNil, eqV, isC, mapM_purN_int, mapM_expN_int, mapM_viewN_int, flatMap_idsN_int, flatMap_eidN_int, any_hasU_int, all_treeN_int, mapM_purN_str, mapM_expN_str, flatMap_idsN_str, flatMap_eidN_str, any_hasU_str, all_treeN_str, ownX, ownI, backO, backL, take_map_full, -List.map_replicate, -List.map_set, -List.map_append, -List.map_reverse, -List.map_take, -List.map_drop, -List.map_tail, -List.any_map, -List.all_map, -List.mapM_map, -List.map_map, slL, szI, ldI, zI, undL, apL, setI, rdI_get, Nat.add_one_le_iff, fillV, zeros1, zeros0, appendD, segV, lvO, goneOf, sliceD, bound, Nat.add_assoc, szL, ldL, setCs0, setCs1, setCs2, setCsA2, setCsA3, ldM, fM0, fM1, szM, zM, plM0, plM1, agM, paM, ldJ, fJ0, fJ1, fJ2, szJ, zJ, plJ0, plJ1, plJ2, agJ, paJ, ldJl, fJl0, fJl1, fJl2, szJl, g2, g3, g4, h1] <;> (repeat refine ⟨by kernel_rfl, by kernel_rfl, ?_⟩) <;> simp [Ends, finish, finFresh, finRead, resV, expN, treeN, eidN, outs, outA, outC, outL, outsI, outAI, outI, outIL, nodupB, depth, normR, normA, normL, normC, noTup, oneV, purN, idsN, upd, E0_P, E1_P, mkSt_fr, mkSt_H, mkSt_nx, mkSt_rs, lookF, flatO, disjN, getO, mapM_purN_int, mapM_expN_int, flatMap_idsN_int, flatMap_eidN_int, any_hasU_int, all_treeN_int, mapM_purN_str, mapM_expN_str, flatMap_idsN_str, flatMap_eidN_str, any_hasU_str, all_treeN_str, ctBool, ctInt, ctI64, ctL, take_map_full, -List.map_replicate, -List.map_set, -List.map_append, -List.map_reverse, -List.map_take, -List.map_drop, -List.map_tail, -List.any_map, -List.all_map, -List.mapM_map, -List.map_map, Try.f20, hps]
  | true =>
    rw [e1] at g2
    have e1' := e1
    simp only [inK, Bool.and_eq_true, decide_eq_true_eq] at e1'
    obtain ⟨K, rfl⟩ : ∃ K : Nat, k = K := ⟨k.toNat, by omega⟩
    have w1 : IntKind.i64.wrap ((a.length : Int) - K) = (a.length : Int) - K := IntWalk.i64_in _ (by omega)
    have g5 := up (run_within l 0 ((a.length : Int) - K))
    have h1 := up (run_jacobiCode p a b (decide (0 ≤ l) && decide (l ≤ (a.length : Int) - K)) (by omega) (by omega))
    cases e : jacB p a b with
    | false =>
      rw [e] at h1
      simp only [Bool.false_eq_true, if_false] at h1
      cases e2 : (decide (0 ≤ l) && decide (l ≤ (a.length : Int) - K)) <;> rw [e2] at g5 h1 <;> simp [WL_nil, WL_seq, WL_region, WL_ret, WL_skip, WL_block, WL_inBlock, WL_cond, WC_t, WC_f, WL_label, WL_exitX, WL_gotoX, WX_some, WL_scope, WL_inScope, WL_regionD, WO_cons, WO_nil, WD_some, WOd_cons, WOd_nil, WDd_some, List.nil_append, List.cons_append, stepD, wantV, opD, ev, V.ofC, V.ofS, ret, binV, intOp, unV, St.app, updO, upd, appW, E0_P, E0_m, E0_s, E1_P, E1_m, E1_s, mkSt_fr, mkSt_H, mkSt_nx, mkSt_rs, lookF, modesOf, callOp, evL, calleeV, callD, prepL, prepA, purN, idsN, isRefV, flatO, backW, adopt, adoptA, adoptC, adoptL, adoptT, widthOk, wideA, freezeW, depth, noTup, nodupB, treeN, St.enter, exitTo, gotoIn, findLabel, getO, lenV, bltD, loadD, viewN, V.cells, storeD, mvC, expN, eidN, hasU, optE, sliceNil, eqV, isC, mapM_purN_int, mapM_expN_int, mapM_viewN_int, flatMap_idsN_int, flatMap_eidN_int, any_hasU_int, all_treeN_int, mapM_purN_str, mapM_expN_str, flatMap_idsN_str, flatMap_eidN_str, any_hasU_str, all_treeN_str, ownX, ownI, backO, backL, take_map_full, -List.map_replicate, -List.map_set, -List.map_append, -List.map_reverse, -List.map_take, -List.map_drop, -List.map_tail, -List.any_map, -List.all_map, -List.mapM_map, -List.map_map, slL, szI, ldI, zI, undL, apL, setI, rdI_get, Nat.add_one_le_iff, fillV, zeros1, zeros0, appendD, segV, lvO, goneOf, sliceD, bound, Nat.add_assoc, szL, ldL, setCs0, setCs1, setCs2, setCsA2, setCsA3, ldM, fM0, fM1, szM, zM, plM0, plM1, agM, paM, ldJ, fJ0, fJ1, fJ2, szJ, zJ, plJ0, plJ1, plJ2, agJ, paJ, ldJl, fJl0, fJl1, fJl2, szJl, g2, g3, g4, g5, h1, w1] <;> (repeat refine ⟨by kernel_rfl, by kernel_rfl, ?_⟩) <;> simp [Ends, finish, finFresh, finRead, resV, expN, treeN, eidN, outs, outA, outC, outL, outsI, outAI, outI, outIL, nodupB, depth, normR, normA, normL, normC, noTup, oneV, purN, idsN, upd, E0_P, E1_P, mkSt_fr, mkSt_H, mkSt_nx, mkSt_rs, lookF, flatO, disjN, getO, mapM_purN_int, mapM_expN_int, flatMap_idsN_int, flatMap_eidN_int, any_hasU_int, all_treeN_int, mapM_purN_str, mapM_expN_str, flatMap_idsN_str, flatMap_eidN_str, any_hasU_str, all_treeN_str, ctBool, ctInt, ctI64, ctL, take_map_full, -List.map_replicate, -List.map_set, -List.map_append, -List.map_reverse, -List.map_take, -List.map_drop, -List.map_tail, -List.any_map, -List.all_map, -List.mapM_map, -List.map_map, Try.f20, prdR, e]
    | true =>
      rw [e] at h1
      cases e2 : (decide (0 ≤ l) && decide (l ≤ (a.length : Int) - K)) with
      | false =>
        rw [e2] at g5 h1
        have hps : prdR p a b K l = ([], 2) := by simp only [prdR, prdB, e, e1, e2]; rfl
        simp only [Bool.false_eq_true, if_false, if_true] at h1
        simp [WL_nil, WL_seq, WL_region, WL_ret, WL_skip, WL_block, WL_inBlock, WL_cond, WC_t, WC_f, WL_label, WL_exitX, WL_gotoX, WX_some, WL_scope, WL_inScope, WL_regionD, WO_cons, WO_nil, WD_some, WOd_cons, WOd_nil, WDd_some, List.nil_append, List.cons_append, stepD, wantV, opD, ev, V.ofC, V.ofS, ret, binV, intOp, unV, St.app, updO, upd, appW, E0_P, E0_m, E0_s, E1_P, E1_m, E1_s, mkSt_fr, mkSt_H, mkSt_nx, mkSt_rs, lookF, modesOf, callOp, evL, calleeV, callD, prepL, prepA, purN, idsN, isRefV, flatO, backW, adopt, adoptA, adoptC, adoptL, adoptT, widthOk, wideA, freezeW, depth, noTup, nodupB, treeN, St.enter, exitTo, gotoIn, findLabel, getO, lenV, bltD, loadD, viewN, V.cells, storeD, mvC, expN, eidN, hasU, optE, sliceNil, eqV, isC, mapM_purN_int, mapM_expN_int, mapM_viewN_int, flatMap_idsN_int, flatMap_eidN_int, any_hasU_int, all_treeN_int, mapM_purN_str, mapM_expN_str, flatMap_idsN_str, flatMap_eidN_str, any_hasU_str, all_treeN_str, ownX, ownI, backO, backL, take_map_full, -List.map_replicate, -List.map_set, -List.map_append, -List.map_reverse, -List.map_take, -List.map_drop, -List.map_tail, -List.any_map, -List.all_map, -List.mapM_map, -List.map_map, slL, szI, ldI, zI, undL, apL, setI, rdI_get, Nat.add_one_le_iff, fillV, zeros1, zeros0, appendD, segV, lvO, goneOf, sliceD, bound, Nat.add_assoc, szL, ldL, setCs0, setCs1, setCs2, setCsA2, setCsA3, ldM, fM0, fM1, szM, zM, plM0, plM1, agM, paM, ldJ, fJ0, fJ1, fJ2, szJ, zJ, plJ0, plJ1, plJ2, agJ, paJ, ldJl, fJl0, fJl1, fJl2, szJl, g2, g3, g4, g5, h1, w1]
        repeat refine ⟨by kernel_rfl, by kernel_rfl, ?_⟩
        simp [Ends, finish, finFresh, finRead, resV, expN, treeN, eidN, outs, outA, outC, outL, outsI, outAI, outI, outIL, nodupB, depth, normR, normA, normL, normC, noTup, oneV, purN, idsN, upd, E0_P, E1_P, mkSt_fr, mkSt_H, mkSt_nx, mkSt_rs, lookF, flatO, disjN, getO, mapM_purN_int, mapM_expN_int, flatMap_idsN_int, flatMap_eidN_int, any_hasU_int, all_treeN_int, mapM_purN_str, mapM_expN_str, flatMap_idsN_str, flatMap_eidN_str, any_hasU_str, all_treeN_str, ctBool, ctInt, ctI64, ctL, take_map_full, -List.map_replicate, -List.map_set, -List.map_append, -List.map_reverse, -List.map_take, -List.map_drop, -List.map_tail, -List.any_map, -List.all_map, -List.mapM_map, -List.map_map, Try.f20, hps]
      | true =>
        rw [e2] at g5 h1
        have hp := jacB_prime e
        have hl := jacB_len e
        simp only [if_true] at h1
        have hps : prdR p a b K l = (expandP p a b (mulP p (pl p a b K).1 (pl p a b l.toNat).1), 0) := by simp only [prdR, prdB, e, e1, e2, Int.toNat_natCast]; rfl
        simp only [Bool.and_eq_true, decide_eq_true_eq] at e2
        obtain ⟨L, rfl⟩ : ∃ L : Nat, l = L := ⟨l.toNat, by omega⟩
        rw [Int.toNat_natCast] at hps
        have h2 := run_polys p a b e
        have tk : List.take (a.length + 1) (List.map UV (prow p a b (a.length + 1))) = List.map UV (prow p a b (a.length + 1)) := take_map_full (by rw [prow_len]; exact Nat.le_refl _)
        have l2 := (pl_le p a b K).1
        have f2 := (pl_fine hp a b K).1
        have l3 := (pl_le p a b L).1
        have f3 := (pl_fine hp a b L).1
        have hK : K < a.length + 1 := by omega
        have hKi : (K : Int) < (a.length : Int) + 1 := by omega
        have hL : L < a.length + 1 := by omega
        have hLi : (L : Int) < (a.length : Int) + 1 := by omega
        have h4 := run_product p (pl p a b K).1 (pl p a b L).1 hp f2 f3 (by omega) (by omega)
        have l4 := mulP_le p (pl p a b K).1 (pl p a b L).1
        have f4 := mulP_fine hp (pl p a b K).1 (pl p a b L).1
        generalize mulP p (pl p a b K).1 (pl p a b L).1 = m at *
        have h5 := run_expand p a b m e (by omega) f4
        have lE := expandP_len p a b m
        simp [WL_nil, WL_seq, WL_region, WL_ret, WL_skip, WL_block, WL_inBlock, WL_cond, WC_t, WC_f, WL_label, WL_exitX, WL_gotoX, WX_some, WL_scope, WL_inScope, WL_regionD, WO_cons, WO_nil, WD_some, WOd_cons, WOd_nil, WDd_some, List.nil_append, List.cons_append, stepD, wantV, opD, ev, V.ofC, V.ofS, ret, binV, intOp, unV, St.app, updO, upd, appW, E0_P, E0_m, E0_s, E1_P, E1_m, E1_s, mkSt_fr, mkSt_H, mkSt_nx, mkSt_rs, lookF, modesOf, callOp, evL, calleeV, callD, prepL, prepA, purN, idsN, isRefV, flatO, backW, adopt, adoptA, adoptC, adoptL, adoptT, widthOk, wideA, freezeW, depth, noTup, nodupB, treeN, St.enter, exitTo, gotoIn, findLabel, getO, lenV, bltD, loadD, viewN, V.cells, storeD, mvC, expN, eidN, hasU, optE, sliceNil, eqV, isC, mapM_purN_int, mapM_expN_int, mapM_viewN_int, flatMap_idsN_int, flatMap_eidN_int, any_hasU_int, all_treeN_int, mapM_purN_str, mapM_expN_str, flatMap_idsN_str, flatMap_eidN_str, any_hasU_str, all_treeN_str, ownX, ownI, backO, backL, take_map_full, -List.map_replicate, -List.map_set, -List.map_append, -List.map_reverse, -List.map_take, -List.map_drop, -List.map_tail, -List.any_map, -List.all_map, -List.mapM_map, -List.map_map, slL, szI, ldI, zI, undL, apL, setI, rdI_get, Nat.add_one_le_iff, fillV, zeros1, zeros0, appendD, segV, lvO, goneOf, sliceD, bound, Nat.add_assoc, szL, ldL, setCs0, setCs1, setCs2, setCsA2, setCsA3, ldM, fM0, fM1, szM, zM, plM0, plM1, agM, paM, ldJ, fJ0, fJ1, fJ2, szJ, zJ, plJ0, plJ1, plJ2, agJ, paJ, ldJl, fJl0, fJl1, fJl2, szJl, g2, g3, g4, g5, w1, h1, h2, h4, h5, lE, hK, hKi, hL, hLi, prow_get, prow_len, viewN_UV, LV, slR, tk, mapM_purN_UV, flatMap_idsN_UV, any_hasU_UV]
        repeat refine ⟨by kernel_rfl, by kernel_rfl, ?_⟩
        simp [Ends, finish, finFresh, finRead, resV, expN, treeN, eidN, outs, outA, outC, outL, outsI, outAI, outI, outIL, nodupB, depth, normR, normA, normL, normC, noTup, oneV, purN, idsN, upd, E0_P, E1_P, mkSt_fr, mkSt_H, mkSt_nx, mkSt_rs, lookF, flatO, disjN, getO, mapM_purN_int, mapM_expN_int, flatMap_idsN_int, flatMap_eidN_int, any_hasU_int, all_treeN_int, mapM_purN_str, mapM_expN_str, flatMap_idsN_str, flatMap_eidN_str, any_hasU_str, all_treeN_str, ctBool, ctInt, ctI64, ctL, take_map_full, -List.map_replicate, -List.map_set, -List.map_append, -List.map_reverse, -List.map_take, -List.map_drop, -List.map_tail, -List.any_map, -List.all_map, -List.mapM_map, -List.map_map, Try.f20, hps, lE]
theorem run_lawExpandProduct (p : Int) (a b : List Int) (k : Int) (l : Int) (h_a : a.length ≤ 9223372036854775807) (h_b : b.length ≤ 9223372036854775807) :
    runv E1 4 [(V.agg [V.int .i64 (p), (V.list (List.length (a)) (List.map (V.int .i64) (a))), (V.list (List.length (b)) (List.map (V.int .i64) (b)))]), (V.int .i64 (k)), (V.int .i64 (l))] = some ⟨true, .bool true, [.agg [.undef, .undef, .undef], .undef, .undef]⟩ := by
  have cdk : codeOk Try.f4.ntmps (Try.f4.body.getD .skip) = true := by kernel_rfl
  refine run_of_WLr (fn := Try.f4) rfl Try.func4 rfl ⟨by simp [Try.ntmps4], by simp [wideA, ints], cdk, by simp [Try.f4]⟩ rfl (by simp [rebOk, noId, adoptT, adoptA, adoptL, adoptC, depth]) ?_
  have s_a := up (run_szJacobi p a b (1048576) (by omega) (by omega) h_a h_b)
  by_cases z_a : szJ2 (1048576) a b < 0
  · simp [WL_nil, WL_seq, WL_region, WL_ret, WL_skip, WL_block, WL_inBlock, WL_cond, WC_t, WC_f, WL_label, WL_exitX, WL_gotoX, WX_some, WL_scope, WL_inScope, WL_regionD, WO_cons, WO_nil, WD_some, WOd_cons, WOd_nil, WDd_some, List.nil_append, List.cons_append, stepD, wantV, opD, ev, V.ofC, V.ofS, ret, binV, intOp, unV, St.app, updO, upd, appW, E0_P, E0_m, E0_s, E1_P, E1_m, E1_s, mkSt_fr, mkSt_H, mkSt_nx, mkSt_rs, lookF, modesOf, callOp, evL, calleeV, callD, prepL, prepA, purN, idsN, isRefV, flatO, backW, adopt, adoptA, adoptC, adoptL, adoptT, widthOk, wideA, freezeW, depth, noTup, nodupB, treeN, St.enter, exitTo, gotoIn, findLabel, getO, lenV, bltD, loadD, viewN, V.cells, storeD, mvC, expN, eidN, hasU, optE, sliceNil, eqV, isC, mapM_purN_int, mapM_expN_int, mapM_viewN_int, flatMap_idsN_int, flatMap_eidN_int, any_hasU_int, all_treeN_int, mapM_purN_str, mapM_expN_str, flatMap_idsN_str, flatMap_eidN_str, any_hasU_str, all_treeN_str, ownX, ownI, backO, backL, take_map_full, -List.map_replicate, -List.map_set, -List.map_append, -List.map_reverse, -List.map_take, -List.map_drop, -List.map_tail, -List.any_map, -List.all_map, -List.mapM_map, -List.map_map, slL, szI, ldI, zI, undL, apL, setI, rdI_get, Nat.add_one_le_iff, fillV, zeros1, zeros0, appendD, segV, lvO, goneOf, sliceD, bound, Nat.add_assoc, szL, ldL, setCs0, setCs1, setCs2, setCsA2, setCsA3, ldM, fM0, fM1, szM, zM, plM0, plM1, agM, paM, ldJ, fJ0, fJ1, fJ2, szJ, zJ, plJ0, plJ1, plJ2, agJ, paJ, ldJl, fJl0, fJl1, fJl2, szJl, s_a, z_a]
    simp [Ends, finish, finFresh, finRead, resV, expN, treeN, eidN, outs, outA, outC, outL, outsI, outAI, outI, outIL, nodupB, depth, normR, normA, normL, normC, noTup, oneV, purN, idsN, upd, E0_P, E1_P, mkSt_fr, mkSt_H, mkSt_nx, mkSt_rs, lookF, flatO, disjN, getO, mapM_purN_int, mapM_expN_int, flatMap_idsN_int, flatMap_eidN_int, any_hasU_int, all_treeN_int, mapM_purN_str, mapM_expN_str, flatMap_idsN_str, flatMap_eidN_str, any_hasU_str, all_treeN_str, ctBool, ctInt, ctI64, ctL, take_map_full, -List.map_replicate, -List.map_set, -List.map_append, -List.map_reverse, -List.map_take, -List.map_drop, -List.map_tail, -List.any_map, -List.all_map, -List.mapM_map, -List.map_map, Try.f4]
  have y_a := szJ2_eq (by omega) z_a
  rw [y_a] at s_a z_a
  have t_a := up (run_toJacobi p a b (by omega) (by omega))
  have e_a := up (run_eqJacobi p a b h_a h_b)
  have h2 := run_specExpandProduct p a b k l (by omega) (by omega)
  have h3 := run_implExpandProduct p a b k l (by omega) (by omega)
  have hs := prdR_len p a b k l (by omega) (by omega)
  generalize prdR p a b k l = r at h2 h3 hs
  obtain ⟨rl, rc⟩ := r
  simp only at h2 h3 hs
  have er := up (run_eqInt64S rl rl (by omega))
  rw [decide_eq_true rfl] at er
  have mr := up (run_markInt64S rl 1 (by omega) (by omega))
  have hr := up (run_heldInt64S rl.length 1 (by omega) (by omega))
  have nr : ¬ (1 + (rl.length : Int)) < 0 := by omega
  have m_a := up (run_markJacobi p a b (1) (by omega) (by omega))
  have nk : ¬ (1 + (a.length : Int) + (b.length : Int)) < 0 := by omega
  simp [WL_nil, WL_seq, WL_region, WL_ret, WL_skip, WL_block, WL_inBlock, WL_cond, WC_t, WC_f, WL_label, WL_exitX, WL_gotoX, WX_some, WL_scope, WL_inScope, WL_regionD, WO_cons, WO_nil, WD_some, WOd_cons, WOd_nil, WDd_some, List.nil_append, List.cons_append, stepD, wantV, opD, ev, V.ofC, V.ofS, ret, binV, intOp, unV, St.app, updO, upd, appW, E0_P, E0_m, E0_s, E1_P, E1_m, E1_s, mkSt_fr, mkSt_H, mkSt_nx, mkSt_rs, lookF, modesOf, callOp, evL, calleeV, callD, prepL, prepA, purN, idsN, isRefV, flatO, backW, adopt, adoptA, adoptC, adoptL, adoptT, widthOk, wideA, freezeW, depth, noTup, nodupB, treeN, St.enter, exitTo, gotoIn, findLabel, getO, lenV, bltD, loadD, viewN, V.cells, storeD, mvC, expN, eidN, hasU, optE, sliceNil, eqV, isC, mapM_purN_int, mapM_expN_int, mapM_viewN_int, flatMap_idsN_int, flatMap_eidN_int, any_hasU_int, all_treeN_int, mapM_purN_str, mapM_expN_str, flatMap_idsN_str, flatMap_eidN_str, any_hasU_str, all_treeN_str, ownX, ownI, backO, backL, take_map_full, -List.map_replicate, -List.map_set, -List.map_append, -List.map_reverse, -List.map_take, -List.map_drop, -List.map_tail, -List.any_map, -List.all_map, -List.mapM_map, -List.map_map, slL, szI, ldI, zI, undL, apL, setI, rdI_get, Nat.add_one_le_iff, fillV, zeros1, zeros0, appendD, segV, lvO, goneOf, sliceD, bound, Nat.add_assoc, szL, ldL, setCs0, setCs1, setCs2, setCsA2, setCsA3, ldM, fM0, fM1, szM, zM, plM0, plM1, agM, paM, ldJ, fJ0, fJ1, fJ2, szJ, zJ, plJ0, plJ1, plJ2, agJ, paJ, ldJl, fJl0, fJl1, fJl2, szJl, s_a, z_a, t_a, e_a, h2, h3, er, mr, hr, nr, marks_len, m_a, nk]
  repeat refine ⟨by kernel_rfl, by kernel_rfl, ?_⟩
  simp [Ends, finish, finFresh, finRead, resV, expN, treeN, eidN, outs, outA, outC, outL, outsI, outAI, outI, outIL, nodupB, depth, normR, normA, normL, normC, noTup, oneV, purN, idsN, upd, E0_P, E1_P, mkSt_fr, mkSt_H, mkSt_nx, mkSt_rs, lookF, flatO, disjN, getO, mapM_purN_int, mapM_expN_int, flatMap_idsN_int, flatMap_eidN_int, any_hasU_int, all_treeN_int, mapM_purN_str, mapM_expN_str, flatMap_idsN_str, flatMap_eidN_str, any_hasU_str, all_treeN_str, ctBool, ctInt, ctI64, ctL, take_map_full, -List.map_replicate, -List.map_set, -List.map_append, -List.map_reverse, -List.map_take, -List.map_drop, -List.map_tail, -List.any_map, -List.all_map, -List.mapM_map, -List.map_map, Try.f4]

end Go.Proofs.Ytclebbjpacpbmaa.Ev
