/- NamedMoments: the names. Conditions: none. -/
import Derived.Test.YtclebbjpacpbmaaFnBY
import Derived.Test.YtclebbjpacpbmaaFnI
set_option linter.unusedSimpArgs false
set_option linter.unusedVariables false
namespace Go.Proofs.Ytclebbjpacpbmaa.Ev
open Go Go.Proofs
set_option maxRecDepth 4000
set_option maxHeartbeats 4000000

def mUni : List UInt8 := [117, 110, 105, 102, 111, 114, 109]
def mLag : List UInt8 := [108, 97, 103, 117, 101, 114, 114, 101]
def mHer : List UInt8 := [104, 101, 114, 109, 105, 116, 101]
def mCat : List UInt8 := [99, 97, 116, 97, 108, 97, 110]
def mPoi : List UInt8 := [112, 111, 105, 115, 115, 111, 110]
/-- Which name is it? -/
def mk (s : ByteArray) : Nat :=
  if s.toList == mUni then 1 else if s.toList == mLag then 2 else if s.toList == mHer then 3 else if s.toList == mCat then 4 else if s.toList == mPoi then 5 else 0
def MK (s : ByteArray) (n : Nat) : Prop :=
  (s.toList == mUni) = decide (n = 1) ∧ (s.toList == mLag) = decide (n = 2) ∧ (s.toList == mHer) = decide (n = 3) ∧ (s.toList == mCat) = decide (n = 4) ∧ (s.toList == mPoi) = decide (n = 5)
theorem mk_spec (s : ByteArray) : MK s (mk s) ∧ mk s ≤ 5 := by
  unfold MK mk
  by_cases h1 : (s.toList == mUni) = true
  · have e := eq_of_beq h1; rw [e]; decide +kernel
  by_cases h2 : (s.toList == mLag) = true
  · have e := eq_of_beq h2; rw [e]; decide +kernel
  by_cases h3 : (s.toList == mHer) = true
  · have e := eq_of_beq h3; rw [e]; decide +kernel
  by_cases h4 : (s.toList == mCat) = true
  · have e := eq_of_beq h4; rw [e]; decide +kernel
  by_cases h5 : (s.toList == mPoi) = true
  · have e := eq_of_beq h5; rw [e]; decide +kernel
  · simp only [Bool.not_eq_true] at h1 h2 h3 h4 h5
    simp [h1, h2, h3, h4, h5]
theorem run_l02Known (s : ByteArray) : runv E1 112 [.str s] = some ⟨true, .bool (decide (¬ mk s = 0)), [.undef]⟩ := by
  have cdk : codeOk Try.f112.ntmps (Try.f112.body.getD .skip) = true := by kernel_rfl
  refine run_of_WLr (fn := Try.f112) rfl Try.func112 rfl ⟨by simp [Try.ntmps112], by simp [wideA, ints], cdk, by simp [Try.f112]⟩ rfl (by simp [rebOk, noId, adoptT, adoptA, adoptL, adoptC, depth]) ?_
  obtain ⟨⟨e1, e2, e3, e4, e5⟩, hn⟩ := mk_spec s
  unfold mUni at e1; unfold mLag at e2; unfold mHer at e3; unfold mCat at e4; unfold mPoi at e5
  generalize mk s = n at *
  have : n = 0 ∨ n = 1 ∨ n = 2 ∨ n = 3 ∨ n = 4 ∨ n = 5 := by omega
  rcases this with rfl | rfl | rfl | rfl | rfl | rfl <;> simp [WL_nil, WL_seq, WL_region, WL_ret, WL_skip, WL_block, WL_inBlock, WL_cond, WC_t, WC_f, WL_label, WL_exitX, WL_gotoX, WX_some, WL_scope, WL_inScope, WL_regionD, WO_cons, WO_nil, WD_some, WOd_cons, WOd_nil, WDd_some, List.nil_append, List.cons_append, stepD, wantV, opD, ev, V.ofC, V.ofS, ret, binV, intOp, unV, St.app, updO, upd, appW, E0_P, E0_m, E0_s, E1_P, E1_m, E1_s, E2_P, E2_m, E2_s, mkSt_fr, mkSt_H, mkSt_nx, mkSt_rs, lookF, modesOf, callOp, evL, calleeV, callD, prepL, prepA, purN, idsN, isRefV, flatO, backW, adopt, adoptA, adoptC, adoptL, adoptT, widthOk, wideA, freezeW, depth, noTup, nodupB, treeN, St.enter, exitTo, gotoIn, findLabel, getO, lenV, bltD, loadD, viewN, V.cells, storeD, mvC, expN, eidN, hasU, optE, sliceNil, eqV, isC, mapM_purN_int, mapM_expN_int, mapM_viewN_int, flatMap_idsN_int, flatMap_eidN_int, any_hasU_int, all_treeN_int, mapM_purN_str, mapM_expN_str, flatMap_idsN_str, flatMap_eidN_str, any_hasU_str, all_treeN_str, ownX, ownI, backO, backL, take_map_full, -List.map_replicate, -List.map_set, -List.map_append, -List.map_reverse, -List.map_take, -List.map_drop, -List.map_tail, -List.any_map, -List.all_map, -List.mapM_map, -List.map_map, slL, szI, ldI, zI, undL, apL, setI, rdI_get, Nat.add_one_le_iff, fillV, zeros1, zeros0, appendD, segV, lvO, goneOf, sliceD, bound, Nat.add_assoc, szL, ldL, setCs0, setCs1, setCs2, setCsA2, setCsA3, ldM, fM0, fM1, szM, zM, plM0, plM1, agM, paM, ldJ, fJ0, fJ1, fJ2, szJ, zJ, plJ0, plJ1, plJ2, agJ, paJ, ldJl, fJl0, fJl1, fJl2, szJl, undS, strOp, wz0, wz1, e1, e2, e3, e4, e5] <;> simp [Ends, finish, finFresh, finRead, resV, expN, treeN, eidN, outs, outA, outC, outL, outsI, outAI, outI, outIL, nodupB, depth, normR, normA, normL, normC, noTup, oneV, purN, idsN, upd, E0_P, E1_P, E2_P, mkSt_fr, mkSt_H, mkSt_nx, mkSt_rs, lookF, flatO, disjN, getO, mapM_purN_int, mapM_expN_int, flatMap_idsN_int, flatMap_eidN_int, any_hasU_int, all_treeN_int, mapM_purN_str, mapM_expN_str, flatMap_idsN_str, flatMap_eidN_str, any_hasU_str, all_treeN_str, ctBool, ctInt, ctI64, ctL, take_map_full, -List.map_replicate, -List.map_set, -List.map_append, -List.map_reverse, -List.map_take, -List.map_drop, -List.map_tail, -List.any_map, -List.all_map, -List.mapM_map, -List.map_map, Try.f112]
def namesV : List V := [.str ⟨#[117, 110, 105, 102, 111, 114, 109]⟩, .str ⟨#[108, 97, 103, 117, 101, 114, 114, 101]⟩, .str ⟨#[104, 101, 114, 109, 105, 116, 101]⟩, .str ⟨#[99, 97, 116, 97, 108, 97, 110]⟩, .str ⟨#[112, 111, 105, 115, 115, 111, 110]⟩]
theorem slStr : slT Try.prog 119 = some (9, 1, 16) := by kernel_rfl
theorem ldStr : ldT Try.prog 9 = some (false, 1) := by kernel_rfl
theorem szStr : szT Try.prog 9 = some 1 := by kernel_rfl
theorem undStrS : Try.prog.underlying 119 = some (.slice 9) := by kernel_rfl
theorem zStr : zeroT Try.prog 9 = some [.str ⟨#[]⟩] := by kernel_rfl
theorem run_IndexS (s : ByteArray) : runv E1 122 [.list 5 namesV, .str s] = some ⟨true, .int .i64 ((mk s : Int) - 1), [.undef, .undef]⟩ := by
  unfold namesV
  have cdk : codeOk Try.f122.ntmps (Try.f122.body.getD .skip) = true := by kernel_rfl
  refine run_of_WLr (fn := Try.f122) rfl Try.func122 rfl ⟨by simp [Try.ntmps122], by simp [wideA, ints], cdk, by simp [Try.f122]⟩ rfl (by simp [rebOk, noId, adoptT, adoptA, adoptL, adoptC, depth]) ?_
  obtain ⟨⟨e1, e2, e3, e4, e5⟩, hn⟩ := mk_spec s
  unfold mUni at e1; unfold mLag at e2; unfold mHer at e3; unfold mCat at e4; unfold mPoi at e5
  generalize mk s = n at *
  simp [WL_nil, WL_seq, WL_region, WL_ret, WL_skip, WL_block, WL_inBlock, WL_cond, WC_t, WC_f, WL_label, WL_exitX, WL_gotoX, WX_some, WL_scope, WL_inScope, WL_regionD, WO_cons, WO_nil, WD_some, WOd_cons, WOd_nil, WDd_some, List.nil_append, List.cons_append, stepD, wantV, opD, ev, V.ofC, V.ofS, ret, binV, intOp, unV, St.app, updO, upd, appW, E0_P, E0_m, E0_s, E1_P, E1_m, E1_s, E2_P, E2_m, E2_s, mkSt_fr, mkSt_H, mkSt_nx, mkSt_rs, lookF, modesOf, callOp, evL, calleeV, callD, prepL, prepA, purN, idsN, isRefV, flatO, backW, adopt, adoptA, adoptC, adoptL, adoptT, widthOk, wideA, freezeW, depth, noTup, nodupB, treeN, St.enter, exitTo, gotoIn, findLabel, getO, lenV, bltD, loadD, viewN, V.cells, storeD, mvC, expN, eidN, hasU, optE, sliceNil, eqV, isC, mapM_purN_int, mapM_expN_int, mapM_viewN_int, flatMap_idsN_int, flatMap_eidN_int, any_hasU_int, all_treeN_int, mapM_purN_str, mapM_expN_str, flatMap_idsN_str, flatMap_eidN_str, any_hasU_str, all_treeN_str, ownX, ownI, backO, backL, take_map_full, -List.map_replicate, -List.map_set, -List.map_append, -List.map_reverse, -List.map_take, -List.map_drop, -List.map_tail, -List.any_map, -List.all_map, -List.mapM_map, -List.map_map, slL, szI, ldI, zI, undL, apL, setI, rdI_get, Nat.add_one_le_iff, fillV, zeros1, zeros0, appendD, segV, lvO, goneOf, sliceD, bound, Nat.add_assoc, szL, ldL, setCs0, setCs1, setCs2, setCsA2, setCsA3, ldM, fM0, fM1, szM, zM, plM0, plM1, agM, paM, ldJ, fJ0, fJ1, fJ2, szJ, zJ, plJ0, plJ1, plJ2, agJ, paJ, ldJl, fJl0, fJl1, fJl2, szJl, undS, slStr, ldStr, undStrS]
  rw [WL_loop]
  refine WL_forP (keep := [0, 1, 7, 8]) (rs := resM Try.f122) rfl (by kernel_rfl) (fun i => mkSt [(0, .list 5 [.str ⟨#[117, 110, 105, 102, 111, 114, 109]⟩, .str ⟨#[108, 97, 103, 117, 101, 114, 114, 101]⟩, .str ⟨#[104, 101, 114, 109, 105, 116, 101]⟩, .str ⟨#[99, 97, 116, 97, 108, 97, 110]⟩, .str ⟨#[112, 111, 105, 115, 115, 111, 110]⟩]), (1, .str s), (7, .int .i64 5), (8, .int .i64 (i : Int))] [] (resM Try.f122)) 5 (fun i => n = 0 ∨ i < n) ?_ ?_ 0 _ (by omega) (by omega) rfl ?_
  · intro i hi hP next
    by_cases hm : n = i + 1
    · subst hm
      rcases i with _ | _ | _ | _ | _ | i
      all_goals first
        | (exfalso; omega)
        | (simp only [Nat.zero_add, Nat.reduceAdd] at e1 e2 e3 e4 e5 ⊢
           simp [WL_nil, WL_seq, WL_region, WL_ret, WL_skip, WL_block, WL_inBlock, WL_cond, WC_t, WC_f, WL_label, WL_exitX, WL_gotoX, WX_some, WL_scope, WL_inScope, WL_regionD, WO_cons, WO_nil, WD_some, WOd_cons, WOd_nil, WDd_some, List.nil_append, List.cons_append, stepD, wantV, opD, ev, V.ofC, V.ofS, ret, binV, intOp, unV, St.app, updO, upd, appW, E0_P, E0_m, E0_s, E1_P, E1_m, E1_s, E2_P, E2_m, E2_s, mkSt_fr, mkSt_H, mkSt_nx, mkSt_rs, lookF, modesOf, callOp, evL, calleeV, callD, prepL, prepA, purN, idsN, isRefV, flatO, backW, adopt, adoptA, adoptC, adoptL, adoptT, widthOk, wideA, freezeW, depth, noTup, nodupB, treeN, St.enter, exitTo, gotoIn, findLabel, getO, lenV, bltD, loadD, viewN, V.cells, storeD, mvC, expN, eidN, hasU, optE, sliceNil, eqV, isC, mapM_purN_int, mapM_expN_int, mapM_viewN_int, flatMap_idsN_int, flatMap_eidN_int, any_hasU_int, all_treeN_int, mapM_purN_str, mapM_expN_str, flatMap_idsN_str, flatMap_eidN_str, any_hasU_str, all_treeN_str, ownX, ownI, backO, backL, take_map_full, -List.map_replicate, -List.map_set, -List.map_append, -List.map_reverse, -List.map_take, -List.map_drop, -List.map_tail, -List.any_map, -List.all_map, -List.mapM_map, -List.map_map, slL, szI, ldI, zI, undL, apL, setI, rdI_get, Nat.add_one_le_iff, fillV, zeros1, zeros0, appendD, segV, lvO, goneOf, sliceD, bound, Nat.add_assoc, szL, ldL, setCs0, setCs1, setCs2, setCsA2, setCsA3, ldM, fM0, fM1, szM, zM, plM0, plM1, agM, paM, ldJ, fJ0, fJ1, fJ2, szJ, zJ, plJ0, plJ1, plJ2, agJ, paJ, ldJl, fJl0, fJl1, fJl2, szJl, undS, strOp, slStr, ldStr, undStrS, e1, e2, e3, e4, e5]
           try (repeat refine ⟨by kernel_rfl, by kernel_rfl, ?_⟩)
           simp [Ends, finish, finFresh, finRead, resV, expN, treeN, eidN, outs, outA, outC, outL, outsI, outAI, outI, outIL, nodupB, depth, normR, normA, normL, normC, noTup, oneV, purN, idsN, upd, E0_P, E1_P, E2_P, mkSt_fr, mkSt_H, mkSt_nx, mkSt_rs, lookF, flatO, disjN, getO, mapM_purN_int, mapM_expN_int, flatMap_idsN_int, flatMap_eidN_int, any_hasU_int, all_treeN_int, mapM_purN_str, mapM_expN_str, flatMap_idsN_str, flatMap_eidN_str, any_hasU_str, all_treeN_str, ctBool, ctInt, ctI64, ctL, take_map_full, -List.map_replicate, -List.map_set, -List.map_append, -List.map_reverse, -List.map_take, -List.map_drop, -List.map_tail, -List.any_map, -List.all_map, -List.mapM_map, -List.map_map, Try.f122])
    · have hP' : n = 0 ∨ i + 1 < n := by omega
      have z2 : IntKind.i64.wrap 2 = 2 := by decide +kernel
      have z3 : IntKind.i64.wrap 3 = 3 := by decide +kernel
      have z4 : IntKind.i64.wrap 4 = 4 := by decide +kernel
      have z5 : IntKind.i64.wrap 5 = 5 := by decide +kernel
      rcases i with _ | _ | _ | _ | _ | i
      all_goals first
        | (exfalso; omega)
        | (simp only [Nat.zero_add, Nat.reduceAdd] at hm next ⊢
           simp [WL_nil, WL_seq, WL_region, WL_ret, WL_skip, WL_block, WL_inBlock, WL_cond, WC_t, WC_f, WL_label, WL_exitX, WL_gotoX, WX_some, WL_scope, WL_inScope, WL_regionD, WO_cons, WO_nil, WD_some, WOd_cons, WOd_nil, WDd_some, List.nil_append, List.cons_append, stepD, wantV, opD, ev, V.ofC, V.ofS, ret, binV, intOp, unV, St.app, updO, upd, appW, E0_P, E0_m, E0_s, E1_P, E1_m, E1_s, E2_P, E2_m, E2_s, mkSt_fr, mkSt_H, mkSt_nx, mkSt_rs, lookF, modesOf, callOp, evL, calleeV, callD, prepL, prepA, purN, idsN, isRefV, flatO, backW, adopt, adoptA, adoptC, adoptL, adoptT, widthOk, wideA, freezeW, depth, noTup, nodupB, treeN, St.enter, exitTo, gotoIn, findLabel, getO, lenV, bltD, loadD, viewN, V.cells, storeD, mvC, expN, eidN, hasU, optE, sliceNil, eqV, isC, mapM_purN_int, mapM_expN_int, mapM_viewN_int, flatMap_idsN_int, flatMap_eidN_int, any_hasU_int, all_treeN_int, mapM_purN_str, mapM_expN_str, flatMap_idsN_str, flatMap_eidN_str, any_hasU_str, all_treeN_str, ownX, ownI, backO, backL, take_map_full, -List.map_replicate, -List.map_set, -List.map_append, -List.map_reverse, -List.map_take, -List.map_drop, -List.map_tail, -List.any_map, -List.all_map, -List.mapM_map, -List.map_map, slL, szI, ldI, zI, undL, apL, setI, rdI_get, Nat.add_one_le_iff, fillV, zeros1, zeros0, appendD, segV, lvO, goneOf, sliceD, bound, Nat.add_assoc, szL, ldL, setCs0, setCs1, setCs2, setCsA2, setCsA3, ldM, fM0, fM1, szM, zM, plM0, plM1, agM, paM, ldJ, fJ0, fJ1, fJ2, szJ, zJ, plJ0, plJ1, plJ2, agJ, paJ, ldJl, fJl0, fJl1, fJl2, szJl, undS, strOp, slStr, ldStr, undStrS, e1, e2, e3, e4, e5, hm, wz1]
           try (repeat refine ⟨by kernel_rfl, by kernel_rfl, ?_⟩)
           refine next _ hP' rfl ?_
           (refine canon_mk ?_; simp [ordOf, dedupA, idsF, inside, renV, renI, renC, renO, posN, noId, mkSt_fr, mkSt_H, mkSt_nx, mkSt_rs, lookF, nodupB, depth, upd, ordIds_int, ordRen_int, ordIds_app, ordRen_app, ordIds_app2, ordRen_app2, appW, -List.map_replicate, -List.map_set, -List.map_append, -List.map_reverse, -List.map_take, -List.map_drop, -List.map_tail, -List.map_map, z2, z3, z4, z5]))
  · intro hP
    have n0 : n = 0 := by omega
    subst n0
    simp [WL_nil, WL_seq, WL_region, WL_ret, WL_skip, WL_block, WL_inBlock, WL_cond, WC_t, WC_f, WL_label, WL_exitX, WL_gotoX, WX_some, WL_scope, WL_inScope, WL_regionD, WO_cons, WO_nil, WD_some, WOd_cons, WOd_nil, WDd_some, List.nil_append, List.cons_append, stepD, wantV, opD, ev, V.ofC, V.ofS, ret, binV, intOp, unV, St.app, updO, upd, appW, E0_P, E0_m, E0_s, E1_P, E1_m, E1_s, E2_P, E2_m, E2_s, mkSt_fr, mkSt_H, mkSt_nx, mkSt_rs, lookF, modesOf, callOp, evL, calleeV, callD, prepL, prepA, purN, idsN, isRefV, flatO, backW, adopt, adoptA, adoptC, adoptL, adoptT, widthOk, wideA, freezeW, depth, noTup, nodupB, treeN, St.enter, exitTo, gotoIn, findLabel, getO, lenV, bltD, loadD, viewN, V.cells, storeD, mvC, expN, eidN, hasU, optE, sliceNil, eqV, isC, mapM_purN_int, mapM_expN_int, mapM_viewN_int, flatMap_idsN_int, flatMap_eidN_int, any_hasU_int, all_treeN_int, mapM_purN_str, mapM_expN_str, flatMap_idsN_str, flatMap_eidN_str, any_hasU_str, all_treeN_str, ownX, ownI, backO, backL, take_map_full, -List.map_replicate, -List.map_set, -List.map_append, -List.map_reverse, -List.map_take, -List.map_drop, -List.map_tail, -List.any_map, -List.all_map, -List.mapM_map, -List.map_map, slL, szI, ldI, zI, undL, apL, setI, rdI_get, Nat.add_one_le_iff, fillV, zeros1, zeros0, appendD, segV, lvO, goneOf, sliceD, bound, Nat.add_assoc, szL, ldL, setCs0, setCs1, setCs2, setCsA2, setCsA3, ldM, fM0, fM1, szM, zM, plM0, plM1, agM, paM, ldJ, fJ0, fJ1, fJ2, szJ, zJ, plJ0, plJ1, plJ2, agJ, paJ, ldJl, fJl0, fJl1, fJl2, szJl, undS, slStr, ldStr, undStrS]
    simp [Ends, finish, finFresh, finRead, resV, expN, treeN, eidN, outs, outA, outC, outL, outsI, outAI, outI, outIL, nodupB, depth, normR, normA, normL, normC, noTup, oneV, purN, idsN, upd, E0_P, E1_P, E2_P, mkSt_fr, mkSt_H, mkSt_nx, mkSt_rs, lookF, flatO, disjN, getO, mapM_purN_int, mapM_expN_int, flatMap_idsN_int, flatMap_eidN_int, any_hasU_int, all_treeN_int, mapM_purN_str, mapM_expN_str, flatMap_idsN_str, flatMap_eidN_str, any_hasU_str, all_treeN_str, ctBool, ctInt, ctI64, ctL, take_map_full, -List.map_replicate, -List.map_set, -List.map_append, -List.map_reverse, -List.map_take, -List.map_drop, -List.map_tail, -List.any_map, -List.all_map, -List.mapM_map, -List.map_map, Try.f122]
  · (refine canon_mk ?_; simp [ordOf, dedupA, idsF, inside, renV, renI, renC, renO, posN, noId, mkSt_fr, mkSt_H, mkSt_nx, mkSt_rs, lookF, nodupB, depth, upd, ordIds_int, ordRen_int, ordIds_app, ordRen_app, ordIds_app2, ordRen_app2, appW, -List.map_replicate, -List.map_set, -List.map_append, -List.map_reverse, -List.map_take, -List.map_drop, -List.map_tail, -List.map_map])
theorem run_ContainsS (s : ByteArray) : runv E1 117 [.list 5 namesV, .str s] = some ⟨true, .bool (decide (¬ mk s = 0)), [.undef, .undef]⟩ := by
  have h := run_IndexS s
  unfold namesV at *
  have cdk : codeOk Try.f117.ntmps (Try.f117.body.getD .skip) = true := by kernel_rfl
  refine run_of_WLr (fn := Try.f117) rfl Try.func117 rfl ⟨by simp [Try.ntmps117], by simp [wideA, ints], cdk, by simp [Try.f117]⟩ rfl (by simp [rebOk, noId, adoptT, adoptA, adoptL, adoptC, depth]) ?_
  generalize mk s = n at *
  simp [WL_nil, WL_seq, WL_region, WL_ret, WL_skip, WL_block, WL_inBlock, WL_cond, WC_t, WC_f, WL_label, WL_exitX, WL_gotoX, WX_some, WL_scope, WL_inScope, WL_regionD, WO_cons, WO_nil, WD_some, WOd_cons, WOd_nil, WDd_some, List.nil_append, List.cons_append, stepD, wantV, opD, ev, V.ofC, V.ofS, ret, binV, intOp, unV, St.app, updO, upd, appW, E0_P, E0_m, E0_s, E1_P, E1_m, E1_s, E2_P, E2_m, E2_s, mkSt_fr, mkSt_H, mkSt_nx, mkSt_rs, lookF, modesOf, callOp, evL, calleeV, callD, prepL, prepA, purN, idsN, isRefV, flatO, backW, adopt, adoptA, adoptC, adoptL, adoptT, widthOk, wideA, freezeW, depth, noTup, nodupB, treeN, St.enter, exitTo, gotoIn, findLabel, getO, lenV, bltD, loadD, viewN, V.cells, storeD, mvC, expN, eidN, hasU, optE, sliceNil, eqV, isC, mapM_purN_int, mapM_expN_int, mapM_viewN_int, flatMap_idsN_int, flatMap_eidN_int, any_hasU_int, all_treeN_int, mapM_purN_str, mapM_expN_str, flatMap_idsN_str, flatMap_eidN_str, any_hasU_str, all_treeN_str, ownX, ownI, backO, backL, take_map_full, -List.map_replicate, -List.map_set, -List.map_append, -List.map_reverse, -List.map_take, -List.map_drop, -List.map_tail, -List.any_map, -List.all_map, -List.mapM_map, -List.map_map, slL, szI, ldI, zI, undL, apL, setI, rdI_get, Nat.add_one_le_iff, fillV, zeros1, zeros0, appendD, segV, lvO, goneOf, sliceD, bound, Nat.add_assoc, szL, ldL, setCs0, setCs1, setCs2, setCsA2, setCsA3, ldM, fM0, fM1, szM, zM, plM0, plM1, agM, paM, ldJ, fJ0, fJ1, fJ2, szJ, zJ, plJ0, plJ1, plJ2, agJ, paJ, ldJl, fJl0, fJl1, fJl2, szJl, undS, slStr, ldStr, undStrS, h]
  simp [Ends, finish, finFresh, finRead, resV, expN, treeN, eidN, outs, outA, outC, outL, outsI, outAI, outI, outIL, nodupB, depth, normR, normA, normL, normC, noTup, oneV, purN, idsN, upd, E0_P, E1_P, E2_P, mkSt_fr, mkSt_H, mkSt_nx, mkSt_rs, lookF, flatO, disjN, getO, mapM_purN_int, mapM_expN_int, flatMap_idsN_int, flatMap_eidN_int, any_hasU_int, all_treeN_int, mapM_purN_str, mapM_expN_str, flatMap_idsN_str, flatMap_eidN_str, any_hasU_str, all_treeN_str, ctBool, ctInt, ctI64, ctL, take_map_full, -List.map_replicate, -List.map_set, -List.map_append, -List.map_reverse, -List.map_take, -List.map_drop, -List.map_tail, -List.any_map, -List.all_map, -List.mapM_map, -List.map_map, Try.f117]
  rw [← decide_not, decide_eq_decide]; omega
end Go.Proofs.Ytclebbjpacpbmaa.Ev
