/- Moments, data, polynomials: what they are, by both texts, and the laws' helpers on them. Conditions: none. -/
import Derived.Test.YtcmakjkilebhnaaFnL
set_option linter.unusedSimpArgs false
set_option linter.unusedVariables false
namespace Go.Proofs.Ytcmakjkilebhnaa.Ev
open Go Go.Proofs
set_option maxRecDepth 4000
set_option maxHeartbeats 4000000

/-! ### Types -/
theorem szL : szT Try.prog 30 = some 1 := by kernel_rfl
theorem ldL : ldT Try.prog 30 = some (false, 1) := by kernel_rfl
theorem ldM : ldT Try.prog 40 = some (true, 2) := by kernel_rfl
theorem szM : szT Try.prog 40 = some 2 := by kernel_rfl
theorem fM0 : fldT Try.prog 40 0 = some (0, false, 1) := by kernel_rfl
theorem fM1 : fldT Try.prog 40 1 = some (1, false, 1) := by kernel_rfl
theorem zM : zeroT Try.prog 40 = some [.int .i64 0, .nils] := by kernel_rfl
theorem ctM : cellTys Try.prog 40 = [none, some 1] := by kernel_rfl
theorem plM0 : plT Try.prog 40 0 = some (0, 1) := by kernel_rfl
theorem plM1 : plT Try.prog 40 1 = some (1, 1) := by kernel_rfl
theorem agM : aggT Try.prog 40 = some true := by kernel_rfl
theorem paM : plAll Try.prog 40 = true := by kernel_rfl
theorem ldMl : ldT Try.prog 36 = some (true, 2) := by kernel_rfl
theorem szMl : szT Try.prog 36 = some 2 := by kernel_rfl
theorem fMl0 : fldT Try.prog 36 0 = some (0, false, 1) := by kernel_rfl
theorem fMl1 : fldT Try.prog 36 1 = some (1, false, 1) := by kernel_rfl

theorem setCs0 (c v : V) (cs : List V) : setCs (c :: cs) 0 [v] = v :: cs := rfl
theorem setCs1 (c d v : V) (cs : List V) : setCs (c :: d :: cs) 1 [v] = c :: v :: cs := rfl
theorem setCs2 (c d e v : V) (cs : List V) : setCs (c :: d :: e :: cs) 2 [v] = c :: d :: v :: cs := rfl
theorem setCsA2 (c d v w : V) : setCs [c, d] 0 [v, w] = [v, w] := rfl
theorem setCsA3 (c d e v w x : V) : setCs [c, d, e] 0 [v, w, x] = [v, w, x] := rfl

/-! ### All numbers of a list are of a field -/
theorem fv_int (p : Int) : FV [.int .i64 p] [] := by
  constructor <;> intro H d <;> cases d <;> rfl
theorem areAll_has (p : Int) (l : List Int) (hl : l.length ≤ 9223372036854775807) :
    runv E0 43 [(V.list (List.length (l)) (List.map (V.int .i64) (l))), .func (.func 56) [.int .i64 p] []] = some ⟨true, .bool (l.all (hasB p)), [.undef, .undef]⟩ :=
  run_areAll l 56 [.int .i64 p] [] (hasB p) hl (fv_int p) (fun H b x => by
    simp [modesOf, callD, prepL, prepA, purN, idsN, depth, run_has, nodupB, flatO, noTup, backW, widthOk, wideA, adopt, adoptA, adoptC, treeN])

theorem run_length (l : List Int) : runv E0 54 [(V.list (List.length (l)) (List.map (V.int .i64) (l)))] = some ⟨true, .int .i64 l.length, [.undef]⟩ := by
  have c : codeOk Try.f54.ntmps (Try.f54.body.getD .skip) = true := by kernel_rfl
  refine run_of_WL (fn := Try.f54) rfl Try.func54 rfl ⟨by simp [Try.ntmps54], by simp [wideA, ints], c, by simp [Try.f54]⟩ ?_
  simp [WL_nil, WL_seq, WL_region, WL_ret, WL_skip, WL_block, WL_inBlock, WL_cond, WC_t, WC_f, WL_label, WL_exitX, WL_gotoX, WX_some, WL_scope, WL_inScope, WL_regionD, WO_cons, WO_nil, WD_some, WOd_cons, WOd_nil, WDd_some, List.nil_append, List.cons_append, stepD, wantV, opD, ev, V.ofC, V.ofS, ret, binV, intOp, unV, St.app, updO, upd, appW, E0_P, E0_m, E0_s, modesOf, callOp, evL, calleeV, callD, prepL, prepA, purN, idsN, isRefV, flatO, backW, adopt, adoptA, adoptC, adoptL, adoptT, widthOk, wideA, freezeW, depth, noTup, nodupB, treeN, St.enter, exitTo, gotoIn, findLabel, getO, lenV, bltD, loadD, viewN, V.cells, storeD, mvC, expN, eidN, hasU, optE, mapM_purN_int, mapM_expN_int, mapM_viewN_int, flatMap_idsN_int, flatMap_eidN_int, any_hasU_int, all_treeN_int, mapM_purN_str, mapM_expN_str, flatMap_idsN_str, flatMap_eidN_str, any_hasU_str, all_treeN_str, ownX, ownI, backO, backL, take_map_full, -List.map_replicate, -List.map_set, -List.map_append, -List.map_reverse, -List.map_take, -List.map_drop, -List.any_map, -List.all_map, -List.mapM_map, -List.map_map, slL, szI, ldI, zI, undL, apL, setI, rdI_get, Nat.add_one_le_iff, fillV, zeros1, zeros0, appendD, segV, lvO, goneOf, Nat.add_assoc]
  simp [Ends, finish, finFresh, finRead, resV, expN, treeN, eidN, outs, outA, outC, outL, outsI, outAI, outI, outIL, nodupB, depth, normR, normA, normL, normC, noTup, oneV, purN, idsN, upd, E0_P, flatO, disjN, getO, mapM_purN_int, mapM_expN_int, flatMap_idsN_int, flatMap_eidN_int, any_hasU_int, all_treeN_int, mapM_purN_str, mapM_expN_str, flatMap_idsN_str, flatMap_eidN_str, any_hasU_str, all_treeN_str, ctBool, ctInt, ctI64, ctL, take_map_full, -List.map_replicate, -List.map_set, -List.map_append, -List.map_reverse, -List.map_take, -List.map_drop, -List.any_map, -List.all_map, -List.mapM_map, -List.map_map, Try.f54]

def upTo (l : List Int) (m : Nat) : Bool := decide (1 ≤ l.length) && decide (l.length ≤ m)
theorem within_upTo (l : List Int) (m : Nat) (M : Int) (hM : M = m) : runv E0 45 [.int .i64 l.length, .int .i64 1, .int .i64 M] = some ⟨true, .bool (upTo l m), [.undef, .undef, .undef]⟩ := by
  subst hM
  rw [run_within]
  have : decide ((1 : Int) ≤ (l.length : Int)) = decide (1 ≤ l.length) := by rw [decide_eq_decide]; omega
  rw [this]
  simp [upTo]

/-! ### Moments -/
def momB (p : Int) (l : List Int) : Bool := primeB p && upTo l 24 && l.all (hasB p)
theorem momB_prime {p : Int} {l : List Int} (h : momB p l = true) : 2 ≤ p ∧ p ≤ 10007 := by
  simp [momB] at h; exact prime_range h.1.1
theorem momB_len {p : Int} {l : List Int} (h : momB p l = true) : 1 ≤ l.length ∧ l.length ≤ 24 := by
  simp [momB, upTo] at h; exact h.1.2
theorem momB_rd {p : Int} {l : List Int} (h : momB p l = true) {k : Nat} (hk : k < l.length) : 0 ≤ rdI l k ∧ rdI l k < p := by
  simp only [momB, Bool.and_eq_true, List.all_eq_true] at h
  exact hasB_range (h.2 _ (rdI_get hk ▸ List.getElem_mem hk))
theorem run_Mfield (p : Int) (l : List Int) : runv E0 55 [(V.agg [V.int .i64 (p), (V.list (List.length (l)) (List.map (V.int .i64) (l)))])] = some ⟨true, .int .i64 p, [.agg [.undef, .undef]]⟩ := by
  have c : codeOk Try.f55.ntmps (Try.f55.body.getD .skip) = true := by kernel_rfl
  refine run_of_WL (fn := Try.f55) rfl Try.func55 rfl ⟨by simp [Try.ntmps55], by simp [wideA, ints], c, by simp [Try.f55]⟩ ?_
  simp [WL_nil, WL_seq, WL_region, WL_ret, WL_skip, WL_block, WL_inBlock, WL_cond, WC_t, WC_f, WL_label, WL_exitX, WL_gotoX, WX_some, WL_scope, WL_inScope, WL_regionD, WO_cons, WO_nil, WD_some, WOd_cons, WOd_nil, WDd_some, List.nil_append, List.cons_append, stepD, wantV, opD, ev, V.ofC, V.ofS, ret, binV, intOp, unV, St.app, updO, upd, appW, E0_P, E0_m, E0_s, modesOf, callOp, evL, calleeV, callD, prepL, prepA, purN, idsN, isRefV, flatO, backW, adopt, adoptA, adoptC, adoptL, adoptT, widthOk, wideA, freezeW, depth, noTup, nodupB, treeN, St.enter, exitTo, gotoIn, findLabel, getO, lenV, bltD, loadD, viewN, V.cells, storeD, mvC, expN, eidN, hasU, optE, mapM_purN_int, mapM_expN_int, mapM_viewN_int, flatMap_idsN_int, flatMap_eidN_int, any_hasU_int, all_treeN_int, mapM_purN_str, mapM_expN_str, flatMap_idsN_str, flatMap_eidN_str, any_hasU_str, all_treeN_str, ownX, ownI, backO, backL, take_map_full, -List.map_replicate, -List.map_set, -List.map_append, -List.map_reverse, -List.map_take, -List.map_drop, -List.any_map, -List.all_map, -List.mapM_map, -List.map_map, slL, szI, ldI, zI, undL, apL, setI, rdI_get, Nat.add_one_le_iff, fillV, zeros1, zeros0, appendD, segV, lvO, goneOf, Nat.add_assoc, szL, ldL, setCs0, setCs1, setCs2, setCsA2, setCsA3, ldM, fM0, fM1, szM, zM, plM0, plM1, agM, paM, ldMl, fMl0, fMl1, szMl]
  simp [Ends, finish, finFresh, finRead, resV, expN, treeN, eidN, outs, outA, outC, outL, outsI, outAI, outI, outIL, nodupB, depth, normR, normA, normL, normC, noTup, oneV, purN, idsN, upd, E0_P, flatO, disjN, getO, mapM_purN_int, mapM_expN_int, flatMap_idsN_int, flatMap_eidN_int, any_hasU_int, all_treeN_int, mapM_purN_str, mapM_expN_str, flatMap_idsN_str, flatMap_eidN_str, any_hasU_str, all_treeN_str, ctBool, ctInt, ctI64, ctL, take_map_full, -List.map_replicate, -List.map_set, -List.map_append, -List.map_reverse, -List.map_take, -List.map_drop, -List.any_map, -List.all_map, -List.mapM_map, -List.map_map, Try.f55, szL, ldL, setCs0, setCs1, setCs2, setCsA2, setCsA3, ldM, fM0, fM1, szM, zM, plM0, plM1, agM, paM, ldMl, fMl0, fMl1, szMl]

theorem run_AreMoments (p : Int) (l : List Int) (hl : l.length ≤ 9223372036854775807) : runv E0 49 [(V.agg [V.int .i64 (p), (V.list (List.length (l)) (List.map (V.int .i64) (l)))])] = some ⟨true, .bool (momB p l), [.agg [.undef, .undef]]⟩ := by
  have c : codeOk Try.f49.ntmps (Try.f49.body.getD .skip) = true := by kernel_rfl
  refine run_of_WL (fn := Try.f49) rfl Try.func49 rfl ⟨by simp [Try.ntmps49], by simp [wideA, ints], c, by simp [Try.f49]⟩ ?_
  have h1 := run_IsPrime p
  have h2 := within_upTo l 24 24 rfl
  have h3 := areAll_has p l hl
  cases e1 : primeB p with
  | false =>
    rw [e1] at h1
    simp [WL_nil, WL_seq, WL_region, WL_ret, WL_skip, WL_block, WL_inBlock, WL_cond, WC_t, WC_f, WL_label, WL_exitX, WL_gotoX, WX_some, WL_scope, WL_inScope, WL_regionD, WO_cons, WO_nil, WD_some, WOd_cons, WOd_nil, WDd_some, List.nil_append, List.cons_append, stepD, wantV, opD, ev, V.ofC, V.ofS, ret, binV, intOp, unV, St.app, updO, upd, appW, E0_P, E0_m, E0_s, modesOf, callOp, evL, calleeV, callD, prepL, prepA, purN, idsN, isRefV, flatO, backW, adopt, adoptA, adoptC, adoptL, adoptT, widthOk, wideA, freezeW, depth, noTup, nodupB, treeN, St.enter, exitTo, gotoIn, findLabel, getO, lenV, bltD, loadD, viewN, V.cells, storeD, mvC, expN, eidN, hasU, optE, mapM_purN_int, mapM_expN_int, mapM_viewN_int, flatMap_idsN_int, flatMap_eidN_int, any_hasU_int, all_treeN_int, mapM_purN_str, mapM_expN_str, flatMap_idsN_str, flatMap_eidN_str, any_hasU_str, all_treeN_str, ownX, ownI, backO, backL, take_map_full, -List.map_replicate, -List.map_set, -List.map_append, -List.map_reverse, -List.map_take, -List.map_drop, -List.any_map, -List.all_map, -List.mapM_map, -List.map_map, slL, szI, ldI, zI, undL, apL, setI, rdI_get, Nat.add_one_le_iff, fillV, zeros1, zeros0, appendD, segV, lvO, goneOf, Nat.add_assoc, szL, ldL, setCs0, setCs1, setCs2, setCsA2, setCsA3, ldM, fM0, fM1, szM, zM, plM0, plM1, agM, paM, ldMl, fMl0, fMl1, szMl, h1]
    refine ⟨by kernel_rfl, by kernel_rfl, ?_⟩
    simp [Ends, finish, finFresh, finRead, resV, expN, treeN, eidN, outs, outA, outC, outL, outsI, outAI, outI, outIL, nodupB, depth, normR, normA, normL, normC, noTup, oneV, purN, idsN, upd, E0_P, flatO, disjN, getO, mapM_purN_int, mapM_expN_int, flatMap_idsN_int, flatMap_eidN_int, any_hasU_int, all_treeN_int, mapM_purN_str, mapM_expN_str, flatMap_idsN_str, flatMap_eidN_str, any_hasU_str, all_treeN_str, ctBool, ctInt, ctI64, ctL, take_map_full, -List.map_replicate, -List.map_set, -List.map_append, -List.map_reverse, -List.map_take, -List.map_drop, -List.any_map, -List.all_map, -List.mapM_map, -List.map_map, Try.f49, momB, e1]
  | true =>
    rw [e1] at h1
    cases e2 : upTo l 24 with
    | false =>
      rw [e2] at h2
      simp [WL_nil, WL_seq, WL_region, WL_ret, WL_skip, WL_block, WL_inBlock, WL_cond, WC_t, WC_f, WL_label, WL_exitX, WL_gotoX, WX_some, WL_scope, WL_inScope, WL_regionD, WO_cons, WO_nil, WD_some, WOd_cons, WOd_nil, WDd_some, List.nil_append, List.cons_append, stepD, wantV, opD, ev, V.ofC, V.ofS, ret, binV, intOp, unV, St.app, updO, upd, appW, E0_P, E0_m, E0_s, modesOf, callOp, evL, calleeV, callD, prepL, prepA, purN, idsN, isRefV, flatO, backW, adopt, adoptA, adoptC, adoptL, adoptT, widthOk, wideA, freezeW, depth, noTup, nodupB, treeN, St.enter, exitTo, gotoIn, findLabel, getO, lenV, bltD, loadD, viewN, V.cells, storeD, mvC, expN, eidN, hasU, optE, mapM_purN_int, mapM_expN_int, mapM_viewN_int, flatMap_idsN_int, flatMap_eidN_int, any_hasU_int, all_treeN_int, mapM_purN_str, mapM_expN_str, flatMap_idsN_str, flatMap_eidN_str, any_hasU_str, all_treeN_str, ownX, ownI, backO, backL, take_map_full, -List.map_replicate, -List.map_set, -List.map_append, -List.map_reverse, -List.map_take, -List.map_drop, -List.any_map, -List.all_map, -List.mapM_map, -List.map_map, slL, szI, ldI, zI, undL, apL, setI, rdI_get, Nat.add_one_le_iff, fillV, zeros1, zeros0, appendD, segV, lvO, goneOf, Nat.add_assoc, szL, ldL, setCs0, setCs1, setCs2, setCsA2, setCsA3, ldM, fM0, fM1, szM, zM, plM0, plM1, agM, paM, ldMl, fMl0, fMl1, szMl, h1, run_length, h2]
      refine ⟨by kernel_rfl, by kernel_rfl, ?_⟩
      simp [Ends, finish, finFresh, finRead, resV, expN, treeN, eidN, outs, outA, outC, outL, outsI, outAI, outI, outIL, nodupB, depth, normR, normA, normL, normC, noTup, oneV, purN, idsN, upd, E0_P, flatO, disjN, getO, mapM_purN_int, mapM_expN_int, flatMap_idsN_int, flatMap_eidN_int, any_hasU_int, all_treeN_int, mapM_purN_str, mapM_expN_str, flatMap_idsN_str, flatMap_eidN_str, any_hasU_str, all_treeN_str, ctBool, ctInt, ctI64, ctL, take_map_full, -List.map_replicate, -List.map_set, -List.map_append, -List.map_reverse, -List.map_take, -List.map_drop, -List.any_map, -List.all_map, -List.mapM_map, -List.map_map, Try.f49, momB, e1, e2]
    | true =>
      rw [e2] at h2
      simp [WL_nil, WL_seq, WL_region, WL_ret, WL_skip, WL_block, WL_inBlock, WL_cond, WC_t, WC_f, WL_label, WL_exitX, WL_gotoX, WX_some, WL_scope, WL_inScope, WL_regionD, WO_cons, WO_nil, WD_some, WOd_cons, WOd_nil, WDd_some, List.nil_append, List.cons_append, stepD, wantV, opD, ev, V.ofC, V.ofS, ret, binV, intOp, unV, St.app, updO, upd, appW, E0_P, E0_m, E0_s, modesOf, callOp, evL, calleeV, callD, prepL, prepA, purN, idsN, isRefV, flatO, backW, adopt, adoptA, adoptC, adoptL, adoptT, widthOk, wideA, freezeW, depth, noTup, nodupB, treeN, St.enter, exitTo, gotoIn, findLabel, getO, lenV, bltD, loadD, viewN, V.cells, storeD, mvC, expN, eidN, hasU, optE, mapM_purN_int, mapM_expN_int, mapM_viewN_int, flatMap_idsN_int, flatMap_eidN_int, any_hasU_int, all_treeN_int, mapM_purN_str, mapM_expN_str, flatMap_idsN_str, flatMap_eidN_str, any_hasU_str, all_treeN_str, ownX, ownI, backO, backL, take_map_full, -List.map_replicate, -List.map_set, -List.map_append, -List.map_reverse, -List.map_take, -List.map_drop, -List.any_map, -List.all_map, -List.mapM_map, -List.map_map, slL, szI, ldI, zI, undL, apL, setI, rdI_get, Nat.add_one_le_iff, fillV, zeros1, zeros0, appendD, segV, lvO, goneOf, Nat.add_assoc, szL, ldL, setCs0, setCs1, setCs2, setCsA2, setCsA3, ldM, fM0, fM1, szM, zM, plM0, plM1, agM, paM, ldMl, fMl0, fMl1, szMl, h1, run_length, h2, run_Mfield, h3]
      refine ⟨by kernel_rfl, by kernel_rfl, ?_⟩
      simp [Ends, finish, finFresh, finRead, resV, expN, treeN, eidN, outs, outA, outC, outL, outsI, outAI, outI, outIL, nodupB, depth, normR, normA, normL, normC, noTup, oneV, purN, idsN, upd, E0_P, flatO, disjN, getO, mapM_purN_int, mapM_expN_int, flatMap_idsN_int, flatMap_eidN_int, any_hasU_int, all_treeN_int, mapM_purN_str, mapM_expN_str, flatMap_idsN_str, flatMap_eidN_str, any_hasU_str, all_treeN_str, ctBool, ctInt, ctI64, ctL, take_map_full, -List.map_replicate, -List.map_set, -List.map_append, -List.map_reverse, -List.map_take, -List.map_drop, -List.any_map, -List.all_map, -List.mapM_map, -List.map_map, Try.f49, momB, e1, e2]

theorem run_l02Are (p : Int) (l : List Int) (hl : l.length ≤ 9223372036854775807) : runv E0 36 [(V.agg [V.int .i64 (p), (V.list (List.length (l)) (List.map (V.int .i64) (l)))])] = some ⟨true, .bool (momB p l), [.agg [.undef, .undef]]⟩ := by
  have c : codeOk Try.f36.ntmps (Try.f36.body.getD .skip) = true := by kernel_rfl
  refine run_of_WL (fn := Try.f36) rfl Try.func36 rfl ⟨by simp [Try.ntmps36], by simp [wideA, ints], c, by simp [Try.f36]⟩ ?_
  have h1 := run_l01Prime p
  cases e1 : primeB p with
  | false =>
    rw [e1] at h1
    simp [WL_nil, WL_seq, WL_region, WL_ret, WL_skip, WL_block, WL_inBlock, WL_cond, WC_t, WC_f, WL_label, WL_exitX, WL_gotoX, WX_some, WL_scope, WL_inScope, WL_regionD, WO_cons, WO_nil, WD_some, WOd_cons, WOd_nil, WDd_some, List.nil_append, List.cons_append, stepD, wantV, opD, ev, V.ofC, V.ofS, ret, binV, intOp, unV, St.app, updO, upd, appW, E0_P, E0_m, E0_s, modesOf, callOp, evL, calleeV, callD, prepL, prepA, purN, idsN, isRefV, flatO, backW, adopt, adoptA, adoptC, adoptL, adoptT, widthOk, wideA, freezeW, depth, noTup, nodupB, treeN, St.enter, exitTo, gotoIn, findLabel, getO, lenV, bltD, loadD, viewN, V.cells, storeD, mvC, expN, eidN, hasU, optE, mapM_purN_int, mapM_expN_int, mapM_viewN_int, flatMap_idsN_int, flatMap_eidN_int, any_hasU_int, all_treeN_int, mapM_purN_str, mapM_expN_str, flatMap_idsN_str, flatMap_eidN_str, any_hasU_str, all_treeN_str, ownX, ownI, backO, backL, take_map_full, -List.map_replicate, -List.map_set, -List.map_append, -List.map_reverse, -List.map_take, -List.map_drop, -List.any_map, -List.all_map, -List.mapM_map, -List.map_map, slL, szI, ldI, zI, undL, apL, setI, rdI_get, Nat.add_one_le_iff, fillV, zeros1, zeros0, appendD, segV, lvO, goneOf, Nat.add_assoc, szL, ldL, setCs0, setCs1, setCs2, setCsA2, setCsA3, ldM, fM0, fM1, szM, zM, plM0, plM1, agM, paM, ldMl, fMl0, fMl1, szMl, h1]
    simp [Ends, finish, finFresh, finRead, resV, expN, treeN, eidN, outs, outA, outC, outL, outsI, outAI, outI, outIL, nodupB, depth, normR, normA, normL, normC, noTup, oneV, purN, idsN, upd, E0_P, flatO, disjN, getO, mapM_purN_int, mapM_expN_int, flatMap_idsN_int, flatMap_eidN_int, any_hasU_int, all_treeN_int, mapM_purN_str, mapM_expN_str, flatMap_idsN_str, flatMap_eidN_str, any_hasU_str, all_treeN_str, ctBool, ctInt, ctI64, ctL, take_map_full, -List.map_replicate, -List.map_set, -List.map_append, -List.map_reverse, -List.map_take, -List.map_drop, -List.any_map, -List.all_map, -List.mapM_map, -List.map_map, Try.f36, momB, e1]
  | true =>
    rw [e1] at h1
    have h3 := run_l02Numbers p l (prime_range e1) hl
    by_cases e2 : (1 : Int) ≤ l.length
    · have e2' : 1 ≤ l.length := by omega
      by_cases e3 : (l.length : Int) ≤ 24
      · have e3' : l.length ≤ 24 := by omega
        simp [WL_nil, WL_seq, WL_region, WL_ret, WL_skip, WL_block, WL_inBlock, WL_cond, WC_t, WC_f, WL_label, WL_exitX, WL_gotoX, WX_some, WL_scope, WL_inScope, WL_regionD, WO_cons, WO_nil, WD_some, WOd_cons, WOd_nil, WDd_some, List.nil_append, List.cons_append, stepD, wantV, opD, ev, V.ofC, V.ofS, ret, binV, intOp, unV, St.app, updO, upd, appW, E0_P, E0_m, E0_s, modesOf, callOp, evL, calleeV, callD, prepL, prepA, purN, idsN, isRefV, flatO, backW, adopt, adoptA, adoptC, adoptL, adoptT, widthOk, wideA, freezeW, depth, noTup, nodupB, treeN, St.enter, exitTo, gotoIn, findLabel, getO, lenV, bltD, loadD, viewN, V.cells, storeD, mvC, expN, eidN, hasU, optE, mapM_purN_int, mapM_expN_int, mapM_viewN_int, flatMap_idsN_int, flatMap_eidN_int, any_hasU_int, all_treeN_int, mapM_purN_str, mapM_expN_str, flatMap_idsN_str, flatMap_eidN_str, any_hasU_str, all_treeN_str, ownX, ownI, backO, backL, take_map_full, -List.map_replicate, -List.map_set, -List.map_append, -List.map_reverse, -List.map_take, -List.map_drop, -List.any_map, -List.all_map, -List.mapM_map, -List.map_map, slL, szI, ldI, zI, undL, apL, setI, rdI_get, Nat.add_one_le_iff, fillV, zeros1, zeros0, appendD, segV, lvO, goneOf, Nat.add_assoc, szL, ldL, setCs0, setCs1, setCs2, setCsA2, setCsA3, ldM, fM0, fM1, szM, zM, plM0, plM1, agM, paM, ldMl, fMl0, fMl1, szMl, h1, e2, e3, h3]
        simp [Ends, finish, finFresh, finRead, resV, expN, treeN, eidN, outs, outA, outC, outL, outsI, outAI, outI, outIL, nodupB, depth, normR, normA, normL, normC, noTup, oneV, purN, idsN, upd, E0_P, flatO, disjN, getO, mapM_purN_int, mapM_expN_int, flatMap_idsN_int, flatMap_eidN_int, any_hasU_int, all_treeN_int, mapM_purN_str, mapM_expN_str, flatMap_idsN_str, flatMap_eidN_str, any_hasU_str, all_treeN_str, ctBool, ctInt, ctI64, ctL, take_map_full, -List.map_replicate, -List.map_set, -List.map_append, -List.map_reverse, -List.map_take, -List.map_drop, -List.any_map, -List.all_map, -List.mapM_map, -List.map_map, Try.f36, momB, upTo, e1, e2', e3']
      · have e3' : ¬ l.length ≤ 24 := by omega
        simp [WL_nil, WL_seq, WL_region, WL_ret, WL_skip, WL_block, WL_inBlock, WL_cond, WC_t, WC_f, WL_label, WL_exitX, WL_gotoX, WX_some, WL_scope, WL_inScope, WL_regionD, WO_cons, WO_nil, WD_some, WOd_cons, WOd_nil, WDd_some, List.nil_append, List.cons_append, stepD, wantV, opD, ev, V.ofC, V.ofS, ret, binV, intOp, unV, St.app, updO, upd, appW, E0_P, E0_m, E0_s, modesOf, callOp, evL, calleeV, callD, prepL, prepA, purN, idsN, isRefV, flatO, backW, adopt, adoptA, adoptC, adoptL, adoptT, widthOk, wideA, freezeW, depth, noTup, nodupB, treeN, St.enter, exitTo, gotoIn, findLabel, getO, lenV, bltD, loadD, viewN, V.cells, storeD, mvC, expN, eidN, hasU, optE, mapM_purN_int, mapM_expN_int, mapM_viewN_int, flatMap_idsN_int, flatMap_eidN_int, any_hasU_int, all_treeN_int, mapM_purN_str, mapM_expN_str, flatMap_idsN_str, flatMap_eidN_str, any_hasU_str, all_treeN_str, ownX, ownI, backO, backL, take_map_full, -List.map_replicate, -List.map_set, -List.map_append, -List.map_reverse, -List.map_take, -List.map_drop, -List.any_map, -List.all_map, -List.mapM_map, -List.map_map, slL, szI, ldI, zI, undL, apL, setI, rdI_get, Nat.add_one_le_iff, fillV, zeros1, zeros0, appendD, segV, lvO, goneOf, Nat.add_assoc, szL, ldL, setCs0, setCs1, setCs2, setCsA2, setCsA3, ldM, fM0, fM1, szM, zM, plM0, plM1, agM, paM, ldMl, fMl0, fMl1, szMl, h1, e2, e3, h3]
        simp [Ends, finish, finFresh, finRead, resV, expN, treeN, eidN, outs, outA, outC, outL, outsI, outAI, outI, outIL, nodupB, depth, normR, normA, normL, normC, noTup, oneV, purN, idsN, upd, E0_P, flatO, disjN, getO, mapM_purN_int, mapM_expN_int, flatMap_idsN_int, flatMap_eidN_int, any_hasU_int, all_treeN_int, mapM_purN_str, mapM_expN_str, flatMap_idsN_str, flatMap_eidN_str, any_hasU_str, all_treeN_str, ctBool, ctInt, ctI64, ctL, take_map_full, -List.map_replicate, -List.map_set, -List.map_append, -List.map_reverse, -List.map_take, -List.map_drop, -List.any_map, -List.all_map, -List.mapM_map, -List.map_map, Try.f36, momB, upTo, e1, e2', e3']
    · have e2' : ¬ 1 ≤ l.length := by omega
      simp [WL_nil, WL_seq, WL_region, WL_ret, WL_skip, WL_block, WL_inBlock, WL_cond, WC_t, WC_f, WL_label, WL_exitX, WL_gotoX, WX_some, WL_scope, WL_inScope, WL_regionD, WO_cons, WO_nil, WD_some, WOd_cons, WOd_nil, WDd_some, List.nil_append, List.cons_append, stepD, wantV, opD, ev, V.ofC, V.ofS, ret, binV, intOp, unV, St.app, updO, upd, appW, E0_P, E0_m, E0_s, modesOf, callOp, evL, calleeV, callD, prepL, prepA, purN, idsN, isRefV, flatO, backW, adopt, adoptA, adoptC, adoptL, adoptT, widthOk, wideA, freezeW, depth, noTup, nodupB, treeN, St.enter, exitTo, gotoIn, findLabel, getO, lenV, bltD, loadD, viewN, V.cells, storeD, mvC, expN, eidN, hasU, optE, mapM_purN_int, mapM_expN_int, mapM_viewN_int, flatMap_idsN_int, flatMap_eidN_int, any_hasU_int, all_treeN_int, mapM_purN_str, mapM_expN_str, flatMap_idsN_str, flatMap_eidN_str, any_hasU_str, all_treeN_str, ownX, ownI, backO, backL, take_map_full, -List.map_replicate, -List.map_set, -List.map_append, -List.map_reverse, -List.map_take, -List.map_drop, -List.any_map, -List.all_map, -List.mapM_map, -List.map_map, slL, szI, ldI, zI, undL, apL, setI, rdI_get, Nat.add_one_le_iff, fillV, zeros1, zeros0, appendD, segV, lvO, goneOf, Nat.add_assoc, szL, ldL, setCs0, setCs1, setCs2, setCsA2, setCsA3, ldM, fM0, fM1, szM, zM, plM0, plM1, agM, paM, ldMl, fMl0, fMl1, szMl, h1, e2, h3]
      simp [Ends, finish, finFresh, finRead, resV, expN, treeN, eidN, outs, outA, outC, outL, outsI, outAI, outI, outIL, nodupB, depth, normR, normA, normL, normC, noTup, oneV, purN, idsN, upd, E0_P, flatO, disjN, getO, mapM_purN_int, mapM_expN_int, flatMap_idsN_int, flatMap_eidN_int, any_hasU_int, all_treeN_int, mapM_purN_str, mapM_expN_str, flatMap_idsN_str, flatMap_eidN_str, any_hasU_str, all_treeN_str, ctBool, ctInt, ctI64, ctL, take_map_full, -List.map_replicate, -List.map_set, -List.map_append, -List.map_reverse, -List.map_take, -List.map_drop, -List.any_map, -List.all_map, -List.mapM_map, -List.map_map, Try.f36, momB, upTo, e1, e2']

/-! ### Data -/
def jacB (p : Int) (a b : List Int) : Bool := primeB p && upTo a 12 && decide (b.length = a.length) && a.all (hasB p) && b.all (unitB p)
theorem jacB_prime {p : Int} {a b : List Int} (h : jacB p a b = true) : 2 ≤ p ∧ p ≤ 10007 := by
  simp [jacB] at h; exact prime_range h.1.1.1.1
theorem jacB_len {p : Int} {a b : List Int} (h : jacB p a b = true) : 1 ≤ a.length ∧ a.length ≤ 12 ∧ b.length = a.length := by
  simp [jacB, upTo] at h; omega
theorem jacB_a {p : Int} {a b : List Int} (h : jacB p a b = true) {k : Nat} (hk : k < a.length) : 0 ≤ rdI a k ∧ rdI a k < p := by
  simp only [jacB, Bool.and_eq_true, List.all_eq_true] at h
  exact hasB_range (h.1.2 _ (rdI_get hk ▸ List.getElem_mem hk))
theorem jacB_b {p : Int} {a b : List Int} (h : jacB p a b = true) {k : Nat} (hk : k < a.length) : 1 ≤ rdI b k ∧ rdI b k < p := by
  have hl := (jacB_len h).2.2
  have hk' : k < b.length := by omega
  simp only [jacB, Bool.and_eq_true, List.all_eq_true] at h
  exact unitB_range (h.2 _ (rdI_get hk' ▸ List.getElem_mem hk'))
end Go.Proofs.Ytcmakjkilebhnaa.Ev
