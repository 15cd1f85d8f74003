/- NamedMoments: the reference's list. Conditions: none. -/
import Derived.Test.YtclebbjpacpbmaaFnBZ
set_option linter.unusedSimpArgs false
set_option linter.unusedVariables false
namespace Go.Proofs.Ytclebbjpacpbmaa.Ev
open Go Go.Proofs
set_option maxRecDepth 4000
set_option maxHeartbeats 4000000

/-- The moment number k of a name, from those before it. -/
def ownM (t : Nat) (p : Int) (L : List Int) (k : Nat) : Int :=
  if k = 0 then 1 else if t = 1 then invP p (((k : Int) + 1) % p) else if t = 2 then rdI L (k - 1) * (k : Int) % p
  else if t = 3 then (if k % 2 = 0 then rdI L (k - 2) * ((k : Int) - 1) % p else 0) else if t = 4 then dotK p L L.reverse k
  else if t = 5 then dotK p L (tab k (chP p (k - 1))) k else 0
def nmL (t : Nat) (p : Int) : Nat → List Int
  | 0 => []
  | k + 1 => nmL t p k ++ [ownM t p (nmL t p k) k]
theorem nmL_len (t : Nat) (p : Int) : ∀ k, (nmL t p k).length = k
  | 0 => rfl
  | k + 1 => by rw [nmL, List.length_append, nmL_len t p k]; rfl
theorem ownM_range {p : Int} (hp : 2 ≤ p ∧ p ≤ 10007) (t : Nat) (L : List Int) (k : Nat) : 0 ≤ ownM t p L k ∧ ownM t p L k < p := by
  unfold ownM
  (repeat' split) <;> first | exact mod_small hp _ | exact dotK_range hp _ _ _ | exact invP_range hp _ | omega
theorem nmL_mem {p : Int} (hp : 2 ≤ p ∧ p ≤ 10007) (t : Nat) : ∀ k x, x ∈ nmL t p k → 0 ≤ x ∧ x < p
  | 0, x, h => by cases h
  | k + 1, x, h => by
    rw [nmL] at h
    rcases List.mem_append.1 h with h | h
    · exact nmL_mem hp t k x h
    · rw [List.mem_singleton.1 h]; exact ownM_range hp ..
theorem rd_of_mem {p : Int} (hp : 2 ≤ p ∧ p ≤ 10007) {l : List Int} (h : ∀ x, x ∈ l → 0 ≤ x ∧ x < p) (i : Nat) : 0 ≤ rdI l i ∧ rdI l i < p := by
  by_cases c : i < l.length
  · rw [← rdI_get c]; exact h _ (List.getElem_mem c)
  · simp [rdI, List.getElem?_eq_none (by omega : l.length ≤ i)]; omega
theorem chP_mem {p : Int} (hp : 2 ≤ p ∧ p ≤ 10007) (k n : Nat) (x : Int) (h : x ∈ tab k (chP p n)) : 0 ≤ x ∧ x < p := by
  obtain ⟨i, _, rfl⟩ := List.mem_map.1 h
  exact mod_small hp _
theorem invP_one {p : Int} (hp : 2 ≤ p ∧ p ≤ 10007) : invP p 1 = 1 := by
  unfold invP; rw [Int.one_pow]; exact Int.emod_eq_of_lt (by omega) (by omega)
def rowM (t : Nat) (p : Int) (k : Nat) : List Int := if t = 5 then tab (k - 1 + 1) (chP p (k - 1)) else [1]
def okM (t : Nat) (p : Int) (n : Nat) : Bool := !(decide (t = 1) && decide (p ≤ n))
theorem run_l02Named (s : ByteArray) (p : Int) (n : Nat) (hp : 2 ≤ p ∧ p ≤ 10007) (hn : 1 ≤ n ∧ n ≤ 24) (hm : ¬ mk s = 0) :
    runv E1 113 [.str s, .int .i64 p, .int .i64 (n : Int)] = some ⟨true, .tup [(V.uniq 1 (List.length (if okM (mk s) p n then nmL (mk s) p n else [])) (List.map (V.int .i64) (if okM (mk s) p n then nmL (mk s) p n else []))), .bool (okM (mk s) p n)], [.undef, .undef, .undef]⟩ := by
  have cdk : codeOk Try.f113.ntmps (Try.f113.body.getD .skip) = true := by kernel_rfl
  refine run_of_WLr (fn := Try.f113) rfl Try.func113 rfl ⟨by simp [Try.ntmps113], by simp [wideA, ints], cdk, by simp [Try.f113]⟩ rfl (by simp [rebOk, noId, adoptT, adoptA, adoptL, adoptC, depth]) ?_
  obtain ⟨⟨e1, e2, e3, e4, e5⟩, ht⟩ := mk_spec s
  unfold mUni at e1; unfold mLag at e2; unfold mHer at e3; unfold mCat at e4; unfold mPoi at e5
  generalize mk s = t at *
  have hpn : ¬ p = 0 := by omega
  simp [WL_nil, WL_seq, WL_region, WL_ret, WL_skip, WL_block, WL_inBlock, WL_cond, WC_t, WC_f, WL_label, WL_exitX, WL_gotoX, WX_some, WL_scope, WL_inScope, WL_regionD, WO_cons, WO_nil, WD_some, WOd_cons, WOd_nil, WDd_some, List.nil_append, List.cons_append, stepD, wantV, opD, ev, V.ofC, V.ofS, ret, binV, intOp, unV, St.app, updO, upd, appW, E0_P, E0_m, E0_s, E1_P, E1_m, E1_s, E2_P, E2_m, E2_s, mkSt_fr, mkSt_H, mkSt_nx, mkSt_rs, lookF, modesOf, callOp, evL, calleeV, callD, prepL, prepA, purN, idsN, isRefV, flatO, backW, adopt, adoptA, adoptC, adoptL, adoptT, widthOk, wideA, freezeW, depth, noTup, nodupB, treeN, St.enter, exitTo, gotoIn, findLabel, getO, lenV, bltD, loadD, viewN, V.cells, storeD, mvC, expN, eidN, hasU, optE, sliceNil, eqV, isC, mapM_purN_int, mapM_expN_int, mapM_viewN_int, flatMap_idsN_int, flatMap_eidN_int, any_hasU_int, all_treeN_int, mapM_purN_str, mapM_expN_str, flatMap_idsN_str, flatMap_eidN_str, any_hasU_str, all_treeN_str, ownX, ownI, backO, backL, take_map_full, -List.map_replicate, -List.map_set, -List.map_append, -List.map_reverse, -List.map_take, -List.map_drop, -List.map_tail, -List.any_map, -List.all_map, -List.mapM_map, -List.map_map, slL, szI, ldI, zI, undL, apL, setI, rdI_get, Nat.add_one_le_iff, fillV, zeros1, zeros0, appendD, segV, lvO, goneOf, sliceD, bound, Nat.add_assoc, szL, ldL, setCs0, setCs1, setCs2, setCsA2, setCsA3, ldM, fM0, fM1, szM, zM, plM0, plM1, agM, paM, ldJ, fJ0, fJ1, fJ2, szJ, zJ, plJ0, plJ1, plJ2, agJ, paJ, ldJl, fJl0, fJl1, fJl2, szJl, wz1]
  repeat refine ⟨by kernel_rfl, by kernel_rfl, ?_⟩
  rw [WL_loop]
  refine WL_forP (keep := [0, 1, 2, 8, 9, 10]) (rs := resM Try.f113) rfl (by kernel_rfl) (fun x => match x with | 0 => mkSt [(0, .str s), (1, .int .i64 p), (2, .int .i64 (n : Int)), (8, .nils), (9, .sl 0 0 0 1), (10, .int .i64 0)] [some (⟨0, 2, 1, [.int .i64 1]⟩)] (resM Try.f113) | k + 1 => mkSt [(0, .str s), (1, .int .i64 p), (2, .int .i64 (n : Int)), (8, .sl 0 0 0 (k + 1)), (9, .sl 1 0 0 (rowM t p (k + 1)).length), (10, .int .i64 ((k : Int) + 1))] [some (⟨0, 2, 1, (nmL t p (k + 1)).map (V.int .i64)⟩), some (⟨0, 2, 1, (rowM t p (k + 1)).map (V.int .i64)⟩)] (resM Try.f113)) n (fun k => t = 1 → (k : Int) < p) ?_ ?_ 0 _ (by omega) (fun _ => by omega) rfl ?_
  · intro k hk hP next
    rcases k with _ | k
    · have d1 : Int.tmod 1 p = 1 := by rw [Int.tmod_eq_emod_of_nonneg (by omega), Int.emod_eq_of_lt (by omega) (by omega)]
      have m1 : 1 % p = 1 := Int.emod_eq_of_lt (by omega) (by omega)
      have hv := up (run_l01Inverse p 1 hp)
      rw [invP_one hp] at hv
      have hb := run_l02Back [] (by simp)
      have hs := run_l02Sum p 0 [] [] hp (by simp) (by simp) (by omega) (fun i => by simp [rdI]; omega) (fun i => by simp [rdI]; omega)
      have hs1 := run_l02Sum p 0 [] [1] hp (by simp) (by simp) (by omega) (fun i => by simp [rdI]; omega) (fun i => rd_of_mem hp (by simp; omega) i)
      simp only [List.length_nil, List.map_nil, List.reverse_nil, Int.cast_ofNat_Int, if_true, List.length_singleton, List.map_cons] at hb hs hs1
      have eN : nmL t p 1 = [1] := rfl
      have hn0 : (0 : Int) < n := by omega
      have hn0n : 0 < n := by omega
      have hr : rowM t p 1 = [1] := by
        unfold rowM; split
        · show [chP p 0 0] = [1]; rw [chP_zero, m1]
        · rfl
      dsimp only at next ⊢
      simp only [Nat.zero_add, Int.cast_ofNat_Int, Int.zero_add] at next
      rw [eN, hr] at next
      have c3 : (1 : Nat) * 8 ≤ 140737488355328 := by omega
      have tt : t = 1 ∨ t = 2 ∨ t = 3 ∨ t = 4 ∨ t = 5 := by omega
      rcases tt with rfl | rfl | rfl | rfl | rfl
      all_goals
        simp [WL_nil, WL_seq, WL_region, WL_ret, WL_skip, WL_block, WL_inBlock, WL_cond, WC_t, WC_f, WL_label, WL_exitX, WL_gotoX, WX_some, WL_scope, WL_inScope, WL_regionD, WO_cons, WO_nil, WD_some, WOd_cons, WOd_nil, WDd_some, List.nil_append, List.cons_append, stepD, wantV, opD, ev, V.ofC, V.ofS, ret, binV, intOp, unV, St.app, updO, upd, appW, E0_P, E0_m, E0_s, E1_P, E1_m, E1_s, E2_P, E2_m, E2_s, mkSt_fr, mkSt_H, mkSt_nx, mkSt_rs, lookF, modesOf, callOp, evL, calleeV, callD, prepL, prepA, purN, idsN, isRefV, flatO, backW, adopt, adoptA, adoptC, adoptL, adoptT, widthOk, wideA, freezeW, depth, noTup, nodupB, treeN, St.enter, exitTo, gotoIn, findLabel, getO, lenV, bltD, loadD, viewN, V.cells, storeD, mvC, expN, eidN, hasU, optE, sliceNil, eqV, isC, mapM_purN_int, mapM_expN_int, mapM_viewN_int, flatMap_idsN_int, flatMap_eidN_int, any_hasU_int, all_treeN_int, mapM_purN_str, mapM_expN_str, flatMap_idsN_str, flatMap_eidN_str, any_hasU_str, all_treeN_str, ownX, ownI, backO, backL, take_map_full, -List.map_replicate, -List.map_set, -List.map_append, -List.map_reverse, -List.map_take, -List.map_drop, -List.map_tail, -List.any_map, -List.all_map, -List.mapM_map, -List.map_map, slL, szI, ldI, zI, undL, apL, setI, rdI_get, Nat.add_one_le_iff, fillV, zeros1, zeros0, appendD, segV, lvO, goneOf, sliceD, bound, Nat.add_assoc, szL, ldL, setCs0, setCs1, setCs2, setCsA2, setCsA3, ldM, fM0, fM1, szM, zM, plM0, plM1, agM, paM, ldJ, fJ0, fJ1, fJ2, szJ, zJ, plJ0, plJ1, plJ2, agJ, paJ, ldJl, fJl0, fJl1, fJl2, szJl, undS, strOp, wz0, wz1, hn0, hn0n, e1, e2, e3, e4, e5, d1, hv, hb, hs, hs1, hpn]
        repeat refine ⟨by kernel_rfl, by kernel_rfl, ?_⟩
        refine next _ (fun _ => by omega) rfl ?_
        (refine canon_mk ?_; simp [ordOf, dedupA, idsF, inside, renV, renI, renC, renO, posN, noId, mkSt_fr, mkSt_H, mkSt_nx, mkSt_rs, lookF, nodupB, depth, upd, ordIds_int, ordRen_int, ordIds_app, ordRen_app, ordIds_app2, ordRen_app2, appW, -List.map_replicate, -List.map_set, -List.map_append, -List.map_reverse, -List.map_take, -List.map_drop, -List.map_tail, -List.map_map, wz1])
    · have hki : (k : Int) + 1 < n := by omega
      have hk2 : (k : Int) + 2 ≤ n := by omega
      have w3 : IntKind.i64.wrap ((k : Int) + 1 + 1) = (k : Int) + 1 + 1 := IntWalk.i64_in _ (by omega)
      have w2 : IntKind.i64.wrap ((k : Int) + 1 - 1) = (k : Int) := by rw [IntWalk.i64_in _ (by omega)]; omega
      have w1 : IntKind.i64.wrap (k : Int) = (k : Int) := IntWalk.i64_in _ (by omega)
      have c3 : (k + 2) * 8 ≤ 140737488355328 := by omega
      have k1p : (0 : Int) < (k : Int) + 1 := by omega
      have k1q : (0 : Int) ≤ (k : Int) + 1 := by omega
      have k1z : ¬ (k : Int) + 1 = 0 := by omega
      have kk : k < k + 1 := by omega
      have kki : (k : Int) < (k : Int) + 1 := by omega
      have eN : nmL t p (k + 2) = nmL t p (k + 1) ++ [ownM t p (nmL t p (k + 1)) (k + 1)] := rfl
      have lL := nmL_len t p (k + 1)
      have mL := nmL_mem hp t (k + 1)
      have rL := rd_of_mem hp mL
      have own_ : ownM t p (nmL t p (k + 1)) (k + 1) = if t = 1 then invP p (((k : Int) + 1 + 1) % p) else if t = 2 then rdI (nmL t p (k + 1)) k * ((k : Int) + 1) % p
          else if t = 3 then (if (k + 1) % 2 = 0 then rdI (nmL t p (k + 1)) (k - 1) * (k : Int) % p else 0) else if t = 4 then dotK p (nmL t p (k + 1)) (nmL t p (k + 1)).reverse (k + 1)
          else if t = 5 then dotK p (nmL t p (k + 1)) (tab (k + 1) (chP p k)) (k + 1) else 0 := by
        unfold ownM
        rw [if_neg (by omega), show ((k + 1 : Nat) : Int) = (k : Int) + 1 by omega, show k + 1 - 1 = k by omega, show k + 1 - 2 = k - 1 by omega, show (k : Int) + 1 - 1 = k by omega]
      dsimp only at next ⊢
      simp only [Nat.add_assoc, Nat.reduceAdd, Int.natCast_add, Int.cast_ofNat_Int] at next
      rw [eN] at next
      have tt : t = 1 ∨ t = 2 ∨ t = 3 ∨ t = 4 ∨ t = 5 := by omega
      rcases tt with rfl | rfl | rfl | rfl | rfl
      · have hr : rowM 1 p (k + 1) = [1] := rfl
        have hr2 : rowM 1 p (k + 2) = [1] := rfl
        rw [hr2] at next
        rw [hr]
        simp only [if_true] at own_
        generalize hL : nmL 1 p (k + 1) = L at *
        by_cases z : (k : Int) + 2 = p
        · have d0 : Int.tmod ((k : Int) + 1 + 1) p = 0 := by rw [show (k : Int) + 1 + 1 = p by omega]; exact Int.tmod_self
          have hps : okM 1 p n = false := by unfold okM; simp; omega
          have hkp := hP rfl
          simp [WL_nil, WL_seq, WL_region, WL_ret, WL_skip, WL_block, WL_inBlock, WL_cond, WC_t, WC_f, WL_label, WL_exitX, WL_gotoX, WX_some, WL_scope, WL_inScope, WL_regionD, WO_cons, WO_nil, WD_some, WOd_cons, WOd_nil, WDd_some, List.nil_append, List.cons_append, stepD, wantV, opD, ev, V.ofC, V.ofS, ret, binV, intOp, unV, St.app, updO, upd, appW, E0_P, E0_m, E0_s, E1_P, E1_m, E1_s, E2_P, E2_m, E2_s, mkSt_fr, mkSt_H, mkSt_nx, mkSt_rs, lookF, modesOf, callOp, evL, calleeV, callD, prepL, prepA, purN, idsN, isRefV, flatO, backW, adopt, adoptA, adoptC, adoptL, adoptT, widthOk, wideA, freezeW, depth, noTup, nodupB, treeN, St.enter, exitTo, gotoIn, findLabel, getO, lenV, bltD, loadD, viewN, V.cells, storeD, mvC, expN, eidN, hasU, optE, sliceNil, eqV, isC, mapM_purN_int, mapM_expN_int, mapM_viewN_int, flatMap_idsN_int, flatMap_eidN_int, any_hasU_int, all_treeN_int, mapM_purN_str, mapM_expN_str, flatMap_idsN_str, flatMap_eidN_str, any_hasU_str, all_treeN_str, ownX, ownI, backO, backL, take_map_full, -List.map_replicate, -List.map_set, -List.map_append, -List.map_reverse, -List.map_take, -List.map_drop, -List.map_tail, -List.any_map, -List.all_map, -List.mapM_map, -List.map_map, slL, szI, ldI, zI, undL, apL, setI, rdI_get, Nat.add_one_le_iff, fillV, zeros1, zeros0, appendD, segV, lvO, goneOf, sliceD, bound, Nat.add_assoc, szL, ldL, setCs0, setCs1, setCs2, setCsA2, setCsA3, ldM, fM0, fM1, szM, zM, plM0, plM1, agM, paM, ldJ, fJ0, fJ1, fJ2, szJ, zJ, plJ0, plJ1, plJ2, agJ, paJ, ldJl, fJl0, fJl1, fJl2, szJl, undS, strOp, hk, hki, hk2, w3, e1, e2, e3, e4, e5, d0, hpn, lL, wz0]
          repeat refine ⟨by kernel_rfl, by kernel_rfl, ?_⟩
          simp [Ends, finish, finFresh, finRead, resV, expN, treeN, eidN, outs, outA, outC, outL, outsI, outAI, outI, outIL, nodupB, depth, normR, normA, normL, normC, noTup, oneV, purN, idsN, upd, E0_P, E1_P, E2_P, mkSt_fr, mkSt_H, mkSt_nx, mkSt_rs, lookF, flatO, disjN, getO, mapM_purN_int, mapM_expN_int, flatMap_idsN_int, flatMap_eidN_int, any_hasU_int, all_treeN_int, mapM_purN_str, mapM_expN_str, flatMap_idsN_str, flatMap_eidN_str, any_hasU_str, all_treeN_str, ctBool, ctInt, ctI64, ctL, take_map_full, -List.map_replicate, -List.map_set, -List.map_append, -List.map_reverse, -List.map_take, -List.map_drop, -List.map_tail, -List.any_map, -List.all_map, -List.mapM_map, -List.map_map, Try.f113, hps]
        · have hkp := hP rfl
          have d0 : Int.tmod ((k : Int) + 1 + 1) p = (k : Int) + 1 + 1 := by rw [Int.tmod_eq_emod_of_nonneg (by omega), Int.emod_eq_of_lt (by omega) (by omega)]
          have d3 : ((k : Int) + 1 + 1) % p = (k : Int) + 1 + 1 := Int.emod_eq_of_lt (by omega) (by omega)
          have d4 : ¬ (k : Int) + 1 + 1 = 0 := by omega
          have hv := up (run_l01Inverse p ((k : Int) + 1 + 1) hp)
          rw [d3] at own_
          rw [own_] at next
          generalize invP p ((k : Int) + 1 + 1) = x at *
          simp [WL_nil, WL_seq, WL_region, WL_ret, WL_skip, WL_block, WL_inBlock, WL_cond, WC_t, WC_f, WL_label, WL_exitX, WL_gotoX, WX_some, WL_scope, WL_inScope, WL_regionD, WO_cons, WO_nil, WD_some, WOd_cons, WOd_nil, WDd_some, List.nil_append, List.cons_append, stepD, wantV, opD, ev, V.ofC, V.ofS, ret, binV, intOp, unV, St.app, updO, upd, appW, E0_P, E0_m, E0_s, E1_P, E1_m, E1_s, E2_P, E2_m, E2_s, mkSt_fr, mkSt_H, mkSt_nx, mkSt_rs, lookF, modesOf, callOp, evL, calleeV, callD, prepL, prepA, purN, idsN, isRefV, flatO, backW, adopt, adoptA, adoptC, adoptL, adoptT, widthOk, wideA, freezeW, depth, noTup, nodupB, treeN, St.enter, exitTo, gotoIn, findLabel, getO, lenV, bltD, loadD, viewN, V.cells, storeD, mvC, expN, eidN, hasU, optE, sliceNil, eqV, isC, mapM_purN_int, mapM_expN_int, mapM_viewN_int, flatMap_idsN_int, flatMap_eidN_int, any_hasU_int, all_treeN_int, mapM_purN_str, mapM_expN_str, flatMap_idsN_str, flatMap_eidN_str, any_hasU_str, all_treeN_str, ownX, ownI, backO, backL, take_map_full, -List.map_replicate, -List.map_set, -List.map_append, -List.map_reverse, -List.map_take, -List.map_drop, -List.map_tail, -List.any_map, -List.all_map, -List.mapM_map, -List.map_map, slL, szI, ldI, zI, undL, apL, setI, rdI_get, Nat.add_one_le_iff, fillV, zeros1, zeros0, appendD, segV, lvO, goneOf, sliceD, bound, Nat.add_assoc, szL, ldL, setCs0, setCs1, setCs2, setCsA2, setCsA3, ldM, fM0, fM1, szM, zM, plM0, plM1, agM, paM, ldJ, fJ0, fJ1, fJ2, szJ, zJ, plJ0, plJ1, plJ2, agJ, paJ, ldJl, fJl0, fJl1, fJl2, szJl, undS, strOp, hk, hki, hk2, w3, e1, e2, e3, e4, e5, d0, d4, hv, hpn, lL, c3, wz0]
          repeat refine ⟨by kernel_rfl, by kernel_rfl, ?_⟩
          refine next _ (fun _ => by omega) rfl ?_
          (refine canon_mk ?_; simp [ordOf, dedupA, idsF, inside, renV, renI, renC, renO, posN, noId, mkSt_fr, mkSt_H, mkSt_nx, mkSt_rs, lookF, nodupB, depth, upd, ordIds_int, ordRen_int, ordIds_app, ordRen_app, ordIds_app2, ordRen_app2, appW, -List.map_replicate, -List.map_set, -List.map_append, -List.map_reverse, -List.map_take, -List.map_drop, -List.map_tail, -List.map_map])
      · have hr : rowM 2 p (k + 1) = [1] := rfl
        have hr2 : rowM 2 p (k + 2) = [1] := rfl
        rw [hr2, own_] at next
        rw [hr]
        simp only [Nat.reduceEqDiff, eq_self, reduceIte, if_false, if_true] at next
        have gk := rL k
        generalize hL : nmL 2 p (k + 1) = L at *
        have pm := mul_small (p := 10007) (by omega) (show 0 ≤ rdI L k ∧ rdI L k < 10007 by omega) (show 0 ≤ (k : Int) + 1 ∧ (k : Int) + 1 < 10007 by omega)
        have u1 : IntKind.i64.wrap (rdI L k * ((k : Int) + 1)) = rdI L k * ((k : Int) + 1) := IntWalk.i64_in _ (by omega)
        have t1 : (rdI L k * ((k : Int) + 1)).tmod p = rdI L k * ((k : Int) + 1) % p := Int.tmod_eq_emod_of_nonneg pm.1
        have r1 := mod_small hp (rdI L k * ((k : Int) + 1))
        have u2 : IntKind.i64.wrap (rdI L k * ((k : Int) + 1) % p) = rdI L k * ((k : Int) + 1) % p := IntWalk.i64_in _ (by omega)
        simp [WL_nil, WL_seq, WL_region, WL_ret, WL_skip, WL_block, WL_inBlock, WL_cond, WC_t, WC_f, WL_label, WL_exitX, WL_gotoX, WX_some, WL_scope, WL_inScope, WL_regionD, WO_cons, WO_nil, WD_some, WOd_cons, WOd_nil, WDd_some, List.nil_append, List.cons_append, stepD, wantV, opD, ev, V.ofC, V.ofS, ret, binV, intOp, unV, St.app, updO, upd, appW, E0_P, E0_m, E0_s, E1_P, E1_m, E1_s, E2_P, E2_m, E2_s, mkSt_fr, mkSt_H, mkSt_nx, mkSt_rs, lookF, modesOf, callOp, evL, calleeV, callD, prepL, prepA, purN, idsN, isRefV, flatO, backW, adopt, adoptA, adoptC, adoptL, adoptT, widthOk, wideA, freezeW, depth, noTup, nodupB, treeN, St.enter, exitTo, gotoIn, findLabel, getO, lenV, bltD, loadD, viewN, V.cells, storeD, mvC, expN, eidN, hasU, optE, sliceNil, eqV, isC, mapM_purN_int, mapM_expN_int, mapM_viewN_int, flatMap_idsN_int, flatMap_eidN_int, any_hasU_int, all_treeN_int, mapM_purN_str, mapM_expN_str, flatMap_idsN_str, flatMap_eidN_str, any_hasU_str, all_treeN_str, ownX, ownI, backO, backL, take_map_full, -List.map_replicate, -List.map_set, -List.map_append, -List.map_reverse, -List.map_take, -List.map_drop, -List.map_tail, -List.any_map, -List.all_map, -List.mapM_map, -List.map_map, slL, szI, ldI, zI, undL, apL, setI, rdI_get, Nat.add_one_le_iff, fillV, zeros1, zeros0, appendD, segV, lvO, goneOf, sliceD, bound, Nat.add_assoc, szL, ldL, setCs0, setCs1, setCs2, setCsA2, setCsA3, ldM, fM0, fM1, szM, zM, plM0, plM1, agM, paM, ldJ, fJ0, fJ1, fJ2, szJ, zJ, plJ0, plJ1, plJ2, agJ, paJ, ldJl, fJl0, fJl1, fJl2, szJl, undS, strOp, hk, hki, hk2, w1, w2, w3, e1, e2, e3, e4, e5, k1p, k1q, k1z, kk, kki, u1, t1, u2, hpn, lL, c3, wz0, wz1]
        repeat refine ⟨by kernel_rfl, by kernel_rfl, ?_⟩
        refine next _ (by first | trivial | (intro h; first | exact h.elim | cases h | omega)) rfl ?_
        (refine canon_mk ?_; simp [ordOf, dedupA, idsF, inside, renV, renI, renC, renO, posN, noId, mkSt_fr, mkSt_H, mkSt_nx, mkSt_rs, lookF, nodupB, depth, upd, ordIds_int, ordRen_int, ordIds_app, ordRen_app, ordIds_app2, ordRen_app2, appW, -List.map_replicate, -List.map_set, -List.map_append, -List.map_reverse, -List.map_take, -List.map_drop, -List.map_tail, -List.map_map])
      · have hr : rowM 3 p (k + 1) = [1] := rfl
        have hr2 : rowM 3 p (k + 2) = [1] := rfl
        rw [hr2, own_] at next
        rw [hr]
        simp only [Nat.reduceEqDiff, eq_self, reduceIte, if_false, if_true] at next
        have gk := rL (k - 1)
        generalize hL : nmL 3 p (k + 1) = L at *
        by_cases q : (k + 1) % 2 = 0
        · rw [if_pos q] at next
          have q2 : Int.tmod ((k : Int) + 1) 2 = 0 := by rw [Int.tmod_eq_emod_of_nonneg (by omega)]; omega
          have pm := mul_small (p := 10007) (by omega) (show 0 ≤ rdI L (k - 1) ∧ rdI L (k - 1) < 10007 by omega) (show 0 ≤ (k : Int) ∧ (k : Int) < 10007 by omega)
          have u1 : IntKind.i64.wrap (rdI L (k - 1) * (k : Int)) = rdI L (k - 1) * (k : Int) := IntWalk.i64_in _ (by omega)
          have t1 : (rdI L (k - 1) * (k : Int)).tmod p = rdI L (k - 1) * (k : Int) % p := Int.tmod_eq_emod_of_nonneg pm.1
          have r1 := mod_small hp (rdI L (k - 1) * (k : Int))
          have u2 : IntKind.i64.wrap (rdI L (k - 1) * (k : Int) % p) = rdI L (k - 1) * (k : Int) % p := IntWalk.i64_in _ (by omega)
          have w4 : IntKind.i64.wrap ((k : Int) + 1 - 2) = ((k - 1 : Nat) : Int) := by rw [IntWalk.i64_in _ (by omega)]; omega
          have km : k - 1 < k + 1 := by omega
          have kmi : ((k - 1 : Nat) : Int) < (k : Int) + 1 := by omega
          have kml : k - 1 < L.length := by omega
          have kl : k ≤ k + 1 := by omega
          simp [WL_nil, WL_seq, WL_region, WL_ret, WL_skip, WL_block, WL_inBlock, WL_cond, WC_t, WC_f, WL_label, WL_exitX, WL_gotoX, WX_some, WL_scope, WL_inScope, WL_regionD, WO_cons, WO_nil, WD_some, WOd_cons, WOd_nil, WDd_some, List.nil_append, List.cons_append, stepD, wantV, opD, ev, V.ofC, V.ofS, ret, binV, intOp, unV, St.app, updO, upd, appW, E0_P, E0_m, E0_s, E1_P, E1_m, E1_s, E2_P, E2_m, E2_s, mkSt_fr, mkSt_H, mkSt_nx, mkSt_rs, lookF, modesOf, callOp, evL, calleeV, callD, prepL, prepA, purN, idsN, isRefV, flatO, backW, adopt, adoptA, adoptC, adoptL, adoptT, widthOk, wideA, freezeW, depth, noTup, nodupB, treeN, St.enter, exitTo, gotoIn, findLabel, getO, lenV, bltD, loadD, viewN, V.cells, storeD, mvC, expN, eidN, hasU, optE, sliceNil, eqV, isC, mapM_purN_int, mapM_expN_int, mapM_viewN_int, flatMap_idsN_int, flatMap_eidN_int, any_hasU_int, all_treeN_int, mapM_purN_str, mapM_expN_str, flatMap_idsN_str, flatMap_eidN_str, any_hasU_str, all_treeN_str, ownX, ownI, backO, backL, take_map_full, -List.map_replicate, -List.map_set, -List.map_append, -List.map_reverse, -List.map_take, -List.map_drop, -List.map_tail, -List.any_map, -List.all_map, -List.mapM_map, -List.map_map, slL, szI, ldI, zI, undL, apL, setI, rdI_get, Nat.add_one_le_iff, fillV, zeros1, zeros0, appendD, segV, lvO, goneOf, sliceD, bound, Nat.add_assoc, szL, ldL, setCs0, setCs1, setCs2, setCsA2, setCsA3, ldM, fM0, fM1, szM, zM, plM0, plM1, agM, paM, ldJ, fJ0, fJ1, fJ2, szJ, zJ, plJ0, plJ1, plJ2, agJ, paJ, ldJl, fJl0, fJl1, fJl2, szJl, undS, strOp, hk, hki, hk2, w1, w2, w3, w4, e1, e2, e3, e4, e5, k1p, k1q, k1z, km, kmi, kml, kk, kki, q2, u1, t1, u2, hpn, lL, c3, wz0, wz1]
          repeat refine ⟨by kernel_rfl, by kernel_rfl, ?_⟩
          refine next _ (by first | trivial | (intro h; first | exact h.elim | cases h | omega)) rfl ?_
          (refine canon_mk ?_; simp [ordOf, dedupA, idsF, inside, renV, renI, renC, renO, posN, noId, mkSt_fr, mkSt_H, mkSt_nx, mkSt_rs, lookF, nodupB, depth, upd, ordIds_int, ordRen_int, ordIds_app, ordRen_app, ordIds_app2, ordRen_app2, appW, -List.map_replicate, -List.map_set, -List.map_append, -List.map_reverse, -List.map_take, -List.map_drop, -List.map_tail, -List.map_map])
        · rw [if_neg q] at next
          have q2 : Int.tmod ((k : Int) + 1) 2 = 1 := by rw [Int.tmod_eq_emod_of_nonneg (by omega)]; omega
          simp [WL_nil, WL_seq, WL_region, WL_ret, WL_skip, WL_block, WL_inBlock, WL_cond, WC_t, WC_f, WL_label, WL_exitX, WL_gotoX, WX_some, WL_scope, WL_inScope, WL_regionD, WO_cons, WO_nil, WD_some, WOd_cons, WOd_nil, WDd_some, List.nil_append, List.cons_append, stepD, wantV, opD, ev, V.ofC, V.ofS, ret, binV, intOp, unV, St.app, updO, upd, appW, E0_P, E0_m, E0_s, E1_P, E1_m, E1_s, E2_P, E2_m, E2_s, mkSt_fr, mkSt_H, mkSt_nx, mkSt_rs, lookF, modesOf, callOp, evL, calleeV, callD, prepL, prepA, purN, idsN, isRefV, flatO, backW, adopt, adoptA, adoptC, adoptL, adoptT, widthOk, wideA, freezeW, depth, noTup, nodupB, treeN, St.enter, exitTo, gotoIn, findLabel, getO, lenV, bltD, loadD, viewN, V.cells, storeD, mvC, expN, eidN, hasU, optE, sliceNil, eqV, isC, mapM_purN_int, mapM_expN_int, mapM_viewN_int, flatMap_idsN_int, flatMap_eidN_int, any_hasU_int, all_treeN_int, mapM_purN_str, mapM_expN_str, flatMap_idsN_str, flatMap_eidN_str, any_hasU_str, all_treeN_str, ownX, ownI, backO, backL, take_map_full, -List.map_replicate, -List.map_set, -List.map_append, -List.map_reverse, -List.map_take, -List.map_drop, -List.map_tail, -List.any_map, -List.all_map, -List.mapM_map, -List.map_map, slL, szI, ldI, zI, undL, apL, setI, rdI_get, Nat.add_one_le_iff, fillV, zeros1, zeros0, appendD, segV, lvO, goneOf, sliceD, bound, Nat.add_assoc, szL, ldL, setCs0, setCs1, setCs2, setCsA2, setCsA3, ldM, fM0, fM1, szM, zM, plM0, plM1, agM, paM, ldJ, fJ0, fJ1, fJ2, szJ, zJ, plJ0, plJ1, plJ2, agJ, paJ, ldJl, fJl0, fJl1, fJl2, szJl, undS, strOp, hk, hki, hk2, w1, w2, w3, e1, e2, e3, e4, e5, k1p, k1q, k1z, kk, kki, q2, hpn, lL, c3, wz0, wz1]
          repeat refine ⟨by kernel_rfl, by kernel_rfl, ?_⟩
          refine next _ (by first | trivial | (intro h; first | exact h.elim | cases h | omega)) rfl ?_
          (refine canon_mk ?_; simp [ordOf, dedupA, idsF, inside, renV, renI, renC, renO, posN, noId, mkSt_fr, mkSt_H, mkSt_nx, mkSt_rs, lookF, nodupB, depth, upd, ordIds_int, ordRen_int, ordIds_app, ordRen_app, ordIds_app2, ordRen_app2, appW, -List.map_replicate, -List.map_set, -List.map_append, -List.map_reverse, -List.map_take, -List.map_drop, -List.map_tail, -List.map_map])
      · have hr : rowM 4 p (k + 1) = [1] := rfl
        have hr2 : rowM 4 p (k + 2) = [1] := rfl
        rw [hr2, own_] at next
        rw [hr]
        simp only [Nat.reduceEqDiff, eq_self, reduceIte, if_false, if_true] at next
        generalize hL : nmL 4 p (k + 1) = L at *
        have hb := run_l02Back L (by omega)
        have hs := run_l02Sum p (k + 1) L L.reverse hp (by omega) (by simp; omega) (by omega) rL (fun i => rd_of_mem hp (fun x hx => mL x (List.mem_reverse.1 hx)) i)
        rw [if_neg (by omega)] at hs
        simp only [Int.natCast_add, Int.cast_ofNat_Int] at hs
        have lv : L.reverse.length = k + 1 := by simp [lL]
        rw [lL] at hb
        rw [lL, lv] at hs
        have r1 := dotK_range hp L L.reverse (k + 1)
        generalize dotK p L L.reverse (k + 1) = x at *
        generalize hV : L.reverse = W at *
        rw [lv] at hb
        simp [WL_nil, WL_seq, WL_region, WL_ret, WL_skip, WL_block, WL_inBlock, WL_cond, WC_t, WC_f, WL_label, WL_exitX, WL_gotoX, WX_some, WL_scope, WL_inScope, WL_regionD, WO_cons, WO_nil, WD_some, WOd_cons, WOd_nil, WDd_some, List.nil_append, List.cons_append, stepD, wantV, opD, ev, V.ofC, V.ofS, ret, binV, intOp, unV, St.app, updO, upd, appW, E0_P, E0_m, E0_s, E1_P, E1_m, E1_s, E2_P, E2_m, E2_s, mkSt_fr, mkSt_H, mkSt_nx, mkSt_rs, lookF, modesOf, callOp, evL, calleeV, callD, prepL, prepA, purN, idsN, isRefV, flatO, backW, adopt, adoptA, adoptC, adoptL, adoptT, widthOk, wideA, freezeW, depth, noTup, nodupB, treeN, St.enter, exitTo, gotoIn, findLabel, getO, lenV, bltD, loadD, viewN, V.cells, storeD, mvC, expN, eidN, hasU, optE, sliceNil, eqV, isC, mapM_purN_int, mapM_expN_int, mapM_viewN_int, flatMap_idsN_int, flatMap_eidN_int, any_hasU_int, all_treeN_int, mapM_purN_str, mapM_expN_str, flatMap_idsN_str, flatMap_eidN_str, any_hasU_str, all_treeN_str, ownX, ownI, backO, backL, take_map_full, -List.map_replicate, -List.map_set, -List.map_append, -List.map_reverse, -List.map_take, -List.map_drop, -List.map_tail, -List.any_map, -List.all_map, -List.mapM_map, -List.map_map, slL, szI, ldI, zI, undL, apL, setI, rdI_get, Nat.add_one_le_iff, fillV, zeros1, zeros0, appendD, segV, lvO, goneOf, sliceD, bound, Nat.add_assoc, szL, ldL, setCs0, setCs1, setCs2, setCsA2, setCsA3, ldM, fM0, fM1, szM, zM, plM0, plM1, agM, paM, ldJ, fJ0, fJ1, fJ2, szJ, zJ, plJ0, plJ1, plJ2, agJ, paJ, ldJl, fJl0, fJl1, fJl2, szJl, undS, strOp, hk, hki, hk2, w1, w2, w3, e1, e2, e3, e4, e5, k1p, k1q, k1z, kk, kki, hb, hs, hpn, lL, lv, c3, wz0, wz1]
        repeat refine ⟨by kernel_rfl, by kernel_rfl, ?_⟩
        refine next _ (by first | trivial | (intro h; first | exact h.elim | cases h | omega)) rfl ?_
        (refine canon_mk ?_; simp [ordOf, dedupA, idsF, inside, renV, renI, renC, renO, posN, noId, mkSt_fr, mkSt_H, mkSt_nx, mkSt_rs, lookF, nodupB, depth, upd, ordIds_int, ordRen_int, ordIds_app, ordRen_app, ordIds_app2, ordRen_app2, appW, -List.map_replicate, -List.map_set, -List.map_append, -List.map_reverse, -List.map_take, -List.map_drop, -List.map_tail, -List.map_map])
      · have hr : rowM 5 p (k + 1) = tab (k + 1) (chP p k) := rfl
        have hr2 : rowM 5 p (k + 2) = tab (k + 2) (chP p (k + 1)) := rfl
        rw [hr2, own_] at next
        rw [hr]
        simp only [Nat.reduceEqDiff, eq_self, reduceIte, if_false, if_true] at next
        generalize hL : nmL 5 p (k + 1) = L at *
        have lR := tab_len (k + 1) (chP p k)
        have lR2 := tab_len (k + 2) (chP p (k + 1))
        have hs := run_l02Sum p (k + 1) L (tab (k + 1) (chP p k)) hp (by omega) (by omega) (by omega) rL (fun i => rd_of_mem hp (chP_mem hp _ _) i)
        rw [if_neg (by omega)] at hs
        simp only [Int.natCast_add, Int.cast_ofNat_Int] at hs
        have hq := run_l02Pascal p k hp (by omega)
        rw [lL, lR] at hs
        rw [lR, lR2] at hq
        generalize dotK p L (tab (k + 1) (chP p k)) (k + 1) = x at *
        generalize tab (k + 1) (chP p k) = R at *
        generalize tab (k + 2) (chP p (k + 1)) = R2 at *
        simp [WL_nil, WL_seq, WL_region, WL_ret, WL_skip, WL_block, WL_inBlock, WL_cond, WC_t, WC_f, WL_label, WL_exitX, WL_gotoX, WX_some, WL_scope, WL_inScope, WL_regionD, WO_cons, WO_nil, WD_some, WOd_cons, WOd_nil, WDd_some, List.nil_append, List.cons_append, stepD, wantV, opD, ev, V.ofC, V.ofS, ret, binV, intOp, unV, St.app, updO, upd, appW, E0_P, E0_m, E0_s, E1_P, E1_m, E1_s, E2_P, E2_m, E2_s, mkSt_fr, mkSt_H, mkSt_nx, mkSt_rs, lookF, modesOf, callOp, evL, calleeV, callD, prepL, prepA, purN, idsN, isRefV, flatO, backW, adopt, adoptA, adoptC, adoptL, adoptT, widthOk, wideA, freezeW, depth, noTup, nodupB, treeN, St.enter, exitTo, gotoIn, findLabel, getO, lenV, bltD, loadD, viewN, V.cells, storeD, mvC, expN, eidN, hasU, optE, sliceNil, eqV, isC, mapM_purN_int, mapM_expN_int, mapM_viewN_int, flatMap_idsN_int, flatMap_eidN_int, any_hasU_int, all_treeN_int, mapM_purN_str, mapM_expN_str, flatMap_idsN_str, flatMap_eidN_str, any_hasU_str, all_treeN_str, ownX, ownI, backO, backL, take_map_full, -List.map_replicate, -List.map_set, -List.map_append, -List.map_reverse, -List.map_take, -List.map_drop, -List.map_tail, -List.any_map, -List.all_map, -List.mapM_map, -List.map_map, slL, szI, ldI, zI, undL, apL, setI, rdI_get, Nat.add_one_le_iff, fillV, zeros1, zeros0, appendD, segV, lvO, goneOf, sliceD, bound, Nat.add_assoc, szL, ldL, setCs0, setCs1, setCs2, setCsA2, setCsA3, ldM, fM0, fM1, szM, zM, plM0, plM1, agM, paM, ldJ, fJ0, fJ1, fJ2, szJ, zJ, plJ0, plJ1, plJ2, agJ, paJ, ldJl, fJl0, fJl1, fJl2, szJl, undS, strOp, hk, hki, hk2, w1, w2, w3, e1, e2, e3, e4, e5, k1p, k1q, k1z, kk, kki, hs, hq, hpn, lL, lR, lR2, c3, wz0, wz1]
        repeat refine ⟨by kernel_rfl, by kernel_rfl, ?_⟩
        refine next _ (by first | trivial | (intro h; first | exact h.elim | cases h | omega)) rfl ?_
        (refine canon_mk ?_; simp [ordOf, dedupA, idsF, inside, renV, renI, renC, renO, posN, noId, mkSt_fr, mkSt_H, mkSt_nx, mkSt_rs, lookF, nodupB, depth, upd, ordIds_int, ordRen_int, ordIds_app, ordRen_app, ordIds_app2, ordRen_app2, appW, -List.map_replicate, -List.map_set, -List.map_append, -List.map_reverse, -List.map_take, -List.map_drop, -List.map_tail, -List.map_map, lR, lR2])
  · intro hP
    have hps : okM t p n = true := by
      unfold okM
      by_cases c : t = 1
      · have := hP c; simp; omega
      · simp [c]
    have lL := nmL_len t p n
    rcases n with _ | k
    · omega
    · dsimp only
      simp only [Int.natCast_add, Int.cast_ofNat_Int] at hps ⊢
      simp [WL_nil, WL_seq, WL_region, WL_ret, WL_skip, WL_block, WL_inBlock, WL_cond, WC_t, WC_f, WL_label, WL_exitX, WL_gotoX, WX_some, WL_scope, WL_inScope, WL_regionD, WO_cons, WO_nil, WD_some, WOd_cons, WOd_nil, WDd_some, List.nil_append, List.cons_append, stepD, wantV, opD, ev, V.ofC, V.ofS, ret, binV, intOp, unV, St.app, updO, upd, appW, E0_P, E0_m, E0_s, E1_P, E1_m, E1_s, E2_P, E2_m, E2_s, mkSt_fr, mkSt_H, mkSt_nx, mkSt_rs, lookF, modesOf, callOp, evL, calleeV, callD, prepL, prepA, purN, idsN, isRefV, flatO, backW, adopt, adoptA, adoptC, adoptL, adoptT, widthOk, wideA, freezeW, depth, noTup, nodupB, treeN, St.enter, exitTo, gotoIn, findLabel, getO, lenV, bltD, loadD, viewN, V.cells, storeD, mvC, expN, eidN, hasU, optE, sliceNil, eqV, isC, mapM_purN_int, mapM_expN_int, mapM_viewN_int, flatMap_idsN_int, flatMap_eidN_int, any_hasU_int, all_treeN_int, mapM_purN_str, mapM_expN_str, flatMap_idsN_str, flatMap_eidN_str, any_hasU_str, all_treeN_str, ownX, ownI, backO, backL, take_map_full, -List.map_replicate, -List.map_set, -List.map_append, -List.map_reverse, -List.map_take, -List.map_drop, -List.map_tail, -List.any_map, -List.all_map, -List.mapM_map, -List.map_map, slL, szI, ldI, zI, undL, apL, setI, rdI_get, Nat.add_one_le_iff, fillV, zeros1, zeros0, appendD, segV, lvO, goneOf, sliceD, bound, Nat.add_assoc, szL, ldL, setCs0, setCs1, setCs2, setCsA2, setCsA3, ldM, fM0, fM1, szM, zM, plM0, plM1, agM, paM, ldJ, fJ0, fJ1, fJ2, szJ, zJ, plJ0, plJ1, plJ2, agJ, paJ, ldJl, fJl0, fJl1, fJl2, szJl]
      simp [Ends, finish, finFresh, finRead, resV, expN, treeN, eidN, outs, outA, outC, outL, outsI, outAI, outI, outIL, nodupB, depth, normR, normA, normL, normC, noTup, oneV, purN, idsN, upd, E0_P, E1_P, E2_P, mkSt_fr, mkSt_H, mkSt_nx, mkSt_rs, lookF, flatO, disjN, getO, mapM_purN_int, mapM_expN_int, flatMap_idsN_int, flatMap_eidN_int, any_hasU_int, all_treeN_int, mapM_purN_str, mapM_expN_str, flatMap_idsN_str, flatMap_eidN_str, any_hasU_str, all_treeN_str, ctBool, ctInt, ctI64, ctL, take_map_full, -List.map_replicate, -List.map_set, -List.map_append, -List.map_reverse, -List.map_take, -List.map_drop, -List.map_tail, -List.any_map, -List.all_map, -List.mapM_map, -List.map_map, Try.f113, hps, lL]
  · dsimp only
    (refine canon_mk ?_; simp [ordOf, dedupA, idsF, inside, renV, renI, renC, renO, posN, noId, mkSt_fr, mkSt_H, mkSt_nx, mkSt_rs, lookF, nodupB, depth, upd, ordIds_int, ordRen_int, ordIds_app, ordRen_app, ordIds_app2, ordRen_app2, appW, -List.map_replicate, -List.map_set, -List.map_append, -List.map_reverse, -List.map_take, -List.map_drop, -List.map_tail, -List.map_map])
end Go.Proofs.Ytclebbjpacpbmaa.Ev
