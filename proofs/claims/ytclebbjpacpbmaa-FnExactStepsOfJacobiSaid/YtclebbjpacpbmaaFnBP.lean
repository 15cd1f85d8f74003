/- The marking of all rows. Conditions: none. -/
import Derived.Test.YtclebbjpacpbmaaFnBO
set_option linter.unusedSimpArgs false
set_option linter.unusedVariables false
namespace Go.Proofs.Ytclebbjpacpbmaa.Ev
open Go Go.Proofs
set_option maxRecDepth 4000
set_option maxHeartbeats 4000000

/-- The cells of all rows, of which some have been taken out. -/
def cRow (r : List (List Int)) (ids : Nat → Nat) (i : Nat) : List V := (List.range i).map (fun j => V.sl (ids j) 0 0 (rdL r j).length) ++ (r.drop i).map UV
theorem cRow_len (r : List (List Int)) (ids : Nat → Nat) {i : Nat} (h : i ≤ r.length) : (cRow r ids i).length = r.length := by simp [cRow]; omega
theorem cRow_at (r : List (List Int)) (ids : Nat → Nat) {i : Nat} (h : i < r.length) : (cRow r ids i)[i]? = some (UV (rdL r i)) := by
  simp [cRow, List.getElem?_append, rdL, h]
theorem cRow_set (r : List (List Int)) (ids : Nat → Nat) {i b : Nat} (h : i < r.length) : setCs (cRow r ids i) i [V.sl b 0 0 (rdL r i).length] = cRow r (upd ids i b) (i + 1) := by
  unfold setCs cRow
  rw [List.take_append_of_le_length (by simp), List.take_of_length_le (by simp), List.drop_append, List.drop_eq_nil_of_le (by simp), List.nil_append, List.range_succ, List.map_append]
  congr 1
  · congr 1
    · apply List.map_congr_left
      intro j hj
      have : j ≠ i := by have := List.mem_range.1 hj; omega
      rw [upd_ne _ _ _ _ this]
    · simp [upd]
  · rw [← List.map_drop, List.drop_drop]; simp
theorem nodupB_ids : ∀ (n : Nat) (ids : Nat → Nat), (∀ j, j < n → 0 < ids j) → (∀ j j', j < n → j' < n → j ≠ j' → ids j ≠ ids j') → nodupB (0 :: (List.range n).map ids) = true := fun n ids h0 h1 => by
  have key : ∀ l : List Nat, l.Nodup → nodupB l = true := by
    intro l
    induction l with
    | nil => intro _; rfl
    | cons x xs ih =>
      intro h
      rw [List.nodup_cons] at h
      simp only [nodupB, Bool.and_eq_true, Bool.not_eq_true', List.contains_eq_mem, decide_eq_false_iff_not]
      exact ⟨h.1, ih h.2⟩
  apply key
  rw [List.nodup_cons]
  refine ⟨fun h => ?_, ?_⟩
  · obtain ⟨j, hj, e⟩ := List.mem_map.1 h
    have := h0 j (List.mem_range.1 hj); omega
  · rw [List.nodup_iff_pairwise_ne, List.pairwise_map]
    have := List.nodup_range (n := n)
    rw [List.nodup_iff_pairwise_ne] at this
    refine this.imp_of_mem fun {a b} ha hb hne => h1 a b (List.mem_range.1 ha) (List.mem_range.1 hb) hne
theorem cRow_exp {H : Nat → Option Ob} (k : Int) (r : List (List Int)) (ids : Nat → Nat) (h : ∀ j, j < r.length → H (ids j) = some (row (marks (mkAt k r j) (rdL r j).length))) :
    (cRow r ids r.length).mapM (expN H 5) = some ((mrow k r r.length).map UV) ∧ (cRow r ids r.length).flatMap (eidN H 5) = (List.range r.length).map ids := by
  have e : cRow r ids r.length = (List.range r.length).map (fun j => V.sl (ids j) 0 0 (rdL r j).length) := by simp [cRow]
  rw [e]
  have key : ∀ l : List Nat, (∀ j, j ∈ l → j < r.length) → (l.map (fun j => V.sl (ids j) 0 0 (rdL r j).length)).mapM (expN H 5) = some ((l.map fun i => marks (mkAt k r i) (rdL r i).length).map UV) ∧ (l.map (fun j => V.sl (ids j) 0 0 (rdL r j).length)).flatMap (eidN H 5) = l.map ids := by
    intro l
    induction l with
    | nil => intro _; exact ⟨rfl, rfl⟩
    | cons j l ih =>
      intro hl
      obtain ⟨i1, i2⟩ := ih fun x hx => hl x (List.mem_cons_of_mem _ hx)
      have hj := h j (hl j (List.mem_cons_self ..))
      have ml := marks_len (mkAt k r j) (rdL r j).length
      have e1 : expN H 5 (V.sl (ids j) 0 0 (rdL r j).length) = some (UV (marks (mkAt k r j) (rdL r j).length)) := by
        have t : ((marks (mkAt k r j) (rdL r j).length).map (V.int .i64)).take ((rdL r j).length * 1) = (marks (mkAt k r j) (rdL r j).length).map (V.int .i64) := take_map_full (by rw [ml]; omega)
        simp only [expN, getO, hj, row, if_true, t, mapM_expN_int, Option.map_some, UV, ml]
        simp [ml]
      have e2 : eidN H 5 (V.sl (ids j) 0 0 (rdL r j).length) = [ids j] := by
        have t : ((marks (mkAt k r j) (rdL r j).length).map (V.int .i64)).take ((rdL r j).length * 1) = (marks (mkAt k r j) (rdL r j).length).map (V.int .i64) := take_map_full (by rw [ml]; omega)
        simp only [eidN, getO, hj, row, if_true, t, flatMap_eidN_int]
      refine ⟨?_, ?_⟩
      · rw [List.map_cons, List.mapM_cons, e1, i1]; rfl
      · rw [List.map_cons, List.flatMap_cons, e2, i2]; rfl
  exact key _ fun j hj => List.mem_range.1 hj
theorem run_markInt64SS (k : Int) (r : List (List Int)) (hk : 0 ≤ k ∧ k ≤ 1048576) (hr : r.length ≤ 1048576) (hl : ∀ f, f ∈ r → f.length ≤ 1048576) :
    runv E2 17 [.uniq 1 r.length (r.map UV), .int .i64 k] = some ⟨true, .int .i64 (mkAt k r r.length), [.uniq 1 r.length ((mrow k r r.length).map UV), .undef]⟩ := by
  have cdk : codeOk Try.f17.ntmps (Try.f17.body.getD .skip) = true := by kernel_rfl
  refine run_of_WL (E := E2) (fn := Try.f17) rfl Try.func17 rfl ⟨by simp [Try.ntmps17], by simp [wideA, ints], cdk, by simp [Try.f17]⟩ ?_
  simp [WL_nil, WL_seq, WL_region, WL_ret, WL_skip, WL_block, WL_inBlock, WL_cond, WC_t, WC_f, WL_label, WL_exitX, WL_gotoX, WX_some, WL_scope, WL_inScope, WL_regionD, WO_cons, WO_nil, WD_some, WOd_cons, WOd_nil, WDd_some, List.nil_append, List.cons_append, stepD, wantV, opD, ev, V.ofC, V.ofS, ret, binV, intOp, unV, St.app, updO, upd, appW, E0_P, E0_m, E0_s, E1_P, E1_m, E1_s, E2_P, E2_m, E2_s, mkSt_fr, mkSt_H, mkSt_nx, mkSt_rs, lookF, modesOf, callOp, evL, calleeV, callD, prepL, prepA, purN, idsN, isRefV, flatO, backW, adopt, adoptA, adoptC, adoptL, adoptT, widthOk, wideA, freezeW, depth, noTup, nodupB, treeN, St.enter, exitTo, gotoIn, findLabel, getO, lenV, bltD, loadD, viewN, V.cells, storeD, mvC, expN, eidN, hasU, optE, sliceNil, eqV, isC, mapM_purN_int, mapM_expN_int, mapM_viewN_int, flatMap_idsN_int, flatMap_eidN_int, any_hasU_int, all_treeN_int, mapM_purN_str, mapM_expN_str, flatMap_idsN_str, flatMap_eidN_str, any_hasU_str, all_treeN_str, ownX, ownI, backO, backL, take_map_full, -List.map_replicate, -List.map_set, -List.map_append, -List.map_reverse, -List.map_take, -List.map_drop, -List.map_tail, -List.any_map, -List.all_map, -List.mapM_map, -List.map_map, slL, szI, ldI, zI, undL, apL, setI, rdI_get, Nat.add_one_le_iff, fillV, zeros1, zeros0, appendD, segV, lvO, goneOf, sliceD, bound, Nat.add_assoc, undR']
  rw [WL_loop]
  refine WL_count (I := fun i st => ∃ ids : Nat → Nat, st.fr 0 = .sl 0 0 0 r.length ∧ st.fr 1 = .int .i64 (mkAt k r i) ∧ st.fr 5 = .int .i64 (i : Int) ∧ st.H 0 = some (⟨0, 2, 1, cRow r ids i⟩) ∧ 0 < st.nx ∧ (∀ j, j < i → 0 < ids j ∧ ids j < st.nx) ∧ (∀ j j', j < i → j' < i → j ≠ j' → ids j ≠ ids j') ∧ (∀ j, j < i → st.H (ids j) = some (row (marks (mkAt k r j) (rdL r j).length)))) r.length ?_ ?_ 0 _ (by omega) ?_
  · rintro i st hi ⟨ids, he0, he1, he2, he3, he4, he5, he6, he7⟩ next
    have w3 : IntKind.i64.wrap ((i : Int) + 1) = (i : Int) + 1 := IntWalk.i64_in _ (by omega)
    have g1 := mkAt_ge k r i
    have g2 := mkAt_le k r 1048576 hl i
    have hr' : (rdL r i).length ≤ 1048576 := by
      unfold rdL; have := hl _ (List.getElem_mem hi); simpa [hi] using this
    have h1 := upS (run_markInt64S (rdL r i) (mkAt k r i) (by omega) (by omega))
    rw [show mkAt k r i + ((rdL r i).length : Int) = mkAt k r (i + 1) from rfl] at h1
    have ii : (i : Int) < r.length := by omega
    have hc := cRow_at r ids hi
    have lc := cRow_len r ids (Nat.le_of_lt hi)
    have n1 := ne_new he4
    have n2 := new_ne he4
    have ml := marks_len (mkAt k r i) (rdL r i).length
    unfold UV at hc
    have hil : i < (cRow r ids i).length := by omega
    have hge : (cRow r ids i)[i] = V.uniq 1 (rdL r i).length ((rdL r i).map (V.int .i64)) := by
      have := hc; rw [List.getElem?_eq_getElem hil] at this; injection this
    simp [WL_nil, WL_seq, WL_region, WL_ret, WL_skip, WL_block, WL_inBlock, WL_cond, WC_t, WC_f, WL_label, WL_exitX, WL_gotoX, WX_some, WL_scope, WL_inScope, WL_regionD, WO_cons, WO_nil, WD_some, WOd_cons, WOd_nil, WDd_some, List.nil_append, List.cons_append, stepD, wantV, opD, ev, V.ofC, V.ofS, ret, binV, intOp, unV, St.app, updO, upd, appW, E0_P, E0_m, E0_s, E1_P, E1_m, E1_s, E2_P, E2_m, E2_s, mkSt_fr, mkSt_H, mkSt_nx, mkSt_rs, lookF, modesOf, callOp, evL, calleeV, callD, prepL, prepA, purN, idsN, isRefV, flatO, backW, adopt, adoptA, adoptC, adoptL, adoptT, widthOk, wideA, freezeW, depth, noTup, nodupB, treeN, St.enter, exitTo, gotoIn, findLabel, getO, lenV, bltD, loadD, viewN, V.cells, storeD, mvC, expN, eidN, hasU, optE, sliceNil, eqV, isC, mapM_purN_int, mapM_expN_int, mapM_viewN_int, flatMap_idsN_int, flatMap_eidN_int, any_hasU_int, all_treeN_int, mapM_purN_str, mapM_expN_str, flatMap_idsN_str, flatMap_eidN_str, any_hasU_str, all_treeN_str, ownX, ownI, backO, backL, take_map_full, -List.map_replicate, -List.map_set, -List.map_append, -List.map_reverse, -List.map_take, -List.map_drop, -List.map_tail, -List.any_map, -List.all_map, -List.mapM_map, -List.map_map, slL, szI, ldI, zI, undL, apL, setI, rdI_get, Nat.add_one_le_iff, fillV, zeros1, zeros0, appendD, segV, lvO, goneOf, sliceD, bound, Nat.add_assoc, szL, ldL, setCs0, setCs1, setCs2, setCsA2, setCsA3, ldM, fM0, fM1, szM, zM, plM0, plM1, agM, paM, ldJ, fJ0, fJ1, fJ2, szJ, zJ, plJ0, plJ1, plJ2, agJ, paJ, ldJl, fJl0, fJl1, fJl2, szJl, he0, he1, he2, he3, undR', slR', hi, ii, w3, hc, hge, lc, h1, n1, n2, ml]
    refine next _ ⟨upd ids i (st.nx + 448), by simp [upd, he0], by simp [upd], by simp [upd], ?_, by simp, fun j hj => ?_, fun j j' hj hj' hne => ?_, fun j hj => ?_⟩
    · simp only [upd, n1, n2, if_false, if_true]
      rw [cRow_set r ids hi]
    · by_cases c : j = i
      · subst c; simp only [upd, if_true]; omega
      · have := he5 j (by omega)
        simp only [upd, c, if_false]; omega
    · by_cases c : j = i
      · subst c
        have := he5 j' (by omega)
        simp only [upd, if_true, show ¬ j' = j from fun e => hne e.symm, if_false]; omega
      · by_cases c' : j' = i
        · subst c'
          have := he5 j (by omega)
          simp only [upd, if_true, c, if_false]; omega
        · simp only [upd, c, c', if_false]
          exact he6 j j' (by omega) (by omega) hne
    · by_cases c : j = i
      · subst c; simp [upd, row]
      · have h5 := he5 j (by omega)
        have h7 := he7 j (by omega)
        have q1 : ¬ ids j = st.nx + 448 := by omega
        have q2 : ¬ ids j = 0 := by omega
        simp only [upd, c, if_false, q1, q2]
        exact h7
  · rintro st ⟨ids, he0, he1, he2, he3, he4, he5, he6, he7⟩
    obtain ⟨x1, x2⟩ := cRow_exp k r ids he7
    have lc := cRow_len r ids (Nat.le_refl r.length)
    have nd := nodupB_ids r.length ids (fun j hj => (he5 j hj).1) he6
    have tk : (cRow r ids r.length).take r.length = cRow r ids r.length := List.take_of_length_le (by omega)
    simp only [nodupB, Bool.and_eq_true] at nd
    simp [WL_nil, WL_seq, WL_region, WL_ret, WL_skip, WL_block, WL_inBlock, WL_cond, WC_t, WC_f, WL_label, WL_exitX, WL_gotoX, WX_some, WL_scope, WL_inScope, WL_regionD, WO_cons, WO_nil, WD_some, WOd_cons, WOd_nil, WDd_some, List.nil_append, List.cons_append, stepD, wantV, opD, ev, V.ofC, V.ofS, ret, binV, intOp, unV, St.app, updO, upd, appW, E0_P, E0_m, E0_s, E1_P, E1_m, E1_s, E2_P, E2_m, E2_s, mkSt_fr, mkSt_H, mkSt_nx, mkSt_rs, lookF, modesOf, callOp, evL, calleeV, callD, prepL, prepA, purN, idsN, isRefV, flatO, backW, adopt, adoptA, adoptC, adoptL, adoptT, widthOk, wideA, freezeW, depth, noTup, nodupB, treeN, St.enter, exitTo, gotoIn, findLabel, getO, lenV, bltD, loadD, viewN, V.cells, storeD, mvC, expN, eidN, hasU, optE, sliceNil, eqV, isC, mapM_purN_int, mapM_expN_int, mapM_viewN_int, flatMap_idsN_int, flatMap_eidN_int, any_hasU_int, all_treeN_int, mapM_purN_str, mapM_expN_str, flatMap_idsN_str, flatMap_eidN_str, any_hasU_str, all_treeN_str, ownX, ownI, backO, backL, take_map_full, -List.map_replicate, -List.map_set, -List.map_append, -List.map_reverse, -List.map_take, -List.map_drop, -List.map_tail, -List.any_map, -List.all_map, -List.mapM_map, -List.map_map, slL, szI, ldI, zI, undL, apL, setI, rdI_get, Nat.add_one_le_iff, fillV, zeros1, zeros0, appendD, segV, lvO, goneOf, sliceD, bound, Nat.add_assoc, szL, ldL, setCs0, setCs1, setCs2, setCsA2, setCsA3, ldM, fM0, fM1, szM, zM, plM0, plM1, agM, paM, ldJ, fJ0, fJ1, fJ2, szJ, zJ, plJ0, plJ1, plJ2, agJ, paJ, ldJl, fJl0, fJl1, fJl2, szJl, he0, he1, he2, he3, undR']
    simp [Ends, finish, finFresh, finRead, resV, expN, treeN, eidN, outs, outA, outC, outL, outsI, outAI, outI, outIL, nodupB, depth, normR, normA, normL, normC, noTup, oneV, purN, idsN, upd, E0_P, E1_P, E2_P, mkSt_fr, mkSt_H, mkSt_nx, mkSt_rs, lookF, flatO, disjN, getO, mapM_purN_int, mapM_expN_int, flatMap_idsN_int, flatMap_eidN_int, any_hasU_int, all_treeN_int, mapM_purN_str, mapM_expN_str, flatMap_idsN_str, flatMap_eidN_str, any_hasU_str, all_treeN_str, ctBool, ctInt, ctI64, ctL, take_map_full, -List.map_replicate, -List.map_set, -List.map_append, -List.map_reverse, -List.map_take, -List.map_drop, -List.map_tail, -List.any_map, -List.all_map, -List.mapM_map, -List.map_map, Try.f17, he0, he1, he2, he3, lc, tk, x1, x2, nd]
    intro x hx
    have := (he5 x hx).1
    omega
  · refine ⟨fun _ => 0, rfl, rfl, rfl, rfl, by simp, fun j hj => absurd hj (by omega), fun j j' hj => absurd hj (by omega), fun j hj => absurd hj (by omega)⟩
end Go.Proofs.Ytclebbjpacpbmaa.Ev
