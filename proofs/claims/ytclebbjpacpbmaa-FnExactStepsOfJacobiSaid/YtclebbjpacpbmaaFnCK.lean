/- StepsOfJacobi: the marking of all data of a list. Conditions: none. -/
import Derived.Test.YtclebbjpacpbmaaFnCJ
set_option linter.unusedSimpArgs false
set_option linter.unusedVariables false
namespace Go.Proofs.Ytclebbjpacpbmaa.Ev
open Go Go.Proofs
set_option maxRecDepth 4000
set_option maxHeartbeats 4000000

/-- The cells of the first data, which have been marked. -/
def aT (k : Int) (l : List (Int × List Int × List Int)) (ids : Nat → Nat) (i : Nat) : List V := (List.range i).flatMap fun j => [.int .i64 (mkT k l j), .sl (ids (2 * j)) 0 0 (at3 l j).2.1.length, .sl (ids (2 * j + 1)) 0 0 (at3 l j).2.2.length]
theorem aT_len (k : Int) (l : List (Int × List Int × List Int)) (ids : Nat → Nat) (i : Nat) : (aT k l ids i).length = i * 3 := by
  unfold aT; rw [fm3_len _ (fun _ => rfl)]; simp; omega
theorem aT_cg (k : Int) (l : List (Int × List Int × List Int)) {ids ids' : Nat → Nat} (i : Nat) (h : ∀ j, j < 2 * i → ids j = ids' j) : aT k l ids i = aT k l ids' i := by
  unfold aT
  refine congrArg List.flatten (List.map_congr_left fun j hj => ?_)
  have := List.mem_range.1 hj
  rw [h (2 * j) (by omega), h (2 * j + 1) (by omega)]
/-- All cells, those of the i-th data apart. -/
def cX (k : Int) (l : List (Int × List Int × List Int)) (ids : Nat → Nat) (i : Nat) (x y z : V) : List V := aT k l ids i ++ [x, y, z] ++ trU (l.drop (i + 1))
def cT (k : Int) (l : List (Int × List Int × List Int)) (ids : Nat → Nat) (i : Nat) : List V := aT k l ids i ++ trU (l.drop i)
theorem cX_len (k : Int) (l : List (Int × List Int × List Int)) (ids : Nat → Nat) {i : Nat} (x y z : V) (h : i < l.length) : (cX k l ids i x y z).length = 3 * l.length := by
  unfold cX; rw [List.length_append, List.length_append, aT_len, trU_len, List.length_drop]; simp; omega
theorem cT_cX (k : Int) (l : List (Int × List Int × List Int)) (ids : Nat → Nat) {i : Nat} (h : i < l.length) : cT k l ids i = cX k l ids i (.int .i64 (at3 l i).1) (UV (at3 l i).2.1) (UV (at3 l i).2.2) := by
  unfold cT cX
  rw [List.drop_eq_getElem_cons h, at3_eq h]
  unfold trU
  rw [List.flatMap_cons, List.append_assoc]; rfl
theorem cX_next (k : Int) (l : List (Int × List Int × List Int)) (ids : Nat → Nat) (i b c : Nat) :
    cX k l ids i (.int .i64 (mkT k l i)) (.sl b 0 0 (at3 l i).2.1.length) (.sl c 0 0 (at3 l i).2.2.length) = cT k l (upd (upd ids (2 * i) b) (2 * i + 1) c) (i + 1) := by
  unfold cX cT
  congr 1
  rw [show aT k l (upd (upd ids (2 * i) b) (2 * i + 1) c) (i + 1) = aT k l (upd (upd ids (2 * i) b) (2 * i + 1) c) i ++ [.int .i64 (mkT k l i), .sl b 0 0 (at3 l i).2.1.length, .sl c 0 0 (at3 l i).2.2.length] from ?_]
  · congr 1
    exact aT_cg k l i fun j hj => by simp [upd, show ¬ j = 2 * i by omega, show ¬ j = 2 * i + 1 by omega]
  · unfold aT
    rw [List.range_succ, List.flatMap_append]
    simp [upd]
section
variable (k : Int) (l : List (Int × List Int × List Int)) (ids : Nat → Nat) (i : Nat) (x y z u : V)
theorem cX_set0 : setCs (cX k l ids i x y z) (i * 3) [u] = cX k l ids i u y z := by
  have h := aT_len k l ids i
  unfold setCs cX
  generalize aT k l ids i = A at *
  generalize trU (l.drop (i + 1)) = R
  have e1 : A ++ [x, y, z] ++ R = (A) ++ x :: ([y, z] ++ R) := by simp
  have e2 : A ++ [u, y, z] ++ R = (A) ++ u :: ([y, z] ++ R) := by simp
  have h' : (A).length = i * 3 := by simp [h]
  rw [e1, e2, ← h', List.take_left, show (A).length + [u].length = ((A) ++ [x]).length by simp, show (A) ++ x :: ([y, z] ++ R) = ((A) ++ [x]) ++ ([y, z] ++ R) by simp, List.drop_left]
  simp
theorem cX_set1 : setCs (cX k l ids i x y z) (i * 3 + 1) [u] = cX k l ids i x u z := by
  have h := aT_len k l ids i
  unfold setCs cX
  generalize aT k l ids i = A at *
  generalize trU (l.drop (i + 1)) = R
  have e1 : A ++ [x, y, z] ++ R = (A ++ [x]) ++ y :: ([z] ++ R) := by simp
  have e2 : A ++ [x, u, z] ++ R = (A ++ [x]) ++ u :: ([z] ++ R) := by simp
  have h' : (A ++ [x]).length = i * 3 + 1 := by simp [h]
  rw [e1, e2, ← h', List.take_left, show (A ++ [x]).length + [u].length = ((A ++ [x]) ++ [y]).length by simp, show (A ++ [x]) ++ y :: ([z] ++ R) = ((A ++ [x]) ++ [y]) ++ ([z] ++ R) by simp, List.drop_left]
  simp
theorem cX_set2 : setCs (cX k l ids i x y z) (i * 3 + 2) [u] = cX k l ids i x y u := by
  have h := aT_len k l ids i
  unfold setCs cX
  generalize aT k l ids i = A at *
  generalize trU (l.drop (i + 1)) = R
  have e1 : A ++ [x, y, z] ++ R = (A ++ [x, y]) ++ z :: ( R) := by simp
  have e2 : A ++ [x, y, u] ++ R = (A ++ [x, y]) ++ u :: ( R) := by simp
  have h' : (A ++ [x, y]).length = i * 3 + 2 := by simp [h]
  rw [e1, e2, ← h', List.take_left, show (A ++ [x, y]).length + [u].length = ((A ++ [x, y]) ++ [z]).length by simp, show (A ++ [x, y]) ++ z :: ( R) = ((A ++ [x, y]) ++ [z]) ++ ( R) by simp, List.drop_left]
  simp
theorem cX_at1 : (cX k l ids i x y z)[i * 3 + 1]? = some y := by
  have h := aT_len k l ids i
  unfold cX
  generalize aT k l ids i = A at *
  rw [← h]
  simp [List.getElem?_append]
theorem cX_at2 : (cX k l ids i x y z)[i * 3 + 2]? = some z := by
  have h := aT_len k l ids i
  unfold cX
  generalize aT k l ids i = A at *
  rw [← h]
  simp [List.getElem?_append]
end
theorem cT_exp {H : Nat → Option Ob} (k : Int) (l : List (Int × List Int × List Int)) (ids : Nat → Nat)
    (h : ∀ j, j < l.length → H (ids (2 * j)) = some (row (marks (mkT k l j + 1) (at3 l j).2.1.length)) ∧ H (ids (2 * j + 1)) = some (row (marks (mkT k l j + 1 + (at3 l j).2.1.length) (at3 l j).2.2.length))) :
    ∀ n, n ≤ l.length → (aT k l ids n).mapM (expN H 5) = some (trU (mtri k l n)) ∧ (aT k l ids n).flatMap (eidN H 5) = (List.range (2 * n)).map ids := by
  have e1 : ∀ (b : Nat) (m : Int) (n : Nat), H b = some (row (marks m n)) → expN H 5 (V.sl b 0 0 n) = some (UV (marks m n)) ∧ eidN H 5 (V.sl b 0 0 n) = [b] := fun b m n hb => by
    have ml := marks_len m n
    have t : ((marks m n).map (V.int .i64)).take (n * 1) = (marks m n).map (V.int .i64) := take_map_full (by rw [ml]; omega)
    constructor
    · simp only [expN, getO, hb, row, if_true, t, mapM_expN_int, Option.map_some, UV, ml]
      simp [ml]
    · simp only [eidN, getO, hb, row, if_true, t, flatMap_eidN_int]
  intro n
  induction n with
  | zero => intro _; exact ⟨rfl, rfl⟩
  | succ n ih =>
    intro hn
    obtain ⟨i1, i2⟩ := ih (by omega)
    obtain ⟨h1, h2⟩ := h n (by omega)
    obtain ⟨p1, p2⟩ := e1 _ _ _ h1
    obtain ⟨q1, q2⟩ := e1 _ _ _ h2
    have eA : aT k l ids (n + 1) = aT k l ids n ++ [.int .i64 (mkT k l n), .sl (ids (2 * n)) 0 0 (at3 l n).2.1.length, .sl (ids (2 * n + 1)) 0 0 (at3 l n).2.2.length] := by
      unfold aT; rw [List.range_succ, List.flatMap_append]; simp
    have eM : trU (mtri k l (n + 1)) = trU (mtri k l n) ++ uv3 (mT k l n) := by
      unfold mtri trU; rw [List.range_succ, List.map_append, List.flatMap_append]; simp
    have e0 : expN H 5 (.int .i64 (mkT k l n)) = some (.int .i64 (mkT k l n)) := rfl
    rw [eA, eM]
    constructor
    · rw [List.mapM_append, i1]
      simp only [List.mapM_cons, List.mapM_nil, e0, p1, q1]
      rfl
    · rw [List.flatMap_append, i2, show 2 * (n + 1) = 2 * n + 1 + 1 by omega, List.range_succ, List.range_succ, List.map_append, List.map_append, List.append_assoc]
      congr 1
      simp only [List.flatMap_cons, List.flatMap_nil, p2, q2]
      rfl
theorem run_markJacobiS (k : Int) (l : List (Int × List Int × List Int)) (hk : 0 ≤ k ∧ k ≤ 1048576) (hr : l.length ≤ 1048576) (hl : ∀ x, x ∈ l → x.2.1.length ≤ 1048576 ∧ x.2.2.length ≤ 1048576) :
    runv E2 34 [.uniq 3 l.length (trU l), .int .i64 k] = some ⟨true, .int .i64 (mkT k l l.length), [.uniq 3 l.length (trU (mtri k l l.length)), .undef]⟩ := by
  have cdk : codeOk Try.f34.ntmps (Try.f34.body.getD .skip) = true := by kernel_rfl
  refine run_of_WL (E := E2) (fn := Try.f34) rfl Try.func34 rfl ⟨by simp [Try.ntmps34], by simp [wideA, ints], cdk, by simp [Try.f34]⟩ ?_
  simp [WL_nil, WL_seq, WL_region, WL_ret, WL_skip, WL_block, WL_inBlock, WL_cond, WC_t, WC_f, WL_label, WL_exitX, WL_gotoX, WX_some, WL_scope, WL_inScope, WL_regionD, WO_cons, WO_nil, WD_some, WOd_cons, WOd_nil, WDd_some, List.nil_append, List.cons_append, stepD, wantV, opD, ev, V.ofC, V.ofS, ret, binV, intOp, unV, St.app, updO, upd, appW, E0_P, E0_m, E0_s, E1_P, E1_m, E1_s, E2_P, E2_m, E2_s, mkSt_fr, mkSt_H, mkSt_nx, mkSt_rs, lookF, modesOf, callOp, evL, calleeV, callD, prepL, prepA, purN, idsN, isRefV, flatO, backW, adopt, adoptA, adoptC, adoptL, adoptT, widthOk, wideA, freezeW, depth, noTup, nodupB, treeN, St.enter, exitTo, gotoIn, findLabel, getO, lenV, bltD, loadD, viewN, V.cells, storeD, mvC, expN, eidN, hasU, optE, sliceNil, eqV, isC, mapM_purN_int, mapM_expN_int, mapM_viewN_int, flatMap_idsN_int, flatMap_eidN_int, any_hasU_int, all_treeN_int, mapM_purN_str, mapM_expN_str, flatMap_idsN_str, flatMap_eidN_str, any_hasU_str, all_treeN_str, ownX, ownI, backO, backL, take_map_full, -List.map_replicate, -List.map_set, -List.map_append, -List.map_reverse, -List.map_take, -List.map_drop, -List.map_tail, -List.any_map, -List.all_map, -List.mapM_map, -List.map_map, slL, szI, ldI, zI, undL, apL, setI, rdI_get, Nat.add_one_le_iff, fillV, zeros1, zeros0, appendD, segV, lvO, goneOf, sliceD, bound, Nat.add_assoc, und3]
  rw [WL_loop]
  refine WL_count (I := fun i st => ∃ ids : Nat → Nat, st.fr 0 = .sl 0 0 0 l.length ∧ st.fr 1 = .int .i64 (mkT k l i) ∧ st.fr 5 = .int .i64 (i : Int) ∧ st.H 0 = some (⟨0, 2, 3, cT k l ids i⟩) ∧ 0 < st.nx ∧ (∀ j, j < 2 * i → 0 < ids j ∧ ids j < st.nx) ∧ (∀ j j', j < 2 * i → j' < 2 * i → j ≠ j' → ids j ≠ ids j') ∧ (∀ j, j < i → st.H (ids (2 * j)) = some (row (marks (mkT k l j + 1) (at3 l j).2.1.length)) ∧ st.H (ids (2 * j + 1)) = some (row (marks (mkT k l j + 1 + (at3 l j).2.1.length) (at3 l j).2.2.length)))) l.length ?_ ?_ 0 _ (by omega) ?_
  · rintro i st hi ⟨ids, he0, he1, he2, he3, he4, he5, he6, he7⟩ next
    have w3 : IntKind.i64.wrap ((i : Int) + 1) = (i : Int) + 1 := IntWalk.i64_in _ (by omega)
    have g1 := mkT_ge k l i
    have g2 := mkT_le k l 1048576 hl i
    obtain ⟨b1, b2⟩ := at3_bound hl i
    have w4 : IntKind.i64.wrap (mkT k l i + 1) = mkT k l i + 1 := IntWalk.i64_in _ (by omega)
    have h1 := upS (run_markInt64S (at3 l i).2.1 (mkT k l i + 1) (by omega) (by omega))
    have h2 := upS (run_markInt64S (at3 l i).2.2 (mkT k l i + 1 + (at3 l i).2.1.length) (by omega) (by omega))
    have ii : (i : Int) < l.length := by omega
    have n1 := ne_new he4
    have n2 := new_ne he4
    have ml1 := marks_len (mkT k l i + 1) (at3 l i).2.1.length
    have ml2 := marks_len (mkT k l i + 1 + (at3 l i).2.1.length) (at3 l i).2.2.length
    have lX : ∀ x y z, (cX k l ids i x y z).length = 3 * l.length := fun x y z => cX_len k l ids x y z hi
    have s0 : ∀ x y z u, setCs (cX k l ids i x y z) (i * 3) [u] = cX k l ids i u y z := cX_set0 k l ids i
    have s1 : ∀ x y z u, setCs (cX k l ids i x y z) (i * 3 + 1) [u] = cX k l ids i x u z := cX_set1 k l ids i
    have s2 : ∀ x y z u, setCs (cX k l ids i x y z) (i * 3 + 2) [u] = cX k l ids i x y u := cX_set2 k l ids i
    have f0 : i * 3 < 3 * l.length := by omega
    have f0' : i * 3 + 1 ≤ 3 * l.length := by omega
    have f1 : i * 3 + 1 < 3 * l.length := by omega
    have f2 : i * 3 + 2 < 3 * l.length := by omega
    have a1 : ∀ x y z, (cX k l ids i x y z)[i * 3 + 1]? = some y := cX_at1 k l ids i
    have a2 : ∀ x y z, (cX k l ids i x y z)[i * 3 + 2]? = some z := cX_at2 k l ids i
    have c1 : ∀ x y z (h : i * 3 + 1 < (cX k l ids i x y z).length), (cX k l ids i x y z)[i * 3 + 1] = y := fun x y z h => by
      have := a1 x y z; rw [List.getElem?_eq_getElem h] at this; injection this
    have c2 : ∀ x y z (h : i * 3 + 2 < (cX k l ids i x y z).length), (cX k l ids i x y z)[i * 3 + 2] = z := fun x y z h => by
      have := a2 x y z; rw [List.getElem?_eq_getElem h] at this; injection this
    rw [cT_cX k l ids hi] at he3
    unfold UV at he3
    simp [WL_nil, WL_seq, WL_region, WL_ret, WL_skip, WL_block, WL_inBlock, WL_cond, WC_t, WC_f, WL_label, WL_exitX, WL_gotoX, WX_some, WL_scope, WL_inScope, WL_regionD, WO_cons, WO_nil, WD_some, WOd_cons, WOd_nil, WDd_some, List.nil_append, List.cons_append, stepD, wantV, opD, ev, V.ofC, V.ofS, ret, binV, intOp, unV, St.app, updO, upd, appW, E0_P, E0_m, E0_s, E1_P, E1_m, E1_s, E2_P, E2_m, E2_s, mkSt_fr, mkSt_H, mkSt_nx, mkSt_rs, lookF, modesOf, callOp, evL, calleeV, callD, prepL, prepA, purN, idsN, isRefV, flatO, backW, adopt, adoptA, adoptC, adoptL, adoptT, widthOk, wideA, freezeW, depth, noTup, nodupB, treeN, St.enter, exitTo, gotoIn, findLabel, getO, lenV, bltD, loadD, viewN, V.cells, storeD, mvC, expN, eidN, hasU, optE, sliceNil, eqV, isC, mapM_purN_int, mapM_expN_int, mapM_viewN_int, flatMap_idsN_int, flatMap_eidN_int, any_hasU_int, all_treeN_int, mapM_purN_str, mapM_expN_str, flatMap_idsN_str, flatMap_eidN_str, any_hasU_str, all_treeN_str, ownX, ownI, backO, backL, take_map_full, -List.map_replicate, -List.map_set, -List.map_append, -List.map_reverse, -List.map_take, -List.map_drop, -List.map_tail, -List.any_map, -List.all_map, -List.mapM_map, -List.map_map, slL, szI, ldI, zI, undL, apL, setI, rdI_get, Nat.add_one_le_iff, fillV, zeros1, zeros0, appendD, segV, lvO, goneOf, sliceD, bound, Nat.add_assoc, szL, ldL, setCs0, setCs1, setCs2, setCsA2, setCsA3, ldM, fM0, fM1, szM, zM, plM0, plM1, agM, paM, ldJ, fJ0, fJ1, fJ2, szJ, zJ, plJ0, plJ1, plJ2, agJ, paJ, ldJl, fJl0, fJl1, fJl2, szJl, he0, he1, he2, he3, und3, slT3, hi, ii, w3, w4, lX, s0, s1, s2, a1, a2, c1, c2, f0, f0', f1, f2, h1, h2, n1, n2, ml1, ml2]
    refine next _ ⟨upd (upd ids (2 * i) (st.nx + 1088)) (2 * i + 1) (st.nx + 1600), by simp [upd, he0], by simp [upd]; rfl, by simp [upd], ?_, by simp, fun j hj => ?_, fun j j' hj hj' hne => ?_, fun j hj => ?_⟩
    · simp only [upd, n1, n2, if_false, if_true]
      rw [cX_next k l ids i]
    · by_cases c : j = 2 * i + 1
      · subst c; simp only [upd, if_true]; omega
      · by_cases c' : j = 2 * i
        · subst c'; simp only [upd, c, if_false, if_true]; omega
        · have := he5 j (by omega)
          simp only [upd, c, c', if_false]; omega
    · have key : ∀ j, j < 2 * (i + 1) → (upd (upd ids (2 * i) (st.nx + 1088)) (2 * i + 1) (st.nx + 1600) j = st.nx + 1600 ∧ j = 2 * i + 1) ∨ (upd (upd ids (2 * i) (st.nx + 1088)) (2 * i + 1) (st.nx + 1600) j = st.nx + 1088 ∧ j = 2 * i) ∨ (upd (upd ids (2 * i) (st.nx + 1088)) (2 * i + 1) (st.nx + 1600) j = ids j ∧ j < 2 * i) := fun j hj => by
        by_cases c : j = 2 * i + 1
        · left; subst c; simp [upd]
        · by_cases c' : j = 2 * i
          · right; left; subst c'; simp [upd]
          · right; right; refine ⟨by simp [upd, c, c'], by omega⟩
      rcases key j hj with ⟨p1, p2⟩ | ⟨p1, p2⟩ | ⟨p1, p2⟩ <;> rcases key j' hj' with ⟨q1, q2⟩ | ⟨q1, q2⟩ | ⟨q1, q2⟩ <;> rw [p1, q1] <;> first | omega | (have := he5 j (by omega); omega) | (have := he5 j' (by omega); omega) | exact he6 j j' (by omega) (by omega) hne
    · by_cases c : j = i
      · subst c
        have u1 : ¬ 2 * j = 2 * j + 1 := by omega
        simp [upd, row, u1]
      · have u1 : ¬ 2 * j = 2 * i + 1 := by omega
        have u2 : ¬ 2 * j = 2 * i := by omega
        have u3 : ¬ 2 * j + 1 = 2 * i := by omega
        have u4 : ¬ 2 * j + 1 = 2 * i + 1 := by omega
        have h5 := he5 (2 * j) (by omega)
        have h6 := he5 (2 * j + 1) (by omega)
        have h7 := he7 j (by omega)
        have q1 : ∀ n, ¬ ids (2 * j) = st.nx + n := fun n => by omega
        have q2 : ¬ ids (2 * j) = 0 := by omega
        have q3 : ∀ n, ¬ ids (2 * j + 1) = st.nx + n := fun n => by omega
        have q4 : ¬ ids (2 * j + 1) = 0 := by omega
        simp only [upd, u1, u2, u3, u4, if_false, q1, q2, q3, q4]
        exact h7
  · rintro st ⟨ids, he0, he1, he2, he3, he4, he5, he6, he7⟩
    obtain ⟨x1, x2⟩ := cT_exp k l ids he7 l.length (Nat.le_refl _)
    have eT : cT k l ids l.length = aT k l ids l.length := by unfold cT; rw [List.drop_eq_nil_of_le (Nat.le_refl _)]; simp [trU]
    rw [eT] at he3
    have lA := aT_len k l ids l.length
    have nd := nodupB_ids (2 * l.length) ids (fun j hj => (he5 j hj).1) he6
    have tk : (aT k l ids l.length).take (l.length * 3) = aT k l ids l.length := List.take_of_length_le (by omega)
    simp only [nodupB, Bool.and_eq_true] at nd
    simp [WL_nil, WL_seq, WL_region, WL_ret, WL_skip, WL_block, WL_inBlock, WL_cond, WC_t, WC_f, WL_label, WL_exitX, WL_gotoX, WX_some, WL_scope, WL_inScope, WL_regionD, WO_cons, WO_nil, WD_some, WOd_cons, WOd_nil, WDd_some, List.nil_append, List.cons_append, stepD, wantV, opD, ev, V.ofC, V.ofS, ret, binV, intOp, unV, St.app, updO, upd, appW, E0_P, E0_m, E0_s, E1_P, E1_m, E1_s, E2_P, E2_m, E2_s, mkSt_fr, mkSt_H, mkSt_nx, mkSt_rs, lookF, modesOf, callOp, evL, calleeV, callD, prepL, prepA, purN, idsN, isRefV, flatO, backW, adopt, adoptA, adoptC, adoptL, adoptT, widthOk, wideA, freezeW, depth, noTup, nodupB, treeN, St.enter, exitTo, gotoIn, findLabel, getO, lenV, bltD, loadD, viewN, V.cells, storeD, mvC, expN, eidN, hasU, optE, sliceNil, eqV, isC, mapM_purN_int, mapM_expN_int, mapM_viewN_int, flatMap_idsN_int, flatMap_eidN_int, any_hasU_int, all_treeN_int, mapM_purN_str, mapM_expN_str, flatMap_idsN_str, flatMap_eidN_str, any_hasU_str, all_treeN_str, ownX, ownI, backO, backL, take_map_full, -List.map_replicate, -List.map_set, -List.map_append, -List.map_reverse, -List.map_take, -List.map_drop, -List.map_tail, -List.any_map, -List.all_map, -List.mapM_map, -List.map_map, slL, szI, ldI, zI, undL, apL, setI, rdI_get, Nat.add_one_le_iff, fillV, zeros1, zeros0, appendD, segV, lvO, goneOf, sliceD, bound, Nat.add_assoc, szL, ldL, setCs0, setCs1, setCs2, setCsA2, setCsA3, ldM, fM0, fM1, szM, zM, plM0, plM1, agM, paM, ldJ, fJ0, fJ1, fJ2, szJ, zJ, plJ0, plJ1, plJ2, agJ, paJ, ldJl, fJl0, fJl1, fJl2, szJl, he0, he1, he2, he3, und3]
    simp [Ends, finish, finFresh, finRead, resV, expN, treeN, eidN, outs, outA, outC, outL, outsI, outAI, outI, outIL, nodupB, depth, normR, normA, normL, normC, noTup, oneV, purN, idsN, upd, E0_P, E1_P, E2_P, mkSt_fr, mkSt_H, mkSt_nx, mkSt_rs, lookF, flatO, disjN, getO, mapM_purN_int, mapM_expN_int, flatMap_idsN_int, flatMap_eidN_int, any_hasU_int, all_treeN_int, mapM_purN_str, mapM_expN_str, flatMap_idsN_str, flatMap_eidN_str, any_hasU_str, all_treeN_str, ctBool, ctInt, ctI64, ctL, take_map_full, -List.map_replicate, -List.map_set, -List.map_append, -List.map_reverse, -List.map_take, -List.map_drop, -List.map_tail, -List.any_map, -List.all_map, -List.mapM_map, -List.map_map, Try.f34, he0, he1, he2, he3, lA, tk, x1, x2, nd]
    intro x hx
    have := (he5 x hx).1
    omega
  · refine ⟨fun _ => 0, rfl, rfl, rfl, rfl, by simp, fun j hj => absurd hj (by omega), fun j j' hj => absurd hj (by omega), fun j hj => absurd hj (by omega)⟩
end Go.Proofs.Ytclebbjpacpbmaa.Ev
