/- StepsOfJacobi: the laws' helpers on lists of data. Conditions: none. -/
import Derived.Test.YtclebbjpacpbmaaFnCI
import Derived.Test.YtclebbjpacpbmaaFnBP
set_option linter.unusedSimpArgs false
set_option linter.unusedVariables false
namespace Go.Proofs.Ytclebbjpacpbmaa.Ev
open Go Go.Proofs
set_option maxRecDepth 4000
set_option maxHeartbeats 4000000

theorem fm3_len {α : Type} (f : α → List V) (hf : ∀ x, (f x).length = 3) : ∀ l : List α, (l.flatMap f).length = 3 * l.length
  | [] => rfl
  | x :: l => by rw [List.flatMap_cons, List.length_append, hf, fm3_len f hf l, List.length_cons]; omega
theorem fm3_drop {α : Type} (f : α → List V) (hf : ∀ x, (f x).length = 3) : ∀ (l : List α) (i : Nat) (h : i < l.length), (l.flatMap f).drop (i * 3) = f l[i] ++ (l.drop (i + 1)).flatMap f
  | x :: l, 0, _ => by simp
  | x :: l, i + 1, h => by
    have := fm3_drop f hf l i (by simpa using h)
    rw [List.flatMap_cons, show (i + 1) * 3 = 3 + i * 3 by omega, ← List.drop_drop, List.drop_left' (hf x), this]
    simp
theorem fm3_get {α : Type} (f : α → List V) (hf : ∀ x, (f x).length = 3) (l : List α) (i r : Nat) (h : i < l.length) (hr : r < 3) : (l.flatMap f)[i * 3 + r]? = (f l[i])[r]? := by
  have := fm3_drop f hf l i h
  rw [← List.getElem?_drop, this, List.getElem?_append_left (by rw [hf]; exact hr)]
/-- Data with their primes, as lists that are only read. -/
def lv3 (x : Int × List Int × List Int) : List V := [.int .i64 x.1, LV x.2.1, LV x.2.2]
def uv3 (x : Int × List Int × List Int) : List V := [.int .i64 x.1, UV x.2.1, UV x.2.2]
def trL (l : List (Int × List Int × List Int)) : List V := l.flatMap lv3
def trU (l : List (Int × List Int × List Int)) : List V := l.flatMap uv3
theorem trU_tri (p : Int) (l : List (List Int × List Int)) : tri p l = trU (l.map fun x => (p, x)) := by
  unfold tri trU; rw [List.flatMap_map]; rfl
theorem trL_len (l : List (Int × List Int × List Int)) : (trL l).length = 3 * l.length := fm3_len lv3 (fun _ => rfl) l
theorem trU_len (l : List (Int × List Int × List Int)) : (trU l).length = 3 * l.length := fm3_len uv3 (fun _ => rfl) l
theorem trU_mem {l : List (Int × List Int × List Int)} {v : V} (h : v ∈ trU l) : (∃ p, v = .int .i64 p) ∨ ∃ f, v = UV f := by
  obtain ⟨x, _, hx⟩ := List.mem_flatMap.1 h
  simp only [uv3, List.mem_cons, List.not_mem_nil, or_false] at hx
  rcases hx with rfl | rfl | rfl
  · exact .inl ⟨_, rfl⟩
  · exact .inr ⟨_, rfl⟩
  · exact .inr ⟨_, rfl⟩
theorem purN_LV {H : Nat → Option Ob} {d : Nat} (f : List Int) : purN H d (LV f) = some (LV f) := by cases d <;> rfl
theorem purN_UV' {H : Nat → Option Ob} {d : Nat} (f : List Int) : purN H (d + 1) (UV f) = some (LV f) := by
  simp only [UV, purN, mapM_purN_int]; rfl
section
variable {H : Nat → Option Ob} {d : Nat}
theorem mapM_purN_trU : ∀ l : List (Int × List Int × List Int), (trU l).mapM (purN H (d + 1)) = some (trL l)
  | [] => rfl
  | x :: l => by
    have ih := mapM_purN_trU l
    unfold trU trL at ih ⊢
    rw [List.flatMap_cons, List.flatMap_cons]
    simp only [uv3, lv3, List.cons_append, List.nil_append, List.mapM_cons, purN_UV', ih]
    rfl
theorem flatMap_idsN_trU (l : List (Int × List Int × List Int)) : (trU l).flatMap (idsN H (d + 1)) = [] := by
  rw [List.flatMap_eq_nil_iff]; intro v hv
  rcases trU_mem hv with ⟨p, rfl⟩ | ⟨f, rfl⟩
  · rfl
  · simp only [UV, idsN, flatMap_idsN_int]
theorem mapM_expN_trU (l : List (Int × List Int × List Int)) : (trU l).mapM (expN H (d + 1)) = some (trU l) := mapM_same _ fun v hv => by
  rcases trU_mem hv with ⟨p, rfl⟩ | ⟨f, rfl⟩
  · rfl
  · have := treeN_UV (d := d) f
    unfold UV at this ⊢
    simp only [expN, this, Bool.true_or, if_true]
theorem flatMap_eidN_trU (l : List (Int × List Int × List Int)) : (trU l).flatMap (eidN H (d + 1)) = [] := by
  rw [List.flatMap_eq_nil_iff]; intro v hv
  rcases trU_mem hv with ⟨p, rfl⟩ | ⟨f, rfl⟩ <;> rfl
theorem all_treeN_trU (l : List (Int × List Int × List Int)) : (trU l).all (treeN (d + 1)) = true := by
  rw [List.all_eq_true]; intro v hv
  rcases trU_mem hv with ⟨p, rfl⟩ | ⟨f, rfl⟩
  · rfl
  · exact treeN_UV f
end
/-- The i-th data. -/
def at3 (l : List (Int × List Int × List Int)) (i : Nat) : Int × List Int × List Int := l.getD i (0, [], [])
theorem at3_eq {l : List (Int × List Int × List Int)} {i : Nat} (h : i < l.length) : l[i] = at3 l i := by simp [at3, h]
theorem trL_row (l : List (Int × List Int × List Int)) (i : Nat) (h : i < l.length) : (trL l).drop (i * 3) = [.int .i64 (at3 l i).1, LV (at3 l i).2.1, LV (at3 l i).2.2] ++ trL (l.drop (i + 1)) := by
  unfold trL; rw [fm3_drop lv3 (fun _ => rfl) l i h, at3_eq h]; rfl
theorem trL_at (l : List (Int × List Int × List Int)) (i r : Nat) (h : i < l.length) (hr : r < 3) : (trL l)[i * 3 + r]? = [V.int .i64 (at3 l i).1, LV (at3 l i).2.1, LV (at3 l i).2.2][r]? := by
  unfold trL; rw [fm3_get lv3 (fun _ => rfl) l i r h hr, at3_eq h]; rfl
theorem at3_bound {l : List (Int × List Int × List Int)} {M : Nat} (h : ∀ x, x ∈ l → x.2.1.length ≤ M ∧ x.2.2.length ≤ M) (i : Nat) : (at3 l i).2.1.length ≤ M ∧ (at3 l i).2.2.length ≤ M := by
  by_cases hi : i < l.length
  · rw [← at3_eq hi]; exact h _ (List.getElem_mem hi)
  · simp [at3, hi]
theorem run_eqJacobiS (l : List (Int × List Int × List Int)) (hr : l.length ≤ 1048576) (hl : ∀ x, x ∈ l → x.2.1.length ≤ 1048576 ∧ x.2.2.length ≤ 1048576) :
    runv E1 33 [.list l.length (trL l), .list l.length (trL l)] = some ⟨true, .bool true, [.undef, .undef]⟩ := by
  have cdk : codeOk Try.f33.ntmps (Try.f33.body.getD .skip) = true := by kernel_rfl
  refine run_of_WLr (fn := Try.f33) rfl Try.func33 rfl ⟨by simp [Try.ntmps33], by simp [wideA, ints], cdk, by simp [Try.f33]⟩ rfl (by simp [rebOk, noId, adoptT, adoptA, adoptL, adoptC, depth]) ?_
  simp [WL_nil, WL_seq, WL_region, WL_ret, WL_skip, WL_block, WL_inBlock, WL_cond, WC_t, WC_f, WL_label, WL_exitX, WL_gotoX, WX_some, WL_scope, WL_inScope, WL_regionD, WO_cons, WO_nil, WD_some, WOd_cons, WOd_nil, WDd_some, List.nil_append, List.cons_append, stepD, wantV, opD, ev, V.ofC, V.ofS, ret, binV, intOp, unV, St.app, updO, upd, appW, E0_P, E0_m, E0_s, E1_P, E1_m, E1_s, E2_P, E2_m, E2_s, mkSt_fr, mkSt_H, mkSt_nx, mkSt_rs, lookF, modesOf, callOp, evL, calleeV, callD, prepL, prepA, purN, idsN, isRefV, flatO, backW, adopt, adoptA, adoptC, adoptL, adoptT, widthOk, wideA, freezeW, depth, noTup, nodupB, treeN, St.enter, exitTo, gotoIn, findLabel, getO, lenV, bltD, loadD, viewN, V.cells, storeD, mvC, expN, eidN, hasU, optE, sliceNil, eqV, isC, mapM_purN_int, mapM_expN_int, mapM_viewN_int, flatMap_idsN_int, flatMap_eidN_int, any_hasU_int, all_treeN_int, mapM_purN_str, mapM_expN_str, flatMap_idsN_str, flatMap_eidN_str, any_hasU_str, all_treeN_str, ownX, ownI, backO, backL, take_map_full, -List.map_replicate, -List.map_set, -List.map_append, -List.map_reverse, -List.map_take, -List.map_drop, -List.map_tail, -List.any_map, -List.all_map, -List.mapM_map, -List.map_map, slL, szI, ldI, zI, undL, apL, setI, rdI_get, Nat.add_one_le_iff, fillV, zeros1, zeros0, appendD, segV, lvO, goneOf, sliceD, bound, Nat.add_assoc, und3]
  rw [WL_loop]
  refine WL_for (keep := [0, 1, 5]) (rs := resM Try.f33) rfl (by kernel_rfl) (fun i => mkSt [(0, .list l.length (trL l)), (1, .list l.length (trL l)), (5, .int .i64 (i : Int))] [] (resM Try.f33)) l.length ?_ ?_ 0 _ (by omega) rfl ?_
  · intro i hi next
    have w3 : IntKind.i64.wrap ((i : Int) + 1) = (i : Int) + 1 := IntWalk.i64_in _ (by omega)
    obtain ⟨b1, b2⟩ := at3_bound hl i
    have h1 := up (run_eqJacobi (at3 l i).1 (at3 l i).2.1 (at3 l i).2.2 (by omega) (by omega))
    have ii : (i : Int) < l.length := by omega
    have hd := trL_row l i hi
    have ht := trL_len l
    have hf : i * 3 + 3 ≤ 3 * l.length := by omega
    have f0 : i * 3 < 3 * l.length := by omega
    simp [WL_nil, WL_seq, WL_region, WL_ret, WL_skip, WL_block, WL_inBlock, WL_cond, WC_t, WC_f, WL_label, WL_exitX, WL_gotoX, WX_some, WL_scope, WL_inScope, WL_regionD, WO_cons, WO_nil, WD_some, WOd_cons, WOd_nil, WDd_some, List.nil_append, List.cons_append, stepD, wantV, opD, ev, V.ofC, V.ofS, ret, binV, intOp, unV, St.app, updO, upd, appW, E0_P, E0_m, E0_s, E1_P, E1_m, E1_s, E2_P, E2_m, E2_s, mkSt_fr, mkSt_H, mkSt_nx, mkSt_rs, lookF, modesOf, callOp, evL, calleeV, callD, prepL, prepA, purN, idsN, isRefV, flatO, backW, adopt, adoptA, adoptC, adoptL, adoptT, widthOk, wideA, freezeW, depth, noTup, nodupB, treeN, St.enter, exitTo, gotoIn, findLabel, getO, lenV, bltD, loadD, viewN, V.cells, storeD, mvC, expN, eidN, hasU, optE, sliceNil, eqV, isC, mapM_purN_int, mapM_expN_int, mapM_viewN_int, flatMap_idsN_int, flatMap_eidN_int, any_hasU_int, all_treeN_int, mapM_purN_str, mapM_expN_str, flatMap_idsN_str, flatMap_eidN_str, any_hasU_str, all_treeN_str, ownX, ownI, backO, backL, take_map_full, -List.map_replicate, -List.map_set, -List.map_append, -List.map_reverse, -List.map_take, -List.map_drop, -List.map_tail, -List.any_map, -List.all_map, -List.mapM_map, -List.map_map, slL, szI, ldI, zI, undL, apL, setI, rdI_get, Nat.add_one_le_iff, fillV, zeros1, zeros0, appendD, segV, lvO, goneOf, sliceD, bound, Nat.add_assoc, szL, ldL, setCs0, setCs1, setCs2, setCsA2, setCsA3, ldM, fM0, fM1, szM, zM, plM0, plM1, agM, paM, ldJ, fJ0, fJ1, fJ2, szJ, zJ, plJ0, plJ1, plJ2, agJ, paJ, ldJl, fJl0, fJl1, fJl2, szJl, und3, slT3, hi, ii, w3, hd, ht, hf, f0, h1, LV]
    repeat refine ⟨by kernel_rfl, by kernel_rfl, ?_⟩
    refine next _ rfl ?_
    (refine canon_mk ?_; simp [ordOf, dedupA, idsF, inside, renV, renI, renC, renO, posN, noId, mkSt_fr, mkSt_H, mkSt_nx, mkSt_rs, lookF, nodupB, depth, upd, ordIds_int, ordRen_int, ordIds_app, ordRen_app, ordIds_app2, ordRen_app2, appW, -List.map_replicate, -List.map_set, -List.map_append, -List.map_reverse, -List.map_take, -List.map_drop, -List.map_tail, -List.map_map])
  · simp [WL_nil, WL_seq, WL_region, WL_ret, WL_skip, WL_block, WL_inBlock, WL_cond, WC_t, WC_f, WL_label, WL_exitX, WL_gotoX, WX_some, WL_scope, WL_inScope, WL_regionD, WO_cons, WO_nil, WD_some, WOd_cons, WOd_nil, WDd_some, List.nil_append, List.cons_append, stepD, wantV, opD, ev, V.ofC, V.ofS, ret, binV, intOp, unV, St.app, updO, upd, appW, E0_P, E0_m, E0_s, E1_P, E1_m, E1_s, E2_P, E2_m, E2_s, mkSt_fr, mkSt_H, mkSt_nx, mkSt_rs, lookF, modesOf, callOp, evL, calleeV, callD, prepL, prepA, purN, idsN, isRefV, flatO, backW, adopt, adoptA, adoptC, adoptL, adoptT, widthOk, wideA, freezeW, depth, noTup, nodupB, treeN, St.enter, exitTo, gotoIn, findLabel, getO, lenV, bltD, loadD, viewN, V.cells, storeD, mvC, expN, eidN, hasU, optE, sliceNil, eqV, isC, mapM_purN_int, mapM_expN_int, mapM_viewN_int, flatMap_idsN_int, flatMap_eidN_int, any_hasU_int, all_treeN_int, mapM_purN_str, mapM_expN_str, flatMap_idsN_str, flatMap_eidN_str, any_hasU_str, all_treeN_str, ownX, ownI, backO, backL, take_map_full, -List.map_replicate, -List.map_set, -List.map_append, -List.map_reverse, -List.map_take, -List.map_drop, -List.map_tail, -List.any_map, -List.all_map, -List.mapM_map, -List.map_map, slL, szI, ldI, zI, undL, apL, setI, rdI_get, Nat.add_one_le_iff, fillV, zeros1, zeros0, appendD, segV, lvO, goneOf, sliceD, bound, Nat.add_assoc, und3]
    simp [Ends, finish, finFresh, finRead, resV, expN, treeN, eidN, outs, outA, outC, outL, outsI, outAI, outI, outIL, nodupB, depth, normR, normA, normL, normC, noTup, oneV, purN, idsN, upd, E0_P, E1_P, E2_P, mkSt_fr, mkSt_H, mkSt_nx, mkSt_rs, lookF, flatO, disjN, getO, mapM_purN_int, mapM_expN_int, flatMap_idsN_int, flatMap_eidN_int, any_hasU_int, all_treeN_int, mapM_purN_str, mapM_expN_str, flatMap_idsN_str, flatMap_eidN_str, any_hasU_str, all_treeN_str, ctBool, ctInt, ctI64, ctL, take_map_full, -List.map_replicate, -List.map_set, -List.map_append, -List.map_reverse, -List.map_take, -List.map_drop, -List.map_tail, -List.any_map, -List.all_map, -List.mapM_map, -List.map_map, Try.f33]
  · (refine canon_mk ?_; simp [ordOf, dedupA, idsF, inside, renV, renI, renC, renO, posN, noId, mkSt_fr, mkSt_H, mkSt_nx, mkSt_rs, lookF, nodupB, depth, upd, ordIds_int, ordRen_int, ordIds_app, ordRen_app, ordIds_app2, ordRen_app2, appW, -List.map_replicate, -List.map_set, -List.map_append, -List.map_reverse, -List.map_take, -List.map_drop, -List.map_tail, -List.map_map])
/-- What a marking of all data leaves: where the i-th begins. -/
def mkT (k : Int) (l : List (Int × List Int × List Int)) : Nat → Int
  | 0 => k
  | i + 1 => mkT k l i + 1 + (at3 l i).2.1.length + (at3 l i).2.2.length
def mT (k : Int) (l : List (Int × List Int × List Int)) (i : Nat) : Int × List Int × List Int := (mkT k l i, marks (mkT k l i + 1) (at3 l i).2.1.length, marks (mkT k l i + 1 + (at3 l i).2.1.length) (at3 l i).2.2.length)
def mtri (k : Int) (l : List (Int × List Int × List Int)) (n : Nat) : List (Int × List Int × List Int) := (List.range n).map (mT k l)
theorem mtri_len (k : Int) (l : List (Int × List Int × List Int)) (n : Nat) : (mtri k l n).length = n := by simp [mtri]
theorem mtri_at (k : Int) (l : List (Int × List Int × List Int)) {n i : Nat} (h : i < n) : at3 (mtri k l n) i = mT k l i := by simp [mtri, at3, h]
theorem mkT_ge (k : Int) (l : List (Int × List Int × List Int)) : ∀ i, k ≤ mkT k l i
  | 0 => Int.le_refl _
  | i + 1 => by have := mkT_ge k l i; rw [mkT]; omega
theorem mkT_le (k : Int) (l : List (Int × List Int × List Int)) (M : Nat) (hM : ∀ x, x ∈ l → x.2.1.length ≤ M ∧ x.2.2.length ≤ M) : ∀ i, mkT k l i ≤ k + (2 * M + 1 : Nat) * i
  | 0 => by rw [mkT]; omega
  | i + 1 => by
    have := mkT_le k l M hM i
    obtain ⟨b1, b2⟩ := at3_bound hM i
    rw [mkT]
    have e : ((2 * M + 1 : Nat) : Int) * ((i + 1 : Nat) : Int) = (2 * M + 1 : Nat) * i + (2 * M + 1 : Nat) := by rw [Int.natCast_add i 1, Int.mul_add]; omega
    rw [e]; omega
theorem run_heldJacobiS (k : Int) (l : List (Int × List Int × List Int)) (hk : 0 ≤ k ∧ k ≤ 1048576) (hr : l.length ≤ 1048576) (hl : ∀ x, x ∈ l → x.2.1.length ≤ 1048576 ∧ x.2.2.length ≤ 1048576) :
    runv E1 35 [.list l.length (trL (mtri k l l.length)), .int .i64 k] = some ⟨true, .int .i64 (mkT k l l.length), [.undef, .undef]⟩ := by
  have cdk : codeOk Try.f35.ntmps (Try.f35.body.getD .skip) = true := by kernel_rfl
  refine run_of_WLr (fn := Try.f35) rfl Try.func35 rfl ⟨by simp [Try.ntmps35], by simp [wideA, ints], cdk, by simp [Try.f35]⟩ rfl (by simp [rebOk, noId, adoptT, adoptA, adoptL, adoptC, depth]) ?_
  simp [WL_nil, WL_seq, WL_region, WL_ret, WL_skip, WL_block, WL_inBlock, WL_cond, WC_t, WC_f, WL_label, WL_exitX, WL_gotoX, WX_some, WL_scope, WL_inScope, WL_regionD, WO_cons, WO_nil, WD_some, WOd_cons, WOd_nil, WDd_some, List.nil_append, List.cons_append, stepD, wantV, opD, ev, V.ofC, V.ofS, ret, binV, intOp, unV, St.app, updO, upd, appW, E0_P, E0_m, E0_s, E1_P, E1_m, E1_s, E2_P, E2_m, E2_s, mkSt_fr, mkSt_H, mkSt_nx, mkSt_rs, lookF, modesOf, callOp, evL, calleeV, callD, prepL, prepA, purN, idsN, isRefV, flatO, backW, adopt, adoptA, adoptC, adoptL, adoptT, widthOk, wideA, freezeW, depth, noTup, nodupB, treeN, St.enter, exitTo, gotoIn, findLabel, getO, lenV, bltD, loadD, viewN, V.cells, storeD, mvC, expN, eidN, hasU, optE, sliceNil, eqV, isC, mapM_purN_int, mapM_expN_int, mapM_viewN_int, flatMap_idsN_int, flatMap_eidN_int, any_hasU_int, all_treeN_int, mapM_purN_str, mapM_expN_str, flatMap_idsN_str, flatMap_eidN_str, any_hasU_str, all_treeN_str, ownX, ownI, backO, backL, take_map_full, -List.map_replicate, -List.map_set, -List.map_append, -List.map_reverse, -List.map_take, -List.map_drop, -List.map_tail, -List.any_map, -List.all_map, -List.mapM_map, -List.map_map, slL, szI, ldI, zI, undL, apL, setI, rdI_get, Nat.add_one_le_iff, fillV, zeros1, zeros0, appendD, segV, lvO, goneOf, sliceD, bound, Nat.add_assoc, und3]
  rw [WL_loop]
  refine WL_for (keep := [0, 1, 5]) (rs := resM Try.f35) rfl (by kernel_rfl) (fun i => mkSt [(0, .list l.length (trL (mtri k l l.length))), (1, .int .i64 (mkT k l i)), (5, .int .i64 (i : Int))] [] (resM Try.f35)) l.length ?_ ?_ 0 _ (by omega) rfl ?_
  · intro i hi next
    have w3 : IntKind.i64.wrap ((i : Int) + 1) = (i : Int) + 1 := IntWalk.i64_in _ (by omega)
    have g1 := mkT_ge k l i
    have g2 := mkT_le k l 1048576 hl i
    obtain ⟨b1, b2⟩ := at3_bound hl i
    have w4 : IntKind.i64.wrap (mkT k l i + 1) = mkT k l i + 1 := IntWalk.i64_in _ (by omega)
    have h1 := up (run_heldInt64S (at3 l i).2.1.length (mkT k l i + 1) (by omega) (by omega))
    have h2 := up (run_heldInt64S (at3 l i).2.2.length (mkT k l i + 1 + (at3 l i).2.1.length) (by omega) (by omega))
    have ii : (i : Int) < l.length := by omega
    have hm := mtri_len k l l.length
    have e3 : mkT k l (i + 1) = mkT k l i + 1 + (at3 l i).2.1.length + (at3 l i).2.2.length := rfl
    rw [e3] at next
    have q0 : (trL (mtri k l l.length))[i * 3]? = some (.int .i64 (mkT k l i)) := by
      have := trL_at (mtri k l l.length) i 0 (by omega) (by omega)
      rw [mtri_at k l hi] at this; exact this
    have q1 : (trL (mtri k l l.length))[i * 3 + 1]? = some (LV (marks (mkT k l i + 1) (at3 l i).2.1.length)) := by
      have := trL_at (mtri k l l.length) i 1 (by omega) (by omega)
      rw [mtri_at k l hi] at this; exact this
    have q2 : (trL (mtri k l l.length))[i * 3 + 2]? = some (LV (marks (mkT k l i + 1 + (at3 l i).2.1.length) (at3 l i).2.2.length)) := by
      have := trL_at (mtri k l l.length) i 2 (by omega) (by omega)
      rw [mtri_at k l hi] at this; exact this
    have ht := trL_len (mtri k l l.length)
    rw [hm] at ht
    have ml1 := marks_len (mkT k l i + 1) (at3 l i).2.1.length
    have ml2 := marks_len (mkT k l i + 1 + (at3 l i).2.1.length) (at3 l i).2.2.length
    generalize trL (mtri k l l.length) = T at *
    have f0 : i * 3 < 3 * l.length := by omega
    have f1 : i * 3 + 1 < 3 * l.length := by omega
    have f2 : i * 3 + 2 < 3 * l.length := by omega
    have ng1 : ¬ mkT k l i + 1 + ((at3 l i).2.1.length : Int) < 0 := by omega
    have ng2 : ¬ mkT k l i + 1 + ((at3 l i).2.1.length : Int) + ((at3 l i).2.2.length : Int) < 0 := by omega
    have r0 : T[i * 3]'(by omega) = .int .i64 (mkT k l i) := by rw [List.getElem?_eq_getElem (by omega)] at q0; injection q0
    have r1 : T[i * 3 + 1]'(by omega) = LV (marks (mkT k l i + 1) (at3 l i).2.1.length) := by rw [List.getElem?_eq_getElem (by omega)] at q1; injection q1
    have r2 : T[i * 3 + 2]'(by omega) = LV (marks (mkT k l i + 1 + (at3 l i).2.1.length) (at3 l i).2.2.length) := by rw [List.getElem?_eq_getElem (by omega)] at q2; injection q2
    simp [WL_nil, WL_seq, WL_region, WL_ret, WL_skip, WL_block, WL_inBlock, WL_cond, WC_t, WC_f, WL_label, WL_exitX, WL_gotoX, WX_some, WL_scope, WL_inScope, WL_regionD, WO_cons, WO_nil, WD_some, WOd_cons, WOd_nil, WDd_some, List.nil_append, List.cons_append, stepD, wantV, opD, ev, V.ofC, V.ofS, ret, binV, intOp, unV, St.app, updO, upd, appW, E0_P, E0_m, E0_s, E1_P, E1_m, E1_s, E2_P, E2_m, E2_s, mkSt_fr, mkSt_H, mkSt_nx, mkSt_rs, lookF, modesOf, callOp, evL, calleeV, callD, prepL, prepA, purN, idsN, isRefV, flatO, backW, adopt, adoptA, adoptC, adoptL, adoptT, widthOk, wideA, freezeW, depth, noTup, nodupB, treeN, St.enter, exitTo, gotoIn, findLabel, getO, lenV, bltD, loadD, viewN, V.cells, storeD, mvC, expN, eidN, hasU, optE, sliceNil, eqV, isC, mapM_purN_int, mapM_expN_int, mapM_viewN_int, flatMap_idsN_int, flatMap_eidN_int, any_hasU_int, all_treeN_int, mapM_purN_str, mapM_expN_str, flatMap_idsN_str, flatMap_eidN_str, any_hasU_str, all_treeN_str, ownX, ownI, backO, backL, take_map_full, -List.map_replicate, -List.map_set, -List.map_append, -List.map_reverse, -List.map_take, -List.map_drop, -List.map_tail, -List.any_map, -List.all_map, -List.mapM_map, -List.map_map, slL, szI, ldI, zI, undL, apL, setI, rdI_get, Nat.add_one_le_iff, fillV, zeros1, zeros0, appendD, segV, lvO, goneOf, sliceD, bound, Nat.add_assoc, szL, ldL, setCs0, setCs1, setCs2, setCsA2, setCsA3, ldM, fM0, fM1, szM, zM, plM0, plM1, agM, paM, ldJ, fJ0, fJ1, fJ2, szJ, zJ, plJ0, plJ1, plJ2, agJ, paJ, ldJl, fJl0, fJl1, fJl2, szJl, und3, slT3, hi, ii, w3, w4, ht, f0, f1, f2, q0, q1, q2, r0, r1, r2, LV, ml1, ml2, h1, h2, ng1, ng2]
    repeat refine ⟨by kernel_rfl, by kernel_rfl, ?_⟩
    refine next _ rfl ?_
    (refine canon_mk ?_; simp [ordOf, dedupA, idsF, inside, renV, renI, renC, renO, posN, noId, mkSt_fr, mkSt_H, mkSt_nx, mkSt_rs, lookF, nodupB, depth, upd, ordIds_int, ordRen_int, ordIds_app, ordRen_app, ordIds_app2, ordRen_app2, appW, -List.map_replicate, -List.map_set, -List.map_append, -List.map_reverse, -List.map_take, -List.map_drop, -List.map_tail, -List.map_map])
  · simp [WL_nil, WL_seq, WL_region, WL_ret, WL_skip, WL_block, WL_inBlock, WL_cond, WC_t, WC_f, WL_label, WL_exitX, WL_gotoX, WX_some, WL_scope, WL_inScope, WL_regionD, WO_cons, WO_nil, WD_some, WOd_cons, WOd_nil, WDd_some, List.nil_append, List.cons_append, stepD, wantV, opD, ev, V.ofC, V.ofS, ret, binV, intOp, unV, St.app, updO, upd, appW, E0_P, E0_m, E0_s, E1_P, E1_m, E1_s, E2_P, E2_m, E2_s, mkSt_fr, mkSt_H, mkSt_nx, mkSt_rs, lookF, modesOf, callOp, evL, calleeV, callD, prepL, prepA, purN, idsN, isRefV, flatO, backW, adopt, adoptA, adoptC, adoptL, adoptT, widthOk, wideA, freezeW, depth, noTup, nodupB, treeN, St.enter, exitTo, gotoIn, findLabel, getO, lenV, bltD, loadD, viewN, V.cells, storeD, mvC, expN, eidN, hasU, optE, sliceNil, eqV, isC, mapM_purN_int, mapM_expN_int, mapM_viewN_int, flatMap_idsN_int, flatMap_eidN_int, any_hasU_int, all_treeN_int, mapM_purN_str, mapM_expN_str, flatMap_idsN_str, flatMap_eidN_str, any_hasU_str, all_treeN_str, ownX, ownI, backO, backL, take_map_full, -List.map_replicate, -List.map_set, -List.map_append, -List.map_reverse, -List.map_take, -List.map_drop, -List.map_tail, -List.any_map, -List.all_map, -List.mapM_map, -List.map_map, slL, szI, ldI, zI, undL, apL, setI, rdI_get, Nat.add_one_le_iff, fillV, zeros1, zeros0, appendD, segV, lvO, goneOf, sliceD, bound, Nat.add_assoc, und3]
    simp [Ends, finish, finFresh, finRead, resV, expN, treeN, eidN, outs, outA, outC, outL, outsI, outAI, outI, outIL, nodupB, depth, normR, normA, normL, normC, noTup, oneV, purN, idsN, upd, E0_P, E1_P, E2_P, mkSt_fr, mkSt_H, mkSt_nx, mkSt_rs, lookF, flatO, disjN, getO, mapM_purN_int, mapM_expN_int, flatMap_idsN_int, flatMap_eidN_int, any_hasU_int, all_treeN_int, mapM_purN_str, mapM_expN_str, flatMap_idsN_str, flatMap_eidN_str, any_hasU_str, all_treeN_str, ctBool, ctInt, ctI64, ctL, take_map_full, -List.map_replicate, -List.map_set, -List.map_append, -List.map_reverse, -List.map_take, -List.map_drop, -List.map_tail, -List.any_map, -List.all_map, -List.mapM_map, -List.map_map, Try.f35]
  · (refine canon_mk ?_; simp [ordOf, dedupA, idsF, inside, renV, renI, renC, renO, posN, noId, mkSt_fr, mkSt_H, mkSt_nx, mkSt_rs, lookF, nodupB, depth, upd, ordIds_int, ordRen_int, ordIds_app, ordRen_app, ordIds_app2, ordRen_app2, appW, -List.map_replicate, -List.map_set, -List.map_append, -List.map_reverse, -List.map_take, -List.map_drop, -List.map_tail, -List.map_map, mkT])
end Go.Proofs.Ytclebbjpacpbmaa.Ev
