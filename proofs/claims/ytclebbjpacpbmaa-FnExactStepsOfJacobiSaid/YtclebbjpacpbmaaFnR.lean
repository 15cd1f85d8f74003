/- Changes of moments. Conditions: none. -/
import Derived.Test.YtclebbjpacpbmaaFnP
set_option linter.unusedSimpArgs false
set_option linter.unusedVariables false
namespace Go.Proofs.Ytclebbjpacpbmaa.Ev
open Go Go.Proofs
set_option maxRecDepth 4000
set_option maxHeartbeats 4000000

/-- A value that is a list of its own that grows: nil, or an object with a number beyond lo. -/
def GV (kd : IntKind) (lo : Nat) (st : St) (v : V) (l : List Int) : Prop :=
  (l = [] ∧ v = .nils) ∨ ∃ id ver, v = .sl id ver 0 l.length ∧ st.H id = some ⟨ver, 2, 1, l.map (V.int kd)⟩ ∧ id < st.nx ∧ lo < id
theorem GV.own {kd : IntKind} {st : St} {v : V} {lo id ver : Nat} {l : List Int} (n : Nat) (h : v = .sl id ver 0 n) (hn : n = l.length) (hH : st.H id = some ⟨ver, 2, 1, l.map (V.int kd)⟩) (hx : id < st.nx) (hlo : lo < id) : GV kd lo st v l :=
  .inr ⟨id, ver, by rw [h, hn], hH, hx, hlo⟩

theorem seg_drop (l : List Int) (k n : Nat) (h : n = l.length - k) : ((l.map (V.int .i64)).drop k).take n = (l.drop k).map (V.int .i64) := by
  rw [← List.map_drop, take_map_full (by simp; omega)]
theorem seg_tail (l : List Int) : (l.map (V.int .i64)).tail.take (l.length - 1) = l.tail.map (V.int .i64) := by
  rw [← List.map_tail, take_map_full (by simp)]
theorem rdI_tail (l : List Int) (i : Nat) : rdI l.tail i = rdI l (i + 1) := by cases l <;> simp [rdI]
theorem seg_take (l : List Int) (n : Nat) : (l.map (V.int .i64)).take n = (l.take n).map (V.int .i64) := by rw [List.map_take]
theorem rdI_drop (l : List Int) (k i : Nat) : rdI (l.drop k) i = rdI l (k + i) := by simp [rdI]

theorem run_Clone (l : List Int) (h0 : 0 < l.length) (hl : l.length ≤ 1048576) : runv E0 93 [(V.list (List.length (l)) (List.map (V.int .i64) (l)))] = some ⟨true, (V.uniq 1 (List.length (l)) (List.map (V.int .i64) (l))), [.undef]⟩ := by
  have cdk : codeOk Try.f93.ntmps (Try.f93.body.getD .skip) = true := by kernel_rfl
  refine run_of_WL (fn := Try.f93) rfl Try.func93 rfl ⟨by simp [Try.ntmps93], by simp [wideA, ints], cdk, by simp [Try.f93]⟩ ?_
  cases l with
  | nil => simp at h0
  | cons a t =>
    have c1 : (t.length + 1) * 8 ≤ 140737488355328 := by simp at hl; omega
    simp [WL_nil, WL_seq, WL_region, WL_ret, WL_skip, WL_block, WL_inBlock, WL_cond, WC_t, WC_f, WL_label, WL_exitX, WL_gotoX, WX_some, WL_scope, WL_inScope, WL_regionD, WO_cons, WO_nil, WD_some, WOd_cons, WOd_nil, WDd_some, List.nil_append, List.cons_append, stepD, wantV, opD, ev, V.ofC, V.ofS, ret, binV, intOp, unV, St.app, updO, upd, appW, E0_P, E0_m, E0_s, E1_P, E1_m, E1_s, E2_P, E2_m, E2_s, mkSt_fr, mkSt_H, mkSt_nx, mkSt_rs, lookF, modesOf, callOp, evL, calleeV, callD, prepL, prepA, purN, idsN, isRefV, flatO, backW, adopt, adoptA, adoptC, adoptL, adoptT, widthOk, wideA, freezeW, depth, noTup, nodupB, treeN, St.enter, exitTo, gotoIn, findLabel, getO, lenV, bltD, loadD, viewN, V.cells, storeD, mvC, expN, eidN, hasU, optE, sliceNil, eqV, isC, mapM_purN_int, mapM_expN_int, mapM_viewN_int, flatMap_idsN_int, flatMap_eidN_int, any_hasU_int, all_treeN_int, mapM_purN_str, mapM_expN_str, flatMap_idsN_str, flatMap_eidN_str, any_hasU_str, all_treeN_str, ownX, ownI, backO, backL, take_map_full, -List.map_replicate, -List.map_set, -List.map_append, -List.map_reverse, -List.map_take, -List.map_drop, -List.map_tail, -List.any_map, -List.all_map, -List.mapM_map, -List.map_map, slL, szI, ldI, zI, undL, apL, setI, rdI_get, Nat.add_one_le_iff, fillV, zeros1, zeros0, appendD, segV, lvO, goneOf, sliceD, bound, Nat.add_assoc, c1]
    simp [Ends, finish, finFresh, finRead, resV, expN, treeN, eidN, outs, outA, outC, outL, outsI, outAI, outI, outIL, nodupB, depth, normR, normA, normL, normC, noTup, oneV, purN, idsN, upd, E0_P, E1_P, E2_P, mkSt_fr, mkSt_H, mkSt_nx, mkSt_rs, lookF, flatO, disjN, getO, mapM_purN_int, mapM_expN_int, flatMap_idsN_int, flatMap_eidN_int, any_hasU_int, all_treeN_int, mapM_purN_str, mapM_expN_str, flatMap_idsN_str, flatMap_eidN_str, any_hasU_str, all_treeN_str, ctBool, ctInt, ctI64, ctL, take_map_full, -List.map_replicate, -List.map_set, -List.map_append, -List.map_reverse, -List.map_take, -List.map_drop, -List.map_tail, -List.any_map, -List.all_map, -List.mapM_map, -List.map_map, Try.f93]


/-! ### MultiplyMoments -/



end Go.Proofs.Ytclebbjpacpbmaa.Ev
