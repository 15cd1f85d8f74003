/- Polynomials and codes: what the program's tests come to. Conditions: none. -/
import Derived.Test.YtacfkfdnncgjcaaFnL
set_option linter.unusedSimpArgs false
set_option linter.unusedVariables false
namespace Go.Proofs.Ytacfkfdnncgjcaa.Ev
open Go Go.Proofs
open List (map_replicate map_set map_append map_reverse map_take map_drop map_tail any_map all_map mapM_map map_map)
set_option maxRecDepth 4000
set_option maxHeartbeats 4000000

def polyB (p : Int) (f : List Int) : Bool := decide (f.length ≤ 25) && f.all (hasB p) && (decide (f.length = 0) || !decide (rdI f (f.length - 1) = 0))

theorem run_IsPoly (p : Int) (f : List Int) (hl : f.length ≤ 9223372036854775807) : runv E0 148 [.int .i64 p, (V.list (List.length (f)) (List.map (V.int .i64) (f)))] = some ⟨true, .bool (polyB p f), [.undef, .undef]⟩ := by
  have cdk : codeOk Try.f148.ntmps (Try.f148.body.getD .skip) = true := by kernel_rfl
  refine run_of_WL (fn := Try.f148) rfl Try.func148 rfl ⟨by simp [Try.ntmps148], by simp [wideA, ints], cdk, by simp [Try.f148]⟩ ?_
  have h3 := areAll_has p f hl
  by_cases e1 : (f.length : Int) ≤ 25
  case neg =>
    have e1' : ¬ f.length ≤ 25 := by omega
    simp [go_sem, -map_replicate, -map_set, -map_append, -map_reverse, -map_take, -map_drop, -map_tail, -any_map, -all_map, -mapM_map, -map_map, slL, szI, ldI, zI, undL, apL, setI, rdI_get, Nat.add_one_le_iff, fillV, zeros1, zeros0, appendD, segV, lvO, goneOf, sliceD, bound, Nat.add_assoc, e1]
    simp [mvcgen_simp, -map_replicate, -map_set, -map_append, -map_reverse, -map_take, -map_drop, -map_tail, -any_map, -all_map, -mapM_map, -map_map, Try.f148, polyB, e1']
  have e1' : f.length ≤ 25 := by omega
  cases e2 : f.all (hasB p) with
  | false =>
    rw [e2] at h3
    simp [go_sem, -map_replicate, -map_set, -map_append, -map_reverse, -map_take, -map_drop, -map_tail, -any_map, -all_map, -mapM_map, -map_map, slL, szI, ldI, zI, undL, apL, setI, rdI_get, Nat.add_one_le_iff, fillV, zeros1, zeros0, appendD, segV, lvO, goneOf, sliceD, bound, Nat.add_assoc, e1, h3]
    simp [mvcgen_simp, -map_replicate, -map_set, -map_append, -map_reverse, -map_take, -map_drop, -map_tail, -any_map, -all_map, -mapM_map, -map_map, Try.f148, polyB, e1', e2]
  | true =>
    rw [e2] at h3
    by_cases e3 : f.length = 0
    · have e3' : (f.length : Int) = 0 := by omega
      simp [go_sem, -map_replicate, -map_set, -map_append, -map_reverse, -map_take, -map_drop, -map_tail, -any_map, -all_map, -mapM_map, -map_map, slL, szI, ldI, zI, undL, apL, setI, rdI_get, Nat.add_one_le_iff, fillV, zeros1, zeros0, appendD, segV, lvO, goneOf, sliceD, bound, Nat.add_assoc, e1, h3, e3']
      simp [mvcgen_simp, -map_replicate, -map_set, -map_append, -map_reverse, -map_take, -map_drop, -map_tail, -any_map, -all_map, -mapM_map, -map_map, Try.f148, polyB, e1', e2, e3]
    · have e3' : ¬ (f.length : Int) = 0 := by omega
      have w : IntKind.i64.wrap ((f.length : Int) - 1) = ((f.length - 1 : Nat) : Int) := by rw [IntWalk.i64_in _ (by omega)]; omega
      have hk : f.length - 1 < f.length := by omega
      have e4 : ¬ f = [] := by intro h; subst h; exact e3 rfl
      simp [go_sem, -map_replicate, -map_set, -map_append, -map_reverse, -map_take, -map_drop, -map_tail, -any_map, -all_map, -mapM_map, -map_map, slL, szI, ldI, zI, undL, apL, setI, rdI_get, Nat.add_one_le_iff, fillV, zeros1, zeros0, appendD, segV, lvO, goneOf, sliceD, bound, Nat.add_assoc, e1, h3, e3', e4, w, hk]
      simp [mvcgen_simp, -map_replicate, -map_set, -map_append, -map_reverse, -map_take, -map_drop, -map_tail, -any_map, -all_map, -mapM_map, -map_map, Try.f148, polyB, e1', e2, e3, e4]

/-! ### Lists of lists -/
def LV (f : List Int) : V := (V.list (List.length (f)) (List.map (V.int .i64) (f)))
def rdL (ps : List (List Int)) (i : Nat) : List Int := ps.getD i []
theorem rdL_get {ps : List (List Int)} {i : Nat} (h : i < ps.length) : ps[i] = rdL ps i := by unfold rdL; simp [h]
section
variable {H : Nat → Option Ob} {d : Nat} (l : List (List Int))
theorem mapM_purN_LV : (l.map LV).mapM (purN H d) = some (l.map LV) := mapM_leaf (fun _ => by cases d <;> rfl) l
theorem mapM_viewN_LV : (l.map LV).mapM (viewN d) = some (l.map LV) := mapM_leaf (fun _ => by cases d <;> rfl) l
theorem flatMap_idsN_LV : (l.map LV).flatMap (idsN H d) = [] := flatMap_leaf (fun _ => by cases d <;> rfl) l
theorem any_hasU_LV : (l.map LV).any hasU = false := any_leaf (fun _ => rfl) l
end

theorem ldFL : ldT Try.prog 103 = some (false, 1) := by kernel_rfl
theorem slLL : slT Try.prog 77 = some (27, 1, 24) := by kernel_rfl
theorem undLL : Try.prog.underlying 77 = some (.slice 27) := by kernel_rfl
theorem zL : zeroT Try.prog 27 = some [.nils] := by kernel_rfl

theorem run_IndexFuncL (l : List (List Int)) (g : FuncId) (fi ca : List V) (p : List Int → Bool) (hl : l.length ≤ 1000000) (hc : ∀ H b x, x ∈ l → callD H b false (modesOf g) (runv E0 g) (fi ++ LV x :: ca) = some { v := .bool (p x) }) :
    runv E0 160 [.list l.length (l.map LV), .func (.func g) fi ca] = some ⟨true, .int .i64 (match l.findIdx? p with | some i => (i : Int) | none => -1), [.undef, .undef]⟩ := by
  have cdk : codeOk Try.f160.ntmps (Try.f160.body.getD .skip) = true := by kernel_rfl
  refine run_of_WL (fn := Try.f160) rfl Try.func160 rfl ⟨by simp [Try.ntmps160], by simp [wideA, ints], cdk, by simp [Try.f160]⟩ ?_
  simp [go_sem, -map_replicate, -map_set, -map_append, -map_reverse, -map_take, -map_drop, -map_tail, -any_map, -all_map, -mapM_map, -map_map, undLL]
  rw [WL_loop]
  refine WL_count (I := fun i st => st.fr 0 = .list l.length (l.map LV) ∧ st.fr 1 = .func (.func g) fi ca ∧ st.fr 7 = .int .i64 l.length ∧ st.fr 8 = .int .i64 i ∧ st.H = (fun _ => none) ∧ (∀ k (hk : k < l.length), k < i → p l[k] = false)) l.length ?_ ?_ 0 _ (by omega) ?_
  · rintro i st hi ⟨he0, he1, he2, he3, he4, he5⟩ next
    have hci := fun H b => hc H b l[i] (List.getElem_mem hi)
    have w1 : IntKind.i64.wrap ((i : Int) + 1) = (i : Int) + 1 := IntWalk.i64_in _ (by omega)
    cases hp : p l[i] with
    | true =>
      simp [WL_nil, WL_seq, WL_region, WL_ret, WL_skip, WL_block, WL_inBlock, WL_cond, WC_t, WC_f, WL_label, WL_exitX, WL_gotoX, WX_some, WL_scope, WL_inScope, WL_regionD, WO_cons, WO_nil, WD_some, WOd_cons, WOd_nil, WDd_some, List.nil_append, List.cons_append, stepD, wantV, opD, ev, V.ofC, V.ofS, ret, binV, intOp, unV, St.app, updO, upd, appW, E0_P, E0_m, E0_s, E1_P, E1_m, E1_s, E2_P, E2_m, E2_s, mkSt_fr, mkSt_H, mkSt_nx, mkSt_rs, lookF, callOp, evL, calleeV, widthOk, wideA, freezeW, depth, noTup, nodupB, treeN, St.enter, exitTo, gotoIn, findLabel, getO, lenV, bltD, loadD, viewN, V.cells, storeD, mvC, expN, eidN, hasU, optE, sliceNil, eqV, isC, isLR, mapM_purN_int, mapM_expN_int, mapM_viewN_int, flatMap_idsN_int, flatMap_eidN_int, any_hasU_int, all_treeN_int, mapM_purN_str, mapM_expN_str, flatMap_idsN_str, flatMap_eidN_str, any_hasU_str, all_treeN_str, ownX, ownI, backO, backL, take_map_full, -map_replicate, -map_set, -map_append, -map_reverse, -map_take, -map_drop, -map_tail, -any_map, -all_map, -mapM_map, -map_map, he0, he1, he2, he3, he4, hi, slLL, ldL, undLL, hci, hp]
      simp [mvcgen_simp, -map_replicate, -map_set, -map_append, -map_reverse, -map_take, -map_drop, -map_tail, -any_map, -all_map, -mapM_map, -map_map, Try.f160]
      have : l.findIdx? p = some i := by
        rw [List.findIdx?_eq_some_iff_getElem]
        exact ⟨hi, hp, fun j hj => by rw [he5 j (by omega) hj]; simp⟩
      rw [this]
    | false =>
      simp [WL_nil, WL_seq, WL_region, WL_ret, WL_skip, WL_block, WL_inBlock, WL_cond, WC_t, WC_f, WL_label, WL_exitX, WL_gotoX, WX_some, WL_scope, WL_inScope, WL_regionD, WO_cons, WO_nil, WD_some, WOd_cons, WOd_nil, WDd_some, List.nil_append, List.cons_append, stepD, wantV, opD, ev, V.ofC, V.ofS, ret, binV, intOp, unV, St.app, updO, upd, appW, E0_P, E0_m, E0_s, E1_P, E1_m, E1_s, E2_P, E2_m, E2_s, mkSt_fr, mkSt_H, mkSt_nx, mkSt_rs, lookF, callOp, evL, calleeV, widthOk, wideA, freezeW, depth, noTup, nodupB, treeN, St.enter, exitTo, gotoIn, findLabel, getO, lenV, bltD, loadD, viewN, V.cells, storeD, mvC, expN, eidN, hasU, optE, sliceNil, eqV, isC, isLR, mapM_purN_int, mapM_expN_int, mapM_viewN_int, flatMap_idsN_int, flatMap_eidN_int, any_hasU_int, all_treeN_int, mapM_purN_str, mapM_expN_str, flatMap_idsN_str, flatMap_eidN_str, any_hasU_str, all_treeN_str, ownX, ownI, backO, backL, take_map_full, -map_replicate, -map_set, -map_append, -map_reverse, -map_take, -map_drop, -map_tail, -any_map, -all_map, -mapM_map, -map_map, he0, he1, he2, he3, he4, hi, slLL, ldL, undLL, hci, hp, w1]
      refine next _ ?_
      simp [upd, he0, he1, he2, he3, he4]
      intro k hk1 hk2
      by_cases e : k = i
      · subst e; exact hp
      · exact he5 k hk1 (by omega)
  · rintro st ⟨he0, he1, he2, he3, he4, he5⟩
    simp [WL_nil, WL_seq, WL_region, WL_ret, WL_skip, WL_block, WL_inBlock, WL_cond, WC_t, WC_f, WL_label, WL_exitX, WL_gotoX, WX_some, WL_scope, WL_inScope, WL_regionD, WO_cons, WO_nil, WD_some, WOd_cons, WOd_nil, WDd_some, List.nil_append, List.cons_append, stepD, wantV, opD, ev, V.ofC, V.ofS, ret, binV, intOp, unV, St.app, updO, upd, appW, E0_P, E0_m, E0_s, E1_P, E1_m, E1_s, E2_P, E2_m, E2_s, mkSt_fr, mkSt_H, mkSt_nx, mkSt_rs, lookF, callOp, evL, calleeV, widthOk, wideA, freezeW, depth, noTup, nodupB, treeN, St.enter, exitTo, gotoIn, findLabel, getO, lenV, bltD, loadD, viewN, V.cells, storeD, mvC, expN, eidN, hasU, optE, sliceNil, eqV, isC, isLR, mapM_purN_int, mapM_expN_int, mapM_viewN_int, flatMap_idsN_int, flatMap_eidN_int, any_hasU_int, all_treeN_int, mapM_purN_str, mapM_expN_str, flatMap_idsN_str, flatMap_eidN_str, any_hasU_str, all_treeN_str, ownX, ownI, backO, backL, take_map_full, -map_replicate, -map_set, -map_append, -map_reverse, -map_take, -map_drop, -map_tail, -any_map, -all_map, -mapM_map, -map_map, he0, he1, he2, he3, he4, slLL]
    simp [mvcgen_simp, -map_replicate, -map_set, -map_append, -map_reverse, -map_take, -map_drop, -map_tail, -any_map, -all_map, -mapM_map, -map_map, Try.f160]
    have : l.findIdx? p = none := by
      rw [List.findIdx?_eq_none_iff_findIdx_eq, List.findIdx_eq_length]
      intro x hx
      obtain ⟨k, hk1, rfl⟩ := List.getElem_of_mem hx
      rw [he5 k hk1 hk1]
    rw [this]
  · simp [upd]

theorem index_anyL (l : List (List Int)) (p : List Int → Bool) : decide (0 ≤ (match l.findIdx? p with | some i => (i : Int) | none => -1)) = l.any p := by
  cases h : l.findIdx? p with
  | none =>
    have : l.any p = false := by
      rw [List.findIdx?_eq_none_iff] at h
      rw [List.any_eq_false]
      intro x hx; simpa using h x hx
    rw [this]; decide
  | some i =>
    have : l.any p = true := by
      rw [List.findIdx?_eq_some_iff_getElem] at h
      obtain ⟨hi, hp, _⟩ := h
      exact List.any_eq_true.2 ⟨_, List.getElem_mem hi, hp⟩
    rw [this]; simp

theorem run_ContainsFuncL (l : List (List Int)) (g : FuncId) (cs : List V) (o : Nat) (p : List Int → Bool) (hl : l.length ≤ 1000000) (hc : ∀ H b x, x ∈ l → callD H b false (modesOf g) (runv E0 g) (LV x :: [V.ref cs o]) = some { v := .bool (p x) }) :
    runv E0 156 [.list l.length (l.map LV), .func (.func g) [] [.ref cs o]] = some ⟨true, .bool (l.any p), [.undef, .undef]⟩ := by
  have cdk : codeOk Try.f156.ntmps (Try.f156.body.getD .skip) = true := by kernel_rfl
  refine run_of_WL (fn := Try.f156) rfl Try.func156 rfl ⟨by simp [Try.ntmps156], by simp [wideA, ints], cdk, by simp [Try.f156]⟩ ?_
  have h1 := run_IndexFuncL l g [] [.ref cs o] p hl hc
  simp [go_sem, -map_replicate, -map_set, -map_append, -map_reverse, -map_take, -map_drop, -map_tail, -any_map, -all_map, -mapM_map, -map_map, h1]
  simp [mvcgen_simp, -map_replicate, -map_set, -map_append, -map_reverse, -map_take, -map_drop, -map_tail, -any_map, -all_map, -mapM_map, -map_map, Try.f156]
  have := index_anyL l p
  simpa using this

theorem run_areAllL1 (x : List Int) (g : FuncId) (fi ca : List V) (p : List Int → Bool) (hc : ∀ H b, callD H b false (modesOf g) (runv E0 g) (fi ++ LV x :: ca) = some { v := .bool (p x) }) :
    runv E0 157 [(V.list (List.length (x)) (List.map (V.int .i64) (x))), .ref [.func (.func g) fi ca] 0] = some ⟨true, .bool (!(p x)), [.undef, .undef]⟩ := by
  have cdk : codeOk Try.f157.ntmps (Try.f157.body.getD .skip) = true := by kernel_rfl
  refine run_of_WL (fn := Try.f157) rfl Try.func157 rfl ⟨by simp [Try.ntmps157], by simp [wideA, ints], cdk, by simp [Try.f157]⟩ ?_
  unfold LV at hc
  simp [WL_nil, WL_seq, WL_region, WL_ret, WL_skip, WL_block, WL_inBlock, WL_cond, WC_t, WC_f, WL_label, WL_exitX, WL_gotoX, WX_some, WL_scope, WL_inScope, WL_regionD, WO_cons, WO_nil, WD_some, WOd_cons, WOd_nil, WDd_some, List.nil_append, List.cons_append, stepD, wantV, opD, ev, V.ofC, V.ofS, ret, binV, intOp, unV, St.app, updO, upd, appW, E0_P, E0_m, E0_s, E1_P, E1_m, E1_s, E2_P, E2_m, E2_s, mkSt_fr, mkSt_H, mkSt_nx, mkSt_rs, lookF, callOp, evL, calleeV, widthOk, wideA, freezeW, depth, noTup, nodupB, treeN, St.enter, exitTo, gotoIn, findLabel, getO, lenV, bltD, loadD, viewN, V.cells, storeD, mvC, expN, eidN, hasU, optE, sliceNil, eqV, isC, isLR, mapM_purN_int, mapM_expN_int, mapM_viewN_int, flatMap_idsN_int, flatMap_eidN_int, any_hasU_int, all_treeN_int, mapM_purN_str, mapM_expN_str, flatMap_idsN_str, flatMap_eidN_str, any_hasU_str, all_treeN_str, ownX, ownI, backO, backL, take_map_full, -map_replicate, -map_set, -map_append, -map_reverse, -map_take, -map_drop, -map_tail, -any_map, -all_map, -mapM_map, -map_map, adoptT, adoptA, adoptC, ldFL, hc]
  simp [mvcgen_simp, -map_replicate, -map_set, -map_append, -map_reverse, -map_take, -map_drop, -map_tail, -any_map, -all_map, -mapM_map, -map_map, Try.f157]

theorem run_areAllL (l : List (List Int)) (g : FuncId) (fi ca : List V) (p : List Int → Bool) (hl : l.length ≤ 1000000) (hf : FV fi ca) (hc : ∀ H b x, x ∈ l → callD H b false (modesOf g) (runv E0 g) (fi ++ LV x :: ca) = some { v := .bool (p x) }) :
    runv E0 146 [.list l.length (l.map LV), .func (.func g) fi ca] = some ⟨true, .bool (l.all p), [.undef, .undef]⟩ := by
  have cdk : codeOk Try.f146.ntmps (Try.f146.body.getD .skip) = true := by kernel_rfl
  refine run_of_WL (fn := Try.f146) rfl Try.func146 rfl ⟨by simp [Try.ntmps146], by simp [wideA, ints], cdk, by simp [Try.f146]⟩ ?_
  have h1 := run_ContainsFuncL l 157 [.func (.func g) fi ca] 0 (fun x => !(p x)) hl (fun H b x hx => by
    have := run_areAllL1 x g fi ca p (fun H b => hc H b x hx)
    unfold LV at this ⊢
    simp [modesOf, callD, prepL, prepA, purN, idsN, depth, this, nodupB, flatO, noTup, backW, widthOk, wideA, adopt, adoptA, adoptC, treeN])
  simp [go_sem, -map_replicate, -map_set, -map_append, -map_reverse, -map_take, -map_drop, -map_tail, -any_map, -all_map, -mapM_map, -map_map, mapM_purN_LV, flatMap_idsN_LV, h1, hf.fi3, hf.ca3, hf.ifi, hf.ica]
  simp [mvcgen_simp, -map_replicate, -map_set, -map_append, -map_reverse, -map_take, -map_drop, -map_tail, -any_map, -all_map, -mapM_map, -map_map, Try.f146]
  have : ∀ l : List (List Int), (l.any fun x => !(p x)) = !(l.all p) := by
    intro l
    induction l with
    | nil => rfl
    | cons a l ih => simp [ih]
  exact this l

theorem run_polyCode1 (p : Int) (f : List Int) (hl : f.length ≤ 9223372036854775807) : runv E0 147 [(V.list (List.length (f)) (List.map (V.int .i64) (f))), .ref [.int .i64 p] 0] = some ⟨true, .bool (polyB p f), [.undef, .undef]⟩ := by
  have cdk : codeOk Try.f147.ntmps (Try.f147.body.getD .skip) = true := by kernel_rfl
  refine run_of_WL (fn := Try.f147) rfl Try.func147 rfl ⟨by simp [Try.ntmps147], by simp [wideA, ints], cdk, by simp [Try.f147]⟩ ?_
  simp [go_sem, -map_replicate, -map_set, -map_append, -map_reverse, -map_take, -map_drop, -map_tail, -any_map, -all_map, -mapM_map, -map_map, slL, szI, ldI, zI, undL, apL, setI, rdI_get, Nat.add_one_le_iff, fillV, zeros1, zeros0, appendD, segV, lvO, goneOf, sliceD, bound, Nat.add_assoc, run_IsPoly p f hl]
  simp [mvcgen_simp, -map_replicate, -map_set, -map_append, -map_reverse, -map_take, -map_drop, -map_tail, -any_map, -all_map, -mapM_map, -map_map, Try.f147]

def pcode (p : Int) (r : Bool) (polys : List (List Int)) : Int := if polys.all (polyB p) then (if primeB p && r then 0 else 2) else 1

theorem call_areAllL {H : Nat → Option Ob} {b id : Nat} (p : Int) (polys : List (List Int)) (hl : polys.length ≤ 1000000) (hfl : ∀ f, f ∈ polys → f.length ≤ 9223372036854775807) (hH : H id = some ⟨0, 1, 1, [.int .i64 p]⟩) :
    callD H b false (modesOf 146) (runv E0 146) [.list polys.length (polys.map LV), .func (.func 147) [] [.ptr id 0 0]] = some { v := .bool (polys.all (polyB p)), rd := [id], wr := [] } := by
  have h1 := run_areAllL polys 147 [] [.ref [.int .i64 p] 0] (polyB p) hl (fv_ref _ _) (fun H b x hx => by
    have := run_polyCode1 p x (hfl x hx)
    unfold LV
    simp [modesOf, callD, prepL, prepA, purN, idsN, depth, this, nodupB, flatO, noTup, backW, widthOk, wideA, adopt, adoptA, adoptC, treeN])
  simp [modesOf, callD, prepL, prepA, purN, idsN, depth, getO, hH, h1, nodupB, flatO, noTup, backW, widthOk, wideA, adopt, adoptA, adoptC, treeN, mapM_purN_LV, flatMap_idsN_LV]
theorem call_IsPrime {H : Nat → Option Ob} {b : Nat} (p : Int) : callD H b false (modesOf 106) (runv E0 106) [.int .i64 p] = some { v := .bool (primeB p) } := by
  simp [modesOf, callD, prepL, prepA, purN, idsN, depth, run_IsPrime, nodupB, flatO, noTup, backW, widthOk, wideA, adopt, adoptA, adoptC, treeN]

theorem run_polyCode (p : Int) (g : FuncId) (fi ca : List V) (r : Bool) (polys : List (List Int)) (hl : polys.length ≤ 1000000) (hfl : ∀ f, f ∈ polys → f.length ≤ 9223372036854775807) (hc : ∀ H b, callD H b false (modesOf g) (runv E0 g) (fi ++ ca) = some { v := .bool r }) :
    runv E0 123 [.int .i64 p, .func (.func g) fi ca, .list polys.length (polys.map LV)] = some ⟨true, .int .i64 (pcode p r polys), [.undef, .undef, .undef]⟩ := by
  have cdk : codeOk Try.f123.ntmps (Try.f123.body.getD .skip) = true := by kernel_rfl
  refine run_of_WL (fn := Try.f123) rfl Try.func123 rfl ⟨by simp [Try.ntmps123], by simp [wideA, ints], cdk, by simp [Try.f123]⟩ ?_
  have h1 := fun (H : Nat → Option Ob) (b id : Nat) => call_areAllL (H := H) (b := b) (id := id) p polys hl hfl
  cases e1 : polys.all (polyB p) with
  | false =>
    rw [e1] at h1
    simp [WL_nil, WL_seq, WL_region, WL_ret, WL_skip, WL_block, WL_inBlock, WL_cond, WC_t, WC_f, WL_label, WL_exitX, WL_gotoX, WX_some, WL_scope, WL_inScope, WL_regionD, WO_cons, WO_nil, WD_some, WOd_cons, WOd_nil, WDd_some, List.nil_append, List.cons_append, stepD, wantV, opD, ev, V.ofC, V.ofS, ret, binV, intOp, unV, St.app, updO, upd, appW, E0_P, E0_m, E0_s, E1_P, E1_m, E1_s, E2_P, E2_m, E2_s, mkSt_fr, mkSt_H, mkSt_nx, mkSt_rs, lookF, callOp, evL, calleeV, widthOk, wideA, freezeW, depth, noTup, nodupB, treeN, St.enter, exitTo, gotoIn, findLabel, getO, lenV, bltD, loadD, viewN, V.cells, storeD, mvC, expN, eidN, hasU, optE, sliceNil, eqV, isC, isLR, mapM_purN_int, mapM_expN_int, mapM_viewN_int, flatMap_idsN_int, flatMap_eidN_int, any_hasU_int, all_treeN_int, mapM_purN_str, mapM_expN_str, flatMap_idsN_str, flatMap_eidN_str, any_hasU_str, all_treeN_str, ownX, ownI, backO, backL, take_map_full, -map_replicate, -map_set, -map_append, -map_reverse, -map_take, -map_drop, -map_tail, -any_map, -all_map, -mapM_map, -map_map, adoptT, adoptA, adoptC, h1]
    simp [mvcgen_simp, -map_replicate, -map_set, -map_append, -map_reverse, -map_take, -map_drop, -map_tail, -any_map, -all_map, -mapM_map, -map_map, Try.f123, pcode, e1]
  | true =>
    rw [e1] at h1
    cases e2 : primeB p <;> cases r <;> simp [WL_nil, WL_seq, WL_region, WL_ret, WL_skip, WL_block, WL_inBlock, WL_cond, WC_t, WC_f, WL_label, WL_exitX, WL_gotoX, WX_some, WL_scope, WL_inScope, WL_regionD, WO_cons, WO_nil, WD_some, WOd_cons, WOd_nil, WDd_some, List.nil_append, List.cons_append, stepD, wantV, opD, ev, V.ofC, V.ofS, ret, binV, intOp, unV, St.app, updO, upd, appW, E0_P, E0_m, E0_s, E1_P, E1_m, E1_s, E2_P, E2_m, E2_s, mkSt_fr, mkSt_H, mkSt_nx, mkSt_rs, lookF, callOp, evL, calleeV, widthOk, wideA, freezeW, depth, noTup, nodupB, treeN, St.enter, exitTo, gotoIn, findLabel, getO, lenV, bltD, loadD, viewN, V.cells, storeD, mvC, expN, eidN, hasU, optE, sliceNil, eqV, isC, isLR, mapM_purN_int, mapM_expN_int, mapM_viewN_int, flatMap_idsN_int, flatMap_eidN_int, any_hasU_int, all_treeN_int, mapM_purN_str, mapM_expN_str, flatMap_idsN_str, flatMap_eidN_str, any_hasU_str, all_treeN_str, ownX, ownI, backO, backL, take_map_full, -map_replicate, -map_set, -map_append, -map_reverse, -map_take, -map_drop, -map_tail, -any_map, -all_map, -mapM_map, -map_map, adoptT, adoptA, adoptC, h1, ldI, call_IsPrime, e2, hc] <;> simp [mvcgen_simp, -map_replicate, -map_set, -map_append, -map_reverse, -map_take, -map_drop, -map_tail, -any_map, -all_map, -mapM_map, -map_map, Try.f123, pcode, e1, e2]
def mcode (p : Int) (l : List Int) (r : Bool) (polys : List (List Int)) : Int := if momB p l then pcode p r polys else 1
theorem run_momentsCode (p : Int) (l : List Int) (g : FuncId) (fi ca : List V) (r : Bool) (polys : List (List Int)) (hll : l.length ≤ 9223372036854775807) (hl : polys.length ≤ 1000000) (hfl : ∀ f, f ∈ polys → f.length ≤ 9223372036854775807) (hf : FV fi ca) (hc : ∀ H b, callD H b false (modesOf g) (runv E0 g) (fi ++ ca) = some { v := .bool r }) :
    runv E0 52 [(V.agg [V.int .i64 (p), (V.list (List.length (l)) (List.map (V.int .i64) (l)))]), .func (.func g) fi ca, .list polys.length (polys.map LV)] = some ⟨true, .int .i64 (mcode p l r polys), [.agg [.undef, .undef], .undef, .undef]⟩ := by
  have cdk : codeOk Try.f52.ntmps (Try.f52.body.getD .skip) = true := by kernel_rfl
  refine run_of_WL (fn := Try.f52) rfl Try.func52 rfl ⟨by simp [Try.ntmps52], by simp [wideA, ints], cdk, by simp [Try.f52]⟩ ?_
  have h1 := run_AreMoments p l hll
  have h2 := run_polyCode p g fi ca r polys hl hfl hc
  cases e : momB p l with
  | false =>
    rw [e] at h1
    simp [go_sem, -map_replicate, -map_set, -map_append, -map_reverse, -map_take, -map_drop, -map_tail, -any_map, -all_map, -mapM_map, -map_map, slL, szI, ldI, zI, undL, apL, setI, rdI_get, Nat.add_one_le_iff, fillV, zeros1, zeros0, appendD, segV, lvO, goneOf, sliceD, bound, Nat.add_assoc, szL, ldL, setCs0, setCs1, setCs2, setCsA2, setCsA3, ldM, fM0, fM1, szM, zM, plM0, plM1, agM, paM, ldJ, fJ0, fJ1, fJ2, szJ, zJ, plJ0, plJ1, plJ2, agJ, paJ, h1]
    simp [mvcgen_simp, -map_replicate, -map_set, -map_append, -map_reverse, -map_take, -map_drop, -map_tail, -any_map, -all_map, -mapM_map, -map_map, Try.f52, mcode, e]
  | true =>
    rw [e] at h1
    simp [go_sem, -map_replicate, -map_set, -map_append, -map_reverse, -map_take, -map_drop, -map_tail, -any_map, -all_map, -mapM_map, -map_map, slL, szI, ldI, zI, undL, apL, setI, rdI_get, Nat.add_one_le_iff, fillV, zeros1, zeros0, appendD, segV, lvO, goneOf, sliceD, bound, Nat.add_assoc, szL, ldL, setCs0, setCs1, setCs2, setCsA2, setCsA3, ldM, fM0, fM1, szM, zM, plM0, plM1, agM, paM, ldJ, fJ0, fJ1, fJ2, szJ, zJ, plJ0, plJ1, plJ2, agJ, paJ, h1, h2, mapM_purN_LV, flatMap_idsN_LV, hf.fi3, hf.ca3, hf.ifi, hf.ica]
    simp [mvcgen_simp, -map_replicate, -map_set, -map_append, -map_reverse, -map_take, -map_drop, -map_tail, -any_map, -all_map, -mapM_map, -map_map, Try.f52, mcode, e]
theorem mcode_nil (p : Int) (l : List Int) (r : Bool) : mcode p l r [] = if momB p l then (if r then 0 else 2) else 1 := by
  unfold mcode pcode
  cases h : momB p l with
  | false => rfl
  | true =>
    have : primeB p = true := by simp only [momB, Bool.and_eq_true] at h; exact h.1.1
    cases r <;> simp [this]
/-- The code of moments alone. -/
theorem run_mcode0 (p : Int) (l : List Int) (g : FuncId) (fi ca : List V) (r : Bool) (hll : l.length ≤ 9223372036854775807) (hf : FV fi ca) (hc : ∀ H b, callD H b false (modesOf g) (runv E0 g) (fi ++ ca) = some { v := .bool r }) :
    runv E0 52 [(V.agg [V.int .i64 (p), (V.list (List.length (l)) (List.map (V.int .i64) (l)))]), .func (.func g) fi ca, .list 0 []] = some ⟨true, .int .i64 (if momB p l then (if r then 0 else 2) else 1), [.agg [.undef, .undef], .undef, .undef]⟩ := by
  rw [← mcode_nil]
  exact run_momentsCode p l g fi ca r [] hll (by simp) (by simp) hf hc
theorem run_always : runv E0 82 [] = some ⟨true, .bool true, []⟩ := by
  have cdk : codeOk Try.f82.ntmps (Try.f82.body.getD .skip) = true := by kernel_rfl
  refine run_of_WL (fn := Try.f82) rfl Try.func82 rfl ⟨by simp [Try.ntmps82], by simp [wideA, ints], cdk, by simp [Try.f82]⟩ ?_
  simp [go_sem, -map_replicate, -map_set, -map_append, -map_reverse, -map_take, -map_drop, -map_tail, -any_map, -all_map, -mapM_map, -map_map, slL, szI, ldI, zI, undL, apL, setI, rdI_get, Nat.add_one_le_iff, fillV, zeros1, zeros0, appendD, segV, lvO, goneOf, sliceD, bound, Nat.add_assoc]
  simp [mvcgen_simp, -map_replicate, -map_set, -map_append, -map_reverse, -map_take, -map_drop, -map_tail, -any_map, -all_map, -mapM_map, -map_map, Try.f82]
theorem run_mcodeA (p : Int) (l : List Int) (hll : l.length ≤ 9223372036854775807) :
    runv E0 52 [(V.agg [V.int .i64 (p), (V.list (List.length (l)) (List.map (V.int .i64) (l)))]), .func (.func 82) [] [], .list 0 []] = some ⟨true, .int .i64 (if momB p l then 0 else 1), [.agg [.undef, .undef], .undef, .undef]⟩ := by
  have := run_mcode0 p l 82 [] [] true hll fv_nil (fun H b => by
    simp [modesOf, callD, prepL, depth, run_always, nodupB, flatO, noTup, backW, widthOk, wideA, adopt, adoptA, adoptC, treeN])
  simpa using this
end Go.Proofs.Ytacfkfdnncgjcaa.Ev
