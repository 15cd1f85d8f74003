/- Whether a test holds of all elements of a list, run by the texts. Conditions: none. -/
import Derived.Test.YtabnganndcmcnaaFnA
set_option linter.unusedSimpArgs false
set_option linter.unusedVariables false
namespace Go.Proofs.Ytabnganndcmcnaa.Ev
open Go Go.Proofs
open List (map_replicate map_set map_append map_reverse map_take map_drop map_tail any_map all_map mapM_map map_map)
set_option maxRecDepth 4000
set_option maxHeartbeats 4000000

theorem run_ContainsFunc (l : List Int) (g : FuncId) (cs : List V) (o : Nat) (p : Int → Bool) (hl : l.length ≤ 9223372036854775807) (hc : ∀ H b x, callD H b false (modesOf g) (runv E0 g) (V.int .i64 x :: [V.ref cs o]) = some { v := .bool (p x) }) :
    runv E0 264 [ints l, .func (.func g) [] [.ref cs o]] = some ⟨true, .bool (l.any p), [.undef, .undef]⟩ := by
  have cdk : codeOk Try.f264.ntmps (Try.f264.body.getD .skip) = true := by kernel_rfl
  refine run_of_WL (fn := Try.f264) rfl Try.func264 rfl ⟨by simp [Try.ntmps264], by simp [wideA, ints], cdk, by simp [Try.f264]⟩ ?_
  have h1 := run_IndexFunc l g [] [.ref cs o] p hl hc
  unfold ints at h1
  simp [go_sem, -map_replicate, -map_set, -map_append, -map_reverse, -map_take, -map_drop, -map_tail, -any_map, -all_map, -mapM_map, -map_map, ints, h1]
  simp [mvcgen_simp, -map_replicate, -map_set, -map_append, -map_reverse, -map_take, -map_drop, -map_tail, -any_map, -all_map, -mapM_map, -map_map, Try.f264, ctBool]
  have := index_any l p
  simpa using this

theorem any_not (l : List Int) (p : Int → Bool) : (l.any fun x => !(p x)) = !(l.all p) := by
  induction l with
  | nil => rfl
  | cons a l ih => simp [ih]

/-- The parts of a function value lead to nothing of a frame's own. -/
structure FV (fi ca : List V) : Prop where
  fi3 : ∀ H d, fi.mapM (purN H d) = some fi
  ca3 : ∀ H d, ca.mapM (purN H d) = some ca
  ifi : ∀ H d, fi.flatMap (idsN H d) = []
  ica : ∀ H d, ca.flatMap (idsN H d) = []

theorem run_areAll1 (x : Int) (g : FuncId) (fi ca : List V) (p : Int → Bool) (hc : ∀ H b x, callD H b false (modesOf g) (runv E0 g) (fi ++ V.int .i64 x :: ca) = some { v := .bool (p x) }) :
    runv E0 265 [.int .i64 x, .ref [.func (.func g) fi ca] 0] = some ⟨true, .bool (!(p x)), [.undef, .undef]⟩ := by
  have cdk : codeOk Try.f265.ntmps (Try.f265.body.getD .skip) = true := by kernel_rfl
  refine run_of_WL (fn := Try.f265) rfl Try.func265 rfl ⟨by simp [Try.ntmps265], by simp [wideA, ints], cdk, by simp [Try.f265]⟩ ?_
  simp [WL_nil, WL_seq, WL_region, WL_ret, WL_skip, WL_block, WL_inBlock, WL_cond, WC_t, WC_f, WL_label, WL_exitX, WL_gotoX, WX_some, WL_scope, WL_inScope, WL_regionD, WO_cons, WO_nil, WD_some, WOd_cons, WOd_nil, WDd_some, List.nil_append, List.cons_append, stepD, wantV, opD, ev, V.ofC, V.ofS, ret, binV, intOp, unV, St.app, updO, upd, appW, E0_P, E0_m, E0_s, E1_P, E1_m, E1_s, E2_P, E2_m, E2_s, mkSt_fr, mkSt_H, mkSt_nx, mkSt_rs, lookF, callOp, evL, calleeV, widthOk, wideA, freezeW, depth, noTup, nodupB, treeN, St.enter, exitTo, gotoIn, findLabel, getO, lenV, bltD, loadD, viewN, V.cells, storeD, mvC, expN, eidN, hasU, optE, sliceNil, eqV, isC, isLR, mapM_purN_int, mapM_expN_int, mapM_viewN_int, flatMap_idsN_int, flatMap_eidN_int, any_hasU_int, all_treeN_int, mapM_purN_str, mapM_expN_str, flatMap_idsN_str, flatMap_eidN_str, any_hasU_str, all_treeN_str, ownX, ownI, backO, backL, take_map_full, -map_replicate, -map_set, -map_append, -map_reverse, -map_take, -map_drop, -map_tail, -any_map, -all_map, -mapM_map, -map_map, adoptT, adoptA, adoptC, ldF, hc]
  simp [mvcgen_simp, -map_replicate, -map_set, -map_append, -map_reverse, -map_take, -map_drop, -map_tail, -any_map, -all_map, -mapM_map, -map_map, Try.f265, ctBool]

theorem run_areAll (l : List Int) (g : FuncId) (fi ca : List V) (p : Int → Bool) (hl : l.length ≤ 9223372036854775807) (hf : FV fi ca) (hc : ∀ H b x, callD H b false (modesOf g) (runv E0 g) (fi ++ V.int .i64 x :: ca) = some { v := .bool (p x) }) :
    runv E0 243 [ints l, .func (.func g) fi ca] = some ⟨true, .bool (l.all p), [.undef, .undef]⟩ := by
  have cdk : codeOk Try.f243.ntmps (Try.f243.body.getD .skip) = true := by kernel_rfl
  refine run_of_WL (fn := Try.f243) rfl Try.func243 rfl ⟨by simp [Try.ntmps243], by simp [wideA, ints], cdk, by simp [Try.f243]⟩ ?_
  have h1 := run_ContainsFunc l 265 [.func (.func g) fi ca] 0 (fun x => !(p x)) hl (fun H b x => by
    have := run_areAll1 x g fi ca p hc
    simp [modesOf, callD, prepL, prepA, purN, idsN, depth, this, nodupB, flatO, noTup, backW, widthOk, wideA, adopt, adoptA, adoptC, treeN])
  unfold ints at h1
  simp [go_sem, -map_replicate, -map_set, -map_append, -map_reverse, -map_take, -map_drop, -map_tail, -any_map, -all_map, -mapM_map, -map_map, ints, h1, hf.fi3, hf.ca3, hf.ifi, hf.ica]
  simp [mvcgen_simp, -map_replicate, -map_set, -map_append, -map_reverse, -map_take, -map_drop, -map_tail, -any_map, -all_map, -mapM_map, -map_map, Try.f243, ctBool]
  exact any_not l p

theorem fv_nil : FV [] [] := by
  constructor <;> intros <;> rfl
theorem fv_ref (cs : List V) (o : Nat) : FV [] [.ref cs o] := by
  constructor <;> intro H d <;> cases d <;> rfl
theorem fv_ref2 (cs cs' : List V) (o o' : Nat) : FV [] [.ref cs o, .ref cs' o'] := by
  constructor <;> intro H d <;> cases d <;> rfl
theorem fv_ref3 (cs cs' cs'' : List V) (o o' o'' : Nat) : FV [] [.ref cs o, .ref cs' o', .ref cs'' o''] := by
  constructor <;> intro H d <;> cases d <;> rfl

theorem run_areCounted (l : List Int) (hl : l.length ≤ 9223372036854775807) : runv E0 159 [ints l] = some ⟨true, .bool (l.all fun n => decide (0 ≤ n) && decide (n ≤ 24)), [.undef]⟩ := by
  have cdk : codeOk Try.f159.ntmps (Try.f159.body.getD .skip) = true := by kernel_rfl
  refine run_of_WL (fn := Try.f159) rfl Try.func159 rfl ⟨by simp [Try.ntmps159], by simp [wideA, ints], cdk, by simp [Try.f159]⟩ ?_
  have h1 := run_areAll l 179 [] [] (fun n => decide (0 ≤ n) && decide (n ≤ 24)) hl fv_nil (fun H b x => by
    simp [modesOf, callD, prepL, prepA, purN, idsN, depth, run_isLength, nodupB, flatO, noTup, backW, widthOk, wideA, adopt, adoptA, adoptC, treeN])
  unfold ints at h1
  simp [go_sem, -map_replicate, -map_set, -map_append, -map_reverse, -map_take, -map_drop, -map_tail, -any_map, -all_map, -mapM_map, -map_map, ints, h1]
  simp [mvcgen_simp, -map_replicate, -map_set, -map_append, -map_reverse, -map_take, -map_drop, -map_tail, -any_map, -all_map, -mapM_map, -map_map, Try.f159, ctBool]
end Go.Proofs.Ytabnganndcmcnaa.Ev
