/- ExpandBy and ConnectJacobi: both texts and the laws. Conditions: none. -/
import Derived.Test.YtabnganndcmcnaaFnBG
set_option linter.unusedSimpArgs false
set_option linter.unusedVariables false
namespace Go.Proofs.Ytabnganndcmcnaa.Ev
open Go Go.Proofs
open List (map_replicate map_set map_append map_reverse map_take map_drop map_tail any_map all_map mapM_map map_map)
set_option maxRecDepth 4000
set_option maxHeartbeats 4000000

theorem run_l01Poly (p : Int) (f : List Int) (hl : f.length ≤ 1048576) : runv E1 185 [.int .i64 p, (V.list (List.length (f)) (List.map (V.int .i64) (f)))] = some ⟨true, .bool (polyB p f), [.undef, .undef]⟩ := by
  have cdk : codeOk Try.f185.ntmps (Try.f185.body.getD .skip) = true := by kernel_rfl
  refine run_of_WLr (fn := Try.f185) rfl Try.func185 rfl ⟨by simp [Try.ntmps185], by simp [wideA, ints], cdk, by simp [Try.f185]⟩ rfl (by simp [rebOk, noId, adoptT, adoptA, adoptL, adoptC, depth]) ?_
  simp [go_sem, -map_replicate, -map_set, -map_append, -map_reverse, -map_take, -map_drop, -map_tail, -any_map, -all_map, -mapM_map, -map_map, slL, szI, ldI, zI, undL, apL, setI, rdI_get, Nat.add_one_le_iff, fillV, zeros1, zeros0, appendD, segV, lvO, goneOf, sliceD, bound, Nat.add_assoc]
  rw [WL_loop]
  refine WL_forP (keep := [0, 1, 5]) (rs := resM Try.f185) rfl (by kernel_rfl) (fun i => mkSt [(0, .int .i64 p), (1, (V.list (List.length (f)) (List.map (V.int .i64) (f)))), (5, .int .i64 (i : Int))] [] (resM Try.f185)) f.length (fun i => ∀ j, j < i → hasB p (rdI f j) = true) ?_ ?_ 0 _ (by omega) (by omega) rfl ?_
  · intro i hi hP next
    have w3 : IntKind.i64.wrap ((i : Int) + 1) = (i : Int) + 1 := IntWalk.i64_in _ (by omega)
    by_cases c : hasB p (rdI f i) = true
    · have r := hasB_range c
      have c1 : ¬ rdI f i < 0 := by omega
      have c2 : ¬ p ≤ rdI f i := by omega
      simp [go_sem, -map_replicate, -map_set, -map_append, -map_reverse, -map_take, -map_drop, -map_tail, -any_map, -all_map, -mapM_map, -map_map, slL, szI, ldI, zI, undL, apL, setI, rdI_get, Nat.add_one_le_iff, fillV, zeros1, zeros0, appendD, segV, lvO, goneOf, sliceD, bound, Nat.add_assoc, hi, w3, c1, c2]
      repeat refine ⟨by kernel_rfl, by kernel_rfl, ?_⟩
      refine next _ (fun j hj => ?_) rfl ?_
      · by_cases e : j = i
        · subst e; exact c
        · exact hP j (by omega)
      · (refine canon_mk ?_; simp [method_specs_simp, ordIds_app, ordRen_app, ordIds_app2, ordRen_app2, -map_replicate, -map_set, -map_append, -map_reverse, -map_take, -map_drop, -map_tail, -map_map])
    · have e : polyB p f = false := by
        have : f.all (hasB p) = false := by
          rw [List.all_eq_false]; exact ⟨_, List.getElem_mem hi, by rw [rdI_get hi]; exact c⟩
        simp [polyB, this]
      by_cases c1 : rdI f i < 0
      · simp [go_sem, -map_replicate, -map_set, -map_append, -map_reverse, -map_take, -map_drop, -map_tail, -any_map, -all_map, -mapM_map, -map_map, slL, szI, ldI, zI, undL, apL, setI, rdI_get, Nat.add_one_le_iff, fillV, zeros1, zeros0, appendD, segV, lvO, goneOf, sliceD, bound, Nat.add_assoc, hi, w3, c1]
        repeat refine ⟨by kernel_rfl, by kernel_rfl, ?_⟩
        simp [mvcgen_simp, -map_replicate, -map_set, -map_append, -map_reverse, -map_take, -map_drop, -map_tail, -any_map, -all_map, -mapM_map, -map_map, Try.f185, e]
      · have c2 : p ≤ rdI f i := by
          simp only [hasB, Bool.and_eq_true, decide_eq_true_eq] at c; omega
        simp [go_sem, -map_replicate, -map_set, -map_append, -map_reverse, -map_take, -map_drop, -map_tail, -any_map, -all_map, -mapM_map, -map_map, slL, szI, ldI, zI, undL, apL, setI, rdI_get, Nat.add_one_le_iff, fillV, zeros1, zeros0, appendD, segV, lvO, goneOf, sliceD, bound, Nat.add_assoc, hi, w3, c1, c2]
        repeat refine ⟨by kernel_rfl, by kernel_rfl, ?_⟩
        simp [mvcgen_simp, -map_replicate, -map_set, -map_append, -map_reverse, -map_take, -map_drop, -map_tail, -any_map, -all_map, -mapM_map, -map_map, Try.f185, e]
  · intro hP
    have hall : f.all (hasB p) = true := by
      rw [List.all_eq_true]
      intro x hx
      obtain ⟨j, hj, rfl⟩ := List.getElem_of_mem hx
      rw [rdI_get hj]; exact hP j hj
    by_cases c1 : (f.length : Int) ≤ 25
    · have c1' : f.length ≤ 25 := by omega
      by_cases c2 : f = []
      · subst c2
        simp [go_sem, -map_replicate, -map_set, -map_append, -map_reverse, -map_take, -map_drop, -map_tail, -any_map, -all_map, -mapM_map, -map_map, slL, szI, ldI, zI, undL, apL, setI, rdI_get, Nat.add_one_le_iff, fillV, zeros1, zeros0, appendD, segV, lvO, goneOf, sliceD, bound, Nat.add_assoc]
        simp [mvcgen_simp, -map_replicate, -map_set, -map_append, -map_reverse, -map_take, -map_drop, -map_tail, -any_map, -all_map, -mapM_map, -map_map, Try.f185, polyB]
      · have h0 : 0 < f.length := List.length_pos_iff.2 c2
        have w : IntKind.i64.wrap ((f.length : Int) - 1) = ((f.length - 1 : Nat) : Int) := by rw [IntWalk.i64_in _ (by omega)]; omega
        have k1 : f.length - 1 < f.length := by omega
        have k2 : ((f.length - 1 : Nat) : Int) < f.length := by omega
        simp [go_sem, -map_replicate, -map_set, -map_append, -map_reverse, -map_take, -map_drop, -map_tail, -any_map, -all_map, -mapM_map, -map_map, slL, szI, ldI, zI, undL, apL, setI, rdI_get, Nat.add_one_le_iff, fillV, zeros1, zeros0, appendD, segV, lvO, goneOf, sliceD, bound, Nat.add_assoc, c1, c1', c2, w, k1, k2]
        simp [mvcgen_simp, -map_replicate, -map_set, -map_append, -map_reverse, -map_take, -map_drop, -map_tail, -any_map, -all_map, -mapM_map, -map_map, Try.f185, polyB, c1', hall, c2]
    · have c1' : ¬ f.length ≤ 25 := by omega
      simp [go_sem, -map_replicate, -map_set, -map_append, -map_reverse, -map_take, -map_drop, -map_tail, -any_map, -all_map, -mapM_map, -map_map, slL, szI, ldI, zI, undL, apL, setI, rdI_get, Nat.add_one_le_iff, fillV, zeros1, zeros0, appendD, segV, lvO, goneOf, sliceD, bound, Nat.add_assoc, c1, c1']
      simp [mvcgen_simp, -map_replicate, -map_set, -map_append, -map_reverse, -map_take, -map_drop, -map_tail, -any_map, -all_map, -mapM_map, -map_map, Try.f185, polyB, c1']
  · (refine canon_mk ?_; simp [method_specs_simp, ordIds_app, ordRen_app, ordIds_app2, ordRen_app2, -map_replicate, -map_set, -map_append, -map_reverse, -map_take, -map_drop, -map_tail, -map_map])
def expR (p : Int) (a b f : List Int) : List Int × Int := if jacB p a b && polyB p f then (if f.length ≤ a.length + 1 then (expandP p a b f, 0) else ([], 2)) else ([], 1)
theorem expR_len (p : Int) (a b f : List Int) (ha : a.length ≤ 1048576) (hb : b.length ≤ 1048576) (hc : f.length ≤ 1048576) : (expR p a b f).1.length ≤ 1048576 := by
  unfold expR
  (repeat' split) <;> simp [expandP_len] <;> omega
theorem polyB_all {p : Int} {f : List Int} (h : polyB p f = true) : f.all (hasB p) = true := by
  simp only [polyB, Bool.and_eq_true] at h; exact h.1.2
theorem run_specExpandBy (p : Int) (a b f : List Int) (ha : a.length ≤ 1048576) (hb : b.length ≤ 1048576) (hc : f.length ≤ 1048576) :
    runv E1 72 [(V.agg [V.int .i64 (p), (V.list (List.length (a)) (List.map (V.int .i64) (a))), (V.list (List.length (b)) (List.map (V.int .i64) (b)))]), (V.list (List.length (f)) (List.map (V.int .i64) (f)))] = some ⟨true, .tup [(V.uniq 1 (List.length ((expR p a b f).1)) (List.map (V.int .i64) ((expR p a b f).1))), .int .i64 (expR p a b f).2], [.agg [.undef, .undef, .undef], .undef]⟩ := by
  have cdk : codeOk Try.f72.ntmps (Try.f72.body.getD .skip) = true := by kernel_rfl
  refine run_of_WLr (fn := Try.f72) rfl Try.func72 rfl ⟨by simp [Try.ntmps72], by simp [wideA, ints], cdk, by simp [Try.f72]⟩ rfl (by simp [rebOk, noId, adoptT, adoptA, adoptL, adoptC, depth]) ?_
  have h1 := up (run_l03Is p a b (by omega) (by omega))
  have h2 := run_l01Poly p f hc
  cases e : jacB p a b with
  | false =>
    rw [e] at h1
    simp [go_sem, -map_replicate, -map_set, -map_append, -map_reverse, -map_take, -map_drop, -map_tail, -any_map, -all_map, -mapM_map, -map_map, slL, szI, ldI, zI, undL, apL, setI, rdI_get, Nat.add_one_le_iff, fillV, zeros1, zeros0, appendD, segV, lvO, goneOf, sliceD, bound, Nat.add_assoc, szL, ldL, setCs0, setCs1, setCs2, setCsA2, setCsA3, ldM, fM0, fM1, szM, zM, plM0, plM1, agM, paM, ldJ, fJ0, fJ1, fJ2, szJ, zJ, plJ0, plJ1, plJ2, agJ, paJ, h1]
    simp [mvcgen_simp, -map_replicate, -map_set, -map_append, -map_reverse, -map_take, -map_drop, -map_tail, -any_map, -all_map, -mapM_map, -map_map, Try.f72, expR, e]
  | true =>
    rw [e] at h1
    have hp := jacB_prime e
    have hl := jacB_len e
    cases e1 : polyB p f with
    | false =>
      rw [e1] at h2
      simp [go_sem, -map_replicate, -map_set, -map_append, -map_reverse, -map_take, -map_drop, -map_tail, -any_map, -all_map, -mapM_map, -map_map, slL, szI, ldI, zI, undL, apL, setI, rdI_get, Nat.add_one_le_iff, fillV, zeros1, zeros0, appendD, segV, lvO, goneOf, sliceD, bound, Nat.add_assoc, szL, ldL, setCs0, setCs1, setCs2, setCsA2, setCsA3, ldM, fM0, fM1, szM, zM, plM0, plM1, agM, paM, ldJ, fJ0, fJ1, fJ2, szJ, zJ, plJ0, plJ1, plJ2, agJ, paJ, h1, h2]
      simp [mvcgen_simp, -map_replicate, -map_set, -map_append, -map_reverse, -map_take, -map_drop, -map_tail, -any_map, -all_map, -mapM_map, -map_map, Try.f72, expR, e, e1]
    | true =>
      rw [e1] at h2
      have w : IntKind.i64.wrap ((a.length : Int) + 1) = (a.length : Int) + 1 := IntWalk.i64_in _ (by omega)
      by_cases c : f.length ≤ a.length + 1
      · have c' : ¬ (a.length : Int) + 1 < f.length := by omega
        have h3 := run_l10Expand p a b f e c (fine_all (polyB_all e1) hp.1)
        have lE := expandP_len p a b f
        simp [go_sem, -map_replicate, -map_set, -map_append, -map_reverse, -map_take, -map_drop, -map_tail, -any_map, -all_map, -mapM_map, -map_map, slL, szI, ldI, zI, undL, apL, setI, rdI_get, Nat.add_one_le_iff, fillV, zeros1, zeros0, appendD, segV, lvO, goneOf, sliceD, bound, Nat.add_assoc, szL, ldL, setCs0, setCs1, setCs2, setCsA2, setCsA3, ldM, fM0, fM1, szM, zM, plM0, plM1, agM, paM, ldJ, fJ0, fJ1, fJ2, szJ, zJ, plJ0, plJ1, plJ2, agJ, paJ, h1, h2, h3, w, c', lE]
        repeat refine ⟨by kernel_rfl, by kernel_rfl, ?_⟩
        simp [mvcgen_simp, -map_replicate, -map_set, -map_append, -map_reverse, -map_take, -map_drop, -map_tail, -any_map, -all_map, -mapM_map, -map_map, Try.f72, expR, e, e1, c, lE]
      · have c' : (a.length : Int) + 1 < f.length := by omega
        simp [go_sem, -map_replicate, -map_set, -map_append, -map_reverse, -map_take, -map_drop, -map_tail, -any_map, -all_map, -mapM_map, -map_map, slL, szI, ldI, zI, undL, apL, setI, rdI_get, Nat.add_one_le_iff, fillV, zeros1, zeros0, appendD, segV, lvO, goneOf, sliceD, bound, Nat.add_assoc, szL, ldL, setCs0, setCs1, setCs2, setCsA2, setCsA3, ldM, fM0, fM1, szM, zM, plM0, plM1, agM, paM, ldJ, fJ0, fJ1, fJ2, szJ, zJ, plJ0, plJ1, plJ2, agJ, paJ, h1, h2, w, c']
        repeat refine ⟨by kernel_rfl, by kernel_rfl, ?_⟩
        simp [mvcgen_simp, -map_replicate, -map_set, -map_append, -map_reverse, -map_take, -map_drop, -map_tail, -any_map, -all_map, -mapM_map, -map_map, Try.f72, expR, e, e1, c]
theorem run_implExpandBy (p : Int) (a b f : List Int) (ha : a.length ≤ 1048576) (hb : b.length ≤ 1048576) (hc : f.length ≤ 1048576) :
    runv E1 71 [(V.agg [V.int .i64 (p), (V.list (List.length (a)) (List.map (V.int .i64) (a))), (V.list (List.length (b)) (List.map (V.int .i64) (b)))]), (V.list (List.length (f)) (List.map (V.int .i64) (f)))] = some ⟨true, .tup [(V.uniq 1 (List.length ((expR p a b f).1)) (List.map (V.int .i64) ((expR p a b f).1))), .int .i64 (expR p a b f).2], [.agg [.undef, .undef, .undef], .undef]⟩ := by
  have cdk : codeOk Try.f71.ntmps (Try.f71.body.getD .skip) = true := by kernel_rfl
  refine run_of_WLr (fn := Try.f71) rfl Try.func71 rfl ⟨by simp [Try.ntmps71], by simp [wideA, ints], cdk, by simp [Try.f71]⟩ rfl (by simp [rebOk, noId, adoptT, adoptA, adoptL, adoptC, depth]) ?_
  have h1 := up (run_IsJacobi p a b (by omega) (by omega))
  have h2 := up (run_IsPoly p f (by omega))
  have g3 := up (run_Jfield p a b)
  have g4 := up (run_Jsize p a b)
  have g5 := run_degree f (by omega)
  cases e : jacB p a b with
  | false =>
    rw [e] at h1
    simp [go_sem, -map_replicate, -map_set, -map_append, -map_reverse, -map_take, -map_drop, -map_tail, -any_map, -all_map, -mapM_map, -map_map, slL, szI, ldI, zI, undL, apL, setI, rdI_get, Nat.add_one_le_iff, fillV, zeros1, zeros0, appendD, segV, lvO, goneOf, sliceD, bound, Nat.add_assoc, szL, ldL, setCs0, setCs1, setCs2, setCsA2, setCsA3, ldM, fM0, fM1, szM, zM, plM0, plM1, agM, paM, ldJ, fJ0, fJ1, fJ2, szJ, zJ, plJ0, plJ1, plJ2, agJ, paJ, h1]
    simp [mvcgen_simp, -map_replicate, -map_set, -map_append, -map_reverse, -map_take, -map_drop, -map_tail, -any_map, -all_map, -mapM_map, -map_map, Try.f71, expR, e]
  | true =>
    rw [e] at h1
    have hp := jacB_prime e
    have hl := jacB_len e
    cases e1 : polyB p f with
    | false =>
      rw [e1] at h2
      simp [go_sem, -map_replicate, -map_set, -map_append, -map_reverse, -map_take, -map_drop, -map_tail, -any_map, -all_map, -mapM_map, -map_map, slL, szI, ldI, zI, undL, apL, setI, rdI_get, Nat.add_one_le_iff, fillV, zeros1, zeros0, appendD, segV, lvO, goneOf, sliceD, bound, Nat.add_assoc, szL, ldL, setCs0, setCs1, setCs2, setCsA2, setCsA3, ldM, fM0, fM1, szM, zM, plM0, plM1, agM, paM, ldJ, fJ0, fJ1, fJ2, szJ, zJ, plJ0, plJ1, plJ2, agJ, paJ, h1, h2]
      simp [mvcgen_simp, -map_replicate, -map_set, -map_append, -map_reverse, -map_take, -map_drop, -map_tail, -any_map, -all_map, -mapM_map, -map_map, Try.f71, expR, e, e1]
    | true =>
      rw [e1] at h2
      by_cases c : f.length ≤ a.length + 1
      · have c' : ¬ (a.length : Int) < (f.length : Int) - 1 := by omega
        have h3 := run_expand p a b f e c (fine_all (polyB_all e1) hp.1)
        have h4 := run_polys p a b e
        have tk : List.take (a.length + 1) (List.map UV (prow p a b (a.length + 1))) = List.map UV (prow p a b (a.length + 1)) := take_map_full (by rw [prow_len]; exact Nat.le_refl _)
        have lE := expandP_len p a b f
        simp [go_sem, -map_replicate, -map_set, -map_append, -map_reverse, -map_take, -map_drop, -map_tail, -any_map, -all_map, -mapM_map, -map_map, slL, szI, ldI, zI, undL, apL, setI, rdI_get, Nat.add_one_le_iff, fillV, zeros1, zeros0, appendD, segV, lvO, goneOf, sliceD, bound, Nat.add_assoc, szL, ldL, setCs0, setCs1, setCs2, setCsA2, setCsA3, ldM, fM0, fM1, szM, zM, plM0, plM1, agM, paM, ldJ, fJ0, fJ1, fJ2, szJ, zJ, plJ0, plJ1, plJ2, agJ, paJ, h1, h2, h3, h4, g3, g4, g5, c', lE, mapM_purN_UV, flatMap_idsN_UV, any_hasU_UV, tk, prow_len]
        repeat refine ⟨by kernel_rfl, by kernel_rfl, ?_⟩
        simp [mvcgen_simp, -map_replicate, -map_set, -map_append, -map_reverse, -map_take, -map_drop, -map_tail, -any_map, -all_map, -mapM_map, -map_map, Try.f71, expR, e, e1, c, lE]
      · have c' : (a.length : Int) < (f.length : Int) - 1 := by omega
        simp [go_sem, -map_replicate, -map_set, -map_append, -map_reverse, -map_take, -map_drop, -map_tail, -any_map, -all_map, -mapM_map, -map_map, slL, szI, ldI, zI, undL, apL, setI, rdI_get, Nat.add_one_le_iff, fillV, zeros1, zeros0, appendD, segV, lvO, goneOf, sliceD, bound, Nat.add_assoc, szL, ldL, setCs0, setCs1, setCs2, setCsA2, setCsA3, ldM, fM0, fM1, szM, zM, plM0, plM1, agM, paM, ldJ, fJ0, fJ1, fJ2, szJ, zJ, plJ0, plJ1, plJ2, agJ, paJ, h1, h2, g3, g4, g5, c']
        repeat refine ⟨by kernel_rfl, by kernel_rfl, ?_⟩
        simp [mvcgen_simp, -map_replicate, -map_set, -map_append, -map_reverse, -map_take, -map_drop, -map_tail, -any_map, -all_map, -mapM_map, -map_map, Try.f71, expR, e, e1, c]

end Go.Proofs.Ytabnganndcmcnaa.Ev
