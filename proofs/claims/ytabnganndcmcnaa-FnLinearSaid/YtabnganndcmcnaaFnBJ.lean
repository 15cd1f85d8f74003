/- ExpandProduct and ExpandDerivative: both texts and the laws. Conditions: none. -/
import Derived.Test.YtabnganndcmcnaaFnBG
set_option linter.unusedSimpArgs false
set_option linter.unusedVariables false
namespace Go.Proofs.Ytabnganndcmcnaa.Ev
open Go Go.Proofs
open List (map_replicate map_set map_append map_reverse map_take map_drop map_tail any_map all_map mapM_map map_map)
set_option maxRecDepth 4000
set_option maxHeartbeats 4000000

def inK (a : List Int) (x : Int) : Bool := decide (0 ≤ x) && decide (x ≤ a.length)
theorem run_l10Code (p : Int) (a b cs : List Int) (ha : a.length ≤ 1048576) (hb : b.length ≤ 1048576) (hc : cs.length ≤ 1000) :
    runv E1 195 [(V.agg [V.int .i64 (p), (V.list (List.length (a)) (List.map (V.int .i64) (a))), (V.list (List.length (b)) (List.map (V.int .i64) (b)))]), (V.list (List.length (cs)) (List.map (V.int .i64) (cs)))] = some ⟨true, .int .i64 (if jacB p a b then (if cs.all (inK a) then 0 else 2) else 1), [.agg [.undef, .undef, .undef], .undef]⟩ := by
  have cdk : codeOk Try.f195.ntmps (Try.f195.body.getD .skip) = true := by kernel_rfl
  refine run_of_WLr (fn := Try.f195) rfl Try.func195 rfl ⟨by simp [Try.ntmps195], by simp [wideA, ints], cdk, by simp [Try.f195]⟩ rfl (by simp [rebOk, noId, adoptT, adoptA, adoptL, adoptC, depth]) ?_
  have h1 := up (run_l03Is p a b (by omega) (by omega))
  cases e : jacB p a b with
  | false =>
    rw [e] at h1
    simp [go_sem, -map_replicate, -map_set, -map_append, -map_reverse, -map_take, -map_drop, -map_tail, -any_map, -all_map, -mapM_map, -map_map, slL, szI, ldI, zI, undL, apL, setI, rdI_get, Nat.add_one_le_iff, fillV, zeros1, zeros0, appendD, segV, lvO, goneOf, sliceD, bound, Nat.add_assoc, szL, ldL, setCs0, setCs1, setCs2, setCsA2, setCsA3, ldM, fM0, fM1, szM, zM, plM0, plM1, agM, paM, ldJ, fJ0, fJ1, fJ2, szJ, zJ, plJ0, plJ1, plJ2, agJ, paJ, h1]
    simp [mvcgen_simp, -map_replicate, -map_set, -map_append, -map_reverse, -map_take, -map_drop, -map_tail, -any_map, -all_map, -mapM_map, -map_map, Try.f195]
  | true =>
    rw [e] at h1
    simp [go_sem, -map_replicate, -map_set, -map_append, -map_reverse, -map_take, -map_drop, -map_tail, -any_map, -all_map, -mapM_map, -map_map, slL, szI, ldI, zI, undL, apL, setI, rdI_get, Nat.add_one_le_iff, fillV, zeros1, zeros0, appendD, segV, lvO, goneOf, sliceD, bound, Nat.add_assoc, szL, ldL, setCs0, setCs1, setCs2, setCsA2, setCsA3, ldM, fM0, fM1, szM, zM, plM0, plM1, agM, paM, ldJ, fJ0, fJ1, fJ2, szJ, zJ, plJ0, plJ1, plJ2, agJ, paJ, h1]
    rw [WL_loop]
    refine WL_forP (keep := [1, 2, 5]) (rs := resM Try.f195) rfl (by kernel_rfl) (fun i => mkSt [(1, (V.list (List.length (cs)) (List.map (V.int .i64) (cs)))), (2, .ptr 0 0 0), (5, .int .i64 (i : Int))] [some (⟨0, 1, 1, [.int .i64 p, (V.list (List.length (a)) (List.map (V.int .i64) (a))), (V.list (List.length (b)) (List.map (V.int .i64) (b)))]⟩)] (resM Try.f195)) cs.length (fun i => ∀ j, j < i → inK a (rdI cs j) = true) ?_ ?_ 0 _ (by omega) (by omega) rfl ?_
    · intro i hi hP next
      have w1 : IntKind.i64.wrap ((i : Int) + 1) = (i : Int) + 1 := IntWalk.i64_in _ (by omega)
      have w2 : IntKind.i64.wrap (a.length : Int) = (a.length : Int) := IntWalk.i64_in _ (by omega)
      have h3 := up (run_l01In' (rdI cs i) 0 (a.length : Int))
      rw [show (decide (0 ≤ rdI cs i) && decide (rdI cs i ≤ (a.length : Int))) = inK a (rdI cs i) from rfl] at h3
      cases x : inK a (rdI cs i) with
      | true =>
        rw [x] at h3
        simp [go_sem, -map_replicate, -map_set, -map_append, -map_reverse, -map_take, -map_drop, -map_tail, -any_map, -all_map, -mapM_map, -map_map, slL, szI, ldI, zI, undL, apL, setI, rdI_get, Nat.add_one_le_iff, fillV, zeros1, zeros0, appendD, segV, lvO, goneOf, sliceD, bound, Nat.add_assoc, szL, ldL, setCs0, setCs1, setCs2, setCsA2, setCsA3, ldM, fM0, fM1, szM, zM, plM0, plM1, agM, paM, ldJ, fJ0, fJ1, fJ2, szJ, zJ, plJ0, plJ1, plJ2, agJ, paJ, hi, w1, w2, h3, convD, undI64]
        repeat refine ⟨by kernel_rfl, by kernel_rfl, ?_⟩
        refine next _ (fun j hj => ?_) rfl ?_
        · by_cases hij : j = i
          · subst hij; exact x
          · exact hP j (by omega)
        · (refine canon_mk ?_; simp [method_specs_simp, ordIds_app, ordRen_app, ordIds_app2, ordRen_app2, -map_replicate, -map_set, -map_append, -map_reverse, -map_take, -map_drop, -map_tail, -map_map])
      | false =>
        rw [x] at h3
        have hall : cs.all (inK a) = false := by
          rw [List.all_eq_false]
          exact ⟨_, List.getElem_mem hi, by rw [rdI_get hi, x]; simp⟩
        simp [go_sem, -map_replicate, -map_set, -map_append, -map_reverse, -map_take, -map_drop, -map_tail, -any_map, -all_map, -mapM_map, -map_map, slL, szI, ldI, zI, undL, apL, setI, rdI_get, Nat.add_one_le_iff, fillV, zeros1, zeros0, appendD, segV, lvO, goneOf, sliceD, bound, Nat.add_assoc, szL, ldL, setCs0, setCs1, setCs2, setCsA2, setCsA3, ldM, fM0, fM1, szM, zM, plM0, plM1, agM, paM, ldJ, fJ0, fJ1, fJ2, szJ, zJ, plJ0, plJ1, plJ2, agJ, paJ, hi, w1, w2, h3, convD, undI64]
        repeat refine ⟨by kernel_rfl, by kernel_rfl, ?_⟩
        simp [mvcgen_simp, -map_replicate, -map_set, -map_append, -map_reverse, -map_take, -map_drop, -map_tail, -any_map, -all_map, -mapM_map, -map_map, Try.f195]
        exact ⟨_, List.getElem_mem hi, by rw [rdI_get hi, x]⟩
    · intro hP
      have hall : cs.all (inK a) = true := by
        rw [List.all_eq_true]
        intro x hx
        obtain ⟨j, hj, rfl⟩ := List.getElem_of_mem hx
        rw [rdI_get hj]; exact hP j hj
      simp [go_sem, -map_replicate, -map_set, -map_append, -map_reverse, -map_take, -map_drop, -map_tail, -any_map, -all_map, -mapM_map, -map_map, slL, szI, ldI, zI, undL, apL, setI, rdI_get, Nat.add_one_le_iff, fillV, zeros1, zeros0, appendD, segV, lvO, goneOf, sliceD, bound, Nat.add_assoc, szL, ldL, setCs0, setCs1, setCs2, setCsA2, setCsA3, ldM, fM0, fM1, szM, zM, plM0, plM1, agM, paM, ldJ, fJ0, fJ1, fJ2, szJ, zJ, plJ0, plJ1, plJ2, agJ, paJ]
      simp [mvcgen_simp, -map_replicate, -map_set, -map_append, -map_reverse, -map_take, -map_drop, -map_tail, -any_map, -all_map, -mapM_map, -map_map, Try.f195]
      exact fun x hx => List.all_eq_true.1 hall x hx
    · (refine canon_mk ?_; simp [method_specs_simp, ordIds_app, ordRen_app, ordIds_app2, ordRen_app2, -map_replicate, -map_set, -map_append, -map_reverse, -map_take, -map_drop, -map_tail, -map_map])

/-! ### Derivatives -/
def drv (p : Int) (f : List Int) (i : Nat) : Int := ((i : Int) + 1) * rdI f (i + 1) % p
def drvP (p : Int) (f : List Int) : List Int := trimL (tab (f.length - 1) (drv p f))
theorem drvP_le (p : Int) (f : List Int) : (drvP p f).length ≤ f.length - 1 := by
  have := trimL_le (tab (f.length - 1) (drv p f)); rw [tab_len] at this; exact this
theorem drvP_fine {p : Int} (hp : 2 ≤ p ∧ p ≤ 10007) (f : List Int) : fine p (drvP p f) := trimL_fine hp fun i => by
  by_cases h : i < f.length - 1
  · rw [tab_rd h]; exact mod_small hp _
  · rw [rdI_out (by rw [tab_len]; omega)]; omega
theorem run_derivative0 (p : Int) (f : List Int) (hl : ¬ 1 < f.length) :
    runv E1 198 [.int .i64 p, (V.list (List.length (f)) (List.map (V.int .i64) (f)))] = some ⟨false, .list 0 [], [.undef, .undef]⟩ := by
  have cdk : codeOk Try.f198.ntmps (Try.f198.body.getD .skip) = true := by kernel_rfl
  refine run_of_WLr (fn := Try.f198) rfl Try.func198 rfl ⟨by simp [Try.ntmps198], by simp [wideA, ints], cdk, by simp [Try.f198]⟩ rfl (by simp [rebOk, noId, adoptT, adoptA, adoptL, adoptC, depth]) ?_
  simp [go_sem, -map_replicate, -map_set, -map_append, -map_reverse, -map_take, -map_drop, -map_tail, -any_map, -all_map, -mapM_map, -map_map, slL, szI, ldI, zI, undL, apL, setI, rdI_get, Nat.add_one_le_iff, fillV, zeros1, zeros0, appendD, segV, lvO, goneOf, sliceD, bound, Nat.add_assoc]
  rw [WL_loop, WL_reb rfl]
  rw [show maskL (livK (resM Try.f198) (.inLoop _ :: _)).1 = [0, 1, 5, 6] by kernel_rfl]
  rw [show canon [0, 1, 5, 6] _ = mkSt [(0, .int .i64 p), (1, (V.list (List.length (f)) (List.map (V.int .i64) (f)))), (5, .nils), (6, .int .i64 1)] [] (resM Try.f198) by (refine canon_mk ?_; simp [method_specs_simp, ordIds_app, ordRen_app, ordIds_app2, ordRen_app2, -map_replicate, -map_set, -map_append, -map_reverse, -map_take, -map_drop, -map_tail, -map_map])]
  have ci : ¬ (1 : Int) < f.length := by omega
  have ht := up (run_trimmedL [] (by simp))
  simp only [List.length_nil, List.map_nil, show trimL [] = [] from rfl] at ht
  simp [go_sem, -map_replicate, -map_set, -map_append, -map_reverse, -map_take, -map_drop, -map_tail, -any_map, -all_map, -mapM_map, -map_map, slL, szI, ldI, zI, undL, apL, setI, rdI_get, Nat.add_one_le_iff, fillV, zeros1, zeros0, appendD, segV, lvO, goneOf, sliceD, bound, Nat.add_assoc, hl, ci, ht]
  simp [mvcgen_simp, -map_replicate, -map_set, -map_append, -map_reverse, -map_take, -map_drop, -map_tail, -any_map, -all_map, -mapM_map, -map_map, Try.f198, isLR]
theorem run_derivative (p : Int) (f : List Int) (hp : 2 ≤ p ∧ p ≤ 10007) (hf : fine p f) (hl : f.length ≤ 1000) (h1 : 1 < f.length) :
    runv E1 198 [.int .i64 p, (V.list (List.length (f)) (List.map (V.int .i64) (f)))] = some ⟨true, (V.uniq 1 (List.length (drvP p f)) (List.map (V.int .i64) (drvP p f))), [.undef, .undef]⟩ := by
  have cdk : codeOk Try.f198.ntmps (Try.f198.body.getD .skip) = true := by kernel_rfl
  refine run_of_WLr (fn := Try.f198) rfl Try.func198 rfl ⟨by simp [Try.ntmps198], by simp [wideA, ints], cdk, by simp [Try.f198]⟩ rfl (by simp [rebOk, noId, adoptT, adoptA, adoptL, adoptC, depth]) ?_
  simp [go_sem, -map_replicate, -map_set, -map_append, -map_reverse, -map_take, -map_drop, -map_tail, -any_map, -all_map, -mapM_map, -map_map, slL, szI, ldI, zI, undL, apL, setI, rdI_get, Nat.add_one_le_iff, fillV, zeros1, zeros0, appendD, segV, lvO, goneOf, sliceD, bound, Nat.add_assoc]
  rw [WL_loop]
  refine WL_for (keep := [0, 1, 5, 6]) (rs := resM Try.f198) rfl (by kernel_rfl) (fun x => match x with | 0 => mkSt [(0, .int .i64 p), (1, (V.list (List.length (f)) (List.map (V.int .i64) (f)))), (5, .nils), (6, .int .i64 1)] [] (resM Try.f198) | k + 1 => mkSt [(0, .int .i64 p), (1, (V.list (List.length (f)) (List.map (V.int .i64) (f)))), (5, .sl 0 0 0 (k + 1)), (6, .int .i64 ((k : Int) + 1 + 1))] [some (⟨0, 2, 1, (tab (k + 1) (drv p f)).map (V.int .i64)⟩)] (resM Try.f198)) (f.length - 1) ?_ ?_ 0 _ (by omega) rfl ?_
  · intro i hi next
    have r1 := hf (i + 1)
    have pm : 0 ≤ ((i : Int) + 1) * rdI f (i + 1) ∧ ((i : Int) + 1) * rdI f (i + 1) ≤ 1001 * 10007 := by
      refine ⟨Int.mul_nonneg (by omega) r1.1, ?_⟩
      exact Int.mul_le_mul (by omega) (by omega) r1.1 (by omega)
    have w0 : IntKind.i64.wrap (((i : Int) + 1) * rdI f (i + 1)) = ((i : Int) + 1) * rdI f (i + 1) := IntWalk.i64_in _ (by omega)
    have h1 := up (run_mul p ((i : Int) + 1) (rdI f (i + 1)) hp w0)
    rw [show ((i : Int) + 1) * rdI f (i + 1) % p = drv p f i from rfl] at h1
    have w1 : IntKind.i64.wrap ((i : Int) + 1) = (i : Int) + 1 := IntWalk.i64_in _ (by omega)
    have w2 : IntKind.i64.wrap ((i : Int) + 1 + 1) = (i : Int) + 1 + 1 := IntWalk.i64_in _ (by omega)
    have k1 : i + 1 < f.length := by omega
    have k2 : (i : Int) + 1 < f.length := by omega
    have kp : (0 : Int) ≤ (i : Int) + 1 := by omega
    have tA : tab (i + 1) (drv p f) = tab i (drv p f) ++ [drv p f i] := tab_succ _ _
    have lA := tab_len i (drv p f)
    have c3 : (i + 1) * 8 ≤ 140737488355328 := by omega
    generalize hTA : tab i (drv p f) = TA at *
    generalize drv p f i = x at *
    rcases i with _ | k
    · obtain rfl : TA = [] := hTA.symm
      dsimp only at next ⊢
      have wz2 : IntKind.i64.wrap 2 = 2 := by decide +kernel
      simp only [Nat.zero_add, Int.zero_add, Int.cast_ofNat_Int] at *
      simp [go_sem, -map_replicate, -map_set, -map_append, -map_reverse, -map_take, -map_drop, -map_tail, -any_map, -all_map, -mapM_map, -map_map, slL, szI, ldI, zI, undL, apL, setI, rdI_get, Nat.add_one_le_iff, fillV, zeros1, zeros0, appendD, segV, lvO, goneOf, sliceD, bound, Nat.add_assoc, wz2, k1, k2, kp, w1, w2, h1, convD, undI64]
      repeat refine ⟨by kernel_rfl, by kernel_rfl, ?_⟩
      refine next _ rfl ?_
      (refine canon_mk ?_; simp [method_specs_simp, ordIds_app, ordRen_app, ordIds_app2, ordRen_app2, -map_replicate, -map_set, -map_append, -map_reverse, -map_take, -map_drop, -map_tail, -map_map, tA])
    · dsimp only at next ⊢
      have t1 : ((k : Int) + 1 + 1).toNat = k + 2 := by omega
      simp only [Int.natCast_add, Int.cast_ofNat_Int, Nat.add_assoc, Nat.reduceAdd] at *
      simp [go_sem, -map_replicate, -map_set, -map_append, -map_reverse, -map_take, -map_drop, -map_tail, -any_map, -all_map, -mapM_map, -map_map, slL, szI, ldI, zI, undL, apL, setI, rdI_get, Nat.add_one_le_iff, fillV, zeros1, zeros0, appendD, segV, lvO, goneOf, sliceD, bound, Nat.add_assoc, k1, k2, kp, t1, w1, w2, h1, c3, lA, hTA, convD, undI64]
      repeat refine ⟨by kernel_rfl, by kernel_rfl, ?_⟩
      refine next _ rfl ?_
      (refine canon_mk ?_; simp [method_specs_simp, ordIds_app, ordRen_app, ordIds_app2, ordRen_app2, -map_replicate, -map_set, -map_append, -map_reverse, -map_take, -map_drop, -map_tail, -map_map, tA])
  · rcases hn : f.length - 1 with _ | n
    · omega
    · have c : 1 < f.length := by omega
      have ci : ¬ (n : Int) + 1 + 1 < f.length := by omega
      have ht := up (run_trimmed (tab (n + 1) (drv p f)) (by rw [tab_len]; omega))
      rw [tab_len, show trimL (tab (n + 1) (drv p f)) = drvP p f by unfold drvP; rw [hn]] at ht
      have lT := tab_len (n + 1) (drv p f)
      dsimp only
      simp [go_sem, -map_replicate, -map_set, -map_append, -map_reverse, -map_take, -map_drop, -map_tail, -any_map, -all_map, -mapM_map, -map_map, slL, szI, ldI, zI, undL, apL, setI, rdI_get, Nat.add_one_le_iff, fillV, zeros1, zeros0, appendD, segV, lvO, goneOf, sliceD, bound, Nat.add_assoc, c, ci, ht, lT]
      simp [mvcgen_simp, -map_replicate, -map_set, -map_append, -map_reverse, -map_take, -map_drop, -map_tail, -any_map, -all_map, -mapM_map, -map_map, Try.f198, c]
  · (refine canon_mk ?_; simp [method_specs_simp, ordIds_app, ordRen_app, ordIds_app2, ordRen_app2, -map_replicate, -map_set, -map_append, -map_reverse, -map_take, -map_drop, -map_tail, -map_map])
theorem run_l01Derive0 (p : Int) (f : List Int) (hl : ¬ 1 < f.length) :
    runv E1 199 [.int .i64 p, (V.list (List.length (f)) (List.map (V.int .i64) (f)))] = some ⟨true, .uniq 1 0 [], [.undef, .undef]⟩ := by
  have cdk : codeOk Try.f199.ntmps (Try.f199.body.getD .skip) = true := by kernel_rfl
  refine run_of_WLr (fn := Try.f199) rfl Try.func199 rfl ⟨by simp [Try.ntmps199], by simp [wideA, ints], cdk, by simp [Try.f199]⟩ rfl (by simp [rebOk, noId, adoptT, adoptA, adoptL, adoptC, depth]) ?_
  simp [go_sem, -map_replicate, -map_set, -map_append, -map_reverse, -map_take, -map_drop, -map_tail, -any_map, -all_map, -mapM_map, -map_map, slL, szI, ldI, zI, undL, apL, setI, rdI_get, Nat.add_one_le_iff, fillV, zeros1, zeros0, appendD, segV, lvO, goneOf, sliceD, bound, Nat.add_assoc]
  rw [WL_loop, WL_reb rfl]
  rw [show maskL (livK (resM Try.f199) (.inLoop _ :: _)).1 = [0, 1, 5, 6] by kernel_rfl]
  rw [show canon [0, 1, 5, 6] _ = mkSt [(0, .int .i64 p), (1, (V.list (List.length (f)) (List.map (V.int .i64) (f)))), (5, .nils), (6, .int .i64 1)] [] (resM Try.f199) by (refine canon_mk ?_; simp [method_specs_simp, ordIds_app, ordRen_app, ordIds_app2, ordRen_app2, -map_replicate, -map_set, -map_append, -map_reverse, -map_take, -map_drop, -map_tail, -map_map])]
  have ci : ¬ (1 : Int) < f.length := by omega
  have ht := run_l01Trim [] (by simp)
  simp only [List.length_nil, List.map_nil, show trimL [] = [] from rfl] at ht
  simp [go_sem, -map_replicate, -map_set, -map_append, -map_reverse, -map_take, -map_drop, -map_tail, -any_map, -all_map, -mapM_map, -map_map, slL, szI, ldI, zI, undL, apL, setI, rdI_get, Nat.add_one_le_iff, fillV, zeros1, zeros0, appendD, segV, lvO, goneOf, sliceD, bound, Nat.add_assoc, hl, ci, ht]
  simp [mvcgen_simp, -map_replicate, -map_set, -map_append, -map_reverse, -map_take, -map_drop, -map_tail, -any_map, -all_map, -mapM_map, -map_map, Try.f199, isLR]
theorem run_l01Derive (p : Int) (f : List Int) (hp : 2 ≤ p ∧ p ≤ 10007) (hf : fine p f) (hl : f.length ≤ 1000) (h1 : 1 < f.length) :
    runv E1 199 [.int .i64 p, (V.list (List.length (f)) (List.map (V.int .i64) (f)))] = some ⟨true, (V.uniq 1 (List.length (drvP p f)) (List.map (V.int .i64) (drvP p f))), [.undef, .undef]⟩ := by
  have cdk : codeOk Try.f199.ntmps (Try.f199.body.getD .skip) = true := by kernel_rfl
  refine run_of_WLr (fn := Try.f199) rfl Try.func199 rfl ⟨by simp [Try.ntmps199], by simp [wideA, ints], cdk, by simp [Try.f199]⟩ rfl (by simp [rebOk, noId, adoptT, adoptA, adoptL, adoptC, depth]) ?_
  simp [go_sem, -map_replicate, -map_set, -map_append, -map_reverse, -map_take, -map_drop, -map_tail, -any_map, -all_map, -mapM_map, -map_map, slL, szI, ldI, zI, undL, apL, setI, rdI_get, Nat.add_one_le_iff, fillV, zeros1, zeros0, appendD, segV, lvO, goneOf, sliceD, bound, Nat.add_assoc]
  rw [WL_loop]
  refine WL_for (keep := [0, 1, 5, 6]) (rs := resM Try.f199) rfl (by kernel_rfl) (fun x => match x with | 0 => mkSt [(0, .int .i64 p), (1, (V.list (List.length (f)) (List.map (V.int .i64) (f)))), (5, .nils), (6, .int .i64 1)] [] (resM Try.f199) | k + 1 => mkSt [(0, .int .i64 p), (1, (V.list (List.length (f)) (List.map (V.int .i64) (f)))), (5, .sl 0 0 0 (k + 1)), (6, .int .i64 ((k : Int) + 1 + 1))] [some (⟨0, 2, 1, (tab (k + 1) (drv p f)).map (V.int .i64)⟩)] (resM Try.f199)) (f.length - 1) ?_ ?_ 0 _ (by omega) rfl ?_
  · intro i hi next
    have r1 := hf (i + 1)
    have pm : 0 ≤ ((i : Int) + 1) * rdI f (i + 1) ∧ ((i : Int) + 1) * rdI f (i + 1) ≤ 1001 * 10007 := by
      refine ⟨Int.mul_nonneg (by omega) r1.1, ?_⟩
      exact Int.mul_le_mul (by omega) (by omega) r1.1 (by omega)
    have w0 : IntKind.i64.wrap (((i : Int) + 1) * rdI f (i + 1)) = ((i : Int) + 1) * rdI f (i + 1) := IntWalk.i64_in _ (by omega)
    have h1 : (((i : Int) + 1) * rdI f (i + 1)).tmod p = drv p f i := by unfold drv; exact Int.tmod_eq_emod_of_nonneg pm.1
    have hpn : ¬ p = 0 := by omega
    have w1 : IntKind.i64.wrap ((i : Int) + 1) = (i : Int) + 1 := IntWalk.i64_in _ (by omega)
    have w2 : IntKind.i64.wrap ((i : Int) + 1 + 1) = (i : Int) + 1 + 1 := IntWalk.i64_in _ (by omega)
    have k1 : i + 1 < f.length := by omega
    have k2 : (i : Int) + 1 < f.length := by omega
    have kp : (0 : Int) ≤ (i : Int) + 1 := by omega
    have tA : tab (i + 1) (drv p f) = tab i (drv p f) ++ [drv p f i] := tab_succ _ _
    have lA := tab_len i (drv p f)
    have c3 : (i + 1) * 8 ≤ 140737488355328 := by omega
    generalize hTA : tab i (drv p f) = TA at *
    generalize drv p f i = x at *
    rcases i with _ | k
    · obtain rfl : TA = [] := hTA.symm
      dsimp only at next ⊢
      have wz2 : IntKind.i64.wrap 2 = 2 := by decide +kernel
      simp only [Nat.zero_add, Int.zero_add, Int.cast_ofNat_Int, Int.one_mul] at *
      simp [go_sem, -map_replicate, -map_set, -map_append, -map_reverse, -map_take, -map_drop, -map_tail, -any_map, -all_map, -mapM_map, -map_map, slL, szI, ldI, zI, undL, apL, setI, rdI_get, Nat.add_one_le_iff, fillV, zeros1, zeros0, appendD, segV, lvO, goneOf, sliceD, bound, Nat.add_assoc, wz2, w0, hpn, k1, k2, kp, w1, w2, h1, convD, undI64]
      repeat refine ⟨by kernel_rfl, by kernel_rfl, ?_⟩
      refine next _ rfl ?_
      (refine canon_mk ?_; simp [method_specs_simp, ordIds_app, ordRen_app, ordIds_app2, ordRen_app2, -map_replicate, -map_set, -map_append, -map_reverse, -map_take, -map_drop, -map_tail, -map_map, tA])
    · dsimp only at next ⊢
      have t1 : ((k : Int) + 1 + 1).toNat = k + 2 := by omega
      simp only [Int.natCast_add, Int.cast_ofNat_Int, Nat.add_assoc, Nat.reduceAdd] at *
      simp [go_sem, -map_replicate, -map_set, -map_append, -map_reverse, -map_take, -map_drop, -map_tail, -any_map, -all_map, -mapM_map, -map_map, slL, szI, ldI, zI, undL, apL, setI, rdI_get, Nat.add_one_le_iff, fillV, zeros1, zeros0, appendD, segV, lvO, goneOf, sliceD, bound, Nat.add_assoc, w0, hpn, k1, k2, kp, t1, w1, w2, h1, c3, lA, hTA, convD, undI64]
      repeat refine ⟨by kernel_rfl, by kernel_rfl, ?_⟩
      refine next _ rfl ?_
      (refine canon_mk ?_; simp [method_specs_simp, ordIds_app, ordRen_app, ordIds_app2, ordRen_app2, -map_replicate, -map_set, -map_append, -map_reverse, -map_take, -map_drop, -map_tail, -map_map, tA])
  · rcases hn : f.length - 1 with _ | n
    · omega
    · have c : 1 < f.length := by omega
      have ci : ¬ (n : Int) + 1 + 1 < f.length := by omega
      have ht := run_l01Trim (tab (n + 1) (drv p f)) (by rw [tab_len]; omega)
      rw [tab_len, show trimL (tab (n + 1) (drv p f)) = drvP p f by unfold drvP; rw [hn]] at ht
      have lT := tab_len (n + 1) (drv p f)
      dsimp only
      simp [go_sem, -map_replicate, -map_set, -map_append, -map_reverse, -map_take, -map_drop, -map_tail, -any_map, -all_map, -mapM_map, -map_map, slL, szI, ldI, zI, undL, apL, setI, rdI_get, Nat.add_one_le_iff, fillV, zeros1, zeros0, appendD, segV, lvO, goneOf, sliceD, bound, Nat.add_assoc, c, ci, ht, lT]
      simp [mvcgen_simp, -map_replicate, -map_set, -map_append, -map_reverse, -map_take, -map_drop, -map_tail, -any_map, -all_map, -mapM_map, -map_map, Try.f199, c]
  · (refine canon_mk ?_; simp [method_specs_simp, ordIds_app, ordRen_app, ordIds_app2, ordRen_app2, -map_replicate, -map_set, -map_append, -map_reverse, -map_take, -map_drop, -map_tail, -map_map])
theorem drvP_nil {p : Int} {f : List Int} (h : ¬ 1 < f.length) : drvP p f = [] := by
  unfold drvP
  rw [show f.length - 1 = 0 by omega]; rfl
def drvR (p : Int) (a b : List Int) (k : Int) : List Int × Int := if jacB p a b then (if inK a k then (expandP p a b (drvP p (pl p a b k.toNat).1), 0) else ([], 2)) else ([], 1)
theorem drvR_len (p : Int) (a b : List Int) (k : Int) (ha : a.length ≤ 1048576) (hb : b.length ≤ 1048576) : (drvR p a b k).1.length ≤ 1048576 := by
  unfold drvR
  split
  · split
    · rename_i h1 h2
      simp only [inK, Bool.and_eq_true, decide_eq_true_eq] at h2
      have := drvP_le p (pl p a b k.toNat).1
      have := (pl_le p a b k.toNat).1
      simp only [expandP_len]; omega
    · simp
  · simp
theorem run_specExpandDerivative (p : Int) (a b : List Int) (k : Int) (ha : a.length ≤ 1048576) (hb : b.length ≤ 1048576) :
    runv E1 87 [(V.agg [V.int .i64 (p), (V.list (List.length (a)) (List.map (V.int .i64) (a))), (V.list (List.length (b)) (List.map (V.int .i64) (b)))]), .int .i64 k] = some ⟨true, .tup [(V.uniq 1 (List.length ((drvR p a b k).1)) (List.map (V.int .i64) ((drvR p a b k).1))), .int .i64 (drvR p a b k).2], [.agg [.undef, .undef, .undef], .undef]⟩ := by
  have cdk : codeOk Try.f87.ntmps (Try.f87.body.getD .skip) = true := by kernel_rfl
  refine run_of_WLr (fn := Try.f87) rfl Try.func87 rfl ⟨by simp [Try.ntmps87], by simp [wideA, ints], cdk, by simp [Try.f87]⟩ rfl (by simp [rebOk, noId, adoptT, adoptA, adoptL, adoptC, depth]) ?_
  have h1 := run_l10Code p a b [k] ha hb (by simp)
  simp only [List.length_cons, List.length_nil, List.map_cons, List.map_nil, Nat.zero_add, List.all_cons, List.all_nil, Bool.and_true] at h1
  cases e : jacB p a b with
  | false =>
    rw [e] at h1
    simp [go_sem, -map_replicate, -map_set, -map_append, -map_reverse, -map_take, -map_drop, -map_tail, -any_map, -all_map, -mapM_map, -map_map, slL, szI, ldI, zI, undL, apL, setI, rdI_get, Nat.add_one_le_iff, fillV, zeros1, zeros0, appendD, segV, lvO, goneOf, sliceD, bound, Nat.add_assoc, szL, ldL, setCs0, setCs1, setCs2, setCsA2, setCsA3, ldM, fM0, fM1, szM, zM, plM0, plM1, agM, paM, ldJ, fJ0, fJ1, fJ2, szJ, zJ, plJ0, plJ1, plJ2, agJ, paJ, h1]
    simp [mvcgen_simp, -map_replicate, -map_set, -map_append, -map_reverse, -map_take, -map_drop, -map_tail, -any_map, -all_map, -mapM_map, -map_map, Try.f87, drvR, e]
  | true =>
    rw [e] at h1
    cases e1 : inK a k with
    | false =>
      rw [e1] at h1
      simp [go_sem, -map_replicate, -map_set, -map_append, -map_reverse, -map_take, -map_drop, -map_tail, -any_map, -all_map, -mapM_map, -map_map, slL, szI, ldI, zI, undL, apL, setI, rdI_get, Nat.add_one_le_iff, fillV, zeros1, zeros0, appendD, segV, lvO, goneOf, sliceD, bound, Nat.add_assoc, szL, ldL, setCs0, setCs1, setCs2, setCsA2, setCsA3, ldM, fM0, fM1, szM, zM, plM0, plM1, agM, paM, ldJ, fJ0, fJ1, fJ2, szJ, zJ, plJ0, plJ1, plJ2, agJ, paJ, h1]
      simp [mvcgen_simp, -map_replicate, -map_set, -map_append, -map_reverse, -map_take, -map_drop, -map_tail, -any_map, -all_map, -mapM_map, -map_map, Try.f87, drvR, e, e1]
    | true =>
      rw [e1] at h1
      have hp := jacB_prime e
      have hl := jacB_len e
      have e1' := e1
      simp only [inK, Bool.and_eq_true, decide_eq_true_eq] at e1'
      obtain ⟨K, rfl⟩ : ∃ K : Nat, k = K := ⟨k.toNat, by omega⟩
      have h2 := run_l03Poly p a b K e (by omega)
      have l2 := (pl_le p a b K).1
      have f2 := (pl_fine hp a b K).1
      have hps : drvR p a b (K : Int) = (expandP p a b (drvP p (pl p a b K).1), 0) := by simp only [drvR, e, e1, Int.toNat_natCast]; rfl
      generalize (pl p a b K).1 = f at *
      have l3 := drvP_le p f
      have h4 := run_l10Expand p a b (drvP p f) e (by omega) (drvP_fine hp f)
      have lE := expandP_len p a b (drvP p f)
      have h3 : runv E1 199 [.int .i64 p, (V.list (List.length (f)) (List.map (V.int .i64) (f)))] = some ⟨true, (V.uniq 1 (List.length (drvP p f)) (List.map (V.int .i64) (drvP p f))), [.undef, .undef]⟩ := by
        by_cases c : 1 < f.length
        · exact run_l01Derive p f hp f2 (by omega) c
        · rw [drvP_nil c]; exact run_l01Derive0 p f c
      simp [go_sem, -map_replicate, -map_set, -map_append, -map_reverse, -map_take, -map_drop, -map_tail, -any_map, -all_map, -mapM_map, -map_map, slL, szI, ldI, zI, undL, apL, setI, rdI_get, Nat.add_one_le_iff, fillV, zeros1, zeros0, appendD, segV, lvO, goneOf, sliceD, bound, Nat.add_assoc, szL, ldL, setCs0, setCs1, setCs2, setCsA2, setCsA3, ldM, fM0, fM1, szM, zM, plM0, plM1, agM, paM, ldJ, fJ0, fJ1, fJ2, szJ, zJ, plJ0, plJ1, plJ2, agJ, paJ, h1, h2, h3, h4, lE]
      repeat refine ⟨by kernel_rfl, by kernel_rfl, ?_⟩
      simp [mvcgen_simp, -map_replicate, -map_set, -map_append, -map_reverse, -map_take, -map_drop, -map_tail, -any_map, -all_map, -mapM_map, -map_map, Try.f87, hps, lE]
theorem run_implExpandDerivative (p : Int) (a b : List Int) (k : Int) (ha : a.length ≤ 1048576) (hb : b.length ≤ 1048576) :
    runv E1 86 [(V.agg [V.int .i64 (p), (V.list (List.length (a)) (List.map (V.int .i64) (a))), (V.list (List.length (b)) (List.map (V.int .i64) (b)))]), .int .i64 k] = some ⟨true, .tup [(V.uniq 1 (List.length ((drvR p a b k).1)) (List.map (V.int .i64) ((drvR p a b k).1))), .int .i64 (drvR p a b k).2], [.agg [.undef, .undef, .undef], .undef]⟩ := by
  have cdk : codeOk Try.f86.ntmps (Try.f86.body.getD .skip) = true := by kernel_rfl
  refine run_of_WLr (fn := Try.f86) rfl Try.func86 rfl ⟨by simp [Try.ntmps86], by simp [wideA, ints], cdk, by simp [Try.f86]⟩ rfl (by simp [rebOk, noId, adoptT, adoptA, adoptL, adoptC, depth]) ?_
  have g2 := up (run_within k 0 (a.length : Int))
  rw [show (decide (0 ≤ k) && decide (k ≤ (a.length : Int))) = inK a k from rfl] at g2
  have g3 := up (run_Jfield p a b)
  have g4 := up (run_Jsize p a b)
  have h1 := up (run_jacobiCode p a b (inK a k) (by omega) (by omega))
  cases e : jacB p a b with
  | false =>
    rw [e] at h1
    simp only [Bool.false_eq_true, if_false] at h1
    cases e1 : inK a k <;> rw [e1] at g2 h1 <;> simp [go_sem, -map_replicate, -map_set, -map_append, -map_reverse, -map_take, -map_drop, -map_tail, -any_map, -all_map, -mapM_map, -map_map, slL, szI, ldI, zI, undL, apL, setI, rdI_get, Nat.add_one_le_iff, fillV, zeros1, zeros0, appendD, segV, lvO, goneOf, sliceD, bound, Nat.add_assoc, szL, ldL, setCs0, setCs1, setCs2, setCsA2, setCsA3, ldM, fM0, fM1, szM, zM, plM0, plM1, agM, paM, ldJ, fJ0, fJ1, fJ2, szJ, zJ, plJ0, plJ1, plJ2, agJ, paJ, g2, g3, g4, h1] <;> (repeat refine ⟨by kernel_rfl, by kernel_rfl, ?_⟩) <;> simp [mvcgen_simp, -map_replicate, -map_set, -map_append, -map_reverse, -map_take, -map_drop, -map_tail, -any_map, -all_map, -mapM_map, -map_map, Try.f86, drvR, e]
  | true =>
    rw [e] at h1
    cases e1 : inK a k with
    | false =>
      rw [e1] at g2 h1
      simp only [Bool.false_eq_true, if_false, if_true] at h1
      simp [go_sem, -map_replicate, -map_set, -map_append, -map_reverse, -map_take, -map_drop, -map_tail, -any_map, -all_map, -mapM_map, -map_map, slL, szI, ldI, zI, undL, apL, setI, rdI_get, Nat.add_one_le_iff, fillV, zeros1, zeros0, appendD, segV, lvO, goneOf, sliceD, bound, Nat.add_assoc, szL, ldL, setCs0, setCs1, setCs2, setCsA2, setCsA3, ldM, fM0, fM1, szM, zM, plM0, plM1, agM, paM, ldJ, fJ0, fJ1, fJ2, szJ, zJ, plJ0, plJ1, plJ2, agJ, paJ, g2, g3, g4, h1]
      repeat refine ⟨by kernel_rfl, by kernel_rfl, ?_⟩
      simp [mvcgen_simp, -map_replicate, -map_set, -map_append, -map_reverse, -map_take, -map_drop, -map_tail, -any_map, -all_map, -mapM_map, -map_map, Try.f86, drvR, e, e1]
    | true =>
      rw [e1] at g2 h1
      simp only [if_true] at h1
      have hp := jacB_prime e
      have hl := jacB_len e
      have e1' := e1
      simp only [inK, Bool.and_eq_true, decide_eq_true_eq] at e1'
      obtain ⟨K, rfl⟩ : ∃ K : Nat, k = K := ⟨k.toNat, by omega⟩
      have h2 := run_polys p a b e
      have tk : List.take (a.length + 1) (List.map UV (prow p a b (a.length + 1))) = List.map UV (prow p a b (a.length + 1)) := take_map_full (by rw [prow_len]; exact Nat.le_refl _)
      have l2 := (pl_le p a b K).1
      have f2 := (pl_fine hp a b K).1
      have hps : drvR p a b (K : Int) = (expandP p a b (drvP p (pl p a b K).1), 0) := by simp only [drvR, e, e1, Int.toNat_natCast]; rfl
      have hK : K < a.length + 1 := by omega
      have hKi : (K : Int) < (a.length : Int) + 1 := by omega
      have l3 := drvP_le p (pl p a b K).1
      have h4 := run_expand p a b (drvP p (pl p a b K).1) e (by omega) (drvP_fine hp _)
      have lE := expandP_len p a b (drvP p (pl p a b K).1)
      by_cases c : 1 < (pl p a b K).1.length
      · have h3 := run_derivative p (pl p a b K).1 hp f2 (by omega) c
        simp [go_sem, -map_replicate, -map_set, -map_append, -map_reverse, -map_take, -map_drop, -map_tail, -any_map, -all_map, -mapM_map, -map_map, slL, szI, ldI, zI, undL, apL, setI, rdI_get, Nat.add_one_le_iff, fillV, zeros1, zeros0, appendD, segV, lvO, goneOf, sliceD, bound, Nat.add_assoc, szL, ldL, setCs0, setCs1, setCs2, setCsA2, setCsA3, ldM, fM0, fM1, szM, zM, plM0, plM1, agM, paM, ldJ, fJ0, fJ1, fJ2, szJ, zJ, plJ0, plJ1, plJ2, agJ, paJ, g2, g3, g4, h1, h2, h3, h4, lE, hK, hKi, prow_get, prow_len, viewN_UV, LV, slR, tk, mapM_purN_UV, flatMap_idsN_UV, any_hasU_UV]
        repeat refine ⟨by kernel_rfl, by kernel_rfl, ?_⟩
        simp [mvcgen_simp, -map_replicate, -map_set, -map_append, -map_reverse, -map_take, -map_drop, -map_tail, -any_map, -all_map, -mapM_map, -map_map, Try.f86, hps, lE]
      · have h3 := run_derivative0 p (pl p a b K).1 c
        rw [drvP_nil c] at hps h4 lE
        simp only [List.length_nil, List.map_nil] at h4 lE
        simp [go_sem, -map_replicate, -map_set, -map_append, -map_reverse, -map_take, -map_drop, -map_tail, -any_map, -all_map, -mapM_map, -map_map, slL, szI, ldI, zI, undL, apL, setI, rdI_get, Nat.add_one_le_iff, fillV, zeros1, zeros0, appendD, segV, lvO, goneOf, sliceD, bound, Nat.add_assoc, szL, ldL, setCs0, setCs1, setCs2, setCsA2, setCsA3, ldM, fM0, fM1, szM, zM, plM0, plM1, agM, paM, ldJ, fJ0, fJ1, fJ2, szJ, zJ, plJ0, plJ1, plJ2, agJ, paJ, g2, g3, g4, h1, h2, h3, h4, lE, hK, hKi, prow_get, prow_len, viewN_UV, LV, slR, tk, mapM_purN_UV, flatMap_idsN_UV, any_hasU_UV]
        repeat refine ⟨by kernel_rfl, by kernel_rfl, ?_⟩
        simp [mvcgen_simp, -map_replicate, -map_set, -map_append, -map_reverse, -map_take, -map_drop, -map_tail, -any_map, -all_map, -mapM_map, -map_map, Try.f86, hps, lE, show expandP p a b [] = [] from rfl]

end Go.Proofs.Ytabnganndcmcnaa.Ev
