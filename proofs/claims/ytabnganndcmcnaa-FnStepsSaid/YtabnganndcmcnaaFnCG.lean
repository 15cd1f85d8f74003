/- StepsOfJacobi: the reference, for good arguments. Conditions: none. -/
/- StepsOfJacobi: the program, for good arguments. Conditions: none. -/
/- StepsOfJacobi: both texts for all arguments. Conditions: none. -/
/- StepsOfJacobi: the laws' helpers on lists of data. Conditions: none. -/
/- StepsOfJacobi: the marking of all data of a list. Conditions: none. -/
/- StepsOfJacobi: the law. Conditions: none. -/
import Derived.Test.YtabnganndcmcnaaFnCF
import Derived.Test.YtabnganndcmcnaaFnBP
set_option linter.unusedSimpArgs false
set_option linter.unusedVariables false
namespace Go.Proofs.Ytabnganndcmcnaa.Ev
open Go Go.Proofs
open List (map_replicate map_set map_append map_reverse map_take map_drop map_tail any_map all_map mapM_map map_map)
set_option maxRecDepth 4000
set_option maxHeartbeats 4000000

theorem slT3 : slT Try.prog 52 = some (30, 3, 56) := by kernel_rfl
theorem apT3 : apT Try.prog 52 = some (30, 3, 56) := by kernel_rfl
theorem und3 : Try.prog.underlying 52 = some (.slice 30) := by kernel_rfl
theorem ct3 : cellTys Try.prog 52 = [some 3] := by kernel_rfl
theorem zeros3J : zerosV 1 [V.int .i64 0, V.nils, V.nils] = [.int .i64 0, .nils, .nils] := rfl
theorem tri_last (p : Int) (l : List (List Int × List Int)) (x : List Int × List Int) : List.take 3 (List.drop (l.length * 3) (tri p (l ++ [x]))) = cl3 p x := by
  have h : tri p (l ++ [x]) = tri p l ++ cl3 p x := tri_snoc p l x
  rw [h, List.drop_left' (by rw [tri_len]; omega)]; rfl
theorem cl3_view (p : Int) (x : List Int × List Int) (d : Nat) : List.mapM (viewN (d + 1)) (cl3 p x) = some [.int .i64 p, LV x.1, LV x.2] := by
  simp only [cl3, List.mapM_cons, List.mapM_nil, viewN_UV]; rfl
def stepsOk (p c : Int) (a b : List Int) (n : Nat) : Bool := (List.range n).all fun j => okS p c a b j
def stepsV (p c : Int) (a b : List Int) (n : Nat) : V := if stepsOk p c a b n then .tup [.uniq 3 (n + 1) (tri p ((List.range (n + 1)).map (itJ p c a b))), .int .i64 0] else .tup [.uniq 3 0 [], .int .i64 5]
def itL (p c : Int) (a b : List Int) (n : Nat) : List (List Int × List Int) := (List.range n).map (itJ p c a b)
theorem itL_len (p c : Int) (a b : List Int) (n : Nat) : (itL p c a b n).length = n := by simp [itL]
theorem itL_succ (p c : Int) (a b : List Int) (n : Nat) : itL p c a b (n + 1) = itL p c a b n ++ [itJ p c a b n] := by
  unfold itL; rw [List.range_succ, List.map_append]; rfl
theorem itL_view (p c : Int) (a b : List Int) (i d : Nat) : List.mapM (viewN (d + 1)) (List.take 3 (List.drop (i * 3) (tri p (itL p c a b (i + 1))))) = some [.int .i64 p, LV (itJ p c a b i).1, LV (itJ p c a b i).2] := by
  have h := tri_last p (itL p c a b i) (itJ p c a b i)
  rw [itL_len] at h
  rw [itL_succ, h, cl3_view]
theorem run_specStepsOfJacobi (p c : Int) (n : Nat) (a b : List Int) (e : jacB p a b = true) (e1 : hasB p c = true) (hn : n ≤ 12) :
    runv E1 33 [(V.agg [V.int .i64 (p), (V.list (List.length (a)) (List.map (V.int .i64) (a))), (V.list (List.length (b)) (List.map (V.int .i64) (b)))]), .int .i64 c, .int .i64 (n : Int)] = some ⟨true, stepsV p c a b n, [.agg [.undef, .undef, .undef], .undef, .undef]⟩ := by
  have cdk : codeOk Try.f33.ntmps (Try.f33.body.getD .skip) = true := by kernel_rfl
  refine run_of_WLr (fn := Try.f33) rfl Try.func33 rfl ⟨by simp [Try.ntmps33], by simp [wideA, ints], cdk, by simp [Try.f33]⟩ rfl (by simp [rebOk, noId, adoptT, adoptA, adoptL, adoptC, depth]) ?_
  have hl := jacB_len e
  have h1 := up (run_l08Code1 p 0 c a b (by omega) (by omega))
  rw [show (decide (0 ≤ c) && decide (c < p)) = hasB p c from rfl] at h1
  unfold jcode at h1
  rw [e, e1] at h1
  have h2 := up (run_l01In' n 0 12)
  rw [show (decide (0 ≤ (n : Int)) && decide ((n : Int) ≤ 12)) = true by simp; omega] at h2
  have h3 := up (run_l08Copy p a b (by omega) (by omega))
  have z1 : zerosV 1 [V.int .i64 0] = [.int .i64 0] := rfl
  simp [go_sem, -map_replicate, -map_set, -map_append, -map_reverse, -map_take, -map_drop, -map_tail, -any_map, -all_map, -mapM_map, -map_map, slL, szI, ldI, zI, undL, apL, setI, rdI_get, Nat.add_one_le_iff, fillV, zeros1, zeros0, appendD, segV, lvO, goneOf, sliceD, bound, Nat.add_assoc, szL, ldL, setCs0, setCs1, setCs2, setCsA2, setCsA3, ldM, fM0, fM1, szM, zM, plM0, plM1, agM, paM, ldJ, fJ0, fJ1, fJ2, szJ, zJ, plJ0, plJ1, plJ2, agJ, paJ, slT3, apT3, und3, zeros3J, z1, h1, h2, h3, fillV]
  repeat refine ⟨by kernel_rfl, by kernel_rfl, ?_⟩
  rw [WL_loop]
  have hC : 0 ≤ c ∧ c < p := hasB_range e1
  refine WL_forP (keep := [1, 2, 9]) (rs := resM Try.f33) rfl (by kernel_rfl) (fun i => mkSt [(1, .int .i64 c), (2, .int .i64 ((n : Int) - i)), (9, .sl 0 0 0 (i + 1))] [some (⟨0, 2, 3, tri p (itL p c a b (i + 1))⟩)] (resM Try.f33)) n (fun i => ∀ j, j < i → okS p c a b j = true) ?_ ?_ 0 _ (by omega) (fun j hj => by omega) rfl ?_
  · intro i hi hP next
    have hj := itJ_jacB e i hP
    have hl2 := jacB_len hj
    have hs := run_l08Step p (itJ p c a b i).1 (itJ p c a b i).2 c hj hC
    have b1 : (0 : Int) < (n : Int) - i := by omega
    have b2 : IntKind.i64.wrap ((n : Int) - i - 1) = (n : Int) - i - 1 := IntWalk.i64_in _ (by omega)
    have w0 : IntKind.i64.wrap (i : Int) = (i : Int) := IntWalk.i64_in _ (by omega)
    have w1 : IntKind.i64.wrap ((i : Int) + 1 - 1) = (i : Int) := by rw [IntWalk.i64_in _ (by omega)]; omega
    have lT := tri_len p (itL p c a b (i + 1))
    rw [itL_len] at lT
    have hv := itL_view p c a b i 5
    have eT : tri p (itL p c a b (i + 1 + 1)) = tri p (itL p c a b (i + 1)) ++ [.int .i64 p, UV (itJ p c a b (i + 1)).1, UV (itJ p c a b (i + 1)).2] := by
      rw [itL_succ p c a b (i + 1), tri_snoc]
    rw [eT] at next
    have eI : itJ p c a b (i + 1) = (tab ((itJ p c a b i).1.length - 1) (stA p c (itJ p c a b i).1 (itJ p c a b i).2), tab ((itJ p c a b i).1.length - 1) (stB p c (itJ p c a b i).1 (itJ p c a b i).2)) := rfl
    have hO : okS p c a b i = stOk p c (itJ p c a b i).1 (itJ p c a b i).2 := rfl
    rw [eI] at next
    have oT : ∀ d, (tri p (itL p c a b (i + 1))).flatMap (idsF d) = [] := fun d => ordIds_tri p _
    have rT : ∀ ord H, (tri p (itL p c a b (i + 1))).map (renC ord H) = tri p (itL p c a b (i + 1)) := fun _ _ => ordRen_tri p _
    have oT2 : ∀ d (u v : V), (∀ d, idsF d u = []) → (∀ d, idsF d v = []) → (tri p (itL p c a b (i + 1)) ++ [.int .i64 p, u, v]).flatMap (idsF d) = [] := fun d u v hu hv => by
      rw [List.flatMap_append, oT]; simp [hu, hv]; cases d <;> rfl
    generalize hT : tri p (itL p c a b (i + 1)) = T at *
    generalize (itJ p c a b i).1 = x at *
    generalize (itJ p c a b i).2 = y at *
    have ii : (i : Int) < (i : Int) + 1 := by omega
    have iq : (0 : Int) ≤ (i : Int) := by omega
    have i3 : i * 3 + 2 < 3 * (i + 1) := by omega
    have i33 : (3 * (i + 1) = (i + 1) * 3) = True := eq_true (by omega)
    have c3 : (i + 2) * 56 ≤ 140737488355328 := by omega
    cases e2 : stOk p c x y with
    | false =>
      rw [e2] at hs
      have lA := tab_len (stM p c x y) (stA p c x y)
      have lB := tab_len (stM p c x y) (stB p c x y)
      unfold LV at hv
      simp [go_sem, -map_replicate, -map_set, -map_append, -map_reverse, -map_take, -map_drop, -map_tail, -any_map, -all_map, -mapM_map, -map_map, slL, szI, ldI, zI, undL, apL, setI, rdI_get, Nat.add_one_le_iff, fillV, zeros1, zeros0, appendD, segV, lvO, goneOf, sliceD, bound, Nat.add_assoc, szL, ldL, setCs0, setCs1, setCs2, setCsA2, setCsA3, ldM, fM0, fM1, szM, zM, plM0, plM1, agM, paM, ldJ, fJ0, fJ1, fJ2, szJ, zJ, plJ0, plJ1, plJ2, agJ, paJ, slT3, apT3, und3, zeros3J, hi, b1, b2, w0, w1, lT, ii, iq, i3, hv, hs, lA, lB, fillV]
      repeat refine ⟨by kernel_rfl, by kernel_rfl, ?_⟩
      have hps : stepsV p c a b n = .tup [.uniq 3 0 [], .int .i64 5] := by
        have : stepsOk p c a b n = false := by
          unfold stepsOk; rw [List.all_eq_false]
          exact ⟨i, by simpa using hi, by rw [hO, e2]; simp⟩
        unfold stepsV; rw [this]; rfl
      rw [hps]
      simp [mvcgen_simp, -map_replicate, -map_set, -map_append, -map_reverse, -map_take, -map_drop, -map_tail, -any_map, -all_map, -mapM_map, -map_map, Try.f33, ct3]
    | true =>
      rw [e2] at hs
      have eM : stM p c x y = x.length - 1 := by simp [stOk] at e2; exact e2.2
      rw [eM] at hs
      have lA := tab_len (x.length - 1) (stA p c x y)
      have lB := tab_len (x.length - 1) (stB p c x y)
      have hP' : ∀ j, j < i + 1 → okS p c a b j = true := fun j hj => by
        by_cases c : j = i
        · subst c; rw [hO, e2]
        · exact hP j (by omega)
      unfold LV at hv
      unfold UV at next
      generalize tab (x.length - 1) (stA p c x y) = x1 at *
      generalize tab (x.length - 1) (stB p c x y) = y1 at *
      simp [go_sem, -map_replicate, -map_set, -map_append, -map_reverse, -map_take, -map_drop, -map_tail, -any_map, -all_map, -mapM_map, -map_map, slL, szI, ldI, zI, undL, apL, setI, rdI_get, Nat.add_one_le_iff, fillV, zeros1, zeros0, appendD, segV, lvO, goneOf, sliceD, bound, Nat.add_assoc, szL, ldL, setCs0, setCs1, setCs2, setCsA2, setCsA3, ldM, fM0, fM1, szM, zM, plM0, plM1, agM, paM, ldJ, fJ0, fJ1, fJ2, szJ, zJ, plJ0, plJ1, plJ2, agJ, paJ, slT3, apT3, und3, zeros3J, hi, b1, b2, w0, w1, lT, ii, iq, i3, i33, c3, hv, hs, lA, lB, fillV]
      repeat refine ⟨by kernel_rfl, by kernel_rfl, ?_⟩
      refine next _ hP' rfl ?_
      have oU : ∀ d n (l : List Int), idsF d (.uniq 1 n (l.map (V.int .i64))) = [] := fun d n l => by cases d <;> rfl
      have rT3 : ∀ ord H n m (u v : List Int), (T ++ [V.int .i64 p, V.uniq 1 n (u.map (V.int .i64)), V.uniq 1 m (v.map (V.int .i64))]).map (renC ord H) = T ++ [V.int .i64 p, V.uniq 1 n (u.map (V.int .i64)), V.uniq 1 m (v.map (V.int .i64))] := fun ord H n m u v => by
        rw [List.map_append, rT]; rfl
      (refine canon_mk ?_; simp [method_specs_simp, ordIds_app, ordRen_app, ordIds_app2, ordRen_app2, -map_replicate, -map_set, -map_append, -map_reverse, -map_take, -map_drop, -map_tail, -map_map, oT, oT2, oU, rT, rT3, lA, lB]) <;> omega
  · intro hP
    have hps : stepsV p c a b n = .tup [.uniq 3 (n + 1) (tri p (itL p c a b (n + 1))), .int .i64 0] := by
      have : stepsOk p c a b n = true := by
        unfold stepsOk; rw [List.all_eq_true]
        intro j hj; exact hP j (by simpa using hj)
      unfold stepsV; rw [this]; rfl
    rw [hps]
    have lT := tri_len p (itL p c a b (n + 1))
    rw [itL_len] at lT
    have x1 : ∀ H, (tri p (itL p c a b (n + 1))).mapM (expN H 5) = some (tri p (itL p c a b (n + 1))) := fun H => mapM_expN_tri (d := 4) p _
    have x2 : ∀ H, (tri p (itL p c a b (n + 1))).flatMap (eidN H 5) = [] := fun H => flatMap_eidN_tri (d := 4) p _
    have x3 : (tri p (itL p c a b (n + 1))).all (treeN 5) = true := all_treeN_tri (d := 4) p _
    have x4 : (tri p (itL p c a b (n + 1))).take ((n + 1) * 3) = tri p (itL p c a b (n + 1)) := List.take_of_length_le (by omega)
    have x5 : ((n + 1) * 3 ≤ 3 * (n + 1)) = True := eq_true (by omega)
    generalize tri p (itL p c a b (n + 1)) = T at *
    have z : (n : Int) - n = 0 := by omega
    simp only [z]
    simp [go_sem, -map_replicate, -map_set, -map_append, -map_reverse, -map_take, -map_drop, -map_tail, -any_map, -all_map, -mapM_map, -map_map, slL, szI, ldI, zI, undL, apL, setI, rdI_get, Nat.add_one_le_iff, fillV, zeros1, zeros0, appendD, segV, lvO, goneOf, sliceD, bound, Nat.add_assoc, szL, ldL, setCs0, setCs1, setCs2, setCsA2, setCsA3, ldM, fM0, fM1, szM, zM, plM0, plM1, agM, paM, ldJ, fJ0, fJ1, fJ2, szJ, zJ, plJ0, plJ1, plJ2, agJ, paJ, slT3, apT3, und3]
    simp [mvcgen_simp, -map_replicate, -map_set, -map_append, -map_reverse, -map_take, -map_drop, -map_tail, -any_map, -all_map, -mapM_map, -map_map, Try.f33, ct3, lT, x1, x2, x3, x4, x5]
  · have e0 : tri p (itL p c a b 1) = [.int .i64 p, UV a, UV b] := rfl
    unfold UV at e0
    (refine canon_mk ?_; simp [method_specs_simp, ordIds_app, ordRen_app, ordIds_app2, ordRen_app2, -map_replicate, -map_set, -map_append, -map_reverse, -map_take, -map_drop, -map_tail, -map_map, e0])
end Go.Proofs.Ytabnganndcmcnaa.Ev

set_option linter.unusedSimpArgs false
set_option linter.unusedVariables false
namespace Go.Proofs.Ytabnganndcmcnaa.Ev
open Go Go.Proofs
open List (map_replicate map_set map_append map_reverse map_take map_drop map_tail any_map all_map mapM_map map_map)
set_option maxRecDepth 4000
set_option maxHeartbeats 4000000

theorem run_implStepsOfJacobi (p c : Int) (n : Nat) (a b : List Int) (e : jacB p a b = true) (e1 : hasB p c = true) (hn : n ≤ 12) :
    runv E1 32 [(V.agg [V.int .i64 (p), (V.list (List.length (a)) (List.map (V.int .i64) (a))), (V.list (List.length (b)) (List.map (V.int .i64) (b)))]), .int .i64 c, .int .i64 (n : Int)] = some ⟨true, stepsV p c a b n, [.agg [.undef, .undef, .undef], .undef, .undef]⟩ := by
  have cdk : codeOk Try.f32.ntmps (Try.f32.body.getD .skip) = true := by kernel_rfl
  refine run_of_WLr (fn := Try.f32) rfl Try.func32 rfl ⟨by simp [Try.ntmps32], by simp [wideA, ints], cdk, by simp [Try.f32]⟩ rfl (by simp [rebOk, noId, adoptT, adoptA, adoptL, adoptC, depth]) ?_
  have hl := jacB_len e
  have g2 := up (run_within (n : Int) 0 12)
  rw [show (decide (0 ≤ (n : Int)) && decide ((n : Int) ≤ 12)) = true by simp; omega] at g2
  have g3 := up (run_Jfield p a b)
  have g4 := up (run_Jsize p a b)
  have g5 := up (run_has p c)
  rw [e1] at g5
  have h1 := up (run_jacobiCode p a b true (by omega) (by omega))
  rw [e] at h1
  simp only [if_true] at h1
  have h3 := up (run_part0 p a b (by omega) (by omega) hl.2.2)
  simp [go_sem, -map_replicate, -map_set, -map_append, -map_reverse, -map_take, -map_drop, -map_tail, -any_map, -all_map, -mapM_map, -map_map, slL, szI, ldI, zI, undL, apL, setI, rdI_get, Nat.add_one_le_iff, fillV, zeros1, zeros0, appendD, segV, lvO, goneOf, sliceD, bound, Nat.add_assoc, szL, ldL, setCs0, setCs1, setCs2, setCsA2, setCsA3, ldM, fM0, fM1, szM, zM, plM0, plM1, agM, paM, ldJ, fJ0, fJ1, fJ2, szJ, zJ, plJ0, plJ1, plJ2, agJ, paJ, slT3, apT3, und3, zeros3J, g2, g3, g4, g5, h1, h3, fillV]
  repeat refine ⟨by kernel_rfl, by kernel_rfl, ?_⟩
  rw [WL_loop]
  have hC : 0 ≤ c ∧ c < p := hasB_range e1
  refine WL_forP (keep := [1, 9, 31, 32]) (rs := resM Try.f32) rfl (by kernel_rfl) (fun i => mkSt [(1, .int .i64 c), (9, .sl 0 0 0 (i + 1)), (31, .int .i64 (n : Int)), (32, .int .i64 (i : Int))] [some (⟨0, 2, 3, tri p (itL p c a b (i + 1))⟩)] (resM Try.f32)) n (fun i => ∀ j, j < i → okS p c a b j = true) ?_ ?_ 0 _ (by omega) (fun j hj => by omega) rfl ?_
  · intro i hi hP next
    have hj := itJ_jacB e i hP
    have hl2 := jacB_len hj
    have hs := run_step p (itJ p c a b i).1 (itJ p c a b i).2 c hj hC
    have b1 : (i : Int) < n := by omega
    have b2 : IntKind.i64.wrap ((i : Int) + 1) = (i : Int) + 1 := IntWalk.i64_in _ (by omega)
    have w0 : IntKind.i64.wrap (i : Int) = (i : Int) := IntWalk.i64_in _ (by omega)
    have w1 : IntKind.i64.wrap ((i : Int) + 1 - 1) = (i : Int) := by rw [IntWalk.i64_in _ (by omega)]; omega
    have lT := tri_len p (itL p c a b (i + 1))
    rw [itL_len] at lT
    have hv := itL_view p c a b i 5
    have eT : tri p (itL p c a b (i + 1 + 1)) = tri p (itL p c a b (i + 1)) ++ [.int .i64 p, UV (itJ p c a b (i + 1)).1, UV (itJ p c a b (i + 1)).2] := by
      rw [itL_succ p c a b (i + 1), tri_snoc]
    rw [eT] at next
    have eI : itJ p c a b (i + 1) = (tab ((itJ p c a b i).1.length - 1) (stA p c (itJ p c a b i).1 (itJ p c a b i).2), tab ((itJ p c a b i).1.length - 1) (stB p c (itJ p c a b i).1 (itJ p c a b i).2)) := rfl
    have hO : okS p c a b i = stOk p c (itJ p c a b i).1 (itJ p c a b i).2 := rfl
    rw [eI] at next
    have oT : ∀ d, (tri p (itL p c a b (i + 1))).flatMap (idsF d) = [] := fun d => ordIds_tri p _
    have rT : ∀ ord H, (tri p (itL p c a b (i + 1))).map (renC ord H) = tri p (itL p c a b (i + 1)) := fun _ _ => ordRen_tri p _
    have oT2 : ∀ d (u v : V), (∀ d, idsF d u = []) → (∀ d, idsF d v = []) → (tri p (itL p c a b (i + 1)) ++ [.int .i64 p, u, v]).flatMap (idsF d) = [] := fun d u v hu hv => by
      rw [List.flatMap_append, oT]; simp [hu, hv]; cases d <;> rfl
    generalize hT : tri p (itL p c a b (i + 1)) = T at *
    generalize (itJ p c a b i).1 = x at *
    generalize (itJ p c a b i).2 = y at *
    have ii : (i : Int) < (i : Int) + 1 := by omega
    have iq : (0 : Int) ≤ (i : Int) := by omega
    have i3 : i * 3 + 2 < 3 * (i + 1) := by omega
    have i33 : (3 * (i + 1) = (i + 1) * 3) = True := eq_true (by omega)
    have c3 : (i + 2) * 56 ≤ 140737488355328 := by omega
    cases e2 : stOk p c x y with
    | false =>
      have eS : stI p c x y = (0, [], [], false) := by unfold stI; rw [e2]; rfl
      rw [eS] at hs
      simp only [List.length_nil, List.map_nil] at hs
      unfold LV at hv
      simp [go_sem, -map_replicate, -map_set, -map_append, -map_reverse, -map_take, -map_drop, -map_tail, -any_map, -all_map, -mapM_map, -map_map, slL, szI, ldI, zI, undL, apL, setI, rdI_get, Nat.add_one_le_iff, fillV, zeros1, zeros0, appendD, segV, lvO, goneOf, sliceD, bound, Nat.add_assoc, szL, ldL, setCs0, setCs1, setCs2, setCsA2, setCsA3, ldM, fM0, fM1, szM, zM, plM0, plM1, agM, paM, ldJ, fJ0, fJ1, fJ2, szJ, zJ, plJ0, plJ1, plJ2, agJ, paJ, slT3, apT3, und3, zeros3J, hi, b1, b2, w0, w1, lT, ii, iq, i3, hv, hs, fillV]
      repeat refine ⟨by kernel_rfl, by kernel_rfl, ?_⟩
      have hps : stepsV p c a b n = .tup [.uniq 3 0 [], .int .i64 5] := by
        have : stepsOk p c a b n = false := by
          unfold stepsOk; rw [List.all_eq_false]
          exact ⟨i, by simpa using hi, by rw [hO, e2]; simp⟩
        unfold stepsV; rw [this]; rfl
      rw [hps]
      simp [mvcgen_simp, -map_replicate, -map_set, -map_append, -map_reverse, -map_take, -map_drop, -map_tail, -any_map, -all_map, -mapM_map, -map_map, Try.f32, ct3]
    | true =>
      have eS : stI p c x y = (p, tab (x.length - 1) (stA p c x y), tab (x.length - 1) (stB p c x y), true) := by unfold stI; rw [e2]; rfl
      rw [eS] at hs
      simp only at hs
      have lA := tab_len (x.length - 1) (stA p c x y)
      have lB := tab_len (x.length - 1) (stB p c x y)
      have hP' : ∀ j, j < i + 1 → okS p c a b j = true := fun j hj => by
        by_cases c : j = i
        · subst c; rw [hO, e2]
        · exact hP j (by omega)
      unfold LV at hv
      unfold UV at next
      generalize tab (x.length - 1) (stA p c x y) = x1 at *
      generalize tab (x.length - 1) (stB p c x y) = y1 at *
      simp [go_sem, -map_replicate, -map_set, -map_append, -map_reverse, -map_take, -map_drop, -map_tail, -any_map, -all_map, -mapM_map, -map_map, slL, szI, ldI, zI, undL, apL, setI, rdI_get, Nat.add_one_le_iff, fillV, zeros1, zeros0, appendD, segV, lvO, goneOf, sliceD, bound, Nat.add_assoc, szL, ldL, setCs0, setCs1, setCs2, setCsA2, setCsA3, ldM, fM0, fM1, szM, zM, plM0, plM1, agM, paM, ldJ, fJ0, fJ1, fJ2, szJ, zJ, plJ0, plJ1, plJ2, agJ, paJ, slT3, apT3, und3, zeros3J, hi, b1, b2, w0, w1, lT, ii, iq, i3, i33, c3, hv, hs, lA, lB, fillV]
      repeat refine ⟨by kernel_rfl, by kernel_rfl, ?_⟩
      refine next _ hP' rfl ?_
      have oU : ∀ d n (l : List Int), idsF d (.uniq 1 n (l.map (V.int .i64))) = [] := fun d n l => by cases d <;> rfl
      have rT3 : ∀ ord H n m (u v : List Int), (T ++ [V.int .i64 p, V.uniq 1 n (u.map (V.int .i64)), V.uniq 1 m (v.map (V.int .i64))]).map (renC ord H) = T ++ [V.int .i64 p, V.uniq 1 n (u.map (V.int .i64)), V.uniq 1 m (v.map (V.int .i64))] := fun ord H n m u v => by
        rw [List.map_append, rT]; rfl
      (refine canon_mk ?_; simp [method_specs_simp, ordIds_app, ordRen_app, ordIds_app2, ordRen_app2, -map_replicate, -map_set, -map_append, -map_reverse, -map_take, -map_drop, -map_tail, -map_map, oT, oT2, oU, rT, rT3, lA, lB]) <;> omega
  · intro hP
    have hps : stepsV p c a b n = .tup [.uniq 3 (n + 1) (tri p (itL p c a b (n + 1))), .int .i64 0] := by
      have : stepsOk p c a b n = true := by
        unfold stepsOk; rw [List.all_eq_true]
        intro j hj; exact hP j (by simpa using hj)
      unfold stepsV; rw [this]; rfl
    rw [hps]
    have lT := tri_len p (itL p c a b (n + 1))
    rw [itL_len] at lT
    have x1 : ∀ H, (tri p (itL p c a b (n + 1))).mapM (expN H 5) = some (tri p (itL p c a b (n + 1))) := fun H => mapM_expN_tri (d := 4) p _
    have x2 : ∀ H, (tri p (itL p c a b (n + 1))).flatMap (eidN H 5) = [] := fun H => flatMap_eidN_tri (d := 4) p _
    have x3 : (tri p (itL p c a b (n + 1))).all (treeN 5) = true := all_treeN_tri (d := 4) p _
    have x4 : (tri p (itL p c a b (n + 1))).take ((n + 1) * 3) = tri p (itL p c a b (n + 1)) := List.take_of_length_le (by omega)
    have x5 : ((n + 1) * 3 ≤ 3 * (n + 1)) = True := eq_true (by omega)
    generalize tri p (itL p c a b (n + 1)) = T at *
    simp [go_sem, -map_replicate, -map_set, -map_append, -map_reverse, -map_take, -map_drop, -map_tail, -any_map, -all_map, -mapM_map, -map_map, slL, szI, ldI, zI, undL, apL, setI, rdI_get, Nat.add_one_le_iff, fillV, zeros1, zeros0, appendD, segV, lvO, goneOf, sliceD, bound, Nat.add_assoc, szL, ldL, setCs0, setCs1, setCs2, setCsA2, setCsA3, ldM, fM0, fM1, szM, zM, plM0, plM1, agM, paM, ldJ, fJ0, fJ1, fJ2, szJ, zJ, plJ0, plJ1, plJ2, agJ, paJ, slT3, apT3, und3]
    simp [mvcgen_simp, -map_replicate, -map_set, -map_append, -map_reverse, -map_take, -map_drop, -map_tail, -any_map, -all_map, -mapM_map, -map_map, Try.f32, ct3, lT, x1, x2, x3, x4, x5]
  · have e0 : tri p (itL p c a b 1) = [.int .i64 p, UV a, UV b] := rfl
    unfold UV at e0
    (refine canon_mk ?_; simp [method_specs_simp, ordIds_app, ordRen_app, ordIds_app2, ordRen_app2, -map_replicate, -map_set, -map_append, -map_reverse, -map_take, -map_drop, -map_tail, -map_map, e0])
end Go.Proofs.Ytabnganndcmcnaa.Ev

set_option linter.unusedSimpArgs false
set_option linter.unusedVariables false
namespace Go.Proofs.Ytabnganndcmcnaa.Ev
open Go Go.Proofs
open List (map_replicate map_set map_append map_reverse map_take map_drop map_tail any_map all_map mapM_map map_map)
set_option maxRecDepth 4000
set_option maxHeartbeats 4000000

def stepsR (p c n : Int) (a b : List Int) : V :=
  if jacB p a b then (if hasB p c && (decide (0 ≤ n) && decide (n ≤ 12)) then stepsV p c a b n.toNat else .tup [.uniq 3 0 [], .int .i64 2]) else .tup [.uniq 3 0 [], .int .i64 1]
theorem run_specSteps (p c n : Int) (a b : List Int) (ha : a.length ≤ 1048576) (hb : b.length ≤ 1048576) :
    runv E1 33 [(V.agg [V.int .i64 (p), (V.list (List.length (a)) (List.map (V.int .i64) (a))), (V.list (List.length (b)) (List.map (V.int .i64) (b)))]), .int .i64 c, .int .i64 n] = some ⟨true, stepsR p c n a b, [.agg [.undef, .undef, .undef], .undef, .undef]⟩ := by
  by_cases good : (jacB p a b = true ∧ hasB p c = true) ∧ 0 ≤ n ∧ n ≤ 12
  · obtain ⟨N, rfl⟩ : ∃ N : Nat, n = N := ⟨n.toNat, by omega⟩
    have hps : stepsR p c N a b = stepsV p c a b N := by
      unfold stepsR; rw [good.1.1, good.1.2]; simp; omega
    rw [hps]; exact run_specStepsOfJacobi p c N a b good.1.1 good.1.2 (by omega)
  have h1 := up (run_l08Code1 p 0 c a b (by omega) (by omega))
  rw [show (decide (0 ≤ c) && decide (c < p)) = hasB p c from rfl] at h1
  unfold jcode at h1
  have h2 := up (run_l01In' n 0 12)
  have z1 : zerosV 1 [V.int .i64 0] = [.int .i64 0] := rfl
  have cdk : codeOk Try.f33.ntmps (Try.f33.body.getD .skip) = true := by kernel_rfl
  refine run_of_WLr (fn := Try.f33) rfl Try.func33 rfl ⟨by simp [Try.ntmps33], by simp [wideA, ints], cdk, by simp [Try.f33]⟩ rfl (by simp [rebOk, noId, adoptT, adoptA, adoptL, adoptC, depth]) ?_
  cases e : jacB p a b with
  | false =>
    rw [e] at h1
    have hps : stepsR p c n a b = .tup [.uniq 3 0 [], .int .i64 1] := by unfold stepsR; rw [e]; rfl
    rw [hps]
    simp [go_sem, -map_replicate, -map_set, -map_append, -map_reverse, -map_take, -map_drop, -map_tail, -any_map, -all_map, -mapM_map, -map_map, slL, szI, ldI, zI, undL, apL, setI, rdI_get, Nat.add_one_le_iff, fillV, zeros1, zeros0, appendD, segV, lvO, goneOf, sliceD, bound, Nat.add_assoc, szL, ldL, setCs0, setCs1, setCs2, setCsA2, setCsA3, ldM, fM0, fM1, szM, zM, plM0, plM1, agM, paM, ldJ, fJ0, fJ1, fJ2, szJ, zJ, plJ0, plJ1, plJ2, agJ, paJ, slT3, apT3, und3, zeros3J, z1, h1, fillV]
    repeat refine ⟨by kernel_rfl, by kernel_rfl, ?_⟩
    simp [mvcgen_simp, -map_replicate, -map_set, -map_append, -map_reverse, -map_take, -map_drop, -map_tail, -any_map, -all_map, -mapM_map, -map_map, Try.f33, ct3]
  | true =>
    rw [e] at h1
    cases e1 : hasB p c with
    | false =>
      rw [e1] at h1
      have hps : stepsR p c n a b = .tup [.uniq 3 0 [], .int .i64 2] := by unfold stepsR; rw [e, e1]; rfl
      rw [hps]
      simp [go_sem, -map_replicate, -map_set, -map_append, -map_reverse, -map_take, -map_drop, -map_tail, -any_map, -all_map, -mapM_map, -map_map, slL, szI, ldI, zI, undL, apL, setI, rdI_get, Nat.add_one_le_iff, fillV, zeros1, zeros0, appendD, segV, lvO, goneOf, sliceD, bound, Nat.add_assoc, szL, ldL, setCs0, setCs1, setCs2, setCsA2, setCsA3, ldM, fM0, fM1, szM, zM, plM0, plM1, agM, paM, ldJ, fJ0, fJ1, fJ2, szJ, zJ, plJ0, plJ1, plJ2, agJ, paJ, slT3, apT3, und3, zeros3J, z1, h1, fillV]
      repeat refine ⟨by kernel_rfl, by kernel_rfl, ?_⟩
      simp [mvcgen_simp, -map_replicate, -map_set, -map_append, -map_reverse, -map_take, -map_drop, -map_tail, -any_map, -all_map, -mapM_map, -map_map, Try.f33, ct3]
    | true =>
      rw [e1] at h1
      have e2 : (decide (0 ≤ n) && decide (n ≤ 12)) = false := by
        simp only [Bool.and_eq_false_iff, decide_eq_false_iff_not]
        apply Classical.byContradiction; intro q; exact good ⟨⟨e, e1⟩, by omega, by omega⟩
      rw [e2] at h2
      have hps : stepsR p c n a b = .tup [.uniq 3 0 [], .int .i64 2] := by unfold stepsR; rw [e, e1, e2]; rfl
      rw [hps]
      simp [go_sem, -map_replicate, -map_set, -map_append, -map_reverse, -map_take, -map_drop, -map_tail, -any_map, -all_map, -mapM_map, -map_map, slL, szI, ldI, zI, undL, apL, setI, rdI_get, Nat.add_one_le_iff, fillV, zeros1, zeros0, appendD, segV, lvO, goneOf, sliceD, bound, Nat.add_assoc, szL, ldL, setCs0, setCs1, setCs2, setCsA2, setCsA3, ldM, fM0, fM1, szM, zM, plM0, plM1, agM, paM, ldJ, fJ0, fJ1, fJ2, szJ, zJ, plJ0, plJ1, plJ2, agJ, paJ, slT3, apT3, und3, zeros3J, z1, h1, h2, fillV]
      repeat refine ⟨by kernel_rfl, by kernel_rfl, ?_⟩
      simp [mvcgen_simp, -map_replicate, -map_set, -map_append, -map_reverse, -map_take, -map_drop, -map_tail, -any_map, -all_map, -mapM_map, -map_map, Try.f33, ct3]
theorem run_implSteps (p c n : Int) (a b : List Int) (ha : a.length ≤ 1048576) (hb : b.length ≤ 1048576) :
    runv E1 32 [(V.agg [V.int .i64 (p), (V.list (List.length (a)) (List.map (V.int .i64) (a))), (V.list (List.length (b)) (List.map (V.int .i64) (b)))]), .int .i64 c, .int .i64 n] = some ⟨true, stepsR p c n a b, [.agg [.undef, .undef, .undef], .undef, .undef]⟩ := by
  by_cases good : (jacB p a b = true ∧ hasB p c = true) ∧ 0 ≤ n ∧ n ≤ 12
  · obtain ⟨N, rfl⟩ : ∃ N : Nat, n = N := ⟨n.toNat, by omega⟩
    have hps : stepsR p c N a b = stepsV p c a b N := by
      unfold stepsR; rw [good.1.1, good.1.2]; simp; omega
    rw [hps]; exact run_implStepsOfJacobi p c N a b good.1.1 good.1.2 (by omega)
  have g2 := up (run_within n 0 12)
  have g3 := up (run_Jfield p a b)
  have g4 := up (run_Jsize p a b)
  have g5 := up (run_has p c)
  have h1 := up (run_jacobiCode p a b (hasB p c && (decide (0 ≤ n) && decide (n ≤ 12))) (by omega) (by omega))
  have cdk : codeOk Try.f32.ntmps (Try.f32.body.getD .skip) = true := by kernel_rfl
  refine run_of_WLr (fn := Try.f32) rfl Try.func32 rfl ⟨by simp [Try.ntmps32], by simp [wideA, ints], cdk, by simp [Try.f32]⟩ rfl (by simp [rebOk, noId, adoptT, adoptA, adoptL, adoptC, depth]) ?_
  cases e : jacB p a b with
  | false =>
    rw [e] at h1
    simp only [Bool.false_eq_true, if_false] at h1
    have hps : stepsR p c n a b = .tup [.uniq 3 0 [], .int .i64 1] := by unfold stepsR; rw [e]; rfl
    rw [hps]
    cases e1 : hasB p c <;> cases e2 : (decide (0 ≤ n) && decide (n ≤ 12)) <;> rw [e1] at g5 h1 <;> rw [e2] at g2 h1 <;> simp only [Bool.and_true, Bool.and_false] at h1 <;> simp [go_sem, -map_replicate, -map_set, -map_append, -map_reverse, -map_take, -map_drop, -map_tail, -any_map, -all_map, -mapM_map, -map_map, slL, szI, ldI, zI, undL, apL, setI, rdI_get, Nat.add_one_le_iff, fillV, zeros1, zeros0, appendD, segV, lvO, goneOf, sliceD, bound, Nat.add_assoc, szL, ldL, setCs0, setCs1, setCs2, setCsA2, setCsA3, ldM, fM0, fM1, szM, zM, plM0, plM1, agM, paM, ldJ, fJ0, fJ1, fJ2, szJ, zJ, plJ0, plJ1, plJ2, agJ, paJ, slT3, apT3, und3, zeros3J, g2, g3, g4, g5, h1, fillV] <;> (repeat refine ⟨by kernel_rfl, by kernel_rfl, ?_⟩) <;> simp [mvcgen_simp, -map_replicate, -map_set, -map_append, -map_reverse, -map_take, -map_drop, -map_tail, -any_map, -all_map, -mapM_map, -map_map, Try.f32, ct3]
  | true =>
    rw [e] at h1
    cases e1 : hasB p c with
    | false =>
      rw [e1] at h1 g5
      simp only [Bool.false_and, Bool.false_eq_true, if_false, if_true] at h1
      have hps : stepsR p c n a b = .tup [.uniq 3 0 [], .int .i64 2] := by unfold stepsR; rw [e, e1]; rfl
      rw [hps]
      simp [go_sem, -map_replicate, -map_set, -map_append, -map_reverse, -map_take, -map_drop, -map_tail, -any_map, -all_map, -mapM_map, -map_map, slL, szI, ldI, zI, undL, apL, setI, rdI_get, Nat.add_one_le_iff, fillV, zeros1, zeros0, appendD, segV, lvO, goneOf, sliceD, bound, Nat.add_assoc, szL, ldL, setCs0, setCs1, setCs2, setCsA2, setCsA3, ldM, fM0, fM1, szM, zM, plM0, plM1, agM, paM, ldJ, fJ0, fJ1, fJ2, szJ, zJ, plJ0, plJ1, plJ2, agJ, paJ, slT3, apT3, und3, zeros3J, g2, g3, g4, g5, h1, fillV]
      repeat refine ⟨by kernel_rfl, by kernel_rfl, ?_⟩
      simp [mvcgen_simp, -map_replicate, -map_set, -map_append, -map_reverse, -map_take, -map_drop, -map_tail, -any_map, -all_map, -mapM_map, -map_map, Try.f32, ct3]
    | true =>
      rw [e1] at h1 g5
      have e2 : (decide (0 ≤ n) && decide (n ≤ 12)) = false := by
        simp only [Bool.and_eq_false_iff, decide_eq_false_iff_not]
        apply Classical.byContradiction; intro q; exact good ⟨⟨e, e1⟩, by omega, by omega⟩
      rw [e2] at g2 h1
      simp only [Bool.and_false, Bool.false_eq_true, if_false, if_true] at h1
      have hps : stepsR p c n a b = .tup [.uniq 3 0 [], .int .i64 2] := by unfold stepsR; rw [e, e1, e2]; rfl
      rw [hps]
      simp [go_sem, -map_replicate, -map_set, -map_append, -map_reverse, -map_take, -map_drop, -map_tail, -any_map, -all_map, -mapM_map, -map_map, slL, szI, ldI, zI, undL, apL, setI, rdI_get, Nat.add_one_le_iff, fillV, zeros1, zeros0, appendD, segV, lvO, goneOf, sliceD, bound, Nat.add_assoc, szL, ldL, setCs0, setCs1, setCs2, setCsA2, setCsA3, ldM, fM0, fM1, szM, zM, plM0, plM1, agM, paM, ldJ, fJ0, fJ1, fJ2, szJ, zJ, plJ0, plJ1, plJ2, agJ, paJ, slT3, apT3, und3, zeros3J, g2, g3, g4, g5, h1, fillV]
      repeat refine ⟨by kernel_rfl, by kernel_rfl, ?_⟩
      simp [mvcgen_simp, -map_replicate, -map_set, -map_append, -map_reverse, -map_take, -map_drop, -map_tail, -any_map, -all_map, -mapM_map, -map_map, Try.f32, ct3]
end Go.Proofs.Ytabnganndcmcnaa.Ev

set_option linter.unusedSimpArgs false
set_option linter.unusedVariables false
namespace Go.Proofs.Ytabnganndcmcnaa.Ev
open Go Go.Proofs
open List (map_replicate map_set map_append map_reverse map_take map_drop map_tail any_map all_map mapM_map map_map)
set_option maxRecDepth 4000
set_option maxHeartbeats 4000000

theorem fm3_len {α : Type} (f : α → List V) (hf : ∀ x, (f x).length = 3) : ∀ l : List α, (l.flatMap f).length = 3 * l.length
  | [] => rfl
  | x :: l => by rw [List.flatMap_cons, List.length_append, hf, fm3_len f hf l, List.length_cons]; omega
theorem fm3_drop {α : Type} (f : α → List V) (hf : ∀ x, (f x).length = 3) : ∀ (l : List α) (i : Nat) (h : i < l.length), (l.flatMap f).drop (i * 3) = f l[i] ++ (l.drop (i + 1)).flatMap f
  | x :: l, 0, _ => by simp
  | x :: l, i + 1, h => by
    have := fm3_drop f hf l i (by simpa using h)
    rw [List.flatMap_cons, show (i + 1) * 3 = 3 + i * 3 by omega, ← List.drop_drop, List.drop_left' (hf x), this]
    simp
theorem fm3_get {α : Type} (f : α → List V) (hf : ∀ x, (f x).length = 3) (l : List α) (i r : Nat) (h : i < l.length) (hr : r < 3) : (l.flatMap f)[i * 3 + r]? = (f l[i])[r]? := by
  have := fm3_drop f hf l i h
  rw [← List.getElem?_drop, this, List.getElem?_append_left (by rw [hf]; exact hr)]
/-- Data with their primes, as lists that are only read. -/
def lv3 (x : Int × List Int × List Int) : List V := [.int .i64 x.1, LV x.2.1, LV x.2.2]
def uv3 (x : Int × List Int × List Int) : List V := [.int .i64 x.1, UV x.2.1, UV x.2.2]
def trL (l : List (Int × List Int × List Int)) : List V := l.flatMap lv3
def trU (l : List (Int × List Int × List Int)) : List V := l.flatMap uv3
theorem trU_tri (p : Int) (l : List (List Int × List Int)) : tri p l = trU (l.map fun x => (p, x)) := by
  unfold tri trU; rw [List.flatMap_map]; rfl
theorem trL_len (l : List (Int × List Int × List Int)) : (trL l).length = 3 * l.length := fm3_len lv3 (fun _ => rfl) l
theorem trU_len (l : List (Int × List Int × List Int)) : (trU l).length = 3 * l.length := fm3_len uv3 (fun _ => rfl) l
theorem trU_mem {l : List (Int × List Int × List Int)} {v : V} (h : v ∈ trU l) : (∃ p, v = .int .i64 p) ∨ ∃ f, v = UV f := by
  obtain ⟨x, _, hx⟩ := List.mem_flatMap.1 h
  simp only [uv3, List.mem_cons, List.not_mem_nil, or_false] at hx
  rcases hx with rfl | rfl | rfl
  · exact .inl ⟨_, rfl⟩
  · exact .inr ⟨_, rfl⟩
  · exact .inr ⟨_, rfl⟩
theorem purN_LV {H : Nat → Option Ob} {d : Nat} (f : List Int) : purN H d (LV f) = some (LV f) := by cases d <;> rfl
theorem purN_UV' {H : Nat → Option Ob} {d : Nat} (f : List Int) : purN H (d + 1) (UV f) = some (LV f) := by
  simp only [UV, purN, mapM_purN_int]; rfl
section
variable {H : Nat → Option Ob} {d : Nat}
theorem mapM_purN_trU : ∀ l : List (Int × List Int × List Int), (trU l).mapM (purN H (d + 1)) = some (trL l)
  | [] => rfl
  | x :: l => by
    have ih := mapM_purN_trU l
    unfold trU trL at ih ⊢
    rw [List.flatMap_cons, List.flatMap_cons]
    simp only [uv3, lv3, List.cons_append, List.nil_append, List.mapM_cons, purN_UV', ih]
    rfl
theorem flatMap_idsN_trU (l : List (Int × List Int × List Int)) : (trU l).flatMap (idsN H (d + 1)) = [] := by
  rw [List.flatMap_eq_nil_iff]; intro v hv
  rcases trU_mem hv with ⟨p, rfl⟩ | ⟨f, rfl⟩
  · rfl
  · simp only [UV, idsN, flatMap_idsN_int]
theorem mapM_expN_trU (l : List (Int × List Int × List Int)) : (trU l).mapM (expN H (d + 1)) = some (trU l) := mapM_same _ fun v hv => by
  rcases trU_mem hv with ⟨p, rfl⟩ | ⟨f, rfl⟩
  · rfl
  · have := treeN_UV (d := d) f
    unfold UV at this ⊢
    simp only [expN, this, Bool.true_or, if_true]
theorem flatMap_eidN_trU (l : List (Int × List Int × List Int)) : (trU l).flatMap (eidN H (d + 1)) = [] := by
  rw [List.flatMap_eq_nil_iff]; intro v hv
  rcases trU_mem hv with ⟨p, rfl⟩ | ⟨f, rfl⟩ <;> rfl
theorem all_treeN_trU (l : List (Int × List Int × List Int)) : (trU l).all (treeN (d + 1)) = true := by
  rw [List.all_eq_true]; intro v hv
  rcases trU_mem hv with ⟨p, rfl⟩ | ⟨f, rfl⟩
  · rfl
  · exact treeN_UV f
end
/-- The i-th data. -/
def at3 (l : List (Int × List Int × List Int)) (i : Nat) : Int × List Int × List Int := l.getD i (0, [], [])
theorem at3_eq {l : List (Int × List Int × List Int)} {i : Nat} (h : i < l.length) : l[i] = at3 l i := by simp [at3, h]
theorem trL_row (l : List (Int × List Int × List Int)) (i : Nat) (h : i < l.length) : (trL l).drop (i * 3) = [.int .i64 (at3 l i).1, LV (at3 l i).2.1, LV (at3 l i).2.2] ++ trL (l.drop (i + 1)) := by
  unfold trL; rw [fm3_drop lv3 (fun _ => rfl) l i h, at3_eq h]; rfl
theorem trL_at (l : List (Int × List Int × List Int)) (i r : Nat) (h : i < l.length) (hr : r < 3) : (trL l)[i * 3 + r]? = [V.int .i64 (at3 l i).1, LV (at3 l i).2.1, LV (at3 l i).2.2][r]? := by
  unfold trL; rw [fm3_get lv3 (fun _ => rfl) l i r h hr, at3_eq h]; rfl
theorem at3_bound {l : List (Int × List Int × List Int)} {M : Nat} (h : ∀ x, x ∈ l → x.2.1.length ≤ M ∧ x.2.2.length ≤ M) (i : Nat) : (at3 l i).2.1.length ≤ M ∧ (at3 l i).2.2.length ≤ M := by
  by_cases hi : i < l.length
  · rw [← at3_eq hi]; exact h _ (List.getElem_mem hi)
  · simp [at3, hi]
/-- What a marking of all data leaves: where the i-th begins. -/
def mkT (k : Int) (l : List (Int × List Int × List Int)) : Nat → Int
  | 0 => k
  | i + 1 => mkT k l i + 1 + (at3 l i).2.1.length + (at3 l i).2.2.length
def mTri (k : Int) (l : List (Int × List Int × List Int)) (i : Nat) : Int × List Int × List Int := (mkT k l i, marks (mkT k l i + 1) (at3 l i).2.1.length, marks (mkT k l i + 1 + (at3 l i).2.1.length) (at3 l i).2.2.length)
def mtri (k : Int) (l : List (Int × List Int × List Int)) (n : Nat) : List (Int × List Int × List Int) := (List.range n).map (mTri k l)
theorem mtri_len (k : Int) (l : List (Int × List Int × List Int)) (n : Nat) : (mtri k l n).length = n := by simp [mtri]
theorem mtri_at (k : Int) (l : List (Int × List Int × List Int)) {n i : Nat} (h : i < n) : at3 (mtri k l n) i = mTri k l i := by simp [mtri, at3, h]
theorem mkT_ge (k : Int) (l : List (Int × List Int × List Int)) : ∀ i, k ≤ mkT k l i
  | 0 => Int.le_refl _
  | i + 1 => by have := mkT_ge k l i; rw [mkT]; omega
theorem mkT_le (k : Int) (l : List (Int × List Int × List Int)) (M : Nat) (hM : ∀ x, x ∈ l → x.2.1.length ≤ M ∧ x.2.2.length ≤ M) : ∀ i, mkT k l i ≤ k + (2 * M + 1 : Nat) * i
  | 0 => by rw [mkT]; omega
  | i + 1 => by
    have := mkT_le k l M hM i
    obtain ⟨b1, b2⟩ := at3_bound hM i
    rw [mkT]
    have e : ((2 * M + 1 : Nat) : Int) * ((i + 1 : Nat) : Int) = (2 * M + 1 : Nat) * i + (2 * M + 1 : Nat) := by rw [Int.natCast_add i 1, Int.mul_add]; omega
    rw [e]; omega
end Go.Proofs.Ytabnganndcmcnaa.Ev

set_option linter.unusedSimpArgs false
set_option linter.unusedVariables false
namespace Go.Proofs.Ytabnganndcmcnaa.Ev
open Go Go.Proofs
open List (map_replicate map_set map_append map_reverse map_take map_drop map_tail any_map all_map mapM_map map_map)
set_option maxRecDepth 4000
set_option maxHeartbeats 4000000

/-- The cells of the first data, which have been marked. -/
def aT (k : Int) (l : List (Int × List Int × List Int)) (ids : Nat → Nat) (i : Nat) : List V := (List.range i).flatMap fun j => [.int .i64 (mkT k l j), .sl (ids (2 * j)) 0 0 (at3 l j).2.1.length, .sl (ids (2 * j + 1)) 0 0 (at3 l j).2.2.length]
theorem aT_len (k : Int) (l : List (Int × List Int × List Int)) (ids : Nat → Nat) (i : Nat) : (aT k l ids i).length = i * 3 := by
  unfold aT; rw [fm3_len _ (fun _ => rfl)]; simp; omega
theorem aT_cg (k : Int) (l : List (Int × List Int × List Int)) {ids ids' : Nat → Nat} (i : Nat) (h : ∀ j, j < 2 * i → ids j = ids' j) : aT k l ids i = aT k l ids' i := by
  unfold aT
  refine congrArg List.flatten (List.map_congr_left fun j hj => ?_)
  have := List.mem_range.1 hj
  rw [h (2 * j) (by omega), h (2 * j + 1) (by omega)]
/-- All cells, those of the i-th data apart. -/
def cX (k : Int) (l : List (Int × List Int × List Int)) (ids : Nat → Nat) (i : Nat) (x y z : V) : List V := aT k l ids i ++ [x, y, z] ++ trU (l.drop (i + 1))
def cTr (k : Int) (l : List (Int × List Int × List Int)) (ids : Nat → Nat) (i : Nat) : List V := aT k l ids i ++ trU (l.drop i)
theorem cX_len (k : Int) (l : List (Int × List Int × List Int)) (ids : Nat → Nat) {i : Nat} (x y z : V) (h : i < l.length) : (cX k l ids i x y z).length = 3 * l.length := by
  unfold cX; rw [List.length_append, List.length_append, aT_len, trU_len, List.length_drop]; simp; omega
theorem cT_cX (k : Int) (l : List (Int × List Int × List Int)) (ids : Nat → Nat) {i : Nat} (h : i < l.length) : cTr k l ids i = cX k l ids i (.int .i64 (at3 l i).1) (UV (at3 l i).2.1) (UV (at3 l i).2.2) := by
  unfold cTr cX
  rw [List.drop_eq_getElem_cons h, at3_eq h]
  unfold trU
  rw [List.flatMap_cons, List.append_assoc]; rfl
theorem cX_next (k : Int) (l : List (Int × List Int × List Int)) (ids : Nat → Nat) (i b c : Nat) :
    cX k l ids i (.int .i64 (mkT k l i)) (.sl b 0 0 (at3 l i).2.1.length) (.sl c 0 0 (at3 l i).2.2.length) = cTr k l (upd (upd ids (2 * i) b) (2 * i + 1) c) (i + 1) := by
  unfold cX cTr
  congr 1
  rw [show aT k l (upd (upd ids (2 * i) b) (2 * i + 1) c) (i + 1) = aT k l (upd (upd ids (2 * i) b) (2 * i + 1) c) i ++ [.int .i64 (mkT k l i), .sl b 0 0 (at3 l i).2.1.length, .sl c 0 0 (at3 l i).2.2.length] from ?_]
  · congr 1
    exact aT_cg k l i fun j hj => by simp [upd, show ¬ j = 2 * i by omega, show ¬ j = 2 * i + 1 by omega]
  · unfold aT
    rw [List.range_succ, List.flatMap_append]
    simp [upd]
section
variable (k : Int) (l : List (Int × List Int × List Int)) (ids : Nat → Nat) (i : Nat) (x y z u : V)
theorem cX_set0 : setCs (cX k l ids i x y z) (i * 3) [u] = cX k l ids i u y z := by
  have h := aT_len k l ids i
  unfold setCs cX
  generalize aT k l ids i = A at *
  generalize trU (l.drop (i + 1)) = R
  have e1 : A ++ [x, y, z] ++ R = (A) ++ x :: ([y, z] ++ R) := by simp
  have e2 : A ++ [u, y, z] ++ R = (A) ++ u :: ([y, z] ++ R) := by simp
  have h' : (A).length = i * 3 := by simp [h]
  rw [e1, e2, ← h', List.take_left, show (A).length + [u].length = ((A) ++ [x]).length by simp, show (A) ++ x :: ([y, z] ++ R) = ((A) ++ [x]) ++ ([y, z] ++ R) by simp, List.drop_left]
  simp
theorem cX_set1 : setCs (cX k l ids i x y z) (i * 3 + 1) [u] = cX k l ids i x u z := by
  have h := aT_len k l ids i
  unfold setCs cX
  generalize aT k l ids i = A at *
  generalize trU (l.drop (i + 1)) = R
  have e1 : A ++ [x, y, z] ++ R = (A ++ [x]) ++ y :: ([z] ++ R) := by simp
  have e2 : A ++ [x, u, z] ++ R = (A ++ [x]) ++ u :: ([z] ++ R) := by simp
  have h' : (A ++ [x]).length = i * 3 + 1 := by simp [h]
  rw [e1, e2, ← h', List.take_left, show (A ++ [x]).length + [u].length = ((A ++ [x]) ++ [y]).length by simp, show (A ++ [x]) ++ y :: ([z] ++ R) = ((A ++ [x]) ++ [y]) ++ ([z] ++ R) by simp, List.drop_left]
  simp
theorem cX_set2 : setCs (cX k l ids i x y z) (i * 3 + 2) [u] = cX k l ids i x y u := by
  have h := aT_len k l ids i
  unfold setCs cX
  generalize aT k l ids i = A at *
  generalize trU (l.drop (i + 1)) = R
  have e1 : A ++ [x, y, z] ++ R = (A ++ [x, y]) ++ z :: ( R) := by simp
  have e2 : A ++ [x, y, u] ++ R = (A ++ [x, y]) ++ u :: ( R) := by simp
  have h' : (A ++ [x, y]).length = i * 3 + 2 := by simp [h]
  rw [e1, e2, ← h', List.take_left, show (A ++ [x, y]).length + [u].length = ((A ++ [x, y]) ++ [z]).length by simp, show (A ++ [x, y]) ++ z :: ( R) = ((A ++ [x, y]) ++ [z]) ++ ( R) by simp, List.drop_left]
  simp
theorem cX_at1 : (cX k l ids i x y z)[i * 3 + 1]? = some y := by
  have h := aT_len k l ids i
  unfold cX
  generalize aT k l ids i = A at *
  rw [← h]
  simp [List.getElem?_append]
theorem cX_at2 : (cX k l ids i x y z)[i * 3 + 2]? = some z := by
  have h := aT_len k l ids i
  unfold cX
  generalize aT k l ids i = A at *
  rw [← h]
  simp [List.getElem?_append]
end
theorem cT_exp {H : Nat → Option Ob} (k : Int) (l : List (Int × List Int × List Int)) (ids : Nat → Nat)
    (h : ∀ j, j < l.length → H (ids (2 * j)) = some (row (marks (mkT k l j + 1) (at3 l j).2.1.length)) ∧ H (ids (2 * j + 1)) = some (row (marks (mkT k l j + 1 + (at3 l j).2.1.length) (at3 l j).2.2.length))) :
    ∀ n, n ≤ l.length → (aT k l ids n).mapM (expN H 5) = some (trU (mtri k l n)) ∧ (aT k l ids n).flatMap (eidN H 5) = (List.range (2 * n)).map ids := by
  have e1 : ∀ (b : Nat) (m : Int) (n : Nat), H b = some (row (marks m n)) → expN H 5 (V.sl b 0 0 n) = some (UV (marks m n)) ∧ eidN H 5 (V.sl b 0 0 n) = [b] := fun b m n hb => by
    have ml := marks_len m n
    have t : ((marks m n).map (V.int .i64)).take (n * 1) = (marks m n).map (V.int .i64) := take_map_full (by rw [ml]; omega)
    constructor
    · simp only [expN, getO, hb, row, if_true, t, mapM_expN_int, Option.map_some, UV, ml]
      simp [ml]
    · simp only [eidN, getO, hb, row, if_true, t, flatMap_eidN_int]
  intro n
  induction n with
  | zero => intro _; exact ⟨rfl, rfl⟩
  | succ n ih =>
    intro hn
    obtain ⟨i1, i2⟩ := ih (by omega)
    obtain ⟨h1, h2⟩ := h n (by omega)
    obtain ⟨p1, p2⟩ := e1 _ _ _ h1
    obtain ⟨q1, q2⟩ := e1 _ _ _ h2
    have eA : aT k l ids (n + 1) = aT k l ids n ++ [.int .i64 (mkT k l n), .sl (ids (2 * n)) 0 0 (at3 l n).2.1.length, .sl (ids (2 * n + 1)) 0 0 (at3 l n).2.2.length] := by
      unfold aT; rw [List.range_succ, List.flatMap_append]; simp
    have eM : trU (mtri k l (n + 1)) = trU (mtri k l n) ++ uv3 (mTri k l n) := by
      unfold mtri trU; rw [List.range_succ, List.map_append, List.flatMap_append]; simp
    have e0 : expN H 5 (.int .i64 (mkT k l n)) = some (.int .i64 (mkT k l n)) := rfl
    rw [eA, eM]
    constructor
    · rw [List.mapM_append, i1]
      simp only [List.mapM_cons, List.mapM_nil, e0, p1, q1]
      rfl
    · rw [List.flatMap_append, i2, show 2 * (n + 1) = 2 * n + 1 + 1 by omega, List.range_succ, List.range_succ, List.map_append, List.map_append, List.append_assoc]
      congr 1
      simp only [List.flatMap_cons, List.flatMap_nil, p2, q2]
      rfl
end Go.Proofs.Ytabnganndcmcnaa.Ev

set_option linter.unusedSimpArgs false
set_option linter.unusedVariables false
namespace Go.Proofs.Ytabnganndcmcnaa.Ev
open Go Go.Proofs
open List (map_replicate map_set map_append map_reverse map_take map_drop map_tail any_map all_map mapM_map map_map)
set_option maxRecDepth 4000
set_option maxHeartbeats 4000000

def stepsL (p c n : Int) (a b : List Int) : List (Int × List Int × List Int) × Int :=
  if jacB p a b then (if hasB p c && (decide (0 ≤ n) && decide (n ≤ 12)) then (if stepsOk p c a b n.toNat then ((itL p c a b (n.toNat + 1)).map fun x => (p, x), 0) else ([], 5)) else ([], 2)) else ([], 1)
theorem stepsR_eq (p c n : Int) (a b : List Int) : stepsR p c n a b = .tup [.uniq 3 (stepsL p c n a b).1.length (trU (stepsL p c n a b).1), .int .i64 (stepsL p c n a b).2] := by
  unfold stepsR stepsL
  split
  · split
    · unfold stepsV
      split
      · rw [show (List.range (n.toNat + 1)).map (itJ p c a b) = itL p c a b (n.toNat + 1) from rfl, trU_tri]; simp [itL_len]
      · rfl
    · rfl
  · rfl
theorem itJ_len (p c : Int) (a b : List Int) (h : jacB p a b = true) : ∀ k, (itJ p c a b k).1.length ≤ 12 ∧ (itJ p c a b k).2.length ≤ 12
  | 0 => by have := jacB_len h; simp only [itJ]; omega
  | k + 1 => by
    have := itJ_len p c a b h k
    simp only [itJ, tab_len]; omega
theorem stepsL_len (p c n : Int) (a b : List Int) : (stepsL p c n a b).1.length ≤ 13 ∧ ∀ x, x ∈ (stepsL p c n a b).1 → x.2.1.length ≤ 12 ∧ x.2.2.length ≤ 12 := by
  unfold stepsL
  split
  · rename_i hj
    split
    · rename_i hc
      split
      · simp at hc
        refine ⟨by simp [itL_len]; omega, fun x hx => ?_⟩
        simp only [itL, List.map_map, List.mem_map] at hx
        obtain ⟨i, _, rfl⟩ := hx
        exact itJ_len p c a b hj i
      · simp
    · simp
  · simp
end Go.Proofs.Ytabnganndcmcnaa.Ev
