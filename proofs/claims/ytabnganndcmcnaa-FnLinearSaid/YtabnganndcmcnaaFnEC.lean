/- ValueBy: both texts and the law. Conditions: none. -/
import Derived.Test.YtabnganndcmcnaaFnEB
import Derived.Test.YtabnganndcmcnaaFnBG
set_option linter.unusedSimpArgs false
set_option linter.unusedVariables false
namespace Go.Proofs.Ytabnganndcmcnaa.Ev
open Go Go.Proofs
open List (map_replicate map_set map_append map_reverse map_take map_drop map_tail any_map all_map mapM_map map_map)
set_option maxRecDepth 4000
set_option maxHeartbeats 4000000

theorem run_l01At (p x : Int) (f : List Int) (hp : 2 ≤ p ∧ p ≤ 10007) (hx : 0 ≤ x ∧ x < p) (hf : ∀ i, 0 ≤ rdI f i ∧ rdI f i < p) (hl : f.length ≤ 1048576) :
    runv E1 193 [(V.int .i64 (p)), (V.list (List.length (f)) (List.map (V.int .i64) (f))), (V.int .i64 (x))] = some ⟨true, .int .i64 (hor p x f f.length), [.undef, .undef, .undef]⟩ := by
  have w0 : IntKind.i64.wrap ((f.length : Int) - 1) = f.length - 1 := IntWalk.i64_in _ (by omega)
  have p0 : ¬ p = 0 := by omega
  have cdk : codeOk Try.f193.ntmps (Try.f193.body.getD .skip) = true := by kernel_rfl
  refine run_of_WLr (fn := Try.f193) rfl Try.func193 rfl ⟨by simp [Try.ntmps193], by simp [wideA, ints], cdk, by simp [Try.f193]⟩ rfl (by simp [rebOk, noId, adoptT, adoptA, adoptL, adoptC, depth]) ?_
  simp [go_sem, -map_replicate, -map_set, -map_append, -map_reverse, -map_take, -map_drop, -map_tail, -any_map, -all_map, -mapM_map, -map_map, slL, szI, ldI, zI, undL, apL, setI, rdI_get, Nat.add_one_le_iff, fillV, zeros1, zeros0, appendD, segV, lvO, goneOf, sliceD, bound, Nat.add_assoc, szL, ldL, setCs0, setCs1, setCs2, setCsA2, setCsA3, ldM, fM0, fM1, szM, zM, plM0, plM1, agM, paM, ldJ, fJ0, fJ1, fJ2, szJ, zJ, plJ0, plJ1, plJ2, agJ, paJ, w0]
  rw [WL_loop]
  refine WL_for (keep := [0, 1, 2, 7, 8]) (rs := resM Try.f193) rfl (by kernel_rfl) (fun k => mkSt [(0, .int .i64 p), (1, (V.list (List.length (f)) (List.map (V.int .i64) (f)))), (2, .int .i64 x), (7, .int .i64 (hor p x f k)), (8, .int .i64 ((f.length : Int) - 1 - (k : Int)))] [] (resM Try.f193)) f.length ?_ ?_ 0 _ (by omega) rfl ?_
  · intro k hk next
    obtain ⟨m, hm⟩ : ∃ m : Nat, f.length - 1 - k = m := ⟨_, rfl⟩
    have hm2 : (f.length : Int) - 1 - (k : Int) = m := by omega
    have hm3 : (f.length : Int) - 1 - ((k + 1 : Nat) : Int) = (m : Int) - 1 := by omega
    have e1 : hor p x f (k + 1) = (hor p x f k * x + rdI f m) % p := by rw [hor, hm]
    rw [hm2]
    rw [hm3, e1] at next
    have r := hor_range hp x f k
    have r2 := hf m
    have pm := mul_small (p := 10007) (by omega) (show 0 ≤ hor p x f k ∧ hor p x f k < 10007 by omega) (show 0 ≤ x ∧ x < 10007 by omega)
    have w1 : IntKind.i64.wrap (hor p x f k * x) = hor p x f k * x := IntWalk.i64_in _ (by omega)
    have w2 : IntKind.i64.wrap (hor p x f k * x + rdI f m) = hor p x f k * x + rdI f m := IntWalk.i64_in _ (by omega)
    have w3 : IntKind.i64.wrap ((m : Int) - 1) = (m : Int) - 1 := IntWalk.i64_in _ (by omega)
    have tm : (hor p x f k * x + rdI f m).tmod p = (hor p x f k * x + rdI f m) % p := Int.tmod_eq_emod_of_nonneg (by omega)
    have m1 : m < f.length := by omega
    have m2 : (m : Int) < f.length := by omega
    have m3 : (0 : Int) ≤ (m : Int) := by omega
    generalize hor p x f k = h at *
    simp [go_sem, -map_replicate, -map_set, -map_append, -map_reverse, -map_take, -map_drop, -map_tail, -any_map, -all_map, -mapM_map, -map_map, slL, szI, ldI, zI, undL, apL, setI, rdI_get, Nat.add_one_le_iff, fillV, zeros1, zeros0, appendD, segV, lvO, goneOf, sliceD, bound, Nat.add_assoc, szL, ldL, setCs0, setCs1, setCs2, setCsA2, setCsA3, ldM, fM0, fM1, szM, zM, plM0, plM1, agM, paM, ldJ, fJ0, fJ1, fJ2, szJ, zJ, plJ0, plJ1, plJ2, agJ, paJ, w1, w2, w3, tm, m1, m2, m3, p0]
    repeat refine ⟨by kernel_rfl, by kernel_rfl, ?_⟩
    refine next _ rfl ?_
    (refine canon_mk ?_; simp [method_specs_simp, ordIds_app, ordRen_app, ordIds_app2, ordRen_app2, -map_replicate, -map_set, -map_append, -map_reverse, -map_take, -map_drop, -map_tail, -map_map])
  · rw [show (f.length : Int) - 1 - (f.length : Int) = -1 by omega]
    simp [go_sem, -map_replicate, -map_set, -map_append, -map_reverse, -map_take, -map_drop, -map_tail, -any_map, -all_map, -mapM_map, -map_map, slL, szI, ldI, zI, undL, apL, setI, rdI_get, Nat.add_one_le_iff, fillV, zeros1, zeros0, appendD, segV, lvO, goneOf, sliceD, bound, Nat.add_assoc, szL, ldL, setCs0, setCs1, setCs2, setCsA2, setCsA3, ldM, fM0, fM1, szM, zM, plM0, plM1, agM, paM, ldJ, fJ0, fJ1, fJ2, szJ, zJ, plJ0, plJ1, plJ2, agJ, paJ]
    simp [mvcgen_simp, -map_replicate, -map_set, -map_append, -map_reverse, -map_take, -map_drop, -map_tail, -any_map, -all_map, -mapM_map, -map_map, Try.f193]
  · (refine canon_mk ?_; simp [method_specs_simp, ordIds_app, ordRen_app, ordIds_app2, ordRen_app2, -map_replicate, -map_set, -map_append, -map_reverse, -map_take, -map_drop, -map_tail, -map_map, hor])
def valBR (p : Int) (a b cs : List Int) (x : Int) : Int × Int :=
  if jacB p a b then (if listB p a cs then (if hasB p x then (hor p x (sumP p a b cs cs.length) (sumP p a b cs cs.length).length, 0) else (0, 2)) else (0, 2)) else (0, 1)
theorem hasB_rgV {p x : Int} (h : hasB p x = true) : 0 ≤ x ∧ x < p := by
  have h : (decide (0 ≤ x) && decide (x < p)) = true := h
  simpa only [Bool.and_eq_true, decide_eq_true_eq] using h
theorem sumP_rd {p : Int} (hp : 2 ≤ p ∧ p ≤ 10007) (a b cs : List Int) (k i : Nat) : 0 ≤ rdI (sumP p a b cs k) i ∧ rdI (sumP p a b cs k) i < p := sumP_fine hp a b cs k i
theorem run_specValueBy (p : Int) (a b cs : List Int) (x : Int) (ha : a.length ≤ 1048576) (hb : b.length ≤ 1048576) (hc : cs.length ≤ 1048576) :
    runv E1 78 [(V.agg [V.int .i64 (p), (V.list (List.length (a)) (List.map (V.int .i64) (a))), (V.list (List.length (b)) (List.map (V.int .i64) (b)))]), (V.list (List.length (cs)) (List.map (V.int .i64) (cs))), (V.int .i64 (x))] = some ⟨true, .tup [.int .i64 (valBR p a b cs x).1, .int .i64 (valBR p a b cs x).2], [.agg [.undef, .undef, .undef], .undef, .undef]⟩ := by
  have cdk : codeOk Try.f78.ntmps (Try.f78.body.getD .skip) = true := by kernel_rfl
  refine run_of_WLr (fn := Try.f78) rfl Try.func78 rfl ⟨by simp [Try.ntmps78], by simp [wideA, ints], cdk, by simp [Try.f78]⟩ rfl (by simp [rebOk, noId, adoptT, adoptA, adoptL, adoptC, depth]) ?_
  have h1 := up (run_l10List p a b cs 1 ha hb hc (by omega))
  rw [show (decide ((cs.length : Int) ≤ (a.length : Int) + 1) && cs.all (hasB p)) = listB p a cs from rfl] at h1
  cases e : jacB p a b with
  | false =>
    rw [e] at h1
    simp [go_sem, -map_replicate, -map_set, -map_append, -map_reverse, -map_take, -map_drop, -map_tail, -any_map, -all_map, -mapM_map, -map_map, slL, szI, ldI, zI, undL, apL, setI, rdI_get, Nat.add_one_le_iff, fillV, zeros1, zeros0, appendD, segV, lvO, goneOf, sliceD, bound, Nat.add_assoc, szL, ldL, setCs0, setCs1, setCs2, setCsA2, setCsA3, ldM, fM0, fM1, szM, zM, plM0, plM1, agM, paM, ldJ, fJ0, fJ1, fJ2, szJ, zJ, plJ0, plJ1, plJ2, agJ, paJ, h1]
    simp [mvcgen_simp, -map_replicate, -map_set, -map_append, -map_reverse, -map_take, -map_drop, -map_tail, -any_map, -all_map, -mapM_map, -map_map, Try.f78, valBR, e]
  | true =>
    rw [e] at h1
    cases e1 : listB p a cs with
    | false =>
      rw [e1] at h1
      simp [go_sem, -map_replicate, -map_set, -map_append, -map_reverse, -map_take, -map_drop, -map_tail, -any_map, -all_map, -mapM_map, -map_map, slL, szI, ldI, zI, undL, apL, setI, rdI_get, Nat.add_one_le_iff, fillV, zeros1, zeros0, appendD, segV, lvO, goneOf, sliceD, bound, Nat.add_assoc, szL, ldL, setCs0, setCs1, setCs2, setCsA2, setCsA3, ldM, fM0, fM1, szM, zM, plM0, plM1, agM, paM, ldJ, fJ0, fJ1, fJ2, szJ, zJ, plJ0, plJ1, plJ2, agJ, paJ, h1]
      simp [mvcgen_simp, -map_replicate, -map_set, -map_append, -map_reverse, -map_take, -map_drop, -map_tail, -any_map, -all_map, -mapM_map, -map_map, Try.f78, valBR, e, e1]
    | true =>
      rw [e1] at h1
      have hp := jacB_prime e
      have hl := jacB_len e
      have e1' := e1
      simp only [listB, Bool.and_eq_true, decide_eq_true_eq] at e1'
      have w1 : IntKind.i64.wrap (p - 1) = p - 1 := IntWalk.i64_in _ (by omega)
      have h3 := up (run_l01In' x 0 (p - 1))
      rw [show (decide (0 ≤ x) && decide (x ≤ p - 1)) = hasB p x by unfold hasB; congr 1; rw [decide_eq_decide]; omega] at h3
      cases e2 : hasB p x with
      | false =>
        rw [e2] at h3
        simp [go_sem, -map_replicate, -map_set, -map_append, -map_reverse, -map_take, -map_drop, -map_tail, -any_map, -all_map, -mapM_map, -map_map, slL, szI, ldI, zI, undL, apL, setI, rdI_get, Nat.add_one_le_iff, fillV, zeros1, zeros0, appendD, segV, lvO, goneOf, sliceD, bound, Nat.add_assoc, szL, ldL, setCs0, setCs1, setCs2, setCsA2, setCsA3, ldM, fM0, fM1, szM, zM, plM0, plM1, agM, paM, ldJ, fJ0, fJ1, fJ2, szJ, zJ, plJ0, plJ1, plJ2, agJ, paJ, h1, w1, h3]
        simp [mvcgen_simp, -map_replicate, -map_set, -map_append, -map_reverse, -map_take, -map_drop, -map_tail, -any_map, -all_map, -mapM_map, -map_map, Try.f78, valBR, e, e1, e2]
      | true =>
        rw [e2] at h3
        have h2 := run_l10Sum p a b cs e (by omega) e1'.2
        have le := sumP_le p a b cs cs.length
        have h4 := run_l01At p x (sumP p a b cs cs.length) hp (hasB_rgV e2) (sumP_rd hp a b cs cs.length) (by omega)
        simp [go_sem, -map_replicate, -map_set, -map_append, -map_reverse, -map_take, -map_drop, -map_tail, -any_map, -all_map, -mapM_map, -map_map, slL, szI, ldI, zI, undL, apL, setI, rdI_get, Nat.add_one_le_iff, fillV, zeros1, zeros0, appendD, segV, lvO, goneOf, sliceD, bound, Nat.add_assoc, szL, ldL, setCs0, setCs1, setCs2, setCsA2, setCsA3, ldM, fM0, fM1, szM, zM, plM0, plM1, agM, paM, ldJ, fJ0, fJ1, fJ2, szJ, zJ, plJ0, plJ1, plJ2, agJ, paJ, h1, w1, h2, h3, h4]
        repeat refine ⟨by kernel_rfl, by kernel_rfl, ?_⟩
        simp [mvcgen_simp, -map_replicate, -map_set, -map_append, -map_reverse, -map_take, -map_drop, -map_tail, -any_map, -all_map, -mapM_map, -map_map, Try.f78, valBR, e, e1, e2]
theorem run_implValueBy (p : Int) (a b cs : List Int) (x : Int) (ha : a.length ≤ 1048576) (hb : b.length ≤ 1048576) (hc : cs.length ≤ 1048576) :
    runv E4 77 [(V.agg [V.int .i64 (p), (V.list (List.length (a)) (List.map (V.int .i64) (a))), (V.list (List.length (b)) (List.map (V.int .i64) (b)))]), (V.list (List.length (cs)) (List.map (V.int .i64) (cs))), (V.int .i64 (x))] = some ⟨true, .tup [.int .i64 (valBR p a b cs x).1, .int .i64 (valBR p a b cs x).2], [.agg [.undef, .undef, .undef], .undef, .undef]⟩ := by
  have cdk : codeOk Try.f77.ntmps (Try.f77.body.getD .skip) = true := by kernel_rfl
  refine run_of_WLr (E := E4) (fn := Try.f77) rfl Try.func77 rfl ⟨by simp [Try.ntmps77], by simp [wideA, ints], cdk, by simp [Try.f77]⟩ rfl (by simp [rebOk, noId, adoptT, adoptA, adoptL, adoptC, depth]) ?_
  have w1 : IntKind.i64.wrap ((a.length : Int) + 1) = (a.length : Int) + 1 := IntWalk.i64_in _ (by omega)
  have g2 := up4 (up (run_JisList p ((a.length : Int) + 1) a b cs hc))
  rw [show (primeB p && (decide (0 ≤ (cs.length : Int)) && decide ((cs.length : Int) ≤ (a.length : Int) + 1)) && cs.all (hasB p)) = (primeB p && listB p a cs) by simp [listB, Bool.and_assoc]] at g2
  have g3 := up4 (up (run_Jfield p a b))
  have g4 := up4 (up (run_Jsize p a b))
  have g5 := up4 (up (run_has p x))
  have h0 := up4 (up (run_jacobiCode p a b false (by omega) (by omega)))
  have h1 := up4 (up (run_jacobiCode p a b true (by omega) (by omega)))
  cases e : jacB p a b with
  | false =>
    rw [e] at h1 h0
    simp only [Bool.false_eq_true, if_false] at h1 h0
    cases e1 : (primeB p && listB p a cs) <;> cases e2 : hasB p x <;> rw [e1] at g2 <;> rw [e2] at g5 <;> simp [go_sem, -map_replicate, -map_set, -map_append, -map_reverse, -map_take, -map_drop, -map_tail, -any_map, -all_map, -mapM_map, -map_map, slL, szI, ldI, zI, undL, apL, setI, rdI_get, Nat.add_one_le_iff, fillV, zeros1, zeros0, appendD, segV, lvO, goneOf, sliceD, bound, Nat.add_assoc, E4_P, E4_m, E4_s, szL, ldL, setCs0, setCs1, setCs2, setCsA2, setCsA3, ldM, fM0, fM1, szM, zM, plM0, plM1, agM, paM, ldJ, fJ0, fJ1, fJ2, szJ, zJ, plJ0, plJ1, plJ2, agJ, paJ, w1, g2, g3, g4, g5, h0, h1] <;> (repeat refine ⟨by kernel_rfl, by kernel_rfl, ?_⟩) <;> simp [mvcgen_simp, -map_replicate, -map_set, -map_append, -map_reverse, -map_take, -map_drop, -map_tail, -any_map, -all_map, -mapM_map, -map_map, Try.f77, E4_P, valBR, e]
  | true =>
    have ep := jacB_primeB e
    rw [e] at h1 h0
    rw [ep] at g2
    simp only [Bool.true_and, if_true, Bool.false_eq_true, if_false] at h0 h1 g2
    have hp := jacB_prime e
    cases e1 : listB p a cs with
    | false =>
      rw [e1] at g2
      simp [go_sem, -map_replicate, -map_set, -map_append, -map_reverse, -map_take, -map_drop, -map_tail, -any_map, -all_map, -mapM_map, -map_map, slL, szI, ldI, zI, undL, apL, setI, rdI_get, Nat.add_one_le_iff, fillV, zeros1, zeros0, appendD, segV, lvO, goneOf, sliceD, bound, Nat.add_assoc, E4_P, E4_m, E4_s, szL, ldL, setCs0, setCs1, setCs2, setCsA2, setCsA3, ldM, fM0, fM1, szM, zM, plM0, plM1, agM, paM, ldJ, fJ0, fJ1, fJ2, szJ, zJ, plJ0, plJ1, plJ2, agJ, paJ, w1, g2, g3, g4, g5, h0, h1]
      repeat refine ⟨by kernel_rfl, by kernel_rfl, ?_⟩
      simp [mvcgen_simp, -map_replicate, -map_set, -map_append, -map_reverse, -map_take, -map_drop, -map_tail, -any_map, -all_map, -mapM_map, -map_map, Try.f77, E4_P, valBR, e, e1]
    | true =>
      rw [e1] at g2
      have hl := jacB_len e
      have e1' := e1
      simp only [listB, Bool.and_eq_true, decide_eq_true_eq] at e1'
      cases e2 : hasB p x with
      | false =>
        rw [e2] at g5
        simp [go_sem, -map_replicate, -map_set, -map_append, -map_reverse, -map_take, -map_drop, -map_tail, -any_map, -all_map, -mapM_map, -map_map, slL, szI, ldI, zI, undL, apL, setI, rdI_get, Nat.add_one_le_iff, fillV, zeros1, zeros0, appendD, segV, lvO, goneOf, sliceD, bound, Nat.add_assoc, E4_P, E4_m, E4_s, szL, ldL, setCs0, setCs1, setCs2, setCsA2, setCsA3, ldM, fM0, fM1, szM, zM, plM0, plM1, agM, paM, ldJ, fJ0, fJ1, fJ2, szJ, zJ, plJ0, plJ1, plJ2, agJ, paJ, w1, g2, g3, g4, g5, h0, h1]
        repeat refine ⟨by kernel_rfl, by kernel_rfl, ?_⟩
        simp [mvcgen_simp, -map_replicate, -map_set, -map_append, -map_reverse, -map_take, -map_drop, -map_tail, -any_map, -all_map, -mapM_map, -map_map, Try.f77, E4_P, valBR, e, e1, e2]
      | true =>
        rw [e2] at g5
        have h2 := up4 (run_sum p a b cs e (by omega) e1'.2)
        have h3 := up4 (run_polys p a b e)
        have le := sumP_le p a b cs cs.length
        have h4 := run_value p x (sumP p a b cs cs.length) hp (by omega)
        rw [valV_hor hp (hasB_rgV e2) (sumP_rd hp a b cs cs.length)] at h4
        have tk : List.take (a.length + 1) (List.map UV (prow p a b (a.length + 1))) = List.map UV (prow p a b (a.length + 1)) := take_map_full (by rw [prow_len]; exact Nat.le_refl _)
        simp [go_sem, -map_replicate, -map_set, -map_append, -map_reverse, -map_take, -map_drop, -map_tail, -any_map, -all_map, -mapM_map, -map_map, slL, szI, ldI, zI, undL, apL, setI, rdI_get, Nat.add_one_le_iff, fillV, zeros1, zeros0, appendD, segV, lvO, goneOf, sliceD, bound, Nat.add_assoc, E4_P, E4_m, E4_s, szL, ldL, setCs0, setCs1, setCs2, setCsA2, setCsA3, ldM, fM0, fM1, szM, zM, plM0, plM1, agM, paM, ldJ, fJ0, fJ1, fJ2, szJ, zJ, plJ0, plJ1, plJ2, agJ, paJ, w1, g2, g3, g4, g5, h1, h2, h3, h4, mapM_purN_UV, flatMap_idsN_UV, any_hasU_UV, tk, prow_len]
        repeat refine ⟨by kernel_rfl, by kernel_rfl, ?_⟩
        simp [mvcgen_simp, -map_replicate, -map_set, -map_append, -map_reverse, -map_take, -map_drop, -map_tail, -any_map, -all_map, -mapM_map, -map_map, Try.f77, E4_P, valBR, e, e1, e2]

end Go.Proofs.Ytabnganndcmcnaa.Ev
