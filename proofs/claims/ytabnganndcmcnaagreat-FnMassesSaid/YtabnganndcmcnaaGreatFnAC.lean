/- HalveJacobi: both texts and the law. Conditions: none. -/
import Derived.Test.YtabnganndcmcnaaGreatFnBA
set_option linter.unusedSimpArgs false
set_option linter.unusedVariables false
namespace Go.Proofs.YtabnganndcmcnaaGreat.Ev
open Go Go.Proofs
open List (map_replicate map_set map_append map_reverse map_take map_drop map_tail any_map all_map mapM_map map_map)
set_option maxRecDepth 4000
set_option maxHeartbeats 4000000

def zeroB (l : List Int) : Bool := l.all (fun x => decide (x = 0))
def hvA (p : Int) (b : List Int) (k : Nat) : Int := if k = 0 then rdI b 1 else (rdI b (2 * k) + rdI b (2 * k + 1)) % p
def hvB (p : Int) (b : List Int) (k : Nat) : Int := if k = 0 then rdI b 0 else (rdI b (2 * k - 1) * rdI b (2 * k)) % p
def halveJ (p : Int) (a b : List Int) : Int × List Int × List Int × Int :=
  if jacB p a b then (if zeroB a && decide (2 ≤ a.length) then (p, tab (a.length / 2) (hvA p b), tab (a.length / 2) (hvB p b), 0) else (0, [], [], 5)) else (0, [], [], 1)
theorem halveJ_len (p : Int) (a b : List Int) (ha : a.length ≤ 1048576) (hb : b.length ≤ 1048576) : (halveJ p a b).2.1.length ≤ 1048576 ∧ (halveJ p a b).2.2.1.length ≤ 1048576 := by
  unfold halveJ
  (repeat' split) <;> simp [tab_len] <;> omega
theorem run_specHalveJacobi (p : Int) (a b : List Int) (ha : a.length ≤ 1048576) (hb : b.length ≤ 1048576) :
    runv E1 29 [(V.agg [V.int .i64 (p), (V.list (List.length (a)) (List.map (V.int .i64) (a))), (V.list (List.length (b)) (List.map (V.int .i64) (b)))])] = some ⟨true, .tup [(V.agg [V.int .i64 ((halveJ p a b).1), (V.uniq 1 (List.length ((halveJ p a b).2.1)) (List.map (V.int .i64) ((halveJ p a b).2.1))), (V.uniq 1 (List.length ((halveJ p a b).2.2.1)) (List.map (V.int .i64) ((halveJ p a b).2.2.1)))]), .int .i64 (halveJ p a b).2.2.2], [.agg [.undef, .undef, .undef]]⟩ := by
  have cdk : codeOk Tryz.f29.ntmps (Tryz.f29.body.getD .skip) = true := by kernel_rfl
  refine run_of_WLr (fn := Tryz.f29) rfl Tryz.func29 rfl ⟨by simp [Tryz.ntmps29], by simp [wideA, ints], cdk, by simp [Tryz.f29]⟩ rfl (by simp [rebOk, noId, adoptT, adoptA, adoptL, adoptC, depth]) ?_
  have h1 := up (run_l03Is p a b (by omega) (by omega))
  cases e : jacB p a b with
  | false =>
    rw [e] at h1
    simp [go_sem, -map_replicate, -map_set, -map_append, -map_reverse, -map_take, -map_drop, -map_tail, -any_map, -all_map, -mapM_map, -map_map, slL, szI, ldI, zI, undL, apL, setI, rdI_get, Nat.add_one_le_iff, fillV, zeros1, zeros0, appendD, segV, lvO, goneOf, sliceD, bound, Nat.add_assoc, szL, ldL, setCs0, setCs1, setCs2, setCsA2, setCsA3, ldM, fM0, fM1, szM, zM, plM0, plM1, agM, paM, ldJ, fJ0, fJ1, fJ2, szJ, zJ, plJ0, plJ1, plJ2, agJ, paJ, h1, fillV]
    repeat refine ⟨by kernel_rfl, by kernel_rfl, ?_⟩
    simp [mvcgen_simp, -map_replicate, -map_set, -map_append, -map_reverse, -map_take, -map_drop, -map_tail, -any_map, -all_map, -mapM_map, -map_map, Tryz.f29, halveJ, e, szL, ldL, setCs0, setCs1, setCs2, setCsA2, setCsA3, ldM, fM0, fM1, szM, zM, plM0, plM1, agM, paM, ldJ, fJ0, fJ1, fJ2, szJ, zJ, plJ0, plJ1, plJ2, agJ, paJ, ctJ, loadD, viewN]
  | true =>
    rw [e] at h1
    have hp := jacB_prime e
    have hl := jacB_len e
    simp [go_sem, -map_replicate, -map_set, -map_append, -map_reverse, -map_take, -map_drop, -map_tail, -any_map, -all_map, -mapM_map, -map_map, slL, szI, ldI, zI, undL, apL, setI, rdI_get, Nat.add_one_le_iff, fillV, zeros1, zeros0, appendD, segV, lvO, goneOf, sliceD, bound, Nat.add_assoc, szL, ldL, setCs0, setCs1, setCs2, setCsA2, setCsA3, ldM, fM0, fM1, szM, zM, plM0, plM1, agM, paM, ldJ, fJ0, fJ1, fJ2, szJ, zJ, plJ0, plJ1, plJ2, agJ, paJ, h1, fillV]
    repeat refine ⟨by kernel_rfl, by kernel_rfl, ?_⟩
    rw [WL_loop]
    refine WL_forP (keep := [1, 2, 4, 5, 6]) (rs := resM Tryz.f29) rfl (by kernel_rfl) (fun k => mkSt [(1, .ptr 0 0 0), (2, .ptr 1 0 0), (4, .int .i64 (a.length : Int)), (5, .int .i64 p), (6, .int .i64 (k : Int))] [some (⟨0, 1, 1, [.int .i64 p, (V.list (List.length (a)) (List.map (V.int .i64) (a))), (V.list (List.length (b)) (List.map (V.int .i64) (b)))]⟩), some (⟨0, 1, 1, [.int .i64 0, .nils, .nils]⟩)] (resM Tryz.f29)) a.length (fun k => ∀ j, j < k → rdI a j = 0) ?_ ?_ 0 _ (by omega) (by omega) rfl ?_
    · intro k hk hP next
      have w1 : IntKind.i64.wrap ((k : Int) + 1) = (k : Int) + 1 := IntWalk.i64_in _ (by omega)
      by_cases x : rdI a k = 0
      · simp [go_sem, -map_replicate, -map_set, -map_append, -map_reverse, -map_take, -map_drop, -map_tail, -any_map, -all_map, -mapM_map, -map_map, slL, szI, ldI, zI, undL, apL, setI, rdI_get, Nat.add_one_le_iff, fillV, zeros1, zeros0, appendD, segV, lvO, goneOf, sliceD, bound, Nat.add_assoc, szL, ldL, setCs0, setCs1, setCs2, setCsA2, setCsA3, ldM, fM0, fM1, szM, zM, plM0, plM1, agM, paM, ldJ, fJ0, fJ1, fJ2, szJ, zJ, plJ0, plJ1, plJ2, agJ, paJ, hk, w1, x]
        repeat refine ⟨by kernel_rfl, by kernel_rfl, ?_⟩
        refine next _ (fun j hj => ?_) rfl ?_
        · by_cases hij : j = k
          · subst hij; exact x
          · exact hP j (by omega)
        · (refine canon_mk ?_; simp [method_specs_simp, ordIds_app, ordRen_app, ordIds_app2, ordRen_app2, -map_replicate, -map_set, -map_append, -map_reverse, -map_take, -map_drop, -map_tail, -map_map])
      · have hz : zeroB a = false := by
          unfold zeroB
          rw [List.all_eq_false]
          exact ⟨_, List.getElem_mem hk, by rw [rdI_get hk]; simp [x]⟩
        have hps : halveJ p a b = (0, [], [], 5) := by simp only [halveJ, e, hz]; rfl
        simp [go_sem, -map_replicate, -map_set, -map_append, -map_reverse, -map_take, -map_drop, -map_tail, -any_map, -all_map, -mapM_map, -map_map, slL, szI, ldI, zI, undL, apL, setI, rdI_get, Nat.add_one_le_iff, fillV, zeros1, zeros0, appendD, segV, lvO, goneOf, sliceD, bound, Nat.add_assoc, szL, ldL, setCs0, setCs1, setCs2, setCsA2, setCsA3, ldM, fM0, fM1, szM, zM, plM0, plM1, agM, paM, ldJ, fJ0, fJ1, fJ2, szJ, zJ, plJ0, plJ1, plJ2, agJ, paJ, hk, w1, x, fillV]
        repeat refine ⟨by kernel_rfl, by kernel_rfl, ?_⟩
        simp [mvcgen_simp, -map_replicate, -map_set, -map_append, -map_reverse, -map_take, -map_drop, -map_tail, -any_map, -all_map, -mapM_map, -map_map, Tryz.f29, hps, szL, ldL, setCs0, setCs1, setCs2, setCsA2, setCsA3, ldM, fM0, fM1, szM, zM, plM0, plM1, agM, paM, ldJ, fJ0, fJ1, fJ2, szJ, zJ, plJ0, plJ1, plJ2, agJ, paJ, ctJ, loadD, viewN]
    · intro hP
      have hz : zeroB a = true := by
        unfold zeroB
        rw [List.all_eq_true]
        intro x hx
        obtain ⟨j, hj, rfl⟩ := List.getElem_of_mem hx
        rw [rdI_get hj]; simp [hP j hj]
      by_cases c2 : (a.length : Int) < 2
      · have hps : halveJ p a b = (0, [], [], 5) := by
          have : decide (2 ≤ a.length) = false := by simp; omega
          simp only [halveJ, e, hz, this]; rfl
        simp [go_sem, -map_replicate, -map_set, -map_append, -map_reverse, -map_take, -map_drop, -map_tail, -any_map, -all_map, -mapM_map, -map_map, slL, szI, ldI, zI, undL, apL, setI, rdI_get, Nat.add_one_le_iff, fillV, zeros1, zeros0, appendD, segV, lvO, goneOf, sliceD, bound, Nat.add_assoc, szL, ldL, setCs0, setCs1, setCs2, setCsA2, setCsA3, ldM, fM0, fM1, szM, zM, plM0, plM1, agM, paM, ldJ, fJ0, fJ1, fJ2, szJ, zJ, plJ0, plJ1, plJ2, agJ, paJ, c2, fillV]
        repeat refine ⟨by kernel_rfl, by kernel_rfl, ?_⟩
        simp [mvcgen_simp, -map_replicate, -map_set, -map_append, -map_reverse, -map_take, -map_drop, -map_tail, -any_map, -all_map, -mapM_map, -map_map, Tryz.f29, hps, szL, ldL, setCs0, setCs1, setCs2, setCsA2, setCsA3, ldM, fM0, fM1, szM, zM, plM0, plM1, agM, paM, ldJ, fJ0, fJ1, fJ2, szJ, zJ, plJ0, plJ1, plJ2, agJ, paJ, ctJ, loadD, viewN]
      · have hps : halveJ p a b = (p, tab (a.length / 2) (hvA p b), tab (a.length / 2) (hvB p b), 0) := by
          have : decide (2 ≤ a.length) = true := by simp; omega
          simp only [halveJ, e, hz, this]; rfl
        have b0 : 0 < b.length := by omega
        have b1 : 1 < b.length := by omega
        have b1' : (1 : Int) < b.length := by omega
        simp [go_sem, -map_replicate, -map_set, -map_append, -map_reverse, -map_take, -map_drop, -map_tail, -any_map, -all_map, -mapM_map, -map_map, slL, szI, ldI, zI, undL, apL, setI, rdI_get, Nat.add_one_le_iff, fillV, zeros1, zeros0, appendD, segV, lvO, goneOf, sliceD, bound, Nat.add_assoc, szL, ldL, setCs0, setCs1, setCs2, setCsA2, setCsA3, ldM, fM0, fM1, szM, zM, plM0, plM1, agM, paM, ldJ, fJ0, fJ1, fJ2, szJ, zJ, plJ0, plJ1, plJ2, agJ, paJ, c2, b0, b1, b1', fillV]
        repeat refine ⟨by kernel_rfl, by kernel_rfl, ?_⟩
        rw [WL_loop]
        refine WL_for (keep := [1, 2, 4, 5, 7, 8]) (rs := resM Tryz.f29) rfl (by kernel_rfl) (fun k => mkSt [(1, .ptr 0 0 0), (2, .ptr 1 0 0), (4, .int .i64 (a.length : Int)), (5, .int .i64 p), (7, .ptr 2 0 0), (8, .int .i64 ((k : Int) + 1))] [some (⟨0, 1, 1, [.int .i64 p, (V.list (List.length (a)) (List.map (V.int .i64) (a))), (V.list (List.length (b)) (List.map (V.int .i64) (b)))]⟩), some (⟨0, 1, 1, [.int .i64 0, .nils, .nils]⟩), some (⟨0, 1, 1, [.int .i64 p, .sl 3 0 0 (k + 1), .sl 4 0 0 (k + 1)]⟩), some (⟨0, 2, 1, (tab (k + 1) (hvA p b)).map (V.int .i64)⟩), some (⟨0, 2, 1, (tab (k + 1) (hvB p b)).map (V.int .i64)⟩)] (resM Tryz.f29)) (a.length / 2 - 1) ?_ ?_ 0 _ (by omega) rfl ?_
        · intro k hk next
          obtain ⟨m, hm⟩ : ∃ m, m = 2 * (k + 1) := ⟨_, rfl⟩
          have d1 : (a.length : Int).tdiv 2 = (a.length : Int) / 2 := Int.tdiv_eq_ediv_of_nonneg (by omega)
          have wd : IntKind.i64.wrap ((a.length : Int) / 2) = (a.length : Int) / 2 := IntWalk.i64_in _ (by omega)
          have c1 : (k : Int) + 1 < (a.length : Int) / 2 := by omega
          have w1 : IntKind.i64.wrap (2 * ((k : Int) + 1)) = (m : Int) := by rw [IntWalk.i64_in _ (by omega)]; omega
          have w2 : IntKind.i64.wrap ((m : Int) + 1) = (m : Int) + 1 := IntWalk.i64_in _ (by omega)
          have w3 : IntKind.i64.wrap ((m : Int) - 1) = ((m - 1 : Nat) : Int) := by rw [IntWalk.i64_in _ (by omega)]; omega
          have w4 : IntKind.i64.wrap ((k : Int) + 1 + 1) = (k : Int) + 1 + 1 := IntWalk.i64_in _ (by omega)
          have b2 : m < b.length := by omega
          have b3 : m + 1 < b.length := by omega
          have b4 : m - 1 < b.length := by omega
          have b2' : (m : Int) < b.length := by omega
          have b3' : (m : Int) + 1 < b.length := by omega
          have b4' : ((m - 1 : Nat) : Int) < b.length := by omega
          have q0 : (0 : Int) ≤ (m : Int) + 1 := by omega
          have r2 := jacB_b e (show m < a.length by omega)
          have r3 := jacB_b e (show m + 1 < a.length by omega)
          have r4 := jacB_b e (show m - 1 < a.length by omega)
          have pm := mul_small hp (show 0 ≤ rdI b (m - 1) ∧ rdI b (m - 1) < p by omega) (show 0 ≤ rdI b m ∧ rdI b m < p by omega)
          have eA : hvA p b (k + 1) = (rdI b m + rdI b (m + 1)) % p := by rw [hm]; rfl
          have eB : hvB p b (k + 1) = (rdI b (m - 1) * rdI b m) % p := by rw [hm]; rfl
          have v1 : IntKind.i64.wrap (rdI b m + rdI b (m + 1)) = rdI b m + rdI b (m + 1) := IntWalk.i64_in _ (by omega)
          have v2 : IntKind.i64.wrap (rdI b (m - 1) * rdI b m) = rdI b (m - 1) * rdI b m := IntWalk.i64_in _ (by omega)
          have t1 : (rdI b m + rdI b (m + 1)).tmod p = hvA p b (k + 1) := by rw [eA]; exact Int.tmod_eq_emod_of_nonneg (by omega)
          have t2 : (rdI b (m - 1) * rdI b m).tmod p = hvB p b (k + 1) := by rw [eB]; exact Int.tmod_eq_emod_of_nonneg pm.1
          have tA : tab (k + 2) (hvA p b) = tab (k + 1) (hvA p b) ++ [hvA p b (k + 1)] := tab_succ _ _
          have tB : tab (k + 2) (hvB p b) = tab (k + 1) (hvB p b) ++ [hvB p b (k + 1)] := tab_succ _ _
          have lA := tab_len (k + 1) (hvA p b)
          have lB := tab_len (k + 1) (hvB p b)
          have c3 : (k + 2) * 8 ≤ 140737488355328 := by omega
          have hpn : ¬ p = 0 := by omega
          generalize tab (k + 1) (hvA p b) = TA at *
          generalize tab (k + 1) (hvB p b) = TB at *
          generalize hvA p b (k + 1) = xA at *
          generalize hvB p b (k + 1) = xB at *
          simp [go_sem, -map_replicate, -map_set, -map_append, -map_reverse, -map_take, -map_drop, -map_tail, -any_map, -all_map, -mapM_map, -map_map, slL, szI, ldI, zI, undL, apL, setI, rdI_get, Nat.add_one_le_iff, fillV, zeros1, zeros0, appendD, segV, lvO, goneOf, sliceD, bound, Nat.add_assoc, szL, ldL, setCs0, setCs1, setCs2, setCsA2, setCsA3, ldM, fM0, fM1, szM, zM, plM0, plM1, agM, paM, ldJ, fJ0, fJ1, fJ2, szJ, zJ, plJ0, plJ1, plJ2, agJ, paJ, d1, wd, c1, w1, w2, w3, w4, b2, b3, b4, b2', b3', b4', q0, v1, v2, t1, t2, lA, lB, c3, hpn]
          repeat refine ⟨by kernel_rfl, by kernel_rfl, ?_⟩
          refine next _ rfl ?_
          (refine canon_mk ?_; simp [method_specs_simp, ordIds_app, ordRen_app, ordIds_app2, ordRen_app2, -map_replicate, -map_set, -map_append, -map_reverse, -map_take, -map_drop, -map_tail, -map_map, tA, tB])
        · have d1 : (a.length : Int).tdiv 2 = (a.length : Int) / 2 := Int.tdiv_eq_ediv_of_nonneg (by omega)
          have wd : IntKind.i64.wrap ((a.length : Int) / 2) = (a.length : Int) / 2 := IntWalk.i64_in _ (by omega)
          have k1 : a.length / 2 - 1 + 1 = a.length / 2 := by omega
          have k2 : ((a.length / 2 - 1 : Nat) : Int) + 1 = (a.length : Int) / 2 := by omega
          have lA := tab_len (a.length / 2) (hvA p b)
          have lB := tab_len (a.length / 2) (hvB p b)
          simp only [k1, k2]
          simp [go_sem, -map_replicate, -map_set, -map_append, -map_reverse, -map_take, -map_drop, -map_tail, -any_map, -all_map, -mapM_map, -map_map, slL, szI, ldI, zI, undL, apL, setI, rdI_get, Nat.add_one_le_iff, fillV, zeros1, zeros0, appendD, segV, lvO, goneOf, sliceD, bound, Nat.add_assoc, szL, ldL, setCs0, setCs1, setCs2, setCsA2, setCsA3, ldM, fM0, fM1, szM, zM, plM0, plM1, agM, paM, ldJ, fJ0, fJ1, fJ2, szJ, zJ, plJ0, plJ1, plJ2, agJ, paJ, d1, wd]
          simp [mvcgen_simp, -map_replicate, -map_set, -map_append, -map_reverse, -map_take, -map_drop, -map_tail, -any_map, -all_map, -mapM_map, -map_map, Tryz.f29, hps, lA, lB, szL, ldL, setCs0, setCs1, setCs2, setCsA2, setCsA3, ldM, fM0, fM1, szM, zM, plM0, plM1, agM, paM, ldJ, fJ0, fJ1, fJ2, szJ, zJ, plJ0, plJ1, plJ2, agJ, paJ, ctJ, loadD, viewN]
        · (refine canon_mk ?_; simp [method_specs_simp, ordIds_app, ordRen_app, ordIds_app2, ordRen_app2, -map_replicate, -map_set, -map_append, -map_reverse, -map_take, -map_drop, -map_tail, -map_map, tab, hvA, hvB])
    · (refine canon_mk ?_; simp [method_specs_simp, ordIds_app, ordRen_app, ordIds_app2, ordRen_app2, -map_replicate, -map_set, -map_append, -map_reverse, -map_take, -map_drop, -map_tail, -map_map])
theorem run_isZero1 (x : Int) : runv E0 186 [.int .i64 x] = some ⟨true, .bool (decide (x = 0)), [.undef]⟩ := by
  have cdk : codeOk Tryz.f186.ntmps (Tryz.f186.body.getD .skip) = true := by kernel_rfl
  refine run_of_WL (fn := Tryz.f186) rfl Tryz.func186 rfl ⟨by simp [Tryz.ntmps186], by simp [wideA, ints], cdk, by simp [Tryz.f186]⟩ ?_
  simp [go_sem, -map_replicate, -map_set, -map_append, -map_reverse, -map_take, -map_drop, -map_tail, -any_map, -all_map, -mapM_map, -map_map, slL, szI, ldI, zI, undL, apL, setI, rdI_get, Nat.add_one_le_iff, fillV, zeros1, zeros0, appendD, segV, lvO, goneOf, sliceD, bound, Nat.add_assoc, szL, ldL, setCs0, setCs1, setCs2, setCsA2, setCsA3, ldM, fM0, fM1, szM, zM, plM0, plM1, agM, paM, ldJ, fJ0, fJ1, fJ2, szJ, zJ, plJ0, plJ1, plJ2, agJ, paJ]
  simp [mvcgen_simp, -map_replicate, -map_set, -map_append, -map_reverse, -map_take, -map_drop, -map_tail, -any_map, -all_map, -mapM_map, -map_map, Tryz.f186]
theorem run_isZero (l : List Int) (hl : l.length ≤ 9223372036854775807) : runv E1 100 [(V.list (List.length (l)) (List.map (V.int .i64) (l)))] = some ⟨true, .bool (zeroB l), [.undef]⟩ := by
  have cdk : codeOk Tryz.f100.ntmps (Tryz.f100.body.getD .skip) = true := by kernel_rfl
  refine run_of_WLr (fn := Tryz.f100) rfl Tryz.func100 rfl ⟨by simp [Tryz.ntmps100], by simp [wideA, ints], cdk, by simp [Tryz.f100]⟩ rfl (by simp [rebOk, noId, adoptT, adoptA, adoptL, adoptC, depth]) ?_
  have h1 := up (run_areAll l 186 [] [] (fun x => decide (x = 0)) hl fv_nil (fun H b x => by
    simp [modesOf, callD, prepL, prepA, purN, depth, run_isZero1, nodupB, flatO, noTup, backW, widthOk, wideA, adopt, adoptA, adoptC, treeN, idsN]))
  unfold ints at h1
  simp [go_sem, -map_replicate, -map_set, -map_append, -map_reverse, -map_take, -map_drop, -map_tail, -any_map, -all_map, -mapM_map, -map_map, slL, szI, ldI, zI, undL, apL, setI, rdI_get, Nat.add_one_le_iff, fillV, zeros1, zeros0, appendD, segV, lvO, goneOf, sliceD, bound, Nat.add_assoc, szL, ldL, setCs0, setCs1, setCs2, setCsA2, setCsA3, ldM, fM0, fM1, szM, zM, plM0, plM1, agM, paM, ldJ, fJ0, fJ1, fJ2, szJ, zJ, plJ0, plJ1, plJ2, agJ, paJ, h1]
  simp [mvcgen_simp, -map_replicate, -map_set, -map_append, -map_reverse, -map_take, -map_drop, -map_tail, -any_map, -all_map, -mapM_map, -map_map, Tryz.f100, zeroB]
theorem run_implHalveJacobi (p : Int) (a b : List Int) (ha : a.length ≤ 1048576) (hb : b.length ≤ 1048576) :
    runv E1 28 [(V.agg [V.int .i64 (p), (V.list (List.length (a)) (List.map (V.int .i64) (a))), (V.list (List.length (b)) (List.map (V.int .i64) (b)))])] = some ⟨true, .tup [(V.agg [V.int .i64 ((halveJ p a b).1), (V.uniq 1 (List.length ((halveJ p a b).2.1)) (List.map (V.int .i64) ((halveJ p a b).2.1))), (V.uniq 1 (List.length ((halveJ p a b).2.2.1)) (List.map (V.int .i64) ((halveJ p a b).2.2.1)))]), .int .i64 (halveJ p a b).2.2.2], [.agg [.undef, .undef, .undef]]⟩ := by
  have cdk : codeOk Tryz.f28.ntmps (Tryz.f28.body.getD .skip) = true := by kernel_rfl
  refine run_of_WLr (fn := Tryz.f28) rfl Tryz.func28 rfl ⟨by simp [Tryz.ntmps28], by simp [wideA, ints], cdk, by simp [Tryz.f28]⟩ rfl (by simp [rebOk, noId, adoptT, adoptA, adoptL, adoptC, depth]) ?_
  have h1 := up (run_jacobiCode p a b true (by omega) (by omega))
  have h2 := run_isZero a (by omega)
  have g3 := up (run_Jfield p a b)
  have g4 := up (run_Jsize p a b)
  cases e : jacB p a b with
  | false =>
    rw [e] at h1
    simp only [Bool.false_eq_true, if_false] at h1
    simp [go_sem, -map_replicate, -map_set, -map_append, -map_reverse, -map_take, -map_drop, -map_tail, -any_map, -all_map, -mapM_map, -map_map, slL, szI, ldI, zI, undL, apL, setI, rdI_get, Nat.add_one_le_iff, fillV, zeros1, zeros0, appendD, segV, lvO, goneOf, sliceD, bound, Nat.add_assoc, szL, ldL, setCs0, setCs1, setCs2, setCsA2, setCsA3, ldM, fM0, fM1, szM, zM, plM0, plM1, agM, paM, ldJ, fJ0, fJ1, fJ2, szJ, zJ, plJ0, plJ1, plJ2, agJ, paJ, h1, fillV]
    repeat refine ⟨by kernel_rfl, by kernel_rfl, ?_⟩
    simp [mvcgen_simp, -map_replicate, -map_set, -map_append, -map_reverse, -map_take, -map_drop, -map_tail, -any_map, -all_map, -mapM_map, -map_map, Tryz.f28, halveJ, e, szL, ldL, setCs0, setCs1, setCs2, setCsA2, setCsA3, ldM, fM0, fM1, szM, zM, plM0, plM1, agM, paM, ldJ, fJ0, fJ1, fJ2, szJ, zJ, plJ0, plJ1, plJ2, agJ, paJ, ctJ, loadD, viewN]
  | true =>
    have hp := jacB_prime e
    have hl := jacB_len e
    rw [e] at h1
    simp only [if_true] at h1
    cases hz : zeroB a with
    | false =>
      rw [hz] at h2
      have hps : halveJ p a b = (0, [], [], 5) := by simp only [halveJ, e, hz]; rfl
      simp [go_sem, -map_replicate, -map_set, -map_append, -map_reverse, -map_take, -map_drop, -map_tail, -any_map, -all_map, -mapM_map, -map_map, slL, szI, ldI, zI, undL, apL, setI, rdI_get, Nat.add_one_le_iff, fillV, zeros1, zeros0, appendD, segV, lvO, goneOf, sliceD, bound, Nat.add_assoc, szL, ldL, setCs0, setCs1, setCs2, setCsA2, setCsA3, ldM, fM0, fM1, szM, zM, plM0, plM1, agM, paM, ldJ, fJ0, fJ1, fJ2, szJ, zJ, plJ0, plJ1, plJ2, agJ, paJ, h1, h2, fillV]
      repeat refine ⟨by kernel_rfl, by kernel_rfl, ?_⟩
      simp [mvcgen_simp, -map_replicate, -map_set, -map_append, -map_reverse, -map_take, -map_drop, -map_tail, -any_map, -all_map, -mapM_map, -map_map, Tryz.f28, hps, szL, ldL, setCs0, setCs1, setCs2, setCsA2, setCsA3, ldM, fM0, fM1, szM, zM, plM0, plM1, agM, paM, ldJ, fJ0, fJ1, fJ2, szJ, zJ, plJ0, plJ1, plJ2, agJ, paJ, ctJ, loadD, viewN]
    | true =>
      rw [hz] at h2
      by_cases c2 : (a.length : Int) = 1
      · have hps : halveJ p a b = (0, [], [], 5) := by
          have : decide (2 ≤ a.length) = false := by simp; omega
          simp only [halveJ, e, hz, this]; rfl
        simp [go_sem, -map_replicate, -map_set, -map_append, -map_reverse, -map_take, -map_drop, -map_tail, -any_map, -all_map, -mapM_map, -map_map, slL, szI, ldI, zI, undL, apL, setI, rdI_get, Nat.add_one_le_iff, fillV, zeros1, zeros0, appendD, segV, lvO, goneOf, sliceD, bound, Nat.add_assoc, szL, ldL, setCs0, setCs1, setCs2, setCsA2, setCsA3, ldM, fM0, fM1, szM, zM, plM0, plM1, agM, paM, ldJ, fJ0, fJ1, fJ2, szJ, zJ, plJ0, plJ1, plJ2, agJ, paJ, h1, h2, g4, c2, fillV]
        repeat refine ⟨by kernel_rfl, by kernel_rfl, ?_⟩
        simp [mvcgen_simp, -map_replicate, -map_set, -map_append, -map_reverse, -map_take, -map_drop, -map_tail, -any_map, -all_map, -mapM_map, -map_map, Tryz.f28, hps, szL, ldL, setCs0, setCs1, setCs2, setCsA2, setCsA3, ldM, fM0, fM1, szM, zM, plM0, plM1, agM, paM, ldJ, fJ0, fJ1, fJ2, szJ, zJ, plJ0, plJ1, plJ2, agJ, paJ, ctJ, loadD, viewN]
      · have hps : halveJ p a b = (p, tab (a.length / 2) (hvA p b), tab (a.length / 2) (hvB p b), 0) := by
          have : decide (2 ≤ a.length) = true := by simp; omega
          simp only [halveJ, e, hz, this]; rfl
        have b0 : 0 < b.length := by omega
        have b1 : 1 < b.length := by omega
        have b1' : (1 : Int) < b.length := by omega
        simp [go_sem, -map_replicate, -map_set, -map_append, -map_reverse, -map_take, -map_drop, -map_tail, -any_map, -all_map, -mapM_map, -map_map, slL, szI, ldI, zI, undL, apL, setI, rdI_get, Nat.add_one_le_iff, fillV, zeros1, zeros0, appendD, segV, lvO, goneOf, sliceD, bound, Nat.add_assoc, szL, ldL, setCs0, setCs1, setCs2, setCsA2, setCsA3, ldM, fM0, fM1, szM, zM, plM0, plM1, agM, paM, ldJ, fJ0, fJ1, fJ2, szJ, zJ, plJ0, plJ1, plJ2, agJ, paJ, h1, h2, g3, g4, c2, b0, b1, b1', fillV]
        repeat refine ⟨by kernel_rfl, by kernel_rfl, ?_⟩
        rw [WL_loop]
        refine WL_for (keep := [1, 2, 5, 6, 7]) (rs := resM Tryz.f28) rfl (by kernel_rfl) (fun k => mkSt [(1, .ptr 0 0 0), (2, .ptr 1 0 0), (5, .int .i64 p), (6, .ptr 2 0 0), (7, .int .i64 (2 * ((k : Int) + 1)))] [some (⟨0, 1, 1, [.int .i64 p, (V.list (List.length (a)) (List.map (V.int .i64) (a))), (V.list (List.length (b)) (List.map (V.int .i64) (b)))]⟩), some (⟨0, 1, 1, [.int .i64 0, .nils, .nils]⟩), some (⟨0, 1, 1, [.int .i64 p, .sl 3 0 0 (k + 1), .sl 4 0 0 (k + 1)]⟩), some (⟨0, 2, 1, (tab (k + 1) (hvA p b)).map (V.int .i64)⟩), some (⟨0, 2, 1, (tab (k + 1) (hvB p b)).map (V.int .i64)⟩)] (resM Tryz.f28)) (a.length / 2 - 1) ?_ ?_ 0 _ (by omega) rfl ?_
        · intro k hk next
          obtain ⟨m, hm⟩ : ∃ m, m = 2 * (k + 1) := ⟨_, rfl⟩
          have em : 2 * ((k : Int) + 1) = (m : Int) := by omega
          have w1 : IntKind.i64.wrap ((m : Int) + 2) = 2 * ((k : Int) + 1 + 1) := by rw [IntWalk.i64_in _ (by omega)]; omega
          have w2 : IntKind.i64.wrap ((m : Int) + 1) = (m : Int) + 1 := IntWalk.i64_in _ (by omega)
          have w3 : IntKind.i64.wrap ((m : Int) - 1) = ((m - 1 : Nat) : Int) := by rw [IntWalk.i64_in _ (by omega)]; omega
          have b2 : m < b.length := by omega
          have b3 : m + 1 < b.length := by omega
          have b4 : m - 1 < b.length := by omega
          have b2' : (m : Int) < b.length := by omega
          have b3' : (m : Int) + 1 < b.length := by omega
          have b4' : ((m - 1 : Nat) : Int) < b.length := by omega
          have q0 : (0 : Int) ≤ (m : Int) + 1 := by omega
          have r2 := jacB_b e (show m < a.length by omega)
          have r3 := jacB_b e (show m + 1 < a.length by omega)
          have r4 := jacB_b e (show m - 1 < a.length by omega)
          have pm := mul_small hp (show 0 ≤ rdI b (m - 1) ∧ rdI b (m - 1) < p by omega) (show 0 ≤ rdI b m ∧ rdI b m < p by omega)
          have eA : hvA p b (k + 1) = (rdI b m + rdI b (m + 1)) % p := by rw [hm]; rfl
          have eB : hvB p b (k + 1) = (rdI b (m - 1) * rdI b m) % p := by rw [hm]; rfl
          have v1 : IntKind.i64.wrap (rdI b m + rdI b (m + 1)) = rdI b m + rdI b (m + 1) := IntWalk.i64_in _ (by omega)
          have v2 : IntKind.i64.wrap (rdI b (m - 1) * rdI b m) = rdI b (m - 1) * rdI b m := IntWalk.i64_in _ (by omega)
          have t1 := up (run_mod p (rdI b m + rdI b (m + 1)) hp)
          rw [← eA] at t1
          have t2 := up (run_mul p (rdI b (m - 1)) (rdI b m) hp v2)
          rw [← eB] at t2
          have tA : tab (k + 2) (hvA p b) = tab (k + 1) (hvA p b) ++ [hvA p b (k + 1)] := tab_succ _ _
          have tB : tab (k + 2) (hvB p b) = tab (k + 1) (hvB p b) ++ [hvB p b (k + 1)] := tab_succ _ _
          have lA := tab_len (k + 1) (hvA p b)
          have lB := tab_len (k + 1) (hvB p b)
          have c3 : (k + 2) * 8 ≤ 140737488355328 := by omega
          generalize tab (k + 1) (hvA p b) = TA at *
          generalize tab (k + 1) (hvB p b) = TB at *
          generalize hvA p b (k + 1) = xA at *
          generalize hvB p b (k + 1) = xB at *
          simp only [em]
          simp [go_sem, -map_replicate, -map_set, -map_append, -map_reverse, -map_take, -map_drop, -map_tail, -any_map, -all_map, -mapM_map, -map_map, slL, szI, ldI, zI, undL, apL, setI, rdI_get, Nat.add_one_le_iff, fillV, zeros1, zeros0, appendD, segV, lvO, goneOf, sliceD, bound, Nat.add_assoc, szL, ldL, setCs0, setCs1, setCs2, setCsA2, setCsA3, ldM, fM0, fM1, szM, zM, plM0, plM1, agM, paM, ldJ, fJ0, fJ1, fJ2, szJ, zJ, plJ0, plJ1, plJ2, agJ, paJ, w1, w2, w3, b2, b3, b4, b2', b3', b4', q0, v1, t1, t2, lA, lB, c3]
          repeat refine ⟨by kernel_rfl, by kernel_rfl, ?_⟩
          refine next _ rfl ?_
          (refine canon_mk ?_; simp [method_specs_simp, ordIds_app, ordRen_app, ordIds_app2, ordRen_app2, -map_replicate, -map_set, -map_append, -map_reverse, -map_take, -map_drop, -map_tail, -map_map, tA, tB])
        · have k1 : a.length / 2 - 1 + 1 = a.length / 2 := by omega
          have k2 : 2 * (((a.length / 2 - 1 : Nat) : Int) + 1) = 2 * ((a.length : Int) / 2) := by omega
          have lA := tab_len (a.length / 2) (hvA p b)
          have lB := tab_len (a.length / 2) (hvB p b)
          have wd : IntKind.i64.wrap (2 * ((a.length : Int) / 2) + 1) = 2 * ((a.length : Int) / 2) + 1 := IntWalk.i64_in _ (by omega)
          have c9 : ¬ 2 * ((a.length : Int) / 2) + 1 < b.length := by omega
          simp only [k1, k2]
          simp [go_sem, -map_replicate, -map_set, -map_append, -map_reverse, -map_take, -map_drop, -map_tail, -any_map, -all_map, -mapM_map, -map_map, slL, szI, ldI, zI, undL, apL, setI, rdI_get, Nat.add_one_le_iff, fillV, zeros1, zeros0, appendD, segV, lvO, goneOf, sliceD, bound, Nat.add_assoc, szL, ldL, setCs0, setCs1, setCs2, setCsA2, setCsA3, ldM, fM0, fM1, szM, zM, plM0, plM1, agM, paM, ldJ, fJ0, fJ1, fJ2, szJ, zJ, plJ0, plJ1, plJ2, agJ, paJ, wd, c9]
          simp [mvcgen_simp, -map_replicate, -map_set, -map_append, -map_reverse, -map_take, -map_drop, -map_tail, -any_map, -all_map, -mapM_map, -map_map, Tryz.f28, hps, lA, lB, szL, ldL, setCs0, setCs1, setCs2, setCsA2, setCsA3, ldM, fM0, fM1, szM, zM, plM0, plM1, agM, paM, ldJ, fJ0, fJ1, fJ2, szJ, zJ, plJ0, plJ1, plJ2, agJ, paJ, ctJ, loadD, viewN]
        · (refine canon_mk ?_; simp [method_specs_simp, ordIds_app, ordRen_app, ordIds_app2, ordRen_app2, -map_replicate, -map_set, -map_append, -map_reverse, -map_take, -map_drop, -map_tail, -map_map, tab, hvA, hvB])


end Go.Proofs.YtabnganndcmcnaaGreat.Ev
