/- InverseTriangle: both texts and the law. Conditions: none. -/
import Derived.Test.YtabnganndcmcnaaFnBP
set_option linter.unusedSimpArgs false
set_option linter.unusedVariables false
namespace Go.Proofs.Ytabnganndcmcnaa.Ev
open Go Go.Proofs
open List (map_replicate map_set map_append map_reverse map_take map_drop map_tail any_map all_map mapM_map map_map)
set_option maxRecDepth 4000
set_option maxHeartbeats 4000000

def invR (p : Int) (a b : List Int) : List (List Int) × Int := if jacB p a b then (prow p a b a.length, 0) else ([], 1)
theorem invR_len (p : Int) (a b : List Int) : (invR p a b).1.length ≤ 12 ∧ ∀ f, f ∈ (invR p a b).1 → f.length ≤ 12 := by
  unfold invR
  split
  · rename_i h
    have hl := jacB_len h
    refine ⟨by simp [prow_len]; omega, fun f hf => ?_⟩
    simp only [prow, List.mem_map, List.mem_range] at hf
    obtain ⟨i, hi, rfl⟩ := hf
    have := (pl_le p a b i).1
    omega
  · simp
theorem run_specInverseTriangle (p : Int) (a b : List Int) (ha : a.length ≤ 1048576) (hb : b.length ≤ 1048576) :
    runv E1 61 [(V.agg [V.int .i64 (p), (V.list (List.length (a)) (List.map (V.int .i64) (a))), (V.list (List.length (b)) (List.map (V.int .i64) (b)))])] = some ⟨true, .tup [.uniq 1 (invR p a b).1.length ((invR p a b).1.map UV), .int .i64 (invR p a b).2], [.agg [.undef, .undef, .undef]]⟩ := by
  have cdk : codeOk Try.f61.ntmps (Try.f61.body.getD .skip) = true := by kernel_rfl
  refine run_of_WLr (fn := Try.f61) rfl Try.func61 rfl ⟨by simp [Try.ntmps61], by simp [wideA, ints], cdk, by simp [Try.f61]⟩ rfl (by simp [rebOk, noId, adoptT, adoptA, adoptL, adoptC, depth]) ?_
  have h1 := up (run_l03Is p a b (by omega) (by omega))
  cases e : jacB p a b with
  | false =>
    rw [e] at h1
    simp [go_sem, -map_replicate, -map_set, -map_append, -map_reverse, -map_take, -map_drop, -map_tail, -any_map, -all_map, -mapM_map, -map_map, slL, szI, ldI, zI, undL, apL, setI, rdI_get, Nat.add_one_le_iff, fillV, zeros1, zeros0, appendD, segV, lvO, goneOf, sliceD, bound, Nat.add_assoc, szL, ldL, setCs0, setCs1, setCs2, setCsA2, setCsA3, ldM, fM0, fM1, szM, zM, plM0, plM1, agM, paM, ldJ, fJ0, fJ1, fJ2, szJ, zJ, plJ0, plJ1, plJ2, agJ, paJ, h1]
    simp [mvcgen_simp, -map_replicate, -map_set, -map_append, -map_reverse, -map_take, -map_drop, -map_tail, -any_map, -all_map, -mapM_map, -map_map, Try.f61, invR, e, ctR]
  | true =>
    rw [e] at h1
    have hp := jacB_prime e
    have hl := jacB_len e
    have hps : invR p a b = (prow p a b a.length, 0) := by simp only [invR, e]; rfl
    simp [go_sem, -map_replicate, -map_set, -map_append, -map_reverse, -map_take, -map_drop, -map_tail, -any_map, -all_map, -mapM_map, -map_map, slL, szI, ldI, zI, undL, apL, setI, rdI_get, Nat.add_one_le_iff, fillV, zeros1, zeros0, appendD, segV, lvO, goneOf, sliceD, bound, Nat.add_assoc, szL, ldL, setCs0, setCs1, setCs2, setCsA2, setCsA3, ldM, fM0, fM1, szM, zM, plM0, plM1, agM, paM, ldJ, fJ0, fJ1, fJ2, szJ, zJ, plJ0, plJ1, plJ2, agJ, paJ, h1, slR, undR, zR, zerosR]
    rw [WL_loop]
    refine WL_for (keep := [1, 4, 5]) (rs := resM Try.f61) rfl (by kernel_rfl) (fun x => match x with | 0 => mkSt [(1, .ptr 0 0 0), (4, .nils), (5, .int .i64 0)] [some (⟨0, 1, 1, [.int .i64 p, (V.list (List.length (a)) (List.map (V.int .i64) (a))), (V.list (List.length (b)) (List.map (V.int .i64) (b)))]⟩)] (resM Try.f61) | k + 1 => mkSt [(1, .ptr 0 0 0), (4, .sl 1 0 0 (k + 1)), (5, .int .i64 ((k : Int) + 1))] [some (⟨0, 1, 1, [.int .i64 p, (V.list (List.length (a)) (List.map (V.int .i64) (a))), (V.list (List.length (b)) (List.map (V.int .i64) (b)))]⟩), some (⟨0, 2, 1, (prow p a b (k + 1)).map UV⟩)] (resM Try.f61)) a.length ?_ ?_ 0 _ (by omega) rfl ?_
    · intro k hk next
      have h2 := run_l03Poly p a b k e (by omega)
      have w3 : IntKind.i64.wrap ((k : Int) + 1) = (k : Int) + 1 := IntWalk.i64_in _ (by omega)
      have kai : (k : Int) < a.length := by omega
      have kp : (0 : Int) ≤ k := by omega
      have c3 : (k + 1) * 24 ≤ 140737488355328 := by omega
      have lR := prow_len p a b k
      have sR := prow_succ p a b k
      have wz : ∀ x, IntKind.i64.wrap ((a.length : Int)) = x → IntKind.i64.wrap ((a.length : Int)) = x := fun _ h => h
      have w4 : IntKind.i64.wrap ((a.length : Int)) = (a.length : Int) := IntWalk.i64_in _ (by omega)
      rcases k with _ | k
      · dsimp only at next ⊢
        simp only [Nat.zero_add, Int.zero_add, Int.cast_ofNat_Int, Int.natCast_add, Nat.add_assoc, Nat.reduceAdd] at *
        try rw [show (prow p a b 0) = [] from rfl] at sR lR
        simp [go_sem, -map_replicate, -map_set, -map_append, -map_reverse, -map_take, -map_drop, -map_tail, -any_map, -all_map, -mapM_map, -map_map, slL, szI, ldI, zI, undL, apL, setI, rdI_get, Nat.add_one_le_iff, fillV, zeros1, zeros0, appendD, segV, lvO, goneOf, sliceD, bound, Nat.add_assoc, szL, ldL, setCs0, setCs1, setCs2, setCsA2, setCsA3, ldM, fM0, fM1, szM, zM, plM0, plM1, agM, paM, ldJ, fJ0, fJ1, fJ2, szJ, zJ, plJ0, plJ1, plJ2, agJ, paJ, hk, kai, kp, w3, w4, h2, c3, slR, apR, undR, zR, zerosR, lR, convD, undI64]
        repeat refine ⟨by kernel_rfl, by kernel_rfl, ?_⟩
        refine next _ rfl ?_
        (refine canon_mk ?_; simp [method_specs_simp, ordIds_app, ordRen_app, ordIds_app2, ordRen_app2, -map_replicate, -map_set, -map_append, -map_reverse, -map_take, -map_drop, -map_tail, -map_map, sR, ordIds_UV, ordRen_UV, ordIds_UVapp, ordRen_UVapp])
      · dsimp only at next ⊢
        simp only [Nat.zero_add, Int.zero_add, Int.cast_ofNat_Int, Int.natCast_add, Nat.add_assoc, Nat.reduceAdd] at *
        try rw [show (prow p a b 0) = [] from rfl] at sR lR
        simp [go_sem, -map_replicate, -map_set, -map_append, -map_reverse, -map_take, -map_drop, -map_tail, -any_map, -all_map, -mapM_map, -map_map, slL, szI, ldI, zI, undL, apL, setI, rdI_get, Nat.add_one_le_iff, fillV, zeros1, zeros0, appendD, segV, lvO, goneOf, sliceD, bound, Nat.add_assoc, szL, ldL, setCs0, setCs1, setCs2, setCsA2, setCsA3, ldM, fM0, fM1, szM, zM, plM0, plM1, agM, paM, ldJ, fJ0, fJ1, fJ2, szJ, zJ, plJ0, plJ1, plJ2, agJ, paJ, hk, kai, kp, w3, w4, h2, c3, slR, apR, undR, zR, zerosR, lR, convD, undI64]
        repeat refine ⟨by kernel_rfl, by kernel_rfl, ?_⟩
        refine next _ rfl ?_
        (refine canon_mk ?_; simp [method_specs_simp, ordIds_app, ordRen_app, ordIds_app2, ordRen_app2, -map_replicate, -map_set, -map_append, -map_reverse, -map_take, -map_drop, -map_tail, -map_map, sR, ordIds_UV, ordRen_UV, ordIds_UVapp, ordRen_UVapp])
    · rcases hn : a.length with _ | n
      · omega
      · have c9 : ¬ (n : Int) + 1 < a.length := by omega
        have lR := prow_len p a b (n + 1)
        rw [hn] at hps
        have w4 : IntKind.i64.wrap ((a.length : Int)) = (a.length : Int) := IntWalk.i64_in _ (by omega)
        dsimp only
        simp [go_sem, -map_replicate, -map_set, -map_append, -map_reverse, -map_take, -map_drop, -map_tail, -any_map, -all_map, -mapM_map, -map_map, slL, szI, ldI, zI, undL, apL, setI, rdI_get, Nat.add_one_le_iff, fillV, zeros1, zeros0, appendD, segV, lvO, goneOf, sliceD, bound, Nat.add_assoc, szL, ldL, setCs0, setCs1, setCs2, setCsA2, setCsA3, ldM, fM0, fM1, szM, zM, plM0, plM1, agM, paM, ldJ, fJ0, fJ1, fJ2, szJ, zJ, plJ0, plJ1, plJ2, agJ, paJ, c9, w4, convD, undI64]
        simp [mvcgen_simp, -map_replicate, -map_set, -map_append, -map_reverse, -map_take, -map_drop, -map_tail, -any_map, -all_map, -mapM_map, -map_map, Try.f61, hps, ctR, lR, mapM_expN_UV, flatMap_eidN_UV, all_treeN_UV]
    · (refine canon_mk ?_; simp [method_specs_simp, ordIds_app, ordRen_app, ordIds_app2, ordRen_app2, -map_replicate, -map_set, -map_append, -map_reverse, -map_take, -map_drop, -map_tail, -map_map])
theorem run_implInverseTriangle (p : Int) (a b : List Int) (ha : a.length ≤ 1048576) (hb : b.length ≤ 1048576) :
    runv E1 60 [(V.agg [V.int .i64 (p), (V.list (List.length (a)) (List.map (V.int .i64) (a))), (V.list (List.length (b)) (List.map (V.int .i64) (b)))])] = some ⟨true, .tup [.uniq 1 (invR p a b).1.length ((invR p a b).1.map UV), .int .i64 (invR p a b).2], [.agg [.undef, .undef, .undef]]⟩ := by
  have cdk : codeOk Try.f60.ntmps (Try.f60.body.getD .skip) = true := by kernel_rfl
  refine run_of_WLr (fn := Try.f60) rfl Try.func60 rfl ⟨by simp [Try.ntmps60], by simp [wideA, ints], cdk, by simp [Try.f60]⟩ rfl (by simp [rebOk, noId, adoptT, adoptA, adoptL, adoptC, depth]) ?_
  have h1 := up (run_jacobiCode p a b true (by omega) (by omega))
  have g4 := up (run_Jsize p a b)
  cases e : jacB p a b with
  | false =>
    rw [e] at h1
    simp [go_sem, -map_replicate, -map_set, -map_append, -map_reverse, -map_take, -map_drop, -map_tail, -any_map, -all_map, -mapM_map, -map_map, slL, szI, ldI, zI, undL, apL, setI, rdI_get, Nat.add_one_le_iff, fillV, zeros1, zeros0, appendD, segV, lvO, goneOf, sliceD, bound, Nat.add_assoc, szL, ldL, setCs0, setCs1, setCs2, setCsA2, setCsA3, ldM, fM0, fM1, szM, zM, plM0, plM1, agM, paM, ldJ, fJ0, fJ1, fJ2, szJ, zJ, plJ0, plJ1, plJ2, agJ, paJ, h1]
    simp [mvcgen_simp, -map_replicate, -map_set, -map_append, -map_reverse, -map_take, -map_drop, -map_tail, -any_map, -all_map, -mapM_map, -map_map, Try.f60, invR, e, ctR]
  | true =>
    rw [e] at h1
    have hl := jacB_len e
    have hps : invR p a b = (prow p a b a.length, 0) := by simp only [invR, e]; rfl
    have h2 := run_polys p a b e
    have tk := prow_take p a b a.length UV
    have lR := prow_len p a b a.length
    have lR1 := prow_len p a b (a.length + 1)
    have nz : ¬ a.length = 0 := by omega
    have nz' : ¬ a = [] := fun h => nz (by rw [h]; rfl)
    simp [go_sem, -map_replicate, -map_set, -map_append, -map_reverse, -map_take, -map_drop, -map_tail, -any_map, -all_map, -mapM_map, -map_map, slL, szI, ldI, zI, undL, apL, setI, rdI_get, Nat.add_one_le_iff, fillV, zeros1, zeros0, appendD, segV, lvO, goneOf, sliceD, bound, Nat.add_assoc, szL, ldL, setCs0, setCs1, setCs2, setCsA2, setCsA3, ldM, fM0, fM1, szM, zM, plM0, plM1, agM, paM, ldJ, fJ0, fJ1, fJ2, szJ, zJ, plJ0, plJ1, plJ2, agJ, paJ, h1, h2, g4, slR, undR, nz, nz', any_hasU_UV, lR1]
    repeat refine ⟨by kernel_rfl, by kernel_rfl, ?_⟩
    simp [mvcgen_simp, -map_replicate, -map_set, -map_append, -map_reverse, -map_take, -map_drop, -map_tail, -any_map, -all_map, -mapM_map, -map_map, Try.f60, hps, ctR, lR, lR1, tk, mapM_expN_UV, flatMap_eidN_UV, all_treeN_UV]
end Go.Proofs.Ytabnganndcmcnaa.Ev
