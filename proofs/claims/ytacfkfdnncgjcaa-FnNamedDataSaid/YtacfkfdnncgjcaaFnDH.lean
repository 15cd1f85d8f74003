/- The laws' helpers: big, likeInts, moments9, jacobi9. Conditions: none. -/
import Derived.Test.YtacfkfdnncgjcaaFnDA
set_option linter.unusedSimpArgs false
set_option linter.unusedVariables false
namespace Go.Proofs.Ytacfkfdnncgjcaa.Ev
open Go Go.Proofs
open List (map_replicate map_set map_append map_reverse map_take map_drop map_tail any_map all_map mapM_map map_map)
set_option maxRecDepth 4000
set_option maxHeartbeats 4000000

theorem run_big (l : List Int) : runv E1 6 [.list l.length (l.map (V.int .u8))] = some ⟨true, .bool (decide (4096 < (l.length : Int))), [.undef]⟩ := by
  have cdk : codeOk Try.f6.ntmps (Try.f6.body.getD .skip) = true := by kernel_rfl
  refine run_of_WLr (fn := Try.f6) rfl Try.func6 rfl ⟨by simp [Try.ntmps6], by simp [wideA, ints], cdk, by simp [Try.f6]⟩ rfl (by simp [rebOk, noId, adoptT, adoptA, adoptL, adoptC, depth]) ?_
  simp [go_sem, -map_replicate, -map_set, -map_append, -map_reverse, -map_take, -map_drop, -map_tail, -any_map, -all_map, -mapM_map, -map_map, slL, szI, ldI, zI, undL, apL, setI, rdI_get, Nat.add_one_le_iff, fillV, zeros1, zeros0, appendD, segV, lvO, goneOf, sliceD, bound, Nat.add_assoc, undU8']
  simp [mvcgen_simp, -map_replicate, -map_set, -map_append, -map_reverse, -map_take, -map_drop, -map_tail, -any_map, -all_map, -mapM_map, -map_map, Try.f6]
theorem run_likeInts (l : List Int) (hl : l.length ≤ 1048576) : runv E1 19 [(V.list (List.length (l)) (List.map (V.int .i64) (l))), (V.list (List.length (l)) (List.map (V.int .i64) (l)))] = some ⟨true, .bool true, [.undef, .undef]⟩ := by
  have cdk : codeOk Try.f19.ntmps (Try.f19.body.getD .skip) = true := by kernel_rfl
  refine run_of_WLr (fn := Try.f19) rfl Try.func19 rfl ⟨by simp [Try.ntmps19], by simp [wideA, ints], cdk, by simp [Try.f19]⟩ rfl (by simp [rebOk, noId, adoptT, adoptA, adoptL, adoptC, depth]) ?_
  simp [go_sem, -map_replicate, -map_set, -map_append, -map_reverse, -map_take, -map_drop, -map_tail, -any_map, -all_map, -mapM_map, -map_map, slL, szI, ldI, zI, undL, apL, setI, rdI_get, Nat.add_one_le_iff, fillV, zeros1, zeros0, appendD, segV, lvO, goneOf, sliceD, bound, Nat.add_assoc, undL]
  rw [WL_loop]
  refine WL_for (keep := [0, 1, 5]) (rs := resM Try.f19) rfl (by kernel_rfl) (fun i => mkSt [(0, (V.list (List.length (l)) (List.map (V.int .i64) (l)))), (1, (V.list (List.length (l)) (List.map (V.int .i64) (l)))), (5, .int .i64 (i : Int))] [] (resM Try.f19)) l.length ?_ ?_ 0 _ (by omega) rfl ?_
  · intro i hi next
    have w3 : IntKind.i64.wrap ((i : Int) + 1) = (i : Int) + 1 := IntWalk.i64_in _ (by omega)
    have ii : (i : Int) < l.length := by omega
    simp [go_sem, -map_replicate, -map_set, -map_append, -map_reverse, -map_take, -map_drop, -map_tail, -any_map, -all_map, -mapM_map, -map_map, slL, szI, ldI, zI, undL, apL, setI, rdI_get, Nat.add_one_le_iff, fillV, zeros1, zeros0, appendD, segV, lvO, goneOf, sliceD, bound, Nat.add_assoc, szL, ldL, setCs0, setCs1, setCs2, setCsA2, setCsA3, ldM, fM0, fM1, szM, zM, plM0, plM1, agM, paM, ldJ, fJ0, fJ1, fJ2, szJ, zJ, plJ0, plJ1, plJ2, agJ, paJ, hi, ii, w3]
    repeat refine ⟨by kernel_rfl, by kernel_rfl, ?_⟩
    refine next _ rfl ?_
    (refine canon_mk ?_; simp [method_specs_simp, ordIds_app, ordRen_app, ordIds_app2, ordRen_app2, -map_replicate, -map_set, -map_append, -map_reverse, -map_take, -map_drop, -map_tail, -map_map])
  · simp [go_sem, -map_replicate, -map_set, -map_append, -map_reverse, -map_take, -map_drop, -map_tail, -any_map, -all_map, -mapM_map, -map_map, slL, szI, ldI, zI, undL, apL, setI, rdI_get, Nat.add_one_le_iff, fillV, zeros1, zeros0, appendD, segV, lvO, goneOf, sliceD, bound, Nat.add_assoc, undL]
    simp [mvcgen_simp, -map_replicate, -map_set, -map_append, -map_reverse, -map_take, -map_drop, -map_tail, -any_map, -all_map, -mapM_map, -map_map, Try.f19]
  · (refine canon_mk ?_; simp [method_specs_simp, ordIds_app, ordRen_app, ordIds_app2, ordRen_app2, -map_replicate, -map_set, -map_append, -map_reverse, -map_take, -map_drop, -map_tail, -map_map])
theorem run_moments9 (p : Int) (l : List Int) (hl : l.length ≤ 1048576) : runv E1 11 [(V.agg [V.int .i64 (p), (V.list (List.length (l)) (List.map (V.int .i64) (l)))]), (V.agg [V.int .i64 (p), (V.list (List.length (l)) (List.map (V.int .i64) (l)))])] = some ⟨true, .bool true, [.agg [.undef, .undef], .agg [.undef, .undef]]⟩ := by
  have h1 := run_likeInts l hl
  have cdk : codeOk Try.f11.ntmps (Try.f11.body.getD .skip) = true := by kernel_rfl
  refine run_of_WLr (fn := Try.f11) rfl Try.func11 rfl ⟨by simp [Try.ntmps11], by simp [wideA, ints], cdk, by simp [Try.f11]⟩ rfl (by simp [rebOk, noId, adoptT, adoptA, adoptL, adoptC, depth]) ?_
  simp [go_sem, -map_replicate, -map_set, -map_append, -map_reverse, -map_take, -map_drop, -map_tail, -any_map, -all_map, -mapM_map, -map_map, slL, szI, ldI, zI, undL, apL, setI, rdI_get, Nat.add_one_le_iff, fillV, zeros1, zeros0, appendD, segV, lvO, goneOf, sliceD, bound, Nat.add_assoc, szL, ldL, setCs0, setCs1, setCs2, setCsA2, setCsA3, ldM, fM0, fM1, szM, zM, plM0, plM1, agM, paM, ldJ, fJ0, fJ1, fJ2, szJ, zJ, plJ0, plJ1, plJ2, agJ, paJ, h1]
  repeat refine ⟨by kernel_rfl, by kernel_rfl, ?_⟩
  simp [mvcgen_simp, -map_replicate, -map_set, -map_append, -map_reverse, -map_take, -map_drop, -map_tail, -any_map, -all_map, -mapM_map, -map_map, Try.f11]
theorem run_jacobi9 (p : Int) (a b : List Int) (ha : a.length ≤ 1048576) (hb : b.length ≤ 1048576) : runv E1 14 [(V.agg [V.int .i64 (p), (V.list (List.length (a)) (List.map (V.int .i64) (a))), (V.list (List.length (b)) (List.map (V.int .i64) (b)))]), (V.agg [V.int .i64 (p), (V.list (List.length (a)) (List.map (V.int .i64) (a))), (V.list (List.length (b)) (List.map (V.int .i64) (b)))])] = some ⟨true, .bool true, [.agg [.undef, .undef, .undef], .agg [.undef, .undef, .undef]]⟩ := by
  have h1 := run_likeInts a ha
  have h2 := run_likeInts b hb
  have cdk : codeOk Try.f14.ntmps (Try.f14.body.getD .skip) = true := by kernel_rfl
  refine run_of_WLr (fn := Try.f14) rfl Try.func14 rfl ⟨by simp [Try.ntmps14], by simp [wideA, ints], cdk, by simp [Try.f14]⟩ rfl (by simp [rebOk, noId, adoptT, adoptA, adoptL, adoptC, depth]) ?_
  simp [go_sem, -map_replicate, -map_set, -map_append, -map_reverse, -map_take, -map_drop, -map_tail, -any_map, -all_map, -mapM_map, -map_map, slL, szI, ldI, zI, undL, apL, setI, rdI_get, Nat.add_one_le_iff, fillV, zeros1, zeros0, appendD, segV, lvO, goneOf, sliceD, bound, Nat.add_assoc, szL, ldL, setCs0, setCs1, setCs2, setCsA2, setCsA3, ldM, fM0, fM1, szM, zM, plM0, plM1, agM, paM, ldJ, fJ0, fJ1, fJ2, szJ, zJ, plJ0, plJ1, plJ2, agJ, paJ, h1, h2]
  repeat refine ⟨by kernel_rfl, by kernel_rfl, ?_⟩
  simp [mvcgen_simp, -map_replicate, -map_set, -map_append, -map_reverse, -map_take, -map_drop, -map_tail, -any_map, -all_map, -mapM_map, -map_map, Try.f14]
end Go.Proofs.Ytacfkfdnncgjcaa.Ev
