/- The laws' helpers: rows5, sum. Conditions: none. -/
import Derived.Test.YtabnganndcmcnaaFnDH
import Derived.Test.YtabnganndcmcnaaFnBO
set_option linter.unusedSimpArgs false
set_option linter.unusedVariables false
namespace Go.Proofs.Ytabnganndcmcnaa.Ev
open Go Go.Proofs
open List (map_replicate map_set map_append map_reverse map_take map_drop map_tail any_map all_map mapM_map map_map)
set_option maxRecDepth 4000
set_option maxHeartbeats 4000000

theorem run_rows5 (r : List (List Int)) (hr : r.length ≤ 1048576) (hl : ∀ f, f ∈ r → f.length ≤ 1048576) :
    runv E1 62 [.list r.length (r.map LV), .list r.length (r.map LV)] = some ⟨true, .bool true, [.undef, .undef]⟩ := by
  have cdk : codeOk Try.f62.ntmps (Try.f62.body.getD .skip) = true := by kernel_rfl
  refine run_of_WLr (fn := Try.f62) rfl Try.func62 rfl ⟨by simp [Try.ntmps62], by simp [wideA, ints], cdk, by simp [Try.f62]⟩ rfl (by simp [rebOk, noId, adoptT, adoptA, adoptL, adoptC, depth]) ?_
  simp [go_sem, -map_replicate, -map_set, -map_append, -map_reverse, -map_take, -map_drop, -map_tail, -any_map, -all_map, -mapM_map, -map_map, slL, szI, ldI, zI, undL, apL, setI, rdI_get, Nat.add_one_le_iff, fillV, zeros1, zeros0, appendD, segV, lvO, goneOf, sliceD, bound, Nat.add_assoc, undR']
  rw [WL_loop]
  refine WL_for (keep := [0, 1, 5]) (rs := resM Try.f62) rfl (by kernel_rfl) (fun i => mkSt [(0, .list r.length (r.map LV)), (1, .list r.length (r.map LV)), (5, .int .i64 (i : Int))] [] (resM Try.f62)) r.length ?_ ?_ 0 _ (by omega) rfl ?_
  · intro i hi next
    have w3 : IntKind.i64.wrap ((i : Int) + 1) = (i : Int) + 1 := IntWalk.i64_in _ (by omega)
    have h1 := run_likeInts r[i] (by have := hl _ (List.getElem_mem hi); omega)
    have ii : (i : Int) < r.length := by omega
    simp [go_sem, -map_replicate, -map_set, -map_append, -map_reverse, -map_take, -map_drop, -map_tail, -any_map, -all_map, -mapM_map, -map_map, slL, szI, ldI, zI, undL, apL, setI, rdI_get, Nat.add_one_le_iff, fillV, zeros1, zeros0, appendD, segV, lvO, goneOf, sliceD, bound, Nat.add_assoc, szL, ldL, setCs0, setCs1, setCs2, setCsA2, setCsA3, ldM, fM0, fM1, szM, zM, plM0, plM1, agM, paM, ldJ, fJ0, fJ1, fJ2, szJ, zJ, plJ0, plJ1, plJ2, agJ, paJ, undR', slR', hi, ii, w3, LV, h1]
    repeat refine ⟨by kernel_rfl, by kernel_rfl, ?_⟩
    refine next _ rfl ?_
    (refine canon_mk ?_; simp [method_specs_simp, ordIds_app, ordRen_app, ordIds_app2, ordRen_app2, -map_replicate, -map_set, -map_append, -map_reverse, -map_take, -map_drop, -map_tail, -map_map])
  · simp [go_sem, -map_replicate, -map_set, -map_append, -map_reverse, -map_take, -map_drop, -map_tail, -any_map, -all_map, -mapM_map, -map_map, slL, szI, ldI, zI, undL, apL, setI, rdI_get, Nat.add_one_le_iff, fillV, zeros1, zeros0, appendD, segV, lvO, goneOf, sliceD, bound, Nat.add_assoc, undR']
    simp [mvcgen_simp, -map_replicate, -map_set, -map_append, -map_reverse, -map_take, -map_drop, -map_tail, -any_map, -all_map, -mapM_map, -map_map, Try.f62]
  · (refine canon_mk ?_; simp [method_specs_simp, ordIds_app, ordRen_app, ordIds_app2, ordRen_app2, -map_replicate, -map_set, -map_append, -map_reverse, -map_take, -map_drop, -map_tail, -map_map])
def smI (l : List Int) : Nat → Int
  | 0 => 0
  | n + 1 => smI l n + rdI l n
theorem smI_range {l : List Int} (hb : ∀ i, 0 ≤ rdI l i ∧ rdI l i ≤ 100000) : ∀ n, 0 ≤ smI l n ∧ smI l n ≤ 100000 * n
  | 0 => by simp [smI]
  | n + 1 => by have := smI_range hb n; have := hb n; rw [smI]; omega
theorem run_sumL (l : List Int) (hl : l.length ≤ 1000) (hb : ∀ i, 0 ≤ rdI l i ∧ rdI l i ≤ 100000) : runv E1 67 [(V.list (List.length (l)) (List.map (V.int .i64) (l)))] = some ⟨true, (V.int .i64 (smI l l.length)), [.undef]⟩ := by
  have cdk : codeOk Try.f67.ntmps (Try.f67.body.getD .skip) = true := by kernel_rfl
  refine run_of_WLr (fn := Try.f67) rfl Try.func67 rfl ⟨by simp [Try.ntmps67], by simp [wideA, ints], cdk, by simp [Try.f67]⟩ rfl (by simp [rebOk, noId, adoptT, adoptA, adoptL, adoptC, depth]) ?_
  simp [go_sem, -map_replicate, -map_set, -map_append, -map_reverse, -map_take, -map_drop, -map_tail, -any_map, -all_map, -mapM_map, -map_map, slL, szI, ldI, zI, undL, apL, setI, rdI_get, Nat.add_one_le_iff, fillV, zeros1, zeros0, appendD, segV, lvO, goneOf, sliceD, bound, Nat.add_assoc, undL]
  rw [WL_loop]
  refine WL_for (keep := [0, 3, 4]) (rs := resM Try.f67) rfl (by kernel_rfl) (fun i => mkSt [(0, (V.list (List.length (l)) (List.map (V.int .i64) (l)))), (3, .int .i64 (smI l i)), (4, .int .i64 (i : Int))] [] (resM Try.f67)) l.length ?_ ?_ 0 _ (by omega) rfl ?_
  · intro i hi next
    have w3 : IntKind.i64.wrap ((i : Int) + 1) = (i : Int) + 1 := IntWalk.i64_in _ (by omega)
    have ii : (i : Int) < l.length := by omega
    have h1 := smI_range hb i
    have h2 := hb i
    have w4 : IntKind.i64.wrap (smI l i + rdI l i) = smI l i + rdI l i := IntWalk.i64_in _ (by omega)
    have e : smI l (i + 1) = smI l i + rdI l i := rfl
    rw [e] at next
    simp [go_sem, -map_replicate, -map_set, -map_append, -map_reverse, -map_take, -map_drop, -map_tail, -any_map, -all_map, -mapM_map, -map_map, slL, szI, ldI, zI, undL, apL, setI, rdI_get, Nat.add_one_le_iff, fillV, zeros1, zeros0, appendD, segV, lvO, goneOf, sliceD, bound, Nat.add_assoc, szL, ldL, setCs0, setCs1, setCs2, setCsA2, setCsA3, ldM, fM0, fM1, szM, zM, plM0, plM1, agM, paM, ldJ, fJ0, fJ1, fJ2, szJ, zJ, plJ0, plJ1, plJ2, agJ, paJ, hi, ii, w3, w4]
    repeat refine ⟨by kernel_rfl, by kernel_rfl, ?_⟩
    refine next _ rfl ?_
    (refine canon_mk ?_; simp [method_specs_simp, ordIds_app, ordRen_app, ordIds_app2, ordRen_app2, -map_replicate, -map_set, -map_append, -map_reverse, -map_take, -map_drop, -map_tail, -map_map])
  · simp [go_sem, -map_replicate, -map_set, -map_append, -map_reverse, -map_take, -map_drop, -map_tail, -any_map, -all_map, -mapM_map, -map_map, slL, szI, ldI, zI, undL, apL, setI, rdI_get, Nat.add_one_le_iff, fillV, zeros1, zeros0, appendD, segV, lvO, goneOf, sliceD, bound, Nat.add_assoc, undL]
    simp [mvcgen_simp, -map_replicate, -map_set, -map_append, -map_reverse, -map_take, -map_drop, -map_tail, -any_map, -all_map, -mapM_map, -map_map, Try.f67]
  · (refine canon_mk ?_; simp [method_specs_simp, ordIds_app, ordRen_app, ordIds_app2, ordRen_app2, -map_replicate, -map_set, -map_append, -map_reverse, -map_take, -map_drop, -map_tail, -map_map, smI])
end Go.Proofs.Ytabnganndcmcnaa.Ev
