/- ExpandBy and ConnectJacobi: both texts and the laws. Conditions: none. -/
import Derived.Test.YtacfkfdnncgjcaaGreatFnBG
set_option linter.unusedSimpArgs false
set_option linter.unusedVariables false
namespace Go.Proofs.YtacfkfdnncgjcaaGreat.Ev
open Go Go.Proofs
open List (map_replicate map_set map_append map_reverse map_take map_drop map_tail any_map all_map mapM_map map_map)
set_option maxRecDepth 4000
set_option maxHeartbeats 4000000

theorem run_l01Poly (p : Int) (f : List Int) (hl : f.length ≤ 1048576) : runv E1 130 [.int .i64 p, (V.list (List.length (f)) (List.map (V.int .i64) (f)))] = some ⟨true, .bool (polyB p f), [.undef, .undef]⟩ := by
  have cdk : codeOk Tryz.f130.ntmps (Tryz.f130.body.getD .skip) = true := by kernel_rfl
  refine run_of_WLr (fn := Tryz.f130) rfl Tryz.func130 rfl ⟨by simp [Tryz.ntmps130], by simp [wideA, ints], cdk, by simp [Tryz.f130]⟩ rfl (by simp [rebOk, noId, adoptT, adoptA, adoptL, adoptC, depth]) ?_
  simp [go_sem, -map_replicate, -map_set, -map_append, -map_reverse, -map_take, -map_drop, -map_tail, -any_map, -all_map, -mapM_map, -map_map, slL, szI, ldI, zI, undL, apL, setI, rdI_get, Nat.add_one_le_iff, fillV, zeros1, zeros0, appendD, segV, lvO, goneOf, sliceD, bound, Nat.add_assoc]
  rw [WL_loop]
  refine WL_forP (keep := [0, 1, 5]) (rs := resM Tryz.f130) rfl (by kernel_rfl) (fun i => mkSt [(0, .int .i64 p), (1, (V.list (List.length (f)) (List.map (V.int .i64) (f)))), (5, .int .i64 (i : Int))] [] (resM Tryz.f130)) f.length (fun i => ∀ j, j < i → hasB p (rdI f j) = true) ?_ ?_ 0 _ (by omega) (by omega) rfl ?_
  · intro i hi hP next
    have w3 : IntKind.i64.wrap ((i : Int) + 1) = (i : Int) + 1 := IntWalk.i64_in _ (by omega)
    by_cases c : hasB p (rdI f i) = true
    · have r := hasB_range c
      have c1 : ¬ rdI f i < 0 := by omega
      have c2 : ¬ p ≤ rdI f i := by omega
      simp [go_sem, -map_replicate, -map_set, -map_append, -map_reverse, -map_take, -map_drop, -map_tail, -any_map, -all_map, -mapM_map, -map_map, slL, szI, ldI, zI, undL, apL, setI, rdI_get, Nat.add_one_le_iff, fillV, zeros1, zeros0, appendD, segV, lvO, goneOf, sliceD, bound, Nat.add_assoc, hi, w3, c1, c2]
      repeat refine ⟨by kernel_rfl, by kernel_rfl, ?_⟩
      refine next _ (fun j hj => ?_) rfl ?_
      · by_cases e : j = i
        · subst e; exact c
        · exact hP j (by omega)
      · (refine canon_mk ?_; simp [method_specs_simp, ordIds_app, ordRen_app, ordIds_app2, ordRen_app2, -map_replicate, -map_set, -map_append, -map_reverse, -map_take, -map_drop, -map_tail, -map_map])
    · have e : polyB p f = false := by
        have : f.all (hasB p) = false := by
          rw [List.all_eq_false]; exact ⟨_, List.getElem_mem hi, by rw [rdI_get hi]; exact c⟩
        simp [polyB, this]
      by_cases c1 : rdI f i < 0
      · simp [go_sem, -map_replicate, -map_set, -map_append, -map_reverse, -map_take, -map_drop, -map_tail, -any_map, -all_map, -mapM_map, -map_map, slL, szI, ldI, zI, undL, apL, setI, rdI_get, Nat.add_one_le_iff, fillV, zeros1, zeros0, appendD, segV, lvO, goneOf, sliceD, bound, Nat.add_assoc, hi, w3, c1]
        repeat refine ⟨by kernel_rfl, by kernel_rfl, ?_⟩
        simp [mvcgen_simp, -map_replicate, -map_set, -map_append, -map_reverse, -map_take, -map_drop, -map_tail, -any_map, -all_map, -mapM_map, -map_map, Tryz.f130, e]
      · have c2 : p ≤ rdI f i := by
          simp only [hasB, Bool.and_eq_true, decide_eq_true_eq] at c; omega
        simp [go_sem, -map_replicate, -map_set, -map_append, -map_reverse, -map_take, -map_drop, -map_tail, -any_map, -all_map, -mapM_map, -map_map, slL, szI, ldI, zI, undL, apL, setI, rdI_get, Nat.add_one_le_iff, fillV, zeros1, zeros0, appendD, segV, lvO, goneOf, sliceD, bound, Nat.add_assoc, hi, w3, c1, c2]
        repeat refine ⟨by kernel_rfl, by kernel_rfl, ?_⟩
        simp [mvcgen_simp, -map_replicate, -map_set, -map_append, -map_reverse, -map_take, -map_drop, -map_tail, -any_map, -all_map, -mapM_map, -map_map, Tryz.f130, e]
  · intro hP
    have hall : f.all (hasB p) = true := by
      rw [List.all_eq_true]
      intro x hx
      obtain ⟨j, hj, rfl⟩ := List.getElem_of_mem hx
      rw [rdI_get hj]; exact hP j hj
    by_cases c1 : (f.length : Int) ≤ 25
    · have c1' : f.length ≤ 25 := by omega
      by_cases c2 : f = []
      · subst c2
        simp [go_sem, -map_replicate, -map_set, -map_append, -map_reverse, -map_take, -map_drop, -map_tail, -any_map, -all_map, -mapM_map, -map_map, slL, szI, ldI, zI, undL, apL, setI, rdI_get, Nat.add_one_le_iff, fillV, zeros1, zeros0, appendD, segV, lvO, goneOf, sliceD, bound, Nat.add_assoc]
        simp [mvcgen_simp, -map_replicate, -map_set, -map_append, -map_reverse, -map_take, -map_drop, -map_tail, -any_map, -all_map, -mapM_map, -map_map, Tryz.f130, polyB]
      · have h0 : 0 < f.length := List.length_pos_iff.2 c2
        have w : IntKind.i64.wrap ((f.length : Int) - 1) = ((f.length - 1 : Nat) : Int) := by rw [IntWalk.i64_in _ (by omega)]; omega
        have k1 : f.length - 1 < f.length := by omega
        have k2 : ((f.length - 1 : Nat) : Int) < f.length := by omega
        simp [go_sem, -map_replicate, -map_set, -map_append, -map_reverse, -map_take, -map_drop, -map_tail, -any_map, -all_map, -mapM_map, -map_map, slL, szI, ldI, zI, undL, apL, setI, rdI_get, Nat.add_one_le_iff, fillV, zeros1, zeros0, appendD, segV, lvO, goneOf, sliceD, bound, Nat.add_assoc, c1, c1', c2, w, k1, k2]
        simp [mvcgen_simp, -map_replicate, -map_set, -map_append, -map_reverse, -map_take, -map_drop, -map_tail, -any_map, -all_map, -mapM_map, -map_map, Tryz.f130, polyB, c1', hall, c2]
    · have c1' : ¬ f.length ≤ 25 := by omega
      simp [go_sem, -map_replicate, -map_set, -map_append, -map_reverse, -map_take, -map_drop, -map_tail, -any_map, -all_map, -mapM_map, -map_map, slL, szI, ldI, zI, undL, apL, setI, rdI_get, Nat.add_one_le_iff, fillV, zeros1, zeros0, appendD, segV, lvO, goneOf, sliceD, bound, Nat.add_assoc, c1, c1']
      simp [mvcgen_simp, -map_replicate, -map_set, -map_append, -map_reverse, -map_take, -map_drop, -map_tail, -any_map, -all_map, -mapM_map, -map_map, Tryz.f130, polyB, c1']
  · (refine canon_mk ?_; simp [method_specs_simp, ordIds_app, ordRen_app, ordIds_app2, ordRen_app2, -map_replicate, -map_set, -map_append, -map_reverse, -map_take, -map_drop, -map_tail, -map_map])
def expR (p : Int) (a b f : List Int) : List Int × Int := if jacB p a b && polyB p f then (if f.length ≤ a.length + 1 then (expandP p a b f, 0) else ([], 2)) else ([], 1)
theorem expR_len (p : Int) (a b f : List Int) (ha : a.length ≤ 1048576) (hb : b.length ≤ 1048576) (hc : f.length ≤ 1048576) : (expR p a b f).1.length ≤ 1048576 := by
  unfold expR
  (repeat' split) <;> simp [expandP_len] <;> omega
theorem polyB_all {p : Int} {f : List Int} (h : polyB p f = true) : f.all (hasB p) = true := by
  simp only [polyB, Bool.and_eq_true] at h; exact h.1.2
end Go.Proofs.YtacfkfdnncgjcaaGreat.Ev
