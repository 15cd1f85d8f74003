/- The dice of the laws: as the source of the draws. Conditions: none. -/
import Derived.Test.YtacfkfdnncgjcaaFnDA
set_option linter.unusedSimpArgs false
set_option linter.unusedVariables false
namespace Go.Proofs.Ytacfkfdnncgjcaa.Ev
open Go Go.Proofs
open List (map_replicate map_set map_append map_reverse map_take map_drop map_tail any_map all_map mapM_map map_map)
set_option maxRecDepth 4000
set_option maxHeartbeats 4000000

theorem fD0 : fldT Try.prog 66 0 = some (0, false, 1) := by kernel_rfl
theorem fD1 : fldT Try.prog 66 1 = some (1, false, 1) := by kernel_rfl
theorem fD2 : fldT Try.prog 66 2 = some (2, false, 1) := by kernel_rfl
theorem zD : zeroT Try.prog 66 = some [.nils, .int .i64 0, .int .u64 0] := by kernel_rfl
theorem agD : aggT Try.prog 66 = some true := by kernel_rfl
theorem paD : plAll Try.prog 66 = true := by kernel_rfl
theorem plD0 : plT Try.prog 66 0 = some (0, 1) := by kernel_rfl
theorem plD1 : plT Try.prog 66 1 = some (1, 1) := by kernel_rfl
theorem plD2 : plT Try.prog 66 2 = some (2, 1) := by kernel_rfl
theorem run_below (s : Src) (n : Int) : ∃ (s' : Src) (x : Int), (n < 1 → x = 0) ∧ (1 ≤ n → 0 ≤ x ∧ x < n) ∧
    runv E1 8 [(V.uptr [V.list (s).code.length ((s).code.map (V.int .u8)), V.int .i64 (s).i, V.int .u64 (s).h]), (V.int .i64 (n))] = some ⟨true, (V.int .i64 (x)), [(V.uptr [V.list (s').code.length ((s').code.map (V.int .u8)), V.int .i64 (s').i, V.int .u64 (s').h]), .undef]⟩ := by
  by_cases hn : n < 1
  · refine ⟨s, 0, fun _ => rfl, fun h => by omega, ?_⟩
    have cdk : codeOk Try.f8.ntmps (Try.f8.body.getD .skip) = true := by kernel_rfl
    refine run_of_WLp (fn := Try.f8) rfl Try.func8 rfl ⟨by simp [Try.ntmps8], by simp [wideA, ints], cdk, by simp [Try.f8]⟩ rfl (by simp [rebOk, noId, adoptT, adoptA, adoptL, adoptC, depth]) (by simp [pinned, adoptT, adoptA, adoptL, adoptC]) ?_
    simp [go_sem, -map_replicate, -map_set, -map_append, -map_reverse, -map_take, -map_drop, -map_tail, -any_map, -all_map, -mapM_map, -map_map, slL, szI, ldI, zI, undL, apL, setI, rdI_get, Nat.add_one_le_iff, fillV, zeros1, zeros0, appendD, segV, lvO, goneOf, sliceD, bound, Nat.add_assoc, hn]
    simp [mvcgen_simp, -map_replicate, -map_set, -map_append, -map_reverse, -map_take, -map_drop, -map_tail, -any_map, -all_map, -mapM_map, -map_map, Try.f8, isLR, hasU]
  obtain ⟨h1, e1⟩ : ∃ h1, IntKind.u64.wrap (IntKind.u64.wrap (s.h * 6364136223846793005) + 1442695040888963407) = h1 := ⟨_, rfl⟩
  have hr := u64_range (IntKind.u64.wrap (s.h * 6364136223846793005) + 1442695040888963407)
  rw [e1] at hr
  have hb := bits_low (h1.fdiv 8589934592) (by rw [Int.fdiv_eq_ediv_of_nonneg _ (by omega)]; omega)
  obtain ⟨y, hg⟩ : ∃ y, Go.bits .and .u64 (h1.fdiv 8589934592) 16777215 = y := ⟨_, rfl⟩
  rw [hg] at hb
  have w2 : IntKind.i64.wrap y = y := IntWalk.i64_in _ (by omega)
  have w5 : ¬ n = 0 := by omega
  have hl := s.hl
  by_cases hc : s.i < s.code.length
  · have hz := s.hb _ (List.getElem_mem hc)
    rw [rdI_get hc] at hz
    have hci : (s.i : Int) < s.code.length := by omega
    have w1 : IntKind.i64.wrap ((s.i : Int) + 1) = (s.i : Int) + 1 := IntWalk.i64_in _ (by omega)
    have w3 : IntKind.i64.wrap (rdI s.code s.i) = rdI s.code s.i := IntWalk.i64_in _ (by omega)
    have w4 : IntKind.i64.wrap (y + rdI s.code s.i) = y + rdI s.code s.i := IntWalk.i64_in _ (by omega)
    have ht := tmod_small (x := y + rdI s.code s.i) (n := n) (by omega) (by omega)
    refine ⟨⟨s.code, s.i + 1, h1, s.hb, s.hl, hc⟩, (y + rdI s.code s.i).tmod n, fun h => absurd h hn, fun h => ⟨ht.1, ht.2.2⟩, ?_⟩
    have cdk : codeOk Try.f8.ntmps (Try.f8.body.getD .skip) = true := by kernel_rfl
    refine run_of_WLp (fn := Try.f8) rfl Try.func8 rfl ⟨by simp [Try.ntmps8], by simp [wideA, ints], cdk, by simp [Try.f8]⟩ rfl (by simp [rebOk, noId, adoptT, adoptA, adoptL, adoptC, depth]) (by simp [pinned, adoptT, adoptA, adoptL, adoptC]) ?_
    simp [go_sem, -map_replicate, -map_set, -map_append, -map_reverse, -map_take, -map_drop, -map_tail, -any_map, -all_map, -mapM_map, -map_map, slL, szI, ldI, zI, undL, apL, setI, rdI_get, Nat.add_one_le_iff, fillV, zeros1, zeros0, appendD, segV, lvO, goneOf, sliceD, bound, Nat.add_assoc, hn, hc, hci, undU8', slU8, ldU8', ldU64, szU64, ldInt', szInt', ldU8S, undU64, undU8n, undI64', fD0, fD1, fD2, shOp, convD, e1, hg, w1, w2, w3, w4, w5, setI8, setI81]
    repeat refine ⟨by kernel_rfl, by kernel_rfl, ?_⟩
    simp [mvcgen_simp, -map_replicate, -map_set, -map_append, -map_reverse, -map_take, -map_drop, -map_tail, -any_map, -all_map, -mapM_map, -map_map, Try.f8, isLR, hasU]
  · have hci : ¬ (s.i : Int) < s.code.length := by omega
    have ht := tmod_small (x := y) (n := n) (by omega) (by omega)
    refine ⟨⟨s.code, s.i, h1, s.hb, s.hl, s.hi⟩, y.tmod n, fun h => absurd h hn, fun h => ⟨ht.1, ht.2.2⟩, ?_⟩
    have cdk : codeOk Try.f8.ntmps (Try.f8.body.getD .skip) = true := by kernel_rfl
    refine run_of_WLp (fn := Try.f8) rfl Try.func8 rfl ⟨by simp [Try.ntmps8], by simp [wideA, ints], cdk, by simp [Try.f8]⟩ rfl (by simp [rebOk, noId, adoptT, adoptA, adoptL, adoptC, depth]) (by simp [pinned, adoptT, adoptA, adoptL, adoptC]) ?_
    simp [go_sem, -map_replicate, -map_set, -map_append, -map_reverse, -map_take, -map_drop, -map_tail, -any_map, -all_map, -mapM_map, -map_map, slL, szI, ldI, zI, undL, apL, setI, rdI_get, Nat.add_one_le_iff, fillV, zeros1, zeros0, appendD, segV, lvO, goneOf, sliceD, bound, Nat.add_assoc, hn, hc, hci, undU8', slU8, ldU8', ldU64, szU64, ldInt', szInt', ldU8S, undU64, undU8n, undI64', fD0, fD1, fD2, shOp, convD, e1, hg, w2, w5, setI8, setI81]
    repeat refine ⟨by kernel_rfl, by kernel_rfl, ?_⟩
    simp [mvcgen_simp, -map_replicate, -map_set, -map_append, -map_reverse, -map_take, -map_drop, -map_tail, -any_map, -all_map, -mapM_map, -map_map, Try.f8, isLR, hasU]
theorem run_roll (code : List Int) (seed : Int) (hb : ∀ z, z ∈ code → 0 ≤ z ∧ z ≤ 255) (hl : code.length ≤ 4096) : ∃ s : Src,
    runv E1 7 [.list code.length (code.map (V.int .u8)), .int .u64 seed] = some ⟨true, (V.uptr [V.list (s).code.length ((s).code.map (V.int .u8)), V.int .i64 (s).i, V.int .u64 (s).h]), [.any, .any]⟩ := by
  have w0 : IntKind.u64.wrap (code.length : Int) = code.length := u64_in (by omega)
  let step : Nat → Int → Int := fun i h => IntKind.u64.wrap (IntKind.u64.wrap (IntKind.u64.wrap (h * 1099511628211) + rdI code i) + 5)
  let hs : Nat → Int := fun i => Nat.rec (IntKind.u64.wrap (IntKind.u64.wrap (seed * 8263) + code.length)) step i
  refine ⟨⟨code, 0, hs code.length, hb, hl, Nat.zero_le _⟩, ?_⟩
  have hs0 : hs 0 = IntKind.u64.wrap (IntKind.u64.wrap (seed * 8263) + code.length) := rfl
  have hsn : ∀ i, hs (i + 1) = IntKind.u64.wrap (IntKind.u64.wrap (IntKind.u64.wrap (hs i * 1099511628211) + rdI code i) + 5) := fun i => rfl
  clear_value hs
  have cdk : codeOk Try.f7.ntmps (Try.f7.body.getD .skip) = true := by kernel_rfl
  refine run_of_WLr (fn := Try.f7) rfl Try.func7 rfl ⟨by simp [Try.ntmps7], by simp [wideA, ints], cdk, by simp [Try.f7]⟩ rfl (by simp [rebOk, noId, adoptT, adoptA, adoptL, adoptC, depth]) ?_
  simp [go_sem, -map_replicate, -map_set, -map_append, -map_reverse, -map_take, -map_drop, -map_tail, -any_map, -all_map, -mapM_map, -map_map, slL, szI, ldI, zI, undL, apL, setI, rdI_get, Nat.add_one_le_iff, fillV, zeros1, zeros0, appendD, segV, lvO, goneOf, sliceD, bound, Nat.add_assoc, undU8', slU8, ldU8', ldU64, szU64, undInt', undU64, fD2, zD, agD, paD, plD0, plD1, plD2, convD, w0]
  rw [WL_loop]
  refine WL_for (keep := [0, 5, 6]) (rs := resM Try.f7) rfl (by kernel_rfl) (fun i => mkSt [(0, .list code.length (code.map (V.int .u8))), (5, .ptr 0 0 0), (6, .int .i64 (i : Int))] [some (⟨0, 1, 1, [.list code.length (code.map (V.int .u8)), .int .i64 0, .int .u64 (hs i)]⟩)] (resM Try.f7)) code.length ?_ ?_ 0 _ (by omega) rfl ?_
  · intro i hi next
    have hii : (i : Int) < code.length := by omega
    have h4 : (i : Int) < 4096 := by omega
    have hz := hb _ (List.getElem_mem hi)
    rw [rdI_get hi] at hz
    have w3 : IntKind.u64.wrap (rdI code i) = rdI code i := u64_in (by omega)
    have w1 : IntKind.i64.wrap ((i : Int) + 1) = (i : Int) + 1 := IntWalk.i64_in _ (by omega)
    have hn := hsn i
    simp [go_sem, -map_replicate, -map_set, -map_append, -map_reverse, -map_take, -map_drop, -map_tail, -any_map, -all_map, -mapM_map, -map_map, slL, szI, ldI, zI, undL, apL, setI, rdI_get, Nat.add_one_le_iff, fillV, zeros1, zeros0, appendD, segV, lvO, goneOf, sliceD, bound, Nat.add_assoc, hi, hii, h4, undU8', slU8, ldU8', ldU64, szU64, undU64, undU8n, fD2, convD, w1, w3, setI8]
    repeat refine ⟨by kernel_rfl, by kernel_rfl, ?_⟩
    refine next _ rfl ?_
    (refine canon_mk ?_; simp [method_specs_simp, ordIds_app, ordRen_app, ordIds_app2, ordRen_app2, -map_replicate, -map_set, -map_append, -map_reverse, -map_take, -map_drop, -map_tail, -map_map, hn])
  · simp [go_sem, -map_replicate, -map_set, -map_append, -map_reverse, -map_take, -map_drop, -map_tail, -any_map, -all_map, -mapM_map, -map_map, slL, szI, ldI, zI, undL, apL, setI, rdI_get, Nat.add_one_le_iff, fillV, zeros1, zeros0, appendD, segV, lvO, goneOf, sliceD, bound, Nat.add_assoc, undU8', slU8]
    simp [mvcgen_simp, -map_replicate, -map_set, -map_append, -map_reverse, -map_take, -map_drop, -map_tail, -any_map, -all_map, -mapM_map, -map_map, Try.f7, isLR, hasU]
  · (refine canon_mk ?_; simp [method_specs_simp, ordIds_app, ordRen_app, ordIds_app2, ordRen_app2, -map_replicate, -map_set, -map_append, -map_reverse, -map_take, -map_drop, -map_tail, -map_map, hs0])
end Go.Proofs.Ytacfkfdnncgjcaa.Ev
