/- Draws of numbers and paths. Conditions: none. -/
/- Draws of paths and of their numbers. Conditions: none. -/
/- Draws of lists and of Jacobi data. Conditions: none. -/
/- Draws of Jacobi data. Conditions: none. -/
/- Draws of Jacobi data with numbers and paths. Conditions: none. -/
import Derived.Test.YtabnganndcmcnaaFnDA
import Derived.Test.YtabnganndcmcnaaFnI
import Derived.Test.YtabnganndcmcnaaFnBB
import Derived.Test.YtabnganndcmcnaaFnY
set_option linter.unusedSimpArgs false
set_option linter.unusedVariables false
namespace Go.Proofs.Ytabnganndcmcnaa.Ev
open Go Go.Proofs
open List (map_replicate map_set map_append map_reverse map_take map_drop map_tail any_map all_map mapM_map map_map)
set_option maxRecDepth 4000
set_option maxHeartbeats 4000000

theorem zerosV4 : zerosV 4 [V.int .i64 0] = [.int .i64 0, .int .i64 0, .int .i64 0, .int .i64 0] := rfl
theorem zerosV3 : zerosV 3 [V.int .i64 0] = [.int .i64 0, .int .i64 0, .int .i64 0] := rfl
theorem zerosV5 : zerosV 5 [V.int .i64 0] = [.int .i64 0, .int .i64 0, .int .i64 0, .int .i64 0, .int .i64 0] := rfl
theorem zerosV12 : zerosV 12 [V.int .i64 0] = List.replicate 12 (.int .i64 0) := rfl
theorem run_l01Pick0 (s : Src) (l : List Int) (h0 : 0 < l.length) (hl : l.length ≤ 4096) : ∃ (s' : Src) (x : Int), x ∈ l ∧
    runv E0 158 [(V.uptr [V.list (s).code.length ((s).code.map (V.int .u8)), V.int .i64 (s).i, V.int .u64 (s).h]), .list l.length (l.map (V.int .i64))] = some ⟨true, (V.int .i64 (x)), [(V.uptr [V.list (s').code.length ((s').code.map (V.int .u8)), V.int .i64 (s').i, V.int .u64 (s').h]), .undef]⟩ := by
  have w0 : IntKind.i64.wrap (l.length : Int) = l.length := IntWalk.i64_in _ (by omega)
  obtain ⟨s', x, _, hx, h1⟩ := run_l01Next0 s l.length
  have hx := hx (by omega)
  obtain ⟨k, rfl⟩ : ∃ k : Nat, x = k := ⟨x.toNat, by omega⟩
  have hk : k < l.length := by omega
  have hk2 : (k : Int) < l.length := by omega
  have k0 : (0 : Int) ≤ (k : Int) := by omega
  refine ⟨s', l[k], List.getElem_mem hk, ?_⟩
  rw [rdI_get hk]
  have cdk : codeOk Try.f158.ntmps (Try.f158.body.getD .skip) = true := by kernel_rfl
  refine run_of_WL (fn := Try.f158) rfl Try.func158 rfl ⟨by simp [Try.ntmps158], by simp [wideA, ints], cdk, by simp [Try.f158]⟩ ?_
  simp [go_sem, -map_replicate, -map_set, -map_append, -map_reverse, -map_take, -map_drop, -map_tail, -any_map, -all_map, -mapM_map, -map_map, slL, szI, ldI, zI, undL, apL, setI, rdI_get, Nat.add_one_le_iff, fillV, zeros1, zeros0, appendD, segV, lvO, goneOf, sliceD, bound, Nat.add_assoc, undI64, undInt, convD, w0, h1, hk, hk2, k0]
  repeat refine ⟨by kernel_rfl, by kernel_rfl, ?_⟩
  simp [mvcgen_simp, -map_replicate, -map_set, -map_append, -map_reverse, -map_take, -map_drop, -map_tail, -any_map, -all_map, -mapM_map, -map_map, Try.f158, isLR, hasU]
theorem run_l01Pick (s : Src) (l : List Int) (h0 : 0 < l.length) (hl : l.length ≤ 4096) : ∃ (s' : Src) (x : Int), x ∈ l ∧
    runv E1 158 [(V.uptr [V.list (s).code.length ((s).code.map (V.int .u8)), V.int .i64 (s).i, V.int .u64 (s).h]), .list l.length (l.map (V.int .i64))] = some ⟨true, (V.int .i64 (x)), [(V.uptr [V.list (s').code.length ((s').code.map (V.int .u8)), V.int .i64 (s').i, V.int .u64 (s').h]), .undef]⟩ := by
  obtain ⟨s', x, h1, h2⟩ := run_l01Pick0 s l h0 hl
  exact ⟨s', x, h1, up h2⟩
theorem run_l01Near (s : Src) (m : Int) (hm : 0 ≤ m + 1 ∧ m ≤ 9223372036854775806) : ∃ (s' : Src) (x : Int), (x = -1 ∨ x = m + 1 ∨ x = 1099511627776 ∨ x = -4611686018427387904 ∨ (0 ≤ x ∧ x ≤ m) ∨ x = 0) ∧
    runv E1 166 [(V.uptr [V.list (s).code.length ((s).code.map (V.int .u8)), V.int .i64 (s).i, V.int .u64 (s).h]), (V.int .i64 (m))] = some ⟨true, (V.int .i64 (x)), [(V.uptr [V.list (s').code.length ((s').code.map (V.int .u8)), V.int .i64 (s').i, V.int .u64 (s').h]), .undef]⟩ := by
  have w0 : IntKind.i64.wrap (m + 1) = m + 1 := IntWalk.i64_in _ (by omega)
  obtain ⟨s1, x1, _, hx1, h1⟩ := run_l01Next s 14
  by_cases c : x1 = 0
  · obtain ⟨s2, x2, hx2, h2⟩ := run_l01Pick s1 [-1, m + 1, 1099511627776, -4611686018427387904] (by simp) (by simp)
    simp only [List.map_cons, List.map_nil, List.length_cons, List.length_nil, Nat.reduceAdd] at h2
    refine ⟨s2, x2, ?_, ?_⟩
    · simp only [List.mem_cons, List.not_mem_nil, or_false] at hx2; omega
    rw [c] at h1
    have cdk : codeOk Try.f166.ntmps (Try.f166.body.getD .skip) = true := by kernel_rfl
    refine run_of_WLp (fn := Try.f166) rfl Try.func166 rfl ⟨by simp [Try.ntmps166], by simp [wideA, ints], cdk, by simp [Try.f166]⟩ rfl (by simp [rebOk, noId, adoptT, adoptA, adoptL, adoptC, depth]) (by simp [pinned, adoptT, adoptA, adoptL, adoptC]) ?_
    simp [go_sem, -map_replicate, -map_set, -map_append, -map_reverse, -map_take, -map_drop, -map_tail, -any_map, -all_map, -mapM_map, -map_map, slL, szI, ldI, zI, undL, apL, setI, rdI_get, Nat.add_one_le_iff, fillV, zeros1, zeros0, appendD, segV, lvO, goneOf, sliceD, bound, Nat.add_assoc, w0, h1, h2, zerosV4, fillV]
    repeat refine ⟨by kernel_rfl, by kernel_rfl, ?_⟩
    simp [mvcgen_simp, -map_replicate, -map_set, -map_append, -map_reverse, -map_take, -map_drop, -map_tail, -any_map, -all_map, -mapM_map, -map_map, Try.f166, isLR, hasU]
  · obtain ⟨s2, x2, hx2, hx3, h2⟩ := run_l01Next s1 (m + 1)
    refine ⟨s2, x2, ?_, ?_⟩
    · by_cases e : m + 1 < 1
      · have := hx2 e; omega
      · have := hx3 (by omega); omega
    have cdk : codeOk Try.f166.ntmps (Try.f166.body.getD .skip) = true := by kernel_rfl
    refine run_of_WLp (fn := Try.f166) rfl Try.func166 rfl ⟨by simp [Try.ntmps166], by simp [wideA, ints], cdk, by simp [Try.f166]⟩ rfl (by simp [rebOk, noId, adoptT, adoptA, adoptL, adoptC, depth]) (by simp [pinned, adoptT, adoptA, adoptL, adoptC]) ?_
    simp [go_sem, -map_replicate, -map_set, -map_append, -map_reverse, -map_take, -map_drop, -map_tail, -any_map, -all_map, -mapM_map, -map_map, slL, szI, ldI, zI, undL, apL, setI, rdI_get, Nat.add_one_le_iff, fillV, zeros1, zeros0, appendD, segV, lvO, goneOf, sliceD, bound, Nat.add_assoc, w0, h1, h2, c, zerosV4, fillV]
    repeat refine ⟨by kernel_rfl, by kernel_rfl, ?_⟩
    simp [mvcgen_simp, -map_replicate, -map_set, -map_append, -map_reverse, -map_take, -map_drop, -map_tail, -any_map, -all_map, -mapM_map, -map_map, Try.f166, isLR, hasU]
end Go.Proofs.Ytabnganndcmcnaa.Ev

set_option linter.unusedSimpArgs false
set_option linter.unusedVariables false
namespace Go.Proofs.Ytabnganndcmcnaa.Ev
open Go Go.Proofs
open List (map_replicate map_set map_append map_reverse map_take map_drop map_tail any_map all_map mapM_map map_map)
set_option maxRecDepth 4000
set_option maxHeartbeats 4000000

theorem run_l09Numbers (s : Src) (m : Int) (hm : 0 ≤ m + 1 ∧ m ≤ 9223372036854775806) : ∃ (s' : Src) (n i k h : Int),
    runv E1 157 [(V.uptr [V.list (s).code.length ((s).code.map (V.int .u8)), V.int .i64 (s).i, V.int .u64 (s).h]), (V.int .i64 (m))] = some ⟨true, .tup [(V.int .i64 (n)), (V.int .i64 (i)), (V.int .i64 (k)), (V.int .i64 (h))], [(V.uptr [V.list (s').code.length ((s').code.map (V.int .u8)), V.int .i64 (s').i, V.int .u64 (s').h]), .undef]⟩ := by
  obtain ⟨s1, n, _, h1⟩ := run_l01Near s m hm
  obtain ⟨s2, a, _, _, h2⟩ := run_l01Next s1 5
  obtain ⟨s3, i, _, h3⟩ := run_l01Pick s2 [0, 0, 1, a] (by simp) (by simp)
  obtain ⟨s4, b, _, _, h4⟩ := run_l01Next s3 5
  obtain ⟨s5, k, _, h5⟩ := run_l01Pick s4 [0, 0, 1, b] (by simp) (by simp)
  obtain ⟨s6, c, _, _, h6⟩ := run_l01Next s5 30
  simp only [List.map_cons, List.map_nil, List.length_cons, List.length_nil, Nat.reduceAdd] at h3 h5
  by_cases c0 : c = 0
  · rw [c0] at h6
    obtain ⟨s7, i', _, h7⟩ := run_l01Pick s6 [-1, 25, 24] (by simp) (by simp)
    obtain ⟨s8, d, _, h8⟩ := run_l01Near s7 24 (by omega)
    obtain ⟨s9, h, _, h9⟩ := run_l01Pick s8 [1, 2, 3, 24, d] (by simp) (by simp)
    simp only [List.map_cons, List.map_nil, List.length_cons, List.length_nil, Nat.reduceAdd] at h7 h9
    refine ⟨s9, n, i', k, h, ?_⟩
    have cdk : codeOk Try.f157.ntmps (Try.f157.body.getD .skip) = true := by kernel_rfl
    refine run_of_WLp (fn := Try.f157) rfl Try.func157 rfl ⟨by simp [Try.ntmps157], by simp [wideA, ints], cdk, by simp [Try.f157]⟩ rfl (by simp [rebOk, noId, adoptT, adoptA, adoptL, adoptC, depth]) (by simp [pinned, adoptT, adoptA, adoptL, adoptC]) ?_
    simp [go_sem, -map_replicate, -map_set, -map_append, -map_reverse, -map_take, -map_drop, -map_tail, -any_map, -all_map, -mapM_map, -map_map, slL, szI, ldI, zI, undL, apL, setI, rdI_get, Nat.add_one_le_iff, fillV, zeros1, zeros0, appendD, segV, lvO, goneOf, sliceD, bound, Nat.add_assoc, h1, h2, h3, h4, h5, h6, h7, h8, h9, zerosV3, zerosV4, zerosV5, fillV]
    repeat refine ⟨by kernel_rfl, by kernel_rfl, ?_⟩
    simp [mvcgen_simp, -map_replicate, -map_set, -map_append, -map_reverse, -map_take, -map_drop, -map_tail, -any_map, -all_map, -mapM_map, -map_map, Try.f157, isLR, hasU]
  · obtain ⟨s8, d, _, h8⟩ := run_l01Near s6 24 (by omega)
    obtain ⟨s9, h, _, h9⟩ := run_l01Pick s8 [1, 2, 3, 24, d] (by simp) (by simp)
    simp only [List.map_cons, List.map_nil, List.length_cons, List.length_nil, Nat.reduceAdd] at h9
    refine ⟨s9, n, i, k, h, ?_⟩
    have cdk : codeOk Try.f157.ntmps (Try.f157.body.getD .skip) = true := by kernel_rfl
    refine run_of_WLp (fn := Try.f157) rfl Try.func157 rfl ⟨by simp [Try.ntmps157], by simp [wideA, ints], cdk, by simp [Try.f157]⟩ rfl (by simp [rebOk, noId, adoptT, adoptA, adoptL, adoptC, depth]) (by simp [pinned, adoptT, adoptA, adoptL, adoptC]) ?_
    simp [go_sem, -map_replicate, -map_set, -map_append, -map_reverse, -map_take, -map_drop, -map_tail, -any_map, -all_map, -mapM_map, -map_map, slL, szI, ldI, zI, undL, apL, setI, rdI_get, Nat.add_one_le_iff, fillV, zeros1, zeros0, appendD, segV, lvO, goneOf, sliceD, bound, Nat.add_assoc, h1, h2, h3, h4, h5, h6, h8, h9, c0, zerosV3, zerosV4, zerosV5, fillV]
    repeat refine ⟨by kernel_rfl, by kernel_rfl, ?_⟩
    simp [mvcgen_simp, -map_replicate, -map_set, -map_append, -map_reverse, -map_take, -map_drop, -map_tail, -any_map, -all_map, -mapM_map, -map_map, Try.f157, isLR, hasU]
theorem run_DrawPathsOf (code : List Int) (hb : ∀ z, z ∈ code → 0 ≤ z ∧ z ≤ 255) (hl : code.length ≤ 4096) : ∃ (n i k h : Int),
    runv E1 36 [.list code.length (code.map (V.int .u8))] = some ⟨true, .tup [(V.int .i64 (n)), (V.int .i64 (i)), (V.int .i64 (k)), (V.int .i64 (h))], [.undef]⟩ := by
  obtain ⟨s, h0⟩ := run_l01From code hb hl
  obtain ⟨s1, m, hm, h1⟩ := run_l01Pick s [4, 6, 8] (by simp) (by simp)
  simp only [List.mem_cons, List.not_mem_nil, or_false] at hm
  obtain ⟨s2, n, i, k, h, h2⟩ := run_l09Numbers s1 m (by omega)
  simp only [List.map_cons, List.map_nil, List.length_cons, List.length_nil, Nat.reduceAdd] at h1
  refine ⟨n, i, k, h, ?_⟩
  have cdk : codeOk Try.f36.ntmps (Try.f36.body.getD .skip) = true := by kernel_rfl
  refine run_of_WLr (fn := Try.f36) rfl Try.func36 rfl ⟨by simp [Try.ntmps36], by simp [wideA, ints], cdk, by simp [Try.f36]⟩ rfl (by simp [rebOk, noId, adoptT, adoptA, adoptL, adoptC, depth]) ?_
  simp [go_sem, -map_replicate, -map_set, -map_append, -map_reverse, -map_take, -map_drop, -map_tail, -any_map, -all_map, -mapM_map, -map_map, slL, szI, ldI, zI, undL, apL, setI, rdI_get, Nat.add_one_le_iff, fillV, zeros1, zeros0, appendD, segV, lvO, goneOf, sliceD, bound, Nat.add_assoc, h0, h1, h2, zerosV3, fillV]
  repeat refine ⟨by kernel_rfl, by kernel_rfl, ?_⟩
  simp [mvcgen_simp, -map_replicate, -map_set, -map_append, -map_reverse, -map_take, -map_drop, -map_tail, -any_map, -all_map, -mapM_map, -map_map, Try.f36, isLR, hasU]
theorem run_DrawCountPaths (code : List Int) (hb : ∀ z, z ∈ code → 0 ≤ z ∧ z ≤ 255) (hl : code.length ≤ 4096) : ∃ (n i k h : Int),
    runv E1 51 [.list code.length (code.map (V.int .u8))] = some ⟨true, .tup [(V.int .i64 (n)), (V.int .i64 (i)), (V.int .i64 (k)), (V.int .i64 (h))], [.undef]⟩ := by
  obtain ⟨s, h0⟩ := run_l01From code hb hl
  obtain ⟨s1, m, hm, h1⟩ := run_l01Pick s [6, 12, 24] (by simp) (by simp)
  simp only [List.mem_cons, List.not_mem_nil, or_false] at hm
  obtain ⟨s2, n, i, k, h, h2⟩ := run_l09Numbers s1 m (by omega)
  simp only [List.map_cons, List.map_nil, List.length_cons, List.length_nil, Nat.reduceAdd] at h1
  refine ⟨n, i, k, h, ?_⟩
  have cdk : codeOk Try.f51.ntmps (Try.f51.body.getD .skip) = true := by kernel_rfl
  refine run_of_WLr (fn := Try.f51) rfl Try.func51 rfl ⟨by simp [Try.ntmps51], by simp [wideA, ints], cdk, by simp [Try.f51]⟩ rfl (by simp [rebOk, noId, adoptT, adoptA, adoptL, adoptC, depth]) ?_
  simp [go_sem, -map_replicate, -map_set, -map_append, -map_reverse, -map_take, -map_drop, -map_tail, -any_map, -all_map, -mapM_map, -map_map, slL, szI, ldI, zI, undL, apL, setI, rdI_get, Nat.add_one_le_iff, fillV, zeros1, zeros0, appendD, segV, lvO, goneOf, sliceD, bound, Nat.add_assoc, h0, h1, h2, zerosV3, fillV]
  repeat refine ⟨by kernel_rfl, by kernel_rfl, ?_⟩
  simp [mvcgen_simp, -map_replicate, -map_set, -map_append, -map_reverse, -map_take, -map_drop, -map_tail, -any_map, -all_map, -mapM_map, -map_map, Try.f51, isLR, hasU]
theorem run_DrawCountLevelPaths (code : List Int) (hb : ∀ z, z ∈ code → 0 ≤ z ∧ z ≤ 255) (hl : code.length ≤ 4096) : ∃ (n i k h : Int),
    runv E1 53 [.list code.length (code.map (V.int .u8))] = some ⟨true, .tup [(V.int .i64 (n)), (V.int .i64 (i)), (V.int .i64 (k)), (V.int .i64 (h))], [.undef]⟩ := by
  obtain ⟨s, h0⟩ := run_l01From code hb hl
  obtain ⟨s1, m, hm, h1⟩ := run_l01Pick s [6, 12, 24] (by simp) (by simp)
  simp only [List.mem_cons, List.not_mem_nil, or_false] at hm
  obtain ⟨s2, n, i, k, h, h2⟩ := run_l09Numbers s1 m (by omega)
  simp only [List.map_cons, List.map_nil, List.length_cons, List.length_nil, Nat.reduceAdd] at h1
  refine ⟨n, i, k, h, ?_⟩
  have cdk : codeOk Try.f53.ntmps (Try.f53.body.getD .skip) = true := by kernel_rfl
  refine run_of_WLr (fn := Try.f53) rfl Try.func53 rfl ⟨by simp [Try.ntmps53], by simp [wideA, ints], cdk, by simp [Try.f53]⟩ rfl (by simp [rebOk, noId, adoptT, adoptA, adoptL, adoptC, depth]) ?_
  simp [go_sem, -map_replicate, -map_set, -map_append, -map_reverse, -map_take, -map_drop, -map_tail, -any_map, -all_map, -mapM_map, -map_map, slL, szI, ldI, zI, undL, apL, setI, rdI_get, Nat.add_one_le_iff, fillV, zeros1, zeros0, appendD, segV, lvO, goneOf, sliceD, bound, Nat.add_assoc, h0, h1, h2, zerosV3, fillV]
  repeat refine ⟨by kernel_rfl, by kernel_rfl, ?_⟩
  simp [mvcgen_simp, -map_replicate, -map_set, -map_append, -map_reverse, -map_take, -map_drop, -map_tail, -any_map, -all_map, -mapM_map, -map_map, Try.f53, isLR, hasU]
theorem run_DrawBallotNumber (code : List Int) (hb : ∀ z, z ∈ code → 0 ≤ z ∧ z ≤ 255) (hl : code.length ≤ 4096) : ∃ (n k : Int),
    runv E1 45 [.list code.length (code.map (V.int .u8))] = some ⟨true, .tup [(V.int .i64 (n)), (V.int .i64 (k))], [.undef]⟩ := by
  obtain ⟨s, h0⟩ := run_l01From code hb hl
  obtain ⟨s1, n, _, h1⟩ := run_l01Near s 24 (by omega)
  obtain ⟨s2, m, hm, h2⟩ := run_l01Pick s1 [4, 24] (by simp) (by simp)
  simp only [List.mem_cons, List.not_mem_nil, or_false] at hm
  obtain ⟨s3, k, _, h3⟩ := run_l01Near s2 m (by omega)
  simp only [List.map_cons, List.map_nil, List.length_cons, List.length_nil, Nat.reduceAdd] at h2
  refine ⟨n, k, ?_⟩
  have cdk : codeOk Try.f45.ntmps (Try.f45.body.getD .skip) = true := by kernel_rfl
  refine run_of_WLr (fn := Try.f45) rfl Try.func45 rfl ⟨by simp [Try.ntmps45], by simp [wideA, ints], cdk, by simp [Try.f45]⟩ rfl (by simp [rebOk, noId, adoptT, adoptA, adoptL, adoptC, depth]) ?_
  simp [go_sem, -map_replicate, -map_set, -map_append, -map_reverse, -map_take, -map_drop, -map_tail, -any_map, -all_map, -mapM_map, -map_map, slL, szI, ldI, zI, undL, apL, setI, rdI_get, Nat.add_one_le_iff, fillV, zeros1, zeros0, appendD, segV, lvO, goneOf, sliceD, bound, Nat.add_assoc, h0, h1, h2, h3, zerosV2, fillV]
  repeat refine ⟨by kernel_rfl, by kernel_rfl, ?_⟩
  simp [mvcgen_simp, -map_replicate, -map_set, -map_append, -map_reverse, -map_take, -map_drop, -map_tail, -any_map, -all_map, -mapM_map, -map_map, Try.f45, isLR, hasU]
/-! ### Paths -/
theorem slStrD : slT Try.prog 57 = some (9, 1, 16) := by kernel_rfl
theorem ldStrD : ldT Try.prog 9 = some (false, 1) := by kernel_rfl
theorem undStrSD : Try.prog.underlying 57 = some (.slice 9) := by kernel_rfl
theorem zStrD : zeroT Try.prog 9 = some [.str ⟨#[]⟩] := by kernel_rfl
theorem szStrD : szT Try.prog 9 = some 1 := by kernel_rfl
theorem zerosSD4 : zerosV 4 [V.str ⟨#[]⟩] = List.replicate 4 (.str ⟨#[]⟩) := rfl
theorem zerosSD3 : zerosV 3 [V.str ⟨#[]⟩] = List.replicate 3 (.str ⟨#[]⟩) := rfl
theorem run_l09NoPath (s : Src) : ∃ (s' : Src) (t : ByteArray), t.size ≤ 51 ∧
    runv E1 246 [(V.uptr [V.list (s).code.length ((s).code.map (V.int .u8)), V.int .i64 (s).i, V.int .u64 (s).h])] = some ⟨true, .str t, [(V.uptr [V.list (s').code.length ((s').code.map (V.int .u8)), V.int .i64 (s').i, V.int .u64 (s').h])]⟩ := by
  obtain ⟨s1, x, _, hx, h1⟩ := run_l01Next s 4
  have hx := hx (by omega)
  have : x = 0 ∨ x = 1 ∨ x = 2 ∨ x = 3 := by omega
  rcases this with rfl | rfl | rfl | rfl
  · refine ⟨s1, ⟨#[117]⟩, by decide +kernel, ?_⟩
    have cdk : codeOk Try.f246.ntmps (Try.f246.body.getD .skip) = true := by kernel_rfl
    refine run_of_WLp (fn := Try.f246) rfl Try.func246 rfl ⟨by simp [Try.ntmps246], by simp [wideA, ints], cdk, by simp [Try.f246]⟩ rfl (by simp [rebOk, noId, adoptT, adoptA, adoptL, adoptC, depth]) (by simp [pinned, adoptT, adoptA, adoptL, adoptC]) ?_
    simp [go_sem, -map_replicate, -map_set, -map_append, -map_reverse, -map_take, -map_drop, -map_tail, -any_map, -all_map, -mapM_map, -map_map, slL, szI, ldI, zI, undL, apL, setI, rdI_get, Nat.add_one_le_iff, fillV, zeros1, zeros0, appendD, segV, lvO, goneOf, sliceD, bound, Nat.add_assoc, h1, slStrD, ldStrD, undStrSD, zStrD, szStrD, zerosSD4, fillV, List.replicate]
    repeat refine ⟨by kernel_rfl, by kernel_rfl, ?_⟩
    simp [mvcgen_simp, -map_replicate, -map_set, -map_append, -map_reverse, -map_take, -map_drop, -map_tail, -any_map, -all_map, -mapM_map, -map_map, Try.f246, isLR, hasU]
  · refine ⟨s1, ⟨#[88]⟩, by decide +kernel, ?_⟩
    have cdk : codeOk Try.f246.ntmps (Try.f246.body.getD .skip) = true := by kernel_rfl
    refine run_of_WLp (fn := Try.f246) rfl Try.func246 rfl ⟨by simp [Try.ntmps246], by simp [wideA, ints], cdk, by simp [Try.f246]⟩ rfl (by simp [rebOk, noId, adoptT, adoptA, adoptL, adoptC, depth]) (by simp [pinned, adoptT, adoptA, adoptL, adoptC]) ?_
    simp [go_sem, -map_replicate, -map_set, -map_append, -map_reverse, -map_take, -map_drop, -map_tail, -any_map, -all_map, -mapM_map, -map_map, slL, szI, ldI, zI, undL, apL, setI, rdI_get, Nat.add_one_le_iff, fillV, zeros1, zeros0, appendD, segV, lvO, goneOf, sliceD, bound, Nat.add_assoc, h1, slStrD, ldStrD, undStrSD, zStrD, szStrD, zerosSD4, fillV, List.replicate]
    repeat refine ⟨by kernel_rfl, by kernel_rfl, ?_⟩
    simp [mvcgen_simp, -map_replicate, -map_set, -map_append, -map_reverse, -map_take, -map_drop, -map_tail, -any_map, -all_map, -mapM_map, -map_map, Try.f246, isLR, hasU]
  · refine ⟨s1, ⟨#[68, 68, 68, 68, 68, 68, 68, 68, 68, 68, 68, 68, 68, 68, 68, 68, 68, 68, 68, 68, 68, 68, 68, 68, 68, 68, 68, 68, 68, 68, 68, 68, 68, 68, 68, 68, 68, 68, 68, 68, 68, 68, 68, 68, 68, 68, 68, 68, 68, 68, 68]⟩, by decide +kernel, ?_⟩
    have cdk : codeOk Try.f246.ntmps (Try.f246.body.getD .skip) = true := by kernel_rfl
    refine run_of_WLp (fn := Try.f246) rfl Try.func246 rfl ⟨by simp [Try.ntmps246], by simp [wideA, ints], cdk, by simp [Try.f246]⟩ rfl (by simp [rebOk, noId, adoptT, adoptA, adoptL, adoptC, depth]) (by simp [pinned, adoptT, adoptA, adoptL, adoptC]) ?_
    simp [go_sem, -map_replicate, -map_set, -map_append, -map_reverse, -map_take, -map_drop, -map_tail, -any_map, -all_map, -mapM_map, -map_map, slL, szI, ldI, zI, undL, apL, setI, rdI_get, Nat.add_one_le_iff, fillV, zeros1, zeros0, appendD, segV, lvO, goneOf, sliceD, bound, Nat.add_assoc, h1, slStrD, ldStrD, undStrSD, zStrD, szStrD, zerosSD4, fillV, List.replicate]
    repeat refine ⟨by kernel_rfl, by kernel_rfl, ?_⟩
    simp [mvcgen_simp, -map_replicate, -map_set, -map_append, -map_reverse, -map_take, -map_drop, -map_tail, -any_map, -all_map, -mapM_map, -map_map, Try.f246, isLR, hasU]
  · refine ⟨s1, ⟨#[32]⟩, by decide +kernel, ?_⟩
    have cdk : codeOk Try.f246.ntmps (Try.f246.body.getD .skip) = true := by kernel_rfl
    refine run_of_WLp (fn := Try.f246) rfl Try.func246 rfl ⟨by simp [Try.ntmps246], by simp [wideA, ints], cdk, by simp [Try.f246]⟩ rfl (by simp [rebOk, noId, adoptT, adoptA, adoptL, adoptC, depth]) (by simp [pinned, adoptT, adoptA, adoptL, adoptC]) ?_
    simp [go_sem, -map_replicate, -map_set, -map_append, -map_reverse, -map_take, -map_drop, -map_tail, -any_map, -all_map, -mapM_map, -map_map, slL, szI, ldI, zI, undL, apL, setI, rdI_get, Nat.add_one_le_iff, fillV, zeros1, zeros0, appendD, segV, lvO, goneOf, sliceD, bound, Nat.add_assoc, h1, slStrD, ldStrD, undStrSD, zStrD, szStrD, zerosSD4, fillV, List.replicate]
    repeat refine ⟨by kernel_rfl, by kernel_rfl, ?_⟩
    simp [mvcgen_simp, -map_replicate, -map_set, -map_append, -map_reverse, -map_take, -map_drop, -map_tail, -any_map, -all_map, -mapM_map, -map_map, Try.f246, isLR, hasU]
/-- The outcome is not named ahead. -/
theorem run_of_WLpQ {E : Env} {f : FuncId} {fn : Func} {c : Code} {args : List V} {G : Res → Prop} (hp : E.prim f args = none) (hf : E.P.funcs[f]? = some fn) (hb : fn.body = some c)
    (hn : args.length ≤ fn.ntmps ∧ args.all wideA ∧ codeOk fn.ntmps c ∧ fn.name ≠ "runtime.NumGoroutine") (hr : E.reb = true) (ho : rebOk args = true) (hpin : pinned args = true)
    (h : WL E (E.strict f) [.code c] (fun st => ∃ r, finish E.P (E.strict f) fn args st = some r ∧ G r) { St.enter args with rs := resM fn ||| 1 }) : ∃ r, runv E f args = some r ∧ G r := by
  obtain ⟨n, st, e, r, hfin, hg⟩ := h
  exact ⟨r, run_of_WLp hp hf hb hn hr ho hpin ⟨n, st, e, hfin⟩, hg⟩
theorem size_push (a b : ByteArray) : (a ++ b).size = a.size + b.size := ByteArray.size_append
theorem run_l09DrawPath (s : Src) (i m b : Int) (hi : 0 ≤ i ∧ i ≤ 1000) (hm : 0 ≤ m ∧ m ≤ 1000) (hb : 0 ≤ b ∧ b ≤ 1000) : ∃ (s' : Src) (t : ByteArray), t.size ≤ 2000 ∧
    runv E1 167 [(V.uptr [V.list (s).code.length ((s).code.map (V.int .u8)), V.int .i64 (s).i, V.int .u64 (s).h]), (V.int .i64 (i)), (V.int .i64 (m)), (V.int .i64 (b))] = some ⟨true, .str t, [(V.uptr [V.list (s').code.length ((s').code.map (V.int .u8)), V.int .i64 (s').i, V.int .u64 (s').h]), .undef, .undef, .undef]⟩ := by
  suffices h : ∃ r, runv E1 167 [(V.uptr [V.list (s).code.length ((s).code.map (V.int .u8)), V.int .i64 (s).i, V.int .u64 (s).h]), (V.int .i64 (i)), (V.int .i64 (m)), (V.int .i64 (b))] = some r ∧ ∃ (s' : Src) (t : ByteArray), t.size ≤ 2000 ∧ r = ⟨true, .str t, [(V.uptr [V.list (s').code.length ((s').code.map (V.int .u8)), V.int .i64 (s').i, V.int .u64 (s').h]), .undef, .undef, .undef]⟩ by
    obtain ⟨r, h, s', t, ht, rfl⟩ := h
    exact ⟨s', t, ht, h⟩
  have w0 : IntKind.i64.wrap (m + 1) = m + 1 := IntWalk.i64_in _ (by omega)
  obtain ⟨s0, n0, _, hn0, h0⟩ := run_l01Next s (m + 1)
  have hn0 := hn0 (by omega)
  obtain ⟨n, rfl⟩ : ∃ n : Nat, n0 = n := ⟨n0.toNat, by omega⟩
  have e1 : (ByteArray.toList ⟨#[85]⟩ == ByteArray.toList ⟨#[76]⟩) = false := by decide +kernel
  have e2 : (ByteArray.toList ⟨#[85]⟩ == ByteArray.toList ⟨#[68]⟩) = false := by decide +kernel
  have e3 : (ByteArray.toList ⟨#[76]⟩ == ByteArray.toList ⟨#[85]⟩) = false := by decide +kernel
  have e4 : (ByteArray.toList ⟨#[76]⟩ == ByteArray.toList ⟨#[68]⟩) = false := by decide +kernel
  have e5 : (ByteArray.toList ⟨#[68]⟩ == ByteArray.toList ⟨#[85]⟩) = false := by decide +kernel
  have e6 : (ByteArray.toList ⟨#[68]⟩ == ByteArray.toList ⟨#[76]⟩) = false := by decide +kernel
  have z1 : ByteArray.size ⟨#[85]⟩ = 1 := rfl
  have z2 : ByteArray.size ⟨#[76]⟩ = 1 := rfl
  have z3 : ByteArray.size ⟨#[68]⟩ = 1 := rfl
  have cdk : codeOk Try.f167.ntmps (Try.f167.body.getD .skip) = true := by kernel_rfl
  refine run_of_WLpQ (fn := Try.f167) rfl Try.func167 rfl ⟨by simp [Try.ntmps167], by simp [wideA, ints], cdk, by simp [Try.f167]⟩ rfl (by simp [rebOk, noId, adoptT, adoptA, adoptL, adoptC, depth]) (by simp [pinned, adoptT, adoptA, adoptL, adoptC]) ?_
  simp [go_sem, -map_replicate, -map_set, -map_append, -map_reverse, -map_take, -map_drop, -map_tail, -any_map, -all_map, -mapM_map, -map_map, slL, szI, ldI, zI, undL, apL, setI, rdI_get, Nat.add_one_le_iff, fillV, zeros1, zeros0, appendD, segV, lvO, goneOf, sliceD, bound, Nat.add_assoc, w0, h0]
  rw [WL_loop]
  refine WL_forX (keep := [0, 1, 3, 9, 10]) (rs := resM Try.f167 ||| 1) rfl (by kernel_rfl) (α := Src × Int × ByteArray × Nat) (fun x => mkSt [(0, .ptr 0 0 0), (1, .int .i64 x.2.1), (3, .int .i64 b), (9, .str x.2.2.1), (10, .int .i64 (x.2.2.2 : Int))] [some (⟨0, 1, 1, [V.list (x.1).code.length ((x.1).code.map (V.int .u8)), V.int .i64 (x.1).i, V.int .u64 (x.1).h]⟩)] (resM Try.f167 ||| 1)) (fun x => x.2.2.2 ≤ n ∧ x.2.2.1.size + x.2.2.2 = n ∧ 0 ≤ x.2.1 ∧ x.2.1 + x.2.2.2 ≤ 1000 + n) (fun x => x.2.2.2) ?_ (s0, i, ByteArray.empty, n) _ ?_ rfl ?_
  · rintro ⟨s1, i1, t1, k⟩ ⟨q1, q2, q3, q4⟩ next
    simp only at q1 q2 q3 q4 next ⊢
    rcases k with _ | k
    · -- the end
      obtain ⟨s2, x, _, hx, h2⟩ := run_l01Next s1 30
      by_cases x0 : x = 0
      · rw [x0] at h2
        obtain ⟨s3, t2, ht2, h3⟩ := run_l09NoPath s2
        have hc : t1.size + t2.size ≤ 9223372036854775807 := by omega
        simp [go_sem, -map_replicate, -map_set, -map_append, -map_reverse, -map_take, -map_drop, -map_tail, -any_map, -all_map, -mapM_map, -map_map, slL, szI, ldI, zI, undL, apL, setI, rdI_get, Nat.add_one_le_iff, fillV, zeros1, zeros0, appendD, segV, lvO, goneOf, sliceD, bound, Nat.add_assoc, h2, h3, strOp, hc]
        refine ⟨_, ?_, s3, t1 ++ t2, by rw [size_push]; omega, rfl⟩
        simp [mvcgen_simp, -map_replicate, -map_set, -map_append, -map_reverse, -map_take, -map_drop, -map_tail, -any_map, -all_map, -mapM_map, -map_map, Try.f167, isLR, hasU]
      · simp [go_sem, -map_replicate, -map_set, -map_append, -map_reverse, -map_take, -map_drop, -map_tail, -any_map, -all_map, -mapM_map, -map_map, slL, szI, ldI, zI, undL, apL, setI, rdI_get, Nat.add_one_le_iff, fillV, zeros1, zeros0, appendD, segV, lvO, goneOf, sliceD, bound, Nat.add_assoc, h2, x0, strOp]
        refine ⟨_, ?_, s2, t1, by omega, rfl⟩
        simp [mvcgen_simp, -map_replicate, -map_set, -map_append, -map_reverse, -map_take, -map_drop, -map_tail, -any_map, -all_map, -mapM_map, -map_map, Try.f167, isLR, hasU]
    · have hk0 : (0 : Int) < (k : Int) + 1 := by omega
      have w1 : IntKind.i64.wrap (k : Int) = k := IntWalk.i64_in _ (by omega)
      have w2 : IntKind.i64.wrap (i1 + 1) = i1 + 1 := IntWalk.i64_in _ (by omega)
      have w3 : IntKind.i64.wrap (i1 - 1) = i1 - 1 := IntWalk.i64_in _ (by omega)
      have hc : t1.size + 1 ≤ 9223372036854775807 := by omega
      obtain ⟨s2, x, _, hx, h2⟩ := run_l01Next s1 3
      obtain ⟨s3, y, _, hy, h3⟩ := run_l01Next s2 30
      have hx := hx (by omega)
      have hy := hy (by omega)
      have : x = 0 ∨ x = 1 ∨ x = 2 := by omega
      rcases this with rfl | rfl | rfl
      · by_cases c1 : i1 + 1 < b
        · simp [go_sem, -map_replicate, -map_set, -map_append, -map_reverse, -map_take, -map_drop, -map_tail, -any_map, -all_map, -mapM_map, -map_map, slL, szI, ldI, zI, undL, apL, setI, rdI_get, Nat.add_one_le_iff, fillV, zeros1, zeros0, appendD, segV, lvO, goneOf, sliceD, bound, Nat.add_assoc, hk0, w1, w2, h2, c1, strOp, slStrD, ldStrD, undStrSD, zStrD, szStrD, zerosSD3, fillV, List.replicate, e1, e2, e3, e4, e5, e6, z1, z2, z3, hc]
          repeat refine ⟨by kernel_rfl, by kernel_rfl, ?_⟩
          refine next (s2, i1 + 1, t1 ++ ⟨#[85]⟩, k) _ ⟨by simp only; omega, by simp only [size_push, z1]; omega, by simp only; omega, by simp only; omega⟩ (by simp) rfl ?_
          (refine canon_mkP ?_; simp [method_specs_simp, ordIds_app, ordRen_app, ordIds_app2, ordRen_app2, -map_replicate, -map_set, -map_append, -map_reverse, -map_take, -map_drop, -map_tail, -map_map, pinH])
        · by_cases c2 : 0 < y
          · simp [go_sem, -map_replicate, -map_set, -map_append, -map_reverse, -map_take, -map_drop, -map_tail, -any_map, -all_map, -mapM_map, -map_map, slL, szI, ldI, zI, undL, apL, setI, rdI_get, Nat.add_one_le_iff, fillV, zeros1, zeros0, appendD, segV, lvO, goneOf, sliceD, bound, Nat.add_assoc, hk0, w1, w2, h2, h3, c1, c2, strOp, slStrD, ldStrD, undStrSD, zStrD, szStrD, zerosSD3, fillV, List.replicate, e1, e2, e3, e4, e5, e6, z1, z2, z3, hc]
            repeat refine ⟨by kernel_rfl, by kernel_rfl, ?_⟩
            refine next (s3, i1, t1 ++ ⟨#[76]⟩, k) _ ⟨by simp only; omega, by simp only [size_push, z2]; omega, by simp only; omega, by simp only; omega⟩ (by simp) rfl ?_
            (refine canon_mkP ?_; simp [method_specs_simp, ordIds_app, ordRen_app, ordIds_app2, ordRen_app2, -map_replicate, -map_set, -map_append, -map_reverse, -map_take, -map_drop, -map_tail, -map_map, pinH])
          · simp [go_sem, -map_replicate, -map_set, -map_append, -map_reverse, -map_take, -map_drop, -map_tail, -any_map, -all_map, -mapM_map, -map_map, slL, szI, ldI, zI, undL, apL, setI, rdI_get, Nat.add_one_le_iff, fillV, zeros1, zeros0, appendD, segV, lvO, goneOf, sliceD, bound, Nat.add_assoc, hk0, w1, w2, h2, h3, c1, c2, strOp, slStrD, ldStrD, undStrSD, zStrD, szStrD, zerosSD3, fillV, List.replicate, e1, e2, e3, e4, e5, e6, z1, z2, z3, hc]
            repeat refine ⟨by kernel_rfl, by kernel_rfl, ?_⟩
            refine next (s3, i1, t1 ++ ⟨#[85]⟩, k) _ ⟨by simp only; omega, by simp only [size_push, z1]; omega, by simp only; omega, by simp only; omega⟩ (by simp) rfl ?_
            (refine canon_mkP ?_; simp [method_specs_simp, ordIds_app, ordRen_app, ordIds_app2, ordRen_app2, -map_replicate, -map_set, -map_append, -map_reverse, -map_take, -map_drop, -map_tail, -map_map, pinH])
      · simp [go_sem, -map_replicate, -map_set, -map_append, -map_reverse, -map_take, -map_drop, -map_tail, -any_map, -all_map, -mapM_map, -map_map, slL, szI, ldI, zI, undL, apL, setI, rdI_get, Nat.add_one_le_iff, fillV, zeros1, zeros0, appendD, segV, lvO, goneOf, sliceD, bound, Nat.add_assoc, hk0, w1, h2, strOp, slStrD, ldStrD, undStrSD, zStrD, szStrD, zerosSD3, fillV, List.replicate, e1, e2, e3, e4, e5, e6, z1, z2, z3, hc]
        repeat refine ⟨by kernel_rfl, by kernel_rfl, ?_⟩
        refine next (s2, i1, t1 ++ ⟨#[76]⟩, k) _ ⟨by simp only; omega, by simp only [size_push, z2]; omega, by simp only; omega, by simp only; omega⟩ (by simp) rfl ?_
        (refine canon_mkP ?_; simp [method_specs_simp, ordIds_app, ordRen_app, ordIds_app2, ordRen_app2, -map_replicate, -map_set, -map_append, -map_reverse, -map_take, -map_drop, -map_tail, -map_map, pinH])
      · by_cases c1 : 0 < i1
        · simp [go_sem, -map_replicate, -map_set, -map_append, -map_reverse, -map_take, -map_drop, -map_tail, -any_map, -all_map, -mapM_map, -map_map, slL, szI, ldI, zI, undL, apL, setI, rdI_get, Nat.add_one_le_iff, fillV, zeros1, zeros0, appendD, segV, lvO, goneOf, sliceD, bound, Nat.add_assoc, hk0, w1, w3, h2, c1, strOp, slStrD, ldStrD, undStrSD, zStrD, szStrD, zerosSD3, fillV, List.replicate, e1, e2, e3, e4, e5, e6, z1, z2, z3, hc]
          repeat refine ⟨by kernel_rfl, by kernel_rfl, ?_⟩
          refine next (s2, i1 - 1, t1 ++ ⟨#[68]⟩, k) _ ⟨by simp only; omega, by simp only [size_push, z3]; omega, by simp only; omega, by simp only; omega⟩ (by simp) rfl ?_
          (refine canon_mkP ?_; simp [method_specs_simp, ordIds_app, ordRen_app, ordIds_app2, ordRen_app2, -map_replicate, -map_set, -map_append, -map_reverse, -map_take, -map_drop, -map_tail, -map_map, pinH])
        · by_cases c2 : 0 < y
          · simp [go_sem, -map_replicate, -map_set, -map_append, -map_reverse, -map_take, -map_drop, -map_tail, -any_map, -all_map, -mapM_map, -map_map, slL, szI, ldI, zI, undL, apL, setI, rdI_get, Nat.add_one_le_iff, fillV, zeros1, zeros0, appendD, segV, lvO, goneOf, sliceD, bound, Nat.add_assoc, hk0, w1, w2, h2, h3, c1, c2, strOp, slStrD, ldStrD, undStrSD, zStrD, szStrD, zerosSD3, fillV, List.replicate, e1, e2, e3, e4, e5, e6, z1, z2, z3, hc]
            repeat refine ⟨by kernel_rfl, by kernel_rfl, ?_⟩
            refine next (s3, i1, t1 ++ ⟨#[76]⟩, k) _ ⟨by simp only; omega, by simp only [size_push, z2]; omega, by simp only; omega, by simp only; omega⟩ (by simp) rfl ?_
            (refine canon_mkP ?_; simp [method_specs_simp, ordIds_app, ordRen_app, ordIds_app2, ordRen_app2, -map_replicate, -map_set, -map_append, -map_reverse, -map_take, -map_drop, -map_tail, -map_map, pinH])
          · simp [go_sem, -map_replicate, -map_set, -map_append, -map_reverse, -map_take, -map_drop, -map_tail, -any_map, -all_map, -mapM_map, -map_map, slL, szI, ldI, zI, undL, apL, setI, rdI_get, Nat.add_one_le_iff, fillV, zeros1, zeros0, appendD, segV, lvO, goneOf, sliceD, bound, Nat.add_assoc, hk0, w1, w2, h2, h3, c1, c2, strOp, slStrD, ldStrD, undStrSD, zStrD, szStrD, zerosSD3, fillV, List.replicate, e1, e2, e3, e4, e5, e6, z1, z2, z3, hc]
            repeat refine ⟨by kernel_rfl, by kernel_rfl, ?_⟩
            refine next (s3, i1, t1 ++ ⟨#[68]⟩, k) _ ⟨by simp only; omega, by simp only [size_push, z3]; omega, by simp only; omega, by simp only; omega⟩ (by simp) rfl ?_
            (refine canon_mkP ?_; simp [method_specs_simp, ordIds_app, ordRen_app, ordIds_app2, ordRen_app2, -map_replicate, -map_set, -map_append, -map_reverse, -map_take, -map_drop, -map_tail, -map_map, pinH])
  · exact ⟨Nat.le_refl _, by simp, hi.1, by show i + (n : Int) ≤ 1000 + n; omega⟩
  · (refine canon_mkP ?_; simp [method_specs_simp, ordIds_app, ordRen_app, ordIds_app2, ordRen_app2, -map_replicate, -map_set, -map_append, -map_reverse, -map_take, -map_drop, -map_tail, -map_map, pinH])
    rfl
theorem run_DrawReversePath (code : List Int) (hb : ∀ z, z ∈ code → 0 ≤ z ∧ z ≤ 255) (hl : code.length ≤ 4096) : ∃ (t : ByteArray) (i : Int), t.size ≤ 2000 ∧
    runv E1 42 [.list code.length (code.map (V.int .u8))] = some ⟨true, .tup [.str t, (V.int .i64 (i))], [.undef]⟩ := by
  obtain ⟨s, h0⟩ := run_l01From code hb hl
  obtain ⟨s1, m, hm, h1⟩ := run_l01Pick s [2, 24] (by simp) (by simp)
  simp only [List.mem_cons, List.not_mem_nil, or_false] at hm
  obtain ⟨s2, i, _, h2⟩ := run_l01Near s1 m (by omega)
  obtain ⟨s3, q, hq, h3⟩ := run_l01Pick s2 [4, 10, 25] (by simp) (by simp)
  simp only [List.mem_cons, List.not_mem_nil, or_false] at hq
  obtain ⟨s4, t, ht, h4⟩ := run_l09DrawPath s3 (mnI (mxI i 0) 24) q 100 (by unfold mnI mxI; (repeat' split) <;> omega) (by omega) (by omega)
  simp only [List.map_cons, List.map_nil, List.length_cons, List.length_nil, Nat.reduceAdd] at h1 h3
  refine ⟨t, i, ht, ?_⟩
  have cdk : codeOk Try.f42.ntmps (Try.f42.body.getD .skip) = true := by kernel_rfl
  refine run_of_WLr (fn := Try.f42) rfl Try.func42 rfl ⟨by simp [Try.ntmps42], by simp [wideA, ints], cdk, by simp [Try.f42]⟩ rfl (by simp [rebOk, noId, adoptT, adoptA, adoptL, adoptC, depth]) ?_
  simp [go_sem, -map_replicate, -map_set, -map_append, -map_reverse, -map_take, -map_drop, -map_tail, -any_map, -all_map, -mapM_map, -map_map, slL, szI, ldI, zI, undL, apL, setI, rdI_get, Nat.add_one_le_iff, fillV, zeros1, zeros0, appendD, segV, lvO, goneOf, sliceD, bound, Nat.add_assoc, h0, h1, h2, h3, h4, zerosV2, zerosV3, fillV, mmV]
  repeat refine ⟨by kernel_rfl, by kernel_rfl, ?_⟩
  simp [mvcgen_simp, -map_replicate, -map_set, -map_append, -map_reverse, -map_take, -map_drop, -map_tail, -any_map, -all_map, -mapM_map, -map_map, Try.f42, isLR, hasU]
theorem run_DrawHeightsOf (code : List Int) (hb : ∀ z, z ∈ code → 0 ≤ z ∧ z ≤ 255) (hl : code.length ≤ 4096) : ∃ (t : ByteArray) (i : Int), t.size ≤ 2000 ∧
    runv E1 55 [.list code.length (code.map (V.int .u8))] = some ⟨true, .tup [.str t, (V.int .i64 (i))], [.undef]⟩ := by
  obtain ⟨s, h0⟩ := run_l01From code hb hl
  obtain ⟨s1, m, hm, h1⟩ := run_l01Pick s [2, 24] (by simp) (by simp)
  simp only [List.mem_cons, List.not_mem_nil, or_false] at hm
  obtain ⟨s2, i, _, h2⟩ := run_l01Near s1 m (by omega)
  obtain ⟨s3, q, hq, h3⟩ := run_l01Pick s2 [4, 10, 25] (by simp) (by simp)
  simp only [List.mem_cons, List.not_mem_nil, or_false] at hq
  obtain ⟨s4, t, ht, h4⟩ := run_l09DrawPath s3 (mnI (mxI i 0) 24) q 100 (by unfold mnI mxI; (repeat' split) <;> omega) (by omega) (by omega)
  simp only [List.map_cons, List.map_nil, List.length_cons, List.length_nil, Nat.reduceAdd] at h1 h3
  refine ⟨t, i, ht, ?_⟩
  have cdk : codeOk Try.f55.ntmps (Try.f55.body.getD .skip) = true := by kernel_rfl
  refine run_of_WLr (fn := Try.f55) rfl Try.func55 rfl ⟨by simp [Try.ntmps55], by simp [wideA, ints], cdk, by simp [Try.f55]⟩ rfl (by simp [rebOk, noId, adoptT, adoptA, adoptL, adoptC, depth]) ?_
  simp [go_sem, -map_replicate, -map_set, -map_append, -map_reverse, -map_take, -map_drop, -map_tail, -any_map, -all_map, -mapM_map, -map_map, slL, szI, ldI, zI, undL, apL, setI, rdI_get, Nat.add_one_le_iff, fillV, zeros1, zeros0, appendD, segV, lvO, goneOf, sliceD, bound, Nat.add_assoc, h0, h1, h2, h3, h4, zerosV2, zerosV3, fillV, mmV]
  repeat refine ⟨by kernel_rfl, by kernel_rfl, ?_⟩
  simp [mvcgen_simp, -map_replicate, -map_set, -map_append, -map_reverse, -map_take, -map_drop, -map_tail, -any_map, -all_map, -mapM_map, -map_map, Try.f55, isLR, hasU]
end Go.Proofs.Ytabnganndcmcnaa.Ev

set_option linter.unusedSimpArgs false
set_option linter.unusedVariables false
namespace Go.Proofs.Ytabnganndcmcnaa.Ev
open Go Go.Proofs
open List (map_replicate map_set map_append map_reverse map_take map_drop map_tail any_map all_map mapM_map map_map)
set_option maxRecDepth 4000
set_option maxHeartbeats 4000000

theorem run_l01DrawPrime (s : Src) : ∃ (s' : Src) (p : Int), (2 ≤ p ∧ p ≤ 10007) ∧
    runv E1 204 [(V.uptr [V.list (s).code.length ((s).code.map (V.int .u8)), V.int .i64 (s).i, V.int .u64 (s).h])] = some ⟨true, (V.int .i64 (p)), [(V.uptr [V.list (s').code.length ((s').code.map (V.int .u8)), V.int .i64 (s').i, V.int .u64 (s').h])]⟩ := by
  obtain ⟨s1, p, hp, h1⟩ := run_l01Pick s [2, 3, 5, 7, 7, 11, 13, 17, 31, 101, 997, 10007] (by simp) (by simp)
  simp only [List.mem_cons, List.not_mem_nil, or_false] at hp
  simp only [List.map_cons, List.map_nil, List.length_cons, List.length_nil, Nat.reduceAdd] at h1
  refine ⟨s1, p, by omega, ?_⟩
  have cdk : codeOk Try.f204.ntmps (Try.f204.body.getD .skip) = true := by kernel_rfl
  refine run_of_WLp (fn := Try.f204) rfl Try.func204 rfl ⟨by simp [Try.ntmps204], by simp [wideA, ints], cdk, by simp [Try.f204]⟩ rfl (by simp [rebOk, noId, adoptT, adoptA, adoptL, adoptC, depth]) (by simp [pinned, adoptT, adoptA, adoptL, adoptC]) ?_
  simp [go_sem, -map_replicate, -map_set, -map_append, -map_reverse, -map_take, -map_drop, -map_tail, -any_map, -all_map, -mapM_map, -map_map, slL, szI, ldI, zI, undL, apL, setI, rdI_get, Nat.add_one_le_iff, fillV, zeros1, zeros0, appendD, segV, lvO, goneOf, sliceD, bound, Nat.add_assoc, h1, zerosV12, fillV, List.replicate]
  repeat refine ⟨by kernel_rfl, by kernel_rfl, ?_⟩
  simp [mvcgen_simp, -map_replicate, -map_set, -map_append, -map_reverse, -map_take, -map_drop, -map_tail, -any_map, -all_map, -mapM_map, -map_map, Try.f204, isLR, hasU]
theorem run_l01DrawList (s : Src) (p n : Int) (hn : n ≤ 1000) : ∃ (s' : Src) (l : List Int), l.length = n.toNat ∧
    runv E1 206 [(V.uptr [V.list (s).code.length ((s).code.map (V.int .u8)), V.int .i64 (s).i, V.int .u64 (s).h]), (V.int .i64 (p)), (V.int .i64 (n))] = some ⟨true, (V.uniq 1 (List.length (l)) (List.map (V.int .i64) (l))), [(V.uptr [V.list (s').code.length ((s').code.map (V.int .u8)), V.int .i64 (s').i, V.int .u64 (s').h]), .undef, .undef]⟩ := by
  suffices h : ∃ r, runv E1 206 [(V.uptr [V.list (s).code.length ((s).code.map (V.int .u8)), V.int .i64 (s).i, V.int .u64 (s).h]), (V.int .i64 (p)), (V.int .i64 (n))] = some r ∧ ∃ (s' : Src) (l : List Int), l.length = n.toNat ∧ r = ⟨true, (V.uniq 1 (List.length (l)) (List.map (V.int .i64) (l))), [(V.uptr [V.list (s').code.length ((s').code.map (V.int .u8)), V.int .i64 (s').i, V.int .u64 (s').h]), .undef, .undef]⟩ by
    obtain ⟨r, h, s', t, ht, rfl⟩ := h
    exact ⟨s', t, ht, h⟩
  obtain ⟨s0, cm, _, _, h0⟩ := run_l01Next s 3
  have cdk : codeOk Try.f206.ntmps (Try.f206.body.getD .skip) = true := by kernel_rfl
  refine run_of_WLpQ (fn := Try.f206) rfl Try.func206 rfl ⟨by simp [Try.ntmps206], by simp [wideA, ints], cdk, by simp [Try.f206]⟩ rfl (by simp [rebOk, noId, adoptT, adoptA, adoptL, adoptC, depth]) (by simp [pinned, adoptT, adoptA, adoptL, adoptC]) ?_
  simp [go_sem, -map_replicate, -map_set, -map_append, -map_reverse, -map_take, -map_drop, -map_tail, -any_map, -all_map, -mapM_map, -map_map, slL, szI, ldI, zI, undL, apL, setI, rdI_get, Nat.add_one_le_iff, fillV, zeros1, zeros0, appendD, segV, lvO, goneOf, sliceD, bound, Nat.add_assoc, h0, zeros0]
  rw [WL_loop]
  refine WL_forX (keep := [0, 1, 2, 7, 8]) (rs := resM Try.f206 ||| 1) rfl (by kernel_rfl) (α := Src × List Int × Int) (fun x => if x.2.1 = [] then mkSt [(0, .ptr 0 0 0), (1, .int .i64 p), (2, .int .i64 x.2.2), (7, .nils), (8, .int .i64 cm)] [some (⟨0, 1, 1, [V.list (x.1).code.length ((x.1).code.map (V.int .u8)), V.int .i64 (x.1).i, V.int .u64 (x.1).h]⟩)] (resM Try.f206 ||| 1) else mkSt [(0, .ptr 0 0 0), (1, .int .i64 p), (2, .int .i64 x.2.2), (7, .sl 1 0 0 x.2.1.length), (8, .int .i64 cm)] [some (⟨0, 1, 1, [V.list (x.1).code.length ((x.1).code.map (V.int .u8)), V.int .i64 (x.1).i, V.int .u64 (x.1).h]⟩), some (⟨0, 2, 1, x.2.1.map (V.int .i64)⟩)] (resM Try.f206 ||| 1)) (fun x => x.2.1.length + x.2.2.toNat = n.toNat ∧ (x.2.1.length ≤ 1000 ∧ x.2.2 ≤ 1000)) (fun x => x.2.2.toNat) ?_ (s0, [], n) _ ?_ rfl ?_
  · rintro ⟨s1, l, m⟩ ⟨q1, q2⟩ next
    simp only at q1 q2 next ⊢
    by_cases m0 : 0 < m
    · have w1 : IntKind.i64.wrap (m - 1) = m - 1 := IntWalk.i64_in _ (by omega)
      have c3 : (l.length + 1) * 8 ≤ 140737488355328 := by omega
      have fin : ∀ (s' : Src) (x : Int) (st' : St), st'.rs = resM Try.f206 ||| 1 → canon [0, 1, 2, 7, 8] st' = mkSt [(0, .ptr 0 0 0), (1, .int .i64 p), (2, .int .i64 (m - 1)), (7, .sl 1 0 0 (l.length + 1)), (8, .int .i64 cm)] [some (⟨0, 1, 1, [V.list (s').code.length ((s').code.map (V.int .u8)), V.int .i64 (s').i, V.int .u64 (s').h]⟩), some (⟨0, 2, 1, (l ++ [x]).map (V.int .i64)⟩)] (resM Try.f206 ||| 1) → _ := fun s' x st' a b => next (s', l ++ [x], m - 1) st' ⟨by simp only [List.length_append, List.length_singleton]; omega, by simp only [List.length_append, List.length_singleton]; omega⟩ (by simp only; omega) a (by
        rw [b]; simp only; rw [if_neg (by simp)]; simp)
      rcases l with _ | ⟨a, l⟩
      · simp only [List.length_nil, List.nil_append, List.length_cons, reduceCtorEq, if_true, if_false, Nat.zero_add, List.cons_append] at *
        by_cases c0 : cm = 0
        · subst c0
          obtain ⟨s3, x, _, _, h3⟩ := run_l01Next s1 p
          simp [go_sem, -map_replicate, -map_set, -map_append, -map_reverse, -map_take, -map_drop, -map_tail, -any_map, -all_map, -mapM_map, -map_map, slL, szI, ldI, zI, undL, apL, setI, rdI_get, Nat.add_one_le_iff, fillV, zeros1, zeros0, appendD, segV, lvO, goneOf, sliceD, bound, Nat.add_assoc, m0, w1, c3, h3, zeros1, fillV]
          repeat refine ⟨by kernel_rfl, by kernel_rfl, ?_⟩
          refine fin s3 x _ rfl ?_
          (refine canon_mkP ?_; simp [method_specs_simp, ordIds_app, ordRen_app, ordIds_app2, ordRen_app2, -map_replicate, -map_set, -map_append, -map_reverse, -map_take, -map_drop, -map_tail, -map_map, pinH])
        · obtain ⟨s2, y, _, _, h2⟩ := run_l01Next s1 3
          by_cases y0 : 0 < y
          · obtain ⟨s3, x, _, _, h3⟩ := run_l01Next s2 p
            simp [go_sem, -map_replicate, -map_set, -map_append, -map_reverse, -map_take, -map_drop, -map_tail, -any_map, -all_map, -mapM_map, -map_map, slL, szI, ldI, zI, undL, apL, setI, rdI_get, Nat.add_one_le_iff, fillV, zeros1, zeros0, appendD, segV, lvO, goneOf, sliceD, bound, Nat.add_assoc, m0, w1, c3, c0, y0, h2, h3, zeros1, fillV]
            repeat refine ⟨by kernel_rfl, by kernel_rfl, ?_⟩
            refine fin s3 x _ rfl ?_
            (refine canon_mkP ?_; simp [method_specs_simp, ordIds_app, ordRen_app, ordIds_app2, ordRen_app2, -map_replicate, -map_set, -map_append, -map_reverse, -map_take, -map_drop, -map_tail, -map_map, pinH])
          · simp [go_sem, -map_replicate, -map_set, -map_append, -map_reverse, -map_take, -map_drop, -map_tail, -any_map, -all_map, -mapM_map, -map_map, slL, szI, ldI, zI, undL, apL, setI, rdI_get, Nat.add_one_le_iff, fillV, zeros1, zeros0, appendD, segV, lvO, goneOf, sliceD, bound, Nat.add_assoc, m0, w1, c3, c0, y0, h2, zeros1, fillV]
            repeat refine ⟨by kernel_rfl, by kernel_rfl, ?_⟩
            refine fin s2 0 _ rfl ?_
            (refine canon_mkP ?_; simp [method_specs_simp, ordIds_app, ordRen_app, ordIds_app2, ordRen_app2, -map_replicate, -map_set, -map_append, -map_reverse, -map_take, -map_drop, -map_tail, -map_map, pinH])
      · simp only [List.length_nil, List.nil_append, List.length_cons, reduceCtorEq, if_true, if_false, Nat.zero_add, List.cons_append] at *
        by_cases c0 : cm = 0
        · subst c0
          obtain ⟨s3, x, _, _, h3⟩ := run_l01Next s1 p
          simp [go_sem, -map_replicate, -map_set, -map_append, -map_reverse, -map_take, -map_drop, -map_tail, -any_map, -all_map, -mapM_map, -map_map, slL, szI, ldI, zI, undL, apL, setI, rdI_get, Nat.add_one_le_iff, fillV, zeros1, zeros0, appendD, segV, lvO, goneOf, sliceD, bound, Nat.add_assoc, m0, w1, c3, h3, zeros1, fillV]
          repeat refine ⟨by kernel_rfl, by kernel_rfl, ?_⟩
          refine fin s3 x _ rfl ?_
          (refine canon_mkP ?_; simp [method_specs_simp, ordIds_app, ordRen_app, ordIds_app2, ordRen_app2, -map_replicate, -map_set, -map_append, -map_reverse, -map_take, -map_drop, -map_tail, -map_map, pinH])
        · obtain ⟨s2, y, _, _, h2⟩ := run_l01Next s1 3
          by_cases y0 : 0 < y
          · obtain ⟨s3, x, _, _, h3⟩ := run_l01Next s2 p
            simp [go_sem, -map_replicate, -map_set, -map_append, -map_reverse, -map_take, -map_drop, -map_tail, -any_map, -all_map, -mapM_map, -map_map, slL, szI, ldI, zI, undL, apL, setI, rdI_get, Nat.add_one_le_iff, fillV, zeros1, zeros0, appendD, segV, lvO, goneOf, sliceD, bound, Nat.add_assoc, m0, w1, c3, c0, y0, h2, h3, zeros1, fillV]
            repeat refine ⟨by kernel_rfl, by kernel_rfl, ?_⟩
            refine fin s3 x _ rfl ?_
            (refine canon_mkP ?_; simp [method_specs_simp, ordIds_app, ordRen_app, ordIds_app2, ordRen_app2, -map_replicate, -map_set, -map_append, -map_reverse, -map_take, -map_drop, -map_tail, -map_map, pinH])
          · simp [go_sem, -map_replicate, -map_set, -map_append, -map_reverse, -map_take, -map_drop, -map_tail, -any_map, -all_map, -mapM_map, -map_map, slL, szI, ldI, zI, undL, apL, setI, rdI_get, Nat.add_one_le_iff, fillV, zeros1, zeros0, appendD, segV, lvO, goneOf, sliceD, bound, Nat.add_assoc, m0, w1, c3, c0, y0, h2, zeros1, fillV]
            repeat refine ⟨by kernel_rfl, by kernel_rfl, ?_⟩
            refine fin s2 0 _ rfl ?_
            (refine canon_mkP ?_; simp [method_specs_simp, ordIds_app, ordRen_app, ordIds_app2, ordRen_app2, -map_replicate, -map_set, -map_append, -map_reverse, -map_take, -map_drop, -map_tail, -map_map, pinH])
    · have hl : l.length = n.toNat := by omega
      rcases l with _ | ⟨a, l⟩
      · simp only [if_true] at *
        simp [go_sem, -map_replicate, -map_set, -map_append, -map_reverse, -map_take, -map_drop, -map_tail, -any_map, -all_map, -mapM_map, -map_map, slL, szI, ldI, zI, undL, apL, setI, rdI_get, Nat.add_one_le_iff, fillV, zeros1, zeros0, appendD, segV, lvO, goneOf, sliceD, bound, Nat.add_assoc, m0]
        refine ⟨_, ?_, s1, [], hl, rfl⟩
        simp [mvcgen_simp, -map_replicate, -map_set, -map_append, -map_reverse, -map_take, -map_drop, -map_tail, -any_map, -all_map, -mapM_map, -map_map, Try.f206, isLR, hasU, ctL]
      · simp only [reduceCtorEq, if_false] at *
        simp [go_sem, -map_replicate, -map_set, -map_append, -map_reverse, -map_take, -map_drop, -map_tail, -any_map, -all_map, -mapM_map, -map_map, slL, szI, ldI, zI, undL, apL, setI, rdI_get, Nat.add_one_le_iff, fillV, zeros1, zeros0, appendD, segV, lvO, goneOf, sliceD, bound, Nat.add_assoc, m0]
        refine ⟨_, ?_, s1, a :: l, hl, rfl⟩
        simp [mvcgen_simp, -map_replicate, -map_set, -map_append, -map_reverse, -map_take, -map_drop, -map_tail, -any_map, -all_map, -mapM_map, -map_map, Try.f206, isLR, hasU, ctL]
  · exact ⟨by simp, by simp, hn⟩
  · rw [if_pos rfl]
    (refine canon_mkP ?_; simp [method_specs_simp, ordIds_app, ordRen_app, ordIds_app2, ordRen_app2, -map_replicate, -map_set, -map_append, -map_reverse, -map_take, -map_drop, -map_tail, -map_map, pinH])
end Go.Proofs.Ytabnganndcmcnaa.Ev

set_option linter.unusedSimpArgs false
set_option linter.unusedVariables false
namespace Go.Proofs.Ytabnganndcmcnaa.Ev
open Go Go.Proofs
open List (map_replicate map_set map_append map_reverse map_take map_drop map_tail any_map all_map mapM_map map_map)
set_option maxRecDepth 4000
set_option maxHeartbeats 4000000

theorem run_l03DrawOf (s : Src) (p m : Int) (hp : 2 ≤ p ∧ p ≤ 10007) (hm : 1 ≤ m ∧ m ≤ 12) : ∃ (s' : Src) (a b : List Int), (a.length = b.length ∧ 1 ≤ a.length ∧ a.length ≤ 12) ∧
    runv E1 197 [(V.uptr [V.list (s).code.length ((s).code.map (V.int .u8)), V.int .i64 (s).i, V.int .u64 (s).h]), (V.int .i64 (p)), (V.int .i64 (m))] = some ⟨true, (V.agg [V.int .i64 (p), (V.uniq 1 (List.length (a)) (List.map (V.int .i64) (a))), (V.uniq 1 (List.length (b)) (List.map (V.int .i64) (b)))]), [(V.uptr [V.list (s').code.length ((s').code.map (V.int .u8)), V.int .i64 (s').i, V.int .u64 (s').h]), .undef, .undef]⟩ := by
  suffices h : ∃ r, runv E1 197 [(V.uptr [V.list (s).code.length ((s).code.map (V.int .u8)), V.int .i64 (s).i, V.int .u64 (s).h]), (V.int .i64 (p)), (V.int .i64 (m))] = some r ∧ ∃ (s' : Src) (a b : List Int), (a.length = b.length ∧ 1 ≤ a.length ∧ a.length ≤ 12) ∧ r = ⟨true, (V.agg [V.int .i64 (p), (V.uniq 1 (List.length (a)) (List.map (V.int .i64) (a))), (V.uniq 1 (List.length (b)) (List.map (V.int .i64) (b)))]), [(V.uptr [V.list (s').code.length ((s').code.map (V.int .u8)), V.int .i64 (s').i, V.int .u64 (s').h]), .undef, .undef]⟩ by
    obtain ⟨r, h, s', a, b, ht, rfl⟩ := h
    exact ⟨s', a, b, ht, h⟩
  obtain ⟨s0, n0, _, hn0, h0⟩ := run_l01Next s m
  have hn0 := hn0 (by omega)
  have w0 : IntKind.i64.wrap (1 + n0) = 1 + n0 := IntWalk.i64_in _ (by omega)
  obtain ⟨s1, a, ha, h1⟩ := run_l01DrawList s0 p (1 + n0) (by omega)
  have ha' : (a.length : Int) = 1 + n0 := by omega
  have han : ¬ a = [] := fun h => by rw [h] at ha'; simp at ha'; omega
  have ha12 : a.length ≤ 12 := by omega
  have ha0 : 1 ≤ a.length := by omega
  have cdk : codeOk Try.f197.ntmps (Try.f197.body.getD .skip) = true := by kernel_rfl
  refine run_of_WLpQ (fn := Try.f197) rfl Try.func197 rfl ⟨by simp [Try.ntmps197], by simp [wideA, ints], cdk, by simp [Try.f197]⟩ rfl (by simp [rebOk, noId, adoptT, adoptA, adoptL, adoptC, depth]) (by simp [pinned, adoptT, adoptA, adoptL, adoptC]) ?_
  simp [go_sem, -map_replicate, -map_set, -map_append, -map_reverse, -map_take, -map_drop, -map_tail, -any_map, -all_map, -mapM_map, -map_map, slL, szI, ldI, zI, undL, apL, setI, rdI_get, Nat.add_one_le_iff, fillV, zeros1, zeros0, appendD, segV, lvO, goneOf, sliceD, bound, Nat.add_assoc, szL, ldL, setCs0, setCs1, setCs2, setCsA2, setCsA3, ldM, fM0, fM1, szM, zM, plM0, plM1, agM, paM, ldJ, fJ0, fJ1, fJ2, szJ, zJ, plJ0, plJ1, plJ2, agJ, paJ, w0, h0, h1, zeros0, fillV]
  rw [WL_loop]
  refine WL_forX (keep := [0, 1, 6, 7, 8]) (rs := resM Try.f197 ||| 1) rfl (by kernel_rfl) (α := Src × List Int × Int) (fun x => if x.2.1 = [] then mkSt [(0, .ptr 0 0 0), (1, .int .i64 p), (6, .ptr 1 0 0), (7, .int .i64 x.2.2), (8, .ptr 2 0 0)] [some (⟨0, 1, 1, [V.list (x.1).code.length ((x.1).code.map (V.int .u8)), V.int .i64 (x.1).i, V.int .u64 (x.1).h]⟩), some (⟨0, 1, 1, [.int .i64 0, .nils, .nils]⟩), some (⟨0, 1, 1, [.int .i64 p, .sl 3 0 0 a.length, .nils]⟩), some (⟨0, 2, 1, a.map (V.int .i64)⟩)] (resM Try.f197 ||| 1) else mkSt [(0, .ptr 0 0 0), (1, .int .i64 p), (6, .ptr 1 0 0), (7, .int .i64 x.2.2), (8, .ptr 2 0 0)] [some (⟨0, 1, 1, [V.list (x.1).code.length ((x.1).code.map (V.int .u8)), V.int .i64 (x.1).i, V.int .u64 (x.1).h]⟩), some (⟨0, 1, 1, [.int .i64 0, .nils, .nils]⟩), some (⟨0, 1, 1, [.int .i64 p, .sl 3 0 0 a.length, .sl 4 0 0 x.2.1.length]⟩), some (⟨0, 2, 1, a.map (V.int .i64)⟩), some (⟨0, 2, 1, x.2.1.map (V.int .i64)⟩)] (resM Try.f197 ||| 1)) (fun x => (x.2.1.length : Int) + x.2.2 = a.length ∧ 0 ≤ x.2.2) (fun x => x.2.2.toNat) ?_ (s1, [], 1 + n0) _ ?_ rfl ?_
  · rintro ⟨s1, l, k⟩ ⟨q1, q2⟩ next
    simp only at q1 q2 next ⊢
    by_cases m0 : 0 < k
    · have w1 : IntKind.i64.wrap (k - 1) = k - 1 := IntWalk.i64_in _ (by omega)
      have w2 : IntKind.i64.wrap (p - 1) = p - 1 := IntWalk.i64_in _ (by omega)
      have c3 : (l.length + 1) * 8 ≤ 140737488355328 := by omega
      have fin : ∀ (s' : Src) (x : Int) (st' : St), st'.rs = resM Try.f197 ||| 1 → canon [0, 1, 6, 7, 8] st' = mkSt [(0, .ptr 0 0 0), (1, .int .i64 p), (6, .ptr 1 0 0), (7, .int .i64 (k - 1)), (8, .ptr 2 0 0)] [some (⟨0, 1, 1, [V.list (s').code.length ((s').code.map (V.int .u8)), V.int .i64 (s').i, V.int .u64 (s').h]⟩), some (⟨0, 1, 1, [.int .i64 0, .nils, .nils]⟩), some (⟨0, 1, 1, [.int .i64 p, .sl 3 0 0 a.length, .sl 4 0 0 (l.length + 1)]⟩), some (⟨0, 2, 1, a.map (V.int .i64)⟩), some (⟨0, 2, 1, (l ++ [x]).map (V.int .i64)⟩)] (resM Try.f197 ||| 1) → _ := fun s' x st' a b => next (s', l ++ [x], k - 1) st' ⟨by simp only [List.length_append, List.length_singleton]; omega, by simp only; omega⟩ (by simp only; omega) a (by
        rw [b]; simp only; rw [if_neg (by simp)]; simp)
      obtain ⟨s3, x, _, hx, h3⟩ := run_l01Next s1 (p - 1)
      have hx := hx (by omega)
      have w3 : IntKind.i64.wrap (1 + x) = 1 + x := IntWalk.i64_in _ (by omega)
      rcases l with _ | ⟨c, l⟩
      · simp only [List.length_nil, List.nil_append, List.length_cons, reduceCtorEq, if_true, if_false, Nat.zero_add, List.cons_append] at *
        simp [go_sem, -map_replicate, -map_set, -map_append, -map_reverse, -map_take, -map_drop, -map_tail, -any_map, -all_map, -mapM_map, -map_map, slL, szI, ldI, zI, undL, apL, setI, rdI_get, Nat.add_one_le_iff, fillV, zeros1, zeros0, appendD, segV, lvO, goneOf, sliceD, bound, Nat.add_assoc, szL, ldL, setCs0, setCs1, setCs2, setCsA2, setCsA3, ldM, fM0, fM1, szM, zM, plM0, plM1, agM, paM, ldJ, fJ0, fJ1, fJ2, szJ, zJ, plJ0, plJ1, plJ2, agJ, paJ, m0, w1, w2, w3, c3, h3, zeros1, fillV]
        repeat refine ⟨by kernel_rfl, by kernel_rfl, ?_⟩
        refine fin s3 (1 + x) _ rfl ?_
        (refine canon_mkP ?_; simp [method_specs_simp, ordIds_app, ordRen_app, ordIds_app2, ordRen_app2, -map_replicate, -map_set, -map_append, -map_reverse, -map_take, -map_drop, -map_tail, -map_map, pinH])
      · simp only [List.length_nil, List.nil_append, List.length_cons, reduceCtorEq, if_true, if_false, Nat.zero_add, List.cons_append] at *
        simp [go_sem, -map_replicate, -map_set, -map_append, -map_reverse, -map_take, -map_drop, -map_tail, -any_map, -all_map, -mapM_map, -map_map, slL, szI, ldI, zI, undL, apL, setI, rdI_get, Nat.add_one_le_iff, fillV, zeros1, zeros0, appendD, segV, lvO, goneOf, sliceD, bound, Nat.add_assoc, szL, ldL, setCs0, setCs1, setCs2, setCsA2, setCsA3, ldM, fM0, fM1, szM, zM, plM0, plM1, agM, paM, ldJ, fJ0, fJ1, fJ2, szJ, zJ, plJ0, plJ1, plJ2, agJ, paJ, m0, w1, w2, w3, c3, h3, zeros1, fillV]
        repeat refine ⟨by kernel_rfl, by kernel_rfl, ?_⟩
        refine fin s3 (1 + x) _ rfl ?_
        (refine canon_mkP ?_; simp [method_specs_simp, ordIds_app, ordRen_app, ordIds_app2, ordRen_app2, -map_replicate, -map_set, -map_append, -map_reverse, -map_take, -map_drop, -map_tail, -map_map, pinH])
    · have hk : k = 0 := by omega
      subst hk
      have hl : l.length = a.length := by omega
      obtain ⟨s2, y, _, _, h2⟩ := run_l01Next s1 6
      rcases l with _ | ⟨c, l⟩
      · exfalso; simp at hl; omega
      · simp only [reduceCtorEq, if_false] at *
        by_cases y0 : y = 0
        · have c4 : a.length * 8 ≤ 140737488355328 := by omega
          have c5 : (a.length : Int) ≤ 9223372036854775807 := by omega
          have c6 : (0 : Int) ≤ (a.length : Int) := by omega
          subst y0
          simp [go_sem, -map_replicate, -map_set, -map_append, -map_reverse, -map_take, -map_drop, -map_tail, -any_map, -all_map, -mapM_map, -map_map, slL, szI, ldI, zI, undL, apL, setI, rdI_get, Nat.add_one_le_iff, fillV, zeros1, zeros0, appendD, segV, lvO, goneOf, sliceD, bound, Nat.add_assoc, szL, ldL, setCs0, setCs1, setCs2, setCsA2, setCsA3, ldM, fM0, fM1, szM, zM, plM0, plM1, agM, paM, ldJ, fJ0, fJ1, fJ2, szJ, zJ, plJ0, plJ1, plJ2, agJ, paJ, h2, c4, c5, c6, zerosI]
          repeat refine ⟨by kernel_rfl, by kernel_rfl, ?_⟩
          refine ⟨_, ?_, s2, List.replicate a.length 0, c :: l, ⟨by simp only [List.length_replicate]; omega, by simp only [List.length_replicate]; omega, by simp only [List.length_replicate]; omega⟩, rfl⟩
          simp [mvcgen_simp, -map_replicate, -map_set, -map_append, -map_reverse, -map_take, -map_drop, -map_tail, -any_map, -all_map, -mapM_map, -map_map, Try.f197, szL, ldL, setCs0, setCs1, setCs2, setCsA2, setCsA3, ldM, fM0, fM1, szM, zM, plM0, plM1, agM, paM, ldJ, fJ0, fJ1, fJ2, szJ, zJ, plJ0, plJ1, plJ2, agJ, paJ, ctJ, loadD, viewN, isLR, hasU]
        · simp [go_sem, -map_replicate, -map_set, -map_append, -map_reverse, -map_take, -map_drop, -map_tail, -any_map, -all_map, -mapM_map, -map_map, slL, szI, ldI, zI, undL, apL, setI, rdI_get, Nat.add_one_le_iff, fillV, zeros1, zeros0, appendD, segV, lvO, goneOf, sliceD, bound, Nat.add_assoc, szL, ldL, setCs0, setCs1, setCs2, setCsA2, setCsA3, ldM, fM0, fM1, szM, zM, plM0, plM1, agM, paM, ldJ, fJ0, fJ1, fJ2, szJ, zJ, plJ0, plJ1, plJ2, agJ, paJ, h2, y0]
          repeat refine ⟨by kernel_rfl, by kernel_rfl, ?_⟩
          refine ⟨_, ?_, s2, a, c :: l, ⟨by omega, ha0, ha12⟩, rfl⟩
          simp [mvcgen_simp, -map_replicate, -map_set, -map_append, -map_reverse, -map_take, -map_drop, -map_tail, -any_map, -all_map, -mapM_map, -map_map, Try.f197, szL, ldL, setCs0, setCs1, setCs2, setCsA2, setCsA3, ldM, fM0, fM1, szM, zM, plM0, plM1, agM, paM, ldJ, fJ0, fJ1, fJ2, szJ, zJ, plJ0, plJ1, plJ2, agJ, paJ, ctJ, loadD, viewN, isLR, hasU]
  · exact ⟨by simp only [List.length_nil]; omega, by simp only; omega⟩
  · rw [if_pos rfl]
    (refine canon_mkP ?_; simp [method_specs_simp, ordIds_app, ordRen_app, ordIds_app2, ordRen_app2, -map_replicate, -map_set, -map_append, -map_reverse, -map_take, -map_drop, -map_tail, -map_map, pinH])
theorem run_l03Draw (s : Src) : ∃ (s' : Src) (p : Int) (a b : List Int), (a.length = b.length ∧ 1 ≤ a.length ∧ a.length ≤ 12) ∧
    runv E1 248 [(V.uptr [V.list (s).code.length ((s).code.map (V.int .u8)), V.int .i64 (s).i, V.int .u64 (s).h])] = some ⟨true, (V.agg [V.int .i64 (p), (V.uniq 1 (List.length (a)) (List.map (V.int .i64) (a))), (V.uniq 1 (List.length (b)) (List.map (V.int .i64) (b)))]), [(V.uptr [V.list (s').code.length ((s').code.map (V.int .u8)), V.int .i64 (s').i, V.int .u64 (s').h])]⟩ := by
  obtain ⟨s1, p, hp, h1⟩ := run_l01DrawPrime s
  obtain ⟨s2, m, hm, h2⟩ := run_l01Pick s1 [2, 3, 4, 6, 12] (by simp) (by simp)
  simp only [List.mem_cons, List.not_mem_nil, or_false] at hm
  obtain ⟨s3, a, b, hab, h3⟩ := run_l03DrawOf s2 p m hp (by omega)
  simp only [List.map_cons, List.map_nil, List.length_cons, List.length_nil, Nat.reduceAdd] at h2
  refine ⟨s3, p, a, b, hab, ?_⟩
  have cdk : codeOk Try.f248.ntmps (Try.f248.body.getD .skip) = true := by kernel_rfl
  refine run_of_WLp (fn := Try.f248) rfl Try.func248 rfl ⟨by simp [Try.ntmps248], by simp [wideA, ints], cdk, by simp [Try.f248]⟩ rfl (by simp [rebOk, noId, adoptT, adoptA, adoptL, adoptC, depth]) (by simp [pinned, adoptT, adoptA, adoptL, adoptC]) ?_
  simp [go_sem, -map_replicate, -map_set, -map_append, -map_reverse, -map_take, -map_drop, -map_tail, -any_map, -all_map, -mapM_map, -map_map, slL, szI, ldI, zI, undL, apL, setI, rdI_get, Nat.add_one_le_iff, fillV, zeros1, zeros0, appendD, segV, lvO, goneOf, sliceD, bound, Nat.add_assoc, szL, ldL, setCs0, setCs1, setCs2, setCsA2, setCsA3, ldM, fM0, fM1, szM, zM, plM0, plM1, agM, paM, ldJ, fJ0, fJ1, fJ2, szJ, zJ, plJ0, plJ1, plJ2, agJ, paJ, h1, h2, h3, zerosV5, fillV]
  repeat refine ⟨by kernel_rfl, by kernel_rfl, ?_⟩
  simp [mvcgen_simp, -map_replicate, -map_set, -map_append, -map_reverse, -map_take, -map_drop, -map_tail, -any_map, -all_map, -mapM_map, -map_map, Try.f248, szL, ldL, setCs0, setCs1, setCs2, setCsA2, setCsA3, ldM, fM0, fM1, szM, zM, plM0, plM1, agM, paM, ldJ, fJ0, fJ1, fJ2, szJ, zJ, plJ0, plJ1, plJ2, agJ, paJ, ctJ, loadD, viewN, isLR, hasU]
theorem run_l03Bad (s : Src) (p : Int) (a b : List Int) (hab : a.length = b.length ∧ 1 ≤ a.length ∧ a.length ≤ 12) : ∃ (s' : Src) (p' : Int) (a' b' : List Int), (1 ≤ a'.length ∧ a'.length ≤ 13 ∧ b'.length ≤ 13) ∧
    runv E1 247 [(V.uptr [V.list (s).code.length ((s).code.map (V.int .u8)), V.int .i64 (s).i, V.int .u64 (s).h]), (V.agg [V.int .i64 (p), (V.list (List.length (a)) (List.map (V.int .i64) (a))), (V.list (List.length (b)) (List.map (V.int .i64) (b)))])] = some ⟨false, (V.agg [V.int .i64 (p'), (V.list (List.length (a')) (List.map (V.int .i64) (a'))), (V.list (List.length (b')) (List.map (V.int .i64) (b')))]), [(V.uptr [V.list (s').code.length ((s').code.map (V.int .u8)), V.int .i64 (s').i, V.int .u64 (s').h]), .agg [.undef, .undef, .undef]]⟩ := by
  obtain ⟨s1, x, _, hx, h1⟩ := run_l01Next s 40
  by_cases x0 : x = 0
  · subst x0
    obtain ⟨s2, q, _, h2⟩ := run_l01Pick s1 [0, 4, 10009] (by simp) (by simp)
    simp only [List.map_cons, List.map_nil, List.length_cons, List.length_nil, Nat.reduceAdd] at h2
    refine ⟨s2, q, a, b, by omega, ?_⟩
    have cdk : codeOk Try.f247.ntmps (Try.f247.body.getD .skip) = true := by kernel_rfl
    refine run_of_WLp (fn := Try.f247) rfl Try.func247 rfl ⟨by simp [Try.ntmps247], by simp [wideA, ints], cdk, by simp [Try.f247]⟩ rfl (by simp [rebOk, noId, adoptT, adoptA, adoptL, adoptC, depth]) (by simp [pinned, adoptT, adoptA, adoptL, adoptC]) ?_
    simp [go_sem, -map_replicate, -map_set, -map_append, -map_reverse, -map_take, -map_drop, -map_tail, -any_map, -all_map, -mapM_map, -map_map, slL, szI, ldI, zI, undL, apL, setI, rdI_get, Nat.add_one_le_iff, fillV, zeros1, zeros0, appendD, segV, lvO, goneOf, sliceD, bound, Nat.add_assoc, szL, ldL, setCs0, setCs1, setCs2, setCsA2, setCsA3, ldM, fM0, fM1, szM, zM, plM0, plM1, agM, paM, ldJ, fJ0, fJ1, fJ2, szJ, zJ, plJ0, plJ1, plJ2, agJ, paJ, h1, h2, zerosV3, fillV]
    repeat refine ⟨by kernel_rfl, by kernel_rfl, ?_⟩
    simp [mvcgen_simp, -map_replicate, -map_set, -map_append, -map_reverse, -map_take, -map_drop, -map_tail, -any_map, -all_map, -mapM_map, -map_map, Try.f247, szL, ldL, setCs0, setCs1, setCs2, setCsA2, setCsA3, ldM, fM0, fM1, szM, zM, plM0, plM1, agM, paM, ldJ, fJ0, fJ1, fJ2, szJ, zJ, plJ0, plJ1, plJ2, agJ, paJ, ctJ, loadD, viewN, isLR, hasU]
  by_cases x1 : x = 1
  · subst x1
    have h2 := up (run_l01Own b (by omega))
    have c3 : (b.length + 1) * 8 ≤ 140737488355328 := by omega
    refine ⟨s1, p, a, b ++ [1], by simp only [List.length_append, List.length_singleton]; omega, ?_⟩
    have cdk : codeOk Try.f247.ntmps (Try.f247.body.getD .skip) = true := by kernel_rfl
    refine run_of_WLp (fn := Try.f247) rfl Try.func247 rfl ⟨by simp [Try.ntmps247], by simp [wideA, ints], cdk, by simp [Try.f247]⟩ rfl (by simp [rebOk, noId, adoptT, adoptA, adoptL, adoptC, depth]) (by simp [pinned, adoptT, adoptA, adoptL, adoptC]) ?_
    have app : b.map (V.int .i64) ++ [V.int .i64 1] = (b ++ [1]).map (V.int .i64) := by simp
    have lap : (b ++ [1]).length = b.length + 1 := by simp
    simp [go_sem, -map_replicate, -map_set, -map_append, -map_reverse, -map_take, -map_drop, -map_tail, -any_map, -all_map, -mapM_map, -map_map, slL, szI, ldI, zI, undL, apL, setI, rdI_get, Nat.add_one_le_iff, fillV, zeros1, zeros0, appendD, segV, lvO, goneOf, sliceD, bound, Nat.add_assoc, szL, ldL, setCs0, setCs1, setCs2, setCsA2, setCsA3, ldM, fM0, fM1, szM, zM, plM0, plM1, agM, paM, ldJ, fJ0, fJ1, fJ2, szJ, zJ, plJ0, plJ1, plJ2, agJ, paJ, h1, h2, c3, zeros1, fillV, app]
    repeat refine ⟨by kernel_rfl, by kernel_rfl, ?_⟩
    generalize b ++ [1] = b2 at *
    simp [mvcgen_simp, -map_replicate, -map_set, -map_append, -map_reverse, -map_take, -map_drop, -map_tail, -any_map, -all_map, -mapM_map, -map_map, Try.f247, szL, ldL, setCs0, setCs1, setCs2, setCsA2, setCsA3, ldM, fM0, fM1, szM, zM, plM0, plM1, agM, paM, ldJ, fJ0, fJ1, fJ2, szJ, zJ, plJ0, plJ1, plJ2, agJ, paJ, ctJ, loadD, viewN, isLR, hasU, app, lap]
  by_cases x2 : x = 2
  · subst x2
    have h2 := up (run_l01Own b (by omega))
    have w2 : IntKind.i64.wrap (b.length : Int) = b.length := IntWalk.i64_in _ (by omega)
    obtain ⟨s2, y, _, hy, h3⟩ := run_l01Next s1 b.length
    have hy := hy (by omega)
    obtain ⟨k, rfl⟩ : ∃ k : Nat, y = k := ⟨y.toNat, by omega⟩
    have hk : k < b.length := by omega
    have hk2 : (k : Int) < b.length := by omega
    obtain ⟨s3, q, _, h4⟩ := run_l01Pick s2 [0, p] (by simp) (by simp)
    simp only [List.map_cons, List.map_nil, List.length_cons, List.length_nil, Nat.reduceAdd] at h4
    refine ⟨s3, p, a, b.set k q, by simp; omega, ?_⟩
    have cdk : codeOk Try.f247.ntmps (Try.f247.body.getD .skip) = true := by kernel_rfl
    refine run_of_WLp (fn := Try.f247) rfl Try.func247 rfl ⟨by simp [Try.ntmps247], by simp [wideA, ints], cdk, by simp [Try.f247]⟩ rfl (by simp [rebOk, noId, adoptT, adoptA, adoptL, adoptC, depth]) (by simp [pinned, adoptT, adoptA, adoptL, adoptC]) ?_
    simp [go_sem, -map_replicate, -map_set, -map_append, -map_reverse, -map_take, -map_drop, -map_tail, -any_map, -all_map, -mapM_map, -map_map, slL, szI, ldI, zI, undL, apL, setI, rdI_get, Nat.add_one_le_iff, fillV, zeros1, zeros0, appendD, segV, lvO, goneOf, sliceD, bound, Nat.add_assoc, szL, ldL, setCs0, setCs1, setCs2, setCsA2, setCsA3, ldM, fM0, fM1, szM, zM, plM0, plM1, agM, paM, ldJ, fJ0, fJ1, fJ2, szJ, zJ, plJ0, plJ1, plJ2, agJ, paJ, h1, h2, h3, h4, hk, hk2, w2, undI64, convD, zerosV2, fillV]
    repeat refine ⟨by kernel_rfl, by kernel_rfl, ?_⟩
    simp [mvcgen_simp, -map_replicate, -map_set, -map_append, -map_reverse, -map_take, -map_drop, -map_tail, -any_map, -all_map, -mapM_map, -map_map, Try.f247, szL, ldL, setCs0, setCs1, setCs2, setCsA2, setCsA3, ldM, fM0, fM1, szM, zM, plM0, plM1, agM, paM, ldJ, fJ0, fJ1, fJ2, szJ, zJ, plJ0, plJ1, plJ2, agJ, paJ, ctJ, loadD, viewN, isLR, hasU]
  by_cases x3 : x = 3
  · subst x3
    have h2 := up (run_l01Own a (by omega))
    obtain ⟨s3, q, _, h4⟩ := run_l01Pick s1 [-1, p] (by simp) (by simp)
    simp only [List.map_cons, List.map_nil, List.length_cons, List.length_nil, Nat.reduceAdd] at h4
    have hk : 0 < a.length := by omega
    have hk2 : (0 : Int) < a.length := by omega
    refine ⟨s3, p, a.set 0 q, b, by simp; omega, ?_⟩
    have cdk : codeOk Try.f247.ntmps (Try.f247.body.getD .skip) = true := by kernel_rfl
    refine run_of_WLp (fn := Try.f247) rfl Try.func247 rfl ⟨by simp [Try.ntmps247], by simp [wideA, ints], cdk, by simp [Try.f247]⟩ rfl (by simp [rebOk, noId, adoptT, adoptA, adoptL, adoptC, depth]) (by simp [pinned, adoptT, adoptA, adoptL, adoptC]) ?_
    simp [go_sem, -map_replicate, -map_set, -map_append, -map_reverse, -map_take, -map_drop, -map_tail, -any_map, -all_map, -mapM_map, -map_map, slL, szI, ldI, zI, undL, apL, setI, rdI_get, Nat.add_one_le_iff, fillV, zeros1, zeros0, appendD, segV, lvO, goneOf, sliceD, bound, Nat.add_assoc, szL, ldL, setCs0, setCs1, setCs2, setCsA2, setCsA3, ldM, fM0, fM1, szM, zM, plM0, plM1, agM, paM, ldJ, fJ0, fJ1, fJ2, szJ, zJ, plJ0, plJ1, plJ2, agJ, paJ, h1, h2, h4, hk, hk2, zerosV2, fillV]
    repeat refine ⟨by kernel_rfl, by kernel_rfl, ?_⟩
    simp [mvcgen_simp, -map_replicate, -map_set, -map_append, -map_reverse, -map_take, -map_drop, -map_tail, -any_map, -all_map, -mapM_map, -map_map, Try.f247, szL, ldL, setCs0, setCs1, setCs2, setCsA2, setCsA3, ldM, fM0, fM1, szM, zM, plM0, plM1, agM, paM, ldJ, fJ0, fJ1, fJ2, szJ, zJ, plJ0, plJ1, plJ2, agJ, paJ, ctJ, loadD, viewN, isLR, hasU]
  refine ⟨s1, p, a, b, by omega, ?_⟩
  have cdk : codeOk Try.f247.ntmps (Try.f247.body.getD .skip) = true := by kernel_rfl
  refine run_of_WLp (fn := Try.f247) rfl Try.func247 rfl ⟨by simp [Try.ntmps247], by simp [wideA, ints], cdk, by simp [Try.f247]⟩ rfl (by simp [rebOk, noId, adoptT, adoptA, adoptL, adoptC, depth]) (by simp [pinned, adoptT, adoptA, adoptL, adoptC]) ?_
  simp [go_sem, -map_replicate, -map_set, -map_append, -map_reverse, -map_take, -map_drop, -map_tail, -any_map, -all_map, -mapM_map, -map_map, slL, szI, ldI, zI, undL, apL, setI, rdI_get, Nat.add_one_le_iff, fillV, zeros1, zeros0, appendD, segV, lvO, goneOf, sliceD, bound, Nat.add_assoc, szL, ldL, setCs0, setCs1, setCs2, setCsA2, setCsA3, ldM, fM0, fM1, szM, zM, plM0, plM1, agM, paM, ldJ, fJ0, fJ1, fJ2, szJ, zJ, plJ0, plJ1, plJ2, agJ, paJ, h1, x0, x1, x2, x3]
  repeat refine ⟨by kernel_rfl, by kernel_rfl, ?_⟩
  simp [mvcgen_simp, -map_replicate, -map_set, -map_append, -map_reverse, -map_take, -map_drop, -map_tail, -any_map, -all_map, -mapM_map, -map_map, Try.f247, szL, ldL, setCs0, setCs1, setCs2, setCsA2, setCsA3, ldM, fM0, fM1, szM, zM, plM0, plM1, agM, paM, ldJ, fJ0, fJ1, fJ2, szJ, zJ, plJ0, plJ1, plJ2, agJ, paJ, ctJ, loadD, viewN, isLR, hasU]
theorem run_l03Spoil (s : Src) : ∃ (s' : Src) (p : Int) (a b : List Int), (1 ≤ a.length ∧ a.length ≤ 13 ∧ b.length ≤ 13) ∧
    runv E1 170 [(V.uptr [V.list (s).code.length ((s).code.map (V.int .u8)), V.int .i64 (s).i, V.int .u64 (s).h])] = some ⟨false, (V.agg [V.int .i64 (p), (V.list (List.length (a)) (List.map (V.int .i64) (a))), (V.list (List.length (b)) (List.map (V.int .i64) (b)))]), [(V.uptr [V.list (s').code.length ((s').code.map (V.int .u8)), V.int .i64 (s').i, V.int .u64 (s').h])]⟩ := by
  obtain ⟨s1, p, a, b, hab, h1⟩ := run_l03Draw s
  obtain ⟨s2, p', a', b', hab', h2⟩ := run_l03Bad s1 p a b hab
  refine ⟨s2, p', a', b', hab', ?_⟩
  have cdk : codeOk Try.f170.ntmps (Try.f170.body.getD .skip) = true := by kernel_rfl
  refine run_of_WLp (fn := Try.f170) rfl Try.func170 rfl ⟨by simp [Try.ntmps170], by simp [wideA, ints], cdk, by simp [Try.f170]⟩ rfl (by simp [rebOk, noId, adoptT, adoptA, adoptL, adoptC, depth]) (by simp [pinned, adoptT, adoptA, adoptL, adoptC]) ?_
  simp [go_sem, -map_replicate, -map_set, -map_append, -map_reverse, -map_take, -map_drop, -map_tail, -any_map, -all_map, -mapM_map, -map_map, slL, szI, ldI, zI, undL, apL, setI, rdI_get, Nat.add_one_le_iff, fillV, zeros1, zeros0, appendD, segV, lvO, goneOf, sliceD, bound, Nat.add_assoc, szL, ldL, setCs0, setCs1, setCs2, setCsA2, setCsA3, ldM, fM0, fM1, szM, zM, plM0, plM1, agM, paM, ldJ, fJ0, fJ1, fJ2, szJ, zJ, plJ0, plJ1, plJ2, agJ, paJ, h1, h2]
  repeat refine ⟨by kernel_rfl, by kernel_rfl, ?_⟩
  simp [mvcgen_simp, -map_replicate, -map_set, -map_append, -map_reverse, -map_take, -map_drop, -map_tail, -any_map, -all_map, -mapM_map, -map_map, Try.f170, szL, ldL, setCs0, setCs1, setCs2, setCsA2, setCsA3, ldM, fM0, fM1, szM, zM, plM0, plM1, agM, paM, ldJ, fJ0, fJ1, fJ2, szJ, zJ, plJ0, plJ1, plJ2, agJ, paJ, ctJ, loadD, viewN, isLR, hasU]
end Go.Proofs.Ytabnganndcmcnaa.Ev

set_option linter.unusedSimpArgs false
set_option linter.unusedVariables false
namespace Go.Proofs.Ytabnganndcmcnaa.Ev
open Go Go.Proofs
open List (map_replicate map_set map_append map_reverse map_take map_drop map_tail any_map all_map mapM_map map_map)
set_option maxRecDepth 4000
set_option maxHeartbeats 4000000

theorem run_DrawWeightOfPath (code : List Int) (hb : ∀ z, z ∈ code → 0 ≤ z ∧ z ≤ 255) (hl : code.length ≤ 4096) : ∃ (p : Int) (a b : List Int) (t : ByteArray) (i : Int), (a.length ≤ 13 ∧ b.length ≤ 13 ∧ t.size ≤ 2000) ∧
    runv E1 48 [.list code.length (code.map (V.int .u8))] = some ⟨false, .tup [(V.agg [V.int .i64 (p), (V.list (List.length (a)) (List.map (V.int .i64) (a))), (V.list (List.length (b)) (List.map (V.int .i64) (b)))]), .str t, (V.int .i64 (i))], [.undef]⟩ := by
  obtain ⟨s, h0⟩ := run_l01From code hb hl
  obtain ⟨s1, p, a, b, hab, h1⟩ := run_l03Spoil s
  have w1 : IntKind.i64.wrap (a.length : Int) = a.length := IntWalk.i64_in _ (by omega)
  have w2 : IntKind.i64.wrap ((a.length : Int) - 1) = a.length - 1 := IntWalk.i64_in _ (by omega)
  obtain ⟨s2, i, _, h2⟩ := run_l01Near s1 ((a.length : Int) - 1) (by omega)
  obtain ⟨s3, q, hq, h3⟩ := run_l01Pick s2 [4, 10, 25] (by simp) (by simp)
  simp only [List.mem_cons, List.not_mem_nil, or_false] at hq
  obtain ⟨s4, t, ht, h4⟩ := run_l09DrawPath s3 (mnI (mxI i 0) ((a.length : Int) - 1)) q a.length (by unfold mnI mxI; (repeat' split) <;> omega) (by omega) (by omega)
  simp only [List.map_cons, List.map_nil, List.length_cons, List.length_nil, Nat.reduceAdd] at h3
  refine ⟨p, a, b, t, i, by omega, ?_⟩
  have cdk : codeOk Try.f48.ntmps (Try.f48.body.getD .skip) = true := by kernel_rfl
  refine run_of_WLr (fn := Try.f48) rfl Try.func48 rfl ⟨by simp [Try.ntmps48], by simp [wideA, ints], cdk, by simp [Try.f48]⟩ rfl (by simp [rebOk, noId, adoptT, adoptA, adoptL, adoptC, depth]) ?_
  simp [go_sem, -map_replicate, -map_set, -map_append, -map_reverse, -map_take, -map_drop, -map_tail, -any_map, -all_map, -mapM_map, -map_map, slL, szI, ldI, zI, undL, apL, setI, rdI_get, Nat.add_one_le_iff, fillV, zeros1, zeros0, appendD, segV, lvO, goneOf, sliceD, bound, Nat.add_assoc, szL, ldL, setCs0, setCs1, setCs2, setCsA2, setCsA3, ldM, fM0, fM1, szM, zM, plM0, plM1, agM, paM, ldJ, fJ0, fJ1, fJ2, szJ, zJ, plJ0, plJ1, plJ2, agJ, paJ, h0, h1, h2, h3, h4, w1, w2, undI64, convD, zerosV3, fillV, mmV]
  repeat refine ⟨by kernel_rfl, by kernel_rfl, ?_⟩
  simp [mvcgen_simp, -map_replicate, -map_set, -map_append, -map_reverse, -map_take, -map_drop, -map_tail, -any_map, -all_map, -mapM_map, -map_map, Try.f48, szL, ldL, setCs0, setCs1, setCs2, setCsA2, setCsA3, ldM, fM0, fM1, szM, zM, plM0, plM1, agM, paM, ldJ, fJ0, fJ1, fJ2, szJ, zJ, plJ0, plJ1, plJ2, agJ, paJ, ctJ, loadD, viewN, isLR, hasU]
theorem run_l01Fine (p : Int) : runv E1 181 [(V.int .i64 (p))] = some ⟨true, (V.int .i64 (if primeB p then p else 7)), [.undef]⟩ := by
  have h1 := up (run_l01Prime p)
  have cdk : codeOk Try.f181.ntmps (Try.f181.body.getD .skip) = true := by kernel_rfl
  refine run_of_WLr (fn := Try.f181) rfl Try.func181 rfl ⟨by simp [Try.ntmps181], by simp [wideA, ints], cdk, by simp [Try.f181]⟩ rfl (by simp [rebOk, noId, adoptT, adoptA, adoptL, adoptC, depth]) ?_
  cases e : primeB p <;> rw [e] at h1 <;> simp [go_sem, -map_replicate, -map_set, -map_append, -map_reverse, -map_take, -map_drop, -map_tail, -any_map, -all_map, -mapM_map, -map_map, slL, szI, ldI, zI, undL, apL, setI, rdI_get, Nat.add_one_le_iff, fillV, zeros1, zeros0, appendD, segV, lvO, goneOf, sliceD, bound, Nat.add_assoc, h1] <;> simp [mvcgen_simp, -map_replicate, -map_set, -map_append, -map_reverse, -map_take, -map_drop, -map_tail, -any_map, -all_map, -mapM_map, -map_map, Try.f181]
theorem fine_range (p : Int) : 2 ≤ (if primeB p then p else 7) ∧ (if primeB p then p else 7) ≤ 10007 := by
  cases e : primeB p with
  | false => simp
  | true => have := prime_range e; simpa using this
theorem run_DrawPathTriangle (code : List Int) (hb : ∀ z, z ∈ code → 0 ≤ z ∧ z ≤ 255) (hl : code.length ≤ 4096) : ∃ (p : Int) (a b : List Int), (a.length ≤ 13 ∧ b.length ≤ 13) ∧
    runv E1 57 [.list code.length (code.map (V.int .u8))] = some ⟨false, (V.agg [V.int .i64 (p), (V.list (List.length (a)) (List.map (V.int .i64) (a))), (V.list (List.length (b)) (List.map (V.int .i64) (b)))]), [.undef]⟩ := by
  obtain ⟨s, h0⟩ := run_l01From code hb hl
  obtain ⟨s1, p, a, b, hab, h1⟩ := run_l03Spoil s
  refine ⟨p, a, b, by omega, ?_⟩
  have cdk : codeOk Try.f57.ntmps (Try.f57.body.getD .skip) = true := by kernel_rfl
  refine run_of_WLr (fn := Try.f57) rfl Try.func57 rfl ⟨by simp [Try.ntmps57], by simp [wideA, ints], cdk, by simp [Try.f57]⟩ rfl (by simp [rebOk, noId, adoptT, adoptA, adoptL, adoptC, depth]) ?_
  simp [go_sem, -map_replicate, -map_set, -map_append, -map_reverse, -map_take, -map_drop, -map_tail, -any_map, -all_map, -mapM_map, -map_map, slL, szI, ldI, zI, undL, apL, setI, rdI_get, Nat.add_one_le_iff, fillV, zeros1, zeros0, appendD, segV, lvO, goneOf, sliceD, bound, Nat.add_assoc, szL, ldL, setCs0, setCs1, setCs2, setCsA2, setCsA3, ldM, fM0, fM1, szM, zM, plM0, plM1, agM, paM, ldJ, fJ0, fJ1, fJ2, szJ, zJ, plJ0, plJ1, plJ2, agJ, paJ, h0, h1]
  repeat refine ⟨by kernel_rfl, by kernel_rfl, ?_⟩
  simp [mvcgen_simp, -map_replicate, -map_set, -map_append, -map_reverse, -map_take, -map_drop, -map_tail, -any_map, -all_map, -mapM_map, -map_map, Try.f57, szL, ldL, setCs0, setCs1, setCs2, setCsA2, setCsA3, ldM, fM0, fM1, szM, zM, plM0, plM1, agM, paM, ldJ, fJ0, fJ1, fJ2, szJ, zJ, plJ0, plJ1, plJ2, agJ, paJ, ctJ, loadD, viewN, isLR, hasU]
theorem run_DrawTurningSums (code : List Int) (hb : ∀ z, z ∈ code → 0 ≤ z ∧ z ≤ 255) (hl : code.length ≤ 4096) : ∃ (p : Int) (a b : List Int) (n : Int), (a.length ≤ 13 ∧ b.length ≤ 13) ∧
    runv E1 64 [.list code.length (code.map (V.int .u8))] = some ⟨false, .tup [(V.agg [V.int .i64 (p), (V.list (List.length (a)) (List.map (V.int .i64) (a))), (V.list (List.length (b)) (List.map (V.int .i64) (b)))]), (V.int .i64 (n))], [.undef]⟩ := by
  obtain ⟨s, h0⟩ := run_l01From code hb hl
  obtain ⟨s1, p, a, b, hab, h1⟩ := run_l03Spoil s
  obtain ⟨s2, m, hm, h2⟩ := run_l01Pick s1 [4, 8, 24] (by simp) (by simp)
  simp only [List.mem_cons, List.not_mem_nil, or_false] at hm
  obtain ⟨s3, n, _, h3⟩ := run_l01Near s2 m (by omega)
  simp only [List.map_cons, List.map_nil, List.length_cons, List.length_nil, Nat.reduceAdd] at h2
  refine ⟨p, a, b, n, by omega, ?_⟩
  have cdk : codeOk Try.f64.ntmps (Try.f64.body.getD .skip) = true := by kernel_rfl
  refine run_of_WLr (fn := Try.f64) rfl Try.func64 rfl ⟨by simp [Try.ntmps64], by simp [wideA, ints], cdk, by simp [Try.f64]⟩ rfl (by simp [rebOk, noId, adoptT, adoptA, adoptL, adoptC, depth]) ?_
  simp [go_sem, -map_replicate, -map_set, -map_append, -map_reverse, -map_take, -map_drop, -map_tail, -any_map, -all_map, -mapM_map, -map_map, slL, szI, ldI, zI, undL, apL, setI, rdI_get, Nat.add_one_le_iff, fillV, zeros1, zeros0, appendD, segV, lvO, goneOf, sliceD, bound, Nat.add_assoc, szL, ldL, setCs0, setCs1, setCs2, setCsA2, setCsA3, ldM, fM0, fM1, szM, zM, plM0, plM1, agM, paM, ldJ, fJ0, fJ1, fJ2, szJ, zJ, plJ0, plJ1, plJ2, agJ, paJ, h0, h1, h2, h3, zerosV3, fillV]
  repeat refine ⟨by kernel_rfl, by kernel_rfl, ?_⟩
  simp [mvcgen_simp, -map_replicate, -map_set, -map_append, -map_reverse, -map_take, -map_drop, -map_tail, -any_map, -all_map, -mapM_map, -map_map, Try.f64, szL, ldL, setCs0, setCs1, setCs2, setCsA2, setCsA3, ldM, fM0, fM1, szM, zM, plM0, plM1, agM, paM, ldJ, fJ0, fJ1, fJ2, szJ, zJ, plJ0, plJ1, plJ2, agJ, paJ, ctJ, loadD, viewN, isLR, hasU]
theorem run_DrawPathSum (code : List Int) (hb : ∀ z, z ∈ code → 0 ≤ z ∧ z ≤ 255) (hl : code.length ≤ 4096) : ∃ (p : Int) (a b : List Int) (n i k : Int), (a.length ≤ 13 ∧ b.length ≤ 13) ∧
    runv E1 68 [.list code.length (code.map (V.int .u8))] = some ⟨false, .tup [(V.agg [V.int .i64 (p), (V.list (List.length (a)) (List.map (V.int .i64) (a))), (V.list (List.length (b)) (List.map (V.int .i64) (b)))]), (V.int .i64 (n)), (V.int .i64 (i)), (V.int .i64 (k))], [.undef]⟩ := by
  obtain ⟨s, h0⟩ := run_l01From code hb hl
  obtain ⟨s1, p, a, b, hab, h1⟩ := run_l03Spoil s
  have w1 : IntKind.i64.wrap (a.length : Int) = a.length := IntWalk.i64_in _ (by omega)
  have w2 : IntKind.i64.wrap ((a.length : Int) - 1) = a.length - 1 := IntWalk.i64_in _ (by omega)
  obtain ⟨s2, m, hm, h2⟩ := run_l01Pick s1 [4, 8, 24] (by simp) (by simp)
  simp only [List.mem_cons, List.not_mem_nil, or_false] at hm
  obtain ⟨s3, n, _, h3⟩ := run_l01Near s2 m (by omega)
  obtain ⟨s4, i, _, h4⟩ := run_l01Near s3 ((a.length : Int) - 1) (by omega)
  obtain ⟨s5, k, _, h5⟩ := run_l01Near s4 ((a.length : Int) - 1) (by omega)
  simp only [List.map_cons, List.map_nil, List.length_cons, List.length_nil, Nat.reduceAdd] at h2
  refine ⟨p, a, b, n, i, k, by omega, ?_⟩
  have cdk : codeOk Try.f68.ntmps (Try.f68.body.getD .skip) = true := by kernel_rfl
  refine run_of_WLr (fn := Try.f68) rfl Try.func68 rfl ⟨by simp [Try.ntmps68], by simp [wideA, ints], cdk, by simp [Try.f68]⟩ rfl (by simp [rebOk, noId, adoptT, adoptA, adoptL, adoptC, depth]) ?_
  simp [go_sem, -map_replicate, -map_set, -map_append, -map_reverse, -map_take, -map_drop, -map_tail, -any_map, -all_map, -mapM_map, -map_map, slL, szI, ldI, zI, undL, apL, setI, rdI_get, Nat.add_one_le_iff, fillV, zeros1, zeros0, appendD, segV, lvO, goneOf, sliceD, bound, Nat.add_assoc, szL, ldL, setCs0, setCs1, setCs2, setCsA2, setCsA3, ldM, fM0, fM1, szM, zM, plM0, plM1, agM, paM, ldJ, fJ0, fJ1, fJ2, szJ, zJ, plJ0, plJ1, plJ2, agJ, paJ, h0, h1, h2, h3, h4, h5, w1, w2, undI64, convD, zerosV3, fillV]
  repeat refine ⟨by kernel_rfl, by kernel_rfl, ?_⟩
  simp [mvcgen_simp, -map_replicate, -map_set, -map_append, -map_reverse, -map_take, -map_drop, -map_tail, -any_map, -all_map, -mapM_map, -map_map, Try.f68, szL, ldL, setCs0, setCs1, setCs2, setCsA2, setCsA3, ldM, fM0, fM1, szM, zM, plM0, plM1, agM, paM, ldJ, fJ0, fJ1, fJ2, szJ, zJ, plJ0, plJ1, plJ2, agJ, paJ, ctJ, loadD, viewN, isLR, hasU]
theorem run_l08Data (code : List Int) (hb : ∀ z, z ∈ code → 0 ≤ z ∧ z ≤ 255) (hl : code.length ≤ 4096) : ∃ (p : Int) (a b : List Int) (x y : Int), (a.length ≤ 13 ∧ b.length ≤ 13) ∧
    runv E1 145 [.list code.length (code.map (V.int .u8))] = some ⟨false, .tup [(V.agg [V.int .i64 (p), (V.list (List.length (a)) (List.map (V.int .i64) (a))), (V.list (List.length (b)) (List.map (V.int .i64) (b)))]), (V.int .i64 (x)), (V.int .i64 (y))], [.undef]⟩ := by
  obtain ⟨s, h0⟩ := run_l01From code hb hl
  obtain ⟨s1, p, a, b, hab, h1⟩ := run_l03Spoil s
  have h2 := run_l01Fine p
  have hf := fine_range p
  generalize (if primeB p then p else 7) = q at *
  obtain ⟨s2, x, _, _, h3⟩ := run_l01Next s1 q
  obtain ⟨s3, z, _, hz, h4⟩ := run_l01Next s2 24
  have hz := hz (by omega)
  have t1 := tmod_small (x := z) (n := 23) (by omega) (by omega)
  have w1 : IntKind.i64.wrap (z.tdiv 23) = z.tdiv 23 := IntWalk.i64_in _ (by rw [Int.tdiv_eq_ediv_of_nonneg (by omega)]; omega)
  have w2 : IntKind.i64.wrap (q + z.tdiv 23) = q + z.tdiv 23 := IntWalk.i64_in _ (by rw [Int.tdiv_eq_ediv_of_nonneg (by omega)]; omega)
  obtain ⟨s4, y, _, _, h5⟩ := run_l01Next s3 (q + z.tdiv 23)
  refine ⟨p, a, b, x, y, by omega, ?_⟩
  have cdk : codeOk Try.f145.ntmps (Try.f145.body.getD .skip) = true := by kernel_rfl
  refine run_of_WLr (fn := Try.f145) rfl Try.func145 rfl ⟨by simp [Try.ntmps145], by simp [wideA, ints], cdk, by simp [Try.f145]⟩ rfl (by simp [rebOk, noId, adoptT, adoptA, adoptL, adoptC, depth]) ?_
  simp [go_sem, -map_replicate, -map_set, -map_append, -map_reverse, -map_take, -map_drop, -map_tail, -any_map, -all_map, -mapM_map, -map_map, slL, szI, ldI, zI, undL, apL, setI, rdI_get, Nat.add_one_le_iff, fillV, zeros1, zeros0, appendD, segV, lvO, goneOf, sliceD, bound, Nat.add_assoc, szL, ldL, setCs0, setCs1, setCs2, setCsA2, setCsA3, ldM, fM0, fM1, szM, zM, plM0, plM1, agM, paM, ldJ, fJ0, fJ1, fJ2, szJ, zJ, plJ0, plJ1, plJ2, agJ, paJ, h0, h1, h2, h3, h4, h5, w1, w2]
  repeat refine ⟨by kernel_rfl, by kernel_rfl, ?_⟩
  simp [mvcgen_simp, -map_replicate, -map_set, -map_append, -map_reverse, -map_take, -map_drop, -map_tail, -any_map, -all_map, -mapM_map, -map_map, Try.f145, szL, ldL, setCs0, setCs1, setCs2, setCsA2, setCsA3, ldM, fM0, fM1, szM, zM, plM0, plM1, agM, paM, ldJ, fJ0, fJ1, fJ2, szJ, zJ, plJ0, plJ1, plJ2, agJ, paJ, ctJ, loadD, viewN, isLR, hasU]
theorem run_DrawStepOfJacobi (code : List Int) (hb : ∀ z, z ∈ code → 0 ≤ z ∧ z ≤ 255) (hl : code.length ≤ 4096) : ∃ (p : Int) (a b : List Int) (x : Int), (a.length ≤ 13 ∧ b.length ≤ 13) ∧
    runv E1 26 [.list code.length (code.map (V.int .u8))] = some ⟨false, .tup [(V.agg [V.int .i64 (p), (V.list (List.length (a)) (List.map (V.int .i64) (a))), (V.list (List.length (b)) (List.map (V.int .i64) (b)))]), (V.int .i64 (x))], [.undef]⟩ := by
  obtain ⟨p, a, b, x, y, hab, h1⟩ := run_l08Data code hb hl
  refine ⟨p, a, b, y, hab, ?_⟩
  have cdk : codeOk Try.f26.ntmps (Try.f26.body.getD .skip) = true := by kernel_rfl
  refine run_of_WLr (fn := Try.f26) rfl Try.func26 rfl ⟨by simp [Try.ntmps26], by simp [wideA, ints], cdk, by simp [Try.f26]⟩ rfl (by simp [rebOk, noId, adoptT, adoptA, adoptL, adoptC, depth]) ?_
  simp [go_sem, -map_replicate, -map_set, -map_append, -map_reverse, -map_take, -map_drop, -map_tail, -any_map, -all_map, -mapM_map, -map_map, slL, szI, ldI, zI, undL, apL, setI, rdI_get, Nat.add_one_le_iff, fillV, zeros1, zeros0, appendD, segV, lvO, goneOf, sliceD, bound, Nat.add_assoc, szL, ldL, setCs0, setCs1, setCs2, setCsA2, setCsA3, ldM, fM0, fM1, szM, zM, plM0, plM1, agM, paM, ldJ, fJ0, fJ1, fJ2, szJ, zJ, plJ0, plJ1, plJ2, agJ, paJ, h1]
  repeat refine ⟨by kernel_rfl, by kernel_rfl, ?_⟩
  simp [mvcgen_simp, -map_replicate, -map_set, -map_append, -map_reverse, -map_take, -map_drop, -map_tail, -any_map, -all_map, -mapM_map, -map_map, Try.f26, szL, ldL, setCs0, setCs1, setCs2, setCsA2, setCsA3, ldM, fM0, fM1, szM, zM, plM0, plM1, agM, paM, ldJ, fJ0, fJ1, fJ2, szJ, zJ, plJ0, plJ1, plJ2, agJ, paJ, ctJ, loadD, viewN, isLR, hasU]
theorem run_DrawStepBack (code : List Int) (hb : ∀ z, z ∈ code → 0 ≤ z ∧ z ≤ 255) (hl : code.length ≤ 4096) : ∃ (p : Int) (a b : List Int) (x y : Int), (a.length ≤ 13 ∧ b.length ≤ 13) ∧
    runv E1 28 [.list code.length (code.map (V.int .u8))] = some ⟨false, .tup [(V.agg [V.int .i64 (p), (V.list (List.length (a)) (List.map (V.int .i64) (a))), (V.list (List.length (b)) (List.map (V.int .i64) (b)))]), (V.int .i64 (x)), (V.int .i64 (y))], [.undef]⟩ := by
  obtain ⟨p, a, b, x, y, hab, h1⟩ := run_l08Data code hb hl
  refine ⟨p, a, b, x, y, hab, ?_⟩
  have cdk : codeOk Try.f28.ntmps (Try.f28.body.getD .skip) = true := by kernel_rfl
  refine run_of_WLr (fn := Try.f28) rfl Try.func28 rfl ⟨by simp [Try.ntmps28], by simp [wideA, ints], cdk, by simp [Try.f28]⟩ rfl (by simp [rebOk, noId, adoptT, adoptA, adoptL, adoptC, depth]) ?_
  simp [go_sem, -map_replicate, -map_set, -map_append, -map_reverse, -map_take, -map_drop, -map_tail, -any_map, -all_map, -mapM_map, -map_map, slL, szI, ldI, zI, undL, apL, setI, rdI_get, Nat.add_one_le_iff, fillV, zeros1, zeros0, appendD, segV, lvO, goneOf, sliceD, bound, Nat.add_assoc, szL, ldL, setCs0, setCs1, setCs2, setCsA2, setCsA3, ldM, fM0, fM1, szM, zM, plM0, plM1, agM, paM, ldJ, fJ0, fJ1, fJ2, szJ, zJ, plJ0, plJ1, plJ2, agJ, paJ, h1]
  repeat refine ⟨by kernel_rfl, by kernel_rfl, ?_⟩
  simp [mvcgen_simp, -map_replicate, -map_set, -map_append, -map_reverse, -map_take, -map_drop, -map_tail, -any_map, -all_map, -mapM_map, -map_map, Try.f28, szL, ldL, setCs0, setCs1, setCs2, setCsA2, setCsA3, ldM, fM0, fM1, szM, zM, plM0, plM1, agM, paM, ldJ, fJ0, fJ1, fJ2, szJ, zJ, plJ0, plJ1, plJ2, agJ, paJ, ctJ, loadD, viewN, isLR, hasU]
theorem run_DrawStepsOfJacobi (code : List Int) (hb : ∀ z, z ∈ code → 0 ≤ z ∧ z ≤ 255) (hl : code.length ≤ 4096) : ∃ (p : Int) (a b : List Int) (x n : Int), (a.length ≤ 13 ∧ b.length ≤ 13) ∧
    runv E1 31 [.list code.length (code.map (V.int .u8))] = some ⟨false, .tup [(V.agg [V.int .i64 (p), (V.list (List.length (a)) (List.map (V.int .i64) (a))), (V.list (List.length (b)) (List.map (V.int .i64) (b)))]), (V.int .i64 (x)), (V.int .i64 (n))], [.undef]⟩ := by
  obtain ⟨s, h0⟩ := run_l01From code hb hl
  obtain ⟨p, a, b, x, y, hab, h1⟩ := run_l08Data code hb hl
  obtain ⟨s1, n, _, hn, h2⟩ := run_l01Next s 4
  have hn := hn (by omega)
  by_cases ha : 0 < a.length
  · obtain ⟨s2, z, _, hz, h3⟩ := run_l01Next s1 8
    have hz := hz (by omega)
    have w0 : IntKind.i64.wrap (a.length : Int) = a.length := IntWalk.i64_in _ (by omega)
    have w1 : IntKind.i64.wrap ((a.length : Int) - 1) = a.length - 1 := IntWalk.i64_in _ (by omega)
    have w2 : IntKind.i64.wrap (z.tdiv 7) = z.tdiv 7 := IntWalk.i64_in _ (by rw [Int.tdiv_eq_ediv_of_nonneg (by omega)]; omega)
    have w3 : IntKind.i64.wrap ((a.length : Int) - 1 + z.tdiv 7) = a.length - 1 + z.tdiv 7 := IntWalk.i64_in _ (by rw [Int.tdiv_eq_ediv_of_nonneg (by omega)]; omega)
    have ha2 : (0 : Int) < a.length := by omega
    refine ⟨p, a, b, x, mnI n ((a.length : Int) - 1 + z.tdiv 7), hab, ?_⟩
    have hne : ¬ a = [] := fun h => by rw [h] at ha; simp at ha
    have cdk : codeOk Try.f31.ntmps (Try.f31.body.getD .skip) = true := by kernel_rfl
    refine run_of_WLr (fn := Try.f31) rfl Try.func31 rfl ⟨by simp [Try.ntmps31], by simp [wideA, ints], cdk, by simp [Try.f31]⟩ rfl (by simp [rebOk, noId, adoptT, adoptA, adoptL, adoptC, depth]) ?_
    simp [go_sem, -map_replicate, -map_set, -map_append, -map_reverse, -map_take, -map_drop, -map_tail, -any_map, -all_map, -mapM_map, -map_map, slL, szI, ldI, zI, undL, apL, setI, rdI_get, Nat.add_one_le_iff, fillV, zeros1, zeros0, appendD, segV, lvO, goneOf, sliceD, bound, Nat.add_assoc, szL, ldL, setCs0, setCs1, setCs2, setCsA2, setCsA3, ldM, fM0, fM1, szM, zM, plM0, plM1, agM, paM, ldJ, fJ0, fJ1, fJ2, szJ, zJ, plJ0, plJ1, plJ2, agJ, paJ, h0, h1, h2, h3, w0, w1, w2, w3, ha, ha2, hne, undI64, convD, mmV]
    repeat refine ⟨by kernel_rfl, by kernel_rfl, ?_⟩
    simp [mvcgen_simp, -map_replicate, -map_set, -map_append, -map_reverse, -map_take, -map_drop, -map_tail, -any_map, -all_map, -mapM_map, -map_map, Try.f31, szL, ldL, setCs0, setCs1, setCs2, setCsA2, setCsA3, ldM, fM0, fM1, szM, zM, plM0, plM1, agM, paM, ldJ, fJ0, fJ1, fJ2, szJ, zJ, plJ0, plJ1, plJ2, agJ, paJ, ctJ, loadD, viewN, isLR, hasU]
  · have hne : a = [] := List.eq_nil_of_length_eq_zero (by omega)
    refine ⟨p, a, b, x, n, hab, ?_⟩
    subst hne
    have cdk : codeOk Try.f31.ntmps (Try.f31.body.getD .skip) = true := by kernel_rfl
    refine run_of_WLr (fn := Try.f31) rfl Try.func31 rfl ⟨by simp [Try.ntmps31], by simp [wideA, ints], cdk, by simp [Try.f31]⟩ rfl (by simp [rebOk, noId, adoptT, adoptA, adoptL, adoptC, depth]) ?_
    simp [go_sem, -map_replicate, -map_set, -map_append, -map_reverse, -map_take, -map_drop, -map_tail, -any_map, -all_map, -mapM_map, -map_map, slL, szI, ldI, zI, undL, apL, setI, rdI_get, Nat.add_one_le_iff, fillV, zeros1, zeros0, appendD, segV, lvO, goneOf, sliceD, bound, Nat.add_assoc, szL, ldL, setCs0, setCs1, setCs2, setCsA2, setCsA3, ldM, fM0, fM1, szM, zM, plM0, plM1, agM, paM, ldJ, fJ0, fJ1, fJ2, szJ, zJ, plJ0, plJ1, plJ2, agJ, paJ, h0, h1, h2]
    repeat refine ⟨by kernel_rfl, by kernel_rfl, ?_⟩
    simp [mvcgen_simp, -map_replicate, -map_set, -map_append, -map_reverse, -map_take, -map_drop, -map_tail, -any_map, -all_map, -mapM_map, -map_map, Try.f31, szL, ldL, setCs0, setCs1, setCs2, setCsA2, setCsA3, ldM, fM0, fM1, szM, zM, plM0, plM1, agM, paM, ldJ, fJ0, fJ1, fJ2, szJ, zJ, plJ0, plJ1, plJ2, agJ, paJ, ctJ, loadD, viewN, isLR, hasU]
end Go.Proofs.Ytabnganndcmcnaa.Ev
