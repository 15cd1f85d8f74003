/- Draws for the law of linear combinations. Conditions: none. -/
import Derived.Test.YtabnganndcmcnaaFnEF
set_option linter.unusedSimpArgs false
set_option linter.unusedVariables false
namespace Go.Proofs.Ytabnganndcmcnaa.Ev
open Go Go.Proofs
open List (map_replicate map_set map_append map_reverse map_take map_drop map_tail any_map all_map mapM_map map_map)
set_option maxRecDepth 4000
set_option maxHeartbeats 4000000

theorem run_DrawExpandBy (code : List Int) (hb : ∀ z, z ∈ code → 0 ≤ z ∧ z ≤ 255) (hl : code.length ≤ 4096) : ∃ (p : Int) (a b f : List Int), (a.length ≤ 13 ∧ b.length ≤ 13 ∧ f.length ≤ 1000) ∧
    runv E1 70 [.list code.length (code.map (V.int .u8))] = some ⟨false, .tup [(V.agg [V.int .i64 (p), (V.list (List.length (a)) (List.map (V.int .i64) (a))), (V.list (List.length (b)) (List.map (V.int .i64) (b)))]), (V.list (List.length (f)) (List.map (V.int .i64) (f)))], [.undef]⟩ := by
  obtain ⟨s, h0⟩ := run_l01From code hb hl
  obtain ⟨s1, p, a, b, hab, h1⟩ := run_l03Spoil s
  have h2 := run_l01Fine p
  generalize (if primeB p then p else 7) = q at *
  obtain ⟨s2, z, _, hz, h3⟩ := run_l01Next s1 16
  have hz := hz (by omega)
  have tz : 0 ≤ z.tdiv 15 ∧ z.tdiv 15 ≤ 1 := by rw [Int.tdiv_eq_ediv_of_nonneg (by omega)]; omega
  have w1 : IntKind.i64.wrap (a.length : Int) = a.length := IntWalk.i64_in _ (by omega)
  have w2 : IntKind.i64.wrap (z.tdiv 15) = z.tdiv 15 := IntWalk.i64_in _ (by omega)
  have w3 : IntKind.i64.wrap ((a.length : Int) + z.tdiv 15) = a.length + z.tdiv 15 := IntWalk.i64_in _ (by omega)
  obtain ⟨s3, f, hf, h4⟩ := run_l01DrawPoly s2 q ((a.length : Int) + z.tdiv 15) (by omega)
  refine ⟨p, a, b, f, by omega, ?_⟩
  have cdk : codeOk Try.f70.ntmps (Try.f70.body.getD .skip) = true := by kernel_rfl
  refine run_of_WLr (fn := Try.f70) rfl Try.func70 rfl ⟨by simp [Try.ntmps70], by simp [wideA, ints], cdk, by simp [Try.f70]⟩ rfl (by simp [rebOk, noId, adoptT, adoptA, adoptL, adoptC, depth]) ?_
  simp [go_sem, -map_replicate, -map_set, -map_append, -map_reverse, -map_take, -map_drop, -map_tail, -any_map, -all_map, -mapM_map, -map_map, slL, szI, ldI, zI, undL, apL, setI, rdI_get, Nat.add_one_le_iff, fillV, zeros1, zeros0, appendD, segV, lvO, goneOf, sliceD, bound, Nat.add_assoc, szL, ldL, setCs0, setCs1, setCs2, setCsA2, setCsA3, ldM, fM0, fM1, szM, zM, plM0, plM1, agM, paM, ldJ, fJ0, fJ1, fJ2, szJ, zJ, plJ0, plJ1, plJ2, agJ, paJ, h0, h1, h2, h3, h4, w1, w2, w3, undI64, convD]
  repeat refine ⟨by kernel_rfl, by kernel_rfl, ?_⟩
  simp [mvcgen_simp, -map_replicate, -map_set, -map_append, -map_reverse, -map_take, -map_drop, -map_tail, -any_map, -all_map, -mapM_map, -map_map, Try.f70, szL, ldL, setCs0, setCs1, setCs2, setCsA2, setCsA3, ldM, fM0, fM1, szM, zM, plM0, plM1, agM, paM, ldJ, fJ0, fJ1, fJ2, szJ, zJ, plJ0, plJ1, plJ2, agJ, paJ, ctJ, loadD, viewN, isLR, hasU]
theorem run_DrawSumBy (code : List Int) (hb : ∀ z, z ∈ code → 0 ≤ z ∧ z ≤ 255) (hl : code.length ≤ 4096) : ∃ (p : Int) (a b f : List Int), (a.length ≤ 13 ∧ b.length ≤ 13 ∧ f.length ≤ 1000) ∧
    runv E1 73 [.list code.length (code.map (V.int .u8))] = some ⟨false, .tup [(V.agg [V.int .i64 (p), (V.list (List.length (a)) (List.map (V.int .i64) (a))), (V.list (List.length (b)) (List.map (V.int .i64) (b)))]), (V.list (List.length (f)) (List.map (V.int .i64) (f)))], [.undef]⟩ := by
  obtain ⟨s, h0⟩ := run_l01From code hb hl
  obtain ⟨s1, p, a, b, hab, h1⟩ := run_l03Spoil s
  obtain ⟨s2, z, _, hz, h3⟩ := run_l01Next s1 16
  have hz := hz (by omega)
  have tz : 0 ≤ z.tdiv 15 ∧ z.tdiv 15 ≤ 1 := by rw [Int.tdiv_eq_ediv_of_nonneg (by omega)]; omega
  have w2 : IntKind.i64.wrap (z.tdiv 15) = z.tdiv 15 := IntWalk.i64_in _ (by omega)
  have w3 : IntKind.i64.wrap (1 + z.tdiv 15) = 1 + z.tdiv 15 := IntWalk.i64_in _ (by omega)
  obtain ⟨s3, f, hf, h4⟩ := run_l10Numbers s2 p a b (1 + z.tdiv 15) (by omega) (by omega)
  refine ⟨p, a, b, f, by omega, ?_⟩
  have cdk : codeOk Try.f73.ntmps (Try.f73.body.getD .skip) = true := by kernel_rfl
  refine run_of_WLr (fn := Try.f73) rfl Try.func73 rfl ⟨by simp [Try.ntmps73], by simp [wideA, ints], cdk, by simp [Try.f73]⟩ rfl (by simp [rebOk, noId, adoptT, adoptA, adoptL, adoptC, depth]) ?_
  simp [go_sem, -map_replicate, -map_set, -map_append, -map_reverse, -map_take, -map_drop, -map_tail, -any_map, -all_map, -mapM_map, -map_map, slL, szI, ldI, zI, undL, apL, setI, rdI_get, Nat.add_one_le_iff, fillV, zeros1, zeros0, appendD, segV, lvO, goneOf, sliceD, bound, Nat.add_assoc, szL, ldL, setCs0, setCs1, setCs2, setCsA2, setCsA3, ldM, fM0, fM1, szM, zM, plM0, plM1, agM, paM, ldJ, fJ0, fJ1, fJ2, szJ, zJ, plJ0, plJ1, plJ2, agJ, paJ, h0, h1, h3, h4, w2, w3, undI64, convD]
  repeat refine ⟨by kernel_rfl, by kernel_rfl, ?_⟩
  simp [mvcgen_simp, -map_replicate, -map_set, -map_append, -map_reverse, -map_take, -map_drop, -map_tail, -any_map, -all_map, -mapM_map, -map_map, Try.f73, szL, ldL, setCs0, setCs1, setCs2, setCsA2, setCsA3, ldM, fM0, fM1, szM, zM, plM0, plM1, agM, paM, ldJ, fJ0, fJ1, fJ2, szJ, zJ, plJ0, plJ1, plJ2, agJ, paJ, ctJ, loadD, viewN, isLR, hasU]
theorem run_DrawValueBy (code : List Int) (hb : ∀ z, z ∈ code → 0 ≤ z ∧ z ≤ 255) (hl : code.length ≤ 4096) : ∃ (p : Int) (a b f : List Int) (x : Int), (a.length ≤ 13 ∧ b.length ≤ 13 ∧ f.length ≤ 1000) ∧
    runv E1 76 [.list code.length (code.map (V.int .u8))] = some ⟨false, .tup [(V.agg [V.int .i64 (p), (V.list (List.length (a)) (List.map (V.int .i64) (a))), (V.list (List.length (b)) (List.map (V.int .i64) (b)))]), (V.list (List.length (f)) (List.map (V.int .i64) (f))), (V.int .i64 (x))], [.undef]⟩ := by
  obtain ⟨s, h0⟩ := run_l01From code hb hl
  obtain ⟨s1, p, a, b, hab, h1⟩ := run_l03Spoil s
  obtain ⟨s2, f, hf, h2⟩ := run_l10Numbers s1 p a b 1 (by omega) (by omega)
  have h3 := run_l01Fine p
  have hq := fine_range p
  generalize (if primeB p then p else 7) = q at *
  obtain ⟨s3, z, _, hz, h4⟩ := run_l01Next s2 24
  have hz := hz (by omega)
  have tz : 0 ≤ z.tdiv 23 ∧ z.tdiv 23 ≤ 1 := by rw [Int.tdiv_eq_ediv_of_nonneg (by omega)]; omega
  have w2 : IntKind.i64.wrap (z.tdiv 23) = z.tdiv 23 := IntWalk.i64_in _ (by omega)
  have w3 : IntKind.i64.wrap (q + z.tdiv 23) = q + z.tdiv 23 := IntWalk.i64_in _ (by omega)
  obtain ⟨s4, x, _, _, h5⟩ := run_l01Next s3 (q + z.tdiv 23)
  refine ⟨p, a, b, f, x, by omega, ?_⟩
  have cdk : codeOk Try.f76.ntmps (Try.f76.body.getD .skip) = true := by kernel_rfl
  refine run_of_WLr (fn := Try.f76) rfl Try.func76 rfl ⟨by simp [Try.ntmps76], by simp [wideA, ints], cdk, by simp [Try.f76]⟩ rfl (by simp [rebOk, noId, adoptT, adoptA, adoptL, adoptC, depth]) ?_
  simp [go_sem, -map_replicate, -map_set, -map_append, -map_reverse, -map_take, -map_drop, -map_tail, -any_map, -all_map, -mapM_map, -map_map, slL, szI, ldI, zI, undL, apL, setI, rdI_get, Nat.add_one_le_iff, fillV, zeros1, zeros0, appendD, segV, lvO, goneOf, sliceD, bound, Nat.add_assoc, szL, ldL, setCs0, setCs1, setCs2, setCsA2, setCsA3, ldM, fM0, fM1, szM, zM, plM0, plM1, agM, paM, ldJ, fJ0, fJ1, fJ2, szJ, zJ, plJ0, plJ1, plJ2, agJ, paJ, h0, h1, h2, h3, h4, h5, w2, w3, undI64, convD]
  repeat refine ⟨by kernel_rfl, by kernel_rfl, ?_⟩
  simp [mvcgen_simp, -map_replicate, -map_set, -map_append, -map_reverse, -map_take, -map_drop, -map_tail, -any_map, -all_map, -mapM_map, -map_map, Try.f76, szL, ldL, setCs0, setCs1, setCs2, setCsA2, setCsA3, ldM, fM0, fM1, szM, zM, plM0, plM1, agM, paM, ldJ, fJ0, fJ1, fJ2, szJ, zJ, plJ0, plJ1, plJ2, agJ, paJ, ctJ, loadD, viewN, isLR, hasU]
theorem run_DrawExpandProduct (code : List Int) (hb : ∀ z, z ∈ code → 0 ≤ z ∧ z ≤ 255) (hl : code.length ≤ 4096) : ∃ (p : Int) (a b : List Int) (k l : Int), (a.length ≤ 13 ∧ b.length ≤ 13) ∧
    runv E1 79 [.list code.length (code.map (V.int .u8))] = some ⟨false, .tup [(V.agg [V.int .i64 (p), (V.list (List.length (a)) (List.map (V.int .i64) (a))), (V.list (List.length (b)) (List.map (V.int .i64) (b)))]), (V.int .i64 (k)), (V.int .i64 (l))], [.undef]⟩ := by
  obtain ⟨s, h0⟩ := run_l01From code hb hl
  obtain ⟨s1, p, a, b, k, hab, hk, h1⟩ := run_l10With s
  obtain ⟨s2, z, _, hz, h2⟩ := run_l01Next s1 8
  have hz := hz (by omega)
  have tz : 0 ≤ z.tdiv 7 ∧ z.tdiv 7 ≤ 1 := by rw [Int.tdiv_eq_ediv_of_nonneg (by omega)]; omega
  have w0 : IntKind.i64.wrap (a.length : Int) = a.length := IntWalk.i64_in _ (by omega)
  have w1 : IntKind.i64.wrap ((a.length : Int) - k) = a.length - k := IntWalk.i64_in _ (by omega)
  have hmax : mmV mxI [V.int .i64 ((a.length : Int) - k), V.int .i64 0] = some (V.int .i64 (mxI ((a.length : Int) - k) 0)) := rfl
  have q1 : 0 ≤ mxI ((a.length : Int) - k) 0 ∧ mxI ((a.length : Int) - k) 0 ≤ 20 := by unfold mxI; split <;> omega
  generalize mxI ((a.length : Int) - k) 0 = mx at *
  have w2 : IntKind.i64.wrap (mx + 1) = mx + 1 := IntWalk.i64_in _ (by omega)
  have w3 : IntKind.i64.wrap (z.tdiv 7) = z.tdiv 7 := IntWalk.i64_in _ (by omega)
  have w4 : IntKind.i64.wrap (mx + 1 + z.tdiv 7) = mx + 1 + z.tdiv 7 := IntWalk.i64_in _ (by omega)
  obtain ⟨s3, l, _, _, h3⟩ := run_l01Next s2 (mx + 1 + z.tdiv 7)
  refine ⟨p, a, b, k, l, by omega, ?_⟩
  have cdk : codeOk Try.f79.ntmps (Try.f79.body.getD .skip) = true := by kernel_rfl
  refine run_of_WLr (fn := Try.f79) rfl Try.func79 rfl ⟨by simp [Try.ntmps79], by simp [wideA, ints], cdk, by simp [Try.f79]⟩ rfl (by simp [rebOk, noId, adoptT, adoptA, adoptL, adoptC, depth]) ?_
  simp [go_sem, -map_replicate, -map_set, -map_append, -map_reverse, -map_take, -map_drop, -map_tail, -any_map, -all_map, -mapM_map, -map_map, slL, szI, ldI, zI, undL, apL, setI, rdI_get, Nat.add_one_le_iff, fillV, zeros1, zeros0, appendD, segV, lvO, goneOf, sliceD, bound, Nat.add_assoc, szL, ldL, setCs0, setCs1, setCs2, setCsA2, setCsA3, ldM, fM0, fM1, szM, zM, plM0, plM1, agM, paM, ldJ, fJ0, fJ1, fJ2, szJ, zJ, plJ0, plJ1, plJ2, agJ, paJ, h0, h1, h2, h3, w0, w1, w2, w3, w4, hmax, undI64, convD]
  repeat refine ⟨by kernel_rfl, by kernel_rfl, ?_⟩
  simp [mvcgen_simp, -map_replicate, -map_set, -map_append, -map_reverse, -map_take, -map_drop, -map_tail, -any_map, -all_map, -mapM_map, -map_map, Try.f79, szL, ldL, setCs0, setCs1, setCs2, setCsA2, setCsA3, ldM, fM0, fM1, szM, zM, plM0, plM1, agM, paM, ldJ, fJ0, fJ1, fJ2, szJ, zJ, plJ0, plJ1, plJ2, agJ, paJ, ctJ, loadD, viewN, isLR, hasU]
theorem run_DrawExpandDerivative (code : List Int) (hb : ∀ z, z ∈ code → 0 ≤ z ∧ z ≤ 255) (hl : code.length ≤ 4096) : ∃ (p : Int) (a b : List Int) (k : Int), (a.length ≤ 13 ∧ b.length ≤ 13) ∧ (0 ≤ k ∧ k ≤ 20) ∧
    runv E1 85 [.list code.length (code.map (V.int .u8))] = some ⟨false, .tup [(V.agg [V.int .i64 (p), (V.list (List.length (a)) (List.map (V.int .i64) (a))), (V.list (List.length (b)) (List.map (V.int .i64) (b)))]), (V.int .i64 (k))], [.undef]⟩ := by
  obtain ⟨s, h0⟩ := run_l01From code hb hl
  obtain ⟨s1, p, a, b, k, hab, hk, h1⟩ := run_l10With s
  refine ⟨p, a, b, k, by omega, hk, ?_⟩
  have cdk : codeOk Try.f85.ntmps (Try.f85.body.getD .skip) = true := by kernel_rfl
  refine run_of_WLr (fn := Try.f85) rfl Try.func85 rfl ⟨by simp [Try.ntmps85], by simp [wideA, ints], cdk, by simp [Try.f85]⟩ rfl (by simp [rebOk, noId, adoptT, adoptA, adoptL, adoptC, depth]) ?_
  simp [go_sem, -map_replicate, -map_set, -map_append, -map_reverse, -map_take, -map_drop, -map_tail, -any_map, -all_map, -mapM_map, -map_map, slL, szI, ldI, zI, undL, apL, setI, rdI_get, Nat.add_one_le_iff, fillV, zeros1, zeros0, appendD, segV, lvO, goneOf, sliceD, bound, Nat.add_assoc, szL, ldL, setCs0, setCs1, setCs2, setCsA2, setCsA3, ldM, fM0, fM1, szM, zM, plM0, plM1, agM, paM, ldJ, fJ0, fJ1, fJ2, szJ, zJ, plJ0, plJ1, plJ2, agJ, paJ, h0, h1]
  repeat refine ⟨by kernel_rfl, by kernel_rfl, ?_⟩
  simp [mvcgen_simp, -map_replicate, -map_set, -map_append, -map_reverse, -map_take, -map_drop, -map_tail, -any_map, -all_map, -mapM_map, -map_map, Try.f85, szL, ldL, setCs0, setCs1, setCs2, setCsA2, setCsA3, ldM, fM0, fM1, szM, zM, plM0, plM1, agM, paM, ldJ, fJ0, fJ1, fJ2, szJ, zJ, plJ0, plJ1, plJ2, agJ, paJ, ctJ, loadD, viewN, isLR, hasU]
theorem run_DrawTimesX (code : List Int) (hb : ∀ z, z ∈ code → 0 ≤ z ∧ z ≤ 255) (hl : code.length ≤ 4096) : ∃ (p : Int) (a b f : List Int), (a.length ≤ 13 ∧ b.length ≤ 13 ∧ f.length ≤ 1000) ∧
    runv E1 88 [.list code.length (code.map (V.int .u8))] = some ⟨false, .tup [(V.agg [V.int .i64 (p), (V.list (List.length (a)) (List.map (V.int .i64) (a))), (V.list (List.length (b)) (List.map (V.int .i64) (b)))]), (V.list (List.length (f)) (List.map (V.int .i64) (f)))], [.undef]⟩ := by
  obtain ⟨s, h0⟩ := run_l01From code hb hl
  obtain ⟨s1, p, a, b, hab, h1⟩ := run_l03Spoil s
  obtain ⟨s3, f, hf, h4⟩ := run_l10Numbers s1 p a b 0 (by omega) (by omega)
  refine ⟨p, a, b, f, by omega, ?_⟩
  have cdk : codeOk Try.f88.ntmps (Try.f88.body.getD .skip) = true := by kernel_rfl
  refine run_of_WLr (fn := Try.f88) rfl Try.func88 rfl ⟨by simp [Try.ntmps88], by simp [wideA, ints], cdk, by simp [Try.f88]⟩ rfl (by simp [rebOk, noId, adoptT, adoptA, adoptL, adoptC, depth]) ?_
  simp [go_sem, -map_replicate, -map_set, -map_append, -map_reverse, -map_take, -map_drop, -map_tail, -any_map, -all_map, -mapM_map, -map_map, slL, szI, ldI, zI, undL, apL, setI, rdI_get, Nat.add_one_le_iff, fillV, zeros1, zeros0, appendD, segV, lvO, goneOf, sliceD, bound, Nat.add_assoc, szL, ldL, setCs0, setCs1, setCs2, setCsA2, setCsA3, ldM, fM0, fM1, szM, zM, plM0, plM1, agM, paM, ldJ, fJ0, fJ1, fJ2, szJ, zJ, plJ0, plJ1, plJ2, agJ, paJ, h0, h1, h4]
  repeat refine ⟨by kernel_rfl, by kernel_rfl, ?_⟩
  simp [mvcgen_simp, -map_replicate, -map_set, -map_append, -map_reverse, -map_take, -map_drop, -map_tail, -any_map, -all_map, -mapM_map, -map_map, Try.f88, szL, ldL, setCs0, setCs1, setCs2, setCsA2, setCsA3, ldM, fM0, fM1, szM, zM, plM0, plM1, agM, paM, ldJ, fJ0, fJ1, fJ2, szJ, zJ, plJ0, plJ1, plJ2, agJ, paJ, ctJ, loadD, viewN, isLR, hasU]
theorem run_DrawConnectJacobi (code : List Int) (hb : ∀ z, z ∈ code → 0 ≤ z ∧ z ≤ 255) (hl : code.length ≤ 4096) : ∃ (p : Int) (a b : List Int) (q : Int) (c d : List Int) (k : Int), (a.length ≤ 13 ∧ b.length ≤ 13 ∧ c.length ≤ 13 ∧ d.length ≤ 13) ∧
    runv E1 82 [.list code.length (code.map (V.int .u8))] = some ⟨false, .tup [(V.agg [V.int .i64 (p), (V.list (List.length (a)) (List.map (V.int .i64) (a))), (V.list (List.length (b)) (List.map (V.int .i64) (b)))]), (V.agg [V.int .i64 (q), (V.list (List.length (c)) (List.map (V.int .i64) (c))), (V.list (List.length (d)) (List.map (V.int .i64) (d)))]), (V.int .i64 (k))], [.undef]⟩ := by
  obtain ⟨s, h0⟩ := run_l01From code hb hl
  obtain ⟨s1, p, a, b, k, hab, hk, h1⟩ := run_l10With s
  have h2 := up (run_l03Is p a b (by omega) (by omega))
  have w0 : IntKind.i64.wrap (a.length : Int) = a.length := IntWalk.i64_in _ (by omega)
  cases e : jacB p a b with
  | true =>
    rw [e] at h2
    have hp := jacB_prime e
    have hl := jacB_len e
    obtain ⟨s2, c, d, hcd, h3⟩ := run_l03DrawOf s1 p (a.length : Int) hp (by omega)
    obtain ⟨s3, z, _, hz, h4⟩ := run_l01Next s2 12
    by_cases z0 : z = 0
    · subst z0
      obtain ⟨s4, q, c', d', hcd', h5⟩ := run_l03Spoil s3
      refine ⟨p, a, b, q, c', d', k, by omega, ?_⟩
      have cdk : codeOk Try.f82.ntmps (Try.f82.body.getD .skip) = true := by kernel_rfl
      refine run_of_WLr (fn := Try.f82) rfl Try.func82 rfl ⟨by simp [Try.ntmps82], by simp [wideA, ints], cdk, by simp [Try.f82]⟩ rfl (by simp [rebOk, noId, adoptT, adoptA, adoptL, adoptC, depth]) ?_
      simp [go_sem, -map_replicate, -map_set, -map_append, -map_reverse, -map_take, -map_drop, -map_tail, -any_map, -all_map, -mapM_map, -map_map, slL, szI, ldI, zI, undL, apL, setI, rdI_get, Nat.add_one_le_iff, fillV, zeros1, zeros0, appendD, segV, lvO, goneOf, sliceD, bound, Nat.add_assoc, szL, ldL, setCs0, setCs1, setCs2, setCsA2, setCsA3, ldM, fM0, fM1, szM, zM, plM0, plM1, agM, paM, ldJ, fJ0, fJ1, fJ2, szJ, zJ, plJ0, plJ1, plJ2, agJ, paJ, h0, h1, h2, h3, h4, h5, w0, undI64, convD]
      repeat refine ⟨by kernel_rfl, by kernel_rfl, ?_⟩
      simp [mvcgen_simp, -map_replicate, -map_set, -map_append, -map_reverse, -map_take, -map_drop, -map_tail, -any_map, -all_map, -mapM_map, -map_map, Try.f82, szL, ldL, setCs0, setCs1, setCs2, setCsA2, setCsA3, ldM, fM0, fM1, szM, zM, plM0, plM1, agM, paM, ldJ, fJ0, fJ1, fJ2, szJ, zJ, plJ0, plJ1, plJ2, agJ, paJ, ctJ, loadD, viewN, isLR, hasU]
    · refine ⟨p, a, b, p, c, d, k, by omega, ?_⟩
      have cdk : codeOk Try.f82.ntmps (Try.f82.body.getD .skip) = true := by kernel_rfl
      refine run_of_WLr (fn := Try.f82) rfl Try.func82 rfl ⟨by simp [Try.ntmps82], by simp [wideA, ints], cdk, by simp [Try.f82]⟩ rfl (by simp [rebOk, noId, adoptT, adoptA, adoptL, adoptC, depth]) ?_
      simp [go_sem, -map_replicate, -map_set, -map_append, -map_reverse, -map_take, -map_drop, -map_tail, -any_map, -all_map, -mapM_map, -map_map, slL, szI, ldI, zI, undL, apL, setI, rdI_get, Nat.add_one_le_iff, fillV, zeros1, zeros0, appendD, segV, lvO, goneOf, sliceD, bound, Nat.add_assoc, szL, ldL, setCs0, setCs1, setCs2, setCsA2, setCsA3, ldM, fM0, fM1, szM, zM, plM0, plM1, agM, paM, ldJ, fJ0, fJ1, fJ2, szJ, zJ, plJ0, plJ1, plJ2, agJ, paJ, h0, h1, h2, h3, h4, z0, w0, undI64, convD]
      repeat refine ⟨by kernel_rfl, by kernel_rfl, ?_⟩
      simp [mvcgen_simp, -map_replicate, -map_set, -map_append, -map_reverse, -map_take, -map_drop, -map_tail, -any_map, -all_map, -mapM_map, -map_map, Try.f82, szL, ldL, setCs0, setCs1, setCs2, setCsA2, setCsA3, ldM, fM0, fM1, szM, zM, plM0, plM1, agM, paM, ldJ, fJ0, fJ1, fJ2, szJ, zJ, plJ0, plJ1, plJ2, agJ, paJ, ctJ, loadD, viewN, isLR, hasU]
  | false =>
    rw [e] at h2
    obtain ⟨s3, z, _, hz, h4⟩ := run_l01Next s1 12
    by_cases z0 : z = 0
    · subst z0
      obtain ⟨s4, q, c', d', hcd', h5⟩ := run_l03Spoil s3
      refine ⟨p, a, b, q, c', d', k, by omega, ?_⟩
      have cdk : codeOk Try.f82.ntmps (Try.f82.body.getD .skip) = true := by kernel_rfl
      refine run_of_WLr (fn := Try.f82) rfl Try.func82 rfl ⟨by simp [Try.ntmps82], by simp [wideA, ints], cdk, by simp [Try.f82]⟩ rfl (by simp [rebOk, noId, adoptT, adoptA, adoptL, adoptC, depth]) ?_
      simp [go_sem, -map_replicate, -map_set, -map_append, -map_reverse, -map_take, -map_drop, -map_tail, -any_map, -all_map, -mapM_map, -map_map, slL, szI, ldI, zI, undL, apL, setI, rdI_get, Nat.add_one_le_iff, fillV, zeros1, zeros0, appendD, segV, lvO, goneOf, sliceD, bound, Nat.add_assoc, szL, ldL, setCs0, setCs1, setCs2, setCsA2, setCsA3, ldM, fM0, fM1, szM, zM, plM0, plM1, agM, paM, ldJ, fJ0, fJ1, fJ2, szJ, zJ, plJ0, plJ1, plJ2, agJ, paJ, h0, h1, h2, h4, h5, w0, undI64, convD]
      repeat refine ⟨by kernel_rfl, by kernel_rfl, ?_⟩
      simp [mvcgen_simp, -map_replicate, -map_set, -map_append, -map_reverse, -map_take, -map_drop, -map_tail, -any_map, -all_map, -mapM_map, -map_map, Try.f82, szL, ldL, setCs0, setCs1, setCs2, setCsA2, setCsA3, ldM, fM0, fM1, szM, zM, plM0, plM1, agM, paM, ldJ, fJ0, fJ1, fJ2, szJ, zJ, plJ0, plJ1, plJ2, agJ, paJ, ctJ, loadD, viewN, isLR, hasU]
    · refine ⟨p, a, b, p, a, b, k, by omega, ?_⟩
      have cdk : codeOk Try.f82.ntmps (Try.f82.body.getD .skip) = true := by kernel_rfl
      refine run_of_WLr (fn := Try.f82) rfl Try.func82 rfl ⟨by simp [Try.ntmps82], by simp [wideA, ints], cdk, by simp [Try.f82]⟩ rfl (by simp [rebOk, noId, adoptT, adoptA, adoptL, adoptC, depth]) ?_
      simp [go_sem, -map_replicate, -map_set, -map_append, -map_reverse, -map_take, -map_drop, -map_tail, -any_map, -all_map, -mapM_map, -map_map, slL, szI, ldI, zI, undL, apL, setI, rdI_get, Nat.add_one_le_iff, fillV, zeros1, zeros0, appendD, segV, lvO, goneOf, sliceD, bound, Nat.add_assoc, szL, ldL, setCs0, setCs1, setCs2, setCsA2, setCsA3, ldM, fM0, fM1, szM, zM, plM0, plM1, agM, paM, ldJ, fJ0, fJ1, fJ2, szJ, zJ, plJ0, plJ1, plJ2, agJ, paJ, h0, h1, h2, h4, z0, w0, undI64, convD]
      repeat refine ⟨by kernel_rfl, by kernel_rfl, ?_⟩
      simp [mvcgen_simp, -map_replicate, -map_set, -map_append, -map_reverse, -map_take, -map_drop, -map_tail, -any_map, -all_map, -mapM_map, -map_map, Try.f82, szL, ldL, setCs0, setCs1, setCs2, setCsA2, setCsA3, ldM, fM0, fM1, szM, zM, plM0, plM1, agM, paM, ldJ, fJ0, fJ1, fJ2, szJ, zJ, plJ0, plJ1, plJ2, agJ, paJ, ctJ, loadD, viewN, isLR, hasU]
end Go.Proofs.Ytabnganndcmcnaa.Ev
