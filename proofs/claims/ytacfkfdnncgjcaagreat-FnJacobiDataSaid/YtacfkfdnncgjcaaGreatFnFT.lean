/- Draws of moments with a number, and of data with a number of moments. Conditions: none. -/
import Derived.Test.YtacfkfdnncgjcaaGreatFnFP
import Derived.Test.YtacfkfdnncgjcaaGreatFnDU
set_option linter.unusedSimpArgs false
set_option linter.unusedVariables false
namespace Go.Proofs.YtacfkfdnncgjcaaGreat.Ev
open Go Go.Proofs
open List (map_replicate map_set map_append map_reverse map_take map_drop map_tail any_map all_map mapM_map map_map)
set_option maxRecDepth 4000
set_option maxHeartbeats 4000000

theorem run_l04Of (code : List Int) (hb : ∀ z, z ∈ code → 0 ≤ z ∧ z ≤ 255) (hl : code.length ≤ 4096) : ∃ (p : Int) (l : List Int) (n : Int), l.length ≤ 26 ∧ (0 ≤ n ∧ n ≤ 14) ∧
    runv E1 52 [.list code.length (code.map (V.int .u8))] = some ⟨true, .tup [(V.agg [V.int .i64 (p), (V.uniq 1 (List.length (l)) (List.map (V.int .i64) (l)))]), (V.int .i64 (n))], [.undef]⟩ := by
  obtain ⟨s, h0⟩ := run_l01From code hb hl
  obtain ⟨s1, p, l, hab, h1⟩ := run_l02Spoil s
  obtain ⟨h, hh⟩ : ∃ h : Nat, l.length / 2 = h := ⟨_, rfl⟩
  have t1 : (l.length : Int).tdiv 2 = (h : Int) := by rw [Int.tdiv_eq_ediv_of_nonneg (by omega)]; omega
  have w1 : IntKind.i64.wrap (h : Int) = h := IntWalk.i64_in _ (by omega)
  have w2 : IntKind.i64.wrap (l.length : Int) = l.length := IntWalk.i64_in _ (by omega)
  have hmx : mmV mxI [V.int .i64 (h : Int), V.int .i64 0] = some (V.int .i64 (mxI (h : Int) 0)) := rfl
  have hmn : mmV mnI [V.int .i64 (mxI (h : Int) 0), V.int .i64 12] = some (V.int .i64 (mnI (mxI (h : Int) 0) 12)) := rfl
  have q1 : 0 ≤ mnI (mxI (h : Int) 0) 12 ∧ mnI (mxI (h : Int) 0) 12 ≤ 12 := by unfold mnI mxI; (repeat' split) <;> omega
  generalize mxI (h : Int) 0 = e0 at *
  generalize mnI e0 12 = e at *
  have ra := up (run_l02Are p l (by omega))
  have fin : ∀ (s2 : Src) (m : Int), 0 ≤ m ∧ m ≤ 12 → ∃ (s3 s4 : Src) (y z n : Int), IntKind.i64.wrap (m + 1) = m + 1 ∧ (0 ≤ n ∧ n ≤ 14) ∧ runv E1 63 [(V.uptr [V.list (s2).code.length ((s2).code.map (V.int .u8)), V.int .i64 (s2).i, V.int .u64 (s2).h]), (V.int .i64 (m + 1))] = some ⟨true, (V.int .i64 (y)), [(V.uptr [V.list (s3).code.length ((s3).code.map (V.int .u8)), V.int .i64 (s3).i, V.int .u64 (s3).h]), .undef]⟩ ∧ runv E1 63 [(V.uptr [V.list (s3).code.length ((s3).code.map (V.int .u8)), V.int .i64 (s3).i, V.int .u64 (s3).h]), (V.int .i64 (24))] = some ⟨true, (V.int .i64 (z)), [(V.uptr [V.list (s4).code.length ((s4).code.map (V.int .u8)), V.int .i64 (s4).i, V.int .u64 (s4).h]), .undef]⟩ ∧ IntKind.i64.wrap (z.tdiv 23) = z.tdiv 23 ∧ IntKind.i64.wrap (y + z.tdiv 23) = n := fun s2 m hm => by
    obtain ⟨s3, y, _, hy, h3⟩ := run_l01Next s2 (m + 1)
    obtain ⟨s4, z, _, hz, h4⟩ := run_l01Next s3 24
    have hy := hy (by omega)
    have hz := hz (by omega)
    have tz : z.tdiv 23 = z / 23 := Int.tdiv_eq_ediv_of_nonneg (by omega)
    refine ⟨s3, s4, y, z, y + z.tdiv 23, IntWalk.i64_in _ (by omega), by rw [tz]; omega, h3, h4, IntWalk.i64_in _ (by rw [tz]; omega), IntWalk.i64_in _ (by rw [tz]; omega)⟩
  cases hm : momB p l with
  | false =>
    rw [hm] at ra
    obtain ⟨s3, s4, y, z, n, w3, hn, h3, h4, w4, w5⟩ := fin s1 e q1
    refine ⟨p, l, n, hab, hn, ?_⟩
    have cdk : codeOk Tryz.f52.ntmps (Tryz.f52.body.getD .skip) = true := by kernel_rfl
    refine run_of_WLr (fn := Tryz.f52) rfl Tryz.func52 rfl ⟨by simp [Tryz.ntmps52], by simp [wideA, ints], cdk, by simp [Tryz.f52]⟩ rfl (by simp [rebOk, noId, adoptT, adoptA, adoptL, adoptC, depth]) ?_
    simp [go_sem, -map_replicate, -map_set, -map_append, -map_reverse, -map_take, -map_drop, -map_tail, -any_map, -all_map, -mapM_map, -map_map, slL, szI, ldI, zI, undL, apL, setI, rdI_get, Nat.add_one_le_iff, fillV, zeros1, zeros0, appendD, segV, lvO, goneOf, sliceD, bound, Nat.add_assoc, szL, ldL, setCs0, setCs1, setCs2, setCsA2, setCsA3, ldM, fM0, fM1, szM, zM, plM0, plM1, agM, paM, ldJ, fJ0, fJ1, fJ2, szJ, zJ, plJ0, plJ1, plJ2, agJ, paJ, h0, h1, undI64, undInt, convD, w2, t1, w1, hmx, hmn, ra, w3, h3, h4, w4, w5]
    repeat refine ⟨by kernel_rfl, by kernel_rfl, ?_⟩
    simp [mvcgen_simp, -map_replicate, -map_set, -map_append, -map_reverse, -map_take, -map_drop, -map_tail, -any_map, -all_map, -mapM_map, -map_map, Tryz.f52, szL, ldL, setCs0, setCs1, setCs2, setCsA2, setCsA3, ldM, fM0, fM1, szM, zM, plM0, plM1, agM, paM, ldJ, fJ0, fJ1, fJ2, szJ, zJ, plJ0, plJ1, plJ2, agJ, paJ, ctM, loadD, viewN, isLR, hasU]
  | true =>
    rw [hm] at ra
    obtain ⟨s2, x, _, hx, h2⟩ := run_l01Next s1 6
    by_cases x0 : 0 < x
    · have ro := run_l02Order p l hm
      have hmn2 : mmV mnI [V.int .i64 e, V.int .i64 (ordN p l : Int)] = some (V.int .i64 (mnI e (ordN p l))) := rfl
      obtain ⟨s3, s4, y, z, n, w3, hn, h3, h4, w4, w5⟩ := fin s2 (mnI e (ordN p l)) (by unfold mnI; split <;> omega)
      generalize mnI e (ordN p l) = e2 at *
      refine ⟨p, l, n, hab, hn, ?_⟩
      have cdk : codeOk Tryz.f52.ntmps (Tryz.f52.body.getD .skip) = true := by kernel_rfl
      refine run_of_WLr (fn := Tryz.f52) rfl Tryz.func52 rfl ⟨by simp [Tryz.ntmps52], by simp [wideA, ints], cdk, by simp [Tryz.f52]⟩ rfl (by simp [rebOk, noId, adoptT, adoptA, adoptL, adoptC, depth]) ?_
      simp [go_sem, -map_replicate, -map_set, -map_append, -map_reverse, -map_take, -map_drop, -map_tail, -any_map, -all_map, -mapM_map, -map_map, slL, szI, ldI, zI, undL, apL, setI, rdI_get, Nat.add_one_le_iff, fillV, zeros1, zeros0, appendD, segV, lvO, goneOf, sliceD, bound, Nat.add_assoc, szL, ldL, setCs0, setCs1, setCs2, setCsA2, setCsA3, ldM, fM0, fM1, szM, zM, plM0, plM1, agM, paM, ldJ, fJ0, fJ1, fJ2, szJ, zJ, plJ0, plJ1, plJ2, agJ, paJ, h0, h1, undI64, undInt, convD, w2, t1, w1, hmx, hmn, ra, h2, x0, ro, hmn2, w3, h3, h4, w4, w5]
      repeat refine ⟨by kernel_rfl, by kernel_rfl, ?_⟩
      simp [mvcgen_simp, -map_replicate, -map_set, -map_append, -map_reverse, -map_take, -map_drop, -map_tail, -any_map, -all_map, -mapM_map, -map_map, Tryz.f52, szL, ldL, setCs0, setCs1, setCs2, setCsA2, setCsA3, ldM, fM0, fM1, szM, zM, plM0, plM1, agM, paM, ldJ, fJ0, fJ1, fJ2, szJ, zJ, plJ0, plJ1, plJ2, agJ, paJ, ctM, loadD, viewN, isLR, hasU]
    · obtain ⟨s3, s4, y, z, n, w3, hn, h3, h4, w4, w5⟩ := fin s2 e q1
      refine ⟨p, l, n, hab, hn, ?_⟩
      have cdk : codeOk Tryz.f52.ntmps (Tryz.f52.body.getD .skip) = true := by kernel_rfl
      refine run_of_WLr (fn := Tryz.f52) rfl Tryz.func52 rfl ⟨by simp [Tryz.ntmps52], by simp [wideA, ints], cdk, by simp [Tryz.f52]⟩ rfl (by simp [rebOk, noId, adoptT, adoptA, adoptL, adoptC, depth]) ?_
      simp [go_sem, -map_replicate, -map_set, -map_append, -map_reverse, -map_take, -map_drop, -map_tail, -any_map, -all_map, -mapM_map, -map_map, slL, szI, ldI, zI, undL, apL, setI, rdI_get, Nat.add_one_le_iff, fillV, zeros1, zeros0, appendD, segV, lvO, goneOf, sliceD, bound, Nat.add_assoc, szL, ldL, setCs0, setCs1, setCs2, setCsA2, setCsA3, ldM, fM0, fM1, szM, zM, plM0, plM1, agM, paM, ldJ, fJ0, fJ1, fJ2, szJ, zJ, plJ0, plJ1, plJ2, agJ, paJ, h0, h1, undI64, undInt, convD, w2, t1, w1, hmx, hmn, ra, h2, x0, w3, h3, h4, w4, w5]
      repeat refine ⟨by kernel_rfl, by kernel_rfl, ?_⟩
      simp [mvcgen_simp, -map_replicate, -map_set, -map_append, -map_reverse, -map_take, -map_drop, -map_tail, -any_map, -all_map, -mapM_map, -map_map, Tryz.f52, szL, ldL, setCs0, setCs1, setCs2, setCsA2, setCsA3, ldM, fM0, fM1, szM, zM, plM0, plM1, agM, paM, ldJ, fJ0, fJ1, fJ2, szJ, zJ, plJ0, plJ1, plJ2, agJ, paJ, ctM, loadD, viewN, isLR, hasU]
theorem run_DrawJacobiOfMoments (code : List Int) (hb : ∀ z, z ∈ code → 0 ≤ z ∧ z ≤ 255) (hl : code.length ≤ 4096) : ∃ (p : Int) (l : List Int) (n : Int), l.length ≤ 26 ∧ (0 ≤ n ∧ n ≤ 14) ∧
    runv E1 7 [.list code.length (code.map (V.int .u8))] = some ⟨true, .tup [(V.agg [V.int .i64 (p), (V.uniq 1 (List.length (l)) (List.map (V.int .i64) (l)))]), (V.int .i64 (n))], [.undef]⟩ := by
  obtain ⟨p, l, n, hab, hn, h1⟩ := run_l04Of code hb hl
  refine ⟨p, l, n, hab, hn, ?_⟩
  have cdk : codeOk Tryz.f7.ntmps (Tryz.f7.body.getD .skip) = true := by kernel_rfl
  refine run_of_WLr (fn := Tryz.f7) rfl Tryz.func7 rfl ⟨by simp [Tryz.ntmps7], by simp [wideA, ints], cdk, by simp [Tryz.f7]⟩ rfl (by simp [rebOk, noId, adoptT, adoptA, adoptL, adoptC, depth]) ?_
  simp [go_sem, -map_replicate, -map_set, -map_append, -map_reverse, -map_take, -map_drop, -map_tail, -any_map, -all_map, -mapM_map, -map_map, slL, szI, ldI, zI, undL, apL, setI, rdI_get, Nat.add_one_le_iff, fillV, zeros1, zeros0, appendD, segV, lvO, goneOf, sliceD, bound, Nat.add_assoc, szL, ldL, setCs0, setCs1, setCs2, setCsA2, setCsA3, ldM, fM0, fM1, szM, zM, plM0, plM1, agM, paM, ldJ, fJ0, fJ1, fJ2, szJ, zJ, plJ0, plJ1, plJ2, agJ, paJ, h1]
  repeat refine ⟨by kernel_rfl, by kernel_rfl, ?_⟩
  simp [mvcgen_simp, -map_replicate, -map_set, -map_append, -map_reverse, -map_take, -map_drop, -map_tail, -any_map, -all_map, -mapM_map, -map_map, Tryz.f7, szL, ldL, setCs0, setCs1, setCs2, setCsA2, setCsA3, ldM, fM0, fM1, szM, zM, plM0, plM1, agM, paM, ldJ, fJ0, fJ1, fJ2, szJ, zJ, plJ0, plJ1, plJ2, agJ, paJ, ctM, loadD, viewN, isLR, hasU]
theorem run_DrawMomentsOfJacobi (code : List Int) (hb : ∀ z, z ∈ code → 0 ≤ z ∧ z ≤ 255) (hl : code.length ≤ 4096) : ∃ (p : Int) (a b : List Int) (n : Int), (1 ≤ a.length ∧ a.length ≤ 13 ∧ b.length ≤ 13) ∧ (0 ≤ n ∧ n ≤ 40) ∧
    runv E1 11 [.list code.length (code.map (V.int .u8))] = some ⟨false, .tup [(V.agg [V.int .i64 (p), (V.list (List.length (a)) (List.map (V.int .i64) (a))), (V.list (List.length (b)) (List.map (V.int .i64) (b)))]), (V.int .i64 (n))], [.undef]⟩ := by
  obtain ⟨s, h0⟩ := run_l01From code hb hl
  obtain ⟨s1, p, a, b, hab, h1⟩ := run_l03Spoil s
  have w1 : IntKind.i64.wrap (2 * (a.length : Int)) = 2 * (a.length : Int) := IntWalk.i64_in _ (by omega)
  have w2 : IntKind.i64.wrap (a.length : Int) = a.length := IntWalk.i64_in _ (by omega)
  have hmx : mmV mxI [V.int .i64 (2 * (a.length : Int)), V.int .i64 1] = some (V.int .i64 (2 * (a.length : Int))) := by
    simp [mmV, mxI]; omega
  obtain ⟨s2, z, _, hz, h2⟩ := run_l01Next s1 16
  have hz := hz (by omega)
  have tz : z.tdiv 15 = z / 15 := Int.tdiv_eq_ediv_of_nonneg (by omega)
  have w3 : IntKind.i64.wrap (z.tdiv 15) = z.tdiv 15 := IntWalk.i64_in _ (by rw [tz]; omega)
  have w4 : IntKind.i64.wrap (2 * (a.length : Int) + z.tdiv 15) = 2 * (a.length : Int) + z.tdiv 15 := IntWalk.i64_in _ (by rw [tz]; omega)
  obtain ⟨s3, y, hy0, hy, h3⟩ := run_l01Next s2 (2 * (a.length : Int) + z.tdiv 15)
  have hy := hy (by rw [tz]; omega)
  have w5 : IntKind.i64.wrap (1 + y) = 1 + y := IntWalk.i64_in _ (by rw [tz] at hy; omega)
  refine ⟨p, a, b, 1 + y, hab, by rw [tz] at hy; omega, ?_⟩
  have cdk : codeOk Tryz.f11.ntmps (Tryz.f11.body.getD .skip) = true := by kernel_rfl
  refine run_of_WLr (fn := Tryz.f11) rfl Tryz.func11 rfl ⟨by simp [Tryz.ntmps11], by simp [wideA, ints], cdk, by simp [Tryz.f11]⟩ rfl (by simp [rebOk, noId, adoptT, adoptA, adoptL, adoptC, depth]) ?_
  simp [go_sem, -map_replicate, -map_set, -map_append, -map_reverse, -map_take, -map_drop, -map_tail, -any_map, -all_map, -mapM_map, -map_map, slL, szI, ldI, zI, undL, apL, setI, rdI_get, Nat.add_one_le_iff, fillV, zeros1, zeros0, appendD, segV, lvO, goneOf, sliceD, bound, Nat.add_assoc, szL, ldL, setCs0, setCs1, setCs2, setCsA2, setCsA3, ldM, fM0, fM1, szM, zM, plM0, plM1, agM, paM, ldJ, fJ0, fJ1, fJ2, szJ, zJ, plJ0, plJ1, plJ2, agJ, paJ, h0, h1, undI64, undInt, convD, w1, w2, hmx, h2, w3, w4, h3, w5]
  repeat refine ⟨by kernel_rfl, by kernel_rfl, ?_⟩
  simp [mvcgen_simp, -map_replicate, -map_set, -map_append, -map_reverse, -map_take, -map_drop, -map_tail, -any_map, -all_map, -mapM_map, -map_map, Tryz.f11, szL, ldL, setCs0, setCs1, setCs2, setCsA2, setCsA3, ldM, fM0, fM1, szM, zM, plM0, plM1, agM, paM, ldJ, fJ0, fJ1, fJ2, szJ, zJ, plJ0, plJ1, plJ2, agJ, paJ, ctJ, loadD, viewN, isLR, hasU]
end Go.Proofs.YtacfkfdnncgjcaaGreat.Ev
