/- The law of masses. Conditions: none. -/
import Derived.Test.YtabnganndcmcnaaGreatFnDS
import Derived.Test.YtabnganndcmcnaaGreatFnDU
import Derived.Test.YtabnganndcmcnaaGreatFnDH
import Derived.Test.YtabnganndcmcnaaGreatFnBS
set_option linter.unusedSimpArgs false
set_option linter.unusedVariables false
namespace Go.Proofs.YtabnganndcmcnaaGreat.Ev
open Go Go.Proofs
open List (map_replicate map_set map_append map_reverse map_take map_drop map_tail any_map all_map mapM_map map_map)
set_option maxRecDepth 4000
set_option maxHeartbeats 16000000
attribute [local bitvec_to_nat] slL szI ldI zI undL apL setI rdI_get Nat.add_one_le_iff fillV zeros1 zeros0 appendD segV lvO goneOf sliceD bound Nat.add_assoc szL ldL setCs0 setCs1 setCs2 setCsA2 setCsA3 ldM fM0 fM1 szM zM plM0 plM1 agM paM ldJ fJ0 fJ1 fJ2 szJ zJ plJ0 plJ1 plJ2 agJ paJ

theorem hasB_rg {p x : Int} (h : hasB p x = true) : 0 ≤ x ∧ x < p := by
  have h : (decide (0 ≤ x) && decide (x < p)) = true := h
  simpa only [Bool.and_eq_true, decide_eq_true_eq] using h
theorem mass_run {p c w : Int} {l : List Int} (hl : l.length ≤ 1048576) (h : (massM p l c w).2.2 = 0) : (2 ≤ p ∧ p ≤ 10007 ∧ 0 ≤ w ∧ w < p) ∧
    runv E1 13 [(V.agg [V.int .i64 ((massM p l c w).1), (V.list (List.length ((massM p l c w).2.1)) (List.map (V.int .i64) ((massM p l c w).2.1)))]), .int .i64 c, .int .i64 (-w % p)] = some ⟨true, .tup [(V.agg [V.int .i64 (p), (V.uniq 1 (List.length (l)) (List.map (V.int .i64) (l)))]), .int .i64 0], [.agg [.undef, .undef], .undef, .undef]⟩ := by
  obtain ⟨h1, h2⟩ := mass_back h
  have r := up (run_implAddMass p (massM p l c w).2.1 c ((p - w) % p) (massM_len p l c w hl))
  rw [h2, show (p - w) % p = -w % p by simp] at r
  rw [h1]
  refine ⟨?_, r⟩
  unfold massM at h
  cases e : momB p l with
  | false => rw [e] at h; simp at h
  | true =>
    have hp := momB_prime e
    rw [e, if_pos rfl] at h
    by_cases c2 : (hasB p c && hasB p w) = true
    · simp only [Bool.and_eq_true] at c2
      have := hasB_rg c2.2
      omega
    · rw [if_neg c2] at h; simp at h
theorem dbl_run {p : Int} {l : List Int} (hl : l.length ≤ 1048576) (h : (dblM p l).2.2 = 0) :
    runv E1 19 [(V.agg [V.int .i64 ((dblM p l).1), (V.list (List.length ((dblM p l).2.1)) (List.map (V.int .i64) ((dblM p l).2.1)))])] = some ⟨true, .tup [(V.agg [V.int .i64 (p), (V.uniq 1 (List.length (l)) (List.map (V.int .i64) (l)))]), .int .i64 0], [.agg [.undef, .undef]]⟩ := by
  obtain ⟨h1, h2⟩ := half_dbl h
  have r := up (run_implHalveMoments p (dblM p l).2.1 (dblM_len p l hl))
  rw [h2] at r
  rw [h1]; exact r
theorem div_run {p c t : Int} {l : List Int} (hl : l.length ≤ 1048576) (h : (divM p l c t).2.2 = 0) :
    runv E1 16 [(V.agg [V.int .i64 ((divM p l c t).1), (V.list (List.length ((divM p l c t).2.1)) (List.map (V.int .i64) ((divM p l c t).2.1)))]), .int .i64 c] = some ⟨true, .tup [(V.agg [V.int .i64 (p), (V.uniq 1 (List.length (l)) (List.map (V.int .i64) (l)))]), .int .i64 0], [.agg [.undef, .undef], .undef]⟩ := by
  obtain ⟨h1, h2⟩ := mul_div h
  have r := up (run_implMultiplyMoments p (divM p l c t).2.1 c (divM_len p l c t hl))
  rw [h2] at r
  rw [h1]; exact r
theorem div_bad {p c t : Int} {l : List Int} (h : ¬ (divM p l c t).2.2 = 0) : (divM p l c t).2.1 = [] := by
  unfold divM at h ⊢
  (repeat' split) <;> first | rfl | (exfalso; simp_all)
theorem halve_run {p : Int} {a b : List Int} (ha : a.length ≤ 1048576) (hb : b.length ≤ 1048576) (h : (halveJ p a b).2.2.2 = 0) : ∃ (m : Nat) (F A : List Int), 1 ≤ m ∧ m ≤ 6 ∧ (halveJ p a b).2.1.length = m ∧ F.length = 2 * m ∧ A.length = 4 * m - 1 ∧
    runv E1 34 [(V.agg [V.int .i64 ((halveJ p a b).1), (V.list (List.length ((halveJ p a b).2.1)) (List.map (V.int .i64) ((halveJ p a b).2.1))), (V.list (List.length ((halveJ p a b).2.2.1)) (List.map (V.int .i64) ((halveJ p a b).2.2.1)))]), .int .i64 (2 * (m : Int))] = some ⟨true, .tup [.agg [.int .i64 p, .uniq 1 (2 * m) (F.map (V.int .i64))], .int .i64 0], [.agg [.undef, .undef, .undef], .undef]⟩ ∧
    runv E1 34 [(V.agg [V.int .i64 (p), (V.list (List.length (a)) (List.map (V.int .i64) (a))), (V.list (List.length (b)) (List.map (V.int .i64) (b)))]), .int .i64 (4 * (m : Int) - 1)] = some ⟨true, .tup [.agg [.int .i64 p, .uniq 1 (4 * m - 1) (A.map (V.int .i64))], .int .i64 0], [.agg [.undef, .undef, .undef], .undef]⟩ ∧
    runv E1 19 [.agg [.int .i64 p, .list (4 * m - 1) (A.map (V.int .i64))]] = some ⟨true, .tup [.agg [.int .i64 p, .uniq 1 (2 * m) (F.map (V.int .i64))], .int .i64 0], [.agg [.undef, .undef]]⟩ := by
  unfold halveJ at h ⊢
  cases e : jacB p a b with
  | false => rw [e] at h; simp at h
  | true =>
    rw [e, if_pos rfl] at h
    by_cases c : (zeroB a && decide (2 ≤ a.length)) = true
    · rw [if_pos rfl, if_pos c]
      simp only [Bool.and_eq_true, decide_eq_true_eq] at c
      have hl := jacB_len e
      have hj := halve_jacB e c.2
      obtain ⟨m, hm⟩ : ∃ m : Nat, a.length / 2 = m := ⟨_, rfl⟩
      rw [hm] at hj ⊢
      have lF : (tab (2 * m) (mo p (tab m (hvA p b)) (tab m (hvB p b)))).length = 2 * m := tab_len _ _
      have lA : (tab (4 * m - 1) (mo p a b)).length = 4 * m - 1 := tab_len _ _
      refine ⟨m, tab (2 * m) (mo p (tab m (hvA p b)) (tab m (hvB p b))), tab (4 * m - 1) (mo p a b), by omega, by omega, tab_len _ _, lF, lA, ?_, ?_, ?_⟩
      · have m1 := run_implMomentsOfJacobi p (tab m (hvA p b)) (tab m (hvB p b)) (2 * (m : Int)) (by rw [tab_len]; omega) (by rw [tab_len]; omega)
        have eM : momJ p (tab m (hvA p b)) (tab m (hvB p b)) (2 * (m : Int)) = (p, tab (2 * m) (mo p (tab m (hvA p b)) (tab m (hvB p b))), 0) := by
          unfold momJ
          rw [hj, tab_len]
          have h1 : (decide (1 ≤ 2 * (m : Int)) && decide (2 * (m : Int) ≤ 2 * (m : Int))) = true := by simp; omega
          rw [if_pos rfl, h1, if_pos rfl, show (2 * (m : Int)).toNat = 2 * m by omega]
        rw [eM] at m1
        simp only [lF] at m1
        exact m1
      · have m1 := run_implMomentsOfJacobi p a b (4 * (m : Int) - 1) (by omega) (by omega)
        have eM : momJ p a b (4 * (m : Int) - 1) = (p, tab (4 * m - 1) (mo p a b), 0) := by
          unfold momJ
          rw [e]
          have h1 : (decide (1 ≤ 4 * (m : Int) - 1) && decide (4 * (m : Int) - 1 ≤ 2 * (a.length : Int))) = true := by simp; omega
          rw [if_pos rfl, h1, if_pos rfl, show (4 * (m : Int) - 1).toNat = 4 * m - 1 by omega]
        rw [eM] at m1
        simp only [lA] at m1
        exact m1
      · have m1 := up (run_implHalveMoments p (tab (4 * m - 1) (mo p a b)) (by rw [lA]; omega))
        rw [halve_half e c.1 (m := m) (by omega)] at m1
        simp only [lA, lF] at m1
        exact m1
    · rw [if_neg c] at h; simp at h
theorem run_lawMasses (code : List Int) (h_code : code.length ≤ 9223372036854775807) (hb : ∀ z, z ∈ code → 0 ≤ z ∧ z ≤ 255) :
    runv E1 3 [.list code.length (code.map (V.int .u8))] = some ⟨true, .bool true, [.undef]⟩ := by
  have g0 := run_big code
  by_cases hl : 4096 < (code.length : Int)
  · have cdk : codeOk Tryz.f3.ntmps (Tryz.f3.body.getD .skip) = true := by kernel_rfl
    refine run_of_WLr (fn := Tryz.f3) rfl Tryz.func3 rfl ⟨by simp [Tryz.ntmps3], by simp [wideA, ints], cdk, by simp [Tryz.f3]⟩ rfl (by simp [rebOk, noId, adoptT, adoptA, adoptL, adoptC, depth]) ?_
    simp [go_sem, -map_replicate, -map_set, -map_append, -map_reverse, -map_take, -map_drop, -map_tail, -any_map, -all_map, -mapM_map, -map_map, slL, szI, ldI, zI, undL, apL, setI, rdI_get, Nat.add_one_le_iff, fillV, zeros1, zeros0, appendD, segV, lvO, goneOf, sliceD, bound, Nat.add_assoc, g0, hl]
    simp [mvcgen_simp, -map_replicate, -map_set, -map_append, -map_reverse, -map_take, -map_drop, -map_tail, -any_map, -all_map, -mapM_map, -map_map, Tryz.f3]
  have hl' : code.length ≤ 4096 := by omega
  obtain ⟨p1, l1, c1, e1, k1, d1⟩ := run_DrawDivideMoments code hb hl'
  have s1 := up (run_implDivideMoments p1 l1 c1 e1 (by omega))
  have t1 := up (run_specDivideMoments p1 l1 c1 e1 (by omega))
  have u1 := divM_len p1 l1 c1 e1 (by omega)
  have v1 := run_moments9 (divM p1 l1 c1 e1).1 (divM p1 l1 c1 e1).2.1 u1
  have A1 := fun h => @div_run p1 c1 e1 l1 (by omega) h
  have A2 := @div_bad p1 c1 e1 l1
  have q1 := run_moments9 p1 l1 (by omega)
  obtain ⟨p2, l2, c2, e2, k2, d2⟩ := run_DrawAddMass code hb hl'
  have s2 := up (run_implAddMass p2 l2 c2 e2 (by omega))
  have t2 := up (run_specAddMass p2 l2 c2 e2 (by omega))
  have u2 := massM_len p2 l2 c2 e2 (by omega)
  have v2 := run_moments9 (massM p2 l2 c2 e2).1 (massM p2 l2 c2 e2).2.1 u2
  have B1 := fun h => @mass_run p2 c2 e2 l2 (by omega) h
  have q2 := run_moments9 p2 l2 (by omega)
  obtain ⟨p3, l3, c3, k3, d3⟩ := run_DrawMultiplyMoments code hb hl'
  have s3 := up (run_implMultiplyMoments p3 l3 c3 (by omega))
  have t3 := up (run_specMultiplyMoments p3 l3 c3 (by omega))
  have u3 := mulM_len p3 l3 c3 (by omega)
  have v3 := run_moments9 (mulM p3 l3 c3).1 (mulM p3 l3 c3).2.1 u3
  obtain ⟨p4, l4, k4, d4⟩ := run_DrawHalveMoments code hb hl'
  have s4 := up (run_implHalveMoments p4 l4  (by omega))
  have t4 := up (run_specHalveMoments p4 l4  (by omega))
  have u4 := halfM_len p4 l4  (by omega)
  have v4 := run_moments9 (halfM p4 l4 ).1 (halfM p4 l4 ).2.1 u4
  obtain ⟨p5, l5, k5, d5⟩ := run_DrawDoubleMoments code hb hl'
  have s5 := up (run_implDoubleMoments p5 l5  (by omega))
  have t5 := up (run_specDoubleMoments p5 l5  (by omega))
  have u5 := dblM_len p5 l5  (by omega)
  have v5 := run_moments9 (dblM p5 l5 ).1 (dblM p5 l5 ).2.1 u5
  have E1' := fun h => @dbl_run p5 l5 (by omega) h
  have q5 := run_moments9 p5 l5 (by omega)
  obtain ⟨p6, l6, k6, d6⟩ := run_DrawAreSymmetric code hb hl'
  have s6 := up (run_implAreSymmetric p6 l6 (by omega))
  have t6 := up (run_specAreSymmetric p6 l6 (by omega))
  generalize (momB p6 l6 && symB l6) = b6 at s6 t6
  generalize (if momB p6 l6 then (0 : Int) else 1) = z6 at s6 t6
  obtain ⟨p7, a7, b7, k7, d7⟩ := run_DrawHalveJacobi code hb hl'
  have s7 := run_implHalveJacobi p7 a7 b7 (by omega) (by omega)
  have t7 := run_specHalveJacobi p7 a7 b7 (by omega) (by omega)
  have u7 := halveJ_len p7 a7 b7 (by omega) (by omega)
  have v7 := run_jacobi9 (halveJ p7 a7 b7).1 (halveJ p7 a7 b7).2.1 (halveJ p7 a7 b7).2.2.1 u7.1 u7.2
  have G1 := fun h => @halve_run p7 a7 b7 (by omega) (by omega) h
  obtain ⟨p8, a8, b8, e8, k8, d8⟩ := run_DrawScaleJacobi code hb hl'
  have s8 := up (run_implScaleJacobi p8 a8 b8 e8 (by omega) (by omega))
  have t8 := up (run_specScaleJacobi p8 a8 b8 e8 (by omega) (by omega))
  have u8 := scaleJ_len p8 a8 b8 e8 (by omega) (by omega)
  have v8 := run_jacobi9 (scaleJ p8 a8 b8 e8).1 (scaleJ p8 a8 b8 e8).2.1 (scaleJ p8 a8 b8 e8).2.2.1 u8.1 u8.2
  generalize divM p1 l1 c1 e1 = r1 at *
  obtain ⟨x1, y1, z1⟩ := r1
  generalize massM p2 l2 c2 e2 = r2 at *
  obtain ⟨x2, y2, z2⟩ := r2
  generalize mulM p3 l3 c3 = r3 at *
  obtain ⟨x3, y3, z3⟩ := r3
  generalize halfM p4 l4 = r4 at *
  obtain ⟨x4, y4, z4⟩ := r4
  generalize dblM p5 l5 = r5 at *
  obtain ⟨x5, y5, z5⟩ := r5
  generalize halveJ p7 a7 b7 = r7 at *
  obtain ⟨x7, y7, g7, z7⟩ := r7
  generalize scaleJ p8 a8 b8 e8 = r8 at *
  obtain ⟨x8, y8, g8, z8⟩ := r8
  simp only at *
  have cdk : codeOk Tryz.f3.ntmps (Tryz.f3.body.getD .skip) = true := by kernel_rfl
  refine run_of_WLr (fn := Tryz.f3) rfl Tryz.func3 rfl ⟨by simp [Tryz.ntmps3], by simp [wideA, ints], cdk, by simp [Tryz.f3]⟩ rfl (by simp [rebOk, noId, adoptT, adoptA, adoptL, adoptC, depth]) ?_
  simp (maxSteps := 10000000) [go_sem, -map_replicate, -map_set, -map_append, -map_reverse, -map_take, -map_drop, -map_tail, -any_map, -all_map, -mapM_map, -map_map, bitvec_to_nat, g0, hl, d1, s1, t1, v1, d2, s2, t2, v2, d3, s3, t3, v3, d4, s4, t4, v4, d5, s5, t5, v5, d6, s6, t6, d7, s7, t7, v7, d8, s8, t8, v8]
  by_cases B : z2 = 0
  · obtain ⟨B2, B3⟩ := B1 B
    subst B
    have w1 : IntKind.i64.wrap (p2 - e2) = p2 - e2 := IntWalk.i64_in _ (by omega)
    have w2 : (p2 - e2).tmod p2 = -e2 % p2 := by rw [Int.tmod_eq_emod_of_nonneg (by omega)]; simp
    have w3 : ¬ p2 = 0 := by omega
    simp (maxSteps := 10000000) [go_sem, -map_replicate, -map_set, -map_append, -map_reverse, -map_take, -map_drop, -map_tail, -any_map, -all_map, -mapM_map, -map_map, bitvec_to_nat, B3, w1, w2, w3, q2]
    by_cases E : z5 = 0
    · have E2 := E1' E
      subst E
      simp (maxSteps := 10000000) [go_sem, -map_replicate, -map_set, -map_append, -map_reverse, -map_take, -map_drop, -map_tail, -any_map, -all_map, -mapM_map, -map_map, bitvec_to_nat, E2, q5]
      by_cases G : z7 = 0
      · obtain ⟨m, F, A', G2, G3, G4, G5, G6, G7, G8, G9⟩ := G1 G
        subst G
        have w4 : IntKind.i64.wrap (m : Int) = m := IntWalk.i64_in _ (by omega)
        have w5 : IntKind.i64.wrap (2 * (m : Int)) = 2 * (m : Int) := IntWalk.i64_in _ (by omega)
        have w6 : IntKind.i64.wrap (2 * (2 * (m : Int))) = 4 * (m : Int) := by rw [IntWalk.i64_in _ (by omega)]; omega
        have w7 : IntKind.i64.wrap (4 * (m : Int) - 1) = 4 * (m : Int) - 1 := IntWalk.i64_in _ (by omega)
        have q7 := run_moments9 p7 F (by omega)
        rw [G5] at q7
        rw [G4] at G7
        clear G1
        simp (maxSteps := 10000000) [go_sem, -map_replicate, -map_set, -map_append, -map_reverse, -map_take, -map_drop, -map_tail, -any_map, -all_map, -mapM_map, -map_map, bitvec_to_nat, G4, G5, G6, G7, G8, G9, w4, w5, w6, w7, q7]
        by_cases A : z1 = 0
        · have A3 := A1 A
          subst A
          as_aux_lemma =>
            simp (maxSteps := 10000000) [go_sem, -map_replicate, -map_set, -map_append, -map_reverse, -map_take, -map_drop, -map_tail, -any_map, -all_map, -mapM_map, -map_map, bitvec_to_nat, A3, q1]
            repeat refine ⟨by kernel_rfl, by kernel_rfl, ?_⟩
            simp [mvcgen_simp, -map_replicate, -map_set, -map_append, -map_reverse, -map_take, -map_drop, -map_tail, -any_map, -all_map, -mapM_map, -map_map, Tryz.f3, szL, ldL, setCs0, setCs1, setCs2, setCsA2, setCsA3, ldM, fM0, fM1, szM, zM, plM0, plM1, agM, paM, ldJ, fJ0, fJ1, fJ2, szJ, zJ, plJ0, plJ1, plJ2, agJ, paJ, loadD, viewN]
        · have A3 := A2 A
          subst A3
          as_aux_lemma =>
            simp (maxSteps := 10000000) [go_sem, -map_replicate, -map_set, -map_append, -map_reverse, -map_take, -map_drop, -map_tail, -any_map, -all_map, -mapM_map, -map_map, bitvec_to_nat, A]
            repeat refine ⟨by kernel_rfl, by kernel_rfl, ?_⟩
            simp [mvcgen_simp, -map_replicate, -map_set, -map_append, -map_reverse, -map_take, -map_drop, -map_tail, -any_map, -all_map, -mapM_map, -map_map, Tryz.f3, szL, ldL, setCs0, setCs1, setCs2, setCsA2, setCsA3, ldM, fM0, fM1, szM, zM, plM0, plM1, agM, paM, ldJ, fJ0, fJ1, fJ2, szJ, zJ, plJ0, plJ1, plJ2, agJ, paJ, loadD, viewN]
      · simp (maxSteps := 10000000) [go_sem, -map_replicate, -map_set, -map_append, -map_reverse, -map_take, -map_drop, -map_tail, -any_map, -all_map, -mapM_map, -map_map, bitvec_to_nat, G]
        by_cases A : z1 = 0
        · have A3 := A1 A
          subst A
          as_aux_lemma =>
            simp (maxSteps := 10000000) [go_sem, -map_replicate, -map_set, -map_append, -map_reverse, -map_take, -map_drop, -map_tail, -any_map, -all_map, -mapM_map, -map_map, bitvec_to_nat, A3, q1]
            repeat refine ⟨by kernel_rfl, by kernel_rfl, ?_⟩
            simp [mvcgen_simp, -map_replicate, -map_set, -map_append, -map_reverse, -map_take, -map_drop, -map_tail, -any_map, -all_map, -mapM_map, -map_map, Tryz.f3, szL, ldL, setCs0, setCs1, setCs2, setCsA2, setCsA3, ldM, fM0, fM1, szM, zM, plM0, plM1, agM, paM, ldJ, fJ0, fJ1, fJ2, szJ, zJ, plJ0, plJ1, plJ2, agJ, paJ, loadD, viewN]
        · have A3 := A2 A
          subst A3
          as_aux_lemma =>
            simp (maxSteps := 10000000) [go_sem, -map_replicate, -map_set, -map_append, -map_reverse, -map_take, -map_drop, -map_tail, -any_map, -all_map, -mapM_map, -map_map, bitvec_to_nat, A]
            repeat refine ⟨by kernel_rfl, by kernel_rfl, ?_⟩
            simp [mvcgen_simp, -map_replicate, -map_set, -map_append, -map_reverse, -map_take, -map_drop, -map_tail, -any_map, -all_map, -mapM_map, -map_map, Tryz.f3, szL, ldL, setCs0, setCs1, setCs2, setCsA2, setCsA3, ldM, fM0, fM1, szM, zM, plM0, plM1, agM, paM, ldJ, fJ0, fJ1, fJ2, szJ, zJ, plJ0, plJ1, plJ2, agJ, paJ, loadD, viewN]
    · simp (maxSteps := 10000000) [go_sem, -map_replicate, -map_set, -map_append, -map_reverse, -map_take, -map_drop, -map_tail, -any_map, -all_map, -mapM_map, -map_map, bitvec_to_nat, E]
      by_cases G : z7 = 0
      · obtain ⟨m, F, A', G2, G3, G4, G5, G6, G7, G8, G9⟩ := G1 G
        subst G
        have w4 : IntKind.i64.wrap (m : Int) = m := IntWalk.i64_in _ (by omega)
        have w5 : IntKind.i64.wrap (2 * (m : Int)) = 2 * (m : Int) := IntWalk.i64_in _ (by omega)
        have w6 : IntKind.i64.wrap (2 * (2 * (m : Int))) = 4 * (m : Int) := by rw [IntWalk.i64_in _ (by omega)]; omega
        have w7 : IntKind.i64.wrap (4 * (m : Int) - 1) = 4 * (m : Int) - 1 := IntWalk.i64_in _ (by omega)
        have q7 := run_moments9 p7 F (by omega)
        rw [G5] at q7
        rw [G4] at G7
        clear G1
        simp (maxSteps := 10000000) [go_sem, -map_replicate, -map_set, -map_append, -map_reverse, -map_take, -map_drop, -map_tail, -any_map, -all_map, -mapM_map, -map_map, bitvec_to_nat, G4, G5, G6, G7, G8, G9, w4, w5, w6, w7, q7]
        by_cases A : z1 = 0
        · have A3 := A1 A
          subst A
          as_aux_lemma =>
            simp (maxSteps := 10000000) [go_sem, -map_replicate, -map_set, -map_append, -map_reverse, -map_take, -map_drop, -map_tail, -any_map, -all_map, -mapM_map, -map_map, bitvec_to_nat, A3, q1]
            repeat refine ⟨by kernel_rfl, by kernel_rfl, ?_⟩
            simp [mvcgen_simp, -map_replicate, -map_set, -map_append, -map_reverse, -map_take, -map_drop, -map_tail, -any_map, -all_map, -mapM_map, -map_map, Tryz.f3, szL, ldL, setCs0, setCs1, setCs2, setCsA2, setCsA3, ldM, fM0, fM1, szM, zM, plM0, plM1, agM, paM, ldJ, fJ0, fJ1, fJ2, szJ, zJ, plJ0, plJ1, plJ2, agJ, paJ, loadD, viewN]
        · have A3 := A2 A
          subst A3
          as_aux_lemma =>
            simp (maxSteps := 10000000) [go_sem, -map_replicate, -map_set, -map_append, -map_reverse, -map_take, -map_drop, -map_tail, -any_map, -all_map, -mapM_map, -map_map, bitvec_to_nat, A]
            repeat refine ⟨by kernel_rfl, by kernel_rfl, ?_⟩
            simp [mvcgen_simp, -map_replicate, -map_set, -map_append, -map_reverse, -map_take, -map_drop, -map_tail, -any_map, -all_map, -mapM_map, -map_map, Tryz.f3, szL, ldL, setCs0, setCs1, setCs2, setCsA2, setCsA3, ldM, fM0, fM1, szM, zM, plM0, plM1, agM, paM, ldJ, fJ0, fJ1, fJ2, szJ, zJ, plJ0, plJ1, plJ2, agJ, paJ, loadD, viewN]
      · simp (maxSteps := 10000000) [go_sem, -map_replicate, -map_set, -map_append, -map_reverse, -map_take, -map_drop, -map_tail, -any_map, -all_map, -mapM_map, -map_map, bitvec_to_nat, G]
        by_cases A : z1 = 0
        · have A3 := A1 A
          subst A
          as_aux_lemma =>
            simp (maxSteps := 10000000) [go_sem, -map_replicate, -map_set, -map_append, -map_reverse, -map_take, -map_drop, -map_tail, -any_map, -all_map, -mapM_map, -map_map, bitvec_to_nat, A3, q1]
            repeat refine ⟨by kernel_rfl, by kernel_rfl, ?_⟩
            simp [mvcgen_simp, -map_replicate, -map_set, -map_append, -map_reverse, -map_take, -map_drop, -map_tail, -any_map, -all_map, -mapM_map, -map_map, Tryz.f3, szL, ldL, setCs0, setCs1, setCs2, setCsA2, setCsA3, ldM, fM0, fM1, szM, zM, plM0, plM1, agM, paM, ldJ, fJ0, fJ1, fJ2, szJ, zJ, plJ0, plJ1, plJ2, agJ, paJ, loadD, viewN]
        · have A3 := A2 A
          subst A3
          as_aux_lemma =>
            simp (maxSteps := 10000000) [go_sem, -map_replicate, -map_set, -map_append, -map_reverse, -map_take, -map_drop, -map_tail, -any_map, -all_map, -mapM_map, -map_map, bitvec_to_nat, A]
            repeat refine ⟨by kernel_rfl, by kernel_rfl, ?_⟩
            simp [mvcgen_simp, -map_replicate, -map_set, -map_append, -map_reverse, -map_take, -map_drop, -map_tail, -any_map, -all_map, -mapM_map, -map_map, Tryz.f3, szL, ldL, setCs0, setCs1, setCs2, setCsA2, setCsA3, ldM, fM0, fM1, szM, zM, plM0, plM1, agM, paM, ldJ, fJ0, fJ1, fJ2, szJ, zJ, plJ0, plJ1, plJ2, agJ, paJ, loadD, viewN]
  · simp (maxSteps := 10000000) [go_sem, -map_replicate, -map_set, -map_append, -map_reverse, -map_take, -map_drop, -map_tail, -any_map, -all_map, -mapM_map, -map_map, bitvec_to_nat, B]
    by_cases E : z5 = 0
    · have E2 := E1' E
      subst E
      simp (maxSteps := 10000000) [go_sem, -map_replicate, -map_set, -map_append, -map_reverse, -map_take, -map_drop, -map_tail, -any_map, -all_map, -mapM_map, -map_map, bitvec_to_nat, E2, q5]
      by_cases G : z7 = 0
      · obtain ⟨m, F, A', G2, G3, G4, G5, G6, G7, G8, G9⟩ := G1 G
        subst G
        have w4 : IntKind.i64.wrap (m : Int) = m := IntWalk.i64_in _ (by omega)
        have w5 : IntKind.i64.wrap (2 * (m : Int)) = 2 * (m : Int) := IntWalk.i64_in _ (by omega)
        have w6 : IntKind.i64.wrap (2 * (2 * (m : Int))) = 4 * (m : Int) := by rw [IntWalk.i64_in _ (by omega)]; omega
        have w7 : IntKind.i64.wrap (4 * (m : Int) - 1) = 4 * (m : Int) - 1 := IntWalk.i64_in _ (by omega)
        have q7 := run_moments9 p7 F (by omega)
        rw [G5] at q7
        rw [G4] at G7
        clear G1
        simp (maxSteps := 10000000) [go_sem, -map_replicate, -map_set, -map_append, -map_reverse, -map_take, -map_drop, -map_tail, -any_map, -all_map, -mapM_map, -map_map, bitvec_to_nat, G4, G5, G6, G7, G8, G9, w4, w5, w6, w7, q7]
        by_cases A : z1 = 0
        · have A3 := A1 A
          subst A
          as_aux_lemma =>
            simp (maxSteps := 10000000) [go_sem, -map_replicate, -map_set, -map_append, -map_reverse, -map_take, -map_drop, -map_tail, -any_map, -all_map, -mapM_map, -map_map, bitvec_to_nat, A3, q1]
            repeat refine ⟨by kernel_rfl, by kernel_rfl, ?_⟩
            simp [mvcgen_simp, -map_replicate, -map_set, -map_append, -map_reverse, -map_take, -map_drop, -map_tail, -any_map, -all_map, -mapM_map, -map_map, Tryz.f3, szL, ldL, setCs0, setCs1, setCs2, setCsA2, setCsA3, ldM, fM0, fM1, szM, zM, plM0, plM1, agM, paM, ldJ, fJ0, fJ1, fJ2, szJ, zJ, plJ0, plJ1, plJ2, agJ, paJ, loadD, viewN]
        · have A3 := A2 A
          subst A3
          as_aux_lemma =>
            simp (maxSteps := 10000000) [go_sem, -map_replicate, -map_set, -map_append, -map_reverse, -map_take, -map_drop, -map_tail, -any_map, -all_map, -mapM_map, -map_map, bitvec_to_nat, A]
            repeat refine ⟨by kernel_rfl, by kernel_rfl, ?_⟩
            simp [mvcgen_simp, -map_replicate, -map_set, -map_append, -map_reverse, -map_take, -map_drop, -map_tail, -any_map, -all_map, -mapM_map, -map_map, Tryz.f3, szL, ldL, setCs0, setCs1, setCs2, setCsA2, setCsA3, ldM, fM0, fM1, szM, zM, plM0, plM1, agM, paM, ldJ, fJ0, fJ1, fJ2, szJ, zJ, plJ0, plJ1, plJ2, agJ, paJ, loadD, viewN]
      · simp (maxSteps := 10000000) [go_sem, -map_replicate, -map_set, -map_append, -map_reverse, -map_take, -map_drop, -map_tail, -any_map, -all_map, -mapM_map, -map_map, bitvec_to_nat, G]
        by_cases A : z1 = 0
        · have A3 := A1 A
          subst A
          as_aux_lemma =>
            simp (maxSteps := 10000000) [go_sem, -map_replicate, -map_set, -map_append, -map_reverse, -map_take, -map_drop, -map_tail, -any_map, -all_map, -mapM_map, -map_map, bitvec_to_nat, A3, q1]
            repeat refine ⟨by kernel_rfl, by kernel_rfl, ?_⟩
            simp [mvcgen_simp, -map_replicate, -map_set, -map_append, -map_reverse, -map_take, -map_drop, -map_tail, -any_map, -all_map, -mapM_map, -map_map, Tryz.f3, szL, ldL, setCs0, setCs1, setCs2, setCsA2, setCsA3, ldM, fM0, fM1, szM, zM, plM0, plM1, agM, paM, ldJ, fJ0, fJ1, fJ2, szJ, zJ, plJ0, plJ1, plJ2, agJ, paJ, loadD, viewN]
        · have A3 := A2 A
          subst A3
          as_aux_lemma =>
            simp (maxSteps := 10000000) [go_sem, -map_replicate, -map_set, -map_append, -map_reverse, -map_take, -map_drop, -map_tail, -any_map, -all_map, -mapM_map, -map_map, bitvec_to_nat, A]
            repeat refine ⟨by kernel_rfl, by kernel_rfl, ?_⟩
            simp [mvcgen_simp, -map_replicate, -map_set, -map_append, -map_reverse, -map_take, -map_drop, -map_tail, -any_map, -all_map, -mapM_map, -map_map, Tryz.f3, szL, ldL, setCs0, setCs1, setCs2, setCsA2, setCsA3, ldM, fM0, fM1, szM, zM, plM0, plM1, agM, paM, ldJ, fJ0, fJ1, fJ2, szJ, zJ, plJ0, plJ1, plJ2, agJ, paJ, loadD, viewN]
    · simp (maxSteps := 10000000) [go_sem, -map_replicate, -map_set, -map_append, -map_reverse, -map_take, -map_drop, -map_tail, -any_map, -all_map, -mapM_map, -map_map, bitvec_to_nat, E]
      by_cases G : z7 = 0
      · obtain ⟨m, F, A', G2, G3, G4, G5, G6, G7, G8, G9⟩ := G1 G
        subst G
        have w4 : IntKind.i64.wrap (m : Int) = m := IntWalk.i64_in _ (by omega)
        have w5 : IntKind.i64.wrap (2 * (m : Int)) = 2 * (m : Int) := IntWalk.i64_in _ (by omega)
        have w6 : IntKind.i64.wrap (2 * (2 * (m : Int))) = 4 * (m : Int) := by rw [IntWalk.i64_in _ (by omega)]; omega
        have w7 : IntKind.i64.wrap (4 * (m : Int) - 1) = 4 * (m : Int) - 1 := IntWalk.i64_in _ (by omega)
        have q7 := run_moments9 p7 F (by omega)
        rw [G5] at q7
        rw [G4] at G7
        clear G1
        simp (maxSteps := 10000000) [go_sem, -map_replicate, -map_set, -map_append, -map_reverse, -map_take, -map_drop, -map_tail, -any_map, -all_map, -mapM_map, -map_map, bitvec_to_nat, G4, G5, G6, G7, G8, G9, w4, w5, w6, w7, q7]
        by_cases A : z1 = 0
        · have A3 := A1 A
          subst A
          as_aux_lemma =>
            simp (maxSteps := 10000000) [go_sem, -map_replicate, -map_set, -map_append, -map_reverse, -map_take, -map_drop, -map_tail, -any_map, -all_map, -mapM_map, -map_map, bitvec_to_nat, A3, q1]
            repeat refine ⟨by kernel_rfl, by kernel_rfl, ?_⟩
            simp [mvcgen_simp, -map_replicate, -map_set, -map_append, -map_reverse, -map_take, -map_drop, -map_tail, -any_map, -all_map, -mapM_map, -map_map, Tryz.f3, szL, ldL, setCs0, setCs1, setCs2, setCsA2, setCsA3, ldM, fM0, fM1, szM, zM, plM0, plM1, agM, paM, ldJ, fJ0, fJ1, fJ2, szJ, zJ, plJ0, plJ1, plJ2, agJ, paJ, loadD, viewN]
        · have A3 := A2 A
          subst A3
          as_aux_lemma =>
            simp (maxSteps := 10000000) [go_sem, -map_replicate, -map_set, -map_append, -map_reverse, -map_take, -map_drop, -map_tail, -any_map, -all_map, -mapM_map, -map_map, bitvec_to_nat, A]
            repeat refine ⟨by kernel_rfl, by kernel_rfl, ?_⟩
            simp [mvcgen_simp, -map_replicate, -map_set, -map_append, -map_reverse, -map_take, -map_drop, -map_tail, -any_map, -all_map, -mapM_map, -map_map, Tryz.f3, szL, ldL, setCs0, setCs1, setCs2, setCsA2, setCsA3, ldM, fM0, fM1, szM, zM, plM0, plM1, agM, paM, ldJ, fJ0, fJ1, fJ2, szJ, zJ, plJ0, plJ1, plJ2, agJ, paJ, loadD, viewN]
      · simp (maxSteps := 10000000) [go_sem, -map_replicate, -map_set, -map_append, -map_reverse, -map_take, -map_drop, -map_tail, -any_map, -all_map, -mapM_map, -map_map, bitvec_to_nat, G]
        by_cases A : z1 = 0
        · have A3 := A1 A
          subst A
          as_aux_lemma =>
            simp (maxSteps := 10000000) [go_sem, -map_replicate, -map_set, -map_append, -map_reverse, -map_take, -map_drop, -map_tail, -any_map, -all_map, -mapM_map, -map_map, bitvec_to_nat, A3, q1]
            repeat refine ⟨by kernel_rfl, by kernel_rfl, ?_⟩
            simp [mvcgen_simp, -map_replicate, -map_set, -map_append, -map_reverse, -map_take, -map_drop, -map_tail, -any_map, -all_map, -mapM_map, -map_map, Tryz.f3, szL, ldL, setCs0, setCs1, setCs2, setCsA2, setCsA3, ldM, fM0, fM1, szM, zM, plM0, plM1, agM, paM, ldJ, fJ0, fJ1, fJ2, szJ, zJ, plJ0, plJ1, plJ2, agJ, paJ, loadD, viewN]
        · have A3 := A2 A
          subst A3
          as_aux_lemma =>
            simp (maxSteps := 10000000) [go_sem, -map_replicate, -map_set, -map_append, -map_reverse, -map_take, -map_drop, -map_tail, -any_map, -all_map, -mapM_map, -map_map, bitvec_to_nat, A]
            repeat refine ⟨by kernel_rfl, by kernel_rfl, ?_⟩
            simp [mvcgen_simp, -map_replicate, -map_set, -map_append, -map_reverse, -map_take, -map_drop, -map_tail, -any_map, -all_map, -mapM_map, -map_map, Tryz.f3, szL, ldL, setCs0, setCs1, setCs2, setCsA2, setCsA3, ldM, fM0, fM1, szM, zM, plM0, plM1, agM, paM, ldJ, fJ0, fJ1, fJ2, szJ, zJ, plJ0, plJ1, plJ2, agJ, paJ, loadD, viewN]
end Go.Proofs.YtabnganndcmcnaaGreat.Ev
