/- FnJacobiData: data of moments lead back to the moments, and their polynomials are the orthogonal ones. Conditions: none. -/
import Derived.Test.YtacfkfdnncgjcaaGreatFnFT
import Derived.Test.YtacfkfdnncgjcaaGreatFnEE
import Derived.Test.YtacfkfdnncgjcaaGreatFnDQ
set_option linter.unusedSimpArgs false
set_option linter.unusedVariables false
namespace Go.Proofs.YtacfkfdnncgjcaaGreat.Ev
open Go Go.Proofs
open List (map_replicate map_set map_append map_reverse map_take map_drop map_tail any_map all_map mapM_map map_map)
set_option maxRecDepth 40000
set_option maxHeartbeats 8000000

theorem momJ_okN {p : Int} {a b : List Int} (hj : jacB p a b = true) {n : Nat} (h1 : 1 ≤ n) (h2 : n ≤ 2 * a.length) : momJ p a b (n : Int) = (p, tab n (mo p a b), 0) := by
  unfold momJ
  rw [hj, if_pos rfl, show (decide (1 ≤ (n : Int)) && decide ((n : Int) ≤ 2 * (a.length : Int))) = true by simp; omega, if_pos rfl, Int.toNat_natCast]
theorem momJ_zero {p n : Int} {a b : List Int} (h : (momJ p a b n).2.2 = 0) : jacB p a b = true ∧ 1 ≤ n ∧ n ≤ 2 * (a.length : Int) := by
  unfold momJ at h
  cases e : jacB p a b with
  | false => rw [e] at h; simp at h
  | true =>
    rw [e, if_pos rfl] at h
    by_cases c : (decide (1 ≤ n) && decide (n ≤ 2 * (a.length : Int))) = true
    · simp at c; exact ⟨rfl, c⟩
    · rw [if_neg c] at h; simp at h
theorem codeO_zero {p n : Int} {l : List Int} (h : codeO p l n 1 = 0) : momB p l = true ∧ (1 ≤ n ∧ n ≤ 12) ∧ (2 * n ≤ l.length ∧ n ≤ ordN p l) := by
  unfold codeO at h
  by_cases c1 : momB p l = true
  · rw [if_pos c1] at h
    by_cases c2 : 1 ≤ n ∧ n ≤ 12
    · rw [if_pos c2] at h
      by_cases c3 : 2 * n ≤ l.length ∧ n ≤ ordN p l
      · exact ⟨c1, c2, c3⟩
      · rw [if_neg c3] at h; omega
    · rw [if_neg c2] at h; omega
  · rw [if_neg c1] at h; omega
theorem jom_runs (p n : Int) (l : List Int) (hl : l.length ≤ 26) : ∃ (rp : Int) (ra rb : List Int) (rc : Int), (ra.length ≤ 12 ∧ rb.length ≤ 12) ∧
    runv E1 8 [(V.agg [V.int .i64 (p), (V.list (List.length (l)) (List.map (V.int .i64) (l)))]), (V.int .i64 (n))] = some ⟨true, .tup [(V.agg [V.int .i64 (rp), (V.uniq 1 (List.length (ra)) (List.map (V.int .i64) (ra))), (V.uniq 1 (List.length (rb)) (List.map (V.int .i64) (rb)))]), (V.int .i64 (rc))], [.agg [.undef, .undef], .undef]⟩ ∧
    runv E1 9 [(V.agg [V.int .i64 (p), (V.list (List.length (l)) (List.map (V.int .i64) (l)))]), (V.int .i64 (n))] = some ⟨true, .tup [(V.agg [V.int .i64 (rp), (V.uniq 1 (List.length (ra)) (List.map (V.int .i64) (ra))), (V.uniq 1 (List.length (rb)) (List.map (V.int .i64) (rb)))]), (V.int .i64 (rc))], [.agg [.undef, .undef], .undef]⟩ ∧
    (rc ≠ 0 → ra = []) ∧
    (rc = 0 → rp = p ∧ (1 ≤ ra.length ∧ rb.length = ra.length ∧ n = ra.length) ∧ ∃ (M f : List Int), (M.length = 2 * ra.length ∧ f.length = ra.length + 1) ∧
      runv E1 12 [(V.agg [V.int .i64 (p), (V.list (List.length (ra)) (List.map (V.int .i64) (ra))), (V.list (List.length (rb)) (List.map (V.int .i64) (rb)))]), (V.int .i64 (2 * n))] = some ⟨true, .tup [(V.agg [V.int .i64 (p), (V.uniq 1 (List.length (M)) (List.map (V.int .i64) (M)))]), (V.int .i64 (0))], [.agg [.undef, .undef, .undef], .undef]⟩ ∧
      runv E1 15 [(V.agg [V.int .i64 (p), (V.list (List.length (l)) (List.map (V.int .i64) (l)))]), (V.int .i64 (2 * n))] = some ⟨true, .tup [(V.agg [V.int .i64 (p), (V.uniq 1 (List.length (M)) (List.map (V.int .i64) (M)))]), (V.int .i64 (0))], [.agg [.undef, .undef], .undef]⟩ ∧
      runv E1 16 [(V.agg [V.int .i64 (p), (V.list (List.length (l)) (List.map (V.int .i64) (l)))]), (V.int .i64 (n))] = some ⟨false, .tup [(V.list (List.length (f)) (List.map (V.int .i64) (f))), (V.int .i64 (0))], [.agg [.undef, .undef], .undef]⟩ ∧
      runv E1 17 [(V.agg [V.int .i64 (p), (V.list (List.length (ra)) (List.map (V.int .i64) (ra))), (V.list (List.length (rb)) (List.map (V.int .i64) (rb)))]), (V.int .i64 (n))] = some ⟨false, .tup [(V.list (List.length (f)) (List.map (V.int .i64) (f))), (V.int .i64 (0))], [.agg [.undef, .undef, .undef], .undef]⟩) := by
  by_cases c : codeO p l n 1 = 0
  · obtain ⟨hm, hn, ho⟩ := codeO_zero c
    have hp := momB_prime hm
    obtain ⟨N, rfl⟩ : ∃ N : Nat, n = N := ⟨n.toNat, by omega⟩
    obtain ⟨a, b, hj, ha, hlM⟩ := data_ord hm (n := N) (by omega) (by omega)
    subst ha
    have hj2 := jacB_len hj
    refine ⟨p, a, b, 0, by omega, run_implJacobiOfMoments p a b l hj hm hlM (by omega), run_specJacobiOfMoments p a b l hj hm hlM (by omega), fun h => absurd rfl h, fun _ => ⟨rfl, ⟨by omega, hj2.2.2, rfl⟩, l.take (2 * a.length), (pl p a b a.length).1, ⟨by simp; omega, pl_length hp a b a.length⟩, ?_, ?_, ?_, ?_⟩⟩
    · have m1 := run_implMomentsOfJacobi p a b ((2 * a.length : Nat) : Int) (by omega) (by omega)
      rw [momJ_okN hj (by omega) (Nat.le_refl _), show tab (2 * a.length) (mo p a b) = l.take (2 * a.length) from (eq_tab (by simp; omega) fun t ht => by rw [rdI_take ht]; exact hlM t ht).symm, show ((2 * a.length : Nat) : Int) = 2 * (a.length : Int) by omega] at m1
      exact m1
    · have m2 := run_implCutMoments p l (2 * a.length) hm (by omega) (by omega)
      rw [show ((2 * a.length : Nat) : Int) = 2 * (a.length : Int) by omega] at m2
      exact m2
    · exact run_implOrthogonalPolynomial p a b l a.length hm (by omega) (fun _ => ⟨hj, hlM, Nat.le_refl _⟩) (by omega) (by omega)
    · exact run_implPolyOf p a b a.length hj (Nat.le_refl _)
  · exact ⟨0, [], [], codeO p l n 1, by simp, run_implJacobiOfMomentsB p l n (by omega) c, run_specJacobiOfMomentsB p l n (by omega) c, fun _ => rfl, fun h => absurd h c⟩
theorem mom_back {p n : Int} {a b : List Int} (h : (momJ p a b n).2.2 = 0) (hn : n = 2 * (a.length : Int)) : b.length = a.length ∧ a.length ≤ 12 ∧ (momJ p a b n).1 = p ∧ (momJ p a b n).2.1.length = 2 * a.length ∧
    runv E1 8 [(V.agg [V.int .i64 ((momJ p a b n).1), (V.list (List.length ((momJ p a b n).2.1)) (List.map (V.int .i64) ((momJ p a b n).2.1)))]), (V.int .i64 ((a.length : Int)))] = some ⟨true, .tup [(V.agg [V.int .i64 (p), (V.uniq 1 (List.length (a)) (List.map (V.int .i64) (a))), (V.uniq 1 (List.length (b)) (List.map (V.int .i64) (b)))]), (V.int .i64 (0))], [.agg [.undef, .undef], .undef]⟩ := by
  obtain ⟨hj, h1, h2⟩ := momJ_zero h
  have hj2 := jacB_len hj
  have hp := jacB_prime hj
  subst hn
  have e := momJ_okN hj (n := 2 * a.length) (by omega) (Nat.le_refl _)
  rw [show ((2 * a.length : Nat) : Int) = 2 * (a.length : Int) by omega] at e
  rw [e]
  refine ⟨hj2.2.2, by omega, rfl, tab_len _ _, ?_⟩
  have hm : momB p (tab (2 * a.length) (mo p a b)) = true := by
    unfold momB
    have k1 : upTo (tab (2 * a.length) (mo p a b)) 24 = true := by simp [upTo, tab_len]; omega
    have k2 : (tab (2 * a.length) (mo p a b)).all (hasB p) = true := by
      rw [List.all_eq_true]; intro x hx
      obtain ⟨k, hk', rfl⟩ := List.getElem_of_mem hx
      rw [rdI_get hk', tab_rd (by simpa [tab_len] using hk')]
      have : 0 ≤ mo p a b k ∧ mo p a b k < p := mod_small hp _
      show (decide (0 ≤ mo p a b k) && decide (mo p a b k < p)) = true
      simp only [Bool.and_eq_true, decide_eq_true_eq]; exact this
    rw [jacB_pr hj, k1, k2]; rfl
  exact run_implJacobiOfMoments p a b _ hj hm (fun t ht => tab_rd ht) (by rw [tab_len]; omega)
theorem run_lawJacobiData (code : List Int) (h_code : code.length ≤ 9223372036854775807) (hb : ∀ z, z ∈ code → 0 ≤ z ∧ z ≤ 255) :
    runv E1 3 [.list code.length (code.map (V.int .u8))] = some ⟨true, .bool true, [.undef]⟩ := by
  have g0 := run_big code
  by_cases hl : 4096 < (code.length : Int)
  · have cdk : codeOk Tryz.f3.ntmps (Tryz.f3.body.getD .skip) = true := by kernel_rfl
    refine run_of_WLr (fn := Tryz.f3) rfl Tryz.func3 rfl ⟨by simp [Tryz.ntmps3], by simp [wideA, ints], cdk, by simp [Tryz.f3]⟩ rfl (by simp [rebOk, noId, adoptT, adoptA, adoptL, adoptC, depth]) ?_
    simp [go_sem, -map_replicate, -map_set, -map_append, -map_reverse, -map_take, -map_drop, -map_tail, -any_map, -all_map, -mapM_map, -map_map, slL, szI, ldI, zI, undL, apL, setI, rdI_get, Nat.add_one_le_iff, fillV, zeros1, zeros0, appendD, segV, lvO, goneOf, sliceD, bound, Nat.add_assoc, g0, hl]
    simp [mvcgen_simp, -map_replicate, -map_set, -map_append, -map_reverse, -map_take, -map_drop, -map_tail, -any_map, -all_map, -mapM_map, -map_map, Tryz.f3]
  have hl' : code.length ≤ 4096 := by omega
  obtain ⟨p, l, n, hll, hn, d1⟩ := run_DrawJacobiOfMoments code hb hl'
  obtain ⟨rp, ra, rb, rc, hrl, j1, j2, j3, j4⟩ := jom_runs p n l hll
  have j5 := run_jacobi9 rp ra rb (by omega) (by omega)
  obtain ⟨p2, a2, b2, n2, hab, hn2, d2⟩ := run_DrawMomentsOfJacobi code hb hl'
  have m1 := run_implMomentsOfJacobi p2 a2 b2 n2 (by omega) (by omega)
  have m2 := run_specMomentsOfJacobi p2 a2 b2 n2 (by omega) (by omega)
  have m0 := momJ_len p2 a2 b2 n2 (by omega) (by omega)
  have m3 := run_moments9 (momJ p2 a2 b2 n2).1 (momJ p2 a2 b2 n2).2.1 m0
  have m4 := @mom_back p2 n2 a2 b2
  have m5 := run_jacobi9 p2 a2 b2 (by omega) (by omega)
  have w1 : IntKind.i64.wrap (2 * (a2.length : Int)) = 2 * (a2.length : Int) := IntWalk.i64_in _ (by omega)
  have w2 : IntKind.i64.wrap (a2.length : Int) = a2.length := IntWalk.i64_in _ (by omega)
  have w3 : IntKind.i64.wrap (2 * n) = 2 * n := IntWalk.i64_in _ (by omega)
  have cdk : codeOk Tryz.f3.ntmps (Tryz.f3.body.getD .skip) = true := by kernel_rfl
  refine run_of_WLr (fn := Tryz.f3) rfl Tryz.func3 rfl ⟨by simp [Tryz.ntmps3], by simp [wideA, ints], cdk, by simp [Tryz.f3]⟩ rfl (by simp [rebOk, noId, adoptT, adoptA, adoptL, adoptC, depth]) ?_
  generalize momJ p2 a2 b2 n2 = mj at *
  obtain ⟨mp, ml, mc⟩ := mj
  simp only at m1 m2 m0 m3 m4
  by_cases A : rc = 0
  · subst A
    obtain ⟨rfl, ⟨ha1, hab2, hna⟩, M, f, ⟨lM, lf⟩, t1, t2, t3, t4⟩ := j4 rfl
    clear j3 j4
    have t5 := run_moments9 rp M (by omega)
    have t6 := run_likeInts f (by omega)
    rw [lM] at t5
    rw [hab2] at j1 j2 j5 t1 t4
    rw [lM] at t1 t2
    rw [lf] at t3 t4 t6
    by_cases B : mc = 0
    · subst B
      by_cases C : n2 = 2 * (a2.length : Int)
      · obtain ⟨z1, z2, rfl, z4, z5⟩ := m4 rfl C
        clear m4
        subst C
        rw [z4] at m1 m2 m3 z5
        rw [z1] at d2 m1 m2 m5 z5
        as_aux_lemma =>
          simp [go_sem, -map_replicate, -map_set, -map_append, -map_reverse, -map_take, -map_drop, -map_tail, -any_map, -all_map, -mapM_map, -map_map, slL, szI, ldI, zI, undL, apL, setI, rdI_get, Nat.add_one_le_iff, fillV, zeros1, zeros0, appendD, segV, lvO, goneOf, sliceD, bound, Nat.add_assoc, szL, ldL, setCs0, setCs1, setCs2, setCsA2, setCsA3, ldM, fM0, fM1, szM, zM, plM0, plM1, agM, paM, ldJ, fJ0, fJ1, fJ2, szJ, zJ, plJ0, plJ1, plJ2, agJ, paJ, g0, hl, d1, j1, j2, j5, d2, m1, m2, m3, m5, z1, z4, z5, w1, w2, w3, hab2, lM, lf, t1, t2, t3, t4, t5, t6, fillV]
          repeat refine ⟨by kernel_rfl, by kernel_rfl, ?_⟩
          simp [mvcgen_simp, -map_replicate, -map_set, -map_append, -map_reverse, -map_take, -map_drop, -map_tail, -any_map, -all_map, -mapM_map, -map_map, Tryz.f3, szL, ldL, setCs0, setCs1, setCs2, setCsA2, setCsA3, ldM, fM0, fM1, szM, zM, plM0, plM1, agM, paM, ldJ, fJ0, fJ1, fJ2, szJ, zJ, plJ0, plJ1, plJ2, agJ, paJ, loadD, viewN]
      · clear m4
        as_aux_lemma =>
          simp [go_sem, -map_replicate, -map_set, -map_append, -map_reverse, -map_take, -map_drop, -map_tail, -any_map, -all_map, -mapM_map, -map_map, slL, szI, ldI, zI, undL, apL, setI, rdI_get, Nat.add_one_le_iff, fillV, zeros1, zeros0, appendD, segV, lvO, goneOf, sliceD, bound, Nat.add_assoc, szL, ldL, setCs0, setCs1, setCs2, setCsA2, setCsA3, ldM, fM0, fM1, szM, zM, plM0, plM1, agM, paM, ldJ, fJ0, fJ1, fJ2, szJ, zJ, plJ0, plJ1, plJ2, agJ, paJ, g0, hl, d1, j1, j2, j5, d2, m1, m2, m3, C, w1, w2, w3, hab2, lM, lf, t1, t2, t3, t4, t5, t6, fillV]
          repeat refine ⟨by kernel_rfl, by kernel_rfl, ?_⟩
          simp [mvcgen_simp, -map_replicate, -map_set, -map_append, -map_reverse, -map_take, -map_drop, -map_tail, -any_map, -all_map, -mapM_map, -map_map, Tryz.f3, szL, ldL, setCs0, setCs1, setCs2, setCsA2, setCsA3, ldM, fM0, fM1, szM, zM, plM0, plM1, agM, paM, ldJ, fJ0, fJ1, fJ2, szJ, zJ, plJ0, plJ1, plJ2, agJ, paJ, loadD, viewN]
    · clear m4
      as_aux_lemma =>
        simp [go_sem, -map_replicate, -map_set, -map_append, -map_reverse, -map_take, -map_drop, -map_tail, -any_map, -all_map, -mapM_map, -map_map, slL, szI, ldI, zI, undL, apL, setI, rdI_get, Nat.add_one_le_iff, fillV, zeros1, zeros0, appendD, segV, lvO, goneOf, sliceD, bound, Nat.add_assoc, szL, ldL, setCs0, setCs1, setCs2, setCsA2, setCsA3, ldM, fM0, fM1, szM, zM, plM0, plM1, agM, paM, ldJ, fJ0, fJ1, fJ2, szJ, zJ, plJ0, plJ1, plJ2, agJ, paJ, g0, hl, d1, j1, j2, j5, d2, m1, m2, m3, B, w1, w2, w3, hab2, lM, lf, t1, t2, t3, t4, t5, t6, fillV]
        repeat refine ⟨by kernel_rfl, by kernel_rfl, ?_⟩
        simp [mvcgen_simp, -map_replicate, -map_set, -map_append, -map_reverse, -map_take, -map_drop, -map_tail, -any_map, -all_map, -mapM_map, -map_map, Tryz.f3, szL, ldL, setCs0, setCs1, setCs2, setCsA2, setCsA3, ldM, fM0, fM1, szM, zM, plM0, plM1, agM, paM, ldJ, fJ0, fJ1, fJ2, szJ, zJ, plJ0, plJ1, plJ2, agJ, paJ, loadD, viewN]
  · have t0 := j3 A
    subst t0
    clear j3 j4
    simp only [List.length_nil, List.map_nil] at j1 j2 j5
    by_cases B : mc = 0
    · subst B
      by_cases C : n2 = 2 * (a2.length : Int)
      · obtain ⟨z1, z2, rfl, z4, z5⟩ := m4 rfl C
        clear m4
        subst C
        rw [z4] at m1 m2 m3 z5
        rw [z1] at d2 m1 m2 m5 z5
        as_aux_lemma =>
          simp [go_sem, -map_replicate, -map_set, -map_append, -map_reverse, -map_take, -map_drop, -map_tail, -any_map, -all_map, -mapM_map, -map_map, slL, szI, ldI, zI, undL, apL, setI, rdI_get, Nat.add_one_le_iff, fillV, zeros1, zeros0, appendD, segV, lvO, goneOf, sliceD, bound, Nat.add_assoc, szL, ldL, setCs0, setCs1, setCs2, setCsA2, setCsA3, ldM, fM0, fM1, szM, zM, plM0, plM1, agM, paM, ldJ, fJ0, fJ1, fJ2, szJ, zJ, plJ0, plJ1, plJ2, agJ, paJ, g0, hl, d1, j1, j2, j5, d2, m1, m2, m3, m5, z1, z4, z5, w1, w2, w3, A, fillV]
          repeat refine ⟨by kernel_rfl, by kernel_rfl, ?_⟩
          simp [mvcgen_simp, -map_replicate, -map_set, -map_append, -map_reverse, -map_take, -map_drop, -map_tail, -any_map, -all_map, -mapM_map, -map_map, Tryz.f3, szL, ldL, setCs0, setCs1, setCs2, setCsA2, setCsA3, ldM, fM0, fM1, szM, zM, plM0, plM1, agM, paM, ldJ, fJ0, fJ1, fJ2, szJ, zJ, plJ0, plJ1, plJ2, agJ, paJ, loadD, viewN]
      · clear m4
        as_aux_lemma =>
          simp [go_sem, -map_replicate, -map_set, -map_append, -map_reverse, -map_take, -map_drop, -map_tail, -any_map, -all_map, -mapM_map, -map_map, slL, szI, ldI, zI, undL, apL, setI, rdI_get, Nat.add_one_le_iff, fillV, zeros1, zeros0, appendD, segV, lvO, goneOf, sliceD, bound, Nat.add_assoc, szL, ldL, setCs0, setCs1, setCs2, setCsA2, setCsA3, ldM, fM0, fM1, szM, zM, plM0, plM1, agM, paM, ldJ, fJ0, fJ1, fJ2, szJ, zJ, plJ0, plJ1, plJ2, agJ, paJ, g0, hl, d1, j1, j2, j5, d2, m1, m2, m3, C, w1, w2, w3, A, fillV]
          repeat refine ⟨by kernel_rfl, by kernel_rfl, ?_⟩
          simp [mvcgen_simp, -map_replicate, -map_set, -map_append, -map_reverse, -map_take, -map_drop, -map_tail, -any_map, -all_map, -mapM_map, -map_map, Tryz.f3, szL, ldL, setCs0, setCs1, setCs2, setCsA2, setCsA3, ldM, fM0, fM1, szM, zM, plM0, plM1, agM, paM, ldJ, fJ0, fJ1, fJ2, szJ, zJ, plJ0, plJ1, plJ2, agJ, paJ, loadD, viewN]
    · clear m4
      as_aux_lemma =>
        simp [go_sem, -map_replicate, -map_set, -map_append, -map_reverse, -map_take, -map_drop, -map_tail, -any_map, -all_map, -mapM_map, -map_map, slL, szI, ldI, zI, undL, apL, setI, rdI_get, Nat.add_one_le_iff, fillV, zeros1, zeros0, appendD, segV, lvO, goneOf, sliceD, bound, Nat.add_assoc, szL, ldL, setCs0, setCs1, setCs2, setCsA2, setCsA3, ldM, fM0, fM1, szM, zM, plM0, plM1, agM, paM, ldJ, fJ0, fJ1, fJ2, szJ, zJ, plJ0, plJ1, plJ2, agJ, paJ, g0, hl, d1, j1, j2, j5, d2, m1, m2, m3, B, w1, w2, w3, A, fillV]
        repeat refine ⟨by kernel_rfl, by kernel_rfl, ?_⟩
        simp [mvcgen_simp, -map_replicate, -map_set, -map_append, -map_reverse, -map_take, -map_drop, -map_tail, -any_map, -all_map, -mapM_map, -map_map, Tryz.f3, szL, ldL, setCs0, setCs1, setCs2, setCsA2, setCsA3, ldM, fM0, fM1, szM, zM, plM0, plM1, agM, paM, ldJ, fJ0, fJ1, fJ2, szJ, zJ, plJ0, plJ1, plJ2, agJ, paJ, loadD, viewN]
end Go.Proofs.YtacfkfdnncgjcaaGreat.Ev
