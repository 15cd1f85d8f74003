/- The law of steps. Conditions: none. -/
import Derived.Test.YtabnganndcmcnaaFnDP
import Derived.Test.YtabnganndcmcnaaFnDQ
import Derived.Test.YtabnganndcmcnaaFnDG
import Derived.Test.YtabnganndcmcnaaFnCG
set_option linter.unusedSimpArgs false
set_option linter.unusedVariables false
namespace Go.Proofs.Ytabnganndcmcnaa.Ev
open Go Go.Proofs
open List (map_replicate map_set map_append map_reverse map_take map_drop map_tail any_map all_map mapM_map map_map)
set_option maxRecDepth 4000
set_option maxHeartbeats 4000000

theorem trU_drop (l : List (Int × List Int × List Int)) (i : Nat) (h : i < l.length) : (trU l).drop (i * 3) = [.int .i64 (at3 l i).1, UV (at3 l i).2.1, UV (at3 l i).2.2] ++ trU (l.drop (i + 1)) := by
  unfold trU; rw [fm3_drop uv3 (fun _ => rfl) l i h, at3_eq h]; rfl
theorem trU_view (l : List (Int × List Int × List Int)) (i d : Nat) (h : i < l.length) : List.mapM (viewN (d + 1)) (List.take 3 (List.drop (i * 3) (trU l))) = some [.int .i64 (at3 l i).1, LV (at3 l i).2.1, LV (at3 l i).2.2] := by
  rw [trU_drop l i h]
  show List.mapM (viewN (d + 1)) [.int .i64 (at3 l i).1, UV (at3 l i).2.1, UV (at3 l i).2.2] = _
  simp only [List.mapM_cons, List.mapM_nil, viewN_UV]; rfl
theorem ordIds_trU {d : Nat} (l : List (Int × List Int × List Int)) : (trU l).flatMap (idsF d) = [] := by
  rw [List.flatMap_eq_nil_iff]; intro v hv
  rcases trU_mem hv with ⟨p, rfl⟩ | ⟨f, rfl⟩ <;> cases d <;> rfl
theorem ordRen_trU {ord : List Nat} {H : Nat → Option Ob} (l : List (Int × List Int × List Int)) : (trU l).map (renC ord H) = trU l := by
  conv => rhs; rw [← List.map_id (trU l)]
  refine List.map_congr_left fun v hv => ?_
  rcases trU_mem hv with ⟨p, rfl⟩ | ⟨f, rfl⟩ <;> rfl
theorem stepJ_ok {p c : Int} {a b : List Int} (h : (stepJ p a b c).2.2.2 = 0) : jacB p a b = true ∧ hasB p c = true ∧ stOk p c a b = true ∧ stepJ p a b c = (p, tab (a.length - 1) (stA p c a b), tab (a.length - 1) (stB p c a b), 0) := by
  unfold stepJ at h ⊢
  cases e : jacB p a b with
  | false => rw [e] at h; simp at h
  | true =>
    cases e1 : hasB p c with
    | false => rw [e, e1] at h; simp at h
    | true =>
      cases e2 : stOk p c a b with
      | false => rw [e, e1, e2] at h; simp at h
      | true => exact ⟨rfl, rfl, rfl, rfl⟩
theorem stepJ_bad {p c : Int} {a b : List Int} (h : (stepJ p a b c).2.2.2 ≠ 0) : (stepJ p a b c).2.1 = [] := by
  unfold stepJ at h ⊢
  (repeat' split) <;> first | rfl | (exfalso; simp_all)
theorem backJ_ok {p c q : Int} {a b : List Int} (h : (backJ p a b c q).2.2.2 = 0) : jacB p a b = true ∧ hasB p c = true ∧ unitB p q = true ∧ sbOk p c q a b = true ∧ backJ p a b c q = (p, tab a.length (sbA p c q a b), tab a.length (sbB p c q a b), 0) := by
  unfold backJ at h ⊢
  cases e : jacB p a b with
  | false => rw [e] at h; simp at h
  | true =>
    cases e1 : hasB p c with
    | false => rw [e, e1] at h; simp at h
    | true =>
      cases e3 : unitB p q with
      | false => rw [e, e1, e3] at h; simp at h
      | true =>
        cases e2 : sbOk p c q a b with
        | false => rw [e, e1, e3, e2] at h; simp at h
        | true => exact ⟨rfl, rfl, rfl, rfl, rfl⟩
theorem mo_range {p : Int} (hp : 2 ≤ p ∧ p ≤ 10007) (a b : List Int) (t : Nat) : 0 ≤ mo p a b t ∧ mo p a b t < p := mod_small hp _
theorem tab_momB {p : Int} {n : Nat} {f : Nat → Int} (h : primeB p = true) (hn : 1 ≤ n ∧ n ≤ 24) (hf : ∀ t, 0 ≤ f t ∧ f t < p) : momB p (tab n f) = true := by
  unfold momB
  have k1 : upTo (tab n f) 24 = true := by simp [upTo, tab_len]; omega
  have k2 : (tab n f).all (hasB p) = true := by
    rw [List.all_eq_true]; intro x hx
    obtain ⟨k, hk', rfl⟩ := List.getElem_of_mem hx
    rw [rdI_get hk', tab_rd (by simpa [tab_len] using hk')]
    have := hf k
    show (decide (0 ≤ f k) && decide (f k < p)) = true
    simp only [Bool.and_eq_true, decide_eq_true_eq]; exact this
  rw [h, k1, k2]; rfl
/-- What the last part of the law runs, and that it comes to equal moments. -/
theorem steps_last {p c : Int} {a b : List Int} (h : (stepJ p a b c).2.2.2 = 0) : 2 ≤ a.length ∧ a.length ≤ 12 ∧ ∃ M W : List Int,
    (M.length = 2 * a.length ∧ W.length = 2 * a.length - 1) ∧
    runv E1 13 [(V.agg [V.int .i64 (p), (V.list (List.length (a)) (List.map (V.int .i64) (a))), (V.list (List.length (b)) (List.map (V.int .i64) (b)))]), .int .i64 (2 * (a.length : Int))] = some ⟨true, .tup [.agg [.int .i64 p, .uniq 1 (2 * a.length) (M.map (V.int .i64))], .int .i64 0], [.agg [.undef, .undef, .undef], .undef]⟩ ∧
    runv E1 25 [.agg [.int .i64 p, .list (2 * a.length) (M.map (V.int .i64))], .int .i64 c] = some ⟨true, .tup [.agg [.int .i64 p, .uniq 1 (2 * a.length - 1) (W.map (V.int .i64))], .int .i64 0], [.agg [.undef, .undef], .undef]⟩ ∧
    runv E1 13 [(V.agg [V.int .i64 ((stepJ p a b c).1), (V.list (List.length ((stepJ p a b c).2.1)) (List.map (V.int .i64) ((stepJ p a b c).2.1))), (V.list (List.length ((stepJ p a b c).2.2.1)) (List.map (V.int .i64) ((stepJ p a b c).2.2.1)))]), .int .i64 (2 * (a.length : Int) - 2)] = some ⟨true, .tup [.agg [.int .i64 p, .uniq 1 (2 * a.length - 2) ((W.take (2 * a.length - 2)).map (V.int .i64))], .int .i64 0], [.agg [.undef, .undef, .undef], .undef]⟩ ∧
    runv E1 35 [.agg [.int .i64 p, .list (2 * a.length - 1) (W.map (V.int .i64))], .int .i64 (2 * (a.length : Int) - 2)] = some ⟨true, .tup [.agg [.int .i64 p, .uniq 1 (2 * a.length - 2) ((W.take (2 * a.length - 2)).map (V.int .i64))], .int .i64 0], [.agg [.undef, .undef], .undef]⟩ := by
  obtain ⟨hj, hc, ho, hs⟩ := stepJ_ok h
  have hp := jacB_prime hj
  have hl := jacB_len hj
  have hr : 2 ≤ a.length := by simp only [stOk, Bool.and_eq_true, decide_eq_true_eq] at ho; exact ho.1
  have hj2 := step_jacB hj ho
  have lM : (tab (2 * a.length) (mo p a b)).length = 2 * a.length := tab_len _ _
  have lW : (mulL p (tab (2 * a.length) (mo p a b)) c).length = 2 * a.length - 1 := by unfold mulL; rw [tab_len, lM]
  have hm := tab_momB (f := mo p a b) (n := 2 * a.length) (jacB_pr hj) (by omega) (mo_range hp a b)
  refine ⟨hr, hl.2.1, tab (2 * a.length) (mo p a b), mulL p (tab (2 * a.length) (mo p a b)) c, ⟨lM, lW⟩, ?_, ?_, ?_, ?_⟩
  · have m1 := run_implMomentsOfJacobi p a b (2 * (a.length : Int)) (by omega) (by omega)
    have eM : momJ p a b (2 * (a.length : Int)) = (p, tab (2 * a.length) (mo p a b), 0) := by
      unfold momJ
      rw [hj]
      have h1 : (decide (1 ≤ 2 * (a.length : Int)) && decide (2 * (a.length : Int) ≤ 2 * (a.length : Int))) = true := by simp; omega
      rw [if_pos rfl, h1, if_pos rfl, show (2 * (a.length : Int)).toNat = 2 * a.length by omega]
    rw [eM] at m1
    simp only [lM] at m1
    exact m1
  · have m2 := up (run_implMultiplyMoments p (tab (2 * a.length) (mo p a b)) c (by rw [lM]; omega))
    have e : mulM p (tab (2 * a.length) (mo p a b)) c = (p, mulL p (tab (2 * a.length) (mo p a b)) c, 0) := by
      unfold mulM
      rw [hm, hc, lM, if_pos rfl, if_pos rfl, if_neg (by omega)]
    rw [e] at m2
    simp only [lM, lW] at m2
    exact m2
  · rw [hs]
    have m3 := run_implMomentsOfJacobi p (tab (a.length - 1) (stA p c a b)) (tab (a.length - 1) (stB p c a b)) (2 * (a.length : Int) - 2) (by rw [tab_len]; omega) (by rw [tab_len]; omega)
    have eM : momJ p (tab (a.length - 1) (stA p c a b)) (tab (a.length - 1) (stB p c a b)) (2 * (a.length : Int) - 2) = (p, (mulL p (tab (2 * a.length) (mo p a b)) c).take (2 * a.length - 2), 0) := by
      unfold momJ
      rw [hj2, tab_len]
      have h1 : (decide (1 ≤ 2 * (a.length : Int) - 2) && decide (2 * (a.length : Int) - 2 ≤ 2 * ((a.length - 1 : Nat) : Int))) = true := by simp; omega
      rw [if_pos rfl, h1, if_pos rfl, show (2 * (a.length : Int) - 2).toNat = 2 * a.length - 2 by omega]
      congr 2
      symm
      apply eq_tab (by simp [lW]; omega)
      intro t ht
      rw [rdI_take ht]
      unfold mulL
      rw [tab_rd (by rw [lM]; omega), tab_rd (by omega), tab_rd (by omega), step_moments hj ho ht]
    rw [eM] at m3
    have lT : ((mulL p (tab (2 * a.length) (mo p a b)) c).take (2 * a.length - 2)).length = 2 * a.length - 2 := by simp [lW]; omega
    simp only [lT] at m3
    exact m3
  · have hw := tab_momB (p := p) (f := fun k => (rdI (tab (2 * a.length) (mo p a b)) (k + 1) - c * rdI (tab (2 * a.length) (mo p a b)) k) % p) (n := 2 * a.length - 1) (jacB_pr hj) (by omega) (fun t => mod_small hp _)
    have eW : mulL p (tab (2 * a.length) (mo p a b)) c = tab (2 * a.length - 1) fun k => (rdI (tab (2 * a.length) (mo p a b)) (k + 1) - c * rdI (tab (2 * a.length) (mo p a b)) k) % p := by unfold mulL; rw [lM]
    rw [← eW] at hw
    have m4 := run_implCutMoments p (mulL p (tab (2 * a.length) (mo p a b)) c) (2 * a.length - 2) hw (by omega) (by rw [lW]; omega)
    have lT : ((mulL p (tab (2 * a.length) (mo p a b)) c).take (2 * a.length - 2)).length = 2 * a.length - 2 := by simp [lW]; omega
    rw [lW, lT, show (((2 * a.length - 2 : Nat)) : Int) = 2 * (a.length : Int) - 2 by omega] at m4
    exact m4
theorem run_lawSteps (code : List Int) (h_code : code.length ≤ 9223372036854775807) (hb : ∀ z, z ∈ code → 0 ≤ z ∧ z ≤ 255) :
    runv E1 4 [.list code.length (code.map (V.int .u8))] = some ⟨true, .bool true, [.undef]⟩ := by
  have g0 := run_big code
  by_cases hl : 4096 < (code.length : Int)
  · have cdk : codeOk Try.f4.ntmps (Try.f4.body.getD .skip) = true := by kernel_rfl
    refine run_of_WLr (fn := Try.f4) rfl Try.func4 rfl ⟨by simp [Try.ntmps4], by simp [wideA, ints], cdk, by simp [Try.f4]⟩ rfl (by simp [rebOk, noId, adoptT, adoptA, adoptL, adoptC, depth]) ?_
    simp [go_sem, -map_replicate, -map_set, -map_append, -map_reverse, -map_take, -map_drop, -map_tail, -any_map, -all_map, -mapM_map, -map_map, slL, szI, ldI, zI, undL, apL, setI, rdI_get, Nat.add_one_le_iff, fillV, zeros1, zeros0, appendD, segV, lvO, goneOf, sliceD, bound, Nat.add_assoc, g0, hl]
    simp [mvcgen_simp, -map_replicate, -map_set, -map_append, -map_reverse, -map_take, -map_drop, -map_tail, -any_map, -all_map, -mapM_map, -map_map, Try.f4]
  have hl' : code.length ≤ 4096 := by omega
  obtain ⟨p, a, b, c, hab, d1⟩ := run_DrawStepOfJacobi code hb hl'
  have t1 := run_implStepOfJacobi p a b c (by omega) (by omega)
  have t2 := run_specStepOfJacobi p a b c (by omega) (by omega)
  have t0 := stepJ_len p a b c (by omega) (by omega)
  have t3 := run_jacobi9 (stepJ p a b c).1 (stepJ p a b c).2.1 (stepJ p a b c).2.2.1 t0.1 t0.2
  have t4 := @steps_last p c a b
  have t5 := @stepJ_bad p c a b
  obtain ⟨p2, a2, b2, c2, q2, hab2, d2⟩ := run_DrawStepBack code hb hl'
  have u1 := run_implStepBack p2 a2 b2 c2 q2 (by omega) (by omega)
  have u2 := run_specStepBack p2 a2 b2 c2 q2 (by omega) (by omega)
  have u0 := backJ_len p2 a2 b2 c2 q2 (by omega) (by omega)
  have u3 := run_jacobi9 (backJ p2 a2 b2 c2 q2).1 (backJ p2 a2 b2 c2 q2).2.1 (backJ p2 a2 b2 c2 q2).2.2.1 u0.1 u0.2
  have u4 : (backJ p2 a2 b2 c2 q2).2.2.2 = 0 → 1 < a2.length → b2.length = a2.length ∧ runv E1 24 [(V.agg [V.int .i64 ((backJ p2 a2 b2 c2 q2).1), (V.list (List.length ((backJ p2 a2 b2 c2 q2).2.1)) (List.map (V.int .i64) ((backJ p2 a2 b2 c2 q2).2.1))), (V.list (List.length ((backJ p2 a2 b2 c2 q2).2.2.1)) (List.map (V.int .i64) ((backJ p2 a2 b2 c2 q2).2.2.1)))]), .int .i64 c2] = some ⟨true, .tup [.agg [.int .i64 p2, .uniq 1 (a2.length - 1) ((a2.take (a2.length - 1)).map (V.int .i64)), .uniq 1 (a2.length - 1) ((b2.take (a2.length - 1)).map (V.int .i64))], .int .i64 0], [.agg [.undef, .undef, .undef], .undef]⟩ ∧
      runv E1 34 [(V.agg [V.int .i64 (p2), (V.list (List.length (a2)) (List.map (V.int .i64) (a2))), (V.list (List.length (b2)) (List.map (V.int .i64) (b2)))]), .int .i64 ((a2.length : Int) - 1)] = some ⟨true, .tup [.agg [.int .i64 p2, .uniq 1 (a2.length - 1) ((a2.take (a2.length - 1)).map (V.int .i64)), .uniq 1 (a2.length - 1) ((b2.take (a2.length - 1)).map (V.int .i64))], .int .i64 0], [.agg [.undef, .undef, .undef], .undef]⟩ ∧
      runv E1 18 [.agg [.int .i64 p2, .list (a2.length - 1) ((a2.take (a2.length - 1)).map (V.int .i64)), .list (a2.length - 1) ((b2.take (a2.length - 1)).map (V.int .i64))], .agg [.int .i64 p2, .list (a2.length - 1) ((a2.take (a2.length - 1)).map (V.int .i64)), .list (a2.length - 1) ((b2.take (a2.length - 1)).map (V.int .i64))]] = some ⟨true, .bool true, [.agg [.undef, .undef, .undef], .agg [.undef, .undef, .undef]]⟩ := by
    intro h hr
    obtain ⟨hj, hc, hq, ho, e⟩ := backJ_ok h
    have hl2 := jacB_len hj
    rw [e]
    have s := run_implStepOfJacobi p2 (tab a2.length (sbA p2 c2 q2 a2 b2)) (tab a2.length (sbB p2 c2 q2 a2 b2)) c2 (by rw [tab_len]; omega) (by rw [tab_len]; omega)
    rw [step_back hj hc hq ho (by omega)] at s
    have l1 : (a2.take (a2.length - 1)).length = a2.length - 1 := by simp
    have l2 : (b2.take (a2.length - 1)).length = a2.length - 1 := by simp; omega
    simp only [l1, l2] at s
    have k := run_implCutJacobi p2 a2 b2 (a2.length - 1) hj (by omega) (by omega)
    rw [l1, l2, show ((a2.length - 1 : Nat) : Int) = (a2.length : Int) - 1 by omega] at k
    have j := run_jacobi9 p2 (a2.take (a2.length - 1)) (b2.take (a2.length - 1)) (by omega) (by omega)
    rw [l1, l2] at j
    exact ⟨by omega, s, k, j⟩
  obtain ⟨p3, a3, b3, c3, n3, hab3, d3⟩ := run_DrawStepsOfJacobi code hb hl'
  have v1 := run_implSteps p3 c3 n3 a3 b3 (by omega) (by omega)
  have v2 := run_specSteps p3 c3 n3 a3 b3 (by omega) (by omega)
  rw [stepsR_eq] at v1 v2
  have v0 := stepsL_len p3 c3 n3 a3 b3
  generalize stepsL p3 c3 n3 a3 b3 = r3 at v1 v2 v0
  obtain ⟨L3, rc3⟩ := r3
  simp only at v1 v2 v0
  have lT := trU_len L3
  have tT : List.take (L3.length * 3) (trU L3) = trU L3 := List.take_of_length_le (by omega)
  have vT : ∀ i, i < L3.length → List.mapM (viewN 6) (List.take 3 (List.drop (i * 3) (trU L3))) = some [.int .i64 (at3 L3 i).1, .list (at3 L3 i).2.1.length ((at3 L3 i).2.1.map (V.int .i64)), .list (at3 L3 i).2.2.length ((at3 L3 i).2.2.map (V.int .i64))] := fun i hi => trU_view L3 i 5 hi
  have oT : ∀ d, (trU L3).flatMap (idsF d) = [] := fun d => ordIds_trU L3
  have rT : ∀ ord H, (trU L3).map (renC ord H) = trU L3 := fun _ _ => ordRen_trU L3
  generalize trU L3 = TL at *
  have cdk : codeOk Try.f4.ntmps (Try.f4.body.getD .skip) = true := by kernel_rfl
  refine run_of_WLr (fn := Try.f4) rfl Try.func4 rfl ⟨by simp [Try.ntmps4], by simp [wideA, ints], cdk, by simp [Try.f4]⟩ rfl (by simp [rebOk, noId, adoptT, adoptA, adoptL, adoptC, depth]) ?_
  generalize stepJ p a b c = sj at *
  obtain ⟨sp, sa, sb, sc⟩ := sj
  generalize backJ p2 a2 b2 c2 q2 = bj at *
  obtain ⟨bp, ba, bb, bc⟩ := bj
  simp only at *
  simp [go_sem, -map_replicate, -map_set, -map_append, -map_reverse, -map_take, -map_drop, -map_tail, -any_map, -all_map, -mapM_map, -map_map, slL, szI, ldI, zI, undL, apL, setI, rdI_get, Nat.add_one_le_iff, fillV, zeros1, zeros0, appendD, segV, lvO, goneOf, sliceD, bound, Nat.add_assoc, szL, ldL, setCs0, setCs1, setCs2, setCsA2, setCsA3, ldM, fM0, fM1, szM, zM, plM0, plM1, agM, paM, ldJ, fJ0, fJ1, fJ2, szJ, zJ, plJ0, plJ1, plJ2, agJ, paJ, slT3, und3, g0, hl, d1, t1, t2, t3, d2, u1, u2, u3, d3, v1, v2, lT]
  repeat refine ⟨by kernel_rfl, by kernel_rfl, ?_⟩
  rw [WL_loop]
  refine WL_for (keep := [3, 4, 5, 6, 9, 10, 12, 13, 19, 21, 23]) (rs := resM Try.f4) rfl (by kernel_rfl) (fun i => mkSt [(3, .ptr 0 0 0), (4, .int .i64 c), (5, .ptr 1 0 0), (6, .int .i64 sc), (9, .ptr 2 0 0), (10, .int .i64 c2), (12, .ptr 3 0 0), (13, .int .i64 bc), (19, .sl 4 0 0 L3.length), (21, .sl 5 0 0 L3.length), (23, .int .i64 (i : Int))] [some (⟨0, 1, 1, [.int .i64 p, (V.list (List.length (a)) (List.map (V.int .i64) (a))), (V.list (List.length (b)) (List.map (V.int .i64) (b)))]⟩), some (⟨0, 1, 1, [.int .i64 sp, .sl 6 0 0 sa.length, .sl 7 0 0 sb.length]⟩), some (⟨0, 1, 1, [.int .i64 p2, (V.list (List.length (a2)) (List.map (V.int .i64) (a2))), (V.list (List.length (b2)) (List.map (V.int .i64) (b2)))]⟩), some (⟨0, 1, 1, [.int .i64 bp, .sl 8 0 0 ba.length, .sl 9 0 0 bb.length]⟩), some (⟨0, 2, 3, TL⟩), some (⟨0, 2, 3, TL⟩), some (⟨0, 2, 1, sa.map (V.int .i64)⟩), some (⟨0, 2, 1, sb.map (V.int .i64)⟩), some (⟨0, 2, 1, ba.map (V.int .i64)⟩), some (⟨0, 2, 1, bb.map (V.int .i64)⟩)] (resM Try.f4)) L3.length ?_ ?_ 0 _ (by omega) rfl ?_
  · intro i hi next
    have ii : (i : Int) < L3.length := by omega
    obtain ⟨b1, b2'⟩ := at3_bound v0.2 i
    have j9 := run_jacobi9 (at3 L3 i).1 (at3 L3 i).2.1 (at3 L3 i).2.2 (by omega) (by omega)
    have vi := vT i hi
    have w5 : IntKind.i64.wrap ((i : Int) + 1) = (i : Int) + 1 := IntWalk.i64_in _ (by omega)
    have f0 : i * 3 < 3 * L3.length := by omega
    have f1 : i * 3 + 3 ≤ 3 * L3.length := by omega
    as_aux_lemma =>
      simp [go_sem, -map_replicate, -map_set, -map_append, -map_reverse, -map_take, -map_drop, -map_tail, -any_map, -all_map, -mapM_map, -map_map, slL, szI, ldI, zI, undL, apL, setI, rdI_get, Nat.add_one_le_iff, fillV, zeros1, zeros0, appendD, segV, lvO, goneOf, sliceD, bound, Nat.add_assoc, szL, ldL, setCs0, setCs1, setCs2, setCsA2, setCsA3, ldM, fM0, fM1, szM, zM, plM0, plM1, agM, paM, ldJ, fJ0, fJ1, fJ2, szJ, zJ, plJ0, plJ1, plJ2, agJ, paJ, slT3, und3, hi, ii, j9, vi, w5, f0, f1, lT]
      repeat refine ⟨by kernel_rfl, by kernel_rfl, ?_⟩
      refine next _ rfl ?_
      (refine canon_mk ?_; simp [method_specs_simp, ordIds_app, ordRen_app, ordIds_app2, ordRen_app2, -map_replicate, -map_set, -map_append, -map_reverse, -map_take, -map_drop, -map_tail, -map_map, oT, rT])
  · have w1 : IntKind.i64.wrap (a.length : Int) = a.length := IntWalk.i64_in _ (by omega)
    have w2 : IntKind.i64.wrap (2 * (a.length : Int)) = 2 * (a.length : Int) := IntWalk.i64_in _ (by omega)
    have w3 : IntKind.i64.wrap (2 * (a.length : Int) - 2) = 2 * (a.length : Int) - 2 := IntWalk.i64_in _ (by omega)
    have w4 : IntKind.i64.wrap (a2.length : Int) = a2.length := IntWalk.i64_in _ (by omega)
    have w6 : IntKind.i64.wrap ((a2.length : Int) - 1) = a2.length - 1 := IntWalk.i64_in _ (by omega)
    by_cases A : bc = 0 ∧ 1 < a2.length
    · obtain ⟨z0, z1, z2, z3⟩ := u4 A.1 A.2
      have A2 : (1 : Int) < a2.length := by omega
      obtain ⟨A0, A1⟩ := A
      subst A0
      have la1 : (a2.take (a2.length - 1)).length = a2.length - 1 := by simp
      have lb1 : (b2.take (a2.length - 1)).length = a2.length - 1 := by rw [List.length_take]; exact Nat.min_eq_left (by omega)
      generalize a2.take (a2.length - 1) = a2' at *
      generalize b2.take (a2.length - 1) = b2' at *
      clear u4
      by_cases B : sc = 0
      · obtain ⟨y0, y1, M, W, ⟨y2, y3⟩, m1, m2, m3, m4⟩ := t4 B
        clear t4 t5
        subst B
        have lW2 : (W.take (2 * a.length - 2)).length = 2 * a.length - 2 := by rw [List.length_take, Nat.min_eq_left (by rw [y3]; exact Nat.sub_le_sub_left (by decide) _)]
        have m5 := run_moments9 p (W.take (2 * a.length - 2)) (by rw [lW2]; omega)
        rw [lW2] at m5
        generalize W.take (2 * a.length - 2) = W2 at *
        as_aux_lemma =>
          simp [go_sem, -map_replicate, -map_set, -map_append, -map_reverse, -map_take, -map_drop, -map_tail, -any_map, -all_map, -mapM_map, -map_map, slL, szI, ldI, zI, undL, apL, setI, rdI_get, Nat.add_one_le_iff, fillV, zeros1, zeros0, appendD, segV, lvO, goneOf, sliceD, bound, Nat.add_assoc, szL, ldL, setCs0, setCs1, setCs2, setCsA2, setCsA3, ldM, fM0, fM1, szM, zM, plM0, plM1, agM, paM, ldJ, fJ0, fJ1, fJ2, szJ, zJ, plJ0, plJ1, plJ2, agJ, paJ, A1, A2, z1, z2, z3, la1, lb1, w1, w2, w3, w4, w6, m1, m2, m3, m4, m5, y2, y3, lW2]
          repeat refine ⟨by kernel_rfl, by kernel_rfl, ?_⟩
          simp [mvcgen_simp, -map_replicate, -map_set, -map_append, -map_reverse, -map_take, -map_drop, -map_tail, -any_map, -all_map, -mapM_map, -map_map, Try.f4, szL, ldL, setCs0, setCs1, setCs2, setCsA2, setCsA3, ldM, fM0, fM1, szM, zM, plM0, plM1, agM, paM, ldJ, fJ0, fJ1, fJ2, szJ, zJ, plJ0, plJ1, plJ2, agJ, paJ, loadD, viewN]
      · have t6 := t5 B
        subst t6
        as_aux_lemma =>
          simp [go_sem, -map_replicate, -map_set, -map_append, -map_reverse, -map_take, -map_drop, -map_tail, -any_map, -all_map, -mapM_map, -map_map, slL, szI, ldI, zI, undL, apL, setI, rdI_get, Nat.add_one_le_iff, fillV, zeros1, zeros0, appendD, segV, lvO, goneOf, sliceD, bound, Nat.add_assoc, szL, ldL, setCs0, setCs1, setCs2, setCsA2, setCsA3, ldM, fM0, fM1, szM, zM, plM0, plM1, agM, paM, ldJ, fJ0, fJ1, fJ2, szJ, zJ, plJ0, plJ1, plJ2, agJ, paJ, A1, A2, z1, z2, z3, la1, lb1, w1, w2, w3, w4, w6, B]
          repeat refine ⟨by kernel_rfl, by kernel_rfl, ?_⟩
          simp [mvcgen_simp, -map_replicate, -map_set, -map_append, -map_reverse, -map_take, -map_drop, -map_tail, -any_map, -all_map, -mapM_map, -map_map, Try.f4, szL, ldL, setCs0, setCs1, setCs2, setCsA2, setCsA3, ldM, fM0, fM1, szM, zM, plM0, plM1, agM, paM, ldJ, fJ0, fJ1, fJ2, szJ, zJ, plJ0, plJ1, plJ2, agJ, paJ, loadD, viewN]
    · have A' : bc = 0 → ¬ 1 < a2.length := fun h h2 => A ⟨h, h2⟩
      by_cases A0 : bc = 0
      · have A2 : bc = 0 → ¬ (1 : Int) < a2.length := fun h h2 => A' h (by omega)
        simp only [A0, forall_const, not_false_eq_true, false_implies, implies_true] at A2
        by_cases B : sc = 0
        · obtain ⟨y0, y1, M, W, ⟨y2, y3⟩, m1, m2, m3, m4⟩ := t4 B
          subst B
          have lW2 : (W.take (2 * a.length - 2)).length = 2 * a.length - 2 := by rw [List.length_take, Nat.min_eq_left (by rw [y3]; exact Nat.sub_le_sub_left (by decide) _)]
          have m5 := run_moments9 p (W.take (2 * a.length - 2)) (by rw [lW2]; omega)
          rw [lW2] at m5
          generalize W.take (2 * a.length - 2) = W2 at *
          as_aux_lemma =>
            simp [go_sem, -map_replicate, -map_set, -map_append, -map_reverse, -map_take, -map_drop, -map_tail, -any_map, -all_map, -mapM_map, -map_map, slL, szI, ldI, zI, undL, apL, setI, rdI_get, Nat.add_one_le_iff, fillV, zeros1, zeros0, appendD, segV, lvO, goneOf, sliceD, bound, Nat.add_assoc, szL, ldL, setCs0, setCs1, setCs2, setCsA2, setCsA3, ldM, fM0, fM1, szM, zM, plM0, plM1, agM, paM, ldJ, fJ0, fJ1, fJ2, szJ, zJ, plJ0, plJ1, plJ2, agJ, paJ, A0, A2, w1, w2, w3, w4, w6, m1, m2, m3, m4, m5, y2, y3, lW2]
            repeat refine ⟨by kernel_rfl, by kernel_rfl, ?_⟩
            simp [mvcgen_simp, -map_replicate, -map_set, -map_append, -map_reverse, -map_take, -map_drop, -map_tail, -any_map, -all_map, -mapM_map, -map_map, Try.f4, szL, ldL, setCs0, setCs1, setCs2, setCsA2, setCsA3, ldM, fM0, fM1, szM, zM, plM0, plM1, agM, paM, ldJ, fJ0, fJ1, fJ2, szJ, zJ, plJ0, plJ1, plJ2, agJ, paJ, loadD, viewN]
        · have t6 := t5 B
          subst t6
          as_aux_lemma =>
            simp [go_sem, -map_replicate, -map_set, -map_append, -map_reverse, -map_take, -map_drop, -map_tail, -any_map, -all_map, -mapM_map, -map_map, slL, szI, ldI, zI, undL, apL, setI, rdI_get, Nat.add_one_le_iff, fillV, zeros1, zeros0, appendD, segV, lvO, goneOf, sliceD, bound, Nat.add_assoc, szL, ldL, setCs0, setCs1, setCs2, setCsA2, setCsA3, ldM, fM0, fM1, szM, zM, plM0, plM1, agM, paM, ldJ, fJ0, fJ1, fJ2, szJ, zJ, plJ0, plJ1, plJ2, agJ, paJ, A0, A2, w1, w2, w3, w4, w6, B]
            repeat refine ⟨by kernel_rfl, by kernel_rfl, ?_⟩
            simp [mvcgen_simp, -map_replicate, -map_set, -map_append, -map_reverse, -map_take, -map_drop, -map_tail, -any_map, -all_map, -mapM_map, -map_map, Try.f4, szL, ldL, setCs0, setCs1, setCs2, setCsA2, setCsA3, ldM, fM0, fM1, szM, zM, plM0, plM1, agM, paM, ldJ, fJ0, fJ1, fJ2, szJ, zJ, plJ0, plJ1, plJ2, agJ, paJ, loadD, viewN]
      · have A2 : bc = 0 → ¬ (1 : Int) < a2.length := fun h h2 => A' h (by omega)
        simp only [A0, forall_const, not_false_eq_true, false_implies, implies_true] at A2
        by_cases B : sc = 0
        · obtain ⟨y0, y1, M, W, ⟨y2, y3⟩, m1, m2, m3, m4⟩ := t4 B
          subst B
          have lW2 : (W.take (2 * a.length - 2)).length = 2 * a.length - 2 := by rw [List.length_take, Nat.min_eq_left (by rw [y3]; exact Nat.sub_le_sub_left (by decide) _)]
          have m5 := run_moments9 p (W.take (2 * a.length - 2)) (by rw [lW2]; omega)
          rw [lW2] at m5
          generalize W.take (2 * a.length - 2) = W2 at *
          as_aux_lemma =>
            simp [go_sem, -map_replicate, -map_set, -map_append, -map_reverse, -map_take, -map_drop, -map_tail, -any_map, -all_map, -mapM_map, -map_map, slL, szI, ldI, zI, undL, apL, setI, rdI_get, Nat.add_one_le_iff, fillV, zeros1, zeros0, appendD, segV, lvO, goneOf, sliceD, bound, Nat.add_assoc, szL, ldL, setCs0, setCs1, setCs2, setCsA2, setCsA3, ldM, fM0, fM1, szM, zM, plM0, plM1, agM, paM, ldJ, fJ0, fJ1, fJ2, szJ, zJ, plJ0, plJ1, plJ2, agJ, paJ, A0, A2, w1, w2, w3, w4, w6, m1, m2, m3, m4, m5, y2, y3, lW2]
            repeat refine ⟨by kernel_rfl, by kernel_rfl, ?_⟩
            simp [mvcgen_simp, -map_replicate, -map_set, -map_append, -map_reverse, -map_take, -map_drop, -map_tail, -any_map, -all_map, -mapM_map, -map_map, Try.f4, szL, ldL, setCs0, setCs1, setCs2, setCsA2, setCsA3, ldM, fM0, fM1, szM, zM, plM0, plM1, agM, paM, ldJ, fJ0, fJ1, fJ2, szJ, zJ, plJ0, plJ1, plJ2, agJ, paJ, loadD, viewN]
        · have t6 := t5 B
          subst t6
          as_aux_lemma =>
            simp [go_sem, -map_replicate, -map_set, -map_append, -map_reverse, -map_take, -map_drop, -map_tail, -any_map, -all_map, -mapM_map, -map_map, slL, szI, ldI, zI, undL, apL, setI, rdI_get, Nat.add_one_le_iff, fillV, zeros1, zeros0, appendD, segV, lvO, goneOf, sliceD, bound, Nat.add_assoc, szL, ldL, setCs0, setCs1, setCs2, setCsA2, setCsA3, ldM, fM0, fM1, szM, zM, plM0, plM1, agM, paM, ldJ, fJ0, fJ1, fJ2, szJ, zJ, plJ0, plJ1, plJ2, agJ, paJ, A0, A2, w1, w2, w3, w4, w6, B]
            repeat refine ⟨by kernel_rfl, by kernel_rfl, ?_⟩
            simp [mvcgen_simp, -map_replicate, -map_set, -map_append, -map_reverse, -map_take, -map_drop, -map_tail, -any_map, -all_map, -mapM_map, -map_map, Try.f4, szL, ldL, setCs0, setCs1, setCs2, setCsA2, setCsA3, ldM, fM0, fM1, szM, zM, plM0, plM1, agM, paM, ldJ, fJ0, fJ1, fJ2, szJ, zJ, plJ0, plJ1, plJ2, agJ, paJ, loadD, viewN]
  · (refine canon_mk ?_; simp [method_specs_simp, ordIds_app, ordRen_app, ordIds_app2, ordRen_app2, -map_replicate, -map_set, -map_append, -map_reverse, -map_take, -map_drop, -map_tail, -map_map, oT, rT])
end Go.Proofs.Ytabnganndcmcnaa.Ev
