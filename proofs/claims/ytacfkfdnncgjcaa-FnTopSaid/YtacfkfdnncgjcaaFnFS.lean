/- FnTop: Jacobi data, their moments, and the data of these; orthogonal polynomials and norms; steps. Conditions: none. -/
import Derived.Test.YtacfkfdnncgjcaaFnFP
import Derived.Test.YtacfkfdnncgjcaaFnFG
import Derived.Test.YtacfkfdnncgjcaaFnEE
import Derived.Test.YtacfkfdnncgjcaaFnDH
set_option linter.unusedSimpArgs false
set_option linter.unusedVariables false
namespace Go.Proofs.Ytacfkfdnncgjcaa.Ev
open Go Go.Proofs
open List (map_replicate map_set map_append map_reverse map_take map_drop map_tail any_map all_map mapM_map map_map)
set_option maxRecDepth 40000
set_option maxHeartbeats 8000000

theorem zeros3 : zerosV 3 [V.int .i64 0] = [.int .i64 0, .int .i64 0, .int .i64 0] := rfl
theorem stepJ_ok' {p c : Int} {a b : List Int} (hj : jacB p a b = true) (hc : hasB p c = true) (ho : stOk p c a b = true) : stepJ p a b c = (p, tab (a.length - 1) (stA p c a b), tab (a.length - 1) (stB p c a b), 0) := by
  unfold stepJ; rw [hj, hc, ho]; rfl
theorem stepJ_bad' {p c : Int} {a b : List Int} (hj : jacB p a b = true) (hc : hasB p c = true) (ho : stOk p c a b = false) : stepJ p a b c = (0, [], [], 5) := by
  unfold stepJ; rw [hj, hc, ho]; rfl
theorem tab_momB' {p : Int} {n : Nat} {f : Nat → Int} (h : primeB p = true) (hn : 1 ≤ n ∧ n ≤ 24) (hf : ∀ t, 0 ≤ f t ∧ f t < p) : momB p (tab n f) = true := by
  unfold momB
  have k1 : upTo (tab n f) 24 = true := by simp [upTo, tab_len]; omega
  have k2 : (tab n f).all (hasB p) = true := by
    rw [List.all_eq_true]; intro x hx
    obtain ⟨k, hk', rfl⟩ := List.getElem_of_mem hx
    rw [rdI_get hk', tab_rd (by simpa [tab_len] using hk')]
    have := hf k
    show (decide (0 ≤ f k) && decide (f k < p)) = true
    simp only [Bool.and_eq_true, decide_eq_true_eq]; exact this
  rw [h, k1, k2]; rfl
theorem momJ_ok {p : Int} {a b : List Int} (hj : jacB p a b = true) {n : Nat} (h1 : 1 ≤ n) (h2 : n ≤ 2 * a.length) : momJ p a b (n : Int) = (p, tab n (mo p a b), 0) := by
  unfold momJ
  rw [hj, if_pos rfl, show (decide (1 ≤ (n : Int)) && decide ((n : Int) ≤ 2 * (a.length : Int))) = true by simp; omega, if_pos rfl, Int.toNat_natCast]
theorem run_lawTop (code : List Int) (h_code : code.length ≤ 9223372036854775807) (hb : ∀ z, z ∈ code → 0 ≤ z ∧ z ≤ 255) :
    runv E1 3 [.list code.length (code.map (V.int .u8))] = some ⟨true, .bool true, [.undef]⟩ := by
  have g0 := run_big code
  by_cases hl : 4096 < (code.length : Int)
  · have cdk : codeOk Try.f3.ntmps (Try.f3.body.getD .skip) = true := by kernel_rfl
    refine run_of_WLr (fn := Try.f3) rfl Try.func3 rfl ⟨by simp [Try.ntmps3], by simp [wideA, ints], cdk, by simp [Try.f3]⟩ rfl (by simp [rebOk, noId, adoptT, adoptA, adoptL, adoptC, depth]) ?_
    simp [go_sem, -map_replicate, -map_set, -map_append, -map_reverse, -map_take, -map_drop, -map_tail, -any_map, -all_map, -mapM_map, -map_map, slL, szI, ldI, zI, undL, apL, setI, rdI_get, Nat.add_one_le_iff, fillV, zeros1, zeros0, appendD, segV, lvO, goneOf, sliceD, bound, Nat.add_assoc, g0, hl]
    simp [mvcgen_simp, -map_replicate, -map_set, -map_append, -map_reverse, -map_take, -map_drop, -map_tail, -any_map, -all_map, -mapM_map, -map_map, Try.f3]
  have hl' : code.length ≤ 4096 := by omega
  obtain ⟨s0, r0⟩ := run_roll code 9901 hb hl'
  obtain ⟨s1, x1, _, hx1, r1⟩ := run_below s0 3
  obtain ⟨s2, x2, _, hx2, r2⟩ := run_below s1 3
  have hx1 := hx1 (by omega)
  have hx2 := hx2 (by omega)
  obtain ⟨p, hpp, hpx⟩ : ∃ p : Int, (p = 7 ∨ p = 11 ∨ p = 101) ∧ [V.int .i64 7, V.int .i64 11, V.int .i64 101][x1.toNat]? = some (V.int .i64 p) := by
    have : x1 = 0 ∨ x1 = 1 ∨ x1 = 2 := by omega
    rcases this with rfl | rfl | rfl
    · exact ⟨7, .inl rfl, rfl⟩
    · exact ⟨11, .inr (.inl rfl), rfl⟩
    · exact ⟨101, .inr (.inr rfl), rfl⟩
  obtain ⟨n, hn, hnx⟩ : ∃ n : Nat, (2 ≤ n ∧ n ≤ 4) ∧ 2 + x2 = (n : Int) := ⟨2 + x2.toNat, by omega, by omega⟩
  have hpr : primeB p = true := by rcases hpp with rfl | rfl | rfl <;> rfl
  have hp := prime_range hpr
  have hx1a : ¬ x1 < 0 := by omega
  have w0 : IntKind.i64.wrap (n : Int) = n := IntWalk.i64_in _ (by omega)
  have hgx : ∀ h : x1.toNat < 3, ([V.int .i64 7, V.int .i64 11, V.int .i64 101] : List V)[x1.toNat] = V.int .i64 p := fun h => by
    have := hpx; rw [List.getElem?_eq_getElem (by simpa using h)] at this; exact Option.some.inj this
  have hxt : x1.toNat < 3 := by omega
  have cdk : codeOk Try.f3.ntmps (Try.f3.body.getD .skip) = true := by kernel_rfl
  refine run_of_WLr (fn := Try.f3) rfl Try.func3 rfl ⟨by simp [Try.ntmps3], by simp [wideA, ints], cdk, by simp [Try.f3]⟩ rfl (by simp [rebOk, noId, adoptT, adoptA, adoptL, adoptC, depth]) ?_
  simp [go_sem, -map_replicate, -map_set, -map_append, -map_reverse, -map_take, -map_drop, -map_tail, -any_map, -all_map, -mapM_map, -map_map, slL, szI, ldI, zI, undL, apL, setI, rdI_get, Nat.add_one_le_iff, fillV, zeros1, zeros0, appendD, segV, lvO, goneOf, sliceD, bound, Nat.add_assoc, szL, ldL, setCs0, setCs1, setCs2, setCsA2, setCsA3, ldM, fM0, fM1, szM, zM, plM0, plM1, agM, paM, ldJ, fJ0, fJ1, fJ2, szJ, zJ, plJ0, plJ1, plJ2, agJ, paJ, g0, hl, r0, r1, r2, hx1.1, hx1.2, hx1a, hpx, hgx, hxt, hnx, w0, zeros3, zeros1, fillV]
  repeat refine ⟨by kernel_rfl, by kernel_rfl, ?_⟩
  clear r0 r1 hpx hgx
  rw [WL_loop]
  refine WL_forX (keep := [3, 4, 5, 6, 7]) (rs := resM Try.f3) rfl (by kernel_rfl) (α := Src × List Int × List Int) (fun x => if x.2.1 = [] then mkSt [(3, .ptr 0 0 0), (4, .int .i64 p), (5, .int .i64 n), (6, .ptr 1 0 0), (7, .int .i64 0)] [some (⟨0, 1, 1, [V.list (x.1).code.length ((x.1).code.map (V.int .u8)), V.int .i64 (x.1).i, V.int .u64 (x.1).h]⟩), some (⟨0, 1, 1, [.int .i64 p, .nils, .nils]⟩)] (resM Try.f3) else mkSt [(3, .ptr 0 0 0), (4, .int .i64 p), (5, .int .i64 n), (6, .ptr 1 0 0), (7, .int .i64 (x.2.1.length : Int))] [some (⟨0, 1, 1, [V.list (x.1).code.length ((x.1).code.map (V.int .u8)), V.int .i64 (x.1).i, V.int .u64 (x.1).h]⟩), some (⟨0, 1, 1, [.int .i64 p, .sl 2 0 0 x.2.1.length, .sl 3 0 0 x.2.2.length]⟩), some (⟨0, 2, 1, x.2.1.map (V.int .i64)⟩), some (⟨0, 2, 1, x.2.2.map (V.int .i64)⟩)] (resM Try.f3)) (fun x => x.2.1.length ≤ n ∧ x.2.2.length = x.2.1.length ∧ x.2.1.all (hasB p) = true ∧ x.2.2.all (unitB p) = true) (fun x => n - x.2.1.length) ?_ (s2, [], []) _ ?_ rfl ?_
  · rintro ⟨s, a, b⟩ ⟨q1, q2, q3, q4⟩ next
    simp only at q1 q2 q3 q4 next ⊢
    by_cases k0 : a.length < n
    · obtain ⟨s3, x, _, rx, r3⟩ := run_below s p
      obtain ⟨s4, y, _, ry, r4⟩ := run_below s3 (p - 1)
      have rx := rx (by omega)
      have ry := ry (by omega)
      have wp : IntKind.i64.wrap (p - 1) = p - 1 := IntWalk.i64_in _ (by omega)
      have wy : IntKind.i64.wrap (1 + y) = 1 + y := IntWalk.i64_in _ (by omega)
      have c3 : (a.length + 1) * 8 ≤ 140737488355328 := by omega
      have fin : ∀ st' : St, st'.rs = resM Try.f3 → canon [3, 4, 5, 6, 7] st' = mkSt [(3, .ptr 0 0 0), (4, .int .i64 p), (5, .int .i64 n), (6, .ptr 1 0 0), (7, .int .i64 ((a.length : Int) + 1))] [some (⟨0, 1, 1, [V.list (s4).code.length ((s4).code.map (V.int .u8)), V.int .i64 (s4).i, V.int .u64 (s4).h]⟩), some (⟨0, 1, 1, [.int .i64 p, .sl 2 0 0 (a.length + 1), .sl 3 0 0 (a.length + 1)]⟩), some (⟨0, 2, 1, (a ++ [x]).map (V.int .i64)⟩), some (⟨0, 2, 1, (b ++ [1 + y]).map (V.int .i64)⟩)] (resM Try.f3) → _ := fun st' h1 h2 => next (s4, a ++ [x], b ++ [1 + y]) st' ⟨by simp only [List.length_append, List.length_singleton]; omega, by simp only [List.length_append, List.length_singleton]; omega, by rw [List.all_append, q3]; simp [hasB]; omega, by rw [List.all_append, q4]; simp [unitB]; omega⟩ (by simp only [List.length_append, List.length_singleton]; omega) h1 (by
        rw [h2]; simp only; rw [if_neg (by simp)]; simp [q2])
      clear next
      have kn : (a.length : Int) < (n : Int) := by omega
      have kn0 : (0 : Int) < (n : Int) := by omega
      have wk : IntKind.i64.wrap ((a.length : Int) + 1) = (a.length : Int) + 1 := IntWalk.i64_in _ (by omega)
      rcases a with _ | ⟨a0, a⟩
      · have hb0 : b = [] := List.length_eq_zero_iff.1 q2
        subst hb0
        simp only [if_true]
        have kn00 : 0 < n := by omega
        simp [go_sem, -map_replicate, -map_set, -map_append, -map_reverse, -map_take, -map_drop, -map_tail, -any_map, -all_map, -mapM_map, -map_map, slL, szI, ldI, zI, undL, apL, setI, rdI_get, Nat.add_one_le_iff, fillV, zeros1, zeros0, appendD, segV, lvO, goneOf, sliceD, bound, Nat.add_assoc, szL, ldL, setCs0, setCs1, setCs2, setCsA2, setCsA3, ldM, fM0, fM1, szM, zM, plM0, plM1, agM, paM, ldJ, fJ0, fJ1, fJ2, szJ, zJ, plJ0, plJ1, plJ2, agJ, paJ, hn, kn0, kn00, k0, r3, r4, wp, wy, wz1, zeros1, fillV]
        repeat refine ⟨by kernel_rfl, by kernel_rfl, ?_⟩
        refine fin _ rfl ?_
        (refine canon_mk ?_; simp [method_specs_simp, ordIds_app, ordRen_app, ordIds_app2, ordRen_app2, -map_replicate, -map_set, -map_append, -map_reverse, -map_take, -map_drop, -map_tail, -map_map, wz1])
      · rw [if_neg (by simp)]
        generalize hA : a0 :: a = A at *
        simp [go_sem, -map_replicate, -map_set, -map_append, -map_reverse, -map_take, -map_drop, -map_tail, -any_map, -all_map, -mapM_map, -map_map, slL, szI, ldI, zI, undL, apL, setI, rdI_get, Nat.add_one_le_iff, fillV, zeros1, zeros0, appendD, segV, lvO, goneOf, sliceD, bound, Nat.add_assoc, szL, ldL, setCs0, setCs1, setCs2, setCsA2, setCsA3, ldM, fM0, fM1, szM, zM, plM0, plM1, agM, paM, ldJ, fJ0, fJ1, fJ2, szJ, zJ, plJ0, plJ1, plJ2, agJ, paJ, kn, kn0, k0, q2, r3, r4, wp, wy, wk, c3, wz1, zeros1, fillV]
        repeat refine ⟨by kernel_rfl, by kernel_rfl, ?_⟩
        refine fin _ rfl ?_
        (refine canon_mk ?_; simp [method_specs_simp, ordIds_app, ordRen_app, ordIds_app2, ordRen_app2, -map_replicate, -map_set, -map_append, -map_reverse, -map_take, -map_drop, -map_tail, -map_map, wk])
    · have hna : a.length = n := by omega
      clear next
      rw [if_neg (by rintro rfl; simp at hna; omega)]
      have hj : jacB p a b = true := by
        unfold jacB
        rw [hpr, q3, q4, decide_eq_true q2]
        simp [upTo]; omega
      have hj2 := jacB_len hj
      subst hna
      clear k0 q1 q2 q3 q4 hnx hx1 hx2 r2
      have hn1 : 1 ≤ a.length := by omega
      obtain ⟨M, hM⟩ : ∃ M, tab (2 * a.length) (mo p a b) = M := ⟨_, rfl⟩
      have lM : M.length = 2 * a.length := by rw [← hM]; exact tab_len _ _
      have hm : momB p M = true := by rw [← hM]; exact tab_momB' hpr (by omega) (fun t => mod_small hp _)
      have hlM : ∀ t, t < 2 * a.length → rdI M t = mo p a b t := fun t ht => by rw [← hM]; exact tab_rd ht
      have e2 : ((2 * a.length : Nat) : Int) = 2 * (a.length : Int) := by omega
      have m1 := run_implMomentsOfJacobi p a b ((2 * a.length : Nat) : Int) (by omega) (by omega)
      have m2 := run_specMomentsOfJacobi p a b ((2 * a.length : Nat) : Int) (by omega) (by omega)
      rw [momJ_ok hj (by omega) (Nat.le_refl _), hM, e2] at m1 m2
      simp only [lM] at m1 m2
      have m3 := run_moments9 p M (by omega)
      have n1 := run_implJacobiOfMoments p a b M hj hm hlM (by omega)
      have n2 := run_specJacobiOfMoments p a b M hj hm hlM (by omega)
      have n3 := run_jacobi9 p a b (by omega) (by omega)
      rw [lM] at m3 n1 n2
      have n4 := up (run_implSquaredNorms p a b (by omega) (by omega))
      rw [if_pos hj, if_pos hj] at n4
      obtain ⟨T, hT⟩ : ∃ T, tab a.length (nrm p b) = T := ⟨_, rfl⟩
      have lT : T.length = a.length := by rw [← hT]; exact tab_len _ _
      have rT : ∀ k, k < a.length → rdI T k = nrm p b k := fun k hk => by rw [← hT]; exact tab_rd hk
      rw [hT] at n4
      simp only [lT] at n4
      have w2 : IntKind.i64.wrap (2 * (a.length : Int)) = 2 * (a.length : Int) := IntWalk.i64_in _ (by omega)
      have lb : b.length = a.length := hj2.2.2
      rw [lb] at n1 n2 n3
      rw [lb] at m1 m2 n4
      clear hM hT
      as_aux_lemma =>
        simp [go_sem, -map_replicate, -map_set, -map_append, -map_reverse, -map_take, -map_drop, -map_tail, -any_map, -all_map, -mapM_map, -map_map, slL, szI, ldI, zI, undL, apL, setI, rdI_get, Nat.add_one_le_iff, fillV, zeros1, zeros0, appendD, segV, lvO, goneOf, sliceD, bound, Nat.add_assoc, szL, ldL, setCs0, setCs1, setCs2, setCsA2, setCsA3, ldM, fM0, fM1, szM, zM, plM0, plM1, agM, paM, ldJ, fJ0, fJ1, fJ2, szJ, zJ, plJ0, plJ1, plJ2, agJ, paJ, lb, m1, m2, m3, n1, n2, n3, n4, lM, lT, w2, fillV]
        repeat refine ⟨by kernel_rfl, by kernel_rfl, ?_⟩
        clear m1 m2 m3 n1 n2 n4
        rw [WL_loop]
        refine WL_for (keep := [3, 4, 5, 6, 8, 16, 18]) (rs := resM Try.f3) rfl (by kernel_rfl) (fun x => match x with | 0 => mkSt [(3, .ptr 0 0 0), (4, .int .i64 p), (5, .int .i64 a.length), (6, .ptr 1 0 0), (8, .ptr 2 0 0), (16, .sl 3 0 0 a.length), (18, .int .i64 0)] [some (⟨0, 1, 1, [V.list (s).code.length ((s).code.map (V.int .u8)), V.int .i64 (s).i, V.int .u64 (s).h]⟩), some (⟨0, 1, 1, [.int .i64 p, .sl 4 0 0 a.length, .sl 5 0 0 a.length]⟩), some (⟨0, 1, 1, [.int .i64 p, .sl 6 0 0 (2 * a.length)]⟩), some (⟨0, 2, 1, T.map (V.int .i64)⟩), some (⟨0, 2, 1, a.map (V.int .i64)⟩), some (⟨0, 2, 1, b.map (V.int .i64)⟩), some (⟨0, 2, 1, M.map (V.int .i64)⟩)] (resM Try.f3) | k + 1 => mkSt [(3, .ptr 0 0 0), (4, .int .i64 p), (5, .int .i64 a.length), (6, .ptr 1 0 0), (8, .ptr 2 0 0), (16, .sl 3 0 0 a.length), (18, .int .i64 ((k : Int) + 1))] [some (⟨0, 1, 1, [V.list (s).code.length ((s).code.map (V.int .u8)), V.int .i64 (s).i, V.int .u64 (s).h]⟩), some (⟨0, 1, 1, [.int .i64 p, .sl 4 0 0 a.length, .sl 5 0 0 a.length]⟩), some (⟨0, 1, 1, [.int .i64 p, .sl 6 0 0 (2 * a.length)]⟩), some (⟨0, 2, 1, T.map (V.int .i64)⟩), some (⟨0, 0, 1, a.map (V.int .i64)⟩), some (⟨0, 0, 1, b.map (V.int .i64)⟩), some (⟨0, 0, 1, M.map (V.int .i64)⟩)] (resM Try.f3)) a.length ?_ ?_ 0 _ (by omega) rfl ?_
        · intro k hk next
          have lP := pl_length hp a b k
          have o1 := run_implOrthogonalPolynomial p a b M k hm (by omega) (fun _ => ⟨hj, hlM, by omega⟩) (ord_ge hj hlM (by omega) (by omega)) (by omega)
          have o2 := run_implPolyOf p a b k hj (by omega)
          have o3 := run_implNormOf p a b M k hm (by omega) (fun _ => ⟨hj, hlM, by omega⟩) (ord_ge hj hlM (by omega) (by omega)) (by omega)
          rw [dot_norm hj hlM hk] at o3
          have o4 := run_likeInts (pl p a b k).1 (by omega)
          have o5 := rT k hk
          rw [lP] at o1 o2 o4
          rw [lM] at o1 o3
          rw [lb] at o2
          have kt : k < T.length := by omega
          rcases k with _ | k
          · dsimp only at next ⊢
            simp only [Nat.zero_add, Int.cast_ofNat_Int] at o1 o2 o3 o4
            have k0 : 0 < a.length := by omega
            have k1 : (0 : Int) < a.length := by omega
            simp [go_sem, -map_replicate, -map_set, -map_append, -map_reverse, -map_take, -map_drop, -map_tail, -any_map, -all_map, -mapM_map, -map_map, slL, szI, ldI, zI, undL, apL, setI, rdI_get, Nat.add_one_le_iff, fillV, zeros1, zeros0, appendD, segV, lvO, goneOf, sliceD, bound, Nat.add_assoc, szL, ldL, setCs0, setCs1, setCs2, setCsA2, setCsA3, ldM, fM0, fM1, szM, zM, plM0, plM1, agM, paM, ldJ, fJ0, fJ1, fJ2, szJ, zJ, plJ0, plJ1, plJ2, agJ, paJ, lb, lT, lM, k0, k1, o1, o2, o3, o4, o5, wz1, fillV]
            repeat refine ⟨by kernel_rfl, by kernel_rfl, ?_⟩
            refine next _ rfl ?_
            (refine canon_mk ?_; simp [method_specs_simp, ordIds_app, ordRen_app, ordIds_app2, ordRen_app2, -map_replicate, -map_set, -map_append, -map_reverse, -map_take, -map_drop, -map_tail, -map_map, wz1])
          · dsimp only at next ⊢
            have k0 : k + 1 < a.length := by omega
            have k1 : (k : Int) + 1 < a.length := by omega
            have k2 : (0 : Int) ≤ (k : Int) + 1 := by omega
            have k3 : ((k : Int) + 1).toNat = k + 1 := by omega
            have w9 : IntKind.i64.wrap ((k : Int) + 1 + 1) = (k : Int) + 1 + 1 := IntWalk.i64_in _ (by omega)
            simp only [Int.natCast_add, Int.cast_ofNat_Int, Nat.add_assoc, Nat.reduceAdd] at o1 o2 o3 o4
            simp [go_sem, -map_replicate, -map_set, -map_append, -map_reverse, -map_take, -map_drop, -map_tail, -any_map, -all_map, -mapM_map, -map_map, slL, szI, ldI, zI, undL, apL, setI, rdI_get, Nat.add_one_le_iff, fillV, zeros1, zeros0, appendD, segV, lvO, goneOf, sliceD, bound, Nat.add_assoc, szL, ldL, setCs0, setCs1, setCs2, setCsA2, setCsA3, ldM, fM0, fM1, szM, zM, plM0, plM1, agM, paM, ldJ, fJ0, fJ1, fJ2, szJ, zJ, plJ0, plJ1, plJ2, agJ, paJ, lb, lT, lM, k0, k1, k2, k3, o1, o2, o3, o4, o5, w9, fillV]
            repeat refine ⟨by kernel_rfl, by kernel_rfl, ?_⟩
            refine next _ rfl ?_
            (refine canon_mk ?_; simp [method_specs_simp, ordIds_app, ordRen_app, ordIds_app2, ordRen_app2, -map_replicate, -map_set, -map_append, -map_reverse, -map_take, -map_drop, -map_tail, -map_map, w9])
        · obtain ⟨r, hr⟩ : ∃ r, a.length = r + 1 := ⟨a.length - 1, by omega⟩
          obtain ⟨s3, c, _, rc, r3⟩ := run_below s p
          have rc := rc (by omega)
          have hc : hasB p c = true := by simp [hasB]; omega
          have t1 := run_implStepOfJacobi p a b c (by omega) (by omega)
          rw [lb] at t1
          cases ho : stOk p c a b with
          | false =>
            rw [stepJ_bad' hj hc ho] at t1
            simp only [List.length_nil, List.map_nil] at t1
            rw [hr] at t1 lb lM ⊢
            dsimp only
            simp [go_sem, -map_replicate, -map_set, -map_append, -map_reverse, -map_take, -map_drop, -map_tail, -any_map, -all_map, -mapM_map, -map_map, slL, szI, ldI, zI, undL, apL, setI, rdI_get, Nat.add_one_le_iff, fillV, zeros1, zeros0, appendD, segV, lvO, goneOf, sliceD, bound, Nat.add_assoc, szL, ldL, setCs0, setCs1, setCs2, setCsA2, setCsA3, ldM, fM0, fM1, szM, zM, plM0, plM1, agM, paM, ldJ, fJ0, fJ1, fJ2, szJ, zJ, plJ0, plJ1, plJ2, agJ, paJ, hr, lb, lM, r3, t1, fillV]
            repeat refine ⟨by kernel_rfl, by kernel_rfl, ?_⟩
            simp [mvcgen_simp, -map_replicate, -map_set, -map_append, -map_reverse, -map_take, -map_drop, -map_tail, -any_map, -all_map, -mapM_map, -map_map, Try.f3, szL, ldL, setCs0, setCs1, setCs2, setCsA2, setCsA3, ldM, fM0, fM1, szM, zM, plM0, plM1, agM, paM, ldJ, fJ0, fJ1, fJ2, szJ, zJ, plJ0, plJ1, plJ2, agJ, paJ]
          | true =>
            rw [stepJ_ok' hj hc ho] at t1
            obtain ⟨SA, hSA⟩ : ∃ SA, tab (a.length - 1) (stA p c a b) = SA := ⟨_, rfl⟩
            obtain ⟨SB, hSB⟩ : ∃ SB, tab (a.length - 1) (stB p c a b) = SB := ⟨_, rfl⟩
            have lSA : SA.length = r := by rw [← hSA, tab_len]; omega
            have lSB : SB.length = r := by rw [← hSB, tab_len]; omega
            have hjS := step_jacB hj ho
            have sm' := fun t (ht : t < 2 * a.length - 2) => step_moments hj ho ht
            rw [hSA, hSB] at t1 hjS
            simp only [hSA, hSB] at sm'
            simp only [lSA, lSB] at t1
            obtain ⟨W, hW⟩ : ∃ W, mulL p M c = W := ⟨_, rfl⟩
            have lW : W.length = 2 * r + 1 := by rw [← hW]; unfold mulL; rw [tab_len]; omega
            have u1 := up (run_implMultiplyMoments p M c (by omega))
            have eM : mulM p M c = (p, W, 0) := by
              unfold mulM
              rw [hm, hc, if_pos rfl, if_pos rfl, if_neg (by omega), hW]
            rw [eM] at u1
            simp only [lW] at u1
            have hmW : momB p W = true := by
              rw [← hW]; unfold mulL
              exact tab_momB' hpr (by omega) (fun t => mod_small hp _)
            have hlW : ∀ t, t < 2 * SA.length → rdI W t = mo p SA SB t := fun t ht => by
              rw [sm' t (by omega), ← hW]; unfold mulL
              rw [tab_rd (by omega), hlM _ (by omega), hlM _ (by omega)]
            have u2 := run_implJacobiOfMoments p SA SB W hjS hmW hlW (by omega)
            have u3 := run_jacobi9 p SA SB (by omega) (by omega)
            rw [lSA, lSB] at u2 u3
            rw [lW] at u2
            rw [lM] at u1
            have w7 : IntKind.i64.wrap ((r : Int)) = (r : Int) := IntWalk.i64_in _ (by omega)
            have e3 : 2 * (r + 1) = 2 * r + 2 := by omega
            rw [hr] at t1 lb lM u1 ⊢
            dsimp only
            simp [go_sem, -map_replicate, -map_set, -map_append, -map_reverse, -map_take, -map_drop, -map_tail, -any_map, -all_map, -mapM_map, -map_map, slL, szI, ldI, zI, undL, apL, setI, rdI_get, Nat.add_one_le_iff, fillV, zeros1, zeros0, appendD, segV, lvO, goneOf, sliceD, bound, Nat.add_assoc, szL, ldL, setCs0, setCs1, setCs2, setCsA2, setCsA3, ldM, fM0, fM1, szM, zM, plM0, plM1, agM, paM, ldJ, fJ0, fJ1, fJ2, szJ, zJ, plJ0, plJ1, plJ2, agJ, paJ, hr, lb, lM, r3, t1, u1, u2, u3, w7, lW, lSA, lSB, fillV]
            repeat refine ⟨by kernel_rfl, by kernel_rfl, ?_⟩
            simp [mvcgen_simp, -map_replicate, -map_set, -map_append, -map_reverse, -map_take, -map_drop, -map_tail, -any_map, -all_map, -mapM_map, -map_map, Try.f3, szL, ldL, setCs0, setCs1, setCs2, setCsA2, setCsA3, ldM, fM0, fM1, szM, zM, plM0, plM1, agM, paM, ldJ, fJ0, fJ1, fJ2, szJ, zJ, plJ0, plJ1, plJ2, agJ, paJ]
        · (refine canon_mk ?_; simp [method_specs_simp, ordIds_app, ordRen_app, ordIds_app2, ordRen_app2, -map_replicate, -map_set, -map_append, -map_reverse, -map_take, -map_drop, -map_tail, -map_map])
  · simp
  · rw [if_pos rfl]
    (refine canon_mk ?_; simp [method_specs_simp, ordIds_app, ordRen_app, ordIds_app2, ordRen_app2, -map_replicate, -map_set, -map_append, -map_reverse, -map_take, -map_drop, -map_tail, -map_map])
end Go.Proofs.Ytacfkfdnncgjcaa.Ev
