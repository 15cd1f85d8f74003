/- Draws of lists, polynomials and numbers for the law of linear combinations. Conditions: none. -/
import Derived.Test.YtacfkfdnncgjcaaFnDG
set_option linter.unusedSimpArgs false
set_option linter.unusedVariables false
namespace Go.Proofs.Ytacfkfdnncgjcaa.Ev
open Go Go.Proofs
open List (map_replicate map_set map_append map_reverse map_take map_drop map_tail any_map all_map mapM_map map_map)
set_option maxRecDepth 4000
set_option maxHeartbeats 4000000

theorem run_l10Numbers (s : Src) (p : Int) (a b : List Int) (more : Int) (ha : a.length ≤ 13) (hm : 0 ≤ more ∧ more ≤ 100) : ∃ (s' : Src) (l : List Int), l.length ≤ 1000 ∧
    runv E1 114 [(V.uptr [V.list (s).code.length ((s).code.map (V.int .u8)), V.int .i64 (s).i, V.int .u64 (s).h]), (V.agg [V.int .i64 (p), (V.list (List.length (a)) (List.map (V.int .i64) (a))), (V.list (List.length (b)) (List.map (V.int .i64) (b)))]), (V.int .i64 (more))] = some ⟨true, (V.uniq 1 (List.length (l)) (List.map (V.int .i64) (l))), [(V.uptr [V.list (s').code.length ((s').code.map (V.int .u8)), V.int .i64 (s').i, V.int .u64 (s').h]), .agg [.undef, .undef, .undef], .undef]⟩ := by
  suffices h : ∃ r, runv E1 114 [(V.uptr [V.list (s).code.length ((s).code.map (V.int .u8)), V.int .i64 (s).i, V.int .u64 (s).h]), (V.agg [V.int .i64 (p), (V.list (List.length (a)) (List.map (V.int .i64) (a))), (V.list (List.length (b)) (List.map (V.int .i64) (b)))]), (V.int .i64 (more))] = some r ∧ ∃ (s' : Src) (l : List Int), l.length ≤ 1000 ∧ r = ⟨true, (V.uniq 1 (List.length (l)) (List.map (V.int .i64) (l))), [(V.uptr [V.list (s').code.length ((s').code.map (V.int .u8)), V.int .i64 (s').i, V.int .u64 (s').h]), .agg [.undef, .undef, .undef], .undef]⟩ by
    obtain ⟨r, h, s', t, ht, rfl⟩ := h
    exact ⟨s', t, ht, h⟩
  have hf := fine_range p
  have h0 := run_l01Fine p
  generalize (if primeB p then p else 7) = q at *
  have w1 : IntKind.i64.wrap (a.length : Int) = a.length := IntWalk.i64_in _ (by omega)
  have hmin : mmV mnI [V.int .i64 (a.length : Int), V.int .i64 12] = some (V.int .i64 (mnI (a.length : Int) 12)) := rfl
  have q1 : 0 ≤ mnI (a.length : Int) 12 ∧ mnI (a.length : Int) 12 ≤ 12 := by unfold mnI; split <;> omega
  generalize mnI (a.length : Int) 12 = mn at *
  have w2 : IntKind.i64.wrap (mn + 1) = mn + 1 := IntWalk.i64_in _ (by omega)
  have w3 : IntKind.i64.wrap (mn + 1 + more) = mn + 1 + more := IntWalk.i64_in _ (by omega)
  obtain ⟨s0, k0, _, hk0, h1⟩ := run_l01Next s (mn + 1 + more)
  have hk0 := hk0 (by omega)
  have cdk : codeOk Try.f114.ntmps (Try.f114.body.getD .skip) = true := by kernel_rfl
  refine run_of_WLpQ (fn := Try.f114) rfl Try.func114 rfl ⟨by simp [Try.ntmps114], by simp [wideA, ints], cdk, by simp [Try.f114]⟩ rfl (by simp [rebOk, noId, adoptT, adoptA, adoptL, adoptC, depth]) (by simp [pinned, adoptT, adoptA, adoptL, adoptC]) ?_
  simp [go_sem, -map_replicate, -map_set, -map_append, -map_reverse, -map_take, -map_drop, -map_tail, -any_map, -all_map, -mapM_map, -map_map, slL, szI, ldI, zI, undL, apL, setI, rdI_get, Nat.add_one_le_iff, fillV, zeros1, zeros0, appendD, segV, lvO, goneOf, sliceD, bound, Nat.add_assoc, szL, ldL, setCs0, setCs1, setCs2, setCsA2, setCsA3, ldM, fM0, fM1, szM, zM, plM0, plM1, agM, paM, ldJ, fJ0, fJ1, fJ2, szJ, zJ, plJ0, plJ1, plJ2, agJ, paJ, h0, h1, w1, w2, w3, hmin, zeros0, undI64, convD]
  repeat refine ⟨by kernel_rfl, by kernel_rfl, ?_⟩
  rw [WL_loop]
  refine WL_forX (keep := [0, 7, 8, 9]) (rs := resM Try.f114 ||| 1) rfl (by kernel_rfl) (α := Src × List Int × Int) (fun x => if x.2.1 = [] then mkSt [(0, .ptr 0 0 0), (7, .int .i64 q), (8, .nils), (9, .int .i64 x.2.2)] [some (⟨0, 1, 1, [V.list (x.1).code.length ((x.1).code.map (V.int .u8)), V.int .i64 (x.1).i, V.int .u64 (x.1).h]⟩)] (resM Try.f114 ||| 1) else mkSt [(0, .ptr 0 0 0), (7, .int .i64 q), (8, .sl 1 0 0 x.2.1.length), (9, .int .i64 x.2.2)] [some (⟨0, 1, 1, [V.list (x.1).code.length ((x.1).code.map (V.int .u8)), V.int .i64 (x.1).i, V.int .u64 (x.1).h]⟩), some (⟨0, 2, 1, x.2.1.map (V.int .i64)⟩)] (resM Try.f114 ||| 1)) (fun x => (x.2.1.length : Int) + x.2.2 ≤ 200 ∧ 0 ≤ x.2.2) (fun x => x.2.2.toNat) ?_ (s0, [], k0) _ ?_ rfl ?_
  · rintro ⟨s1, l, m⟩ ⟨q1, q2⟩ next
    simp only at q1 q2 next ⊢
    by_cases m0 : 0 < m
    · have w5 : IntKind.i64.wrap (m - 1) = m - 1 := IntWalk.i64_in _ (by omega)
      have c3 : (l.length + 1) * 8 ≤ 140737488355328 := by omega
      have fin : ∀ (s' : Src) (x : Int) (st' : St), st'.rs = resM Try.f114 ||| 1 → canon [0, 7, 8, 9] st' = mkSt [(0, .ptr 0 0 0), (7, .int .i64 q), (8, .sl 1 0 0 (l.length + 1)), (9, .int .i64 (m - 1))] [some (⟨0, 1, 1, [V.list (s').code.length ((s').code.map (V.int .u8)), V.int .i64 (s').i, V.int .u64 (s').h]⟩), some (⟨0, 2, 1, (l ++ [x]).map (V.int .i64)⟩)] (resM Try.f114 ||| 1) → _ := fun s' x st' a b => next (s', l ++ [x], m - 1) st' ⟨by simp only [List.length_append, List.length_singleton]; omega, by simp only; omega⟩ (by simp only; omega) a (by
        rw [b]; simp only; rw [if_neg (by simp)]; simp)
      obtain ⟨s3, x, _, _, h3⟩ := run_l01Next s1 q
      rcases l with _ | ⟨y, l⟩
      · simp only [List.length_nil, List.nil_append, List.length_cons, reduceCtorEq, if_true, if_false, Nat.zero_add, List.cons_append] at *
        simp [go_sem, -map_replicate, -map_set, -map_append, -map_reverse, -map_take, -map_drop, -map_tail, -any_map, -all_map, -mapM_map, -map_map, slL, szI, ldI, zI, undL, apL, setI, rdI_get, Nat.add_one_le_iff, fillV, zeros1, zeros0, appendD, segV, lvO, goneOf, sliceD, bound, Nat.add_assoc, szL, ldL, setCs0, setCs1, setCs2, setCsA2, setCsA3, ldM, fM0, fM1, szM, zM, plM0, plM1, agM, paM, ldJ, fJ0, fJ1, fJ2, szJ, zJ, plJ0, plJ1, plJ2, agJ, paJ, m0, w5, c3, h3, zeros1, fillV]
        repeat refine ⟨by kernel_rfl, by kernel_rfl, ?_⟩
        refine fin s3 x _ rfl ?_
        (refine canon_mkP ?_; simp [method_specs_simp, ordIds_app, ordRen_app, ordIds_app2, ordRen_app2, -map_replicate, -map_set, -map_append, -map_reverse, -map_take, -map_drop, -map_tail, -map_map, pinH])
      · simp only [List.length_nil, List.nil_append, List.length_cons, reduceCtorEq, if_true, if_false, Nat.zero_add, List.cons_append] at *
        simp [go_sem, -map_replicate, -map_set, -map_append, -map_reverse, -map_take, -map_drop, -map_tail, -any_map, -all_map, -mapM_map, -map_map, slL, szI, ldI, zI, undL, apL, setI, rdI_get, Nat.add_one_le_iff, fillV, zeros1, zeros0, appendD, segV, lvO, goneOf, sliceD, bound, Nat.add_assoc, szL, ldL, setCs0, setCs1, setCs2, setCsA2, setCsA3, ldM, fM0, fM1, szM, zM, plM0, plM1, agM, paM, ldJ, fJ0, fJ1, fJ2, szJ, zJ, plJ0, plJ1, plJ2, agJ, paJ, m0, w5, c3, h3, zeros1, fillV]
        repeat refine ⟨by kernel_rfl, by kernel_rfl, ?_⟩
        refine fin s3 x _ rfl ?_
        (refine canon_mkP ?_; simp [method_specs_simp, ordIds_app, ordRen_app, ordIds_app2, ordRen_app2, -map_replicate, -map_set, -map_append, -map_reverse, -map_take, -map_drop, -map_tail, -map_map, pinH])
    · obtain ⟨s2, u, _, hu, h2⟩ := run_l01Next s1 8
      obtain ⟨s3, v, _, hv, h3⟩ := run_l01Next s2 (q - 1)
      have hv := hv (by omega)
      have w6 : IntKind.i64.wrap (q - 1) = q - 1 := IntWalk.i64_in _ (by omega)
      have w7 : IntKind.i64.wrap (1 + v) = 1 + v := IntWalk.i64_in _ (by omega)
      by_cases le : l = []
      · subst le
        simp only [if_true] at *
        obtain ⟨s4, t, _, _, h4⟩ := run_l01Next s1 40
        by_cases t0 : t = 0
        · subst t0
          simp [go_sem, -map_replicate, -map_set, -map_append, -map_reverse, -map_take, -map_drop, -map_tail, -any_map, -all_map, -mapM_map, -map_map, slL, szI, ldI, zI, undL, apL, setI, rdI_get, Nat.add_one_le_iff, fillV, zeros1, zeros0, appendD, segV, lvO, goneOf, sliceD, bound, Nat.add_assoc, szL, ldL, setCs0, setCs1, setCs2, setCsA2, setCsA3, ldM, fM0, fM1, szM, zM, plM0, plM1, agM, paM, ldJ, fJ0, fJ1, fJ2, szJ, zJ, plJ0, plJ1, plJ2, agJ, paJ, m0, h4, zeros1, fillV, undI64, convD, wz0]
          repeat refine ⟨by kernel_rfl, by kernel_rfl, ?_⟩
          refine ⟨_, ?_, s4, [q], by simp, rfl⟩
          simp [mvcgen_simp, -map_replicate, -map_set, -map_append, -map_reverse, -map_take, -map_drop, -map_tail, -any_map, -all_map, -mapM_map, -map_map, Try.f114, szL, ldL, setCs0, setCs1, setCs2, setCsA2, setCsA3, ldM, fM0, fM1, szM, zM, plM0, plM1, agM, paM, ldJ, fJ0, fJ1, fJ2, szJ, zJ, plJ0, plJ1, plJ2, agJ, paJ, isLR, hasU, ctL]
        · simp [go_sem, -map_replicate, -map_set, -map_append, -map_reverse, -map_take, -map_drop, -map_tail, -any_map, -all_map, -mapM_map, -map_map, slL, szI, ldI, zI, undL, apL, setI, rdI_get, Nat.add_one_le_iff, fillV, zeros1, zeros0, appendD, segV, lvO, goneOf, sliceD, bound, Nat.add_assoc, szL, ldL, setCs0, setCs1, setCs2, setCsA2, setCsA3, ldM, fM0, fM1, szM, zM, plM0, plM1, agM, paM, ldJ, fJ0, fJ1, fJ2, szJ, zJ, plJ0, plJ1, plJ2, agJ, paJ, m0, h4, t0, undI64, convD, wz0]
          repeat refine ⟨by kernel_rfl, by kernel_rfl, ?_⟩
          refine ⟨_, ?_, s4, [], by simp, rfl⟩
          simp [mvcgen_simp, -map_replicate, -map_set, -map_append, -map_reverse, -map_take, -map_drop, -map_tail, -any_map, -all_map, -mapM_map, -map_map, Try.f114, szL, ldL, setCs0, setCs1, setCs2, setCsA2, setCsA3, ldM, fM0, fM1, szM, zM, plM0, plM1, agM, paM, ldJ, fJ0, fJ1, fJ2, szJ, zJ, plJ0, plJ1, plJ2, agJ, paJ, isLR, hasU, ctL]
      · rw [if_neg le]
        obtain ⟨j, hj⟩ : ∃ j : Nat, l.length = j + 1 := ⟨l.length - 1, by have := List.length_pos_iff.2 le; omega⟩
        have w8 : IntKind.i64.wrap (l.length : Int) = l.length := IntWalk.i64_in _ (by omega)
        have w9 : IntKind.i64.wrap ((l.length : Int) - 1) = (j : Int) := by rw [IntWalk.i64_in _ (by omega)]; omega
        have hl0 : 0 < l.length := by omega
        have hl1 : (0 : Int) < (l.length : Int) := by omega
        have hj0 : (0 : Int) ≤ (j : Int) := by omega
        have hj2 : j < l.length := by omega
        have hj3 : (j : Int) < (l.length : Int) := by omega
        have c4 : (l.length + 1) * 8 ≤ 140737488355328 := by omega
        by_cases u0 : 0 < u
        · obtain ⟨s4, t, _, _, h4⟩ := run_l01Next s3 40
          have lL : (l.set j (1 + v)).length = l.length := by simp
          by_cases t0 : t = 0
          · subst t0
            have ap : (l.set j (1 + v)).map (V.int .i64) ++ [V.int .i64 q] = (l.set j (1 + v) ++ [q]).map (V.int .i64) := by simp
            have la : (l.set j (1 + v) ++ [q]).length = l.length + 1 := by simp
            simp [go_sem, -map_replicate, -map_set, -map_append, -map_reverse, -map_take, -map_drop, -map_tail, -any_map, -all_map, -mapM_map, -map_map, slL, szI, ldI, zI, undL, apL, setI, rdI_get, Nat.add_one_le_iff, fillV, zeros1, zeros0, appendD, segV, lvO, goneOf, sliceD, bound, Nat.add_assoc, szL, ldL, setCs0, setCs1, setCs2, setCsA2, setCsA3, ldM, fM0, fM1, szM, zM, plM0, plM1, agM, paM, ldJ, fJ0, fJ1, fJ2, szJ, zJ, plJ0, plJ1, plJ2, agJ, paJ, m0, h2, h3, h4, u0, w6, w7, w8, w9, hl0, hl1, hj0, hj2, hj3, c4, zeros1, fillV, undI64, convD]
            repeat refine ⟨by kernel_rfl, by kernel_rfl, ?_⟩
            refine ⟨_, ?_, s4, l.set j (1 + v) ++ [q], by omega, rfl⟩
            rw [la]
            generalize l.set j (1 + v) ++ [q] = L2 at *
            simp [mvcgen_simp, -map_replicate, -map_set, -map_append, -map_reverse, -map_take, -map_drop, -map_tail, -any_map, -all_map, -mapM_map, -map_map, Try.f114, szL, ldL, setCs0, setCs1, setCs2, setCsA2, setCsA3, ldM, fM0, fM1, szM, zM, plM0, plM1, agM, paM, ldJ, fJ0, fJ1, fJ2, szJ, zJ, plJ0, plJ1, plJ2, agJ, paJ, isLR, hasU, ctL, ap, la]
          · simp [go_sem, -map_replicate, -map_set, -map_append, -map_reverse, -map_take, -map_drop, -map_tail, -any_map, -all_map, -mapM_map, -map_map, slL, szI, ldI, zI, undL, apL, setI, rdI_get, Nat.add_one_le_iff, fillV, zeros1, zeros0, appendD, segV, lvO, goneOf, sliceD, bound, Nat.add_assoc, szL, ldL, setCs0, setCs1, setCs2, setCsA2, setCsA3, ldM, fM0, fM1, szM, zM, plM0, plM1, agM, paM, ldJ, fJ0, fJ1, fJ2, szJ, zJ, plJ0, plJ1, plJ2, agJ, paJ, m0, h2, h3, h4, u0, t0, w6, w7, w8, w9, hl0, hl1, hj0, hj2, hj3, undI64, convD]
            repeat refine ⟨by kernel_rfl, by kernel_rfl, ?_⟩
            refine ⟨_, ?_, s4, l.set j (1 + v), by omega, rfl⟩
            rw [lL]
            generalize l.set j (1 + v) = L2 at *
            simp [mvcgen_simp, -map_replicate, -map_set, -map_append, -map_reverse, -map_take, -map_drop, -map_tail, -any_map, -all_map, -mapM_map, -map_map, Try.f114, szL, ldL, setCs0, setCs1, setCs2, setCsA2, setCsA3, ldM, fM0, fM1, szM, zM, plM0, plM1, agM, paM, ldJ, fJ0, fJ1, fJ2, szJ, zJ, plJ0, plJ1, plJ2, agJ, paJ, isLR, hasU, ctL, lL]
        · obtain ⟨s4, t, _, _, h4⟩ := run_l01Next s2 40
          by_cases t0 : t = 0
          · subst t0
            have ap : l.map (V.int .i64) ++ [V.int .i64 q] = (l ++ [q]).map (V.int .i64) := by simp
            have la : (l ++ [q]).length = l.length + 1 := by simp
            simp [go_sem, -map_replicate, -map_set, -map_append, -map_reverse, -map_take, -map_drop, -map_tail, -any_map, -all_map, -mapM_map, -map_map, slL, szI, ldI, zI, undL, apL, setI, rdI_get, Nat.add_one_le_iff, fillV, zeros1, zeros0, appendD, segV, lvO, goneOf, sliceD, bound, Nat.add_assoc, szL, ldL, setCs0, setCs1, setCs2, setCsA2, setCsA3, ldM, fM0, fM1, szM, zM, plM0, plM1, agM, paM, ldJ, fJ0, fJ1, fJ2, szJ, zJ, plJ0, plJ1, plJ2, agJ, paJ, m0, h2, h4, u0, w8, hl0, hl1, c4, zeros1, fillV, undI64, convD]
            repeat refine ⟨by kernel_rfl, by kernel_rfl, ?_⟩
            refine ⟨_, ?_, s4, l ++ [q], by omega, rfl⟩
            rw [la]
            generalize l ++ [q] = L2 at *
            simp [mvcgen_simp, -map_replicate, -map_set, -map_append, -map_reverse, -map_take, -map_drop, -map_tail, -any_map, -all_map, -mapM_map, -map_map, Try.f114, szL, ldL, setCs0, setCs1, setCs2, setCsA2, setCsA3, ldM, fM0, fM1, szM, zM, plM0, plM1, agM, paM, ldJ, fJ0, fJ1, fJ2, szJ, zJ, plJ0, plJ1, plJ2, agJ, paJ, isLR, hasU, ctL, ap, la]
          · simp [go_sem, -map_replicate, -map_set, -map_append, -map_reverse, -map_take, -map_drop, -map_tail, -any_map, -all_map, -mapM_map, -map_map, slL, szI, ldI, zI, undL, apL, setI, rdI_get, Nat.add_one_le_iff, fillV, zeros1, zeros0, appendD, segV, lvO, goneOf, sliceD, bound, Nat.add_assoc, szL, ldL, setCs0, setCs1, setCs2, setCsA2, setCsA3, ldM, fM0, fM1, szM, zM, plM0, plM1, agM, paM, ldJ, fJ0, fJ1, fJ2, szJ, zJ, plJ0, plJ1, plJ2, agJ, paJ, m0, h2, h4, u0, t0, w8, hl0, hl1, undI64, convD]
            repeat refine ⟨by kernel_rfl, by kernel_rfl, ?_⟩
            refine ⟨_, ?_, s4, l, by omega, rfl⟩
            simp [mvcgen_simp, -map_replicate, -map_set, -map_append, -map_reverse, -map_take, -map_drop, -map_tail, -any_map, -all_map, -mapM_map, -map_map, Try.f114, szL, ldL, setCs0, setCs1, setCs2, setCsA2, setCsA3, ldM, fM0, fM1, szM, zM, plM0, plM1, agM, paM, ldJ, fJ0, fJ1, fJ2, szJ, zJ, plJ0, plJ1, plJ2, agJ, paJ, isLR, hasU, ctL]
  · exact ⟨by simp only [List.length_nil]; omega, by simp only; omega⟩
  · rw [if_pos rfl]
    (refine canon_mkP ?_; simp [method_specs_simp, ordIds_app, ordRen_app, ordIds_app2, ordRen_app2, -map_replicate, -map_set, -map_append, -map_reverse, -map_take, -map_drop, -map_tail, -map_map, pinH])
end Go.Proofs.Ytacfkfdnncgjcaa.Ev
