/- Draws of moments: weights, nodes. Conditions: none. -/
/- Draws of moments: the moments of nodes with weights (spec.l02Of), what it computes. Conditions: none. -/
/- Draws of moments: the moments of nodes with weights (spec.l02Of), its run. Conditions: none. -/
/- Draws of moments. Conditions: none. -/
/- Draws of moments with numbers, symmetric moments. Conditions: none. -/
import Derived.Test.YtacfkfdnncgjcaaGreatFnDG
import Derived.Test.YtacfkfdnncgjcaaGreatFnBY
set_option linter.unusedSimpArgs false
set_option linter.unusedVariables false
namespace Go.Proofs.YtacfkfdnncgjcaaGreat.Ev
open Go Go.Proofs
open List (map_replicate map_set map_append map_reverse map_take map_drop map_tail any_map all_map mapM_map map_map)
set_option maxRecDepth 4000
set_option maxHeartbeats 4000000

theorem run_l02Weights (s : Src) (p n : Int) (hn : n ≤ 1000) (hp : 2 ≤ p ∧ p ≤ 10007) : ∃ (s' : Src) (l : List Int), l.length = n.toNat ∧
    runv E1 94 [(V.uptr [V.list (s).code.length ((s).code.map (V.int .u8)), V.int .i64 (s).i, V.int .u64 (s).h]), (V.int .i64 (p)), (V.int .i64 (n))] = some ⟨true, (V.uniq 1 (List.length (l)) (List.map (V.int .i64) (l))), [(V.uptr [V.list (s').code.length ((s').code.map (V.int .u8)), V.int .i64 (s').i, V.int .u64 (s').h]), .undef, .undef]⟩ := by
  suffices h : ∃ r, runv E1 94 [(V.uptr [V.list (s).code.length ((s).code.map (V.int .u8)), V.int .i64 (s).i, V.int .u64 (s).h]), (V.int .i64 (p)), (V.int .i64 (n))] = some r ∧ ∃ (s' : Src) (l : List Int), l.length = n.toNat ∧ r = ⟨true, (V.uniq 1 (List.length (l)) (List.map (V.int .i64) (l))), [(V.uptr [V.list (s').code.length ((s').code.map (V.int .u8)), V.int .i64 (s').i, V.int .u64 (s').h]), .undef, .undef]⟩ by
    obtain ⟨r, h, s', t, ht, rfl⟩ := h
    exact ⟨s', t, ht, h⟩
  have w0 : IntKind.i64.wrap (p - 1) = p - 1 := IntWalk.i64_in _ (by omega)
  have cdk : codeOk Tryz.f94.ntmps (Tryz.f94.body.getD .skip) = true := by kernel_rfl
  refine run_of_WLpQ (fn := Tryz.f94) rfl Tryz.func94 rfl ⟨by simp [Tryz.ntmps94], by simp [wideA, ints], cdk, by simp [Tryz.f94]⟩ rfl (by simp [rebOk, noId, adoptT, adoptA, adoptL, adoptC, depth]) (by simp [pinned, adoptT, adoptA, adoptL, adoptC]) ?_
  simp [go_sem, -map_replicate, -map_set, -map_append, -map_reverse, -map_take, -map_drop, -map_tail, -any_map, -all_map, -mapM_map, -map_map, slL, szI, ldI, zI, undL, apL, setI, rdI_get, Nat.add_one_le_iff, fillV, zeros1, zeros0, appendD, segV, lvO, goneOf, sliceD, bound, Nat.add_assoc, zeros0]
  rw [WL_loop]
  refine WL_forX (keep := [0, 1, 2, 7, 8]) (rs := resM Tryz.f94 ||| 1) rfl (by kernel_rfl) (α := Src × List Int) (fun x => if x.2 = [] then mkSt [(0, .ptr 0 0 0), (1, .int .i64 p), (2, .int .i64 n), (7, .nils), (8, .int .i64 0)] [some (⟨0, 1, 1, [V.list (x.1).code.length ((x.1).code.map (V.int .u8)), V.int .i64 (x.1).i, V.int .u64 (x.1).h]⟩)] (resM Tryz.f94 ||| 1) else mkSt [(0, .ptr 0 0 0), (1, .int .i64 p), (2, .int .i64 n), (7, .sl 1 0 0 x.2.length), (8, .int .i64 (x.2.length : Int))] [some (⟨0, 1, 1, [V.list (x.1).code.length ((x.1).code.map (V.int .u8)), V.int .i64 (x.1).i, V.int .u64 (x.1).h]⟩), some (⟨0, 2, 1, x.2.map (V.int .i64)⟩)] (resM Tryz.f94 ||| 1)) (fun x => x.2.length ≤ n.toNat) (fun x => n.toNat - x.2.length) ?_ (s, []) _ ?_ rfl ?_
  · rintro ⟨s1, l⟩ q1 next
    simp only at q1 next ⊢
    by_cases m0 : (l.length : Int) < n
    · have w1 : IntKind.i64.wrap ((l.length : Int) + 1) = (l.length : Int) + 1 := IntWalk.i64_in _ (by omega)
      have c3 : (l.length + 1) * 8 ≤ 140737488355328 := by omega
      have fin : ∀ (s' : Src) (x : Int) (st' : St), st'.rs = resM Tryz.f94 ||| 1 → canon [0, 1, 2, 7, 8] st' = mkSt [(0, .ptr 0 0 0), (1, .int .i64 p), (2, .int .i64 n), (7, .sl 1 0 0 (l.length + 1)), (8, .int .i64 ((l.length : Int) + 1))] [some (⟨0, 1, 1, [V.list (s').code.length ((s').code.map (V.int .u8)), V.int .i64 (s').i, V.int .u64 (s').h]⟩), some (⟨0, 2, 1, (l ++ [x]).map (V.int .i64)⟩)] (resM Tryz.f94 ||| 1) → _ := fun s' x st' a b => next (s', l ++ [x]) st' (by simp only [List.length_append, List.length_singleton]; omega) (by simp only [List.length_append, List.length_singleton]; omega) a (by
        rw [b]; simp only; rw [if_neg (by simp)]; simp)
      obtain ⟨s2, y, _, hy, h2⟩ := run_l01Next s1 (p - 1)
      obtain ⟨s3, z, _, _, h3⟩ := run_l01Next s2 16
      have hy := hy (by omega)
      have w2 : IntKind.i64.wrap (1 + y) = 1 + y := IntWalk.i64_in _ (by omega)
      rcases l with _ | ⟨a, l⟩
      · simp only [List.length_nil, List.nil_append, List.length_cons, reduceCtorEq, if_true, if_false, Nat.zero_add, List.cons_append] at *
        try push_cast at m0 w1
        try simp only [Int.zero_add] at w1
        by_cases z0 : z = 0
        · subst z0
          simp [go_sem, -map_replicate, -map_set, -map_append, -map_reverse, -map_take, -map_drop, -map_tail, -any_map, -all_map, -mapM_map, -map_map, slL, szI, ldI, zI, undL, apL, setI, rdI_get, Nat.add_one_le_iff, fillV, zeros1, zeros0, appendD, segV, lvO, goneOf, sliceD, bound, Nat.add_assoc, m0, w0, w1, w2, c3, h2, h3, zeros1, fillV]
          repeat refine ⟨by kernel_rfl, by kernel_rfl, ?_⟩
          refine fin s3 0 _ rfl ?_
          (refine canon_mkP ?_; simp [method_specs_simp, ordIds_app, ordRen_app, ordIds_app2, ordRen_app2, -map_replicate, -map_set, -map_append, -map_reverse, -map_take, -map_drop, -map_tail, -map_map, pinH])
        · simp [go_sem, -map_replicate, -map_set, -map_append, -map_reverse, -map_take, -map_drop, -map_tail, -any_map, -all_map, -mapM_map, -map_map, slL, szI, ldI, zI, undL, apL, setI, rdI_get, Nat.add_one_le_iff, fillV, zeros1, zeros0, appendD, segV, lvO, goneOf, sliceD, bound, Nat.add_assoc, m0, w0, w1, w2, c3, h2, h3, z0, zeros1, fillV]
          repeat refine ⟨by kernel_rfl, by kernel_rfl, ?_⟩
          refine fin s3 (1 + y) _ rfl ?_
          (refine canon_mkP ?_; simp [method_specs_simp, ordIds_app, ordRen_app, ordIds_app2, ordRen_app2, -map_replicate, -map_set, -map_append, -map_reverse, -map_take, -map_drop, -map_tail, -map_map, pinH])
      · simp only [List.length_nil, List.nil_append, List.length_cons, reduceCtorEq, if_true, if_false, Nat.zero_add, List.cons_append] at *
        try push_cast at m0 w1
        try simp only [Int.zero_add] at w1
        by_cases z0 : z = 0
        · subst z0
          simp [go_sem, -map_replicate, -map_set, -map_append, -map_reverse, -map_take, -map_drop, -map_tail, -any_map, -all_map, -mapM_map, -map_map, slL, szI, ldI, zI, undL, apL, setI, rdI_get, Nat.add_one_le_iff, fillV, zeros1, zeros0, appendD, segV, lvO, goneOf, sliceD, bound, Nat.add_assoc, m0, w0, w1, w2, c3, h2, h3, zeros1, fillV]
          repeat refine ⟨by kernel_rfl, by kernel_rfl, ?_⟩
          refine fin s3 0 _ rfl ?_
          (refine canon_mkP ?_; simp [method_specs_simp, ordIds_app, ordRen_app, ordIds_app2, ordRen_app2, -map_replicate, -map_set, -map_append, -map_reverse, -map_take, -map_drop, -map_tail, -map_map, pinH])
        · simp [go_sem, -map_replicate, -map_set, -map_append, -map_reverse, -map_take, -map_drop, -map_tail, -any_map, -all_map, -mapM_map, -map_map, slL, szI, ldI, zI, undL, apL, setI, rdI_get, Nat.add_one_le_iff, fillV, zeros1, zeros0, appendD, segV, lvO, goneOf, sliceD, bound, Nat.add_assoc, m0, w0, w1, w2, c3, h2, h3, z0, zeros1, fillV]
          repeat refine ⟨by kernel_rfl, by kernel_rfl, ?_⟩
          refine fin s3 (1 + y) _ rfl ?_
          (refine canon_mkP ?_; simp [method_specs_simp, ordIds_app, ordRen_app, ordIds_app2, ordRen_app2, -map_replicate, -map_set, -map_append, -map_reverse, -map_take, -map_drop, -map_tail, -map_map, pinH])
    · have hl : l.length = n.toNat := by omega
      rcases l with _ | ⟨a, l⟩
      · have m1 : ¬ (0 : Int) < n := by simp only [List.length_nil] at m0; omega
        simp only [if_true] at *
        simp [go_sem, -map_replicate, -map_set, -map_append, -map_reverse, -map_take, -map_drop, -map_tail, -any_map, -all_map, -mapM_map, -map_map, slL, szI, ldI, zI, undL, apL, setI, rdI_get, Nat.add_one_le_iff, fillV, zeros1, zeros0, appendD, segV, lvO, goneOf, sliceD, bound, Nat.add_assoc, m1]
        refine ⟨_, ?_, s1, [], hl, rfl⟩
        simp [mvcgen_simp, -map_replicate, -map_set, -map_append, -map_reverse, -map_take, -map_drop, -map_tail, -any_map, -all_map, -mapM_map, -map_map, Tryz.f94, isLR, hasU, ctL]
      · have m1 : ¬ (l.length : Int) + 1 < n := by simp only [List.length_cons] at m0; omega
        simp only [reduceCtorEq, if_false] at *
        simp [go_sem, -map_replicate, -map_set, -map_append, -map_reverse, -map_take, -map_drop, -map_tail, -any_map, -all_map, -mapM_map, -map_map, slL, szI, ldI, zI, undL, apL, setI, rdI_get, Nat.add_one_le_iff, fillV, zeros1, zeros0, appendD, segV, lvO, goneOf, sliceD, bound, Nat.add_assoc, m1]
        refine ⟨_, ?_, s1, a :: l, hl, rfl⟩
        simp [mvcgen_simp, -map_replicate, -map_set, -map_append, -map_reverse, -map_take, -map_drop, -map_tail, -any_map, -all_map, -mapM_map, -map_map, Tryz.f94, isLR, hasU, ctL]
  · exact Nat.zero_le _
  · rw [if_pos rfl]
    (refine canon_mkP ?_; simp [method_specs_simp, ordIds_app, ordRen_app, ordIds_app2, ordRen_app2, -map_replicate, -map_set, -map_append, -map_reverse, -map_take, -map_drop, -map_tail, -map_map, pinH])
theorem run_l02DrawNodes (s : Src) (p most : Int) (hp : 2 ≤ p ∧ p ≤ 10007) (hm : 0 ≤ most ∧ most ≤ 100) : ∃ (s' : Src) (l : List Int), (l.length : Int) ≤ most ∧
    runv E1 93 [(V.uptr [V.list (s).code.length ((s).code.map (V.int .u8)), V.int .i64 (s).i, V.int .u64 (s).h]), (V.int .i64 (p)), (V.int .i64 (most))] = some ⟨true, (V.uniq 1 (List.length (l)) (List.map (V.int .i64) (l))), [(V.uptr [V.list (s').code.length ((s').code.map (V.int .u8)), V.int .i64 (s').i, V.int .u64 (s').h]), .undef, .undef]⟩ := by
  suffices h : ∃ r, runv E1 93 [(V.uptr [V.list (s).code.length ((s).code.map (V.int .u8)), V.int .i64 (s).i, V.int .u64 (s).h]), (V.int .i64 (p)), (V.int .i64 (most))] = some r ∧ ∃ (s' : Src) (l : List Int), (l.length : Int) ≤ most ∧ r = ⟨true, (V.uniq 1 (List.length (l)) (List.map (V.int .i64) (l))), [(V.uptr [V.list (s').code.length ((s').code.map (V.int .u8)), V.int .i64 (s').i, V.int .u64 (s').h]), .undef, .undef]⟩ by
    obtain ⟨r, h, s', t, ht, rfl⟩ := h
    exact ⟨s', t, ht, h⟩
  have w0 : IntKind.i64.wrap (most + 1) = most + 1 := IntWalk.i64_in _ (by omega)
  obtain ⟨s0, k0, _, hk0, h0⟩ := run_l01Next s (most + 1)
  have hk0 := hk0 (by omega)
  have cdk : codeOk Tryz.f93.ntmps (Tryz.f93.body.getD .skip) = true := by kernel_rfl
  refine run_of_WLpQ (fn := Tryz.f93) rfl Tryz.func93 rfl ⟨by simp [Tryz.ntmps93], by simp [wideA, ints], cdk, by simp [Tryz.f93]⟩ rfl (by simp [rebOk, noId, adoptT, adoptA, adoptL, adoptC, depth]) (by simp [pinned, adoptT, adoptA, adoptL, adoptC]) ?_
  simp [go_sem, -map_replicate, -map_set, -map_append, -map_reverse, -map_take, -map_drop, -map_tail, -any_map, -all_map, -mapM_map, -map_map, slL, szI, ldI, zI, undL, apL, setI, rdI_get, Nat.add_one_le_iff, fillV, zeros1, zeros0, appendD, segV, lvO, goneOf, sliceD, bound, Nat.add_assoc, w0, h0, zeros0]
  rw [WL_loop]
  refine WL_forX (keep := [0, 1, 7, 8]) (rs := resM Tryz.f93 ||| 1) rfl (by kernel_rfl) (α := Src × List Int × Int) (fun x => if x.2.1 = [] then mkSt [(0, .ptr 0 0 0), (1, .int .i64 p), (7, .nils), (8, .int .i64 x.2.2)] [some (⟨0, 1, 1, [V.list (x.1).code.length ((x.1).code.map (V.int .u8)), V.int .i64 (x.1).i, V.int .u64 (x.1).h]⟩)] (resM Tryz.f93 ||| 1) else mkSt [(0, .ptr 0 0 0), (1, .int .i64 p), (7, .sl 1 0 0 x.2.1.length), (8, .int .i64 x.2.2)] [some (⟨0, 1, 1, [V.list (x.1).code.length ((x.1).code.map (V.int .u8)), V.int .i64 (x.1).i, V.int .u64 (x.1).h]⟩), some (⟨0, 2, 1, x.2.1.map (V.int .i64)⟩)] (resM Tryz.f93 ||| 1)) (fun x => 0 ≤ x.2.2 ∧ (x.2.1.length : Int) + x.2.2 ≤ most) (fun x => x.2.2.toNat) ?_ (s0, [], k0) _ ?_ rfl ?_
  · rintro ⟨s1, l, k⟩ ⟨q0, q1⟩ next
    simp only at q0 q1 next ⊢
    by_cases m0 : 0 < k
    · have w1 : IntKind.i64.wrap (k - 1) = k - 1 := IntWalk.i64_in _ (by omega)
      have c3 : (l.length + 1) * 8 ≤ 140737488355328 := by omega
      obtain ⟨s2, x, _, _, h2⟩ := run_l01Next s1 p
      obtain ⟨s3, y, _, _, h3⟩ := run_l01Next s2 (mnI p 9)
      have hmin : mmV mnI [V.int .i64 p, V.int .i64 9] = some (V.int .i64 (mnI p 9)) := rfl
      have z2 : zerosV 2 [V.int .i64 0] = [.int .i64 0, .int .i64 0] := rfl
      obtain ⟨s4, o, _, h4⟩ := run_l01Pick s3 [x, y] (by simp) (by simp)
      simp only [List.map_cons, List.map_nil, List.length_cons, List.length_nil, Nat.reduceAdd] at h4
      have old : ∀ (st' : St), st'.rs = resM Tryz.f93 ||| 1 → canon [0, 1, 7, 8] st' = (if l = [] then mkSt [(0, .ptr 0 0 0), (1, .int .i64 p), (7, .nils), (8, .int .i64 (k - 1))] [some (⟨0, 1, 1, [V.list (s4).code.length ((s4).code.map (V.int .u8)), V.int .i64 (s4).i, V.int .u64 (s4).h]⟩)] (resM Tryz.f93 ||| 1) else mkSt [(0, .ptr 0 0 0), (1, .int .i64 p), (7, .sl 1 0 0 l.length), (8, .int .i64 (k - 1))] [some (⟨0, 1, 1, [V.list (s4).code.length ((s4).code.map (V.int .u8)), V.int .i64 (s4).i, V.int .u64 (s4).h]⟩), some (⟨0, 2, 1, l.map (V.int .i64)⟩)] (resM Tryz.f93 ||| 1)) → _ := fun st' a b => next (s4, l, k - 1) st' ⟨by simp only; omega, by simp only; omega⟩ (by simp only; omega) a b
      have fin : ∀ (st' : St), st'.rs = resM Tryz.f93 ||| 1 → canon [0, 1, 7, 8] st' = mkSt [(0, .ptr 0 0 0), (1, .int .i64 p), (7, .sl 1 0 0 (l.length + 1)), (8, .int .i64 (k - 1))] [some (⟨0, 1, 1, [V.list (s4).code.length ((s4).code.map (V.int .u8)), V.int .i64 (s4).i, V.int .u64 (s4).h]⟩), some (⟨0, 2, 1, (l ++ [o]).map (V.int .i64)⟩)] (resM Tryz.f93 ||| 1) → _ := fun st' a b => next (s4, l ++ [o], k - 1) st' ⟨by simp only; omega, by simp only [List.length_append, List.length_singleton]; omega⟩ (by simp only; omega) a (by
        rw [b]; simp only; rw [if_neg (by simp)]; simp)
      by_cases le : l = []
      · subst le
        simp only [List.length_nil, List.nil_append, List.length_cons, reduceCtorEq, if_true, if_false, Nat.zero_add, List.cons_append] at *
        simp [go_sem, -map_replicate, -map_set, -map_append, -map_reverse, -map_take, -map_drop, -map_tail, -any_map, -all_map, -mapM_map, -map_map, slL, szI, ldI, zI, undL, apL, setI, rdI_get, Nat.add_one_le_iff, fillV, zeros1, zeros0, appendD, segV, lvO, goneOf, sliceD, bound, Nat.add_assoc, m0, w1, c3, h2, h3, h4, hmin, z2, zeros1, fillV]
        repeat refine ⟨by kernel_rfl, by kernel_rfl, ?_⟩
        rw [WL_loop]
        refine WL_for (keep := [0, 1, 7, 8, 9, 10, 11]) (rs := resM Tryz.f93 ||| 1) rfl (by kernel_rfl) (fun i => mkSt [(0, .ptr 0 0 0), (1, .int .i64 p), (7, .nils), (8, .int .i64 k), (9, .int .i64 o), (10, .bool false), (11, .int .i64 (i : Int))] [some (⟨0, 1, 1, [V.list (s4).code.length ((s4).code.map (V.int .u8)), V.int .i64 (s4).i, V.int .u64 (s4).h]⟩)] (resM Tryz.f93 ||| 1)) 0 ?_ ?_ 0 _ (by omega) rfl ?_
        · intro i hi; omega
        · simp [go_sem, -map_replicate, -map_set, -map_append, -map_reverse, -map_take, -map_drop, -map_tail, -any_map, -all_map, -mapM_map, -map_map, slL, szI, ldI, zI, undL, apL, setI, rdI_get, Nat.add_one_le_iff, fillV, zeros1, zeros0, appendD, segV, lvO, goneOf, sliceD, bound, Nat.add_assoc, m0, w1, c3, zeros1, fillV]
          repeat refine ⟨by kernel_rfl, by kernel_rfl, ?_⟩
          refine fin _ rfl ?_
          (refine canon_mkP ?_; simp [method_specs_simp, ordIds_app, ordRen_app, ordIds_app2, ordRen_app2, -map_replicate, -map_set, -map_append, -map_reverse, -map_take, -map_drop, -map_tail, -map_map, pinH])
        · (refine canon_mkP ?_; simp [method_specs_simp, ordIds_app, ordRen_app, ordIds_app2, ordRen_app2, -map_replicate, -map_set, -map_append, -map_reverse, -map_take, -map_drop, -map_tail, -map_map, pinH])
      · have hl0 : 0 < l.length := List.length_pos_iff.2 le
        have hm : l.map (V.int .i64) ++ [V.int .i64 o] = (l ++ [o]).map (V.int .i64) := by simp
        rw [if_neg le]
        rw [if_neg le] at old
        simp [go_sem, -map_replicate, -map_set, -map_append, -map_reverse, -map_take, -map_drop, -map_tail, -any_map, -all_map, -mapM_map, -map_map, slL, szI, ldI, zI, undL, apL, setI, rdI_get, Nat.add_one_le_iff, fillV, zeros1, zeros0, appendD, segV, lvO, goneOf, sliceD, bound, Nat.add_assoc, m0, w1, c3, h2, h3, h4, hmin, z2, zeros1, fillV]
        repeat refine ⟨by kernel_rfl, by kernel_rfl, ?_⟩
        rw [WL_loop]
        obtain ⟨kn, kn0, knS⟩ : ∃ kn : Nat → Bool, kn 0 = false ∧ ∀ i, kn (i + 1) = (kn i || decide (rdI l i = o)) := ⟨fun n => Nat.rec false (fun i b => b || decide (rdI l i = o)) n, rfl, fun _ => rfl⟩
        refine WL_for (keep := [0, 1, 7, 8, 9, 10, 11]) (rs := resM Tryz.f93 ||| 1) rfl (by kernel_rfl) (fun i => mkSt [(0, .ptr 0 0 0), (1, .int .i64 p), (7, .sl 1 0 0 l.length), (8, .int .i64 k), (9, .int .i64 o), (10, .bool (kn i)), (11, .int .i64 (i : Int))] [some (⟨0, 1, 1, [V.list (s4).code.length ((s4).code.map (V.int .u8)), V.int .i64 (s4).i, V.int .u64 (s4).h]⟩), some (⟨0, 2, 1, l.map (V.int .i64)⟩)] (resM Tryz.f93 ||| 1)) l.length ?_ ?_ 0 _ (by omega) rfl ?_
        · intro i hi next
          have hii : (i : Int) < l.length := by omega
          have w5 : IntKind.i64.wrap ((i : Int) + 1) = (i : Int) + 1 := IntWalk.i64_in _ (by omega)
          rw [knS i] at next
          cases e : kn i
          · rw [e] at next
            simp [go_sem, -map_replicate, -map_set, -map_append, -map_reverse, -map_take, -map_drop, -map_tail, -any_map, -all_map, -mapM_map, -map_map, slL, szI, ldI, zI, undL, apL, setI, rdI_get, Nat.add_one_le_iff, fillV, zeros1, zeros0, appendD, segV, lvO, goneOf, sliceD, bound, Nat.add_assoc, hi, hii, w5, e]
            repeat refine ⟨by kernel_rfl, by kernel_rfl, ?_⟩
            refine next _ rfl ?_
            (refine canon_mkP ?_; simp [method_specs_simp, ordIds_app, ordRen_app, ordIds_app2, ordRen_app2, -map_replicate, -map_set, -map_append, -map_reverse, -map_take, -map_drop, -map_tail, -map_map, pinH])
          · rw [e] at next
            simp [go_sem, -map_replicate, -map_set, -map_append, -map_reverse, -map_take, -map_drop, -map_tail, -any_map, -all_map, -mapM_map, -map_map, slL, szI, ldI, zI, undL, apL, setI, rdI_get, Nat.add_one_le_iff, fillV, zeros1, zeros0, appendD, segV, lvO, goneOf, sliceD, bound, Nat.add_assoc, hi, hii, w5, e]
            repeat refine ⟨by kernel_rfl, by kernel_rfl, ?_⟩
            refine next _ rfl ?_
            (refine canon_mkP ?_; simp [method_specs_simp, ordIds_app, ordRen_app, ordIds_app2, ordRen_app2, -map_replicate, -map_set, -map_append, -map_reverse, -map_take, -map_drop, -map_tail, -map_map, pinH])
        · generalize kn l.length = kk
          cases kk
          · simp [go_sem, -map_replicate, -map_set, -map_append, -map_reverse, -map_take, -map_drop, -map_tail, -any_map, -all_map, -mapM_map, -map_map, slL, szI, ldI, zI, undL, apL, setI, rdI_get, Nat.add_one_le_iff, fillV, zeros1, zeros0, appendD, segV, lvO, goneOf, sliceD, bound, Nat.add_assoc, m0, w1, c3, zeros1, fillV]
            repeat refine ⟨by kernel_rfl, by kernel_rfl, ?_⟩
            refine fin _ rfl ?_
            (refine canon_mkP ?_; simp [method_specs_simp, ordIds_app, ordRen_app, ordIds_app2, ordRen_app2, -map_replicate, -map_set, -map_append, -map_reverse, -map_take, -map_drop, -map_tail, -map_map, pinH, hm])
          · simp [go_sem, -map_replicate, -map_set, -map_append, -map_reverse, -map_take, -map_drop, -map_tail, -any_map, -all_map, -mapM_map, -map_map, slL, szI, ldI, zI, undL, apL, setI, rdI_get, Nat.add_one_le_iff, fillV, zeros1, zeros0, appendD, segV, lvO, goneOf, sliceD, bound, Nat.add_assoc, m0, w1, c3, zeros1, fillV]
            repeat refine ⟨by kernel_rfl, by kernel_rfl, ?_⟩
            refine old _ rfl ?_
            (refine canon_mkP ?_; simp [method_specs_simp, ordIds_app, ordRen_app, ordIds_app2, ordRen_app2, -map_replicate, -map_set, -map_append, -map_reverse, -map_take, -map_drop, -map_tail, -map_map, pinH])
        · (refine canon_mkP ?_; simp [method_specs_simp, ordIds_app, ordRen_app, ordIds_app2, ordRen_app2, -map_replicate, -map_set, -map_append, -map_reverse, -map_take, -map_drop, -map_tail, -map_map, pinH, kn0])
    · have hl : (l.length : Int) ≤ most := by omega
      rcases l with _ | ⟨a, l⟩
      · simp only [if_true] at *
        simp [go_sem, -map_replicate, -map_set, -map_append, -map_reverse, -map_take, -map_drop, -map_tail, -any_map, -all_map, -mapM_map, -map_map, slL, szI, ldI, zI, undL, apL, setI, rdI_get, Nat.add_one_le_iff, fillV, zeros1, zeros0, appendD, segV, lvO, goneOf, sliceD, bound, Nat.add_assoc, m0]
        refine ⟨_, ?_, s1, [], hl, rfl⟩
        simp [mvcgen_simp, -map_replicate, -map_set, -map_append, -map_reverse, -map_take, -map_drop, -map_tail, -any_map, -all_map, -mapM_map, -map_map, Tryz.f93, isLR, hasU, ctL]
      · simp only [reduceCtorEq, if_false] at *
        simp [go_sem, -map_replicate, -map_set, -map_append, -map_reverse, -map_take, -map_drop, -map_tail, -any_map, -all_map, -mapM_map, -map_map, slL, szI, ldI, zI, undL, apL, setI, rdI_get, Nat.add_one_le_iff, fillV, zeros1, zeros0, appendD, segV, lvO, goneOf, sliceD, bound, Nat.add_assoc, m0]
        refine ⟨_, ?_, s1, a :: l, hl, rfl⟩
        simp [mvcgen_simp, -map_replicate, -map_set, -map_append, -map_reverse, -map_take, -map_drop, -map_tail, -any_map, -all_map, -mapM_map, -map_map, Tryz.f93, isLR, hasU, ctL]
  · exact ⟨by simp only; omega, by simp only [List.length_nil]; omega⟩
  · rw [if_pos rfl]
    (refine canon_mkP ?_; simp [method_specs_simp, ordIds_app, ordRen_app, ordIds_app2, ordRen_app2, -map_replicate, -map_set, -map_append, -map_reverse, -map_take, -map_drop, -map_tail, -map_map, pinH])
end Go.Proofs.YtacfkfdnncgjcaaGreat.Ev

set_option linter.unusedSimpArgs false
set_option linter.unusedVariables false
namespace Go.Proofs.YtacfkfdnncgjcaaGreat.Ev
open Go Go.Proofs
open List (map_replicate map_set map_append map_reverse map_take map_drop map_tail any_map all_map mapM_map map_map)
set_option maxRecDepth 4000
set_option maxHeartbeats 4000000

/-- After i nodes of one round: the sum, and the powers written over. -/
def ofS (p : Int) (nd pw : List Int) : Nat → Int × List Int
  | 0 => (0, pw)
  | i + 1 => ((IntKind.i64.wrap ((ofS p nd pw i).1 + rdI (ofS p nd pw i).2 i)).tmod p, (ofS p nd pw i).2.set i ((IntKind.i64.wrap (rdI (ofS p nd pw i).2 i * rdI nd i)).tmod p))
theorem ofS_len (p : Int) (nd pw : List Int) : ∀ i, (ofS p nd pw i).2.length = pw.length
  | 0 => rfl
  | i + 1 => by rw [ofS, List.length_set, ofS_len p nd pw i]
/-- The powers after k rounds. -/
def ofP (p : Int) (nd w : List Int) : Nat → List Int
  | 0 => w
  | k + 1 => (ofS p nd (ofP p nd w k) nd.length).2
theorem ofP_len (p : Int) (nd w : List Int) : ∀ k, (ofP p nd w k).length = w.length
  | 0 => rfl
  | k + 1 => by rw [ofP, ofS_len, ofP_len p nd w k]
/-- The moments. -/
def ofL (p : Int) (nd w : List Int) (n : Nat) : List Int := tab n fun k => (ofS p nd (ofP p nd w k) nd.length).1
theorem ofL_len (p : Int) (nd w : List Int) (n : Nat) : (ofL p nd w n).length = n := tab_len _ _
end Go.Proofs.YtacfkfdnncgjcaaGreat.Ev

set_option linter.unusedSimpArgs false
set_option linter.unusedVariables false
namespace Go.Proofs.YtacfkfdnncgjcaaGreat.Ev
open Go Go.Proofs
open List (map_replicate map_set map_append map_reverse map_take map_drop map_tail any_map all_map mapM_map map_map)
set_option maxRecDepth 4000
set_option maxHeartbeats 4000000

theorem run_l02Of (p n : Int) (nd w : List Int) (hp : 2 ≤ p ∧ p ≤ 10007) (hl : nd.length ≤ w.length ∧ w.length ≤ 1000) (hn : n ≤ 1000) :
    runv E1 98 [(V.int .i64 (p)), (V.list (List.length (nd)) (List.map (V.int .i64) (nd))), (V.list (List.length (w)) (List.map (V.int .i64) (w))), (V.int .i64 (n))] = some ⟨true, (V.agg [V.int .i64 (p), (V.uniq 1 (List.length (ofL p nd w n.toNat)) (List.map (V.int .i64) (ofL p nd w n.toNat)))]), [.undef, .undef, .undef, .undef]⟩ := by
  obtain ⟨N, hN⟩ : ∃ N : Nat, n.toNat = N := ⟨_, rfl⟩
  rw [hN]
  have g0 := up (run_l01Own w (by omega))
  have p0 : ¬ p = 0 := by omega
  have cdk : codeOk Tryz.f98.ntmps (Tryz.f98.body.getD .skip) = true := by kernel_rfl
  refine run_of_WLr (fn := Tryz.f98) rfl Tryz.func98 rfl ⟨by simp [Tryz.ntmps98], by simp [wideA, ints], cdk, by simp [Tryz.f98]⟩ rfl (by simp [rebOk, noId, adoptT, adoptA, adoptL, adoptC, depth]) ?_
  simp [go_sem, -map_replicate, -map_set, -map_append, -map_reverse, -map_take, -map_drop, -map_tail, -any_map, -all_map, -mapM_map, -map_map, slL, szI, ldI, zI, undL, apL, setI, rdI_get, Nat.add_one_le_iff, fillV, zeros1, zeros0, appendD, segV, lvO, goneOf, sliceD, bound, Nat.add_assoc, szL, ldL, setCs0, setCs1, setCs2, setCsA2, setCsA3, ldM, fM0, fM1, szM, zM, plM0, plM1, agM, paM, ldJ, fJ0, fJ1, fJ2, szJ, zJ, plJ0, plJ1, plJ2, agJ, paJ, g0, zeros0]
  repeat refine ⟨by kernel_rfl, by kernel_rfl, ?_⟩
  rw [WL_loop]
  refine WL_for (keep := [0, 1, 3, 8, 9, 10, 11]) (rs := resM Tryz.f98) rfl (by kernel_rfl) (fun x => match x with | 0 => mkSt [(0, .int .i64 p), (1, (V.list (List.length (nd)) (List.map (V.int .i64) (nd)))), (3, .int .i64 n), (8, .ptr 0 0 0), (9, .ptr 1 0 0), (10, .sl 2 0 0 w.length), (11, .int .i64 0)] [some (⟨0, 1, 1, [.int .i64 0, .nils]⟩), some (⟨0, 1, 1, [.int .i64 p, .nils]⟩), some (⟨0, 2, 1, w.map (V.int .i64)⟩)] (resM Tryz.f98) | k + 1 => mkSt [(0, .int .i64 p), (1, (V.list (List.length (nd)) (List.map (V.int .i64) (nd)))), (3, .int .i64 n), (8, .ptr 0 0 0), (9, .ptr 1 0 0), (10, .sl 2 0 0 w.length), (11, .int .i64 ((k : Int) + 1))] [some (⟨0, 1, 1, [.int .i64 0, .nils]⟩), some (⟨0, 1, 1, [.int .i64 p, .sl 3 0 0 (k + 1)]⟩), some (⟨0, 2, 1, (ofP p nd w (k + 1)).map (V.int .i64)⟩), some (⟨0, 2, 1, (ofL p nd w (k + 1)).map (V.int .i64)⟩)] (resM Tryz.f98)) N ?_ ?_ 0 _ (by omega) rfl ?_
  · intro k hk next
    rcases k with _ | k
    · have hn0 : (0 : Int) < n := by omega
      have eL : ofL p nd w 1 = [(ofS p nd w nd.length).1] := rfl
      have eP : ofP p nd w 1 = (ofS p nd w nd.length).2 := rfl
      dsimp only at next ⊢
      simp only [Nat.zero_add, Int.cast_ofNat_Int, Int.zero_add] at next
      rw [eL, eP] at next
      simp [go_sem, -map_replicate, -map_set, -map_append, -map_reverse, -map_take, -map_drop, -map_tail, -any_map, -all_map, -mapM_map, -map_map, slL, szI, ldI, zI, undL, apL, setI, rdI_get, Nat.add_one_le_iff, fillV, zeros1, zeros0, appendD, segV, lvO, goneOf, sliceD, bound, Nat.add_assoc, szL, ldL, setCs0, setCs1, setCs2, setCsA2, setCsA3, ldM, fM0, fM1, szM, zM, plM0, plM1, agM, paM, ldJ, fJ0, fJ1, fJ2, szJ, zJ, plJ0, plJ1, plJ2, agJ, paJ, hn0]
      repeat refine ⟨by kernel_rfl, by kernel_rfl, ?_⟩
      rw [WL_loop]
      refine WL_for (keep := [0, 1, 3, 8, 9, 10, 11, 12, 13]) (rs := resM Tryz.f98) rfl (by kernel_rfl) (fun i => mkSt [(0, .int .i64 p), (1, (V.list (List.length (nd)) (List.map (V.int .i64) (nd)))), (3, .int .i64 n), (8, .ptr 0 0 0), (9, .ptr 1 0 0), (10, .sl 2 0 0 w.length), (11, .int .i64 0), (12, .int .i64 (ofS p nd w i).1), (13, .int .i64 (i : Int))] [some (⟨0, 1, 1, [.int .i64 0, .nils]⟩), some (⟨0, 1, 1, [.int .i64 p, .nils]⟩), some (⟨0, 2, 1, (ofS p nd w i).2.map (V.int .i64)⟩)] (resM Tryz.f98)) nd.length ?_ ?_ 0 _ (by omega) rfl ?_
      · intro i hi next
        have ii : (i : Int) < nd.length := by omega
        have iw : i < w.length := by omega
        have iiw : (i : Int) < w.length := by omega
        have w3 : IntKind.i64.wrap ((i : Int) + 1) = (i : Int) + 1 := IntWalk.i64_in _ (by omega)
        have e1 : (ofS p nd w (i + 1)).1 = (IntKind.i64.wrap ((ofS p nd w i).1 + rdI (ofS p nd w i).2 i)).tmod p := rfl
        have e2 : (ofS p nd w (i + 1)).2 = (ofS p nd w i).2.set i ((IntKind.i64.wrap (rdI (ofS p nd w i).2 i * rdI nd i)).tmod p) := rfl
        have lS := ofS_len p nd w i
        rw [e1, e2] at next
        generalize (ofS p nd w i).1 = x at *
        generalize (ofS p nd w i).2 = L at *
        simp [go_sem, -map_replicate, -map_set, -map_append, -map_reverse, -map_take, -map_drop, -map_tail, -any_map, -all_map, -mapM_map, -map_map, slL, szI, ldI, zI, undL, apL, setI, rdI_get, Nat.add_one_le_iff, fillV, zeros1, zeros0, appendD, segV, lvO, goneOf, sliceD, bound, Nat.add_assoc, szL, ldL, setCs0, setCs1, setCs2, setCsA2, setCsA3, ldM, fM0, fM1, szM, zM, plM0, plM1, agM, paM, ldJ, fJ0, fJ1, fJ2, szJ, zJ, plJ0, plJ1, plJ2, agJ, paJ, hi, ii, iw, iiw, w3, lS, p0]
        repeat refine ⟨by kernel_rfl, by kernel_rfl, ?_⟩
        refine next _ rfl ?_
        (refine canon_mk ?_; simp [method_specs_simp, ordIds_app, ordRen_app, ordIds_app2, ordRen_app2, -map_replicate, -map_set, -map_append, -map_reverse, -map_take, -map_drop, -map_tail, -map_map])
      · have lS := ofS_len p nd w nd.length
        generalize (ofS p nd w nd.length).1 = x at *
        generalize (ofS p nd w nd.length).2 = L at *
        simp [go_sem, -map_replicate, -map_set, -map_append, -map_reverse, -map_take, -map_drop, -map_tail, -any_map, -all_map, -mapM_map, -map_map, slL, szI, ldI, zI, undL, apL, setI, rdI_get, Nat.add_one_le_iff, fillV, zeros1, zeros0, appendD, segV, lvO, goneOf, sliceD, bound, Nat.add_assoc, szL, ldL, setCs0, setCs1, setCs2, setCsA2, setCsA3, ldM, fM0, fM1, szM, zM, plM0, plM1, agM, paM, ldJ, fJ0, fJ1, fJ2, szJ, zJ, plJ0, plJ1, plJ2, agJ, paJ, lS, wz1, zeros1, fillV]
        repeat refine ⟨by kernel_rfl, by kernel_rfl, ?_⟩
        refine next _ rfl ?_
        (refine canon_mk ?_; simp [method_specs_simp, ordIds_app, ordRen_app, ordIds_app2, ordRen_app2, -map_replicate, -map_set, -map_append, -map_reverse, -map_take, -map_drop, -map_tail, -map_map])
      · (refine canon_mk ?_; simp [method_specs_simp, ordIds_app, ordRen_app, ordIds_app2, ordRen_app2, -map_replicate, -map_set, -map_append, -map_reverse, -map_take, -map_drop, -map_tail, -map_map, ofS])
    · have hk0 : (k : Int) + 1 < n := by omega
      have w1 : IntKind.i64.wrap ((k : Int) + 1 + 1) = (k : Int) + 1 + 1 := IntWalk.i64_in _ (by omega)
      have c3 : (k + 2) * 8 ≤ 140737488355328 := by omega
      have eL : ofL p nd w (k + 2) = ofL p nd w (k + 1) ++ [(ofS p nd (ofP p nd w (k + 1)) nd.length).1] := tab_succ _ _
      have eP : ofP p nd w (k + 2) = (ofS p nd (ofP p nd w (k + 1)) nd.length).2 := rfl
      have lL := ofL_len p nd w (k + 1)
      have lP := ofP_len p nd w (k + 1)
      dsimp only at next ⊢
      simp only [Nat.add_assoc, Nat.reduceAdd, Int.natCast_add, Int.cast_ofNat_Int] at next
      rw [eL, eP] at next
      clear eL eP
      generalize ofP p nd w (k + 1) = W at *
      generalize ofL p nd w (k + 1) = R at *
      simp [go_sem, -map_replicate, -map_set, -map_append, -map_reverse, -map_take, -map_drop, -map_tail, -any_map, -all_map, -mapM_map, -map_map, slL, szI, ldI, zI, undL, apL, setI, rdI_get, Nat.add_one_le_iff, fillV, zeros1, zeros0, appendD, segV, lvO, goneOf, sliceD, bound, Nat.add_assoc, szL, ldL, setCs0, setCs1, setCs2, setCsA2, setCsA3, ldM, fM0, fM1, szM, zM, plM0, plM1, agM, paM, ldJ, fJ0, fJ1, fJ2, szJ, zJ, plJ0, plJ1, plJ2, agJ, paJ, hk0]
      repeat refine ⟨by kernel_rfl, by kernel_rfl, ?_⟩
      rw [WL_loop]
      refine WL_for (keep := [0, 1, 3, 8, 9, 10, 11, 12, 13]) (rs := resM Tryz.f98) rfl (by kernel_rfl) (fun i => mkSt [(0, .int .i64 p), (1, (V.list (List.length (nd)) (List.map (V.int .i64) (nd)))), (3, .int .i64 n), (8, .ptr 0 0 0), (9, .ptr 1 0 0), (10, .sl 2 0 0 w.length), (11, .int .i64 ((k : Int) + 1)), (12, .int .i64 (ofS p nd W i).1), (13, .int .i64 (i : Int))] [some (⟨0, 1, 1, [.int .i64 0, .nils]⟩), some (⟨0, 1, 1, [.int .i64 p, .sl 3 0 0 (k + 1)]⟩), some (⟨0, 2, 1, (ofS p nd W i).2.map (V.int .i64)⟩), some (⟨0, 2, 1, R.map (V.int .i64)⟩)] (resM Tryz.f98)) nd.length ?_ ?_ 0 _ (by omega) rfl ?_
      · intro i hi next
        have ii : (i : Int) < nd.length := by omega
        have iw : i < w.length := by omega
        have iiw : (i : Int) < w.length := by omega
        have w3 : IntKind.i64.wrap ((i : Int) + 1) = (i : Int) + 1 := IntWalk.i64_in _ (by omega)
        have e1 : (ofS p nd W (i + 1)).1 = (IntKind.i64.wrap ((ofS p nd W i).1 + rdI (ofS p nd W i).2 i)).tmod p := rfl
        have e2 : (ofS p nd W (i + 1)).2 = (ofS p nd W i).2.set i ((IntKind.i64.wrap (rdI (ofS p nd W i).2 i * rdI nd i)).tmod p) := rfl
        have lS := ofS_len p nd W i
        rw [lP] at lS
        rw [e1, e2] at next
        generalize (ofS p nd W i).1 = x at *
        generalize (ofS p nd W i).2 = L at *
        simp [go_sem, -map_replicate, -map_set, -map_append, -map_reverse, -map_take, -map_drop, -map_tail, -any_map, -all_map, -mapM_map, -map_map, slL, szI, ldI, zI, undL, apL, setI, rdI_get, Nat.add_one_le_iff, fillV, zeros1, zeros0, appendD, segV, lvO, goneOf, sliceD, bound, Nat.add_assoc, szL, ldL, setCs0, setCs1, setCs2, setCsA2, setCsA3, ldM, fM0, fM1, szM, zM, plM0, plM1, agM, paM, ldJ, fJ0, fJ1, fJ2, szJ, zJ, plJ0, plJ1, plJ2, agJ, paJ, hi, ii, iw, iiw, w3, lS, lL, p0]
        repeat refine ⟨by kernel_rfl, by kernel_rfl, ?_⟩
        refine next _ rfl ?_
        (refine canon_mk ?_; simp [method_specs_simp, ordIds_app, ordRen_app, ordIds_app2, ordRen_app2, -map_replicate, -map_set, -map_append, -map_reverse, -map_take, -map_drop, -map_tail, -map_map])
      · have lS := ofS_len p nd W nd.length
        rw [lP] at lS
        generalize (ofS p nd W nd.length).1 = x at *
        generalize (ofS p nd W nd.length).2 = L at *
        simp [go_sem, -map_replicate, -map_set, -map_append, -map_reverse, -map_take, -map_drop, -map_tail, -any_map, -all_map, -mapM_map, -map_map, slL, szI, ldI, zI, undL, apL, setI, rdI_get, Nat.add_one_le_iff, fillV, zeros1, zeros0, appendD, segV, lvO, goneOf, sliceD, bound, Nat.add_assoc, szL, ldL, setCs0, setCs1, setCs2, setCsA2, setCsA3, ldM, fM0, fM1, szM, zM, plM0, plM1, agM, paM, ldJ, fJ0, fJ1, fJ2, szJ, zJ, plJ0, plJ1, plJ2, agJ, paJ, lS, lL, w1, c3, zeros1, fillV]
        repeat refine ⟨by kernel_rfl, by kernel_rfl, ?_⟩
        refine next _ rfl ?_
        (refine canon_mk ?_; simp [method_specs_simp, ordIds_app, ordRen_app, ordIds_app2, ordRen_app2, -map_replicate, -map_set, -map_append, -map_reverse, -map_take, -map_drop, -map_tail, -map_map])
      · (refine canon_mk ?_; simp [method_specs_simp, ordIds_app, ordRen_app, ordIds_app2, ordRen_app2, -map_replicate, -map_set, -map_append, -map_reverse, -map_take, -map_drop, -map_tail, -map_map, ofS])
  · have nn : ¬ (N : Int) < n := by omega
    rcases N with _ | k
    · have nn : ¬ (0 : Int) < n := by omega
      dsimp only
      simp [go_sem, -map_replicate, -map_set, -map_append, -map_reverse, -map_take, -map_drop, -map_tail, -any_map, -all_map, -mapM_map, -map_map, slL, szI, ldI, zI, undL, apL, setI, rdI_get, Nat.add_one_le_iff, fillV, zeros1, zeros0, appendD, segV, lvO, goneOf, sliceD, bound, Nat.add_assoc, szL, ldL, setCs0, setCs1, setCs2, setCsA2, setCsA3, ldM, fM0, fM1, szM, zM, plM0, plM1, agM, paM, ldJ, fJ0, fJ1, fJ2, szJ, zJ, plJ0, plJ1, plJ2, agJ, paJ, nn]
      repeat refine ⟨by kernel_rfl, by kernel_rfl, ?_⟩
      simp [mvcgen_simp, -map_replicate, -map_set, -map_append, -map_reverse, -map_take, -map_drop, -map_tail, -any_map, -all_map, -mapM_map, -map_map, Tryz.f98, szL, ldL, setCs0, setCs1, setCs2, setCsA2, setCsA3, ldM, fM0, fM1, szM, zM, plM0, plM1, agM, paM, ldJ, fJ0, fJ1, fJ2, szJ, zJ, plJ0, plJ1, plJ2, agJ, paJ, ctM, loadD, viewN, isLR, hasU, ofL, tab]
    · have nn : ¬ (k : Int) + 1 < n := by omega
      have lL := ofL_len p nd w (k + 1)
      have lP := ofP_len p nd w (k + 1)
      dsimp only
      simp [go_sem, -map_replicate, -map_set, -map_append, -map_reverse, -map_take, -map_drop, -map_tail, -any_map, -all_map, -mapM_map, -map_map, slL, szI, ldI, zI, undL, apL, setI, rdI_get, Nat.add_one_le_iff, fillV, zeros1, zeros0, appendD, segV, lvO, goneOf, sliceD, bound, Nat.add_assoc, szL, ldL, setCs0, setCs1, setCs2, setCsA2, setCsA3, ldM, fM0, fM1, szM, zM, plM0, plM1, agM, paM, ldJ, fJ0, fJ1, fJ2, szJ, zJ, plJ0, plJ1, plJ2, agJ, paJ, nn, lL]
      repeat refine ⟨by kernel_rfl, by kernel_rfl, ?_⟩
      simp [mvcgen_simp, -map_replicate, -map_set, -map_append, -map_reverse, -map_take, -map_drop, -map_tail, -any_map, -all_map, -mapM_map, -map_map, Tryz.f98, szL, ldL, setCs0, setCs1, setCs2, setCsA2, setCsA3, ldM, fM0, fM1, szM, zM, plM0, plM1, agM, paM, ldJ, fJ0, fJ1, fJ2, szJ, zJ, plJ0, plJ1, plJ2, agJ, paJ, ctM, loadD, viewN, isLR, hasU, lL]
  · (refine canon_mk ?_; simp [method_specs_simp, ordIds_app, ordRen_app, ordIds_app2, ordRen_app2, -map_replicate, -map_set, -map_append, -map_reverse, -map_take, -map_drop, -map_tail, -map_map])
end Go.Proofs.YtacfkfdnncgjcaaGreat.Ev

set_option linter.unusedSimpArgs false
set_option linter.unusedVariables false
namespace Go.Proofs.YtacfkfdnncgjcaaGreat.Ev
open Go Go.Proofs
open List (map_replicate map_set map_append map_reverse map_take map_drop map_tail any_map all_map mapM_map map_map)
set_option maxRecDepth 4000
set_option maxHeartbeats 4000000

theorem run_l02Named0 (s : ByteArray) (p n : Int) (hn : n ≤ 0) :
    runv E1 92 [.str s, .int .i64 p, .int .i64 n] = some ⟨true, .tup [(V.uniq 1 (List.length (([] : List Int))) (List.map (V.int .i64) (([] : List Int)))), .bool true], [.undef, .undef, .undef]⟩ := by
  have n0 : ¬ (0 : Int) < n := by omega
  have cdk : codeOk Tryz.f92.ntmps (Tryz.f92.body.getD .skip) = true := by kernel_rfl
  refine run_of_WLr (fn := Tryz.f92) rfl Tryz.func92 rfl ⟨by simp [Tryz.ntmps92], by simp [wideA, ints], cdk, by simp [Tryz.f92]⟩ rfl (by simp [rebOk, noId, adoptT, adoptA, adoptL, adoptC, depth]) ?_
  simp [go_sem, -map_replicate, -map_set, -map_append, -map_reverse, -map_take, -map_drop, -map_tail, -any_map, -all_map, -mapM_map, -map_map, slL, szI, ldI, zI, undL, apL, setI, rdI_get, Nat.add_one_le_iff, fillV, zeros1, zeros0, appendD, segV, lvO, goneOf, sliceD, bound, Nat.add_assoc, szL, ldL, setCs0, setCs1, setCs2, setCsA2, setCsA3, ldM, fM0, fM1, szM, zM, plM0, plM1, agM, paM, ldJ, fJ0, fJ1, fJ2, szJ, zJ, plJ0, plJ1, plJ2, agJ, paJ, wz1]
  repeat refine ⟨by kernel_rfl, by kernel_rfl, ?_⟩
  rw [WL_loop]
  refine WL_for (keep := [0, 1, 2, 8, 9, 10]) (rs := resM Tryz.f92) rfl (by kernel_rfl) (fun i => mkSt [(0, .str s), (1, .int .i64 p), (2, .int .i64 n), (8, .nils), (9, .sl 0 0 0 1), (10, .int .i64 0)] [some (⟨0, 2, 1, [.int .i64 1]⟩)] (resM Tryz.f92)) 0 ?_ ?_ 0 _ (by omega) rfl ?_
  · intro i hi; omega
  · simp [go_sem, -map_replicate, -map_set, -map_append, -map_reverse, -map_take, -map_drop, -map_tail, -any_map, -all_map, -mapM_map, -map_map, slL, szI, ldI, zI, undL, apL, setI, rdI_get, Nat.add_one_le_iff, fillV, zeros1, zeros0, appendD, segV, lvO, goneOf, sliceD, bound, Nat.add_assoc, szL, ldL, setCs0, setCs1, setCs2, setCsA2, setCsA3, ldM, fM0, fM1, szM, zM, plM0, plM1, agM, paM, ldJ, fJ0, fJ1, fJ2, szJ, zJ, plJ0, plJ1, plJ2, agJ, paJ, n0]
    simp [mvcgen_simp, -map_replicate, -map_set, -map_append, -map_reverse, -map_take, -map_drop, -map_tail, -any_map, -all_map, -mapM_map, -map_map, Tryz.f92]
  · (refine canon_mk ?_; simp [method_specs_simp, ordIds_app, ordRen_app, ordIds_app2, ordRen_app2, -map_replicate, -map_set, -map_append, -map_reverse, -map_take, -map_drop, -map_tail, -map_map])
theorem run_l02NamedX (s : ByteArray) (p n : Int) (hp : 2 ≤ p ∧ p ≤ 10007) (hn : n ≤ 25) (hm : ¬ mk s = 0) : ∃ (l : List Int) (ok : Bool), l.length ≤ 25 ∧
    runv E1 92 [.str s, .int .i64 p, .int .i64 n] = some ⟨true, .tup [(V.uniq 1 (List.length (l)) (List.map (V.int .i64) (l))), .bool ok], [.undef, .undef, .undef]⟩ := by
  by_cases h : n ≤ 0
  · exact ⟨[], true, by simp, run_l02Named0 s p n h⟩
  · obtain ⟨k, rfl⟩ : ∃ k : Nat, n = k := ⟨n.toNat, by omega⟩
    refine ⟨_, _, ?_, run_l02Named s p k hp (by omega) hm⟩
    split
    · rw [nmL_len]; omega
    · simp
theorem zerosS5D : zerosV 5 [V.str ⟨#[]⟩] = [V.str ⟨#[]⟩, V.str ⟨#[]⟩, V.str ⟨#[]⟩, V.str ⟨#[]⟩, V.str ⟨#[]⟩] := rfl
theorem run_l02DrawOf (s : Src) (p n : Int) (hp : 2 ≤ p ∧ p ≤ 10007) (hn : n ≤ 25) (hn2 : -4611686018427387904 ≤ n) : ∃ (s' : Src) (l : List Int), l.length ≤ 25 ∧
    runv E1 185 [(V.uptr [V.list (s).code.length ((s).code.map (V.int .u8)), V.int .i64 (s).i, V.int .u64 (s).h]), (V.int .i64 (p)), (V.int .i64 (n))] = some ⟨true, (V.agg [V.int .i64 (p), (V.uniq 1 (List.length (l)) (List.map (V.int .i64) (l)))]), [(V.uptr [V.list (s').code.length ((s').code.map (V.int .u8)), V.int .i64 (s').i, V.int .u64 (s').h]), .undef, .undef]⟩ := by
  obtain ⟨s1, x, _, hx, h1⟩ := run_l01Next s 4
  have hx := hx (by omega)
  have w0 : IntKind.i64.wrap n = n := IntWalk.i64_in _ (by omega)
  by_cases x0 : x = 0
  · subst x0
    obtain ⟨s2, nd, hnd, h2⟩ := run_l02DrawNodes s1 p 6 hp (by omega)
    have w1 : IntKind.i64.wrap (nd.length : Int) = nd.length := IntWalk.i64_in _ (by omega)
    obtain ⟨s3, w, hw, h3⟩ := run_l02Weights s2 p nd.length (by omega) hp
    have h4 := run_l02Of p n nd w hp (by omega) (by omega)
    have lL := ofL_len p nd w n.toNat
    refine ⟨s3, ofL p nd w n.toNat, by omega, ?_⟩
    generalize ofL p nd w n.toNat = R at *
    have cdk : codeOk Tryz.f185.ntmps (Tryz.f185.body.getD .skip) = true := by kernel_rfl
    refine run_of_WLp (fn := Tryz.f185) rfl Tryz.func185 rfl ⟨by simp [Tryz.ntmps185], by simp [wideA, ints], cdk, by simp [Tryz.f185]⟩ rfl (by simp [rebOk, noId, adoptT, adoptA, adoptL, adoptC, depth]) (by simp [pinned, adoptT, adoptA, adoptL, adoptC]) ?_
    simp [go_sem, -map_replicate, -map_set, -map_append, -map_reverse, -map_take, -map_drop, -map_tail, -any_map, -all_map, -mapM_map, -map_map, slL, szI, ldI, zI, undL, apL, setI, rdI_get, Nat.add_one_le_iff, fillV, zeros1, zeros0, appendD, segV, lvO, goneOf, sliceD, bound, Nat.add_assoc, szL, ldL, setCs0, setCs1, setCs2, setCsA2, setCsA3, ldM, fM0, fM1, szM, zM, plM0, plM1, agM, paM, ldJ, fJ0, fJ1, fJ2, szJ, zJ, plJ0, plJ1, plJ2, agJ, paJ, h1, h2, h3, h4, w1, undI64, undInt, convD]
    repeat refine ⟨by kernel_rfl, by kernel_rfl, ?_⟩
    simp [mvcgen_simp, -map_replicate, -map_set, -map_append, -map_reverse, -map_take, -map_drop, -map_tail, -any_map, -all_map, -mapM_map, -map_map, Tryz.f185, szL, ldL, setCs0, setCs1, setCs2, setCsA2, setCsA3, ldM, fM0, fM1, szM, zM, plM0, plM1, agM, paM, ldJ, fJ0, fJ1, fJ2, szJ, zJ, plJ0, plJ1, plJ2, agJ, paJ, ctM, loadD, viewN, isLR, hasU]
  by_cases x1 : x = 1
  · subst x1
    obtain ⟨s2, k, _, hk, h2⟩ := run_l01Next s1 5
    have hk := hk (by omega)
    obtain ⟨s3, w, hw, h3⟩ := run_l02Weights s2 p n (by omega) hp
    have : k = 0 ∨ k = 1 ∨ k = 2 ∨ k = 3 ∨ k = 4 := by omega
    rcases this with rfl | rfl | rfl | rfl | rfl
    · obtain ⟨l, ok, hl, h4⟩ := run_l02NamedX ⟨#[117, 110, 105, 102, 111, 114, 109]⟩ p n hp hn (by decide +kernel)
      cases ok with
      | true =>
        refine ⟨s2, l, hl, ?_⟩
        have cdk : codeOk Tryz.f185.ntmps (Tryz.f185.body.getD .skip) = true := by kernel_rfl
        refine run_of_WLp (fn := Tryz.f185) rfl Tryz.func185 rfl ⟨by simp [Tryz.ntmps185], by simp [wideA, ints], cdk, by simp [Tryz.f185]⟩ rfl (by simp [rebOk, noId, adoptT, adoptA, adoptL, adoptC, depth]) (by simp [pinned, adoptT, adoptA, adoptL, adoptC]) ?_
        simp [go_sem, -map_replicate, -map_set, -map_append, -map_reverse, -map_take, -map_drop, -map_tail, -any_map, -all_map, -mapM_map, -map_map, slL, szI, ldI, zI, undL, apL, setI, rdI_get, Nat.add_one_le_iff, fillV, zeros1, zeros0, appendD, segV, lvO, goneOf, sliceD, bound, Nat.add_assoc, szL, ldL, setCs0, setCs1, setCs2, setCsA2, setCsA3, ldM, fM0, fM1, szM, zM, plM0, plM1, agM, paM, ldJ, fJ0, fJ1, fJ2, szJ, zJ, plJ0, plJ1, plJ2, agJ, paJ, h1, h2, h4, slStrD, ldStrD, undStrSD, zStrD, szStrD, zerosS5D, fillV, List.replicate]
        repeat refine ⟨by kernel_rfl, by kernel_rfl, ?_⟩
        simp [mvcgen_simp, -map_replicate, -map_set, -map_append, -map_reverse, -map_take, -map_drop, -map_tail, -any_map, -all_map, -mapM_map, -map_map, Tryz.f185, szL, ldL, setCs0, setCs1, setCs2, setCsA2, setCsA3, ldM, fM0, fM1, szM, zM, plM0, plM1, agM, paM, ldJ, fJ0, fJ1, fJ2, szJ, zJ, plJ0, plJ1, plJ2, agJ, paJ, ctM, loadD, viewN, isLR, hasU]
      | false =>
        refine ⟨s3, w, by omega, ?_⟩
        have cdk : codeOk Tryz.f185.ntmps (Tryz.f185.body.getD .skip) = true := by kernel_rfl
        refine run_of_WLp (fn := Tryz.f185) rfl Tryz.func185 rfl ⟨by simp [Tryz.ntmps185], by simp [wideA, ints], cdk, by simp [Tryz.f185]⟩ rfl (by simp [rebOk, noId, adoptT, adoptA, adoptL, adoptC, depth]) (by simp [pinned, adoptT, adoptA, adoptL, adoptC]) ?_
        simp [go_sem, -map_replicate, -map_set, -map_append, -map_reverse, -map_take, -map_drop, -map_tail, -any_map, -all_map, -mapM_map, -map_map, slL, szI, ldI, zI, undL, apL, setI, rdI_get, Nat.add_one_le_iff, fillV, zeros1, zeros0, appendD, segV, lvO, goneOf, sliceD, bound, Nat.add_assoc, szL, ldL, setCs0, setCs1, setCs2, setCsA2, setCsA3, ldM, fM0, fM1, szM, zM, plM0, plM1, agM, paM, ldJ, fJ0, fJ1, fJ2, szJ, zJ, plJ0, plJ1, plJ2, agJ, paJ, h1, h2, h3, h4, w0, undI64, undInt, convD, slStrD, ldStrD, undStrSD, zStrD, szStrD, zerosS5D, fillV, List.replicate]
        repeat refine ⟨by kernel_rfl, by kernel_rfl, ?_⟩
        simp [mvcgen_simp, -map_replicate, -map_set, -map_append, -map_reverse, -map_take, -map_drop, -map_tail, -any_map, -all_map, -mapM_map, -map_map, Tryz.f185, szL, ldL, setCs0, setCs1, setCs2, setCsA2, setCsA3, ldM, fM0, fM1, szM, zM, plM0, plM1, agM, paM, ldJ, fJ0, fJ1, fJ2, szJ, zJ, plJ0, plJ1, plJ2, agJ, paJ, ctM, loadD, viewN, isLR, hasU]
    · obtain ⟨l, ok, hl, h4⟩ := run_l02NamedX ⟨#[108, 97, 103, 117, 101, 114, 114, 101]⟩ p n hp hn (by decide +kernel)
      cases ok with
      | true =>
        refine ⟨s2, l, hl, ?_⟩
        have cdk : codeOk Tryz.f185.ntmps (Tryz.f185.body.getD .skip) = true := by kernel_rfl
        refine run_of_WLp (fn := Tryz.f185) rfl Tryz.func185 rfl ⟨by simp [Tryz.ntmps185], by simp [wideA, ints], cdk, by simp [Tryz.f185]⟩ rfl (by simp [rebOk, noId, adoptT, adoptA, adoptL, adoptC, depth]) (by simp [pinned, adoptT, adoptA, adoptL, adoptC]) ?_
        simp [go_sem, -map_replicate, -map_set, -map_append, -map_reverse, -map_take, -map_drop, -map_tail, -any_map, -all_map, -mapM_map, -map_map, slL, szI, ldI, zI, undL, apL, setI, rdI_get, Nat.add_one_le_iff, fillV, zeros1, zeros0, appendD, segV, lvO, goneOf, sliceD, bound, Nat.add_assoc, szL, ldL, setCs0, setCs1, setCs2, setCsA2, setCsA3, ldM, fM0, fM1, szM, zM, plM0, plM1, agM, paM, ldJ, fJ0, fJ1, fJ2, szJ, zJ, plJ0, plJ1, plJ2, agJ, paJ, h1, h2, h4, slStrD, ldStrD, undStrSD, zStrD, szStrD, zerosS5D, fillV, List.replicate]
        repeat refine ⟨by kernel_rfl, by kernel_rfl, ?_⟩
        simp [mvcgen_simp, -map_replicate, -map_set, -map_append, -map_reverse, -map_take, -map_drop, -map_tail, -any_map, -all_map, -mapM_map, -map_map, Tryz.f185, szL, ldL, setCs0, setCs1, setCs2, setCsA2, setCsA3, ldM, fM0, fM1, szM, zM, plM0, plM1, agM, paM, ldJ, fJ0, fJ1, fJ2, szJ, zJ, plJ0, plJ1, plJ2, agJ, paJ, ctM, loadD, viewN, isLR, hasU]
      | false =>
        refine ⟨s3, w, by omega, ?_⟩
        have cdk : codeOk Tryz.f185.ntmps (Tryz.f185.body.getD .skip) = true := by kernel_rfl
        refine run_of_WLp (fn := Tryz.f185) rfl Tryz.func185 rfl ⟨by simp [Tryz.ntmps185], by simp [wideA, ints], cdk, by simp [Tryz.f185]⟩ rfl (by simp [rebOk, noId, adoptT, adoptA, adoptL, adoptC, depth]) (by simp [pinned, adoptT, adoptA, adoptL, adoptC]) ?_
        simp [go_sem, -map_replicate, -map_set, -map_append, -map_reverse, -map_take, -map_drop, -map_tail, -any_map, -all_map, -mapM_map, -map_map, slL, szI, ldI, zI, undL, apL, setI, rdI_get, Nat.add_one_le_iff, fillV, zeros1, zeros0, appendD, segV, lvO, goneOf, sliceD, bound, Nat.add_assoc, szL, ldL, setCs0, setCs1, setCs2, setCsA2, setCsA3, ldM, fM0, fM1, szM, zM, plM0, plM1, agM, paM, ldJ, fJ0, fJ1, fJ2, szJ, zJ, plJ0, plJ1, plJ2, agJ, paJ, h1, h2, h3, h4, w0, undI64, undInt, convD, slStrD, ldStrD, undStrSD, zStrD, szStrD, zerosS5D, fillV, List.replicate]
        repeat refine ⟨by kernel_rfl, by kernel_rfl, ?_⟩
        simp [mvcgen_simp, -map_replicate, -map_set, -map_append, -map_reverse, -map_take, -map_drop, -map_tail, -any_map, -all_map, -mapM_map, -map_map, Tryz.f185, szL, ldL, setCs0, setCs1, setCs2, setCsA2, setCsA3, ldM, fM0, fM1, szM, zM, plM0, plM1, agM, paM, ldJ, fJ0, fJ1, fJ2, szJ, zJ, plJ0, plJ1, plJ2, agJ, paJ, ctM, loadD, viewN, isLR, hasU]
    · obtain ⟨l, ok, hl, h4⟩ := run_l02NamedX ⟨#[104, 101, 114, 109, 105, 116, 101]⟩ p n hp hn (by decide +kernel)
      cases ok with
      | true =>
        refine ⟨s2, l, hl, ?_⟩
        have cdk : codeOk Tryz.f185.ntmps (Tryz.f185.body.getD .skip) = true := by kernel_rfl
        refine run_of_WLp (fn := Tryz.f185) rfl Tryz.func185 rfl ⟨by simp [Tryz.ntmps185], by simp [wideA, ints], cdk, by simp [Tryz.f185]⟩ rfl (by simp [rebOk, noId, adoptT, adoptA, adoptL, adoptC, depth]) (by simp [pinned, adoptT, adoptA, adoptL, adoptC]) ?_
        simp [go_sem, -map_replicate, -map_set, -map_append, -map_reverse, -map_take, -map_drop, -map_tail, -any_map, -all_map, -mapM_map, -map_map, slL, szI, ldI, zI, undL, apL, setI, rdI_get, Nat.add_one_le_iff, fillV, zeros1, zeros0, appendD, segV, lvO, goneOf, sliceD, bound, Nat.add_assoc, szL, ldL, setCs0, setCs1, setCs2, setCsA2, setCsA3, ldM, fM0, fM1, szM, zM, plM0, plM1, agM, paM, ldJ, fJ0, fJ1, fJ2, szJ, zJ, plJ0, plJ1, plJ2, agJ, paJ, h1, h2, h4, slStrD, ldStrD, undStrSD, zStrD, szStrD, zerosS5D, fillV, List.replicate]
        repeat refine ⟨by kernel_rfl, by kernel_rfl, ?_⟩
        simp [mvcgen_simp, -map_replicate, -map_set, -map_append, -map_reverse, -map_take, -map_drop, -map_tail, -any_map, -all_map, -mapM_map, -map_map, Tryz.f185, szL, ldL, setCs0, setCs1, setCs2, setCsA2, setCsA3, ldM, fM0, fM1, szM, zM, plM0, plM1, agM, paM, ldJ, fJ0, fJ1, fJ2, szJ, zJ, plJ0, plJ1, plJ2, agJ, paJ, ctM, loadD, viewN, isLR, hasU]
      | false =>
        refine ⟨s3, w, by omega, ?_⟩
        have cdk : codeOk Tryz.f185.ntmps (Tryz.f185.body.getD .skip) = true := by kernel_rfl
        refine run_of_WLp (fn := Tryz.f185) rfl Tryz.func185 rfl ⟨by simp [Tryz.ntmps185], by simp [wideA, ints], cdk, by simp [Tryz.f185]⟩ rfl (by simp [rebOk, noId, adoptT, adoptA, adoptL, adoptC, depth]) (by simp [pinned, adoptT, adoptA, adoptL, adoptC]) ?_
        simp [go_sem, -map_replicate, -map_set, -map_append, -map_reverse, -map_take, -map_drop, -map_tail, -any_map, -all_map, -mapM_map, -map_map, slL, szI, ldI, zI, undL, apL, setI, rdI_get, Nat.add_one_le_iff, fillV, zeros1, zeros0, appendD, segV, lvO, goneOf, sliceD, bound, Nat.add_assoc, szL, ldL, setCs0, setCs1, setCs2, setCsA2, setCsA3, ldM, fM0, fM1, szM, zM, plM0, plM1, agM, paM, ldJ, fJ0, fJ1, fJ2, szJ, zJ, plJ0, plJ1, plJ2, agJ, paJ, h1, h2, h3, h4, w0, undI64, undInt, convD, slStrD, ldStrD, undStrSD, zStrD, szStrD, zerosS5D, fillV, List.replicate]
        repeat refine ⟨by kernel_rfl, by kernel_rfl, ?_⟩
        simp [mvcgen_simp, -map_replicate, -map_set, -map_append, -map_reverse, -map_take, -map_drop, -map_tail, -any_map, -all_map, -mapM_map, -map_map, Tryz.f185, szL, ldL, setCs0, setCs1, setCs2, setCsA2, setCsA3, ldM, fM0, fM1, szM, zM, plM0, plM1, agM, paM, ldJ, fJ0, fJ1, fJ2, szJ, zJ, plJ0, plJ1, plJ2, agJ, paJ, ctM, loadD, viewN, isLR, hasU]
    · obtain ⟨l, ok, hl, h4⟩ := run_l02NamedX ⟨#[99, 97, 116, 97, 108, 97, 110]⟩ p n hp hn (by decide +kernel)
      cases ok with
      | true =>
        refine ⟨s2, l, hl, ?_⟩
        have cdk : codeOk Tryz.f185.ntmps (Tryz.f185.body.getD .skip) = true := by kernel_rfl
        refine run_of_WLp (fn := Tryz.f185) rfl Tryz.func185 rfl ⟨by simp [Tryz.ntmps185], by simp [wideA, ints], cdk, by simp [Tryz.f185]⟩ rfl (by simp [rebOk, noId, adoptT, adoptA, adoptL, adoptC, depth]) (by simp [pinned, adoptT, adoptA, adoptL, adoptC]) ?_
        simp [go_sem, -map_replicate, -map_set, -map_append, -map_reverse, -map_take, -map_drop, -map_tail, -any_map, -all_map, -mapM_map, -map_map, slL, szI, ldI, zI, undL, apL, setI, rdI_get, Nat.add_one_le_iff, fillV, zeros1, zeros0, appendD, segV, lvO, goneOf, sliceD, bound, Nat.add_assoc, szL, ldL, setCs0, setCs1, setCs2, setCsA2, setCsA3, ldM, fM0, fM1, szM, zM, plM0, plM1, agM, paM, ldJ, fJ0, fJ1, fJ2, szJ, zJ, plJ0, plJ1, plJ2, agJ, paJ, h1, h2, h4, slStrD, ldStrD, undStrSD, zStrD, szStrD, zerosS5D, fillV, List.replicate]
        repeat refine ⟨by kernel_rfl, by kernel_rfl, ?_⟩
        simp [mvcgen_simp, -map_replicate, -map_set, -map_append, -map_reverse, -map_take, -map_drop, -map_tail, -any_map, -all_map, -mapM_map, -map_map, Tryz.f185, szL, ldL, setCs0, setCs1, setCs2, setCsA2, setCsA3, ldM, fM0, fM1, szM, zM, plM0, plM1, agM, paM, ldJ, fJ0, fJ1, fJ2, szJ, zJ, plJ0, plJ1, plJ2, agJ, paJ, ctM, loadD, viewN, isLR, hasU]
      | false =>
        refine ⟨s3, w, by omega, ?_⟩
        have cdk : codeOk Tryz.f185.ntmps (Tryz.f185.body.getD .skip) = true := by kernel_rfl
        refine run_of_WLp (fn := Tryz.f185) rfl Tryz.func185 rfl ⟨by simp [Tryz.ntmps185], by simp [wideA, ints], cdk, by simp [Tryz.f185]⟩ rfl (by simp [rebOk, noId, adoptT, adoptA, adoptL, adoptC, depth]) (by simp [pinned, adoptT, adoptA, adoptL, adoptC]) ?_
        simp [go_sem, -map_replicate, -map_set, -map_append, -map_reverse, -map_take, -map_drop, -map_tail, -any_map, -all_map, -mapM_map, -map_map, slL, szI, ldI, zI, undL, apL, setI, rdI_get, Nat.add_one_le_iff, fillV, zeros1, zeros0, appendD, segV, lvO, goneOf, sliceD, bound, Nat.add_assoc, szL, ldL, setCs0, setCs1, setCs2, setCsA2, setCsA3, ldM, fM0, fM1, szM, zM, plM0, plM1, agM, paM, ldJ, fJ0, fJ1, fJ2, szJ, zJ, plJ0, plJ1, plJ2, agJ, paJ, h1, h2, h3, h4, w0, undI64, undInt, convD, slStrD, ldStrD, undStrSD, zStrD, szStrD, zerosS5D, fillV, List.replicate]
        repeat refine ⟨by kernel_rfl, by kernel_rfl, ?_⟩
        simp [mvcgen_simp, -map_replicate, -map_set, -map_append, -map_reverse, -map_take, -map_drop, -map_tail, -any_map, -all_map, -mapM_map, -map_map, Tryz.f185, szL, ldL, setCs0, setCs1, setCs2, setCsA2, setCsA3, ldM, fM0, fM1, szM, zM, plM0, plM1, agM, paM, ldJ, fJ0, fJ1, fJ2, szJ, zJ, plJ0, plJ1, plJ2, agJ, paJ, ctM, loadD, viewN, isLR, hasU]
    · obtain ⟨l, ok, hl, h4⟩ := run_l02NamedX ⟨#[112, 111, 105, 115, 115, 111, 110]⟩ p n hp hn (by decide +kernel)
      cases ok with
      | true =>
        refine ⟨s2, l, hl, ?_⟩
        have cdk : codeOk Tryz.f185.ntmps (Tryz.f185.body.getD .skip) = true := by kernel_rfl
        refine run_of_WLp (fn := Tryz.f185) rfl Tryz.func185 rfl ⟨by simp [Tryz.ntmps185], by simp [wideA, ints], cdk, by simp [Tryz.f185]⟩ rfl (by simp [rebOk, noId, adoptT, adoptA, adoptL, adoptC, depth]) (by simp [pinned, adoptT, adoptA, adoptL, adoptC]) ?_
        simp [go_sem, -map_replicate, -map_set, -map_append, -map_reverse, -map_take, -map_drop, -map_tail, -any_map, -all_map, -mapM_map, -map_map, slL, szI, ldI, zI, undL, apL, setI, rdI_get, Nat.add_one_le_iff, fillV, zeros1, zeros0, appendD, segV, lvO, goneOf, sliceD, bound, Nat.add_assoc, szL, ldL, setCs0, setCs1, setCs2, setCsA2, setCsA3, ldM, fM0, fM1, szM, zM, plM0, plM1, agM, paM, ldJ, fJ0, fJ1, fJ2, szJ, zJ, plJ0, plJ1, plJ2, agJ, paJ, h1, h2, h4, slStrD, ldStrD, undStrSD, zStrD, szStrD, zerosS5D, fillV, List.replicate]
        repeat refine ⟨by kernel_rfl, by kernel_rfl, ?_⟩
        simp [mvcgen_simp, -map_replicate, -map_set, -map_append, -map_reverse, -map_take, -map_drop, -map_tail, -any_map, -all_map, -mapM_map, -map_map, Tryz.f185, szL, ldL, setCs0, setCs1, setCs2, setCsA2, setCsA3, ldM, fM0, fM1, szM, zM, plM0, plM1, agM, paM, ldJ, fJ0, fJ1, fJ2, szJ, zJ, plJ0, plJ1, plJ2, agJ, paJ, ctM, loadD, viewN, isLR, hasU]
      | false =>
        refine ⟨s3, w, by omega, ?_⟩
        have cdk : codeOk Tryz.f185.ntmps (Tryz.f185.body.getD .skip) = true := by kernel_rfl
        refine run_of_WLp (fn := Tryz.f185) rfl Tryz.func185 rfl ⟨by simp [Tryz.ntmps185], by simp [wideA, ints], cdk, by simp [Tryz.f185]⟩ rfl (by simp [rebOk, noId, adoptT, adoptA, adoptL, adoptC, depth]) (by simp [pinned, adoptT, adoptA, adoptL, adoptC]) ?_
        simp [go_sem, -map_replicate, -map_set, -map_append, -map_reverse, -map_take, -map_drop, -map_tail, -any_map, -all_map, -mapM_map, -map_map, slL, szI, ldI, zI, undL, apL, setI, rdI_get, Nat.add_one_le_iff, fillV, zeros1, zeros0, appendD, segV, lvO, goneOf, sliceD, bound, Nat.add_assoc, szL, ldL, setCs0, setCs1, setCs2, setCsA2, setCsA3, ldM, fM0, fM1, szM, zM, plM0, plM1, agM, paM, ldJ, fJ0, fJ1, fJ2, szJ, zJ, plJ0, plJ1, plJ2, agJ, paJ, h1, h2, h3, h4, w0, undI64, undInt, convD, slStrD, ldStrD, undStrSD, zStrD, szStrD, zerosS5D, fillV, List.replicate]
        repeat refine ⟨by kernel_rfl, by kernel_rfl, ?_⟩
        simp [mvcgen_simp, -map_replicate, -map_set, -map_append, -map_reverse, -map_take, -map_drop, -map_tail, -any_map, -all_map, -mapM_map, -map_map, Tryz.f185, szL, ldL, setCs0, setCs1, setCs2, setCsA2, setCsA3, ldM, fM0, fM1, szM, zM, plM0, plM1, agM, paM, ldJ, fJ0, fJ1, fJ2, szJ, zJ, plJ0, plJ1, plJ2, agJ, paJ, ctM, loadD, viewN, isLR, hasU]
  · obtain ⟨s3, w, hw, h3⟩ := run_l02Weights s1 p n (by omega) hp
    refine ⟨s3, w, by omega, ?_⟩
    have cdk : codeOk Tryz.f185.ntmps (Tryz.f185.body.getD .skip) = true := by kernel_rfl
    refine run_of_WLp (fn := Tryz.f185) rfl Tryz.func185 rfl ⟨by simp [Tryz.ntmps185], by simp [wideA, ints], cdk, by simp [Tryz.f185]⟩ rfl (by simp [rebOk, noId, adoptT, adoptA, adoptL, adoptC, depth]) (by simp [pinned, adoptT, adoptA, adoptL, adoptC]) ?_
    simp [go_sem, -map_replicate, -map_set, -map_append, -map_reverse, -map_take, -map_drop, -map_tail, -any_map, -all_map, -mapM_map, -map_map, slL, szI, ldI, zI, undL, apL, setI, rdI_get, Nat.add_one_le_iff, fillV, zeros1, zeros0, appendD, segV, lvO, goneOf, sliceD, bound, Nat.add_assoc, szL, ldL, setCs0, setCs1, setCs2, setCsA2, setCsA3, ldM, fM0, fM1, szM, zM, plM0, plM1, agM, paM, ldJ, fJ0, fJ1, fJ2, szJ, zJ, plJ0, plJ1, plJ2, agJ, paJ, h1, x0, x1, h3, w0, undI64, undInt, convD]
    repeat refine ⟨by kernel_rfl, by kernel_rfl, ?_⟩
    simp [mvcgen_simp, -map_replicate, -map_set, -map_append, -map_reverse, -map_take, -map_drop, -map_tail, -any_map, -all_map, -mapM_map, -map_map, Tryz.f185, szL, ldL, setCs0, setCs1, setCs2, setCsA2, setCsA3, ldM, fM0, fM1, szM, zM, plM0, plM1, agM, paM, ldJ, fJ0, fJ1, fJ2, szJ, zJ, plJ0, plJ1, plJ2, agJ, paJ, ctM, loadD, viewN, isLR, hasU]
theorem zerosV10 : zerosV 10 [V.int .i64 0] = List.replicate 10 (.int .i64 0) := rfl
theorem run_l02Draw (s : Src) : ∃ (s' : Src) (p : Int) (l : List Int), (2 ≤ p ∧ p ≤ 10007) ∧ l.length ≤ 25 ∧
    runv E1 152 [(V.uptr [V.list (s).code.length ((s).code.map (V.int .u8)), V.int .i64 (s).i, V.int .u64 (s).h])] = some ⟨true, (V.agg [V.int .i64 (p), (V.uniq 1 (List.length (l)) (List.map (V.int .i64) (l)))]), [(V.uptr [V.list (s').code.length ((s').code.map (V.int .u8)), V.int .i64 (s').i, V.int .u64 (s').h])]⟩ := by
  obtain ⟨s1, p, hp, h1⟩ := run_l01DrawPrime s
  obtain ⟨s2, m, hm, h2⟩ := run_l01Near s1 24 (by omega)
  obtain ⟨s3, n, hn, h3⟩ := run_l01Pick s2 [1, 2, 3, 4, 5, 6, 7, 8, 9, m] (by simp) (by simp)
  simp only [List.mem_cons, List.not_mem_nil, or_false] at hn
  simp only [List.map_cons, List.map_nil, List.length_cons, List.length_nil, Nat.reduceAdd] at h3
  have hmin : mmV mnI [V.int .i64 n, V.int .i64 25] = some (V.int .i64 (mnI n 25)) := rfl
  have q1 : mnI n 25 ≤ 25 ∧ -4611686018427387904 ≤ mnI n 25 := by unfold mnI; split <;> omega
  obtain ⟨s4, l, hl, h4⟩ := run_l02DrawOf s3 p (mnI n 25) hp q1.1 q1.2
  refine ⟨s4, p, l, hp, hl, ?_⟩
  have cdk : codeOk Tryz.f152.ntmps (Tryz.f152.body.getD .skip) = true := by kernel_rfl
  refine run_of_WLp (fn := Tryz.f152) rfl Tryz.func152 rfl ⟨by simp [Tryz.ntmps152], by simp [wideA, ints], cdk, by simp [Tryz.f152]⟩ rfl (by simp [rebOk, noId, adoptT, adoptA, adoptL, adoptC, depth]) (by simp [pinned, adoptT, adoptA, adoptL, adoptC]) ?_
  simp [go_sem, -map_replicate, -map_set, -map_append, -map_reverse, -map_take, -map_drop, -map_tail, -any_map, -all_map, -mapM_map, -map_map, slL, szI, ldI, zI, undL, apL, setI, rdI_get, Nat.add_one_le_iff, fillV, zeros1, zeros0, appendD, segV, lvO, goneOf, sliceD, bound, Nat.add_assoc, szL, ldL, setCs0, setCs1, setCs2, setCsA2, setCsA3, ldM, fM0, fM1, szM, zM, plM0, plM1, agM, paM, ldJ, fJ0, fJ1, fJ2, szJ, zJ, plJ0, plJ1, plJ2, agJ, paJ, h1, h2, h3, h4, hmin, zerosV10, fillV, List.replicate]
  repeat refine ⟨by kernel_rfl, by kernel_rfl, ?_⟩
  simp [mvcgen_simp, -map_replicate, -map_set, -map_append, -map_reverse, -map_take, -map_drop, -map_tail, -any_map, -all_map, -mapM_map, -map_map, Tryz.f152, szL, ldL, setCs0, setCs1, setCs2, setCsA2, setCsA3, ldM, fM0, fM1, szM, zM, plM0, plM1, agM, paM, ldJ, fJ0, fJ1, fJ2, szJ, zJ, plJ0, plJ1, plJ2, agJ, paJ, ctM, loadD, viewN, isLR, hasU]
end Go.Proofs.YtacfkfdnncgjcaaGreat.Ev

set_option linter.unusedSimpArgs false
set_option linter.unusedVariables false
namespace Go.Proofs.YtacfkfdnncgjcaaGreat.Ev
open Go Go.Proofs
open List (map_replicate map_set map_append map_reverse map_take map_drop map_tail any_map all_map mapM_map map_map)
set_option maxRecDepth 4000
set_option maxHeartbeats 4000000

theorem run_l02Bad0 (s : Src) (p : Int) (l : List Int) (hl : l.length ≤ 25) : ∃ (s' : Src) (p' : Int) (l' : List Int) (o : V), l'.length ≤ 26 ∧ (o = .agg [.undef, .undef] ∨ o = .agg [.undef, (V.uniq 1 (List.length (l)) (List.map (V.int .i64) (l)))]) ∧
    runv E0 151 [(V.uptr [V.list (s).code.length ((s).code.map (V.int .u8)), V.int .i64 (s).i, V.int .u64 (s).h]), (V.agg [V.int .i64 (p), (V.uniq 1 (List.length (l)) (List.map (V.int .i64) (l)))])] = some ⟨true, (V.agg [V.int .i64 (p'), (V.uniq 1 (List.length (l')) (List.map (V.int .i64) (l')))]), [(V.uptr [V.list (s').code.length ((s').code.map (V.int .u8)), V.int .i64 (s').i, V.int .u64 (s').h]), o]⟩ := by
  obtain ⟨s1, x, _, hx, h1⟩ := run_l01Next0 s 50
  by_cases x0 : x = 0
  · subst x0
    obtain ⟨s2, q, _, h2⟩ := run_l01Pick0 s1 [0, 1, 4, 9, 3] (by simp) (by simp)
    simp only [List.map_cons, List.map_nil, List.length_cons, List.length_nil, Nat.reduceAdd] at h2
    refine ⟨s2, q, l, .agg [.undef, .undef], by omega, .inl rfl, ?_⟩
    have cdk : codeOk Tryz.f151.ntmps (Tryz.f151.body.getD .skip) = true := by kernel_rfl
    refine run_of_WL (fn := Tryz.f151) rfl Tryz.func151 rfl ⟨by simp [Tryz.ntmps151], by simp [wideA, ints], cdk, by simp [Tryz.f151]⟩ ?_
    simp [go_sem, -map_replicate, -map_set, -map_append, -map_reverse, -map_take, -map_drop, -map_tail, -any_map, -all_map, -mapM_map, -map_map, slL, szI, ldI, zI, undL, apL, setI, rdI_get, Nat.add_one_le_iff, fillV, zeros1, zeros0, appendD, segV, lvO, goneOf, sliceD, bound, Nat.add_assoc, szL, ldL, setCs0, setCs1, setCs2, setCsA2, setCsA3, ldM, fM0, fM1, szM, zM, plM0, plM1, agM, paM, ldJ, fJ0, fJ1, fJ2, szJ, zJ, plJ0, plJ1, plJ2, agJ, paJ, h1, h2, zerosV5, fillV]
    repeat refine ⟨by kernel_rfl, by kernel_rfl, ?_⟩
    simp [mvcgen_simp, -map_replicate, -map_set, -map_append, -map_reverse, -map_take, -map_drop, -map_tail, -any_map, -all_map, -mapM_map, -map_map, Tryz.f151, szL, ldL, setCs0, setCs1, setCs2, setCsA2, setCsA3, ldM, fM0, fM1, szM, zM, plM0, plM1, agM, paM, ldJ, fJ0, fJ1, fJ2, szJ, zJ, plJ0, plJ1, plJ2, agJ, paJ, ctM, loadD, viewN, isLR, hasU]
  by_cases x1 : x = 1
  · subst x1
    have h2 := run_l01Own l (by omega)
    have c3 : (l.length + 1) * 8 ≤ 140737488355328 := by omega
    refine ⟨s1, p, l ++ [p], .agg [.undef, (V.uniq 1 (List.length (l)) (List.map (V.int .i64) (l)))], by simp only [List.length_append, List.length_singleton]; omega, .inr rfl, ?_⟩
    have cdk : codeOk Tryz.f151.ntmps (Tryz.f151.body.getD .skip) = true := by kernel_rfl
    refine run_of_WL (fn := Tryz.f151) rfl Tryz.func151 rfl ⟨by simp [Tryz.ntmps151], by simp [wideA, ints], cdk, by simp [Tryz.f151]⟩ ?_
    have app : l.map (V.int .i64) ++ [V.int .i64 p] = (l ++ [p]).map (V.int .i64) := by simp
    have lap : (l ++ [p]).length = l.length + 1 := by simp
    simp [go_sem, -map_replicate, -map_set, -map_append, -map_reverse, -map_take, -map_drop, -map_tail, -any_map, -all_map, -mapM_map, -map_map, slL, szI, ldI, zI, undL, apL, setI, rdI_get, Nat.add_one_le_iff, fillV, zeros1, zeros0, appendD, segV, lvO, goneOf, sliceD, bound, Nat.add_assoc, szL, ldL, setCs0, setCs1, setCs2, setCsA2, setCsA3, ldM, fM0, fM1, szM, zM, plM0, plM1, agM, paM, ldJ, fJ0, fJ1, fJ2, szJ, zJ, plJ0, plJ1, plJ2, agJ, paJ, h1, h2, c3, zeros1, fillV, app]
    repeat refine ⟨by kernel_rfl, by kernel_rfl, ?_⟩
    generalize l ++ [p] = l2 at *
    simp [mvcgen_simp, -map_replicate, -map_set, -map_append, -map_reverse, -map_take, -map_drop, -map_tail, -any_map, -all_map, -mapM_map, -map_map, Tryz.f151, szL, ldL, setCs0, setCs1, setCs2, setCsA2, setCsA3, ldM, fM0, fM1, szM, zM, plM0, plM1, agM, paM, ldJ, fJ0, fJ1, fJ2, szJ, zJ, plJ0, plJ1, plJ2, agJ, paJ, ctM, loadD, viewN, isLR, hasU, app, lap]
  by_cases x2 : x = 2
  · subst x2
    refine ⟨s1, p, [], .agg [.undef, (V.uniq 1 (List.length (l)) (List.map (V.int .i64) (l)))], by simp, .inr rfl, ?_⟩
    have cdk : codeOk Tryz.f151.ntmps (Tryz.f151.body.getD .skip) = true := by kernel_rfl
    refine run_of_WL (fn := Tryz.f151) rfl Tryz.func151 rfl ⟨by simp [Tryz.ntmps151], by simp [wideA, ints], cdk, by simp [Tryz.f151]⟩ ?_
    simp [go_sem, -map_replicate, -map_set, -map_append, -map_reverse, -map_take, -map_drop, -map_tail, -any_map, -all_map, -mapM_map, -map_map, slL, szI, ldI, zI, undL, apL, setI, rdI_get, Nat.add_one_le_iff, fillV, zeros1, zeros0, appendD, segV, lvO, goneOf, sliceD, bound, Nat.add_assoc, szL, ldL, setCs0, setCs1, setCs2, setCsA2, setCsA3, ldM, fM0, fM1, szM, zM, plM0, plM1, agM, paM, ldJ, fJ0, fJ1, fJ2, szJ, zJ, plJ0, plJ1, plJ2, agJ, paJ, h1, zeros0]
    repeat refine ⟨by kernel_rfl, by kernel_rfl, ?_⟩
    simp [mvcgen_simp, -map_replicate, -map_set, -map_append, -map_reverse, -map_take, -map_drop, -map_tail, -any_map, -all_map, -mapM_map, -map_map, Tryz.f151, szL, ldL, setCs0, setCs1, setCs2, setCsA2, setCsA3, ldM, fM0, fM1, szM, zM, plM0, plM1, agM, paM, ldJ, fJ0, fJ1, fJ2, szJ, zJ, plJ0, plJ1, plJ2, agJ, paJ, ctM, loadD, viewN, isLR, hasU]
  by_cases x3 : x = 3
  · subst x3
    have w0 : IntKind.i64.wrap (l.length : Int) = l.length := IntWalk.i64_in _ (by omega)
    obtain ⟨FL, hFL⟩ : ∃ FL, l ++ List.replicate (25 - l.length) (0 : Int) = FL := ⟨_, rfl⟩
    have lFL : FL.length = 25 := by rw [← hFL]; simp; omega
    refine ⟨s1, p, FL, .agg [.undef, .undef], by omega, .inl rfl, ?_⟩
    rw [lFL]
    have cdk : codeOk Tryz.f151.ntmps (Tryz.f151.body.getD .skip) = true := by kernel_rfl
    refine run_of_WL (fn := Tryz.f151) rfl Tryz.func151 rfl ⟨by simp [Tryz.ntmps151], by simp [wideA, ints], cdk, by simp [Tryz.f151]⟩ ?_
    simp [go_sem, -map_replicate, -map_set, -map_append, -map_reverse, -map_take, -map_drop, -map_tail, -any_map, -all_map, -mapM_map, -map_map, slL, szI, ldI, zI, undL, apL, setI, rdI_get, Nat.add_one_le_iff, fillV, zeros1, zeros0, appendD, segV, lvO, goneOf, sliceD, bound, Nat.add_assoc, szL, ldL, setCs0, setCs1, setCs2, setCsA2, setCsA3, ldM, fM0, fM1, szM, zM, plM0, plM1, agM, paM, ldJ, fJ0, fJ1, fJ2, szJ, zJ, plJ0, plJ1, plJ2, agJ, paJ, h1]
    repeat refine ⟨by kernel_rfl, by kernel_rfl, ?_⟩
    rw [WL_loop]
    refine WL_count (I := fun i st => st.fr 3 = .ptr 16 0 0 ∧ st.fr 4 = .ptr 80 0 0 ∧ st.H 0 = some (⟨0, 1, 1, [V.list (s1).code.length ((s1).code.map (V.int .u8)), V.int .i64 (s1).i, V.int .u64 (s1).h]⟩) ∧ st.H 9 = some (⟨i, 2, 1, (l ++ List.replicate i 0).map (V.int .i64)⟩) ∧ st.H 16 = some (⟨0, 1, 1, [.int .i64 p, .sl 9 i 0 (l.length + i)]⟩) ∧ st.H 80 = some (⟨0, 1, 1, [.int .i64 0, .nils]⟩) ∧ 80 < st.nx) (25 - l.length) ?_ ?_ 0 _ (by omega) ?_
    · rintro i st hi ⟨he0, he1, he2, he3, he4, he5, he6⟩ next
      have lR : (l ++ List.replicate i (0 : Int)).length = l.length + i := by simp
      have eR : l ++ List.replicate (i + 1) (0 : Int) = (l ++ List.replicate i 0) ++ [0] := by rw [List.replicate_succ']; simp
      have hi2 : (l.length : Int) + i ≤ 24 := by omega
      have c3 : (l.length + i + 1) * 8 ≤ 140737488355328 := by omega
      have n1 := ne_new he6
      simp only [eR] at next
      generalize l ++ List.replicate i (0 : Int) = R at *
      simp (maxSteps := 10000000) (disch := (first | omega | (simp only [List.length_set]; omega) | simp)) [go_sem, -map_replicate, -map_set, -map_append, -map_reverse, -map_take, -map_drop, -map_tail, -any_map, -all_map, -mapM_map, -map_map, if_pos, if_neg, IntWalk.i64_in, setI, getI, rdI_get, rdI_ne, decide_eq_true, decide_eq_false, Int.toNat_natCast, Int.toNat_add, he0, he1, he2, he3, he4, he5, slL, szI, ldI, zI, undL, apL, setI, rdI_get, Nat.add_one_le_iff, fillV, zeros1, zeros0, appendD, segV, lvO, goneOf, sliceD, bound, Nat.add_assoc, szL, ldL, setCs0, setCs1, setCs2, setCsA2, setCsA3, ldM, fM0, fM1, szM, zM, plM0, plM1, agM, paM, ldJ, fJ0, fJ1, fJ2, szJ, zJ, plJ0, plJ1, plJ2, agJ, paJ, hi2, c3, lR, n1, zeros1, fillV]
      repeat refine ⟨by kernel_rfl, by kernel_rfl, ?_⟩
      refine next _ ?_
      have n2 := ne_new (show 9 < st.nx by omega)
      have n3 := ne_new (show 16 < st.nx by omega)
      have n4 := ne_new (show 0 < st.nx by omega)
      simp [upd, row, -map_replicate, -map_set, -map_append, -map_reverse, -map_take, -map_drop, -map_tail, -map_map, he0, he1, he2, he3, he4, he5, lR, n1, n2, n3, n4]
      repeat' apply And.intro
      all_goals first | omega | (simp; done) | trace_state
    · rintro st ⟨he0, he1, he2, he3, he4, he5, he6⟩
      have lR : (l ++ List.replicate (25 - l.length) (0 : Int)).length = 25 := by simp; omega
      have e25 : l.length + (25 - l.length) = 25 := by omega
      have n1 := ne_new he6
      rw [hFL] at he3 lR
      rw [e25] at he4
      by_cases hq : 25 - l.length = 0
      · simp (maxSteps := 10000000) (disch := (first | omega | (simp only [List.length_set]; omega) | simp)) [go_sem, -map_replicate, -map_set, -map_append, -map_reverse, -map_take, -map_drop, -map_tail, -any_map, -all_map, -mapM_map, -map_map, if_pos, if_neg, IntWalk.i64_in, setI, getI, rdI_get, rdI_ne, decide_eq_true, decide_eq_false, Int.toNat_natCast, Int.toNat_add, he0, he1, he2, he3, he4, he5, slL, szI, ldI, zI, undL, apL, setI, rdI_get, Nat.add_one_le_iff, fillV, zeros1, zeros0, appendD, segV, lvO, goneOf, sliceD, bound, Nat.add_assoc, szL, ldL, setCs0, setCs1, setCs2, setCsA2, setCsA3, ldM, fM0, fM1, szM, zM, plM0, plM1, agM, paM, ldJ, fJ0, fJ1, fJ2, szJ, zJ, plJ0, plJ1, plJ2, agJ, paJ, lR, n1]
        repeat refine ⟨by kernel_rfl, by kernel_rfl, ?_⟩
        simp [mvcgen_simp, -map_replicate, -map_set, -map_append, -map_reverse, -map_take, -map_drop, -map_tail, -any_map, -all_map, -mapM_map, -map_map, Tryz.f151, he0, he1, he2, he3, he4, he5, szL, ldL, setCs0, setCs1, setCs2, setCsA2, setCsA3, ldM, fM0, fM1, szM, zM, plM0, plM1, agM, paM, ldJ, fJ0, fJ1, fJ2, szJ, zJ, plJ0, plJ1, plJ2, agJ, paJ, ctM, loadD, viewN, isLR, hasU, lR, n1, hq]
        try omega
      · simp (maxSteps := 10000000) (disch := (first | omega | (simp only [List.length_set]; omega) | simp)) [go_sem, -map_replicate, -map_set, -map_append, -map_reverse, -map_take, -map_drop, -map_tail, -any_map, -all_map, -mapM_map, -map_map, if_pos, if_neg, IntWalk.i64_in, setI, getI, rdI_get, rdI_ne, decide_eq_true, decide_eq_false, Int.toNat_natCast, Int.toNat_add, he0, he1, he2, he3, he4, he5, slL, szI, ldI, zI, undL, apL, setI, rdI_get, Nat.add_one_le_iff, fillV, zeros1, zeros0, appendD, segV, lvO, goneOf, sliceD, bound, Nat.add_assoc, szL, ldL, setCs0, setCs1, setCs2, setCsA2, setCsA3, ldM, fM0, fM1, szM, zM, plM0, plM1, agM, paM, ldJ, fJ0, fJ1, fJ2, szJ, zJ, plJ0, plJ1, plJ2, agJ, paJ, lR, n1]
        repeat refine ⟨by kernel_rfl, by kernel_rfl, ?_⟩
        simp [mvcgen_simp, -map_replicate, -map_set, -map_append, -map_reverse, -map_take, -map_drop, -map_tail, -any_map, -all_map, -mapM_map, -map_map, Tryz.f151, he0, he1, he2, he3, he4, he5, szL, ldL, setCs0, setCs1, setCs2, setCsA2, setCsA3, ldM, fM0, fM1, szM, zM, plM0, plM1, agM, paM, ldJ, fJ0, fJ1, fJ2, szJ, zJ, plJ0, plJ1, plJ2, agJ, paJ, ctM, loadD, viewN, isLR, hasU, lR, n1, hq]
        try omega
    · simp [upd]
  refine ⟨s1, p, l, .agg [.undef, .undef], by omega, .inl rfl, ?_⟩
  have cdk : codeOk Tryz.f151.ntmps (Tryz.f151.body.getD .skip) = true := by kernel_rfl
  refine run_of_WL (fn := Tryz.f151) rfl Tryz.func151 rfl ⟨by simp [Tryz.ntmps151], by simp [wideA, ints], cdk, by simp [Tryz.f151]⟩ ?_
  simp [go_sem, -map_replicate, -map_set, -map_append, -map_reverse, -map_take, -map_drop, -map_tail, -any_map, -all_map, -mapM_map, -map_map, slL, szI, ldI, zI, undL, apL, setI, rdI_get, Nat.add_one_le_iff, fillV, zeros1, zeros0, appendD, segV, lvO, goneOf, sliceD, bound, Nat.add_assoc, szL, ldL, setCs0, setCs1, setCs2, setCsA2, setCsA3, ldM, fM0, fM1, szM, zM, plM0, plM1, agM, paM, ldJ, fJ0, fJ1, fJ2, szJ, zJ, plJ0, plJ1, plJ2, agJ, paJ, h1, x0, x1, x2, x3]
  repeat refine ⟨by kernel_rfl, by kernel_rfl, ?_⟩
  simp [mvcgen_simp, -map_replicate, -map_set, -map_append, -map_reverse, -map_take, -map_drop, -map_tail, -any_map, -all_map, -mapM_map, -map_map, Tryz.f151, szL, ldL, setCs0, setCs1, setCs2, setCsA2, setCsA3, ldM, fM0, fM1, szM, zM, plM0, plM1, agM, paM, ldJ, fJ0, fJ1, fJ2, szJ, zJ, plJ0, plJ1, plJ2, agJ, paJ, ctM, loadD, viewN, isLR, hasU]
theorem run_l02Bad (s : Src) (p : Int) (l : List Int) (hl : l.length ≤ 25) : ∃ (s' : Src) (p' : Int) (l' : List Int) (o : V), l'.length ≤ 26 ∧ (o = .agg [.undef, .undef] ∨ o = .agg [.undef, (V.uniq 1 (List.length (l)) (List.map (V.int .i64) (l)))]) ∧
    runv E1 151 [(V.uptr [V.list (s).code.length ((s).code.map (V.int .u8)), V.int .i64 (s).i, V.int .u64 (s).h]), (V.agg [V.int .i64 (p), (V.uniq 1 (List.length (l)) (List.map (V.int .i64) (l)))])] = some ⟨true, (V.agg [V.int .i64 (p'), (V.uniq 1 (List.length (l')) (List.map (V.int .i64) (l')))]), [(V.uptr [V.list (s').code.length ((s').code.map (V.int .u8)), V.int .i64 (s').i, V.int .u64 (s').h]), o]⟩ := by
  obtain ⟨s', p', l', o, h1, ho, h2⟩ := run_l02Bad0 s p l hl
  exact ⟨s', p', l', o, h1, ho, up h2⟩
theorem run_l02Spoil (s : Src) : ∃ (s' : Src) (p : Int) (l : List Int), l.length ≤ 26 ∧
    runv E1 76 [(V.uptr [V.list (s).code.length ((s).code.map (V.int .u8)), V.int .i64 (s).i, V.int .u64 (s).h])] = some ⟨true, (V.agg [V.int .i64 (p), (V.uniq 1 (List.length (l)) (List.map (V.int .i64) (l)))]), [(V.uptr [V.list (s').code.length ((s').code.map (V.int .u8)), V.int .i64 (s').i, V.int .u64 (s').h])]⟩ := by
  obtain ⟨s1, p, l, _, hl, h1⟩ := run_l02Draw s
  obtain ⟨s2, p', l', o, hl', ho, h2⟩ := run_l02Bad s1 p l hl
  refine ⟨s2, p', l', hl', ?_⟩
  have cdk : codeOk Tryz.f76.ntmps (Tryz.f76.body.getD .skip) = true := by kernel_rfl
  refine run_of_WLp (fn := Tryz.f76) rfl Tryz.func76 rfl ⟨by simp [Tryz.ntmps76], by simp [wideA, ints], cdk, by simp [Tryz.f76]⟩ rfl (by simp [rebOk, noId, adoptT, adoptA, adoptL, adoptC, depth]) (by simp [pinned, adoptT, adoptA, adoptL, adoptC]) ?_
  rcases ho with rfl | rfl
  · simp [go_sem, -map_replicate, -map_set, -map_append, -map_reverse, -map_take, -map_drop, -map_tail, -any_map, -all_map, -mapM_map, -map_map, slL, szI, ldI, zI, undL, apL, setI, rdI_get, Nat.add_one_le_iff, fillV, zeros1, zeros0, appendD, segV, lvO, goneOf, sliceD, bound, Nat.add_assoc, szL, ldL, setCs0, setCs1, setCs2, setCsA2, setCsA3, ldM, fM0, fM1, szM, zM, plM0, plM1, agM, paM, ldJ, fJ0, fJ1, fJ2, szJ, zJ, plJ0, plJ1, plJ2, agJ, paJ, h1, h2]
    repeat refine ⟨by kernel_rfl, by kernel_rfl, ?_⟩
    simp [mvcgen_simp, -map_replicate, -map_set, -map_append, -map_reverse, -map_take, -map_drop, -map_tail, -any_map, -all_map, -mapM_map, -map_map, Tryz.f76, szL, ldL, setCs0, setCs1, setCs2, setCsA2, setCsA3, ldM, fM0, fM1, szM, zM, plM0, plM1, agM, paM, ldJ, fJ0, fJ1, fJ2, szJ, zJ, plJ0, plJ1, plJ2, agJ, paJ, ctM, loadD, viewN, isLR, hasU]
  · simp [go_sem, -map_replicate, -map_set, -map_append, -map_reverse, -map_take, -map_drop, -map_tail, -any_map, -all_map, -mapM_map, -map_map, slL, szI, ldI, zI, undL, apL, setI, rdI_get, Nat.add_one_le_iff, fillV, zeros1, zeros0, appendD, segV, lvO, goneOf, sliceD, bound, Nat.add_assoc, szL, ldL, setCs0, setCs1, setCs2, setCsA2, setCsA3, ldM, fM0, fM1, szM, zM, plM0, plM1, agM, paM, ldJ, fJ0, fJ1, fJ2, szJ, zJ, plJ0, plJ1, plJ2, agJ, paJ, h1, h2]
    repeat refine ⟨by kernel_rfl, by kernel_rfl, ?_⟩
    simp [mvcgen_simp, -map_replicate, -map_set, -map_append, -map_reverse, -map_take, -map_drop, -map_tail, -any_map, -all_map, -mapM_map, -map_map, Tryz.f76, szL, ldL, setCs0, setCs1, setCs2, setCsA2, setCsA3, ldM, fM0, fM1, szM, zM, plM0, plM1, agM, paM, ldJ, fJ0, fJ1, fJ2, szJ, zJ, plJ0, plJ1, plJ2, agJ, paJ, ctM, loadD, viewN, isLR, hasU]
/-- The first odd places of a list written over by 0. -/
def evZ (l : List Int) : Nat → List Int
  | 0 => l
  | i + 1 => (evZ l i).set (2 * i + 1) 0
theorem evZ_len (l : List Int) : ∀ i, (evZ l i).length = l.length
  | 0 => rfl
  | i + 1 => by rw [evZ, List.length_set, evZ_len l i]
end Go.Proofs.YtacfkfdnncgjcaaGreat.Ev
