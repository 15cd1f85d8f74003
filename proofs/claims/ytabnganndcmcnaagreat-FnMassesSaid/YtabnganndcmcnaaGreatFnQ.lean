/- AreSymmetric: both texts and the law. Conditions: none. -/
import Derived.Test.YtabnganndcmcnaaGreatFnP
set_option linter.unusedSimpArgs false
set_option linter.unusedVariables false
namespace Go.Proofs.YtabnganndcmcnaaGreat.Ev
open Go Go.Proofs
open List (map_replicate map_set map_append map_reverse map_take map_drop map_tail any_map all_map mapM_map map_map)
set_option maxRecDepth 4000
set_option maxHeartbeats 4000000

def symB (l : List Int) : Bool := (List.range l.length).all fun k => decide (k % 2 = 0) || decide (rdI l k = 0)
theorem symB_true {l : List Int} (h : ∀ k, k < l.length → k % 2 = 1 → rdI l k = 0) : symB l = true := by
  unfold symB
  rw [List.all_eq_true]
  intro k hk
  have hk : k < l.length := by simpa using hk
  by_cases e : k % 2 = 0
  · simp [e]
  · simp [h k hk (by omega)]
theorem symB_false {l : List Int} {k : Nat} (hk : k < l.length) (h1 : k % 2 = 1) (h2 : ¬ rdI l k = 0) : symB l = false := by
  unfold symB
  rw [List.all_eq_false]
  refine ⟨k, by simpa using hk, ?_⟩
  simp [h1, h2]

theorem run_areSymmetric (p : Int) (l : List Int) (hl : l.length ≤ 24) : runv E0 93 [(V.agg [V.int .i64 (p), (V.list (List.length (l)) (List.map (V.int .i64) (l)))])] = some ⟨true, .bool (symB l), [.agg [.undef, .undef]]⟩ := by
  have cdk : codeOk Tryz.f93.ntmps (Tryz.f93.body.getD .skip) = true := by kernel_rfl
  refine run_of_WL (fn := Tryz.f93) rfl Tryz.func93 rfl ⟨by simp [Tryz.ntmps93], by simp [wideA, ints], cdk, by simp [Tryz.f93]⟩ ?_
  simp [go_sem, -map_replicate, -map_set, -map_append, -map_reverse, -map_take, -map_drop, -map_tail, -any_map, -all_map, -mapM_map, -map_map, slL, szI, ldI, zI, undL, apL, setI, rdI_get, Nat.add_one_le_iff, fillV, zeros1, zeros0, appendD, segV, lvO, goneOf, sliceD, bound, Nat.add_assoc, szL, ldL, setCs0, setCs1, setCs2, setCsA2, setCsA3, ldM, fM0, fM1, szM, zM, plM0, plM1, agM, paM, ldJ, fJ0, fJ1, fJ2, szJ, zJ, plJ0, plJ1, plJ2, agJ, paJ]
  rw [WL_loop]
  refine WL_count (I := fun i st => st.fr 6 = (V.list (List.length (l)) (List.map (V.int .i64) (l))) ∧ st.fr 7 = .int .i64 l.length ∧ st.fr 8 = .int .i64 i ∧ (∀ k, k < i → k % 2 = 1 → rdI l k = 0)) l.length ?_ ?_ 0 _ (by omega) ?_
  · rintro i st hi ⟨he0, he1, he2, he3⟩ next
    have w1 : IntKind.i64.wrap ((i : Int) + 1) = (i : Int) + 1 := IntWalk.i64_in _ (by omega)
    by_cases h1 : i % 2 = 1
    · have m1 : (i : Int).tmod 2 = 1 := by rw [Int.tmod_eq_emod_of_nonneg (by omega)]; omega
      by_cases h2 : rdI l i = 0
      · simp [go_sem, -map_replicate, -map_set, -map_append, -map_reverse, -map_take, -map_drop, -map_tail, -any_map, -all_map, -mapM_map, -map_map, slL, szI, ldI, zI, undL, apL, setI, rdI_get, Nat.add_one_le_iff, fillV, zeros1, zeros0, appendD, segV, lvO, goneOf, sliceD, bound, Nat.add_assoc, szL, ldL, setCs0, setCs1, setCs2, setCsA2, setCsA3, ldM, fM0, fM1, szM, zM, plM0, plM1, agM, paM, ldJ, fJ0, fJ1, fJ2, szJ, zJ, plJ0, plJ1, plJ2, agJ, paJ, he0, he1, he2, hi, m1, h2, w1]
        refine next _ ?_
        simp [upd, he0, he1, he2]
        intro k hk1 hk2
        by_cases e : k = i
        · subst e; exact h2
        · exact he3 k (by omega) hk2
      · simp [go_sem, -map_replicate, -map_set, -map_append, -map_reverse, -map_take, -map_drop, -map_tail, -any_map, -all_map, -mapM_map, -map_map, slL, szI, ldI, zI, undL, apL, setI, rdI_get, Nat.add_one_le_iff, fillV, zeros1, zeros0, appendD, segV, lvO, goneOf, sliceD, bound, Nat.add_assoc, szL, ldL, setCs0, setCs1, setCs2, setCsA2, setCsA3, ldM, fM0, fM1, szM, zM, plM0, plM1, agM, paM, ldJ, fJ0, fJ1, fJ2, szJ, zJ, plJ0, plJ1, plJ2, agJ, paJ, he0, he1, he2, hi, m1, h2, w1]
        simp [mvcgen_simp, -map_replicate, -map_set, -map_append, -map_reverse, -map_take, -map_drop, -map_tail, -any_map, -all_map, -mapM_map, -map_map, Tryz.f93, symB_false hi h1 h2]
    · have m1 : ¬ (i : Int).tmod 2 = 1 := by rw [Int.tmod_eq_emod_of_nonneg (by omega)]; omega
      simp [go_sem, -map_replicate, -map_set, -map_append, -map_reverse, -map_take, -map_drop, -map_tail, -any_map, -all_map, -mapM_map, -map_map, slL, szI, ldI, zI, undL, apL, setI, rdI_get, Nat.add_one_le_iff, fillV, zeros1, zeros0, appendD, segV, lvO, goneOf, sliceD, bound, Nat.add_assoc, szL, ldL, setCs0, setCs1, setCs2, setCsA2, setCsA3, ldM, fM0, fM1, szM, zM, plM0, plM1, agM, paM, ldJ, fJ0, fJ1, fJ2, szJ, zJ, plJ0, plJ1, plJ2, agJ, paJ, he0, he1, he2, hi, m1, w1]
      refine next _ ?_
      simp [upd, he0, he1, he2]
      intro k hk1 hk2
      by_cases e : k = i
      · subst e; exact absurd hk2 h1
      · exact he3 k (by omega) hk2
  · rintro st ⟨he0, he1, he2, he3⟩
    simp [go_sem, -map_replicate, -map_set, -map_append, -map_reverse, -map_take, -map_drop, -map_tail, -any_map, -all_map, -mapM_map, -map_map, slL, szI, ldI, zI, undL, apL, setI, rdI_get, Nat.add_one_le_iff, fillV, zeros1, zeros0, appendD, segV, lvO, goneOf, sliceD, bound, Nat.add_assoc, szL, ldL, setCs0, setCs1, setCs2, setCsA2, setCsA3, ldM, fM0, fM1, szM, zM, plM0, plM1, agM, paM, ldJ, fJ0, fJ1, fJ2, szJ, zJ, plJ0, plJ1, plJ2, agJ, paJ, he0, he1, he2]
    simp [mvcgen_simp, -map_replicate, -map_set, -map_append, -map_reverse, -map_take, -map_drop, -map_tail, -any_map, -all_map, -mapM_map, -map_map, Tryz.f93, symB_true he3]
  · refine ⟨rfl, rfl, rfl, by omega⟩
theorem run_l08Symmetric (p : Int) (l : List Int) (hl : l.length ≤ 24) : runv E0 95 [(V.agg [V.int .i64 (p), (V.list (List.length (l)) (List.map (V.int .i64) (l)))])] = some ⟨true, .bool (symB l), [.agg [.undef, .undef]]⟩ := by
  have cdk : codeOk Tryz.f95.ntmps (Tryz.f95.body.getD .skip) = true := by kernel_rfl
  refine run_of_WL (fn := Tryz.f95) rfl Tryz.func95 rfl ⟨by simp [Tryz.ntmps95], by simp [wideA, ints], cdk, by simp [Tryz.f95]⟩ ?_
  simp [go_sem, -map_replicate, -map_set, -map_append, -map_reverse, -map_take, -map_drop, -map_tail, -any_map, -all_map, -mapM_map, -map_map, slL, szI, ldI, zI, undL, apL, setI, rdI_get, Nat.add_one_le_iff, fillV, zeros1, zeros0, appendD, segV, lvO, goneOf, sliceD, bound, Nat.add_assoc, szL, ldL, setCs0, setCs1, setCs2, setCsA2, setCsA3, ldM, fM0, fM1, szM, zM, plM0, plM1, agM, paM, ldJ, fJ0, fJ1, fJ2, szJ, zJ, plJ0, plJ1, plJ2, agJ, paJ]
  rw [WL_loop]
  refine WL_count (I := fun i st => st.fr 1 = .ptr 8 0 0 ∧ st.fr 3 = .int .i64 (2 * (i : Int) + 1) ∧ st.H 8 = some (⟨0, 1, 1, [.int .i64 p, (V.list (List.length (l)) (List.map (V.int .i64) (l)))]⟩) ∧ (∀ k, k < i → rdI l (2 * k + 1) = 0)) (l.length / 2) ?_ ?_ 0 _ (by omega) ?_
  · rintro i st hi ⟨he0, he1, he2, he3⟩ next
    have w1 : IntKind.i64.wrap (2 * (i : Int) + 1 + 2) = 2 * ((i + 1 : Nat) : Int) + 1 := by rw [IntWalk.i64_in _ (by omega)]; omega
    have hk : 2 * i + 1 < l.length := by omega
    have hki : 2 * (i : Int) + 1 < l.length := by omega
    have h0 : (0 : Int) ≤ 2 * (i : Int) + 1 := by omega
    have ht : (2 * (i : Int) + 1).toNat = 2 * i + 1 := by omega
    by_cases h2 : rdI l (2 * i + 1) = 0
    · simp [go_sem, -map_replicate, -map_set, -map_append, -map_reverse, -map_take, -map_drop, -map_tail, -any_map, -all_map, -mapM_map, -map_map, slL, szI, ldI, zI, undL, apL, setI, rdI_get, Nat.add_one_le_iff, fillV, zeros1, zeros0, appendD, segV, lvO, goneOf, sliceD, bound, Nat.add_assoc, szL, ldL, setCs0, setCs1, setCs2, setCsA2, setCsA3, ldM, fM0, fM1, szM, zM, plM0, plM1, agM, paM, ldJ, fJ0, fJ1, fJ2, szJ, zJ, plJ0, plJ1, plJ2, agJ, paJ, he0, he1, he2, hk, hki, h0, ht, h2, w1]
      refine next _ ?_
      simp [upd, he0, he1, he2]
      intro k hk1
      by_cases e : k = i
      · subst e; exact h2
      · exact he3 k (by omega)
    · simp [go_sem, -map_replicate, -map_set, -map_append, -map_reverse, -map_take, -map_drop, -map_tail, -any_map, -all_map, -mapM_map, -map_map, slL, szI, ldI, zI, undL, apL, setI, rdI_get, Nat.add_one_le_iff, fillV, zeros1, zeros0, appendD, segV, lvO, goneOf, sliceD, bound, Nat.add_assoc, szL, ldL, setCs0, setCs1, setCs2, setCsA2, setCsA3, ldM, fM0, fM1, szM, zM, plM0, plM1, agM, paM, ldJ, fJ0, fJ1, fJ2, szJ, zJ, plJ0, plJ1, plJ2, agJ, paJ, he0, he1, he2, hk, hki, h0, ht, h2, w1]
      simp [mvcgen_simp, -map_replicate, -map_set, -map_append, -map_reverse, -map_take, -map_drop, -map_tail, -any_map, -all_map, -mapM_map, -map_map, Tryz.f95, symB_false hk (by omega) h2]
  · rintro st ⟨he0, he1, he2, he3⟩
    have hki : ¬ 2 * ((l.length : Int) / 2) + 1 < l.length := by omega
    simp [go_sem, -map_replicate, -map_set, -map_append, -map_reverse, -map_take, -map_drop, -map_tail, -any_map, -all_map, -mapM_map, -map_map, slL, szI, ldI, zI, undL, apL, setI, rdI_get, Nat.add_one_le_iff, fillV, zeros1, zeros0, appendD, segV, lvO, goneOf, sliceD, bound, Nat.add_assoc, szL, ldL, setCs0, setCs1, setCs2, setCsA2, setCsA3, ldM, fM0, fM1, szM, zM, plM0, plM1, agM, paM, ldJ, fJ0, fJ1, fJ2, szJ, zJ, plJ0, plJ1, plJ2, agJ, paJ, he0, he1, he2, hki]
    simp [mvcgen_simp, -map_replicate, -map_set, -map_append, -map_reverse, -map_take, -map_drop, -map_tail, -any_map, -all_map, -mapM_map, -map_map, Tryz.f95]
    refine symB_true fun k hk h1 => ?_
    have := he3 (k / 2) (by omega)
    rwa [show 2 * (k / 2) + 1 = k by omega] at this
  · refine ⟨rfl, rfl, rfl, by omega⟩

theorem run_implAreSymmetric (p : Int) (l : List Int) (hl : l.length ≤ 1048576) : runv E0 25 [(V.agg [V.int .i64 (p), (V.list (List.length (l)) (List.map (V.int .i64) (l)))])] = some ⟨true, .tup [.bool (momB p l && symB l), .int .i64 (if momB p l then 0 else 1)], [.agg [.undef, .undef]]⟩ := by
  have cdk : codeOk Tryz.f25.ntmps (Tryz.f25.body.getD .skip) = true := by kernel_rfl
  refine run_of_WL (fn := Tryz.f25) rfl Tryz.func25 rfl ⟨by simp [Tryz.ntmps25], by simp [wideA, ints], cdk, by simp [Tryz.f25]⟩ ?_
  have h1 := run_mcodeA p l (by omega)
  cases e : momB p l with
  | false =>
    rw [e] at h1
    simp [go_sem, -map_replicate, -map_set, -map_append, -map_reverse, -map_take, -map_drop, -map_tail, -any_map, -all_map, -mapM_map, -map_map, slL, szI, ldI, zI, undL, apL, setI, rdI_get, Nat.add_one_le_iff, fillV, zeros1, zeros0, appendD, segV, lvO, goneOf, sliceD, bound, Nat.add_assoc, szL, ldL, setCs0, setCs1, setCs2, setCsA2, setCsA3, ldM, fM0, fM1, szM, zM, plM0, plM1, agM, paM, ldJ, fJ0, fJ1, fJ2, szJ, zJ, plJ0, plJ1, plJ2, agJ, paJ, h1]
    simp [mvcgen_simp, -map_replicate, -map_set, -map_append, -map_reverse, -map_take, -map_drop, -map_tail, -any_map, -all_map, -mapM_map, -map_map, Tryz.f25]
  | true =>
    rw [e] at h1
    have h2 := run_areSymmetric p l (momB_len e).2
    simp [go_sem, -map_replicate, -map_set, -map_append, -map_reverse, -map_take, -map_drop, -map_tail, -any_map, -all_map, -mapM_map, -map_map, slL, szI, ldI, zI, undL, apL, setI, rdI_get, Nat.add_one_le_iff, fillV, zeros1, zeros0, appendD, segV, lvO, goneOf, sliceD, bound, Nat.add_assoc, szL, ldL, setCs0, setCs1, setCs2, setCsA2, setCsA3, ldM, fM0, fM1, szM, zM, plM0, plM1, agM, paM, ldJ, fJ0, fJ1, fJ2, szJ, zJ, plJ0, plJ1, plJ2, agJ, paJ, h1, h2]
    simp [mvcgen_simp, -map_replicate, -map_set, -map_append, -map_reverse, -map_take, -map_drop, -map_tail, -any_map, -all_map, -mapM_map, -map_map, Tryz.f25]
theorem run_specAreSymmetric (p : Int) (l : List Int) (hl : l.length ≤ 1048576) : runv E0 26 [(V.agg [V.int .i64 (p), (V.list (List.length (l)) (List.map (V.int .i64) (l)))])] = some ⟨true, .tup [.bool (momB p l && symB l), .int .i64 (if momB p l then 0 else 1)], [.agg [.undef, .undef]]⟩ := by
  have cdk : codeOk Tryz.f26.ntmps (Tryz.f26.body.getD .skip) = true := by kernel_rfl
  refine run_of_WL (fn := Tryz.f26) rfl Tryz.func26 rfl ⟨by simp [Tryz.ntmps26], by simp [wideA, ints], cdk, by simp [Tryz.f26]⟩ ?_
  have h1 := run_l02Are p l (by omega)
  cases e : momB p l with
  | false =>
    rw [e] at h1
    simp [go_sem, -map_replicate, -map_set, -map_append, -map_reverse, -map_take, -map_drop, -map_tail, -any_map, -all_map, -mapM_map, -map_map, slL, szI, ldI, zI, undL, apL, setI, rdI_get, Nat.add_one_le_iff, fillV, zeros1, zeros0, appendD, segV, lvO, goneOf, sliceD, bound, Nat.add_assoc, szL, ldL, setCs0, setCs1, setCs2, setCsA2, setCsA3, ldM, fM0, fM1, szM, zM, plM0, plM1, agM, paM, ldJ, fJ0, fJ1, fJ2, szJ, zJ, plJ0, plJ1, plJ2, agJ, paJ, h1]
    simp [mvcgen_simp, -map_replicate, -map_set, -map_append, -map_reverse, -map_take, -map_drop, -map_tail, -any_map, -all_map, -mapM_map, -map_map, Tryz.f26]
  | true =>
    rw [e] at h1
    have h2 := run_l08Symmetric p l (momB_len e).2
    simp [go_sem, -map_replicate, -map_set, -map_append, -map_reverse, -map_take, -map_drop, -map_tail, -any_map, -all_map, -mapM_map, -map_map, slL, szI, ldI, zI, undL, apL, setI, rdI_get, Nat.add_one_le_iff, fillV, zeros1, zeros0, appendD, segV, lvO, goneOf, sliceD, bound, Nat.add_assoc, szL, ldL, setCs0, setCs1, setCs2, setCsA2, setCsA3, ldM, fM0, fM1, szM, zM, plM0, plM1, agM, paM, ldJ, fJ0, fJ1, fJ2, szJ, zJ, plJ0, plJ1, plJ2, agJ, paJ, h1, h2]
    simp [mvcgen_simp, -map_replicate, -map_set, -map_append, -map_reverse, -map_take, -map_drop, -map_tail, -any_map, -all_map, -mapM_map, -map_map, Tryz.f26]
end Go.Proofs.YtabnganndcmcnaaGreat.Ev
