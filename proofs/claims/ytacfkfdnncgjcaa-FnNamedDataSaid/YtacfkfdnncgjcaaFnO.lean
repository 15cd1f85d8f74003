/- SquaredNorms: both texts and the law. Conditions: none. -/
import Derived.Test.YtacfkfdnncgjcaaFnL
set_option linter.unusedSimpArgs false
set_option linter.unusedVariables false
namespace Go.Proofs.Ytacfkfdnncgjcaa.Ev
open Go Go.Proofs
open List (map_replicate map_set map_append map_reverse map_take map_drop map_tail any_map all_map mapM_map map_map)
set_option maxRecDepth 4000
set_option maxHeartbeats 4000000

/-! ### Norms -/
def nrm (p : Int) (b : List Int) : Nat → Int
  | 0 => rdI b 0
  | k + 1 => rdI b (k + 1) * nrm p b k % p
theorem nrm_range {p : Int} {a b : List Int} (h : jacB p a b = true) : ∀ k, k < a.length → 0 ≤ nrm p b k ∧ nrm p b k < p
  | 0, hk => by have := jacB_b h hk; unfold nrm; omega
  | k + 1, hk => by
    have := jacB_prime h
    unfold nrm
    exact ⟨Int.emod_nonneg _ (by omega), Int.emod_lt_of_pos _ (by omega)⟩
theorem run_Jnorms (p : Int) (a b : List Int) (h : jacB p a b = true) :
    runv E0 60 [(V.agg [V.int .i64 (p), (V.list (List.length (a)) (List.map (V.int .i64) (a))), (V.list (List.length (b)) (List.map (V.int .i64) (b)))])] = some ⟨true, .uniq 1 a.length ((tab a.length (nrm p b)).map (V.int .i64)), [.agg [.undef, .undef, .undef]]⟩ := by
  have cdk : codeOk Try.f60.ntmps (Try.f60.body.getD .skip) = true := by kernel_rfl
  refine run_of_WL (fn := Try.f60) rfl Try.func60 rfl ⟨by simp [Try.ntmps60], by simp [wideA, ints], cdk, by simp [Try.f60]⟩ ?_
  have hl := jacB_len h
  have hp := jacB_prime h
  have h0 : 0 < b.length := by omega
  simp [go_sem, -map_replicate, -map_set, -map_append, -map_reverse, -map_take, -map_drop, -map_tail, -any_map, -all_map, -mapM_map, -map_map, slL, szI, ldI, zI, undL, apL, setI, rdI_get, Nat.add_one_le_iff, fillV, zeros1, zeros0, appendD, segV, lvO, goneOf, sliceD, bound, Nat.add_assoc, szL, ldL, setCs0, setCs1, setCs2, setCsA2, setCsA3, ldM, fM0, fM1, szM, zM, plM0, plM1, agM, paM, ldJ, fJ0, fJ1, fJ2, szJ, zJ, plJ0, plJ1, plJ2, agJ, paJ, h0]
  rw [WL_loop]
  refine WL_count (I := fun i st => ∃ id ver, st.fr 1 = .ptr 8 0 0 ∧ st.fr 3 = .sl id ver 0 (i + 1) ∧ st.fr 4 = .int .i64 (i + 1 : Nat) ∧ st.H 8 = some (⟨0, 1, 1, [.int .i64 p, (V.list (List.length (a)) (List.map (V.int .i64) (a))), (V.list (List.length (b)) (List.map (V.int .i64) (b)))]⟩) ∧ st.H id = some (⟨ver, 2, 1, (tab (i + 1) (nrm p b)).map (V.int .i64)⟩) ∧ id < st.nx ∧ 8 < id) (a.length - 1) ?_ ?_ 0 _ (by omega) ?_
  · rintro i st hi ⟨id, ver, he0, he1, he2, he3, he4, he5, he6⟩ next
    have hib : i + 1 < b.length := by omega
    have c1 : ((i + 1 : Nat) : Int) < b.length := by omega
    have w0 : IntKind.i64.wrap (((i + 1 : Nat) : Int) - 1) = i := by rw [IntWalk.i64_in _ (by omega)]; omega
    have w1 : IntKind.i64.wrap (((i + 1 : Nat) : Int) + 1) = ((i + 2 : Nat) : Int) := by rw [IntWalk.i64_in _ (by omega)]; omega
    have tl := tab_len (i + 1) (nrm p b)
    have tr : rdI (tab (i + 1) (nrm p b)) i = nrm p b i := tab_rd (by omega)
    have hb := jacB_b h (show i + 1 < a.length by omega)
    have hn := nrm_range h i (by omega)
    have hm := mul_small hp (show 0 ≤ rdI b (i + 1) ∧ rdI b (i + 1) < p by omega) hn
    have hmul := run_mul p (rdI b (i + 1)) (nrm p b i) hp (IntWalk.i64_in _ (by omega))
    have ts := tab_succ (i + 1) (nrm p b)
    have c3 : (i + 2) * 8 ≤ 140737488355328 := by omega
    have ne8 : ¬ id = 8 := by omega
    have ne8' : ¬ 8 = id := by omega
    generalize hz : ((i + 1 : Nat) : Int) = z at *
    have hz' : z.toNat = i + 1 := by omega
    have hz0 : 0 ≤ z := by omega
    have c4 : (i : Int) < (i : Int) + 1 := by omega
    simp [go_sem, -map_replicate, -map_set, -map_append, -map_reverse, -map_take, -map_drop, -map_tail, -any_map, -all_map, -mapM_map, -map_map, slL, szI, ldI, zI, undL, apL, setI, rdI_get, Nat.add_one_le_iff, fillV, zeros1, zeros0, appendD, segV, lvO, goneOf, sliceD, bound, Nat.add_assoc, szL, ldL, setCs0, setCs1, setCs2, setCsA2, setCsA3, ldM, fM0, fM1, szM, zM, plM0, plM1, agM, paM, ldJ, fJ0, fJ1, fJ2, szJ, zJ, plJ0, plJ1, plJ2, agJ, paJ, he0, he1, he2, he3, he4, hib, c1, c4, w0, w1, run_Jfield, hmul, hz', hz0, tl, tr, c3, ne8, ne8', ne_new he5, new_ne he5]
    refine ⟨by kernel_rfl, by kernel_rfl, next _ ⟨id, ver + 1, ?_⟩⟩
    simp [upd, row, -map_replicate, -map_set, -map_append, -map_reverse, -map_take, -map_drop, -map_tail, -map_map, he0, he1, he2, he3, he4, ne8, ne8', ts, nrm]
    exact ⟨by omega, by simp, by omega, he6⟩
  · rintro st ⟨id, ver, he0, he1, he2, he3, he4, he5, he6⟩
    have c1 : ¬ ((a.length - 1 + 1 : Nat) : Int) < b.length := by omega
    have c5 : a.length - 1 + 1 = a.length := by omega
    rw [c5] at he1 he2 he4
    have tl := tab_len a.length (nrm p b)
    simp [go_sem, -map_replicate, -map_set, -map_append, -map_reverse, -map_take, -map_drop, -map_tail, -any_map, -all_map, -mapM_map, -map_map, slL, szI, ldI, zI, undL, apL, setI, rdI_get, Nat.add_one_le_iff, fillV, zeros1, zeros0, appendD, segV, lvO, goneOf, sliceD, bound, Nat.add_assoc, szL, ldL, setCs0, setCs1, setCs2, setCsA2, setCsA3, ldM, fM0, fM1, szM, zM, plM0, plM1, agM, paM, ldJ, fJ0, fJ1, fJ2, szJ, zJ, plJ0, plJ1, plJ2, agJ, paJ, he0, he1, he2, he3, he4, hl.2.2]
    simp [mvcgen_simp, -map_replicate, -map_set, -map_append, -map_reverse, -map_take, -map_drop, -map_tail, -any_map, -all_map, -mapM_map, -map_map, Try.f60, he0, he1, he2, he3, he4, tl]
  · refine ⟨_, _, rfl, rfl, rfl, rfl, ?_, ?_, ?_⟩
    · rfl
    · simp
    · simp

theorem run_l10Norms (p : Int) (a b : List Int) (h : jacB p a b = true) :
    runv E0 113 [(V.agg [V.int .i64 (p), (V.list (List.length (a)) (List.map (V.int .i64) (a))), (V.list (List.length (b)) (List.map (V.int .i64) (b)))])] = some ⟨true, .uniq 1 a.length ((tab a.length (nrm p b)).map (V.int .i64)), [.agg [.undef, .undef, .undef]]⟩ := by
  have cdk : codeOk Try.f113.ntmps (Try.f113.body.getD .skip) = true := by kernel_rfl
  refine run_of_WL (fn := Try.f113) rfl Try.func113 rfl ⟨by simp [Try.ntmps113], by simp [wideA, ints], cdk, by simp [Try.f113]⟩ ?_
  have hl := jacB_len h
  have hp := jacB_prime h
  have h0 : 0 < b.length := by omega
  simp [go_sem, -map_replicate, -map_set, -map_append, -map_reverse, -map_take, -map_drop, -map_tail, -any_map, -all_map, -mapM_map, -map_map, slL, szI, ldI, zI, undL, apL, setI, rdI_get, Nat.add_one_le_iff, fillV, zeros1, zeros0, appendD, segV, lvO, goneOf, sliceD, bound, Nat.add_assoc, szL, ldL, setCs0, setCs1, setCs2, setCsA2, setCsA3, ldM, fM0, fM1, szM, zM, plM0, plM1, agM, paM, ldJ, fJ0, fJ1, fJ2, szJ, zJ, plJ0, plJ1, plJ2, agJ, paJ]
  rw [WL_loop]
  refine WL_count (I := fun i st => ∃ last : Int, st.fr 1 = .ptr 8 0 0 ∧ st.fr 4 = .int .i64 last ∧ st.fr 5 = .int .i64 i ∧ st.H 8 = some (⟨0, 1, 1, [.int .i64 p, (V.list (List.length (a)) (List.map (V.int .i64) (a))), (V.list (List.length (b)) (List.map (V.int .i64) (b)))]⟩) ∧ 8 < st.nx ∧ 0 ≤ last ∧ last < p ∧ ((∀ k, k < a.length → k = i → last * rdI b k % p = nrm p b k)) ∧ Grow .i64 8 st 3 (tab i (nrm p b))) a.length ?_ ?_ 0 _ (by omega) ?_
  · rintro i st hi ⟨last, he0, he1, he2, he3, he4, he5, he6, he7, he8⟩ next
    have hib : i < b.length := by omega
    have c1 : (i : Int) < b.length := by omega
    have w1 : IntKind.i64.wrap ((i : Int) + 1) = (i : Int) + 1 := IntWalk.i64_in _ (by omega)
    have tl := tab_len i (nrm p b)
    have hb := jacB_b h hi
    have hm := mul_small hp (show 0 ≤ last ∧ last < p by omega) (show 0 ≤ rdI b i ∧ rdI b i < p by omega)
    have w2 : IntKind.i64.wrap (last * rdI b i) = last * rdI b i := IntWalk.i64_in _ (by omega)
    have ht : (last * rdI b i).tmod p = nrm p b i := by rw [Int.tmod_eq_emod_of_nonneg hm.1, he7 i hi rfl]
    have hpn : ¬ p = 0 := by omega
    have ts := tab_succ i (nrm p b)
    have c3 : (i + 1) * 8 ≤ 140737488355328 := by omega
    have hn := nrm_range h i hi
    have hnext : ∀ k, k < a.length → k = i + 1 → nrm p b i * rdI b k % p = nrm p b k := by
      rintro k hk rfl; rw [nrm, Int.mul_comm]
    have fin : ∀ st' : St, st'.fr 1 = .ptr 8 0 0 → st'.fr 4 = .int .i64 (nrm p b i) → st'.fr 5 = .int .i64 ((i : Int) + 1) → st'.H 8 = some ⟨0, 1, 1, [.int .i64 p, (V.list (List.length (a)) (List.map (V.int .i64) (a))), (V.list (List.length (b)) (List.map (V.int .i64) (b)))]⟩ → 8 < st'.nx → Grow .i64 8 st' 3 (tab i (nrm p b) ++ [nrm p b i]) → WL E0 false _ _ st' := fun st' a1 a2 a3 a4 a5 a6 =>
      next st' ⟨nrm p b i, a1, a2, by rw [a3]; simp, a4, a5, hn.1, hn.2, hnext, by rw [ts]; exact a6⟩
    generalize tab i (nrm p b) = A at *
    rcases he8 with ⟨rfl, h8⟩ | ⟨id, ver, h8, hH, hx, hlo⟩
    · simp [go_sem, -map_replicate, -map_set, -map_append, -map_reverse, -map_take, -map_drop, -map_tail, -any_map, -all_map, -mapM_map, -map_map, slL, szI, ldI, zI, undL, apL, setI, rdI_get, Nat.add_one_le_iff, fillV, zeros1, zeros0, appendD, segV, lvO, goneOf, sliceD, bound, Nat.add_assoc, szL, ldL, setCs0, setCs1, setCs2, setCsA2, setCsA3, ldM, fM0, fM1, szM, zM, plM0, plM1, agM, paM, ldJ, fJ0, fJ1, fJ2, szJ, zJ, plJ0, plJ1, plJ2, agJ, paJ, he0, he1, he2, he3, h8, hib, c1, w1, w2, hpn, ht]
      refine ⟨by kernel_rfl, by kernel_rfl, ?_⟩
      exact fin _ (by simp [upd, he0]) (by simp [upd]) (by simp [upd]) (by simp [upd, he3, ne_new he4]) (by simp <;> omega) (Grow.own _ rfl (by simp) (by simp [upd]) (by simp) (by simp <;> omega))
    · have ne8 : ¬ id = 8 := by omega
      have ne8' : ¬ 8 = id := by omega
      simp [go_sem, -map_replicate, -map_set, -map_append, -map_reverse, -map_take, -map_drop, -map_tail, -any_map, -all_map, -mapM_map, -map_map, slL, szI, ldI, zI, undL, apL, setI, rdI_get, Nat.add_one_le_iff, fillV, zeros1, zeros0, appendD, segV, lvO, goneOf, sliceD, bound, Nat.add_assoc, szL, ldL, setCs0, setCs1, setCs2, setCsA2, setCsA3, ldM, fM0, fM1, szM, zM, plM0, plM1, agM, paM, ldJ, fJ0, fJ1, fJ2, szJ, zJ, plJ0, plJ1, plJ2, agJ, paJ, he0, he1, he2, he3, h8, hH, hib, c1, w1, w2, hpn, ht, tl, c3, ne8, ne8', ne_new hx, new_ne hx]
      refine ⟨by kernel_rfl, by kernel_rfl, ?_⟩
      exact fin _ (by simp [upd, he0]) (by simp [upd]) (by simp [upd]) (by simp [upd, he3, ne_new he4, ne8']) (by simp <;> omega) (Grow.own _ rfl (by simp [tl]) (by simp [upd]) (by simp <;> omega) hlo)
  · rintro st ⟨last, he0, he1, he2, he3, he4, he5, he6, he7, he8⟩
    have tl := tab_len a.length (nrm p b)
    rcases he8 with ⟨h0, h8⟩ | ⟨id, ver, h8, hH, hx, hlo⟩
    · rw [h0] at tl; simp at tl; omega
    · simp [go_sem, -map_replicate, -map_set, -map_append, -map_reverse, -map_take, -map_drop, -map_tail, -any_map, -all_map, -mapM_map, -map_map, slL, szI, ldI, zI, undL, apL, setI, rdI_get, Nat.add_one_le_iff, fillV, zeros1, zeros0, appendD, segV, lvO, goneOf, sliceD, bound, Nat.add_assoc, szL, ldL, setCs0, setCs1, setCs2, setCsA2, setCsA3, ldM, fM0, fM1, szM, zM, plM0, plM1, agM, paM, ldJ, fJ0, fJ1, fJ2, szJ, zJ, plJ0, plJ1, plJ2, agJ, paJ, he0, he1, he2, he3, h8, hH, hl.2.2]
      simp [mvcgen_simp, -map_replicate, -map_set, -map_append, -map_reverse, -map_take, -map_drop, -map_tail, -any_map, -all_map, -mapM_map, -map_map, Try.f113, hH, tl]
  · refine ⟨1, rfl, rfl, rfl, rfl, by simp, by omega, by omega, ?_, .inl ⟨rfl, rfl⟩⟩
    rintro k hk rfl
    have := jacB_b h hk
    rw [nrm, Int.one_mul, Int.emod_eq_of_lt (by omega) (by omega)]

theorem run_implSquaredNorms (p : Int) (a b : List Int) (ha : a.length ≤ 1048576) (hb : b.length ≤ 1048576) :
    runv E0 15 [(V.agg [V.int .i64 (p), (V.list (List.length (a)) (List.map (V.int .i64) (a))), (V.list (List.length (b)) (List.map (V.int .i64) (b)))])] = some ⟨true, .tup [(V.uniq 1 (List.length (if jacB p a b then tab a.length (nrm p b) else [])) (List.map (V.int .i64) (if jacB p a b then tab a.length (nrm p b) else []))), .int .i64 (if jacB p a b then 0 else 1)], [.agg [.undef, .undef, .undef]]⟩ := by
  have cdk : codeOk Try.f15.ntmps (Try.f15.body.getD .skip) = true := by kernel_rfl
  refine run_of_WL (fn := Try.f15) rfl Try.func15 rfl ⟨by simp [Try.ntmps15], by simp [wideA, ints], cdk, by simp [Try.f15]⟩ ?_
  have h1 := run_jacobiCode p a b true (by omega) (by omega)
  cases e : jacB p a b with
  | false =>
    rw [e] at h1
    simp [go_sem, -map_replicate, -map_set, -map_append, -map_reverse, -map_take, -map_drop, -map_tail, -any_map, -all_map, -mapM_map, -map_map, slL, szI, ldI, zI, undL, apL, setI, rdI_get, Nat.add_one_le_iff, fillV, zeros1, zeros0, appendD, segV, lvO, goneOf, sliceD, bound, Nat.add_assoc, szL, ldL, setCs0, setCs1, setCs2, setCsA2, setCsA3, ldM, fM0, fM1, szM, zM, plM0, plM1, agM, paM, ldJ, fJ0, fJ1, fJ2, szJ, zJ, plJ0, plJ1, plJ2, agJ, paJ, h1]
    simp [mvcgen_simp, -map_replicate, -map_set, -map_append, -map_reverse, -map_take, -map_drop, -map_tail, -any_map, -all_map, -mapM_map, -map_map, Try.f15]
  | true =>
    rw [e] at h1
    have h2 := run_Jnorms p a b e
    have tl := tab_len a.length (nrm p b)
    simp [go_sem, -map_replicate, -map_set, -map_append, -map_reverse, -map_take, -map_drop, -map_tail, -any_map, -all_map, -mapM_map, -map_map, slL, szI, ldI, zI, undL, apL, setI, rdI_get, Nat.add_one_le_iff, fillV, zeros1, zeros0, appendD, segV, lvO, goneOf, sliceD, bound, Nat.add_assoc, szL, ldL, setCs0, setCs1, setCs2, setCsA2, setCsA3, ldM, fM0, fM1, szM, zM, plM0, plM1, agM, paM, ldJ, fJ0, fJ1, fJ2, szJ, zJ, plJ0, plJ1, plJ2, agJ, paJ, h1, h2]
    simp [mvcgen_simp, -map_replicate, -map_set, -map_append, -map_reverse, -map_take, -map_drop, -map_tail, -any_map, -all_map, -mapM_map, -map_map, Try.f15, tl]
theorem run_specSquaredNorms (p : Int) (a b : List Int) (ha : a.length ≤ 1048576) (hb : b.length ≤ 1048576) :
    runv E0 39 [(V.agg [V.int .i64 (p), (V.list (List.length (a)) (List.map (V.int .i64) (a))), (V.list (List.length (b)) (List.map (V.int .i64) (b)))])] = some ⟨true, .tup [(V.uniq 1 (List.length (if jacB p a b then tab a.length (nrm p b) else [])) (List.map (V.int .i64) (if jacB p a b then tab a.length (nrm p b) else []))), .int .i64 (if jacB p a b then 0 else 1)], [.agg [.undef, .undef, .undef]]⟩ := by
  have cdk : codeOk Try.f39.ntmps (Try.f39.body.getD .skip) = true := by kernel_rfl
  refine run_of_WL (fn := Try.f39) rfl Try.func39 rfl ⟨by simp [Try.ntmps39], by simp [wideA, ints], cdk, by simp [Try.f39]⟩ ?_
  have h1 := run_l03Is p a b (by omega) (by omega)
  cases e : jacB p a b with
  | false =>
    rw [e] at h1
    simp [go_sem, -map_replicate, -map_set, -map_append, -map_reverse, -map_take, -map_drop, -map_tail, -any_map, -all_map, -mapM_map, -map_map, slL, szI, ldI, zI, undL, apL, setI, rdI_get, Nat.add_one_le_iff, fillV, zeros1, zeros0, appendD, segV, lvO, goneOf, sliceD, bound, Nat.add_assoc, szL, ldL, setCs0, setCs1, setCs2, setCsA2, setCsA3, ldM, fM0, fM1, szM, zM, plM0, plM1, agM, paM, ldJ, fJ0, fJ1, fJ2, szJ, zJ, plJ0, plJ1, plJ2, agJ, paJ, h1]
    simp [mvcgen_simp, -map_replicate, -map_set, -map_append, -map_reverse, -map_take, -map_drop, -map_tail, -any_map, -all_map, -mapM_map, -map_map, Try.f39]
  | true =>
    rw [e] at h1
    have h2 := run_l10Norms p a b e
    have tl := tab_len a.length (nrm p b)
    simp [go_sem, -map_replicate, -map_set, -map_append, -map_reverse, -map_take, -map_drop, -map_tail, -any_map, -all_map, -mapM_map, -map_map, slL, szI, ldI, zI, undL, apL, setI, rdI_get, Nat.add_one_le_iff, fillV, zeros1, zeros0, appendD, segV, lvO, goneOf, sliceD, bound, Nat.add_assoc, szL, ldL, setCs0, setCs1, setCs2, setCsA2, setCsA3, ldM, fM0, fM1, szM, zM, plM0, plM1, agM, paM, ldJ, fJ0, fJ1, fJ2, szJ, zJ, plJ0, plJ1, plJ2, agJ, paJ, h1, h2]
    simp [mvcgen_simp, -map_replicate, -map_set, -map_append, -map_reverse, -map_take, -map_drop, -map_tail, -any_map, -all_map, -mapM_map, -map_map, Try.f39, tl]

end Go.Proofs.Ytacfkfdnncgjcaa.Ev
