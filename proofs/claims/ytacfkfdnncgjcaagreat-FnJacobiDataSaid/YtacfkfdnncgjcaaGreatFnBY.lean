/- NamedMoments: binomials, sums of products, lists reversed, Pascal's rows. Conditions: none. -/
/- NamedMoments: the names. Conditions: none. -/
/- NamedMoments: the reference's list. Conditions: none. -/
import Derived.Test.YtacfkfdnncgjcaaGreatFnBA
import Derived.Test.YtacfkfdnncgjcaaGreatFnI
set_option linter.unusedSimpArgs false
set_option linter.unusedVariables false
namespace Go.Proofs.YtacfkfdnncgjcaaGreat.Ev
open Go Go.Proofs
open List (map_replicate map_set map_append map_reverse map_take map_drop map_tail any_map all_map mapM_map map_map)
set_option maxRecDepth 4000
set_option maxHeartbeats 4000000

/-- How many ways there are to choose k of n things. -/
def chs : Nat → Nat → Nat
  | _, 0 => 1
  | 0, _ + 1 => 0
  | n + 1, k + 1 => chs n k + chs n (k + 1)
theorem chs_big : ∀ (n k : Nat), n < k → chs n k = 0
  | 0, k + 1, _ => rfl
  | n + 1, k + 1, h => by rw [chs, chs_big n k (by omega), chs_big n (k + 1) (by omega)]
theorem chs_zero (n : Nat) : chs n 0 = 1 := by cases n <;> rfl
theorem chs_self : ∀ (n : Nat), chs n n = 1
  | 0 => rfl
  | n + 1 => by rw [chs, chs_self n, chs_big n (n + 1) (by omega)]
theorem chs_le : ∀ (n k : Nat), chs n k ≤ 2 ^ n
  | n, 0 => by rw [chs_zero]; exact Nat.one_le_two_pow
  | 0, k + 1 => by simp [chs]
  | n + 1, k + 1 => by
    have h1 := chs_le n k
    have h2 := chs_le n (k + 1)
    rw [chs, Nat.pow_succ]; omega
theorem chs_absorb : ∀ (n i : Nat), chs n i * (n - i) = chs n (i + 1) * (i + 1)
  | 0, i => by simp [chs]
  | n + 1, 0 => by
    have h := chs_absorb n 0
    rw [chs_zero] at h
    rw [chs_zero, chs, chs_zero]; omega
  | n + 1, i + 1 => by
    have h1 := chs_absorb n i
    have h2 := chs_absorb n (i + 1)
    rw [chs, chs]
    by_cases c : i < n
    · have e1 : n + 1 - (i + 1) = n - i := by omega
      obtain ⟨d, hd⟩ : ∃ d, n - i = d + 1 := ⟨n - i - 1, by omega⟩
      have e2 : n - (i + 1) = d := by omega
      rw [e1, hd]
      rw [hd] at h1
      rw [e2] at h2
      rw [Nat.add_mul, h1, Nat.add_mul, ← h2, ← Nat.mul_add, ← Nat.mul_add]
      congr 1; omega
    · rw [show n + 1 - (i + 1) = 0 by omega, chs_big n (i + 1) (by omega), chs_big n (i + 1 + 1) (by omega)]; simp
theorem chs_next (n i : Nat) : chs n i * (n - i) / (i + 1) = chs n (i + 1) := by
  rw [chs_absorb]; exact Nat.mul_div_cancel _ (by omega)
/-- Pascal's rows modulo p. -/
def chP (p : Int) (n i : Nat) : Int := (chs n i : Int) % p
theorem chP_zero (p : Int) (n : Nat) : chP p n 0 = 1 % p := by unfold chP; rw [chs_zero]; rfl
theorem chP_self (p : Int) (n : Nat) : chP p n n = 1 % p := by unfold chP; rw [chs_self]; rfl
theorem chP_step (p : Int) (n i : Nat) : chP p (n + 1) (i + 1) = (chP p n i + chP p n (i + 1)) % p := by
  unfold chP
  rw [chs, Int.natCast_add, ← Int.add_emod]
/-- Sums of products, brought back modulo p after each step. -/
def dotK (p : Int) (a b : List Int) : Nat → Int
  | 0 => 0
  | i + 1 => (dotK p a b i + rdI a i * rdI b i) % p
theorem dotK_range {p : Int} (hp : 2 ≤ p ∧ p ≤ 10007) (a b : List Int) : ∀ i, 0 ≤ dotK p a b i ∧ dotK p a b i < p
  | 0 => by show (0 : Int) ≤ 0 ∧ (0 : Int) < p; omega
  | i + 1 => mod_small hp _

theorem run_l02Sum (p : Int) (k : Nat) (a b : List Int) (hp : 2 ≤ p ∧ p ≤ 10007) (ha : k ≤ a.length) (hb : k ≤ b.length) (hk : k ≤ 1000) (ra : ∀ i, 0 ≤ rdI a i ∧ rdI a i < p) (rb : ∀ i, 0 ≤ rdI b i ∧ rdI b i < p) :
    runv E1 159 [.int .i64 p, .int .i64 (k : Int), (V.list (List.length (a)) (List.map (V.int .i64) (a))), (V.list (List.length (b)) (List.map (V.int .i64) (b)))] = some ⟨true, .int .i64 (if k = 0 then 1 else dotK p a b k), [.undef, .undef, .undef, .undef]⟩ := by
  have cdk : codeOk Tryz.f159.ntmps (Tryz.f159.body.getD .skip) = true := by kernel_rfl
  refine run_of_WLr (fn := Tryz.f159) rfl Tryz.func159 rfl ⟨by simp [Tryz.ntmps159], by simp [wideA, ints], cdk, by simp [Tryz.f159]⟩ rfl (by simp [rebOk, noId, adoptT, adoptA, adoptL, adoptC, depth]) ?_
  have hpn : ¬ p = 0 := by omega
  by_cases k0 : k = 0
  · subst k0
    have d1 : Int.tmod 1 p = 1 := by rw [Int.tmod_eq_emod_of_nonneg (by omega), Int.emod_eq_of_lt (by omega) (by omega)]
    simp only [Int.cast_ofNat_Int]
    simp [go_sem, -map_replicate, -map_set, -map_append, -map_reverse, -map_take, -map_drop, -map_tail, -any_map, -all_map, -mapM_map, -map_map, slL, szI, ldI, zI, undL, apL, setI, rdI_get, Nat.add_one_le_iff, fillV, zeros1, zeros0, appendD, segV, lvO, goneOf, sliceD, bound, Nat.add_assoc, szL, ldL, setCs0, setCs1, setCs2, setCsA2, setCsA3, ldM, fM0, fM1, szM, zM, plM0, plM1, agM, paM, ldJ, fJ0, fJ1, fJ2, szJ, zJ, plJ0, plJ1, plJ2, agJ, paJ, hpn, d1, wz1]
    simp [mvcgen_simp, -map_replicate, -map_set, -map_append, -map_reverse, -map_take, -map_drop, -map_tail, -any_map, -all_map, -mapM_map, -map_map, Tryz.f159]
  have k0i : ¬ (k : Int) = 0 := by omega
  simp [go_sem, -map_replicate, -map_set, -map_append, -map_reverse, -map_take, -map_drop, -map_tail, -any_map, -all_map, -mapM_map, -map_map, slL, szI, ldI, zI, undL, apL, setI, rdI_get, Nat.add_one_le_iff, fillV, zeros1, zeros0, appendD, segV, lvO, goneOf, sliceD, bound, Nat.add_assoc, szL, ldL, setCs0, setCs1, setCs2, setCsA2, setCsA3, ldM, fM0, fM1, szM, zM, plM0, plM1, agM, paM, ldJ, fJ0, fJ1, fJ2, szJ, zJ, plJ0, plJ1, plJ2, agJ, paJ, k0, k0i]
  rw [WL_loop]
  refine WL_for (keep := [0, 1, 2, 3, 9, 10]) (rs := resM Tryz.f159) rfl (by kernel_rfl) (fun i => mkSt [(0, .int .i64 p), (1, .int .i64 (k : Int)), (2, (V.list (List.length (a)) (List.map (V.int .i64) (a)))), (3, (V.list (List.length (b)) (List.map (V.int .i64) (b)))), (9, .int .i64 (dotK p a b i)), (10, .int .i64 (i : Int))] [] (resM Tryz.f159)) k ?_ ?_ 0 _ (by omega) rfl ?_
  · intro i hi next
    have r0 := dotK_range hp a b i
    have pm := mul_small hp (ra i) (rb i)
    have u1 : IntKind.i64.wrap (rdI a i * rdI b i) = rdI a i * rdI b i := IntWalk.i64_in _ (by omega)
    have u2 : IntKind.i64.wrap (dotK p a b i + rdI a i * rdI b i) = dotK p a b i + rdI a i * rdI b i := IntWalk.i64_in _ (by omega)
    have t1 : (dotK p a b i + rdI a i * rdI b i).tmod p = dotK p a b (i + 1) := Int.tmod_eq_emod_of_nonneg (by omega)
    have r1 := dotK_range hp a b (i + 1)
    have u3 : IntKind.i64.wrap (dotK p a b (i + 1)) = dotK p a b (i + 1) := IntWalk.i64_in _ (by omega)
    have w3 : IntKind.i64.wrap ((i : Int) + 1) = (i : Int) + 1 := IntWalk.i64_in _ (by omega)
    have ii : (i : Int) < k := by omega
    have ia : i < a.length := by omega
    have ib : i < b.length := by omega
    have iai : (i : Int) < a.length := by omega
    have ibi : (i : Int) < b.length := by omega
    simp [go_sem, -map_replicate, -map_set, -map_append, -map_reverse, -map_take, -map_drop, -map_tail, -any_map, -all_map, -mapM_map, -map_map, slL, szI, ldI, zI, undL, apL, setI, rdI_get, Nat.add_one_le_iff, fillV, zeros1, zeros0, appendD, segV, lvO, goneOf, sliceD, bound, Nat.add_assoc, szL, ldL, setCs0, setCs1, setCs2, setCsA2, setCsA3, ldM, fM0, fM1, szM, zM, plM0, plM1, agM, paM, ldJ, fJ0, fJ1, fJ2, szJ, zJ, plJ0, plJ1, plJ2, agJ, paJ, hi, ii, ia, ib, iai, ibi, u1, u2, t1, u3, w3, hpn]
    repeat refine ⟨by kernel_rfl, by kernel_rfl, ?_⟩
    refine next _ rfl ?_
    (refine canon_mk ?_; simp [method_specs_simp, ordIds_app, ordRen_app, ordIds_app2, ordRen_app2, -map_replicate, -map_set, -map_append, -map_reverse, -map_take, -map_drop, -map_tail, -map_map])
  · simp [go_sem, -map_replicate, -map_set, -map_append, -map_reverse, -map_take, -map_drop, -map_tail, -any_map, -all_map, -mapM_map, -map_map, slL, szI, ldI, zI, undL, apL, setI, rdI_get, Nat.add_one_le_iff, fillV, zeros1, zeros0, appendD, segV, lvO, goneOf, sliceD, bound, Nat.add_assoc, szL, ldL, setCs0, setCs1, setCs2, setCsA2, setCsA3, ldM, fM0, fM1, szM, zM, plM0, plM1, agM, paM, ldJ, fJ0, fJ1, fJ2, szJ, zJ, plJ0, plJ1, plJ2, agJ, paJ]
    simp [mvcgen_simp, -map_replicate, -map_set, -map_append, -map_reverse, -map_take, -map_drop, -map_tail, -any_map, -all_map, -mapM_map, -map_map, Tryz.f159, k0]
  · (refine canon_mk ?_; simp [method_specs_simp, ordIds_app, ordRen_app, ordIds_app2, ordRen_app2, -map_replicate, -map_set, -map_append, -map_reverse, -map_take, -map_drop, -map_tail, -map_map, dotK])
theorem rev_take (l : List Int) {x : Nat} (h : x < l.length) : l.reverse.take (x + 1) = l.reverse.take x ++ [rdI l (l.length - 1 - x)] := by
  rw [List.take_add_one, List.getElem?_eq_getElem (by simpa using h), List.getElem_reverse, rdI_get]; rfl
theorem run_l02Back (l : List Int) (hl : l.length ≤ 1000) :
    runv E1 160 [(V.list (List.length (l)) (List.map (V.int .i64) (l)))] = some ⟨true, (V.uniq 1 (List.length (l.reverse)) (List.map (V.int .i64) (l.reverse))), [.undef]⟩ := by
  have cdk : codeOk Tryz.f160.ntmps (Tryz.f160.body.getD .skip) = true := by kernel_rfl
  refine run_of_WLr (fn := Tryz.f160) rfl Tryz.func160 rfl ⟨by simp [Tryz.ntmps160], by simp [wideA, ints], cdk, by simp [Tryz.f160]⟩ rfl (by simp [rebOk, noId, adoptT, adoptA, adoptL, adoptC, depth]) ?_
  have w0 : IntKind.i64.wrap ((l.length : Int) - 1) = (l.length : Int) - 1 := IntWalk.i64_in _ (by omega)
  simp [go_sem, -map_replicate, -map_set, -map_append, -map_reverse, -map_take, -map_drop, -map_tail, -any_map, -all_map, -mapM_map, -map_map, slL, szI, ldI, zI, undL, apL, setI, rdI_get, Nat.add_one_le_iff, fillV, zeros1, zeros0, appendD, segV, lvO, goneOf, sliceD, bound, Nat.add_assoc, szL, ldL, setCs0, setCs1, setCs2, setCsA2, setCsA3, ldM, fM0, fM1, szM, zM, plM0, plM1, agM, paM, ldJ, fJ0, fJ1, fJ2, szJ, zJ, plJ0, plJ1, plJ2, agJ, paJ, w0]
  rw [WL_loop]
  refine WL_for (keep := [0, 3, 4]) (rs := resM Tryz.f160) rfl (by kernel_rfl) (fun x => match x with | 0 => mkSt [(0, (V.list (List.length (l)) (List.map (V.int .i64) (l)))), (3, .nils), (4, .int .i64 ((l.length : Int) - 1))] [] (resM Tryz.f160) | x + 1 => mkSt [(0, (V.list (List.length (l)) (List.map (V.int .i64) (l)))), (3, .sl 0 0 0 (x + 1)), (4, .int .i64 ((l.length : Int) - 1 - ((x : Int) + 1)))] [some (⟨0, 2, 1, (l.reverse.take (x + 1)).map (V.int .i64)⟩)] (resM Tryz.f160)) l.length ?_ ?_ 0 _ (by omega) rfl ?_
  · intro x hx next
    have eT := rev_take l hx
    obtain ⟨j, hj⟩ : ∃ j : Nat, j = l.length - 1 - x := ⟨_, rfl⟩
    have hji : (j : Int) = (l.length : Int) - 1 - x := by omega
    have j1 : j < l.length := by omega
    have j1i : (j : Int) < l.length := by omega
    have w3 : IntKind.i64.wrap ((j : Int) - 1) = (j : Int) - 1 := IntWalk.i64_in _ (by omega)
    have lT : (l.reverse.take x).length = x := by simp; omega
    have c3 : (x + 1) * 8 ≤ 140737488355328 := by omega
    rw [← hj] at eT
    generalize hL : l.reverse.take x = L at *
    rcases x with _ | x
    · obtain rfl : L = [] := by rw [← hL] ; simp
      dsimp only at next ⊢
      have hE : ((l.length : Int) - 1) = (j : Int) := by omega
      try rw [hE]
      have hN : (l.length : Int) - 1 - ((0 : Int) + 1) = (j : Int) - 1 := by omega
      try rw [hN] at next
      simp only [Nat.zero_add, Nat.add_assoc, Nat.reduceAdd, Int.cast_ofNat_Int, Int.natCast_add] at next c3 eT lT
      rw [eT] at next
      try rw [hL]
      simp [go_sem, -map_replicate, -map_set, -map_append, -map_reverse, -map_take, -map_drop, -map_tail, -any_map, -all_map, -mapM_map, -map_map, slL, szI, ldI, zI, undL, apL, setI, rdI_get, Nat.add_one_le_iff, fillV, zeros1, zeros0, appendD, segV, lvO, goneOf, sliceD, bound, Nat.add_assoc, szL, ldL, setCs0, setCs1, setCs2, setCsA2, setCsA3, ldM, fM0, fM1, szM, zM, plM0, plM1, agM, paM, ldJ, fJ0, fJ1, fJ2, szJ, zJ, plJ0, plJ1, plJ2, agJ, paJ, j1, j1i, w3, c3, lT]
      repeat refine ⟨by kernel_rfl, by kernel_rfl, ?_⟩
      refine next _ rfl ?_
      (refine canon_mk ?_; simp [method_specs_simp, ordIds_app, ordRen_app, ordIds_app2, ordRen_app2, -map_replicate, -map_set, -map_append, -map_reverse, -map_take, -map_drop, -map_tail, -map_map]) <;> omega
    · skip
      dsimp only at next ⊢
      have hE : ((l.length : Int) - 1 - ((x : Int) + 1)) = (j : Int) := by omega
      try rw [hE]
      have hN : (l.length : Int) - 1 - (((x + 1) : Int) + 1) = (j : Int) - 1 := by omega
      try rw [hN] at next
      simp only [Nat.zero_add, Nat.add_assoc, Nat.reduceAdd, Int.cast_ofNat_Int, Int.natCast_add] at next c3 eT lT
      rw [eT] at next
      try rw [hL]
      simp [go_sem, -map_replicate, -map_set, -map_append, -map_reverse, -map_take, -map_drop, -map_tail, -any_map, -all_map, -mapM_map, -map_map, slL, szI, ldI, zI, undL, apL, setI, rdI_get, Nat.add_one_le_iff, fillV, zeros1, zeros0, appendD, segV, lvO, goneOf, sliceD, bound, Nat.add_assoc, szL, ldL, setCs0, setCs1, setCs2, setCsA2, setCsA3, ldM, fM0, fM1, szM, zM, plM0, plM1, agM, paM, ldJ, fJ0, fJ1, fJ2, szJ, zJ, plJ0, plJ1, plJ2, agJ, paJ, j1, j1i, w3, c3, lT]
      repeat refine ⟨by kernel_rfl, by kernel_rfl, ?_⟩
      refine next _ rfl ?_
      (refine canon_mk ?_; simp [method_specs_simp, ordIds_app, ordRen_app, ordIds_app2, ordRen_app2, -map_replicate, -map_set, -map_append, -map_reverse, -map_take, -map_drop, -map_tail, -map_map]) <;> omega
  · have hE : l.reverse.take l.length = l.reverse := List.take_of_length_le (by simp)
    generalize hn : l.length = n at *
    rcases n with _ | n
    · have e : l = [] := List.eq_nil_of_length_eq_zero hn
      subst e
      dsimp only
      simp only [Int.cast_ofNat_Int]
      simp [go_sem, -map_replicate, -map_set, -map_append, -map_reverse, -map_take, -map_drop, -map_tail, -any_map, -all_map, -mapM_map, -map_map, slL, szI, ldI, zI, undL, apL, setI, rdI_get, Nat.add_one_le_iff, fillV, zeros1, zeros0, appendD, segV, lvO, goneOf, sliceD, bound, Nat.add_assoc, szL, ldL, setCs0, setCs1, setCs2, setCsA2, setCsA3, ldM, fM0, fM1, szM, zM, plM0, plM1, agM, paM, ldJ, fJ0, fJ1, fJ2, szJ, zJ, plJ0, plJ1, plJ2, agJ, paJ]
      simp [mvcgen_simp, -map_replicate, -map_set, -map_append, -map_reverse, -map_take, -map_drop, -map_tail, -any_map, -all_map, -mapM_map, -map_map, Tryz.f160]
    · dsimp only
      have c : (((n + 1 : Nat) : Int) - 1 - ((n : Int) + 1)) = -1 := by omega
      rw [c, hE]
      simp [go_sem, -map_replicate, -map_set, -map_append, -map_reverse, -map_take, -map_drop, -map_tail, -any_map, -all_map, -mapM_map, -map_map, slL, szI, ldI, zI, undL, apL, setI, rdI_get, Nat.add_one_le_iff, fillV, zeros1, zeros0, appendD, segV, lvO, goneOf, sliceD, bound, Nat.add_assoc, szL, ldL, setCs0, setCs1, setCs2, setCsA2, setCsA3, ldM, fM0, fM1, szM, zM, plM0, plM1, agM, paM, ldJ, fJ0, fJ1, fJ2, szJ, zJ, plJ0, plJ1, plJ2, agJ, paJ]
      simp [mvcgen_simp, -map_replicate, -map_set, -map_append, -map_reverse, -map_take, -map_drop, -map_tail, -any_map, -all_map, -mapM_map, -map_map, Tryz.f160, hn]
  · dsimp only
    (refine canon_mk ?_; simp [method_specs_simp, ordIds_app, ordRen_app, ordIds_app2, ordRen_app2, -map_replicate, -map_set, -map_append, -map_reverse, -map_take, -map_drop, -map_tail, -map_map])
theorem run_l02Pascal (p : Int) (k : Nat) (hp : 2 ≤ p ∧ p ≤ 10007) (hk : k ≤ 1000) :
    runv E1 161 [.int .i64 p, (V.list (List.length (tab (k + 1) (chP p k))) (List.map (V.int .i64) (tab (k + 1) (chP p k))))] = some ⟨true, (V.uniq 1 (List.length (tab (k + 2) (chP p (k + 1)))) (List.map (V.int .i64) (tab (k + 2) (chP p (k + 1))))), [.undef, .undef]⟩ := by
  have cdk : codeOk Tryz.f161.ntmps (Tryz.f161.body.getD .skip) = true := by kernel_rfl
  refine run_of_WLr (fn := Tryz.f161) rfl Tryz.func161 rfl ⟨by simp [Tryz.ntmps161], by simp [wideA, ints], cdk, by simp [Tryz.f161]⟩ rfl (by simp [rebOk, noId, adoptT, adoptA, adoptL, adoptC, depth]) ?_
  have hpn : ¬ p = 0 := by omega
  have d1 : Int.tmod 1 p = 1 := by rw [Int.tmod_eq_emod_of_nonneg (by omega), Int.emod_eq_of_lt (by omega) (by omega)]
  have m1 : 1 % p = 1 := Int.emod_eq_of_lt (by omega) (by omega)
  have lR := tab_len (k + 1) (chP p k)
  have gR : ∀ j, j < k + 1 → rdI (tab (k + 1) (chP p k)) j = chP p k j := fun j hj => tab_rd hj
  generalize hR : tab (k + 1) (chP p k) = R at *
  simp [go_sem, -map_replicate, -map_set, -map_append, -map_reverse, -map_take, -map_drop, -map_tail, -any_map, -all_map, -mapM_map, -map_map, slL, szI, ldI, zI, undL, apL, setI, rdI_get, Nat.add_one_le_iff, fillV, zeros1, zeros0, appendD, segV, lvO, goneOf, sliceD, bound, Nat.add_assoc, szL, ldL, setCs0, setCs1, setCs2, setCsA2, setCsA3, ldM, fM0, fM1, szM, zM, plM0, plM1, agM, paM, ldJ, fJ0, fJ1, fJ2, szJ, zJ, plJ0, plJ1, plJ2, agJ, paJ, hpn, d1, wz1, lR]
  repeat refine ⟨by kernel_rfl, by kernel_rfl, ?_⟩
  rw [WL_loop]
  refine WL_for (keep := [0, 1, 5, 6]) (rs := resM Tryz.f161) rfl (by kernel_rfl) (fun i => mkSt [(0, .int .i64 p), (1, .list (k + 1) (R.map (V.int .i64))), (5, .sl 0 0 0 (i + 1)), (6, .int .i64 ((i : Int) + 1))] [some (⟨0, 2, 1, (tab (i + 1) (chP p (k + 1))).map (V.int .i64)⟩)] (resM Tryz.f161)) k ?_ ?_ 0 _ (by omega) rfl ?_
  · intro i hi next
    have g0 := gR i (by omega)
    have g1 := gR (i + 1) (by omega)
    have r0 := mod_small hp (chs k i : Int)
    have r1 := mod_small hp (chs k (i + 1) : Int)
    have e0 : chP p k i = (chs k i : Int) % p := rfl
    have e1 : chP p k (i + 1) = (chs k (i + 1) : Int) % p := rfl
    have u1 : IntKind.i64.wrap (chP p k i + chP p k (i + 1)) = chP p k i + chP p k (i + 1) := IntWalk.i64_in _ (by omega)
    have t1 : (chP p k i + chP p k (i + 1)).tmod p = chP p (k + 1) (i + 1) := by rw [chP_step]; exact Int.tmod_eq_emod_of_nonneg (by omega)
    have u2 : IntKind.i64.wrap (chP p (k + 1) (i + 1)) = chP p (k + 1) (i + 1) := by
      have := mod_small hp (chs (k + 1) (i + 1) : Int)
      exact IntWalk.i64_in _ (by show _ ≤ (chs (k + 1) (i + 1) : Int) % p ∧ (chs (k + 1) (i + 1) : Int) % p ≤ _; omega)
    have w1 : IntKind.i64.wrap (i : Int) = (i : Int) := IntWalk.i64_in _ (by omega)
    have w2 : IntKind.i64.wrap ((i : Int) + 1 - 1) = (i : Int) := by rw [IntWalk.i64_in _ (by omega)]; omega
    have w3 : IntKind.i64.wrap ((i : Int) + 1 + 1) = (i : Int) + 1 + 1 := IntWalk.i64_in _ (by omega)
    have hi1 : i < k + 1 := by omega
    have hi1i : (i : Int) < (k : Int) + 1 := by omega
    have hii : (i : Int) < (k : Int) := by omega
    have hiq : (0 : Int) ≤ (i : Int) + 1 := by omega
    have hRi : i < R.length := by omega
    have hRi1 : i + 1 < R.length := by omega
    have c3 : (i + 2) * 8 ≤ 140737488355328 := by omega
    have tA : tab (i + 1 + 1) (chP p (k + 1)) = tab (i + 1) (chP p (k + 1)) ++ [chP p (k + 1) (i + 1)] := tab_succ _ _
    have lA := tab_len (i + 1) (chP p (k + 1))
    rw [tA] at next
    generalize tab (i + 1) (chP p (k + 1)) = A at *
    generalize chP p (k + 1) (i + 1) = x at *
    simp [go_sem, -map_replicate, -map_set, -map_append, -map_reverse, -map_take, -map_drop, -map_tail, -any_map, -all_map, -mapM_map, -map_map, slL, szI, ldI, zI, undL, apL, setI, rdI_get, Nat.add_one_le_iff, fillV, zeros1, zeros0, appendD, segV, lvO, goneOf, sliceD, bound, Nat.add_assoc, szL, ldL, setCs0, setCs1, setCs2, setCsA2, setCsA3, ldM, fM0, fM1, szM, zM, plM0, plM1, agM, paM, ldJ, fJ0, fJ1, fJ2, szJ, zJ, plJ0, plJ1, plJ2, agJ, paJ, hi, hii, hi1, hi1i, hiq, hRi, hRi1, g0, g1, u1, t1, u2, w1, w2, w3, c3, lA, lR, hpn]
    repeat refine ⟨by kernel_rfl, by kernel_rfl, ?_⟩
    refine next _ rfl ?_
    (refine canon_mk ?_; simp [method_specs_simp, ordIds_app, ordRen_app, ordIds_app2, ordRen_app2, -map_replicate, -map_set, -map_append, -map_reverse, -map_take, -map_drop, -map_tail, -map_map])
  · have tA : tab (k + 2) (chP p (k + 1)) = tab (k + 1) (chP p (k + 1)) ++ [1] := by
      rw [tab_succ, chP_self, m1]
    have lA := tab_len (k + 1) (chP p (k + 1))
    have lB := tab_len (k + 2) (chP p (k + 1))
    have c3 : (k + 2) * 8 ≤ 140737488355328 := by omega
    rw [tA] at lB ⊢
    generalize tab (k + 1) (chP p (k + 1)) = A at *
    simp [go_sem, -map_replicate, -map_set, -map_append, -map_reverse, -map_take, -map_drop, -map_tail, -any_map, -all_map, -mapM_map, -map_map, slL, szI, ldI, zI, undL, apL, setI, rdI_get, Nat.add_one_le_iff, fillV, zeros1, zeros0, appendD, segV, lvO, goneOf, sliceD, bound, Nat.add_assoc, szL, ldL, setCs0, setCs1, setCs2, setCsA2, setCsA3, ldM, fM0, fM1, szM, zM, plM0, plM1, agM, paM, ldJ, fJ0, fJ1, fJ2, szJ, zJ, plJ0, plJ1, plJ2, agJ, paJ, hpn, d1, wz1, lA, lR, c3]
    repeat refine ⟨by kernel_rfl, by kernel_rfl, ?_⟩
    have tk : List.take (k + 2) (A.map (V.int .i64) ++ [V.int .i64 1]) = (A ++ [1]).map (V.int .i64) := by
      rw [map_snoc]; exact take_map_full (by omega)
    simp [mvcgen_simp, -map_replicate, -map_set, -map_append, -map_reverse, -map_take, -map_drop, -map_tail, -any_map, -all_map, -mapM_map, -map_map, Tryz.f161, lA, lB, tk]
  · have e0 : tab 1 (chP p (k + 1)) = [1] := by
      show [chP p (k + 1) 0] = [1]; rw [chP_zero, m1]
    (refine canon_mk ?_; simp [method_specs_simp, ordIds_app, ordRen_app, ordIds_app2, ordRen_app2, -map_replicate, -map_set, -map_append, -map_reverse, -map_take, -map_drop, -map_tail, -map_map, e0])
end Go.Proofs.YtacfkfdnncgjcaaGreat.Ev

set_option linter.unusedSimpArgs false
set_option linter.unusedVariables false
namespace Go.Proofs.YtacfkfdnncgjcaaGreat.Ev
open Go Go.Proofs
open List (map_replicate map_set map_append map_reverse map_take map_drop map_tail any_map all_map mapM_map map_map)
set_option maxRecDepth 4000
set_option maxHeartbeats 4000000

def mUni : List UInt8 := [117, 110, 105, 102, 111, 114, 109]
def mLag : List UInt8 := [108, 97, 103, 117, 101, 114, 114, 101]
def mHer : List UInt8 := [104, 101, 114, 109, 105, 116, 101]
def mCat : List UInt8 := [99, 97, 116, 97, 108, 97, 110]
def mPoi : List UInt8 := [112, 111, 105, 115, 115, 111, 110]
/-- Which name is it? -/
def mk (s : ByteArray) : Nat :=
  if s.toList == mUni then 1 else if s.toList == mLag then 2 else if s.toList == mHer then 3 else if s.toList == mCat then 4 else if s.toList == mPoi then 5 else 0
def MK (s : ByteArray) (n : Nat) : Prop :=
  (s.toList == mUni) = decide (n = 1) ∧ (s.toList == mLag) = decide (n = 2) ∧ (s.toList == mHer) = decide (n = 3) ∧ (s.toList == mCat) = decide (n = 4) ∧ (s.toList == mPoi) = decide (n = 5)
theorem mk_spec (s : ByteArray) : MK s (mk s) ∧ mk s ≤ 5 := by
  unfold MK mk
  by_cases h1 : (s.toList == mUni) = true
  · have e := eq_of_beq h1; rw [e]; decide +kernel
  by_cases h2 : (s.toList == mLag) = true
  · have e := eq_of_beq h2; rw [e]; decide +kernel
  by_cases h3 : (s.toList == mHer) = true
  · have e := eq_of_beq h3; rw [e]; decide +kernel
  by_cases h4 : (s.toList == mCat) = true
  · have e := eq_of_beq h4; rw [e]; decide +kernel
  by_cases h5 : (s.toList == mPoi) = true
  · have e := eq_of_beq h5; rw [e]; decide +kernel
  · simp only [Bool.not_eq_true] at h1 h2 h3 h4 h5
    simp [h1, h2, h3, h4, h5]
theorem run_l02Known (s : ByteArray) : runv E1 91 [.str s] = some ⟨true, .bool (decide (¬ mk s = 0)), [.undef]⟩ := by
  have cdk : codeOk Tryz.f91.ntmps (Tryz.f91.body.getD .skip) = true := by kernel_rfl
  refine run_of_WLr (fn := Tryz.f91) rfl Tryz.func91 rfl ⟨by simp [Tryz.ntmps91], by simp [wideA, ints], cdk, by simp [Tryz.f91]⟩ rfl (by simp [rebOk, noId, adoptT, adoptA, adoptL, adoptC, depth]) ?_
  obtain ⟨⟨e1, e2, e3, e4, e5⟩, hn⟩ := mk_spec s
  unfold mUni at e1; unfold mLag at e2; unfold mHer at e3; unfold mCat at e4; unfold mPoi at e5
  generalize mk s = n at *
  have : n = 0 ∨ n = 1 ∨ n = 2 ∨ n = 3 ∨ n = 4 ∨ n = 5 := by omega
  rcases this with rfl | rfl | rfl | rfl | rfl | rfl <;> simp [go_sem, -map_replicate, -map_set, -map_append, -map_reverse, -map_take, -map_drop, -map_tail, -any_map, -all_map, -mapM_map, -map_map, slL, szI, ldI, zI, undL, apL, setI, rdI_get, Nat.add_one_le_iff, fillV, zeros1, zeros0, appendD, segV, lvO, goneOf, sliceD, bound, Nat.add_assoc, szL, ldL, setCs0, setCs1, setCs2, setCsA2, setCsA3, ldM, fM0, fM1, szM, zM, plM0, plM1, agM, paM, ldJ, fJ0, fJ1, fJ2, szJ, zJ, plJ0, plJ1, plJ2, agJ, paJ, undS, strOp, wz0, wz1, e1, e2, e3, e4, e5] <;> simp [mvcgen_simp, -map_replicate, -map_set, -map_append, -map_reverse, -map_take, -map_drop, -map_tail, -any_map, -all_map, -mapM_map, -map_map, Tryz.f91]
def namesV : List V := [.str ⟨#[117, 110, 105, 102, 111, 114, 109]⟩, .str ⟨#[108, 97, 103, 117, 101, 114, 114, 101]⟩, .str ⟨#[104, 101, 114, 109, 105, 116, 101]⟩, .str ⟨#[99, 97, 116, 97, 108, 97, 110]⟩, .str ⟨#[112, 111, 105, 115, 115, 111, 110]⟩]
theorem slStr : slT Tryz.prog 100 = some (9, 1, 16) := by kernel_rfl
theorem ldStr : ldT Tryz.prog 9 = some (false, 1) := by kernel_rfl
theorem szStr : szT Tryz.prog 9 = some 1 := by kernel_rfl
theorem undStrS : Tryz.prog.underlying 100 = some (.slice 9) := by kernel_rfl
theorem zStr : zeroT Tryz.prog 9 = some [.str ⟨#[]⟩] := by kernel_rfl
theorem run_IndexS (s : ByteArray) : runv E1 188 [.list 5 namesV, .str s] = some ⟨true, .int .i64 ((mk s : Int) - 1), [.undef, .undef]⟩ := by
  unfold namesV
  have cdk : codeOk Tryz.f188.ntmps (Tryz.f188.body.getD .skip) = true := by kernel_rfl
  refine run_of_WLr (fn := Tryz.f188) rfl Tryz.func188 rfl ⟨by simp [Tryz.ntmps188], by simp [wideA, ints], cdk, by simp [Tryz.f188]⟩ rfl (by simp [rebOk, noId, adoptT, adoptA, adoptL, adoptC, depth]) ?_
  obtain ⟨⟨e1, e2, e3, e4, e5⟩, hn⟩ := mk_spec s
  unfold mUni at e1; unfold mLag at e2; unfold mHer at e3; unfold mCat at e4; unfold mPoi at e5
  generalize mk s = n at *
  simp [go_sem, -map_replicate, -map_set, -map_append, -map_reverse, -map_take, -map_drop, -map_tail, -any_map, -all_map, -mapM_map, -map_map, slL, szI, ldI, zI, undL, apL, setI, rdI_get, Nat.add_one_le_iff, fillV, zeros1, zeros0, appendD, segV, lvO, goneOf, sliceD, bound, Nat.add_assoc, szL, ldL, setCs0, setCs1, setCs2, setCsA2, setCsA3, ldM, fM0, fM1, szM, zM, plM0, plM1, agM, paM, ldJ, fJ0, fJ1, fJ2, szJ, zJ, plJ0, plJ1, plJ2, agJ, paJ, undS, slStr, ldStr, undStrS]
  rw [WL_loop]
  refine WL_forP (keep := [0, 1, 7, 8]) (rs := resM Tryz.f188) rfl (by kernel_rfl) (fun i => mkSt [(0, .list 5 [.str ⟨#[117, 110, 105, 102, 111, 114, 109]⟩, .str ⟨#[108, 97, 103, 117, 101, 114, 114, 101]⟩, .str ⟨#[104, 101, 114, 109, 105, 116, 101]⟩, .str ⟨#[99, 97, 116, 97, 108, 97, 110]⟩, .str ⟨#[112, 111, 105, 115, 115, 111, 110]⟩]), (1, .str s), (7, .int .i64 5), (8, .int .i64 (i : Int))] [] (resM Tryz.f188)) 5 (fun i => n = 0 ∨ i < n) ?_ ?_ 0 _ (by omega) (by omega) rfl ?_
  · intro i hi hP next
    by_cases hm : n = i + 1
    · subst hm
      rcases i with _ | _ | _ | _ | _ | i
      all_goals first
        | (exfalso; omega)
        | (simp only [Nat.zero_add, Nat.reduceAdd] at e1 e2 e3 e4 e5 ⊢
           simp [go_sem, -map_replicate, -map_set, -map_append, -map_reverse, -map_take, -map_drop, -map_tail, -any_map, -all_map, -mapM_map, -map_map, slL, szI, ldI, zI, undL, apL, setI, rdI_get, Nat.add_one_le_iff, fillV, zeros1, zeros0, appendD, segV, lvO, goneOf, sliceD, bound, Nat.add_assoc, szL, ldL, setCs0, setCs1, setCs2, setCsA2, setCsA3, ldM, fM0, fM1, szM, zM, plM0, plM1, agM, paM, ldJ, fJ0, fJ1, fJ2, szJ, zJ, plJ0, plJ1, plJ2, agJ, paJ, undS, strOp, slStr, ldStr, undStrS, e1, e2, e3, e4, e5]
           try (repeat refine ⟨by kernel_rfl, by kernel_rfl, ?_⟩)
           simp [mvcgen_simp, -map_replicate, -map_set, -map_append, -map_reverse, -map_take, -map_drop, -map_tail, -any_map, -all_map, -mapM_map, -map_map, Tryz.f188])
    · have hP' : n = 0 ∨ i + 1 < n := by omega
      have z2 : IntKind.i64.wrap 2 = 2 := by decide +kernel
      have z3 : IntKind.i64.wrap 3 = 3 := by decide +kernel
      have z4 : IntKind.i64.wrap 4 = 4 := by decide +kernel
      have z5 : IntKind.i64.wrap 5 = 5 := by decide +kernel
      rcases i with _ | _ | _ | _ | _ | i
      all_goals first
        | (exfalso; omega)
        | (simp only [Nat.zero_add, Nat.reduceAdd] at hm next ⊢
           simp [go_sem, -map_replicate, -map_set, -map_append, -map_reverse, -map_take, -map_drop, -map_tail, -any_map, -all_map, -mapM_map, -map_map, slL, szI, ldI, zI, undL, apL, setI, rdI_get, Nat.add_one_le_iff, fillV, zeros1, zeros0, appendD, segV, lvO, goneOf, sliceD, bound, Nat.add_assoc, szL, ldL, setCs0, setCs1, setCs2, setCsA2, setCsA3, ldM, fM0, fM1, szM, zM, plM0, plM1, agM, paM, ldJ, fJ0, fJ1, fJ2, szJ, zJ, plJ0, plJ1, plJ2, agJ, paJ, undS, strOp, slStr, ldStr, undStrS, e1, e2, e3, e4, e5, hm, wz1]
           try (repeat refine ⟨by kernel_rfl, by kernel_rfl, ?_⟩)
           refine next _ hP' rfl ?_
           (refine canon_mk ?_; simp [method_specs_simp, ordIds_app, ordRen_app, ordIds_app2, ordRen_app2, -map_replicate, -map_set, -map_append, -map_reverse, -map_take, -map_drop, -map_tail, -map_map, z2, z3, z4, z5]))
  · intro hP
    have n0 : n = 0 := by omega
    subst n0
    simp [go_sem, -map_replicate, -map_set, -map_append, -map_reverse, -map_take, -map_drop, -map_tail, -any_map, -all_map, -mapM_map, -map_map, slL, szI, ldI, zI, undL, apL, setI, rdI_get, Nat.add_one_le_iff, fillV, zeros1, zeros0, appendD, segV, lvO, goneOf, sliceD, bound, Nat.add_assoc, szL, ldL, setCs0, setCs1, setCs2, setCsA2, setCsA3, ldM, fM0, fM1, szM, zM, plM0, plM1, agM, paM, ldJ, fJ0, fJ1, fJ2, szJ, zJ, plJ0, plJ1, plJ2, agJ, paJ, undS, slStr, ldStr, undStrS]
    simp [mvcgen_simp, -map_replicate, -map_set, -map_append, -map_reverse, -map_take, -map_drop, -map_tail, -any_map, -all_map, -mapM_map, -map_map, Tryz.f188]
  · (refine canon_mk ?_; simp [method_specs_simp, ordIds_app, ordRen_app, ordIds_app2, ordRen_app2, -map_replicate, -map_set, -map_append, -map_reverse, -map_take, -map_drop, -map_tail, -map_map])
theorem run_ContainsS (s : ByteArray) : runv E1 158 [.list 5 namesV, .str s] = some ⟨true, .bool (decide (¬ mk s = 0)), [.undef, .undef]⟩ := by
  have h := run_IndexS s
  unfold namesV at *
  have cdk : codeOk Tryz.f158.ntmps (Tryz.f158.body.getD .skip) = true := by kernel_rfl
  refine run_of_WLr (fn := Tryz.f158) rfl Tryz.func158 rfl ⟨by simp [Tryz.ntmps158], by simp [wideA, ints], cdk, by simp [Tryz.f158]⟩ rfl (by simp [rebOk, noId, adoptT, adoptA, adoptL, adoptC, depth]) ?_
  generalize mk s = n at *
  simp [go_sem, -map_replicate, -map_set, -map_append, -map_reverse, -map_take, -map_drop, -map_tail, -any_map, -all_map, -mapM_map, -map_map, slL, szI, ldI, zI, undL, apL, setI, rdI_get, Nat.add_one_le_iff, fillV, zeros1, zeros0, appendD, segV, lvO, goneOf, sliceD, bound, Nat.add_assoc, szL, ldL, setCs0, setCs1, setCs2, setCsA2, setCsA3, ldM, fM0, fM1, szM, zM, plM0, plM1, agM, paM, ldJ, fJ0, fJ1, fJ2, szJ, zJ, plJ0, plJ1, plJ2, agJ, paJ, undS, slStr, ldStr, undStrS, h]
  simp [mvcgen_simp, -map_replicate, -map_set, -map_append, -map_reverse, -map_take, -map_drop, -map_tail, -any_map, -all_map, -mapM_map, -map_map, Tryz.f158]
  rw [← decide_not, decide_eq_decide]; omega
end Go.Proofs.YtacfkfdnncgjcaaGreat.Ev

set_option linter.unusedSimpArgs false
set_option linter.unusedVariables false
namespace Go.Proofs.YtacfkfdnncgjcaaGreat.Ev
open Go Go.Proofs
open List (map_replicate map_set map_append map_reverse map_take map_drop map_tail any_map all_map mapM_map map_map)
set_option maxRecDepth 4000
set_option maxHeartbeats 4000000

/-- The moment number k of a name, from those before it. -/
def ownM (t : Nat) (p : Int) (L : List Int) (k : Nat) : Int :=
  if k = 0 then 1 else if t = 1 then invP p (((k : Int) + 1) % p) else if t = 2 then rdI L (k - 1) * (k : Int) % p
  else if t = 3 then (if k % 2 = 0 then rdI L (k - 2) * ((k : Int) - 1) % p else 0) else if t = 4 then dotK p L L.reverse k
  else if t = 5 then dotK p L (tab k (chP p (k - 1))) k else 0
def nmL (t : Nat) (p : Int) : Nat → List Int
  | 0 => []
  | k + 1 => nmL t p k ++ [ownM t p (nmL t p k) k]
theorem nmL_len (t : Nat) (p : Int) : ∀ k, (nmL t p k).length = k
  | 0 => rfl
  | k + 1 => by rw [nmL, List.length_append, nmL_len t p k]; rfl
theorem ownM_range {p : Int} (hp : 2 ≤ p ∧ p ≤ 10007) (t : Nat) (L : List Int) (k : Nat) : 0 ≤ ownM t p L k ∧ ownM t p L k < p := by
  unfold ownM
  (repeat' split) <;> first | exact mod_small hp _ | exact dotK_range hp _ _ _ | exact invP_range hp _ | omega
theorem nmL_mem {p : Int} (hp : 2 ≤ p ∧ p ≤ 10007) (t : Nat) : ∀ k x, x ∈ nmL t p k → 0 ≤ x ∧ x < p
  | 0, x, h => by cases h
  | k + 1, x, h => by
    rw [nmL] at h
    rcases List.mem_append.1 h with h | h
    · exact nmL_mem hp t k x h
    · rw [List.mem_singleton.1 h]; exact ownM_range hp ..
theorem rd_of_mem {p : Int} (hp : 2 ≤ p ∧ p ≤ 10007) {l : List Int} (h : ∀ x, x ∈ l → 0 ≤ x ∧ x < p) (i : Nat) : 0 ≤ rdI l i ∧ rdI l i < p := by
  by_cases c : i < l.length
  · rw [← rdI_get c]; exact h _ (List.getElem_mem c)
  · simp [rdI, List.getElem?_eq_none (by omega : l.length ≤ i)]; omega
theorem chP_mem {p : Int} (hp : 2 ≤ p ∧ p ≤ 10007) (k n : Nat) (x : Int) (h : x ∈ tab k (chP p n)) : 0 ≤ x ∧ x < p := by
  obtain ⟨i, _, rfl⟩ := List.mem_map.1 h
  exact mod_small hp _
theorem invP_one {p : Int} (hp : 2 ≤ p ∧ p ≤ 10007) : invP p 1 = 1 := by
  unfold invP; rw [Int.one_pow]; exact Int.emod_eq_of_lt (by omega) (by omega)
def rowM (t : Nat) (p : Int) (k : Nat) : List Int := if t = 5 then tab (k - 1 + 1) (chP p (k - 1)) else [1]
def okM (t : Nat) (p : Int) (n : Nat) : Bool := !(decide (t = 1) && decide (p ≤ n))
theorem run_l02Named (s : ByteArray) (p : Int) (n : Nat) (hp : 2 ≤ p ∧ p ≤ 10007) (hn : 1 ≤ n ∧ n ≤ 25) (hm : ¬ mk s = 0) :
    runv E1 92 [.str s, .int .i64 p, .int .i64 (n : Int)] = some ⟨true, .tup [(V.uniq 1 (List.length (if okM (mk s) p n then nmL (mk s) p n else [])) (List.map (V.int .i64) (if okM (mk s) p n then nmL (mk s) p n else []))), .bool (okM (mk s) p n)], [.undef, .undef, .undef]⟩ := by
  have cdk : codeOk Tryz.f92.ntmps (Tryz.f92.body.getD .skip) = true := by kernel_rfl
  refine run_of_WLr (fn := Tryz.f92) rfl Tryz.func92 rfl ⟨by simp [Tryz.ntmps92], by simp [wideA, ints], cdk, by simp [Tryz.f92]⟩ rfl (by simp [rebOk, noId, adoptT, adoptA, adoptL, adoptC, depth]) ?_
  obtain ⟨⟨e1, e2, e3, e4, e5⟩, ht⟩ := mk_spec s
  unfold mUni at e1; unfold mLag at e2; unfold mHer at e3; unfold mCat at e4; unfold mPoi at e5
  generalize mk s = t at *
  have hpn : ¬ p = 0 := by omega
  simp [go_sem, -map_replicate, -map_set, -map_append, -map_reverse, -map_take, -map_drop, -map_tail, -any_map, -all_map, -mapM_map, -map_map, slL, szI, ldI, zI, undL, apL, setI, rdI_get, Nat.add_one_le_iff, fillV, zeros1, zeros0, appendD, segV, lvO, goneOf, sliceD, bound, Nat.add_assoc, szL, ldL, setCs0, setCs1, setCs2, setCsA2, setCsA3, ldM, fM0, fM1, szM, zM, plM0, plM1, agM, paM, ldJ, fJ0, fJ1, fJ2, szJ, zJ, plJ0, plJ1, plJ2, agJ, paJ, wz1]
  repeat refine ⟨by kernel_rfl, by kernel_rfl, ?_⟩
  rw [WL_loop]
  refine WL_forP (keep := [0, 1, 2, 8, 9, 10]) (rs := resM Tryz.f92) rfl (by kernel_rfl) (fun x => match x with | 0 => mkSt [(0, .str s), (1, .int .i64 p), (2, .int .i64 (n : Int)), (8, .nils), (9, .sl 0 0 0 1), (10, .int .i64 0)] [some (⟨0, 2, 1, [.int .i64 1]⟩)] (resM Tryz.f92) | k + 1 => mkSt [(0, .str s), (1, .int .i64 p), (2, .int .i64 (n : Int)), (8, .sl 0 0 0 (k + 1)), (9, .sl 1 0 0 (rowM t p (k + 1)).length), (10, .int .i64 ((k : Int) + 1))] [some (⟨0, 2, 1, (nmL t p (k + 1)).map (V.int .i64)⟩), some (⟨0, 2, 1, (rowM t p (k + 1)).map (V.int .i64)⟩)] (resM Tryz.f92)) n (fun k => t = 1 → (k : Int) < p) ?_ ?_ 0 _ (by omega) (fun _ => by omega) rfl ?_
  · intro k hk hP next
    rcases k with _ | k
    · have d1 : Int.tmod 1 p = 1 := by rw [Int.tmod_eq_emod_of_nonneg (by omega), Int.emod_eq_of_lt (by omega) (by omega)]
      have m1 : 1 % p = 1 := Int.emod_eq_of_lt (by omega) (by omega)
      have hv := up (run_l01Inverse p 1 hp)
      rw [invP_one hp] at hv
      have hb := run_l02Back [] (by simp)
      have hs := run_l02Sum p 0 [] [] hp (by simp) (by simp) (by omega) (fun i => by simp [rdI]; omega) (fun i => by simp [rdI]; omega)
      have hs1 := run_l02Sum p 0 [] [1] hp (by simp) (by simp) (by omega) (fun i => by simp [rdI]; omega) (fun i => rd_of_mem hp (by simp; omega) i)
      simp only [List.length_nil, List.map_nil, List.reverse_nil, Int.cast_ofNat_Int, if_true, List.length_singleton, List.map_cons] at hb hs hs1
      have eN : nmL t p 1 = [1] := rfl
      have hn0 : (0 : Int) < n := by omega
      have hn0n : 0 < n := by omega
      have hr : rowM t p 1 = [1] := by
        unfold rowM; split
        · show [chP p 0 0] = [1]; rw [chP_zero, m1]
        · rfl
      dsimp only at next ⊢
      simp only [Nat.zero_add, Int.cast_ofNat_Int, Int.zero_add] at next
      rw [eN, hr] at next
      have c3 : (1 : Nat) * 8 ≤ 140737488355328 := by omega
      have tt : t = 1 ∨ t = 2 ∨ t = 3 ∨ t = 4 ∨ t = 5 := by omega
      rcases tt with rfl | rfl | rfl | rfl | rfl
      all_goals
        simp [go_sem, -map_replicate, -map_set, -map_append, -map_reverse, -map_take, -map_drop, -map_tail, -any_map, -all_map, -mapM_map, -map_map, slL, szI, ldI, zI, undL, apL, setI, rdI_get, Nat.add_one_le_iff, fillV, zeros1, zeros0, appendD, segV, lvO, goneOf, sliceD, bound, Nat.add_assoc, szL, ldL, setCs0, setCs1, setCs2, setCsA2, setCsA3, ldM, fM0, fM1, szM, zM, plM0, plM1, agM, paM, ldJ, fJ0, fJ1, fJ2, szJ, zJ, plJ0, plJ1, plJ2, agJ, paJ, undS, strOp, wz0, wz1, hn0, hn0n, e1, e2, e3, e4, e5, d1, hv, hb, hs, hs1, hpn]
        repeat refine ⟨by kernel_rfl, by kernel_rfl, ?_⟩
        refine next _ (fun _ => by omega) rfl ?_
        (refine canon_mk ?_; simp [method_specs_simp, ordIds_app, ordRen_app, ordIds_app2, ordRen_app2, -map_replicate, -map_set, -map_append, -map_reverse, -map_take, -map_drop, -map_tail, -map_map, wz1])
    · have hki : (k : Int) + 1 < n := by omega
      have hk2 : (k : Int) + 2 ≤ n := by omega
      have w3 : IntKind.i64.wrap ((k : Int) + 1 + 1) = (k : Int) + 1 + 1 := IntWalk.i64_in _ (by omega)
      have w2 : IntKind.i64.wrap ((k : Int) + 1 - 1) = (k : Int) := by rw [IntWalk.i64_in _ (by omega)]; omega
      have w1 : IntKind.i64.wrap (k : Int) = (k : Int) := IntWalk.i64_in _ (by omega)
      have c3 : (k + 2) * 8 ≤ 140737488355328 := by omega
      have k1p : (0 : Int) < (k : Int) + 1 := by omega
      have k1q : (0 : Int) ≤ (k : Int) + 1 := by omega
      have k1z : ¬ (k : Int) + 1 = 0 := by omega
      have kk : k < k + 1 := by omega
      have kki : (k : Int) < (k : Int) + 1 := by omega
      have eN : nmL t p (k + 2) = nmL t p (k + 1) ++ [ownM t p (nmL t p (k + 1)) (k + 1)] := rfl
      have lL := nmL_len t p (k + 1)
      have mL := nmL_mem hp t (k + 1)
      have rL := rd_of_mem hp mL
      have own_ : ownM t p (nmL t p (k + 1)) (k + 1) = if t = 1 then invP p (((k : Int) + 1 + 1) % p) else if t = 2 then rdI (nmL t p (k + 1)) k * ((k : Int) + 1) % p
          else if t = 3 then (if (k + 1) % 2 = 0 then rdI (nmL t p (k + 1)) (k - 1) * (k : Int) % p else 0) else if t = 4 then dotK p (nmL t p (k + 1)) (nmL t p (k + 1)).reverse (k + 1)
          else if t = 5 then dotK p (nmL t p (k + 1)) (tab (k + 1) (chP p k)) (k + 1) else 0 := by
        unfold ownM
        rw [if_neg (by omega), show ((k + 1 : Nat) : Int) = (k : Int) + 1 by omega, show k + 1 - 1 = k by omega, show k + 1 - 2 = k - 1 by omega, show (k : Int) + 1 - 1 = k by omega]
      dsimp only at next ⊢
      simp only [Nat.add_assoc, Nat.reduceAdd, Int.natCast_add, Int.cast_ofNat_Int] at next
      rw [eN] at next
      have tt : t = 1 ∨ t = 2 ∨ t = 3 ∨ t = 4 ∨ t = 5 := by omega
      rcases tt with rfl | rfl | rfl | rfl | rfl
      · have hr : rowM 1 p (k + 1) = [1] := rfl
        have hr2 : rowM 1 p (k + 2) = [1] := rfl
        rw [hr2] at next
        rw [hr]
        simp only [if_true] at own_
        generalize hL : nmL 1 p (k + 1) = L at *
        by_cases z : (k : Int) + 2 = p
        · have d0 : Int.tmod ((k : Int) + 1 + 1) p = 0 := by rw [show (k : Int) + 1 + 1 = p by omega]; exact Int.tmod_self
          have hps : okM 1 p n = false := by unfold okM; simp; omega
          have hkp := hP rfl
          simp [go_sem, -map_replicate, -map_set, -map_append, -map_reverse, -map_take, -map_drop, -map_tail, -any_map, -all_map, -mapM_map, -map_map, slL, szI, ldI, zI, undL, apL, setI, rdI_get, Nat.add_one_le_iff, fillV, zeros1, zeros0, appendD, segV, lvO, goneOf, sliceD, bound, Nat.add_assoc, szL, ldL, setCs0, setCs1, setCs2, setCsA2, setCsA3, ldM, fM0, fM1, szM, zM, plM0, plM1, agM, paM, ldJ, fJ0, fJ1, fJ2, szJ, zJ, plJ0, plJ1, plJ2, agJ, paJ, undS, strOp, hk, hki, hk2, w3, e1, e2, e3, e4, e5, d0, hpn, lL, wz0]
          repeat refine ⟨by kernel_rfl, by kernel_rfl, ?_⟩
          simp [mvcgen_simp, -map_replicate, -map_set, -map_append, -map_reverse, -map_take, -map_drop, -map_tail, -any_map, -all_map, -mapM_map, -map_map, Tryz.f92, hps]
        · have hkp := hP rfl
          have d0 : Int.tmod ((k : Int) + 1 + 1) p = (k : Int) + 1 + 1 := by rw [Int.tmod_eq_emod_of_nonneg (by omega), Int.emod_eq_of_lt (by omega) (by omega)]
          have d3 : ((k : Int) + 1 + 1) % p = (k : Int) + 1 + 1 := Int.emod_eq_of_lt (by omega) (by omega)
          have d4 : ¬ (k : Int) + 1 + 1 = 0 := by omega
          have hv := up (run_l01Inverse p ((k : Int) + 1 + 1) hp)
          rw [d3] at own_
          rw [own_] at next
          generalize invP p ((k : Int) + 1 + 1) = x at *
          simp [go_sem, -map_replicate, -map_set, -map_append, -map_reverse, -map_take, -map_drop, -map_tail, -any_map, -all_map, -mapM_map, -map_map, slL, szI, ldI, zI, undL, apL, setI, rdI_get, Nat.add_one_le_iff, fillV, zeros1, zeros0, appendD, segV, lvO, goneOf, sliceD, bound, Nat.add_assoc, szL, ldL, setCs0, setCs1, setCs2, setCsA2, setCsA3, ldM, fM0, fM1, szM, zM, plM0, plM1, agM, paM, ldJ, fJ0, fJ1, fJ2, szJ, zJ, plJ0, plJ1, plJ2, agJ, paJ, undS, strOp, hk, hki, hk2, w3, e1, e2, e3, e4, e5, d0, d4, hv, hpn, lL, c3, wz0]
          repeat refine ⟨by kernel_rfl, by kernel_rfl, ?_⟩
          refine next _ (fun _ => by omega) rfl ?_
          (refine canon_mk ?_; simp [method_specs_simp, ordIds_app, ordRen_app, ordIds_app2, ordRen_app2, -map_replicate, -map_set, -map_append, -map_reverse, -map_take, -map_drop, -map_tail, -map_map])
      · have hr : rowM 2 p (k + 1) = [1] := rfl
        have hr2 : rowM 2 p (k + 2) = [1] := rfl
        rw [hr2, own_] at next
        rw [hr]
        simp only [Nat.reduceEqDiff, eq_self, reduceIte, if_false, if_true] at next
        have gk := rL k
        generalize hL : nmL 2 p (k + 1) = L at *
        have pm := mul_small (p := 10007) (by omega) (show 0 ≤ rdI L k ∧ rdI L k < 10007 by omega) (show 0 ≤ (k : Int) + 1 ∧ (k : Int) + 1 < 10007 by omega)
        have u1 : IntKind.i64.wrap (rdI L k * ((k : Int) + 1)) = rdI L k * ((k : Int) + 1) := IntWalk.i64_in _ (by omega)
        have t1 : (rdI L k * ((k : Int) + 1)).tmod p = rdI L k * ((k : Int) + 1) % p := Int.tmod_eq_emod_of_nonneg pm.1
        have r1 := mod_small hp (rdI L k * ((k : Int) + 1))
        have u2 : IntKind.i64.wrap (rdI L k * ((k : Int) + 1) % p) = rdI L k * ((k : Int) + 1) % p := IntWalk.i64_in _ (by omega)
        simp [go_sem, -map_replicate, -map_set, -map_append, -map_reverse, -map_take, -map_drop, -map_tail, -any_map, -all_map, -mapM_map, -map_map, slL, szI, ldI, zI, undL, apL, setI, rdI_get, Nat.add_one_le_iff, fillV, zeros1, zeros0, appendD, segV, lvO, goneOf, sliceD, bound, Nat.add_assoc, szL, ldL, setCs0, setCs1, setCs2, setCsA2, setCsA3, ldM, fM0, fM1, szM, zM, plM0, plM1, agM, paM, ldJ, fJ0, fJ1, fJ2, szJ, zJ, plJ0, plJ1, plJ2, agJ, paJ, undS, strOp, hk, hki, hk2, w1, w2, w3, e1, e2, e3, e4, e5, k1p, k1q, k1z, kk, kki, u1, t1, u2, hpn, lL, c3, wz0, wz1]
        repeat refine ⟨by kernel_rfl, by kernel_rfl, ?_⟩
        refine next _ (by first | trivial | (intro h; first | exact h.elim | cases h | omega)) rfl ?_
        (refine canon_mk ?_; simp [method_specs_simp, ordIds_app, ordRen_app, ordIds_app2, ordRen_app2, -map_replicate, -map_set, -map_append, -map_reverse, -map_take, -map_drop, -map_tail, -map_map])
      · have hr : rowM 3 p (k + 1) = [1] := rfl
        have hr2 : rowM 3 p (k + 2) = [1] := rfl
        rw [hr2, own_] at next
        rw [hr]
        simp only [Nat.reduceEqDiff, eq_self, reduceIte, if_false, if_true] at next
        have gk := rL (k - 1)
        generalize hL : nmL 3 p (k + 1) = L at *
        by_cases q : (k + 1) % 2 = 0
        · rw [if_pos q] at next
          have q2 : Int.tmod ((k : Int) + 1) 2 = 0 := by rw [Int.tmod_eq_emod_of_nonneg (by omega)]; omega
          have pm := mul_small (p := 10007) (by omega) (show 0 ≤ rdI L (k - 1) ∧ rdI L (k - 1) < 10007 by omega) (show 0 ≤ (k : Int) ∧ (k : Int) < 10007 by omega)
          have u1 : IntKind.i64.wrap (rdI L (k - 1) * (k : Int)) = rdI L (k - 1) * (k : Int) := IntWalk.i64_in _ (by omega)
          have t1 : (rdI L (k - 1) * (k : Int)).tmod p = rdI L (k - 1) * (k : Int) % p := Int.tmod_eq_emod_of_nonneg pm.1
          have r1 := mod_small hp (rdI L (k - 1) * (k : Int))
          have u2 : IntKind.i64.wrap (rdI L (k - 1) * (k : Int) % p) = rdI L (k - 1) * (k : Int) % p := IntWalk.i64_in _ (by omega)
          have w4 : IntKind.i64.wrap ((k : Int) + 1 - 2) = ((k - 1 : Nat) : Int) := by rw [IntWalk.i64_in _ (by omega)]; omega
          have km : k - 1 < k + 1 := by omega
          have kmi : ((k - 1 : Nat) : Int) < (k : Int) + 1 := by omega
          have kml : k - 1 < L.length := by omega
          have kl : k ≤ k + 1 := by omega
          simp [go_sem, -map_replicate, -map_set, -map_append, -map_reverse, -map_take, -map_drop, -map_tail, -any_map, -all_map, -mapM_map, -map_map, slL, szI, ldI, zI, undL, apL, setI, rdI_get, Nat.add_one_le_iff, fillV, zeros1, zeros0, appendD, segV, lvO, goneOf, sliceD, bound, Nat.add_assoc, szL, ldL, setCs0, setCs1, setCs2, setCsA2, setCsA3, ldM, fM0, fM1, szM, zM, plM0, plM1, agM, paM, ldJ, fJ0, fJ1, fJ2, szJ, zJ, plJ0, plJ1, plJ2, agJ, paJ, undS, strOp, hk, hki, hk2, w1, w2, w3, w4, e1, e2, e3, e4, e5, k1p, k1q, k1z, km, kmi, kml, kk, kki, q2, u1, t1, u2, hpn, lL, c3, wz0, wz1]
          repeat refine ⟨by kernel_rfl, by kernel_rfl, ?_⟩
          refine next _ (by first | trivial | (intro h; first | exact h.elim | cases h | omega)) rfl ?_
          (refine canon_mk ?_; simp [method_specs_simp, ordIds_app, ordRen_app, ordIds_app2, ordRen_app2, -map_replicate, -map_set, -map_append, -map_reverse, -map_take, -map_drop, -map_tail, -map_map])
        · rw [if_neg q] at next
          have q2 : Int.tmod ((k : Int) + 1) 2 = 1 := by rw [Int.tmod_eq_emod_of_nonneg (by omega)]; omega
          simp [go_sem, -map_replicate, -map_set, -map_append, -map_reverse, -map_take, -map_drop, -map_tail, -any_map, -all_map, -mapM_map, -map_map, slL, szI, ldI, zI, undL, apL, setI, rdI_get, Nat.add_one_le_iff, fillV, zeros1, zeros0, appendD, segV, lvO, goneOf, sliceD, bound, Nat.add_assoc, szL, ldL, setCs0, setCs1, setCs2, setCsA2, setCsA3, ldM, fM0, fM1, szM, zM, plM0, plM1, agM, paM, ldJ, fJ0, fJ1, fJ2, szJ, zJ, plJ0, plJ1, plJ2, agJ, paJ, undS, strOp, hk, hki, hk2, w1, w2, w3, e1, e2, e3, e4, e5, k1p, k1q, k1z, kk, kki, q2, hpn, lL, c3, wz0, wz1]
          repeat refine ⟨by kernel_rfl, by kernel_rfl, ?_⟩
          refine next _ (by first | trivial | (intro h; first | exact h.elim | cases h | omega)) rfl ?_
          (refine canon_mk ?_; simp [method_specs_simp, ordIds_app, ordRen_app, ordIds_app2, ordRen_app2, -map_replicate, -map_set, -map_append, -map_reverse, -map_take, -map_drop, -map_tail, -map_map])
      · have hr : rowM 4 p (k + 1) = [1] := rfl
        have hr2 : rowM 4 p (k + 2) = [1] := rfl
        rw [hr2, own_] at next
        rw [hr]
        simp only [Nat.reduceEqDiff, eq_self, reduceIte, if_false, if_true] at next
        generalize hL : nmL 4 p (k + 1) = L at *
        have hb := run_l02Back L (by omega)
        have hs := run_l02Sum p (k + 1) L L.reverse hp (by omega) (by simp; omega) (by omega) rL (fun i => rd_of_mem hp (fun x hx => mL x (List.mem_reverse.1 hx)) i)
        rw [if_neg (by omega)] at hs
        simp only [Int.natCast_add, Int.cast_ofNat_Int] at hs
        have lv : L.reverse.length = k + 1 := by simp [lL]
        rw [lL] at hb
        rw [lL, lv] at hs
        have r1 := dotK_range hp L L.reverse (k + 1)
        generalize dotK p L L.reverse (k + 1) = x at *
        generalize hV : L.reverse = W at *
        rw [lv] at hb
        simp [go_sem, -map_replicate, -map_set, -map_append, -map_reverse, -map_take, -map_drop, -map_tail, -any_map, -all_map, -mapM_map, -map_map, slL, szI, ldI, zI, undL, apL, setI, rdI_get, Nat.add_one_le_iff, fillV, zeros1, zeros0, appendD, segV, lvO, goneOf, sliceD, bound, Nat.add_assoc, szL, ldL, setCs0, setCs1, setCs2, setCsA2, setCsA3, ldM, fM0, fM1, szM, zM, plM0, plM1, agM, paM, ldJ, fJ0, fJ1, fJ2, szJ, zJ, plJ0, plJ1, plJ2, agJ, paJ, undS, strOp, hk, hki, hk2, w1, w2, w3, e1, e2, e3, e4, e5, k1p, k1q, k1z, kk, kki, hb, hs, hpn, lL, lv, c3, wz0, wz1]
        repeat refine ⟨by kernel_rfl, by kernel_rfl, ?_⟩
        refine next _ (by first | trivial | (intro h; first | exact h.elim | cases h | omega)) rfl ?_
        (refine canon_mk ?_; simp [method_specs_simp, ordIds_app, ordRen_app, ordIds_app2, ordRen_app2, -map_replicate, -map_set, -map_append, -map_reverse, -map_take, -map_drop, -map_tail, -map_map])
      · have hr : rowM 5 p (k + 1) = tab (k + 1) (chP p k) := rfl
        have hr2 : rowM 5 p (k + 2) = tab (k + 2) (chP p (k + 1)) := rfl
        rw [hr2, own_] at next
        rw [hr]
        simp only [Nat.reduceEqDiff, eq_self, reduceIte, if_false, if_true] at next
        generalize hL : nmL 5 p (k + 1) = L at *
        have lR := tab_len (k + 1) (chP p k)
        have lR2 := tab_len (k + 2) (chP p (k + 1))
        have hs := run_l02Sum p (k + 1) L (tab (k + 1) (chP p k)) hp (by omega) (by omega) (by omega) rL (fun i => rd_of_mem hp (chP_mem hp _ _) i)
        rw [if_neg (by omega)] at hs
        simp only [Int.natCast_add, Int.cast_ofNat_Int] at hs
        have hq := run_l02Pascal p k hp (by omega)
        rw [lL, lR] at hs
        rw [lR, lR2] at hq
        generalize dotK p L (tab (k + 1) (chP p k)) (k + 1) = x at *
        generalize tab (k + 1) (chP p k) = R at *
        generalize tab (k + 2) (chP p (k + 1)) = R2 at *
        simp [go_sem, -map_replicate, -map_set, -map_append, -map_reverse, -map_take, -map_drop, -map_tail, -any_map, -all_map, -mapM_map, -map_map, slL, szI, ldI, zI, undL, apL, setI, rdI_get, Nat.add_one_le_iff, fillV, zeros1, zeros0, appendD, segV, lvO, goneOf, sliceD, bound, Nat.add_assoc, szL, ldL, setCs0, setCs1, setCs2, setCsA2, setCsA3, ldM, fM0, fM1, szM, zM, plM0, plM1, agM, paM, ldJ, fJ0, fJ1, fJ2, szJ, zJ, plJ0, plJ1, plJ2, agJ, paJ, undS, strOp, hk, hki, hk2, w1, w2, w3, e1, e2, e3, e4, e5, k1p, k1q, k1z, kk, kki, hs, hq, hpn, lL, lR, lR2, c3, wz0, wz1]
        repeat refine ⟨by kernel_rfl, by kernel_rfl, ?_⟩
        refine next _ (by first | trivial | (intro h; first | exact h.elim | cases h | omega)) rfl ?_
        (refine canon_mk ?_; simp [method_specs_simp, ordIds_app, ordRen_app, ordIds_app2, ordRen_app2, -map_replicate, -map_set, -map_append, -map_reverse, -map_take, -map_drop, -map_tail, -map_map, lR, lR2])
  · intro hP
    have hps : okM t p n = true := by
      unfold okM
      by_cases c : t = 1
      · have := hP c; simp; omega
      · simp [c]
    have lL := nmL_len t p n
    rcases n with _ | k
    · omega
    · dsimp only
      simp only [Int.natCast_add, Int.cast_ofNat_Int] at hps ⊢
      simp [go_sem, -map_replicate, -map_set, -map_append, -map_reverse, -map_take, -map_drop, -map_tail, -any_map, -all_map, -mapM_map, -map_map, slL, szI, ldI, zI, undL, apL, setI, rdI_get, Nat.add_one_le_iff, fillV, zeros1, zeros0, appendD, segV, lvO, goneOf, sliceD, bound, Nat.add_assoc, szL, ldL, setCs0, setCs1, setCs2, setCsA2, setCsA3, ldM, fM0, fM1, szM, zM, plM0, plM1, agM, paM, ldJ, fJ0, fJ1, fJ2, szJ, zJ, plJ0, plJ1, plJ2, agJ, paJ]
      simp [mvcgen_simp, -map_replicate, -map_set, -map_append, -map_reverse, -map_take, -map_drop, -map_tail, -any_map, -all_map, -mapM_map, -map_map, Tryz.f92, hps, lL]
  · dsimp only
    (refine canon_mk ?_; simp [method_specs_simp, ordIds_app, ordRen_app, ordIds_app2, ordRen_app2, -map_replicate, -map_set, -map_append, -map_reverse, -map_take, -map_drop, -map_tail, -map_map])
end Go.Proofs.YtacfkfdnncgjcaaGreat.Ev
