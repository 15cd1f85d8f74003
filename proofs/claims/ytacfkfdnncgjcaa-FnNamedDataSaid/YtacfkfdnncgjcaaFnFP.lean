/- Orthogonal polynomials of moments of data: the program's run. Conditions: none. -/
/- All orthogonal polynomials of moments: the program's run. Conditions: none. -/
/- Data and polynomials of moments, and norms: the program's run. Conditions: none. -/
import Derived.Test.YtacfkfdnncgjcaaFnFJ
import Derived.Test.YtacfkfdnncgjcaaFnFN
set_option linter.unusedSimpArgs false
set_option linter.unusedVariables false
namespace Go.Proofs.Ytacfkfdnncgjcaa.Ev
open Go Go.Proofs
open List (map_replicate map_set map_append map_reverse map_take map_drop map_tail any_map all_map mapM_map map_map)
set_option maxRecDepth 4000
set_option maxHeartbeats 4000000
attribute [local bitvec_to_nat] slL szI ldI zI undL apL setI rdI_get Nat.add_one_le_iff fillV zeros1 zeros0 appendD segV lvO goneOf sliceD bound Nat.add_assoc szL ldL setCs0 setCs1 setCs2 setCsA2 setCsA3 ldM fM0 fM1 szM zM plM0 plM1 agM paM ldJ fJ0 fJ1 fJ2 szJ zJ plJ0 plJ1 plJ2 agJ paJ

theorem run_Mapply (p : Int) (l f : List Int) (hp : 2 ≤ p ∧ p ≤ 10007) (hl : ∀ i, i < l.length → 0 ≤ rdI l i ∧ rdI l i < p) (hf : ∀ i, i < f.length → 0 ≤ rdI f i ∧ rdI f i < p) (hlen : f.length ≤ l.length) (hll : l.length ≤ 1000000) :
    runv E1 65 [(V.agg [V.int .i64 (p), (V.list (List.length (l)) (List.map (V.int .i64) (l)))]), (V.list (List.length (f)) (List.map (V.int .i64) (f)))] = some ⟨true, .int .i64 (dotP p f l 0 f.length), [.agg [.undef, .undef], .undef]⟩ := by
  have g0 := up (run_Mfield p l)
  have cdk : codeOk Try.f65.ntmps (Try.f65.body.getD .skip) = true := by kernel_rfl
  refine run_of_WLr (fn := Try.f65) rfl Try.func65 rfl ⟨by simp [Try.ntmps65], by simp [wideA, ints], cdk, by simp [Try.f65]⟩ rfl (by simp [rebOk, noId, adoptT, adoptA, adoptL, adoptC, depth]) ?_
  simp [go_sem, -map_replicate, -map_set, -map_append, -map_reverse, -map_take, -map_drop, -map_tail, -any_map, -all_map, -mapM_map, -map_map, bitvec_to_nat]
  repeat refine ⟨by kernel_rfl, by kernel_rfl, ?_⟩
  rw [WL_loop]
  refine WL_for (keep := [2, 5, 8, 9, 10]) (rs := resM Try.f65) rfl (by kernel_rfl) (fun i => mkSt [(2, .ptr 0 0 0), (5, .int .i64 (dotP p f l 0 i)), (8, (V.list (List.length (f)) (List.map (V.int .i64) (f)))), (9, .int .i64 (f.length : Int)), (10, .int .i64 (i : Int))] [some (⟨0, 1, 1, [.int .i64 p, (V.list (List.length (l)) (List.map (V.int .i64) (l)))]⟩)] (resM Try.f65)) f.length ?_ ?_ 0 _ (by omega) rfl ?_
  · intro i hi next
    have hil : i < l.length := by omega
    have ii : (i : Int) < (f.length : Int) := by omega
    have il : (i : Int) < (l.length : Int) := by omega
    have i0 : (0 : Int) ≤ (i : Int) := by omega
    have rd := dotP_range hp f l 0 i
    have rf := hf i hi
    have rl := hl i hil
    have pm := mul_small (p := 10007) (by omega) (show 0 ≤ rdI f i ∧ rdI f i < 10007 by omega) (show 0 ≤ rdI l i ∧ rdI l i < 10007 by omega)
    have w1 : IntKind.i64.wrap (rdI f i * rdI l i) = rdI f i * rdI l i := IntWalk.i64_in _ (by omega)
    have w2 : IntKind.i64.wrap (dotP p f l 0 i + rdI f i * rdI l i) = dotP p f l 0 i + rdI f i * rdI l i := IntWalk.i64_in _ (by omega)
    have w3 : IntKind.i64.wrap ((i : Int) + 1) = (i : Int) + 1 := IntWalk.i64_in _ (by omega)
    have gm := up (run_mod p (dotP p f l 0 i + rdI f i * rdI l i) hp)
    have hd : dotP p f l 0 (i + 1) = (dotP p f l 0 i + rdI f i * rdI l i) % p := rfl
    generalize dotP p f l 0 i = D at *
    simp [go_sem, -map_replicate, -map_set, -map_append, -map_reverse, -map_take, -map_drop, -map_tail, -any_map, -all_map, -mapM_map, -map_map, bitvec_to_nat, hi, hil, ii, il, i0, w1, w2, w3, g0, gm]
    repeat refine ⟨by kernel_rfl, by kernel_rfl, ?_⟩
    refine next _ rfl ?_
    (refine canon_mk ?_; simp [method_specs_simp, ordIds_app, ordRen_app, ordIds_app2, ordRen_app2, -map_replicate, -map_set, -map_append, -map_reverse, -map_take, -map_drop, -map_tail, -map_map, hd])
  · simp [go_sem, -map_replicate, -map_set, -map_append, -map_reverse, -map_take, -map_drop, -map_tail, -any_map, -all_map, -mapM_map, -map_map, bitvec_to_nat]
    simp [mvcgen_simp, -map_replicate, -map_set, -map_append, -map_reverse, -map_take, -map_drop, -map_tail, -any_map, -all_map, -mapM_map, -map_map, Try.f65, szL, ldL, setCs0, setCs1, setCs2, setCsA2, setCsA3, ldM, fM0, fM1, szM, zM, plM0, plM1, agM, paM, ldJ, fJ0, fJ1, fJ2, szJ, zJ, plJ0, plJ1, plJ2, agJ, paJ]
  · (refine canon_mk ?_; simp [method_specs_simp, ordIds_app, ordRen_app, ordIds_app2, ordRen_app2, -map_replicate, -map_set, -map_append, -map_reverse, -map_take, -map_drop, -map_tail, -map_map, dotP])
theorem dot_upto {p : Int} (f l : List Int) (k : Nat) {N : Nat} (h : f.length ≤ N) : cg p (dotP p f l k f.length) (sm (fun s => rdI f s * rdI l (s + k)) N) := by
  refine (dotP_sm f l k f.length).trans (cg.of_eq ?_)
  obtain ⟨m, rfl⟩ : ∃ m, N = f.length + m := ⟨N - f.length, by omega⟩
  exact (sm_more m fun i hi => by rw [rdI_out (f := f) (by omega), Int.zero_mul]).symm
theorem mulX_rd {p : Int} (hp : 2 ≤ p ∧ p ≤ 10007) {g : List Int} (hg : fine p g) (j : Nat) : rdI (mulP p [0, 1] g) j = if 0 < j then rdI g (j - 1) else 0 := by
  have f1 := mulP_fine hp [0, 1] g j
  refine cg.eq (by omega) ((mulP2_rd 0 1 g j).trans (cg.of_eq ?_)) f1 ?_
  · split <;> omega
  · split
    · exact hg _
    · omega
theorem dot_alpha2 {p : Int} {a b : List Int} (hj : jacB p a b = true) {l : List Int} (hl : ∀ t, t < 2 * a.length → rdI l t = mo p a b t) {i : Nat} (hi : i < a.length) :
    dotP p (mulP p [0, 1] (mulP p (pl p a b i).1 (pl p a b i).1)) l 0 (mulP p [0, 1] (mulP p (pl p a b i).1 (pl p a b i).1)).length = rdI a i * nrm p b i % p := by
  have hp := jacB_prime hj
  rw [← dot_alpha hj hl hi]
  have fg := mulP_fine hp (pl p a b i).1 (pl p a b i).1
  generalize mulP p (pl p a b i).1 (pl p a b i).1 = g at *
  refine cg.eq (by omega) ?_ (dotP_range hp _ _ _ _) (dotP_range hp _ _ _ _)
  have le := mulP_le p [0, 1] g
  simp only [List.length_cons, List.length_nil] at le
  refine (dot_upto _ l 0 (N := g.length + 1) (by omega)).trans (cg.trans (cg.of_eq ?_) (dotP_sm g l 1 g.length).symm)
  rw [sm_fst, mulX_rd hp fg, if_neg (by omega), Int.zero_mul, Int.zero_add]
  exact sm_congr fun s hs => by rw [mulX_rd hp fg, if_pos (by omega), Nat.add_sub_cancel, Nat.add_zero]
theorem mo_zero {p : Int} {a b : List Int} (hj : jacB p a b = true) : mo p a b 0 = rdI b 0 := by
  have hp := jacB_prime hj
  have h0 : 0 < a.length := by have := jacB_len hj; omega
  have rb := jacB_b hj h0
  have r : 0 ≤ mo p a b 0 ∧ mo p a b 0 < p := mod_small hp _
  refine cg.eq (by omega) ((mo_fst hp a b h0 0).trans ?_) r (by omega)
  rw [wA_zero p a b 0 h0, if_pos rfl]; exact cg.of_eq (by omega)
end Go.Proofs.Ytacfkfdnncgjcaa.Ev

set_option linter.unusedSimpArgs false
set_option linter.unusedVariables false
namespace Go.Proofs.Ytacfkfdnncgjcaa.Ev
open Go Go.Proofs
open List (map_replicate map_set map_append map_reverse map_take map_drop map_tail any_map all_map mapM_map map_map)
set_option maxRecDepth 4000
set_option maxHeartbeats 4000000
attribute [local bitvec_to_nat] slL szI ldI zI undL apL setI rdI_get Nat.add_one_le_iff fillV zeros1 zeros0 appendD segV lvO goneOf sliceD bound Nat.add_assoc szL ldL setCs0 setCs1 setCs2 setCsA2 setCsA3 ldM fM0 fM1 szM zM plM0 plM1 agM paM ldJ fJ0 fJ1 fJ2 szJ zJ plJ0 plJ1 plJ2 agJ paJ

theorem fO0 : fldT Try.prog 79 0 = some (0, false, 1) := by kernel_rfl
theorem fO1 : fldT Try.prog 79 1 = some (1, false, 1) := by kernel_rfl
theorem fO2 : fldT Try.prog 79 2 = some (2, true, 3) := by kernel_rfl
theorem zO : zeroT Try.prog 79 = some [.nils, .nils, .int .i64 0, .nils, .nils] := by kernel_rfl
theorem agO : aggT Try.prog 79 = some true := by kernel_rfl
theorem paO : plAll Try.prog 79 = true := by kernel_rfl
theorem plO0 : plT Try.prog 79 0 = some (0, 1) := by kernel_rfl
theorem plO1 : plT Try.prog 79 1 = some (1, 1) := by kernel_rfl
theorem plO2 : plT Try.prog 79 2 = some (2, 3) := by kernel_rfl
theorem ldO : ldT Try.prog 79 = some (true, 5) := by kernel_rfl
theorem szO : szT Try.prog 79 = some 5 := by kernel_rfl
theorem ctO : cellTys Try.prog 79 = [some 1, some 1, none, some 1, some 1] := by kernel_rfl
theorem ldR : ldT Try.prog 77 = some (false, 1) := by kernel_rfl
theorem szR : szT Try.prog 77 = some 1 := by kernel_rfl
theorem setCs5_0 (a b c d e v : V) : setCs [a, b, c, d, e] 0 [v] = [v, b, c, d, e] := rfl
theorem setCs5_1 (a b c d e v : V) : setCs [a, b, c, d, e] 1 [v] = [a, v, c, d, e] := rfl
theorem setCs5_3 (a b c d e v : V) : setCs [a, b, c, d, e] 3 [v] = [a, b, c, v, e] := rfl
theorem setCs5_4 (a b c d e v : V) : setCs [a, b, c, d, e] 4 [v] = [a, b, c, d, v] := rfl
theorem setCs5_A (a b c d e v w x y z : V) : setCs [a, b, c, d, e] 0 [v, w, x, y, z] = [v, w, x, y, z] := rfl
/-- What is handed out where polynomials are told. -/
def orV (p : Int) (a b : List Int) (n : Nat) : V := .agg [.uniq 1 (n + 1) ((prow p a b (n + 1)).map UV), (V.uniq 1 (List.length (tab n (nrm p b))) (List.map (V.int .i64) (tab n (nrm p b)))), .int .i64 p, (V.uniq 1 (List.length (tab n (rdI a))) (List.map (V.int .i64) (tab n (rdI a)))), (V.uniq 1 (List.length (tab n (rdI b))) (List.map (V.int .i64) (tab n (rdI b))))]
theorem run_upTo (p : Int) (a b l : List Int) (n : Nat) (hm : momB p l = true) (hc : 0 < n → jacB p a b = true ∧ (∀ t, t < 2 * a.length → rdI l t = mo p a b t) ∧ n ≤ a.length) (ho : n ≤ ordN p l) (hll : 2 * n ≤ l.length) :
    runv E1 55 [(V.agg [V.int .i64 (p), (V.list (List.length (l)) (List.map (V.int .i64) (l)))]), .int .i64 (n : Int)] = some ⟨true, .tup [orV p a b n, .bool true], [.agg [.undef, .undef], .undef]⟩ := by
  have hp := momB_prime hm
  have hml := momB_len hm
  have g0 := up (run_Mfield p l)
  have g1 := run_order p l hm
  have g2 := up (run_length l)
  have o1 : ¬ (ordN p l : Int) < (n : Int) := by omega
  have o2 : ¬ ordN p l < n := by omega
  have w0 : IntKind.i64.wrap (2 * (n : Int)) = 2 * (n : Int) := IntWalk.i64_in _ (by omega)
  have o3 : ¬ (l.length : Int) < 2 * (n : Int) := by omega
  have o4 : ¬ l.length < 2 * n := by omega
  have cdk : codeOk Try.f55.ntmps (Try.f55.body.getD .skip) = true := by kernel_rfl
  refine run_of_WLr (fn := Try.f55) rfl Try.func55 rfl ⟨by simp [Try.ntmps55], by simp [wideA, ints], cdk, by simp [Try.f55]⟩ rfl (by simp [rebOk, noId, adoptT, adoptA, adoptL, adoptC, depth]) ?_
  simp [go_sem, -map_replicate, -map_set, -map_append, -map_reverse, -map_take, -map_drop, -map_tail, -any_map, -all_map, -mapM_map, -map_map, bitvec_to_nat, g0, g1, g2, o1, o2, w0, o3, o4, fO0, fO1, fO2, zO, agO, paO, plO0, plO1, plO2, ldO, szO, ldR, szR, setCs5_A, zR, zerosR, slR, undR, apR, fillV]
  repeat refine ⟨by kernel_rfl, by kernel_rfl, ?_⟩
  rw [WL_loop]
  refine WL_for (keep := [2, 4, 6, 7, 8, 36, 37]) (rs := resM Try.f55) rfl (by kernel_rfl) (fun x => match x with | 0 => mkSt [(2, .ptr 0 0 0), (4, .ptr 1 0 0), (6, .ptr 2 0 0), (7, .int .i64 p), (8, .nils), (36, .int .i64 (n : Int)), (37, .int .i64 0)] [some (⟨0, 1, 1, [.int .i64 p, (V.list (List.length (l)) (List.map (V.int .i64) (l)))]⟩), some (⟨0, 1, 1, [.nils, .nils, .int .i64 0, .nils, .nils]⟩), some (⟨0, 1, 1, [.sl 3 0 0 1, .nils, .int .i64 p, .nils, .nils]⟩), some (⟨0, 2, 1, (prow p a b 1).map UV⟩)] (resM Try.f55) | k + 1 => mkSt [(2, .ptr 0 0 0), (4, .ptr 1 0 0), (6, .ptr 2 0 0), (7, .int .i64 p), (8, (V.list (List.length ((pl p a b k).1)) (List.map (V.int .i64) ((pl p a b k).1)))), (36, .int .i64 (n : Int)), (37, .int .i64 ((k : Int) + 1))] [some (⟨0, 1, 1, [.int .i64 p, (V.list (List.length (l)) (List.map (V.int .i64) (l)))]⟩), some (⟨0, 1, 1, [.nils, .nils, .int .i64 0, .nils, .nils]⟩), some (⟨0, 1, 1, [.sl 3 0 0 (k + 2), .sl 4 0 0 (k + 1), .int .i64 p, .sl 5 0 0 (k + 1), .sl 6 0 0 (k + 1)]⟩), some (⟨0, 2, 1, (prow p a b (k + 2)).map UV⟩), some (⟨0, 2, 1, (tab (k + 1) (nrm p b)).map (V.int .i64)⟩), some (⟨0, 2, 1, (tab (k + 1) (rdI a)).map (V.int .i64)⟩), some (⟨0, 2, 1, (tab (k + 1) (rdI b)).map (V.int .i64)⟩)] (resM Try.f55)) n ?_ ?_ 0 _ (by omega) rfl ?_
  · intro k hk next
    obtain ⟨hj, hl, hna⟩ := hc (by omega)
    have hj2 := jacB_len hj
    have hka : k < a.length := by omega
    have lP := pl_length hp a b k
    have fP := pl_fine hp a b k
    have lm := mul_pl_len hp a b k k
    have q1 := run_product p (pl p a b k).1 (pl p a b k).1 hp fP.1 fP.1 (by omega) (by omega)
    have fs := mulP_fine hp (pl p a b k).1 (pl p a b k).1
    have q2 := run_Mapply p l (mulP p (pl p a b k).1 (pl p a b k).1) hp (fun i hi => momB_rd hm hi) (fun i hi => fs i) (by omega) (by omega)
    have d0 := dot_norm hj hl hka
    rw [d0] at q2
    have lx := mulP_le p [0, 1] (mulP p (pl p a b k).1 (pl p a b k).1)
    simp only [List.length_cons, List.length_nil] at lx
    have q3 := run_product p [0, 1] (mulP p (pl p a b k).1 (pl p a b k).1) hp (fine_two hp.1 (by omega) (by omega)) fs (by simp) (by omega)
    have fx := mulP_fine hp [0, 1] (mulP p (pl p a b k).1 (pl p a b k).1)
    have q4 := run_Mapply p l (mulP p [0, 1] (mulP p (pl p a b k).1 (pl p a b k).1)) hp (fun i hi => momB_rd hm hi) (fun i hi => fx i) (by omega) (by omega)
    rw [dot_alpha2 hj hl hka] at q4
    have rn := nrm_unit hj k hka
    have ra := jacB_a hj hka
    have rb := jacB_b hj hka
    have ru := mod_small hp (rdI a k * nrm p b k)
    have q5 := up (run_div p (rdI a k * nrm p b k % p) (nrm p b k) hp ru (by omega))
    rw [show divP p (rdI a k * nrm p b k % p) (nrm p b k) = rdI a k from al_ok hj hka] at q5
    have q7 := run_next p (rdI a k) (rdI b k) (pl p a b k).1 (pl p a b k).2 hp ra (by omega) fP.1 fP.2 (by omega) (by have := (pl_le p a b k).2; omega)
    rw [← pl_fst] at q7
    simp only [List.length_cons, List.length_nil, List.map_cons, List.map_nil, Nat.zero_add, Nat.reduceAdd] at q3
    have tA : tab (k + 1) (rdI a) = tab k (rdI a) ++ [rdI a k] := tab_succ _ _
    have tB : tab (k + 1) (rdI b) = tab k (rdI b) ++ [rdI b k] := tab_succ _ _
    have tN : tab (k + 1) (nrm p b) = tab k (nrm p b) ++ [nrm p b k] := tab_succ _ _
    have lA := tab_len k (rdI a)
    have lB := tab_len k (rdI b)
    have lN := tab_len k (nrm p b)
    have hg := prow_at p a b (Nat.lt_succ_self k) UV
    have lR := prow_len p a b (k + 1)
    have sR := prow_succ p a b (k + 1)
    have c3 : (k + 2) * 24 ≤ 140737488355328 := by omega
    have c4 : (k + 1) * 8 ≤ 140737488355328 := by omega
    generalize mulP p [0, 1] (mulP p (pl p a b k).1 (pl p a b k).1) = X2 at *
    generalize hX1 : mulP p (pl p a b k).1 (pl p a b k).1 = X1 at *
    rcases k with _ | k
    · have lz : rdI l 0 = rdI b 0 := by rw [hl 0 (by omega), mo_zero hj]
      have ln : 0 < l.length := by omega
      have kn : 0 < n := by omega
      have ln2 : (0 : Int) < l.length := by omega
      have l1 : rdI l 0 = rdI b 0 := lz
      have lg : ∀ h : 0 < l.length, l[0] = rdI b 0 := fun h => by rw [rdI_get, lz]
      dsimp only at next ⊢
      rw [show tab 0 (rdI a) = [] from rfl] at tA
      rw [show tab 0 (rdI b) = [] from rfl] at tB
      rw [show tab 0 (nrm p b) = [] from rfl] at tN
      rw [show (pl p a b 0).2 = [] from rfl] at q7
      rw [lP] at q1 q7
      simp only [Nat.zero_add, List.length_nil, List.map_nil] at q1 q7 sR lR lP
      generalize (rdI a 0 * nrm p b 0) % p = u at *
      generalize hP1 : (pl p a b 1).1 = P1 at *
      simp [go_sem, -map_replicate, -map_set, -map_append, -map_reverse, -map_take, -map_drop, -map_tail, -any_map, -all_map, -mapM_map, -map_map, bitvec_to_nat, g0, q1, q2, q3, q4, q5, q7, lz, ln, ln2, kn, lP, lR, prow_get, hg, wz1, UV, zerosV2, mvOk, fO0, fO1, fO2, zO, agO, paO, plO0, plO1, plO2, ldO, szO, ldR, szR, setCs5_0, setCs5_1, setCs5_3, setCs5_4, setCs5_A, zR, zerosR, slR, undR, apR, fillV]
      repeat refine ⟨by kernel_rfl, by kernel_rfl, ?_⟩
      refine next _ rfl ?_
      (refine canon_mk ?_; simp [method_specs_simp, ordIds_app, ordRen_app, ordIds_app2, ordRen_app2, -map_replicate, -map_set, -map_append, -map_reverse, -map_take, -map_drop, -map_tail, -map_map, sR, tA, tB, tN, wz1, lP, ordIds_UV, ordRen_UV, ordIds_UVapp, ordRen_UVapp])
    · have kk1 : k + 1 < n := hk
      have kki : (k : Int) + 1 < (n : Int) := by omega
      have kk0 : (0 : Int) ≤ (k : Int) + 1 := by omega
      have kkp : (0 : Int) < (k : Int) + 1 := by omega
      have kk2 : (k : Int) + 1 < (k : Int) + 2 := by omega
      have kk3 : k + 1 < k + 2 := by omega
      have kk4 : (k : Int) < (k : Int) + 1 := by omega
      have kk5 : k < k + 1 := by omega
      have kt : ((k : Int) + 1).toNat = k + 1 := by omega
      have w5 : IntKind.i64.wrap (k : Int) = (k : Int) := IntWalk.i64_in _ (by omega)
      have w9 : IntKind.i64.wrap ((k : Int) + 1 + 1) = (k : Int) + 1 + 1 := IntWalk.i64_in _ (by omega)
      have ln : 0 < l.length := by omega
      have ln2 : (0 : Int) < l.length := by omega
      have rn0 := nrm_unit hj k (by omega)
      have q6 := up (run_div p (nrm p b (k + 1)) (nrm p b k) hp (by omega) (by omega))
      rw [show divP p (nrm p b (k + 1)) (nrm p b k) = rdI b (k + 1) from be_ok2 hj (by omega)] at q6
      have rN : rdI (tab (k + 1) (nrm p b)) k = nrm p b k := tab_rd (by omega)
      dsimp only at next ⊢
      rw [pl_snd] at q7
      have lP0 := pl_length hp a b k
      rw [lP] at q1 q7
      rw [lP0] at q7
      simp only [Nat.add_assoc, Nat.reduceAdd] at q1 q7
      generalize (rdI a (k + 1) * nrm p b (k + 1)) % p = u at *
      generalize hP1 : (pl p a b (k + 2)).1 = P1 at *
      generalize hTA : tab (k + 1) (rdI a) = TA at *
      generalize hTB : tab (k + 1) (rdI b) = TB at *
      generalize hTN : tab (k + 1) (nrm p b) = TN at *
      simp [go_sem, -map_replicate, -map_set, -map_append, -map_reverse, -map_take, -map_drop, -map_tail, -any_map, -all_map, -mapM_map, -map_map, bitvec_to_nat, kk1, kki, kk0, kkp, kk2, kk3, kk4, kk5, kt, w5, w9, g0, q1, q2, q3, q4, q5, q6, q7, ln, ln2, rN, lP, lP0, lA, lB, lN, lR, c3, c4, prow_get, hg, wz1, UV, zerosV2, mvOk, fO0, fO1, fO2, zO, agO, paO, plO0, plO1, plO2, ldO, szO, ldR, szR, setCs5_0, setCs5_1, setCs5_3, setCs5_4, setCs5_A, zR, zerosR, slR, undR, apR, fillV]
      repeat refine ⟨by kernel_rfl, by kernel_rfl, ?_⟩
      refine next _ rfl ?_
      (refine canon_mk ?_; simp [method_specs_simp, ordIds_app, ordRen_app, ordIds_app2, ordRen_app2, -map_replicate, -map_set, -map_append, -map_reverse, -map_take, -map_drop, -map_tail, -map_map, sR, tA, tB, tN, w9, lP, ordIds_UV, ordRen_UV, ordIds_UVapp, ordRen_UVapp])
  · rcases n with _ | k
    · dsimp only
      simp [go_sem, -map_replicate, -map_set, -map_append, -map_reverse, -map_take, -map_drop, -map_tail, -any_map, -all_map, -mapM_map, -map_map, bitvec_to_nat, fO0, fO1, fO2, zO, agO, paO, plO0, plO1, plO2, ldO, szO, ldR, szR, setCs5_0, setCs5_1, setCs5_3, setCs5_4, setCs5_A, zR, zerosR, slR, undR, apR, fillV]
      repeat refine ⟨by kernel_rfl, by kernel_rfl, ?_⟩
      simp [mvcgen_simp, -map_replicate, -map_set, -map_append, -map_reverse, -map_take, -map_drop, -map_tail, -any_map, -all_map, -mapM_map, -map_map, Try.f55, szL, ldL, setCs0, setCs1, setCs2, setCsA2, setCsA3, ldM, fM0, fM1, szM, zM, plM0, plM1, agM, paM, ldJ, fJ0, fJ1, fJ2, szJ, zJ, plJ0, plJ1, plJ2, agJ, paJ, orV, ctO, ldO, loadD, viewN, prow, pl, UV, tab_zero]
    · have lA := tab_len (k + 1) (rdI a)
      have lB := tab_len (k + 1) (rdI b)
      have lN := tab_len (k + 1) (nrm p b)
      have lR := prow_len p a b (k + 2)
      dsimp only
      simp [go_sem, -map_replicate, -map_set, -map_append, -map_reverse, -map_take, -map_drop, -map_tail, -any_map, -all_map, -mapM_map, -map_map, bitvec_to_nat, lR, fO0, fO1, fO2, zO, agO, paO, plO0, plO1, plO2, ldO, szO, ldR, szR, setCs5_0, setCs5_1, setCs5_3, setCs5_4, setCs5_A, zR, zerosR, slR, undR, apR, fillV]
      repeat refine ⟨by kernel_rfl, by kernel_rfl, ?_⟩
      simp [mvcgen_simp, -map_replicate, -map_set, -map_append, -map_reverse, -map_take, -map_drop, -map_tail, -any_map, -all_map, -mapM_map, -map_map, Try.f55, szL, ldL, setCs0, setCs1, setCs2, setCsA2, setCsA3, ldM, fM0, fM1, szM, zM, plM0, plM1, agM, paM, ldJ, fJ0, fJ1, fJ2, szJ, zJ, plJ0, plJ1, plJ2, agJ, paJ, orV, ctO, ldO, loadD, viewN, lA, lB, lN, lR, mapM_expN_UV, flatMap_eidN_UV, all_treeN_UV]
  · (refine canon_mk ?_; simp [method_specs_simp, ordIds_app, ordRen_app, ordIds_app2, ordRen_app2, -map_replicate, -map_set, -map_append, -map_reverse, -map_take, -map_drop, -map_tail, -map_map, prow, UV, pl])
end Go.Proofs.Ytacfkfdnncgjcaa.Ev

set_option linter.unusedSimpArgs false
set_option linter.unusedVariables false
namespace Go.Proofs.Ytacfkfdnncgjcaa.Ev
open Go Go.Proofs
open List (map_replicate map_set map_append map_reverse map_take map_drop map_tail any_map all_map mapM_map map_map)
set_option maxRecDepth 4000
set_option maxHeartbeats 4000000
attribute [local bitvec_to_nat] slL szI ldI zI undL apL setI rdI_get Nat.add_one_le_iff fillV zeros1 zeros0 appendD segV lvO goneOf sliceD bound Nat.add_assoc szL ldL setCs0 setCs1 setCs2 setCsA2 setCsA3 ldM fM0 fM1 szM zM plM0 plM1 agM paM ldJ fJ0 fJ1 fJ2 szJ zJ plJ0 plJ1 plJ2 agJ paJ

theorem run_upToB (p : Int) (l : List Int) (n : Int) (hm : momB p l = true) (hn : 0 ≤ n ∧ n ≤ 12) (hb : ¬ (2 * n ≤ l.length ∧ n ≤ ordN p l)) :
    runv E1 55 [(V.agg [V.int .i64 (p), (V.list (List.length (l)) (List.map (V.int .i64) (l)))]), .int .i64 n] = some ⟨true, .tup [orV p [] [] 0, .bool false], [.agg [.undef, .undef], .undef]⟩ := by
  have hp := momB_prime hm
  have hml := momB_len hm
  have g1 := run_order p l hm
  have g2 := up (run_length l)
  have w0 : IntKind.i64.wrap (2 * n) = 2 * n := IntWalk.i64_in _ (by omega)
  have cdk : codeOk Try.f55.ntmps (Try.f55.body.getD .skip) = true := by kernel_rfl
  refine run_of_WLr (fn := Try.f55) rfl Try.func55 rfl ⟨by simp [Try.ntmps55], by simp [wideA, ints], cdk, by simp [Try.f55]⟩ rfl (by simp [rebOk, noId, adoptT, adoptA, adoptL, adoptC, depth]) ?_
  by_cases o1 : (ordN p l : Int) < n
  · simp [go_sem, -map_replicate, -map_set, -map_append, -map_reverse, -map_take, -map_drop, -map_tail, -any_map, -all_map, -mapM_map, -map_map, bitvec_to_nat, g1, g2, o1, w0, fO0, fO1, fO2, zO, agO, paO, plO0, plO1, plO2, ldO, szO, ldR, szR, setCs5_A, zR, zerosR, slR, undR, apR, fillV]
    repeat refine ⟨by kernel_rfl, by kernel_rfl, ?_⟩
    simp [mvcgen_simp, -map_replicate, -map_set, -map_append, -map_reverse, -map_take, -map_drop, -map_tail, -any_map, -all_map, -mapM_map, -map_map, Try.f55, szL, ldL, setCs0, setCs1, setCs2, setCsA2, setCsA3, ldM, fM0, fM1, szM, zM, plM0, plM1, agM, paM, ldJ, fJ0, fJ1, fJ2, szJ, zJ, plJ0, plJ1, plJ2, agJ, paJ, orV, ctO, ldO, loadD, viewN, prow, pl, UV, tab_zero]
  · have o3 : (l.length : Int) < 2 * n := by omega
    simp [go_sem, -map_replicate, -map_set, -map_append, -map_reverse, -map_take, -map_drop, -map_tail, -any_map, -all_map, -mapM_map, -map_map, bitvec_to_nat, g1, g2, o1, w0, o3, fO0, fO1, fO2, zO, agO, paO, plO0, plO1, plO2, ldO, szO, ldR, szR, setCs5_A, zR, zerosR, slR, undR, apR, fillV]
    repeat refine ⟨by kernel_rfl, by kernel_rfl, ?_⟩
    simp [mvcgen_simp, -map_replicate, -map_set, -map_append, -map_reverse, -map_take, -map_drop, -map_tail, -any_map, -all_map, -mapM_map, -map_map, Try.f55, szL, ldL, setCs0, setCs1, setCs2, setCsA2, setCsA3, ldM, fM0, fM1, szM, zM, plM0, plM1, agM, paM, ldJ, fJ0, fJ1, fJ2, szJ, zJ, plJ0, plJ1, plJ2, agJ, paJ, orV, ctO, ldO, loadD, viewN, prow, pl, UV, tab_zero]
theorem run_isOrder (k least : Int) : runv E0 54 [(V.int .i64 (k)), (V.int .i64 (least))] = some ⟨true, .bool (decide (least ≤ k) && decide (k ≤ 12)), [.undef, .undef]⟩ := by
  have cdk : codeOk Try.f54.ntmps (Try.f54.body.getD .skip) = true := by kernel_rfl
  refine run_of_WL (fn := Try.f54) rfl Try.func54 rfl ⟨by simp [Try.ntmps54], by simp [wideA, ints], cdk, by simp [Try.f54]⟩ ?_
  have h1 := run_within k least 12
  simp [go_sem, -map_replicate, -map_set, -map_append, -map_reverse, -map_take, -map_drop, -map_tail, -any_map, -all_map, -mapM_map, -map_map, bitvec_to_nat, h1]
  simp [mvcgen_simp, -map_replicate, -map_set, -map_append, -map_reverse, -map_take, -map_drop, -map_tail, -any_map, -all_map, -mapM_map, -map_map, Try.f54]
theorem run_JoM1 (n : Int) : runv E0 53 [.ref [(V.int .i64 (n))] 0] = some ⟨true, .bool (decide (1 ≤ n) && decide (n ≤ 12)), [.undef]⟩ := by
  have cdk : codeOk Try.f53.ntmps (Try.f53.body.getD .skip) = true := by kernel_rfl
  refine run_of_WL (fn := Try.f53) rfl Try.func53 rfl ⟨by simp [Try.ntmps53], by simp [wideA, ints], cdk, by simp [Try.f53]⟩ ?_
  have h1 := run_isOrder n 1
  simp [go_sem, -map_replicate, -map_set, -map_append, -map_reverse, -map_take, -map_drop, -map_tail, -any_map, -all_map, -mapM_map, -map_map, bitvec_to_nat, h1]
  simp [mvcgen_simp, -map_replicate, -map_set, -map_append, -map_reverse, -map_take, -map_drop, -map_tail, -any_map, -all_map, -mapM_map, -map_map, Try.f53]
theorem run_OP1 (n : Int) : runv E0 61 [.ref [(V.int .i64 (n))] 0] = some ⟨true, .bool (decide (0 ≤ n) && decide (n ≤ 12)), [.undef]⟩ := by
  have cdk : codeOk Try.f61.ntmps (Try.f61.body.getD .skip) = true := by kernel_rfl
  refine run_of_WL (fn := Try.f61) rfl Try.func61 rfl ⟨by simp [Try.ntmps61], by simp [wideA, ints], cdk, by simp [Try.f61]⟩ ?_
  have h1 := run_isOrder n 0
  simp [go_sem, -map_replicate, -map_set, -map_append, -map_reverse, -map_take, -map_drop, -map_tail, -any_map, -all_map, -mapM_map, -map_map, bitvec_to_nat, h1]
  simp [mvcgen_simp, -map_replicate, -map_set, -map_append, -map_reverse, -map_take, -map_drop, -map_tail, -any_map, -all_map, -mapM_map, -map_map, Try.f61]
theorem run_NO1 (n : Int) : runv E0 63 [.ref [(V.int .i64 (n))] 0] = some ⟨true, .bool (decide (0 ≤ n) && decide (n ≤ 12)), [.undef]⟩ := by
  have cdk : codeOk Try.f63.ntmps (Try.f63.body.getD .skip) = true := by kernel_rfl
  refine run_of_WL (fn := Try.f63) rfl Try.func63 rfl ⟨by simp [Try.ntmps63], by simp [wideA, ints], cdk, by simp [Try.f63]⟩ ?_
  have h1 := run_isOrder n 0
  simp [go_sem, -map_replicate, -map_set, -map_append, -map_reverse, -map_take, -map_drop, -map_tail, -any_map, -all_map, -mapM_map, -map_map, bitvec_to_nat, h1]
  simp [mvcgen_simp, -map_replicate, -map_set, -map_append, -map_reverse, -map_take, -map_drop, -map_tail, -any_map, -all_map, -mapM_map, -map_map, Try.f63]
theorem orV_len (p : Int) (a b : List Int) (n : Nat) : (tab n (nrm p b)).length = n ∧ (tab n (rdI a)).length = n ∧ (tab n (rdI b)).length = n ∧ (prow p a b (n + 1)).length = n + 1 := ⟨tab_len _ _, tab_len _ _, tab_len _ _, prow_len _ _ _ _⟩
theorem run_implJacobiOfMoments (p : Int) (a b l : List Int) (hj : jacB p a b = true) (hm : momB p l = true) (hl : ∀ t, t < 2 * a.length → rdI l t = mo p a b t) (hll : 2 * a.length ≤ l.length) :
    runv E1 12 [(V.agg [V.int .i64 (p), (V.list (List.length (l)) (List.map (V.int .i64) (l)))]), .int .i64 (a.length : Int)] = some ⟨true, .tup [(V.agg [V.int .i64 (p), (V.uniq 1 (List.length (a)) (List.map (V.int .i64) (a))), (V.uniq 1 (List.length (b)) (List.map (V.int .i64) (b)))]), .int .i64 0], [.agg [.undef, .undef], .undef]⟩ := by
  have hj2 := jacB_len hj
  have hml := momB_len hm
  have h1 := up (run_mcode0 p l 53 [] [.ref [.int .i64 (a.length : Int)] 0] (decide (1 ≤ (a.length : Int)) && decide ((a.length : Int) ≤ 12)) (by omega) (fv_ref _ _) (fun H b => by
    have := run_JoM1 (a.length : Int)
    simp [modesOf, callD, prepL, prepA, purN, idsN, depth, this, nodupB, flatO, noTup, backW, widthOk, wideA, adopt, adoptA, adoptC, treeN]))
  rw [hm, show (decide ((1 : Int) ≤ a.length) && decide ((a.length : Int) ≤ 12)) = true by simp; omega] at h1
  have h2 := run_upTo p a b l a.length hm (fun _ => ⟨hj, hl, Nat.le_refl _⟩) (ord_ge hj hl (Nat.le_refl _) (by omega)) hll
  have l1 := prow_len p a b (a.length + 1)
  have l2 := tab_len a.length (nrm p b)
  have eA : tab a.length (rdI a) = a := tab_self a
  have eB : tab a.length (rdI b) = b := by rw [← hj2.2.2]; exact tab_self b
  unfold orV at h2
  rw [eA, eB] at h2
  have cdk : codeOk Try.f12.ntmps (Try.f12.body.getD .skip) = true := by kernel_rfl
  refine run_of_WLr (fn := Try.f12) rfl Try.func12 rfl ⟨by simp [Try.ntmps12], by simp [wideA, ints], cdk, by simp [Try.f12]⟩ rfl (by simp [rebOk, noId, adoptT, adoptA, adoptL, adoptC, depth]) ?_
  generalize tab a.length (nrm p b) = T at *
  generalize (prow p a b (a.length + 1)).map UV = R at *
  simp [go_sem, -map_replicate, -map_set, -map_append, -map_reverse, -map_take, -map_drop, -map_tail, -any_map, -all_map, -mapM_map, -map_map, bitvec_to_nat, h1, h2, l2, fO0, fO1, fO2, zO, agO, paO, plO0, plO1, plO2, ldO, szO, ldR, szR, setCs5_A, zR, fillV]
  repeat refine ⟨by kernel_rfl, by kernel_rfl, ?_⟩
  simp [mvcgen_simp, -map_replicate, -map_set, -map_append, -map_reverse, -map_take, -map_drop, -map_tail, -any_map, -all_map, -mapM_map, -map_map, Try.f12, szL, ldL, setCs0, setCs1, setCs2, setCsA2, setCsA3, ldM, fM0, fM1, szM, zM, plM0, plM1, agM, paM, ldJ, fJ0, fJ1, fJ2, szJ, zJ, plJ0, plJ1, plJ2, agJ, paJ, ctJ, loadD, viewN]
theorem run_implJacobiOfMomentsB (p : Int) (l : List Int) (n : Int) (hl : l.length ≤ 1000000) (h0 : codeO p l n 1 ≠ 0) :
    runv E1 12 [(V.agg [V.int .i64 (p), (V.list (List.length (l)) (List.map (V.int .i64) (l)))]), .int .i64 n] = some ⟨true, .tup [(V.agg [V.int .i64 (0), (V.uniq 1 (List.length (([] : List Int))) (List.map (V.int .i64) (([] : List Int)))), (V.uniq 1 (List.length (([] : List Int))) (List.map (V.int .i64) (([] : List Int))))]), .int .i64 (codeO p l n 1)], [.agg [.undef, .undef], .undef]⟩ := by
  have h1 := up (run_mcode0 p l 53 [] [.ref [.int .i64 n] 0] (decide (1 ≤ n) && decide (n ≤ 12)) (by omega) (fv_ref _ _) (fun H b => by
    have := run_JoM1 n
    simp [modesOf, callD, prepL, prepA, purN, idsN, depth, this, nodupB, flatO, noTup, backW, widthOk, wideA, adopt, adoptA, adoptC, treeN]))
  have cdk : codeOk Try.f12.ntmps (Try.f12.body.getD .skip) = true := by kernel_rfl
  refine run_of_WLr (fn := Try.f12) rfl Try.func12 rfl ⟨by simp [Try.ntmps12], by simp [wideA, ints], cdk, by simp [Try.f12]⟩ rfl (by simp [rebOk, noId, adoptT, adoptA, adoptL, adoptC, depth]) ?_
  cases hm : momB p l with
  | false =>
    have e : codeO p l n 1 = 1 := by unfold codeO; rw [if_neg (by rw [hm]; simp)]
    rw [e]
    rw [hm] at h1
    simp [go_sem, -map_replicate, -map_set, -map_append, -map_reverse, -map_take, -map_drop, -map_tail, -any_map, -all_map, -mapM_map, -map_map, bitvec_to_nat, h1, fillV]
    repeat refine ⟨by kernel_rfl, by kernel_rfl, ?_⟩
    simp [mvcgen_simp, -map_replicate, -map_set, -map_append, -map_reverse, -map_take, -map_drop, -map_tail, -any_map, -all_map, -mapM_map, -map_map, Try.f12, szL, ldL, setCs0, setCs1, setCs2, setCsA2, setCsA3, ldM, fM0, fM1, szM, zM, plM0, plM1, agM, paM, ldJ, fJ0, fJ1, fJ2, szJ, zJ, plJ0, plJ1, plJ2, agJ, paJ, ctJ, loadD, viewN]
  | true =>
    rw [hm] at h1
    by_cases c : 1 ≤ n ∧ n ≤ 12
    · have d : ¬ (2 * n ≤ l.length ∧ n ≤ ordN p l) := fun d => h0 (by unfold codeO; rw [if_pos hm, if_pos c, if_pos d])
      have e : codeO p l n 1 = 5 := by unfold codeO; rw [if_pos hm, if_pos c, if_neg d]
      rw [e]
      rw [show (decide (1 ≤ n) && decide (n ≤ 12)) = true by simp [c]] at h1
      have h2 := run_upToB p l n hm (by omega) d
      simp only [orV, prow, pl, tab_zero, List.length_nil, List.map_nil, List.range_succ, List.range_zero, List.nil_append, List.map_cons, UV, List.length_cons] at h2
      simp [go_sem, -map_replicate, -map_set, -map_append, -map_reverse, -map_take, -map_drop, -map_tail, -any_map, -all_map, -mapM_map, -map_map, bitvec_to_nat, h1, h2, fO0, fO1, fO2, zO, agO, paO, plO0, plO1, plO2, ldO, szO, ldR, szR, setCs5_A, zR, fillV]
      repeat refine ⟨by kernel_rfl, by kernel_rfl, ?_⟩
      simp [mvcgen_simp, -map_replicate, -map_set, -map_append, -map_reverse, -map_take, -map_drop, -map_tail, -any_map, -all_map, -mapM_map, -map_map, Try.f12, szL, ldL, setCs0, setCs1, setCs2, setCsA2, setCsA3, ldM, fM0, fM1, szM, zM, plM0, plM1, agM, paM, ldJ, fJ0, fJ1, fJ2, szJ, zJ, plJ0, plJ1, plJ2, agJ, paJ, ctJ, loadD, viewN]
    · have e : codeO p l n 1 = 2 := by unfold codeO; rw [if_pos hm, if_neg c]
      rw [e]
      rw [show (decide (1 ≤ n) && decide (n ≤ 12)) = false by simpa using fun h => by omega] at h1
      simp [go_sem, -map_replicate, -map_set, -map_append, -map_reverse, -map_take, -map_drop, -map_tail, -any_map, -all_map, -mapM_map, -map_map, bitvec_to_nat, h1, fillV]
      repeat refine ⟨by kernel_rfl, by kernel_rfl, ?_⟩
      simp [mvcgen_simp, -map_replicate, -map_set, -map_append, -map_reverse, -map_take, -map_drop, -map_tail, -any_map, -all_map, -mapM_map, -map_map, Try.f12, szL, ldL, setCs0, setCs1, setCs2, setCsA2, setCsA3, ldM, fM0, fM1, szM, zM, plM0, plM1, agM, paM, ldJ, fJ0, fJ1, fJ2, szJ, zJ, plJ0, plJ1, plJ2, agJ, paJ, ctJ, loadD, viewN]
theorem run_implOrthogonalPolynomial (p : Int) (a b l : List Int) (n : Nat) (hm : momB p l = true) (hn : n ≤ 12) (hc : 0 < n → jacB p a b = true ∧ (∀ t, t < 2 * a.length → rdI l t = mo p a b t) ∧ n ≤ a.length) (ho : n ≤ ordN p l) (hll : 2 * n ≤ l.length) :
    runv E1 16 [(V.agg [V.int .i64 (p), (V.list (List.length (l)) (List.map (V.int .i64) (l)))]), .int .i64 (n : Int)] = some ⟨false, .tup [(V.list (List.length ((pl p a b n).1)) (List.map (V.int .i64) ((pl p a b n).1))), .int .i64 0], [.agg [.undef, .undef], .undef]⟩ := by
  have hml := momB_len hm
  have h1 := up (run_mcode0 p l 61 [] [.ref [.int .i64 (n : Int)] 0] (decide (0 ≤ (n : Int)) && decide ((n : Int) ≤ 12)) (by omega) (fv_ref _ _) (fun H b => by
    have := run_OP1 (n : Int)
    simp [modesOf, callD, prepL, prepA, purN, idsN, depth, this, nodupB, flatO, noTup, backW, widthOk, wideA, adopt, adoptA, adoptC, treeN]))
  rw [hm, show (decide ((0 : Int) ≤ n) && decide ((n : Int) ≤ 12)) = true by simp; omega] at h1
  have h2 := run_upTo p a b l n hm hc ho hll
  have l1 := prow_len p a b (n + 1)
  have hg := prow_at p a b (Nat.lt_succ_self n) UV
  unfold orV at h2
  have k2 : (n : Int) < (n : Int) + 1 := by omega
  generalize tab n (nrm p b) = T at *
  generalize tab n (rdI a) = T2 at *
  generalize tab n (rdI b) = T3 at *
  have cdk : codeOk Try.f16.ntmps (Try.f16.body.getD .skip) = true := by kernel_rfl
  refine run_of_WLr (fn := Try.f16) rfl Try.func16 rfl ⟨by simp [Try.ntmps16], by simp [wideA, ints], cdk, by simp [Try.f16]⟩ rfl (by simp [rebOk, noId, adoptT, adoptA, adoptL, adoptC, depth]) ?_
  simp [go_sem, -map_replicate, -map_set, -map_append, -map_reverse, -map_take, -map_drop, -map_tail, -any_map, -all_map, -mapM_map, -map_map, bitvec_to_nat, h1, h2, l1, hg, k2, prow_get, UV, fO0, fO1, fO2, zO, agO, paO, plO0, plO1, plO2, ldO, szO, ldR, szR, setCs5_A, zR, slR, undR, fillV]
  repeat refine ⟨by kernel_rfl, by kernel_rfl, ?_⟩
  simp [mvcgen_simp, -map_replicate, -map_set, -map_append, -map_reverse, -map_take, -map_drop, -map_tail, -any_map, -all_map, -mapM_map, -map_map, Try.f16, szL, ldL, setCs0, setCs1, setCs2, setCsA2, setCsA3, ldM, fM0, fM1, szM, zM, plM0, plM1, agM, paM, ldJ, fJ0, fJ1, fJ2, szJ, zJ, plJ0, plJ1, plJ2, agJ, paJ]
theorem run_implNormOf (p : Int) (a b l : List Int) (n : Nat) (hm : momB p l = true) (hn : n ≤ 12) (hc : 0 < n → jacB p a b = true ∧ (∀ t, t < 2 * a.length → rdI l t = mo p a b t) ∧ n ≤ a.length) (ho : n ≤ ordN p l) (hll : 2 * n + 1 ≤ l.length) :
    runv E1 18 [(V.agg [V.int .i64 (p), (V.list (List.length (l)) (List.map (V.int .i64) (l)))]), .int .i64 (n : Int)] = some ⟨true, .tup [(V.int .i64 (dotP p (mulP p (pl p a b n).1 (pl p a b n).1) l 0 (mulP p (pl p a b n).1 (pl p a b n).1).length)), .int .i64 0], [.agg [.undef, .undef], .undef]⟩ := by
  have hp := momB_prime hm
  have hml := momB_len hm
  have h1 := up (run_mcode0 p l 63 [] [.ref [.int .i64 (n : Int)] 0] (decide (0 ≤ (n : Int)) && decide ((n : Int) ≤ 12)) (by omega) (fv_ref _ _) (fun H b => by
    have := run_NO1 (n : Int)
    simp [modesOf, callD, prepL, prepA, purN, idsN, depth, this, nodupB, flatO, noTup, backW, widthOk, wideA, adopt, adoptA, adoptC, treeN]))
  rw [hm, show (decide ((0 : Int) ≤ n) && decide ((n : Int) ≤ 12)) = true by simp; omega] at h1
  have h2 := run_upTo p a b l n hm hc ho (by omega)
  have g0 := up (run_Mfield p l)
  have g2 := up (run_length l)
  have lP := pl_length hp a b n
  have fP := pl_fine hp a b n
  have lm := mul_pl_len hp a b n n
  have q1 := run_product p (pl p a b n).1 (pl p a b n).1 hp fP.1 fP.1 (by omega) (by omega)
  have fs := mulP_fine hp (pl p a b n).1 (pl p a b n).1
  have q2 := run_Mapply p l (mulP p (pl p a b n).1 (pl p a b n).1) hp (fun i hi => momB_rd hm hi) (fun i hi => fs i) (by omega) (by omega)
  have l1 := prow_len p a b (n + 1)
  have hg := prow_at p a b (Nat.lt_succ_self n) UV
  unfold orV at h2
  have k2 : (n : Int) < (n : Int) + 1 := by omega
  have w0 : IntKind.i64.wrap (2 * (n : Int)) = 2 * (n : Int) := IntWalk.i64_in _ (by omega)
  have w1 : IntKind.i64.wrap (2 * (n : Int) + 1) = 2 * (n : Int) + 1 := IntWalk.i64_in _ (by omega)
  have o3 : ¬ (l.length : Int) < 2 * (n : Int) + 1 := by omega
  generalize dotP p (mulP p (pl p a b n).1 (pl p a b n).1) l 0 (mulP p (pl p a b n).1 (pl p a b n).1).length = X at *
  generalize mulP p (pl p a b n).1 (pl p a b n).1 = g at *
  generalize tab n (nrm p b) = T at *
  generalize tab n (rdI a) = T2 at *
  generalize tab n (rdI b) = T3 at *
  rw [lP] at q1
  have cdk : codeOk Try.f18.ntmps (Try.f18.body.getD .skip) = true := by kernel_rfl
  refine run_of_WLr (fn := Try.f18) rfl Try.func18 rfl ⟨by simp [Try.ntmps18], by simp [wideA, ints], cdk, by simp [Try.f18]⟩ rfl (by simp [rebOk, noId, adoptT, adoptA, adoptL, adoptC, depth]) ?_
  simp [go_sem, -map_replicate, -map_set, -map_append, -map_reverse, -map_take, -map_drop, -map_tail, -any_map, -all_map, -mapM_map, -map_map, bitvec_to_nat, h1, h2, g0, g2, w0, w1, o3, lP, q1, q2, l1, hg, k2, prow_get, UV, fO0, fO1, fO2, zO, agO, paO, plO0, plO1, plO2, ldO, szO, ldR, szR, setCs5_A, zR, slR, undR, fillV]
  repeat refine ⟨by kernel_rfl, by kernel_rfl, ?_⟩
  simp [mvcgen_simp, -map_replicate, -map_set, -map_append, -map_reverse, -map_take, -map_drop, -map_tail, -any_map, -all_map, -mapM_map, -map_map, Try.f18, szL, ldL, setCs0, setCs1, setCs2, setCsA2, setCsA3, ldM, fM0, fM1, szM, zM, plM0, plM1, agM, paM, ldJ, fJ0, fJ1, fJ2, szJ, zJ, plJ0, plJ1, plJ2, agJ, paJ]
end Go.Proofs.Ytacfkfdnncgjcaa.Ev
