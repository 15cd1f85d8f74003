/- What the law of linear combinations runs beside the exact laws. Conditions: none. -/
import Derived.Test.YtabnganndcmcnaaFnED
import Derived.Test.YtabnganndcmcnaaFnBG
set_option linter.unusedSimpArgs false
set_option linter.unusedVariables false
namespace Go.Proofs.Ytabnganndcmcnaa.Ev
open Go Go.Proofs
open List (map_replicate map_set map_append map_reverse map_take map_drop map_tail any_map all_map mapM_map map_map)
set_option maxRecDepth 4000
set_option maxHeartbeats 4000000

theorem polyB_of {p : Int} {f : List Int} (hf : fine p f) (tf : trimL f = f) (hl : f.length ≤ 25) : polyB p f = true := by
  unfold polyB
  rw [fine_hasB hf]
  simp only [Bool.and_eq_true, decide_eq_true_eq, Bool.or_eq_true, Bool.not_eq_true', decide_eq_false_iff_not]
  refine ⟨⟨hl, trivial⟩, ?_⟩
  by_cases c : f.length = 0
  · exact .inl c
  · refine .inr fun h0 => ?_
    have := trimL_zero (f := f) (n := f.length - 1) (by omega) h0
    rw [tf] at this; omega
theorem polyB_trim {p : Int} {f : List Int} (h : polyB p f = true) : trimL f = f ∧ f.length ≤ 25 := by
  unfold polyB at h
  simp only [Bool.and_eq_true, decide_eq_true_eq, Bool.or_eq_true, Bool.not_eq_true', decide_eq_false_iff_not] at h
  refine ⟨?_, h.1.1⟩
  rcases h.2 with c | c
  · have : f = [] := List.eq_nil_of_length_eq_zero c
    subst this; rfl
  · by_cases c0 : 0 < f.length
    · exact trimL_top c0 c
    · have : f = [] := List.eq_nil_of_length_eq_zero (by omega)
      subst this; rfl
theorem polyB_fine {p : Int} (hp : 2 ≤ p) {f : List Int} (h : polyB p f = true) : fine p f := fine_all (polyB_all h) hp
/-! ### The polynomials of data, derivatives, products by x -/
theorem run_implPolyOf (p : Int) (a b : List Int) (k : Nat) (h : jacB p a b = true) (hk : k ≤ a.length) :
    runv E1 21 [(V.agg [V.int .i64 (p), (V.list (List.length (a)) (List.map (V.int .i64) (a))), (V.list (List.length (b)) (List.map (V.int .i64) (b)))]), .int .i64 (k : Int)] = some ⟨false, .tup [(V.list (List.length ((pl p a b k).1)) (List.map (V.int .i64) ((pl p a b k).1))), .int .i64 0], [.agg [.undef, .undef, .undef], .undef]⟩ := by
  have hl := jacB_len h
  have g2 := up (run_within k 0 a.length)
  rw [show (decide ((0 : Int) ≤ k) && decide ((k : Int) ≤ a.length)) = true by simp; omega] at g2
  have g4 := up (run_Jsize p a b)
  have h1 := up (run_jacobiCode p a b true (by omega) (by omega))
  rw [h] at h1
  simp only [if_true] at h1
  have h3 := run_polys p a b h
  have k1 : k < a.length + 1 := by omega
  have k2 : (k : Int) < (a.length : Int) + 1 := by omega
  have hg := prow_at p a b k1 UV
  have cdk : codeOk Try.f21.ntmps (Try.f21.body.getD .skip) = true := by kernel_rfl
  refine run_of_WLr (fn := Try.f21) rfl Try.func21 rfl ⟨by simp [Try.ntmps21], by simp [wideA, ints], cdk, by simp [Try.f21]⟩ rfl (by simp [rebOk, noId, adoptT, adoptA, adoptL, adoptC, depth]) ?_
  simp [go_sem, -map_replicate, -map_set, -map_append, -map_reverse, -map_take, -map_drop, -map_tail, -any_map, -all_map, -mapM_map, -map_map, slL, szI, ldI, zI, undL, apL, setI, rdI_get, Nat.add_one_le_iff, fillV, zeros1, zeros0, appendD, segV, lvO, goneOf, sliceD, bound, Nat.add_assoc, szL, ldL, setCs0, setCs1, setCs2, setCsA2, setCsA3, ldM, fM0, fM1, szM, zM, plM0, plM1, agM, paM, ldJ, fJ0, fJ1, fJ2, szJ, zJ, plJ0, plJ1, plJ2, agJ, paJ, g2, g4, h1, h3, k1, k2, hg, UV, slR, undR, prow_len]
  repeat refine ⟨by kernel_rfl, by kernel_rfl, ?_⟩
  simp [mvcgen_simp, -map_replicate, -map_set, -map_append, -map_reverse, -map_take, -map_drop, -map_tail, -any_map, -all_map, -mapM_map, -map_map, Try.f21, prow_get]
theorem zerosR2 : zerosV 2 [V.nils] = [.nils, .nils] := rfl
theorem run_polyCodeA (p : Int) (polys : List (List Int)) (hl : polys.length ≤ 1000) (hf : ∀ f, f ∈ polys → f.length ≤ 1000) (hp : primeB p = true) (hb : polys.all (polyB p) = true) :
    runv E0 201 [.int .i64 p, .func (.func 202) [] [], .list polys.length (polys.map LV)] = some ⟨true, .int .i64 0, [.undef, .undef, .undef]⟩ := by
  have := run_polyCode p 202 [] [] true polys (by omega) (fun f h => by have := hf f h; omega) (fun H b => by
    simp [modesOf, callD, prepL, depth, run_always, nodupB, flatO, noTup, backW, widthOk, wideA, adopt, adoptA, adoptC, treeN])
  rw [show pcode p true polys = 0 by unfold pcode; rw [hb, hp]; rfl] at this
  exact this
theorem run_implDerivativeOf (p : Int) (f : List Int) (hp : primeB p = true) (hp2 : 2 ≤ p ∧ p ≤ 10007) (hb : polyB p f = true) (h1 : 1 < f.length) :
    runv E1 91 [(V.int .i64 (p)), (V.list (List.length (f)) (List.map (V.int .i64) (f)))] = some ⟨true, .tup [(V.uniq 1 (List.length (drvP p f)) (List.map (V.int .i64) (drvP p f))), .int .i64 0], [.undef, .undef]⟩ := by
  have ht := polyB_trim hb
  have c1 := up (run_polyCodeA p [f] (by simp) (by simp; omega) hp (by simp [hb]))
  have h2 := run_derivative p f hp2 (polyB_fine hp2.1 hb) (by omega) h1
  simp only [List.map_cons, List.map_nil, List.length_cons, List.length_nil, LV, Nat.zero_add] at c1
  have cdk : codeOk Try.f91.ntmps (Try.f91.body.getD .skip) = true := by kernel_rfl
  refine run_of_WLr (fn := Try.f91) rfl Try.func91 rfl ⟨by simp [Try.ntmps91], by simp [wideA, ints], cdk, by simp [Try.f91]⟩ rfl (by simp [rebOk, noId, adoptT, adoptA, adoptL, adoptC, depth]) ?_
  simp [go_sem, -map_replicate, -map_set, -map_append, -map_reverse, -map_take, -map_drop, -map_tail, -any_map, -all_map, -mapM_map, -map_map, slL, szI, ldI, zI, undL, apL, setI, rdI_get, Nat.add_one_le_iff, fillV, zeros1, zeros0, appendD, segV, lvO, goneOf, sliceD, bound, Nat.add_assoc, szL, ldL, setCs0, setCs1, setCs2, setCsA2, setCsA3, ldM, fM0, fM1, szM, zM, plM0, plM1, agM, paM, ldJ, fJ0, fJ1, fJ2, szJ, zJ, plJ0, plJ1, plJ2, agJ, paJ, c1, h2, zR, zerosR, slR, undR]
  repeat refine ⟨by kernel_rfl, by kernel_rfl, ?_⟩
  simp [mvcgen_simp, -map_replicate, -map_set, -map_append, -map_reverse, -map_take, -map_drop, -map_tail, -any_map, -all_map, -mapM_map, -map_map, Try.f91]
theorem run_implDerivativeOf0 (p : Int) (f : List Int) (hp : primeB p = true) (hb : polyB p f = true) (h1 : ¬ 1 < f.length) :
    runv E1 91 [(V.int .i64 (p)), (V.list (List.length (f)) (List.map (V.int .i64) (f)))] = some ⟨false, .tup [.list 0 [], .int .i64 0], [.undef, .undef]⟩ := by
  have ht := polyB_trim hb
  have c1 := up (run_polyCodeA p [f] (by simp) (by simp; omega) hp (by simp [hb]))
  have h2 := run_derivative0 p f h1
  simp only [List.map_cons, List.map_nil, List.length_cons, List.length_nil, LV, Nat.zero_add] at c1
  have cdk : codeOk Try.f91.ntmps (Try.f91.body.getD .skip) = true := by kernel_rfl
  refine run_of_WLr (fn := Try.f91) rfl Try.func91 rfl ⟨by simp [Try.ntmps91], by simp [wideA, ints], cdk, by simp [Try.f91]⟩ rfl (by simp [rebOk, noId, adoptT, adoptA, adoptL, adoptC, depth]) ?_
  simp [go_sem, -map_replicate, -map_set, -map_append, -map_reverse, -map_take, -map_drop, -map_tail, -any_map, -all_map, -mapM_map, -map_map, slL, szI, ldI, zI, undL, apL, setI, rdI_get, Nat.add_one_le_iff, fillV, zeros1, zeros0, appendD, segV, lvO, goneOf, sliceD, bound, Nat.add_assoc, szL, ldL, setCs0, setCs1, setCs2, setCsA2, setCsA3, ldM, fM0, fM1, szM, zM, plM0, plM1, agM, paM, ldJ, fJ0, fJ1, fJ2, szJ, zJ, plJ0, plJ1, plJ2, agJ, paJ, c1, h2, zR, zerosR, slR, undR]
  repeat refine ⟨by kernel_rfl, by kernel_rfl, ?_⟩
  simp [mvcgen_simp, -map_replicate, -map_set, -map_append, -map_reverse, -map_take, -map_drop, -map_tail, -any_map, -all_map, -mapM_map, -map_map, Try.f91, isLR]
theorem run_degree0 (f : List Int) (hl : f.length ≤ 9223372036854775807) : runv E0 183 [(V.list (List.length (f)) (List.map (V.int .i64) (f)))] = some ⟨true, .int .i64 ((f.length : Int) - 1), [.undef]⟩ := by
  have cdk : codeOk Try.f183.ntmps (Try.f183.body.getD .skip) = true := by kernel_rfl
  refine run_of_WL (fn := Try.f183) rfl Try.func183 rfl ⟨by simp [Try.ntmps183], by simp [wideA, ints], cdk, by simp [Try.f183]⟩ ?_
  have h1 := run_length f
  have w : IntKind.i64.wrap ((f.length : Int) - 1) = (f.length : Int) - 1 := IntWalk.i64_in _ (by omega)
  simp [go_sem, -map_replicate, -map_set, -map_append, -map_reverse, -map_take, -map_drop, -map_tail, -any_map, -all_map, -mapM_map, -map_map, slL, szI, ldI, zI, undL, apL, setI, rdI_get, Nat.add_one_le_iff, fillV, zeros1, zeros0, appendD, segV, lvO, goneOf, sliceD, bound, Nat.add_assoc, h1, w]
  simp [mvcgen_simp, -map_replicate, -map_set, -map_append, -map_reverse, -map_take, -map_drop, -map_tail, -any_map, -all_map, -mapM_map, -map_map, Try.f183]
theorem run_limited (f : List Int) (hl : f.length ≤ 25) : runv E0 203 [(V.uniq 1 (List.length (f)) (List.map (V.int .i64) (f)))] = some ⟨true, .tup [(V.uniq 1 (List.length (f)) (List.map (V.int .i64) (f))), .int .i64 0], [.undef]⟩ := by
  have cdk : codeOk Try.f203.ntmps (Try.f203.body.getD .skip) = true := by kernel_rfl
  refine run_of_WL (fn := Try.f203) rfl Try.func203 rfl ⟨by simp [Try.ntmps203], by simp [wideA, ints], cdk, by simp [Try.f203]⟩ ?_
  have h1 := run_degree0 f (by omega)
  have c : ¬ (24 : Int) < (f.length : Int) - 1 := by omega
  simp [go_sem, -map_replicate, -map_set, -map_append, -map_reverse, -map_take, -map_drop, -map_tail, -any_map, -all_map, -mapM_map, -map_map, slL, szI, ldI, zI, undL, apL, setI, rdI_get, Nat.add_one_le_iff, fillV, zeros1, zeros0, appendD, segV, lvO, goneOf, sliceD, bound, Nat.add_assoc, h1, c]
  simp [mvcgen_simp, -map_replicate, -map_set, -map_append, -map_reverse, -map_take, -map_drop, -map_tail, -any_map, -all_map, -mapM_map, -map_map, Try.f203]
theorem run_implMulX (p : Int) (f : List Int) (hp : primeB p = true) (hp2 : 2 ≤ p ∧ p ≤ 10007) (hb : polyB p f = true) (hl : f.length ≤ 20) :
    runv E1 92 [(V.int .i64 (p)), (V.list (List.length (f)) (List.map (V.int .i64) (f))), .list 2 [.int .i64 0, .int .i64 1]] = some ⟨true, .tup [(V.uniq 1 (List.length (mulP p f [0, 1])) (List.map (V.int .i64) (mulP p f [0, 1]))), .int .i64 0], [.undef, .undef, .undef]⟩ := by
  have f01 : fine p [0, 1] := fine_two hp2.1 (by omega) (by omega)
  have b01 : polyB p [0, 1] = true := polyB_of f01 rfl (by simp)
  have c1 := up (run_polyCodeA p [f, [0, 1]] (by simp) (by simp; omega) hp (by simp [hb, b01]))
  have h2 := run_product p f [0, 1] hp2 (polyB_fine hp2.1 hb) f01 (by omega) (by simp)
  have le := mulP_le p f [0, 1]
  have h3 := up (run_limited (mulP p f [0, 1]) (by simp only [List.length_cons, List.length_nil] at le; omega))
  simp only [List.map_cons, List.map_nil, List.length_cons, List.length_nil, LV, Nat.zero_add, Nat.reduceAdd] at c1 h2
  have cdk : codeOk Try.f92.ntmps (Try.f92.body.getD .skip) = true := by kernel_rfl
  refine run_of_WLr (fn := Try.f92) rfl Try.func92 rfl ⟨by simp [Try.ntmps92], by simp [wideA, ints], cdk, by simp [Try.f92]⟩ rfl (by simp [rebOk, noId, adoptT, adoptA, adoptL, adoptC, depth]) ?_
  generalize mulP p f [0, 1] = g at *
  simp [go_sem, -map_replicate, -map_set, -map_append, -map_reverse, -map_take, -map_drop, -map_tail, -any_map, -all_map, -mapM_map, -map_map, slL, szI, ldI, zI, undL, apL, setI, rdI_get, Nat.add_one_le_iff, fillV, zeros1, zeros0, appendD, segV, lvO, goneOf, sliceD, bound, Nat.add_assoc, szL, ldL, setCs0, setCs1, setCs2, setCsA2, setCsA3, ldM, fM0, fM1, szM, zM, plM0, plM1, agM, paM, ldJ, fJ0, fJ1, fJ2, szJ, zJ, plJ0, plJ1, plJ2, agJ, paJ, c1, h2, h3, zR, zerosR2, slR, undR, zerosV2, fillV]
  repeat refine ⟨by kernel_rfl, by kernel_rfl, ?_⟩
  simp [mvcgen_simp, -map_replicate, -map_set, -map_append, -map_reverse, -map_take, -map_drop, -map_tail, -any_map, -all_map, -mapM_map, -map_map, Try.f92]
end Go.Proofs.Ytabnganndcmcnaa.Ev
