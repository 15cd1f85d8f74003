/- What the law of linear combinations runs beside the exact laws. Conditions: none. -/
import Derived.Test.YtacfkfdnncgjcaaGreatFnED
import Derived.Test.YtacfkfdnncgjcaaGreatFnBG
set_option linter.unusedSimpArgs false
set_option linter.unusedVariables false
namespace Go.Proofs.YtacfkfdnncgjcaaGreat.Ev
open Go Go.Proofs
open List (map_replicate map_set map_append map_reverse map_take map_drop map_tail any_map all_map mapM_map map_map)
set_option maxRecDepth 4000
set_option maxHeartbeats 4000000

theorem polyB_of {p : Int} {f : List Int} (hf : fine p f) (tf : trimL f = f) (hl : f.length ≤ 25) : polyB p f = true := by
  unfold polyB
  rw [fine_hasB hf]
  simp only [Bool.and_eq_true, decide_eq_true_eq, Bool.or_eq_true, Bool.not_eq_true', decide_eq_false_iff_not]
  refine ⟨⟨hl, trivial⟩, ?_⟩
  by_cases c : f.length = 0
  · exact .inl c
  · refine .inr fun h0 => ?_
    have := trimL_zero (f := f) (n := f.length - 1) (by omega) h0
    rw [tf] at this; omega
theorem polyB_trim {p : Int} {f : List Int} (h : polyB p f = true) : trimL f = f ∧ f.length ≤ 25 := by
  unfold polyB at h
  simp only [Bool.and_eq_true, decide_eq_true_eq, Bool.or_eq_true, Bool.not_eq_true', decide_eq_false_iff_not] at h
  refine ⟨?_, h.1.1⟩
  rcases h.2 with c | c
  · have : f = [] := List.eq_nil_of_length_eq_zero c
    subst this; rfl
  · by_cases c0 : 0 < f.length
    · exact trimL_top c0 c
    · have : f = [] := List.eq_nil_of_length_eq_zero (by omega)
      subst this; rfl
theorem polyB_fine {p : Int} (hp : 2 ≤ p) {f : List Int} (h : polyB p f = true) : fine p f := fine_all (polyB_all h) hp
/-! ### The polynomials of data, derivatives, products by x -/
theorem run_implPolyOf (p : Int) (a b : List Int) (k : Nat) (h : jacB p a b = true) (hk : k ≤ a.length) :
    runv E1 17 [(V.agg [V.int .i64 (p), (V.list (List.length (a)) (List.map (V.int .i64) (a))), (V.list (List.length (b)) (List.map (V.int .i64) (b)))]), .int .i64 (k : Int)] = some ⟨false, .tup [(V.list (List.length ((pl p a b k).1)) (List.map (V.int .i64) ((pl p a b k).1))), .int .i64 0], [.agg [.undef, .undef, .undef], .undef]⟩ := by
  have hl := jacB_len h
  have g2 := up (run_within k 0 a.length)
  rw [show (decide ((0 : Int) ≤ k) && decide ((k : Int) ≤ a.length)) = true by simp; omega] at g2
  have g4 := up (run_Jsize p a b)
  have h1 := up (run_jacobiCode p a b true (by omega) (by omega))
  rw [h] at h1
  simp only [if_true] at h1
  have h3 := run_polys p a b h
  have k1 : k < a.length + 1 := by omega
  have k2 : (k : Int) < (a.length : Int) + 1 := by omega
  have hg := prow_at p a b k1 UV
  have cdk : codeOk Tryz.f17.ntmps (Tryz.f17.body.getD .skip) = true := by kernel_rfl
  refine run_of_WLr (fn := Tryz.f17) rfl Tryz.func17 rfl ⟨by simp [Tryz.ntmps17], by simp [wideA, ints], cdk, by simp [Tryz.f17]⟩ rfl (by simp [rebOk, noId, adoptT, adoptA, adoptL, adoptC, depth]) ?_
  simp [go_sem, -map_replicate, -map_set, -map_append, -map_reverse, -map_take, -map_drop, -map_tail, -any_map, -all_map, -mapM_map, -map_map, slL, szI, ldI, zI, undL, apL, setI, rdI_get, Nat.add_one_le_iff, fillV, zeros1, zeros0, appendD, segV, lvO, goneOf, sliceD, bound, Nat.add_assoc, szL, ldL, setCs0, setCs1, setCs2, setCsA2, setCsA3, ldM, fM0, fM1, szM, zM, plM0, plM1, agM, paM, ldJ, fJ0, fJ1, fJ2, szJ, zJ, plJ0, plJ1, plJ2, agJ, paJ, g2, g4, h1, h3, k1, k2, hg, UV, slR, undR, prow_len]
  repeat refine ⟨by kernel_rfl, by kernel_rfl, ?_⟩
  simp [mvcgen_simp, -map_replicate, -map_set, -map_append, -map_reverse, -map_take, -map_drop, -map_tail, -any_map, -all_map, -mapM_map, -map_map, Tryz.f17, prow_get]
theorem zerosR2 : zerosV 2 [V.nils] = [.nils, .nils] := rfl
theorem run_polyCodeA (p : Int) (polys : List (List Int)) (hl : polys.length ≤ 1000) (hf : ∀ f, f ∈ polys → f.length ≤ 1000) (hp : primeB p = true) (hb : polys.all (polyB p) = true) :
    runv E0 135 [.int .i64 p, .func (.func 82) [] [], .list polys.length (polys.map LV)] = some ⟨true, .int .i64 0, [.undef, .undef, .undef]⟩ := by
  have := run_polyCode p 82 [] [] true polys (by omega) (fun f h => by have := hf f h; omega) (fun H b => by
    simp [modesOf, callD, prepL, depth, run_always, nodupB, flatO, noTup, backW, widthOk, wideA, adopt, adoptA, adoptC, treeN])
  rw [show pcode p true polys = 0 by unfold pcode; rw [hb, hp]; rfl] at this
  exact this
end Go.Proofs.YtacfkfdnncgjcaaGreat.Ev
