/- ExpandProduct and ExpandDerivative: both texts and the laws. Conditions: none. -/
import Derived.Test.YtacfkfdnncgjcaaGreatFnBG
set_option linter.unusedSimpArgs false
set_option linter.unusedVariables false
namespace Go.Proofs.YtacfkfdnncgjcaaGreat.Ev
open Go Go.Proofs
open List (map_replicate map_set map_append map_reverse map_take map_drop map_tail any_map all_map mapM_map map_map)
set_option maxRecDepth 4000
set_option maxHeartbeats 4000000

def inK (a : List Int) (x : Int) : Bool := decide (0 ≤ x) && decide (x ≤ a.length)
/-! ### Derivatives -/
def drv (p : Int) (f : List Int) (i : Nat) : Int := ((i : Int) + 1) * rdI f (i + 1) % p
def drvP (p : Int) (f : List Int) : List Int := trimL (tab (f.length - 1) (drv p f))
theorem drvP_le (p : Int) (f : List Int) : (drvP p f).length ≤ f.length - 1 := by
  have := trimL_le (tab (f.length - 1) (drv p f)); rw [tab_len] at this; exact this
theorem drvP_fine {p : Int} (hp : 2 ≤ p ∧ p ≤ 10007) (f : List Int) : fine p (drvP p f) := trimL_fine hp fun i => by
  by_cases h : i < f.length - 1
  · rw [tab_rd h]; exact mod_small hp _
  · rw [rdI_out (by rw [tab_len]; omega)]; omega
theorem run_derivative0 (p : Int) (f : List Int) (hl : ¬ 1 < f.length) :
    runv E1 115 [.int .i64 p, (V.list (List.length (f)) (List.map (V.int .i64) (f)))] = some ⟨false, .list 0 [], [.undef, .undef]⟩ := by
  have cdk : codeOk Tryz.f115.ntmps (Tryz.f115.body.getD .skip) = true := by kernel_rfl
  refine run_of_WLr (fn := Tryz.f115) rfl Tryz.func115 rfl ⟨by simp [Tryz.ntmps115], by simp [wideA, ints], cdk, by simp [Tryz.f115]⟩ rfl (by simp [rebOk, noId, adoptT, adoptA, adoptL, adoptC, depth]) ?_
  simp [go_sem, -map_replicate, -map_set, -map_append, -map_reverse, -map_take, -map_drop, -map_tail, -any_map, -all_map, -mapM_map, -map_map, slL, szI, ldI, zI, undL, apL, setI, rdI_get, Nat.add_one_le_iff, fillV, zeros1, zeros0, appendD, segV, lvO, goneOf, sliceD, bound, Nat.add_assoc]
  rw [WL_loop, WL_reb rfl]
  rw [show maskL (livK (resM Tryz.f115) (.inLoop _ :: _)).1 = [0, 1, 5, 6] by kernel_rfl]
  rw [show canon [0, 1, 5, 6] _ = mkSt [(0, .int .i64 p), (1, (V.list (List.length (f)) (List.map (V.int .i64) (f)))), (5, .nils), (6, .int .i64 1)] [] (resM Tryz.f115) by (refine canon_mk ?_; simp [method_specs_simp, ordIds_app, ordRen_app, ordIds_app2, ordRen_app2, -map_replicate, -map_set, -map_append, -map_reverse, -map_take, -map_drop, -map_tail, -map_map])]
  have ci : ¬ (1 : Int) < f.length := by omega
  have ht := up (run_trimmedL [] (by simp))
  simp only [List.length_nil, List.map_nil, show trimL [] = [] from rfl] at ht
  simp [go_sem, -map_replicate, -map_set, -map_append, -map_reverse, -map_take, -map_drop, -map_tail, -any_map, -all_map, -mapM_map, -map_map, slL, szI, ldI, zI, undL, apL, setI, rdI_get, Nat.add_one_le_iff, fillV, zeros1, zeros0, appendD, segV, lvO, goneOf, sliceD, bound, Nat.add_assoc, hl, ci, ht]
  simp [mvcgen_simp, -map_replicate, -map_set, -map_append, -map_reverse, -map_take, -map_drop, -map_tail, -any_map, -all_map, -mapM_map, -map_map, Tryz.f115, isLR]
theorem run_derivative (p : Int) (f : List Int) (hp : 2 ≤ p ∧ p ≤ 10007) (hf : fine p f) (hl : f.length ≤ 1000) (h1 : 1 < f.length) :
    runv E1 115 [.int .i64 p, (V.list (List.length (f)) (List.map (V.int .i64) (f)))] = some ⟨true, (V.uniq 1 (List.length (drvP p f)) (List.map (V.int .i64) (drvP p f))), [.undef, .undef]⟩ := by
  have cdk : codeOk Tryz.f115.ntmps (Tryz.f115.body.getD .skip) = true := by kernel_rfl
  refine run_of_WLr (fn := Tryz.f115) rfl Tryz.func115 rfl ⟨by simp [Tryz.ntmps115], by simp [wideA, ints], cdk, by simp [Tryz.f115]⟩ rfl (by simp [rebOk, noId, adoptT, adoptA, adoptL, adoptC, depth]) ?_
  simp [go_sem, -map_replicate, -map_set, -map_append, -map_reverse, -map_take, -map_drop, -map_tail, -any_map, -all_map, -mapM_map, -map_map, slL, szI, ldI, zI, undL, apL, setI, rdI_get, Nat.add_one_le_iff, fillV, zeros1, zeros0, appendD, segV, lvO, goneOf, sliceD, bound, Nat.add_assoc]
  rw [WL_loop]
  refine WL_for (keep := [0, 1, 5, 6]) (rs := resM Tryz.f115) rfl (by kernel_rfl) (fun x => match x with | 0 => mkSt [(0, .int .i64 p), (1, (V.list (List.length (f)) (List.map (V.int .i64) (f)))), (5, .nils), (6, .int .i64 1)] [] (resM Tryz.f115) | k + 1 => mkSt [(0, .int .i64 p), (1, (V.list (List.length (f)) (List.map (V.int .i64) (f)))), (5, .sl 0 0 0 (k + 1)), (6, .int .i64 ((k : Int) + 1 + 1))] [some (⟨0, 2, 1, (tab (k + 1) (drv p f)).map (V.int .i64)⟩)] (resM Tryz.f115)) (f.length - 1) ?_ ?_ 0 _ (by omega) rfl ?_
  · intro i hi next
    have r1 := hf (i + 1)
    have pm : 0 ≤ ((i : Int) + 1) * rdI f (i + 1) ∧ ((i : Int) + 1) * rdI f (i + 1) ≤ 1001 * 10007 := by
      refine ⟨Int.mul_nonneg (by omega) r1.1, ?_⟩
      exact Int.mul_le_mul (by omega) (by omega) r1.1 (by omega)
    have w0 : IntKind.i64.wrap (((i : Int) + 1) * rdI f (i + 1)) = ((i : Int) + 1) * rdI f (i + 1) := IntWalk.i64_in _ (by omega)
    have h1 := up (run_mul p ((i : Int) + 1) (rdI f (i + 1)) hp w0)
    rw [show ((i : Int) + 1) * rdI f (i + 1) % p = drv p f i from rfl] at h1
    have w1 : IntKind.i64.wrap ((i : Int) + 1) = (i : Int) + 1 := IntWalk.i64_in _ (by omega)
    have w2 : IntKind.i64.wrap ((i : Int) + 1 + 1) = (i : Int) + 1 + 1 := IntWalk.i64_in _ (by omega)
    have k1 : i + 1 < f.length := by omega
    have k2 : (i : Int) + 1 < f.length := by omega
    have kp : (0 : Int) ≤ (i : Int) + 1 := by omega
    have tA : tab (i + 1) (drv p f) = tab i (drv p f) ++ [drv p f i] := tab_succ _ _
    have lA := tab_len i (drv p f)
    have c3 : (i + 1) * 8 ≤ 140737488355328 := by omega
    generalize hTA : tab i (drv p f) = TA at *
    generalize drv p f i = x at *
    rcases i with _ | k
    · obtain rfl : TA = [] := hTA.symm
      dsimp only at next ⊢
      have wz2 : IntKind.i64.wrap 2 = 2 := by decide +kernel
      simp only [Nat.zero_add, Int.zero_add, Int.cast_ofNat_Int] at *
      simp [go_sem, -map_replicate, -map_set, -map_append, -map_reverse, -map_take, -map_drop, -map_tail, -any_map, -all_map, -mapM_map, -map_map, slL, szI, ldI, zI, undL, apL, setI, rdI_get, Nat.add_one_le_iff, fillV, zeros1, zeros0, appendD, segV, lvO, goneOf, sliceD, bound, Nat.add_assoc, wz2, k1, k2, kp, w1, w2, h1, convD, undI64]
      repeat refine ⟨by kernel_rfl, by kernel_rfl, ?_⟩
      refine next _ rfl ?_
      (refine canon_mk ?_; simp [method_specs_simp, ordIds_app, ordRen_app, ordIds_app2, ordRen_app2, -map_replicate, -map_set, -map_append, -map_reverse, -map_take, -map_drop, -map_tail, -map_map, tA])
    · dsimp only at next ⊢
      have t1 : ((k : Int) + 1 + 1).toNat = k + 2 := by omega
      simp only [Int.natCast_add, Int.cast_ofNat_Int, Nat.add_assoc, Nat.reduceAdd] at *
      simp [go_sem, -map_replicate, -map_set, -map_append, -map_reverse, -map_take, -map_drop, -map_tail, -any_map, -all_map, -mapM_map, -map_map, slL, szI, ldI, zI, undL, apL, setI, rdI_get, Nat.add_one_le_iff, fillV, zeros1, zeros0, appendD, segV, lvO, goneOf, sliceD, bound, Nat.add_assoc, k1, k2, kp, t1, w1, w2, h1, c3, lA, hTA, convD, undI64]
      repeat refine ⟨by kernel_rfl, by kernel_rfl, ?_⟩
      refine next _ rfl ?_
      (refine canon_mk ?_; simp [method_specs_simp, ordIds_app, ordRen_app, ordIds_app2, ordRen_app2, -map_replicate, -map_set, -map_append, -map_reverse, -map_take, -map_drop, -map_tail, -map_map, tA])
  · rcases hn : f.length - 1 with _ | n
    · omega
    · have c : 1 < f.length := by omega
      have ci : ¬ (n : Int) + 1 + 1 < f.length := by omega
      have ht := up (run_trimmed (tab (n + 1) (drv p f)) (by rw [tab_len]; omega))
      rw [tab_len, show trimL (tab (n + 1) (drv p f)) = drvP p f by unfold drvP; rw [hn]] at ht
      have lT := tab_len (n + 1) (drv p f)
      dsimp only
      simp [go_sem, -map_replicate, -map_set, -map_append, -map_reverse, -map_take, -map_drop, -map_tail, -any_map, -all_map, -mapM_map, -map_map, slL, szI, ldI, zI, undL, apL, setI, rdI_get, Nat.add_one_le_iff, fillV, zeros1, zeros0, appendD, segV, lvO, goneOf, sliceD, bound, Nat.add_assoc, c, ci, ht, lT]
      simp [mvcgen_simp, -map_replicate, -map_set, -map_append, -map_reverse, -map_take, -map_drop, -map_tail, -any_map, -all_map, -mapM_map, -map_map, Tryz.f115, c]
  · (refine canon_mk ?_; simp [method_specs_simp, ordIds_app, ordRen_app, ordIds_app2, ordRen_app2, -map_replicate, -map_set, -map_append, -map_reverse, -map_take, -map_drop, -map_tail, -map_map])
theorem run_l01Derive0 (p : Int) (f : List Int) (hl : ¬ 1 < f.length) :
    runv E1 122 [.int .i64 p, (V.list (List.length (f)) (List.map (V.int .i64) (f)))] = some ⟨true, .uniq 1 0 [], [.undef, .undef]⟩ := by
  have cdk : codeOk Tryz.f122.ntmps (Tryz.f122.body.getD .skip) = true := by kernel_rfl
  refine run_of_WLr (fn := Tryz.f122) rfl Tryz.func122 rfl ⟨by simp [Tryz.ntmps122], by simp [wideA, ints], cdk, by simp [Tryz.f122]⟩ rfl (by simp [rebOk, noId, adoptT, adoptA, adoptL, adoptC, depth]) ?_
  simp [go_sem, -map_replicate, -map_set, -map_append, -map_reverse, -map_take, -map_drop, -map_tail, -any_map, -all_map, -mapM_map, -map_map, slL, szI, ldI, zI, undL, apL, setI, rdI_get, Nat.add_one_le_iff, fillV, zeros1, zeros0, appendD, segV, lvO, goneOf, sliceD, bound, Nat.add_assoc]
  rw [WL_loop, WL_reb rfl]
  rw [show maskL (livK (resM Tryz.f122) (.inLoop _ :: _)).1 = [0, 1, 5, 6] by kernel_rfl]
  rw [show canon [0, 1, 5, 6] _ = mkSt [(0, .int .i64 p), (1, (V.list (List.length (f)) (List.map (V.int .i64) (f)))), (5, .nils), (6, .int .i64 1)] [] (resM Tryz.f122) by (refine canon_mk ?_; simp [method_specs_simp, ordIds_app, ordRen_app, ordIds_app2, ordRen_app2, -map_replicate, -map_set, -map_append, -map_reverse, -map_take, -map_drop, -map_tail, -map_map])]
  have ci : ¬ (1 : Int) < f.length := by omega
  have ht := run_l01Trim [] (by simp)
  simp only [List.length_nil, List.map_nil, show trimL [] = [] from rfl] at ht
  simp [go_sem, -map_replicate, -map_set, -map_append, -map_reverse, -map_take, -map_drop, -map_tail, -any_map, -all_map, -mapM_map, -map_map, slL, szI, ldI, zI, undL, apL, setI, rdI_get, Nat.add_one_le_iff, fillV, zeros1, zeros0, appendD, segV, lvO, goneOf, sliceD, bound, Nat.add_assoc, hl, ci, ht]
  simp [mvcgen_simp, -map_replicate, -map_set, -map_append, -map_reverse, -map_take, -map_drop, -map_tail, -any_map, -all_map, -mapM_map, -map_map, Tryz.f122, isLR]
theorem run_l01Derive (p : Int) (f : List Int) (hp : 2 ≤ p ∧ p ≤ 10007) (hf : fine p f) (hl : f.length ≤ 1000) (h1 : 1 < f.length) :
    runv E1 122 [.int .i64 p, (V.list (List.length (f)) (List.map (V.int .i64) (f)))] = some ⟨true, (V.uniq 1 (List.length (drvP p f)) (List.map (V.int .i64) (drvP p f))), [.undef, .undef]⟩ := by
  have cdk : codeOk Tryz.f122.ntmps (Tryz.f122.body.getD .skip) = true := by kernel_rfl
  refine run_of_WLr (fn := Tryz.f122) rfl Tryz.func122 rfl ⟨by simp [Tryz.ntmps122], by simp [wideA, ints], cdk, by simp [Tryz.f122]⟩ rfl (by simp [rebOk, noId, adoptT, adoptA, adoptL, adoptC, depth]) ?_
  simp [go_sem, -map_replicate, -map_set, -map_append, -map_reverse, -map_take, -map_drop, -map_tail, -any_map, -all_map, -mapM_map, -map_map, slL, szI, ldI, zI, undL, apL, setI, rdI_get, Nat.add_one_le_iff, fillV, zeros1, zeros0, appendD, segV, lvO, goneOf, sliceD, bound, Nat.add_assoc]
  rw [WL_loop]
  refine WL_for (keep := [0, 1, 5, 6]) (rs := resM Tryz.f122) rfl (by kernel_rfl) (fun x => match x with | 0 => mkSt [(0, .int .i64 p), (1, (V.list (List.length (f)) (List.map (V.int .i64) (f)))), (5, .nils), (6, .int .i64 1)] [] (resM Tryz.f122) | k + 1 => mkSt [(0, .int .i64 p), (1, (V.list (List.length (f)) (List.map (V.int .i64) (f)))), (5, .sl 0 0 0 (k + 1)), (6, .int .i64 ((k : Int) + 1 + 1))] [some (⟨0, 2, 1, (tab (k + 1) (drv p f)).map (V.int .i64)⟩)] (resM Tryz.f122)) (f.length - 1) ?_ ?_ 0 _ (by omega) rfl ?_
  · intro i hi next
    have r1 := hf (i + 1)
    have pm : 0 ≤ ((i : Int) + 1) * rdI f (i + 1) ∧ ((i : Int) + 1) * rdI f (i + 1) ≤ 1001 * 10007 := by
      refine ⟨Int.mul_nonneg (by omega) r1.1, ?_⟩
      exact Int.mul_le_mul (by omega) (by omega) r1.1 (by omega)
    have w0 : IntKind.i64.wrap (((i : Int) + 1) * rdI f (i + 1)) = ((i : Int) + 1) * rdI f (i + 1) := IntWalk.i64_in _ (by omega)
    have h1 : (((i : Int) + 1) * rdI f (i + 1)).tmod p = drv p f i := by unfold drv; exact Int.tmod_eq_emod_of_nonneg pm.1
    have hpn : ¬ p = 0 := by omega
    have w1 : IntKind.i64.wrap ((i : Int) + 1) = (i : Int) + 1 := IntWalk.i64_in _ (by omega)
    have w2 : IntKind.i64.wrap ((i : Int) + 1 + 1) = (i : Int) + 1 + 1 := IntWalk.i64_in _ (by omega)
    have k1 : i + 1 < f.length := by omega
    have k2 : (i : Int) + 1 < f.length := by omega
    have kp : (0 : Int) ≤ (i : Int) + 1 := by omega
    have tA : tab (i + 1) (drv p f) = tab i (drv p f) ++ [drv p f i] := tab_succ _ _
    have lA := tab_len i (drv p f)
    have c3 : (i + 1) * 8 ≤ 140737488355328 := by omega
    generalize hTA : tab i (drv p f) = TA at *
    generalize drv p f i = x at *
    rcases i with _ | k
    · obtain rfl : TA = [] := hTA.symm
      dsimp only at next ⊢
      have wz2 : IntKind.i64.wrap 2 = 2 := by decide +kernel
      simp only [Nat.zero_add, Int.zero_add, Int.cast_ofNat_Int, Int.one_mul] at *
      simp [go_sem, -map_replicate, -map_set, -map_append, -map_reverse, -map_take, -map_drop, -map_tail, -any_map, -all_map, -mapM_map, -map_map, slL, szI, ldI, zI, undL, apL, setI, rdI_get, Nat.add_one_le_iff, fillV, zeros1, zeros0, appendD, segV, lvO, goneOf, sliceD, bound, Nat.add_assoc, wz2, w0, hpn, k1, k2, kp, w1, w2, h1, convD, undI64]
      repeat refine ⟨by kernel_rfl, by kernel_rfl, ?_⟩
      refine next _ rfl ?_
      (refine canon_mk ?_; simp [method_specs_simp, ordIds_app, ordRen_app, ordIds_app2, ordRen_app2, -map_replicate, -map_set, -map_append, -map_reverse, -map_take, -map_drop, -map_tail, -map_map, tA])
    · dsimp only at next ⊢
      have t1 : ((k : Int) + 1 + 1).toNat = k + 2 := by omega
      simp only [Int.natCast_add, Int.cast_ofNat_Int, Nat.add_assoc, Nat.reduceAdd] at *
      simp [go_sem, -map_replicate, -map_set, -map_append, -map_reverse, -map_take, -map_drop, -map_tail, -any_map, -all_map, -mapM_map, -map_map, slL, szI, ldI, zI, undL, apL, setI, rdI_get, Nat.add_one_le_iff, fillV, zeros1, zeros0, appendD, segV, lvO, goneOf, sliceD, bound, Nat.add_assoc, w0, hpn, k1, k2, kp, t1, w1, w2, h1, c3, lA, hTA, convD, undI64]
      repeat refine ⟨by kernel_rfl, by kernel_rfl, ?_⟩
      refine next _ rfl ?_
      (refine canon_mk ?_; simp [method_specs_simp, ordIds_app, ordRen_app, ordIds_app2, ordRen_app2, -map_replicate, -map_set, -map_append, -map_reverse, -map_take, -map_drop, -map_tail, -map_map, tA])
  · rcases hn : f.length - 1 with _ | n
    · omega
    · have c : 1 < f.length := by omega
      have ci : ¬ (n : Int) + 1 + 1 < f.length := by omega
      have ht := run_l01Trim (tab (n + 1) (drv p f)) (by rw [tab_len]; omega)
      rw [tab_len, show trimL (tab (n + 1) (drv p f)) = drvP p f by unfold drvP; rw [hn]] at ht
      have lT := tab_len (n + 1) (drv p f)
      dsimp only
      simp [go_sem, -map_replicate, -map_set, -map_append, -map_reverse, -map_take, -map_drop, -map_tail, -any_map, -all_map, -mapM_map, -map_map, slL, szI, ldI, zI, undL, apL, setI, rdI_get, Nat.add_one_le_iff, fillV, zeros1, zeros0, appendD, segV, lvO, goneOf, sliceD, bound, Nat.add_assoc, c, ci, ht, lT]
      simp [mvcgen_simp, -map_replicate, -map_set, -map_append, -map_reverse, -map_take, -map_drop, -map_tail, -any_map, -all_map, -mapM_map, -map_map, Tryz.f122, c]
  · (refine canon_mk ?_; simp [method_specs_simp, ordIds_app, ordRen_app, ordIds_app2, ordRen_app2, -map_replicate, -map_set, -map_append, -map_reverse, -map_take, -map_drop, -map_tail, -map_map])
theorem drvP_nil {p : Int} {f : List Int} (h : ¬ 1 < f.length) : drvP p f = [] := by
  unfold drvP
  rw [show f.length - 1 = 0 by omega]; rfl
def drvR (p : Int) (a b : List Int) (k : Int) : List Int × Int := if jacB p a b then (if inK a k then (expandP p a b (drvP p (pl p a b k.toNat).1), 0) else ([], 2)) else ([], 1)
theorem drvR_len (p : Int) (a b : List Int) (k : Int) (ha : a.length ≤ 1048576) (hb : b.length ≤ 1048576) : (drvR p a b k).1.length ≤ 1048576 := by
  unfold drvR
  split
  · split
    · rename_i h1 h2
      simp only [inK, Bool.and_eq_true, decide_eq_true_eq] at h2
      have := drvP_le p (pl p a b k.toNat).1
      have := (pl_le p a b k.toNat).1
      simp only [expandP_len]; omega
    · simp
  · simp
end Go.Proofs.YtacfkfdnncgjcaaGreat.Ev
