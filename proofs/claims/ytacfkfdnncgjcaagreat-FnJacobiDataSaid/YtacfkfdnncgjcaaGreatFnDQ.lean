/- CutJacobi and CutMoments, where there is enough to cut. Conditions: none. -/
import Derived.Test.YtacfkfdnncgjcaaGreatFnDH
import Derived.Test.YtacfkfdnncgjcaaGreatFnBS
import Derived.Test.YtacfkfdnncgjcaaGreatFnY
set_option linter.unusedSimpArgs false
set_option linter.unusedVariables false
namespace Go.Proofs.YtacfkfdnncgjcaaGreat.Ev
open Go Go.Proofs
open List (map_replicate map_set map_append map_reverse map_take map_drop map_tail any_map all_map mapM_map map_map)
set_option maxRecDepth 4000
set_option maxHeartbeats 4000000

theorem run_partK (p : Int) (a b : List Int) (k : Nat) (hk : 1 ≤ k) (ha : k ≤ a.length) (ha2 : a.length ≤ 1048576) (hb : b.length = a.length) :
    runv E0 116 [(V.agg [V.int .i64 (p), (V.list (List.length (a)) (List.map (V.int .i64) (a))), (V.list (List.length (b)) (List.map (V.int .i64) (b)))]), .int .i64 0, .int .i64 (k : Int)] = some ⟨true, (V.agg [V.int .i64 (p), (V.uniq 1 (List.length (a.take k)) (List.map (V.int .i64) (a.take k))), (V.uniq 1 (List.length (b.take k)) (List.map (V.int .i64) (b.take k)))]), [.agg [.undef, .undef, .undef], .undef, .undef]⟩ := by
  have l1 : (a.take k).length = k := by simp; omega
  have l2 : (b.take k).length = k := by simp; omega
  have h1 := run_Clone (a.take k) (by omega) (by omega)
  have h2 := run_Clone (b.take k) (by omega) (by omega)
  rw [l1] at h1
  rw [l2] at h2
  have t1 : List.take k (List.map (V.int .i64) a) = List.map (V.int .i64) (a.take k) := by rw [List.map_take]
  have t2 : List.take k (List.map (V.int .i64) b) = List.map (V.int .i64) (b.take k) := by rw [List.map_take]
  have hkb : k ≤ b.length := by omega
  have cdk : codeOk Tryz.f116.ntmps (Tryz.f116.body.getD .skip) = true := by kernel_rfl
  refine run_of_WL (fn := Tryz.f116) rfl Tryz.func116 rfl ⟨by simp [Tryz.ntmps116], by simp [wideA, ints], cdk, by simp [Tryz.f116]⟩ ?_
  generalize a.take k = a' at *
  generalize b.take k = b' at *
  simp [go_sem, -map_replicate, -map_set, -map_append, -map_reverse, -map_take, -map_drop, -map_tail, -any_map, -all_map, -mapM_map, -map_map, slL, szI, ldI, zI, undL, apL, setI, rdI_get, Nat.add_one_le_iff, fillV, zeros1, zeros0, appendD, segV, lvO, goneOf, sliceD, bound, Nat.add_assoc, szL, ldL, setCs0, setCs1, setCs2, setCsA2, setCsA3, ldM, fM0, fM1, szM, zM, plM0, plM1, agM, paM, ldJ, fJ0, fJ1, fJ2, szJ, zJ, plJ0, plJ1, plJ2, agJ, paJ, h1, h2, ha, hkb, hb, t1, t2, fillV]
  repeat refine ⟨by kernel_rfl, by kernel_rfl, ?_⟩
  simp [mvcgen_simp, -map_replicate, -map_set, -map_append, -map_reverse, -map_take, -map_drop, -map_tail, -any_map, -all_map, -mapM_map, -map_map, Tryz.f116, szL, ldL, setCs0, setCs1, setCs2, setCsA2, setCsA3, ldM, fM0, fM1, szM, zM, plM0, plM1, agM, paM, ldJ, fJ0, fJ1, fJ2, szJ, zJ, plJ0, plJ1, plJ2, agJ, paJ, ctJ, loadD, viewN, hb, l1, l2]
theorem run_Cut1 (p n : Int) (l : List Int) : runv E0 71 [.ref [.int .i64 n] 0, .ref [.int .i64 p, (V.list (List.length (l)) (List.map (V.int .i64) (l)))] 0] = some ⟨true, .bool (decide (1 ≤ n) && decide (n ≤ l.length)), [.undef, .undef]⟩ := by
  have cdk : codeOk Tryz.f71.ntmps (Tryz.f71.body.getD .skip) = true := by kernel_rfl
  refine run_of_WL (fn := Tryz.f71) rfl Tryz.func71 rfl ⟨by simp [Tryz.ntmps71], by simp [wideA, ints], cdk, by simp [Tryz.f71]⟩ ?_
  have h1 := run_within n 1 l.length
  have h2 := run_length l
  simp [go_sem, -map_replicate, -map_set, -map_append, -map_reverse, -map_take, -map_drop, -map_tail, -any_map, -all_map, -mapM_map, -map_map, slL, szI, ldI, zI, undL, apL, setI, rdI_get, Nat.add_one_le_iff, fillV, zeros1, zeros0, appendD, segV, lvO, goneOf, sliceD, bound, Nat.add_assoc, szL, ldL, setCs0, setCs1, setCs2, setCsA2, setCsA3, ldM, fM0, fM1, szM, zM, plM0, plM1, agM, paM, ldJ, fJ0, fJ1, fJ2, szJ, zJ, plJ0, plJ1, plJ2, agJ, paJ, h1, h2]
  refine ⟨by kernel_rfl, by kernel_rfl, ?_⟩
  simp [mvcgen_simp, -map_replicate, -map_set, -map_append, -map_reverse, -map_take, -map_drop, -map_tail, -any_map, -all_map, -mapM_map, -map_map, Tryz.f71]
theorem run_implCutMoments (p : Int) (l : List Int) (n : Nat) (h : momB p l = true) (hn : 1 ≤ n) (hl : n ≤ l.length) :
    runv E1 15 [(V.agg [V.int .i64 (p), (V.list (List.length (l)) (List.map (V.int .i64) (l)))]), .int .i64 (n : Int)] = some ⟨true, .tup [(V.agg [V.int .i64 (p), (V.uniq 1 (List.length (l.take n)) (List.map (V.int .i64) (l.take n)))]), .int .i64 0], [.agg [.undef, .undef], .undef]⟩ := by
  have hll := momB_len h
  have h1 := up (run_mcode0 p l 71 [] [.ref [.int .i64 (n : Int)] 0, .ref [.int .i64 p, (V.list (List.length (l)) (List.map (V.int .i64) (l)))] 0] (decide (1 ≤ (n : Int)) && decide ((n : Int) ≤ l.length)) (by omega) (fv_ref2 _ _ _ _) (fun H b => by
    have := run_Cut1 p n l
    simp [modesOf, callD, prepL, prepA, purN, idsN, depth, this, nodupB, flatO, noTup, backW, widthOk, wideA, adopt, adoptA, adoptC, treeN]))
  rw [h, show (decide ((1 : Int) ≤ n) && decide ((n : Int) ≤ l.length)) = true by simp; omega] at h1
  have l1 : (l.take n).length = n := by simp; omega
  have h2 := up (run_with p l (l.take n) (by omega) (by omega))
  rw [l1] at h2 ⊢
  have t1 : List.take n (List.map (V.int .i64) l) = List.map (V.int .i64) (l.take n) := by rw [List.map_take]
  have n0 : (0 : Int) ≤ n := by omega
  have cdk : codeOk Tryz.f15.ntmps (Tryz.f15.body.getD .skip) = true := by kernel_rfl
  refine run_of_WLr (fn := Tryz.f15) rfl Tryz.func15 rfl ⟨by simp [Tryz.ntmps15], by simp [wideA, ints], cdk, by simp [Tryz.f15]⟩ rfl (by simp [rebOk, noId, adoptT, adoptA, adoptL, adoptC, depth]) ?_
  generalize l.take n = l' at *
  simp [go_sem, -map_replicate, -map_set, -map_append, -map_reverse, -map_take, -map_drop, -map_tail, -any_map, -all_map, -mapM_map, -map_map, slL, szI, ldI, zI, undL, apL, setI, rdI_get, Nat.add_one_le_iff, fillV, zeros1, zeros0, appendD, segV, lvO, goneOf, sliceD, bound, Nat.add_assoc, szL, ldL, setCs0, setCs1, setCs2, setCsA2, setCsA3, ldM, fM0, fM1, szM, zM, plM0, plM1, agM, paM, ldJ, fJ0, fJ1, fJ2, szJ, zJ, plJ0, plJ1, plJ2, agJ, paJ, h1, h2, hl, t1, fillV, n0]
  repeat refine ⟨by kernel_rfl, by kernel_rfl, ?_⟩
  simp [mvcgen_simp, -map_replicate, -map_set, -map_append, -map_reverse, -map_take, -map_drop, -map_tail, -any_map, -all_map, -mapM_map, -map_map, Tryz.f15, szL, ldL, setCs0, setCs1, setCs2, setCsA2, setCsA3, ldM, fM0, fM1, szM, zM, plM0, plM1, agM, paM, ldJ, fJ0, fJ1, fJ2, szJ, zJ, plJ0, plJ1, plJ2, agJ, paJ, ctM, loadD, viewN, l1]
end Go.Proofs.YtacfkfdnncgjcaaGreat.Ev
