/- ScaleJacobi: both texts and the law. Conditions: none. -/
import Derived.Test.YtacfkfdnncgjcaaGreatFnR
set_option linter.unusedSimpArgs false
set_option linter.unusedVariables false
namespace Go.Proofs.YtacfkfdnncgjcaaGreat.Ev
open Go Go.Proofs
open List (map_replicate map_set map_append map_reverse map_take map_drop map_tail any_map all_map mapM_map map_map)
set_option maxRecDepth 4000
set_option maxHeartbeats 4000000

theorem run_l01Own (l : List Int) (hl : l.length ≤ 1048576) : runv E0 155 [(V.list (List.length (l)) (List.map (V.int .i64) (l)))] = some ⟨true, (V.uniq 1 (List.length (l)) (List.map (V.int .i64) (l))), [.undef]⟩ := by
  have cdk : codeOk Tryz.f155.ntmps (Tryz.f155.body.getD .skip) = true := by kernel_rfl
  refine run_of_WL (fn := Tryz.f155) rfl Tryz.func155 rfl ⟨by simp [Tryz.ntmps155], by simp [wideA, ints], cdk, by simp [Tryz.f155]⟩ ?_
  have c1 : l.length * 8 ≤ 140737488355328 := by omega
  simp [go_sem, -map_replicate, -map_set, -map_append, -map_reverse, -map_take, -map_drop, -map_tail, -any_map, -all_map, -mapM_map, -map_map, slL, szI, ldI, zI, undL, apL, setI, rdI_get, Nat.add_one_le_iff, fillV, zeros1, zeros0, appendD, segV, lvO, goneOf, sliceD, bound, Nat.add_assoc, c1]
  simp [mvcgen_simp, -map_replicate, -map_set, -map_append, -map_reverse, -map_take, -map_drop, -map_tail, -any_map, -all_map, -mapM_map, -map_map, Tryz.f155]
theorem run_part0 (p : Int) (a b : List Int) (ha : 1 ≤ a.length) (ha2 : a.length ≤ 1048576) (hb : b.length = a.length) :
    runv E0 116 [(V.agg [V.int .i64 (p), (V.list (List.length (a)) (List.map (V.int .i64) (a))), (V.list (List.length (b)) (List.map (V.int .i64) (b)))]), .int .i64 0, .int .i64 a.length] = some ⟨true, (V.agg [V.int .i64 (p), (V.uniq 1 (List.length (a)) (List.map (V.int .i64) (a))), (V.uniq 1 (List.length (b)) (List.map (V.int .i64) (b)))]), [.agg [.undef, .undef, .undef], .undef, .undef]⟩ := by
  have cdk : codeOk Tryz.f116.ntmps (Tryz.f116.body.getD .skip) = true := by kernel_rfl
  refine run_of_WL (fn := Tryz.f116) rfl Tryz.func116 rfl ⟨by simp [Tryz.ntmps116], by simp [wideA, ints], cdk, by simp [Tryz.f116]⟩ ?_
  have h1 := run_Clone a (by omega) ha2
  have h2 := run_Clone b (by omega) (by omega)
  have t1 : List.take a.length (List.map (V.int .i64) a) = List.map (V.int .i64) a := take_map_full (Nat.le_refl _)
  have t2 : List.take a.length (List.map (V.int .i64) b) = List.map (V.int .i64) b := take_map_full (by omega)
  rw [hb] at h2
  simp [go_sem, -map_replicate, -map_set, -map_append, -map_reverse, -map_take, -map_drop, -map_tail, -any_map, -all_map, -mapM_map, -map_map, slL, szI, ldI, zI, undL, apL, setI, rdI_get, Nat.add_one_le_iff, fillV, zeros1, zeros0, appendD, segV, lvO, goneOf, sliceD, bound, Nat.add_assoc, szL, ldL, setCs0, setCs1, setCs2, setCsA2, setCsA3, ldM, fM0, fM1, szM, zM, plM0, plM1, agM, paM, ldJ, fJ0, fJ1, fJ2, szJ, zJ, plJ0, plJ1, plJ2, agJ, paJ, h1, h2, hb, t1, t2, fillV]
  refine ⟨by kernel_rfl, by kernel_rfl, ?_⟩
  simp [mvcgen_simp, -map_replicate, -map_set, -map_append, -map_reverse, -map_take, -map_drop, -map_tail, -any_map, -all_map, -mapM_map, -map_map, Tryz.f116, szL, ldL, setCs0, setCs1, setCs2, setCsA2, setCsA3, ldM, fM0, fM1, szM, zM, plM0, plM1, agM, paM, ldJ, fJ0, fJ1, fJ2, szJ, zJ, plJ0, plJ1, plJ2, agJ, paJ, ctJ, loadD, viewN, hb]

def unitW (p x : Int) : Bool := decide (1 ≤ x) && decide (x ≤ IntKind.i64.wrap (p - 1))
theorem run_isUnitW (p x : Int) : runv E0 184 [.int .i64 p, .int .i64 x] = some ⟨true, .bool (unitW p x), [.undef, .undef]⟩ := by
  have cdk : codeOk Tryz.f184.ntmps (Tryz.f184.body.getD .skip) = true := by kernel_rfl
  refine run_of_WL (fn := Tryz.f184) rfl Tryz.func184 rfl ⟨by simp [Tryz.ntmps184], by simp [wideA, ints], cdk, by simp [Tryz.f184]⟩ ?_
  simp [go_sem, -map_replicate, -map_set, -map_append, -map_reverse, -map_take, -map_drop, -map_tail, -any_map, -all_map, -mapM_map, -map_map, slL, szI, ldI, zI, undL, apL, setI, rdI_get, Nat.add_one_le_iff, fillV, zeros1, zeros0, appendD, segV, lvO, goneOf, sliceD, bound, Nat.add_assoc, run_within]
  simp [mvcgen_simp, -map_replicate, -map_set, -map_append, -map_reverse, -map_take, -map_drop, -map_tail, -any_map, -all_map, -mapM_map, -map_map, Tryz.f184, unitW]
theorem unitW_eq {p x : Int} (hp : 2 ≤ p ∧ p ≤ 10007) : unitW p x = unitB p x := by
  unfold unitW unitB
  rw [IntWalk.i64_in _ (by omega)]
  congr 1
  rw [decide_eq_decide]; omega
def scaleL (p : Int) (b : List Int) (w : Int) : List Int := b.set 0 (rdI b 0 * w % p)
def scaleJ (p : Int) (a b : List Int) (w : Int) : Int × List Int × List Int × Int :=
  if jacB p a b then (if unitB p w then (p, a, scaleL p b w, 0) else (0, [], [], 2)) else (0, [], [], 1)
theorem scaleJ_len (p : Int) (a b : List Int) (w : Int) (ha : a.length ≤ 1048576) (hb : b.length ≤ 1048576) : (scaleJ p a b w).2.1.length ≤ 1048576 ∧ (scaleJ p a b w).2.2.1.length ≤ 1048576 := by
  unfold scaleJ scaleL
  (repeat' split) <;> simp <;> omega

end Go.Proofs.YtacfkfdnncgjcaaGreat.Ev
