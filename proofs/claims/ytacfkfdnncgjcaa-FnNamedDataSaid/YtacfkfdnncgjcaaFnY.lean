/- ScaleJacobi: both texts and the law. Conditions: none. -/
import Derived.Test.YtacfkfdnncgjcaaFnR
set_option linter.unusedSimpArgs false
set_option linter.unusedVariables false
namespace Go.Proofs.Ytacfkfdnncgjcaa.Ev
open Go Go.Proofs
open List (map_replicate map_set map_append map_reverse map_take map_drop map_tail any_map all_map mapM_map map_map)
set_option maxRecDepth 4000
set_option maxHeartbeats 4000000

theorem run_l01Own (l : List Int) (hl : l.length ≤ 1048576) : runv E0 86 [(V.list (List.length (l)) (List.map (V.int .i64) (l)))] = some ⟨true, (V.uniq 1 (List.length (l)) (List.map (V.int .i64) (l))), [.undef]⟩ := by
  have cdk : codeOk Try.f86.ntmps (Try.f86.body.getD .skip) = true := by kernel_rfl
  refine run_of_WL (fn := Try.f86) rfl Try.func86 rfl ⟨by simp [Try.ntmps86], by simp [wideA, ints], cdk, by simp [Try.f86]⟩ ?_
  have c1 : l.length * 8 ≤ 140737488355328 := by omega
  simp [go_sem, -map_replicate, -map_set, -map_append, -map_reverse, -map_take, -map_drop, -map_tail, -any_map, -all_map, -mapM_map, -map_map, slL, szI, ldI, zI, undL, apL, setI, rdI_get, Nat.add_one_le_iff, fillV, zeros1, zeros0, appendD, segV, lvO, goneOf, sliceD, bound, Nat.add_assoc, c1]
  simp [mvcgen_simp, -map_replicate, -map_set, -map_append, -map_reverse, -map_take, -map_drop, -map_tail, -any_map, -all_map, -mapM_map, -map_map, Try.f86]
def unitW (p x : Int) : Bool := decide (1 ≤ x) && decide (x ≤ IntKind.i64.wrap (p - 1))
theorem run_isUnitW (p x : Int) : runv E0 145 [.int .i64 p, .int .i64 x] = some ⟨true, .bool (unitW p x), [.undef, .undef]⟩ := by
  have cdk : codeOk Try.f145.ntmps (Try.f145.body.getD .skip) = true := by kernel_rfl
  refine run_of_WL (fn := Try.f145) rfl Try.func145 rfl ⟨by simp [Try.ntmps145], by simp [wideA, ints], cdk, by simp [Try.f145]⟩ ?_
  simp [go_sem, -map_replicate, -map_set, -map_append, -map_reverse, -map_take, -map_drop, -map_tail, -any_map, -all_map, -mapM_map, -map_map, slL, szI, ldI, zI, undL, apL, setI, rdI_get, Nat.add_one_le_iff, fillV, zeros1, zeros0, appendD, segV, lvO, goneOf, sliceD, bound, Nat.add_assoc, run_within]
  simp [mvcgen_simp, -map_replicate, -map_set, -map_append, -map_reverse, -map_take, -map_drop, -map_tail, -any_map, -all_map, -mapM_map, -map_map, Try.f145, unitW]
theorem unitW_eq {p x : Int} (hp : 2 ≤ p ∧ p ≤ 10007) : unitW p x = unitB p x := by
  unfold unitW unitB
  rw [IntWalk.i64_in _ (by omega)]
  congr 1
  rw [decide_eq_decide]; omega
def scaleL (p : Int) (b : List Int) (w : Int) : List Int := b.set 0 (rdI b 0 * w % p)
def scaleJ (p : Int) (a b : List Int) (w : Int) : Int × List Int × List Int × Int :=
  if jacB p a b then (if unitB p w then (p, a, scaleL p b w, 0) else (0, [], [], 2)) else (0, [], [], 1)
theorem scaleJ_len (p : Int) (a b : List Int) (w : Int) (ha : a.length ≤ 1048576) (hb : b.length ≤ 1048576) : (scaleJ p a b w).2.1.length ≤ 1048576 ∧ (scaleJ p a b w).2.2.1.length ≤ 1048576 := by
  unfold scaleJ scaleL
  (repeat' split) <;> simp <;> omega

end Go.Proofs.Ytacfkfdnncgjcaa.Ev
