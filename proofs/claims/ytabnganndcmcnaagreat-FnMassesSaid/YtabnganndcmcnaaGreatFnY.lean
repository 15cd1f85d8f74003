/- ScaleJacobi: both texts and the law. Conditions: none. -/
import Derived.Test.YtabnganndcmcnaaGreatFnT
set_option linter.unusedSimpArgs false
set_option linter.unusedVariables false
namespace Go.Proofs.YtabnganndcmcnaaGreat.Ev
open Go Go.Proofs
open List (map_replicate map_set map_append map_reverse map_take map_drop map_tail any_map all_map mapM_map map_map)
set_option maxRecDepth 4000
set_option maxHeartbeats 4000000

theorem run_l01Own (l : List Int) (hl : l.length ≤ 1048576) : runv E0 180 [(V.list (List.length (l)) (List.map (V.int .i64) (l)))] = some ⟨true, (V.uniq 1 (List.length (l)) (List.map (V.int .i64) (l))), [.undef]⟩ := by
  have cdk : codeOk Tryz.f180.ntmps (Tryz.f180.body.getD .skip) = true := by kernel_rfl
  refine run_of_WL (fn := Tryz.f180) rfl Tryz.func180 rfl ⟨by simp [Tryz.ntmps180], by simp [wideA, ints], cdk, by simp [Tryz.f180]⟩ ?_
  have c1 : l.length * 8 ≤ 140737488355328 := by omega
  simp [go_sem, -map_replicate, -map_set, -map_append, -map_reverse, -map_take, -map_drop, -map_tail, -any_map, -all_map, -mapM_map, -map_map, slL, szI, ldI, zI, undL, apL, setI, rdI_get, Nat.add_one_le_iff, fillV, zeros1, zeros0, appendD, segV, lvO, goneOf, sliceD, bound, Nat.add_assoc, c1]
  simp [mvcgen_simp, -map_replicate, -map_set, -map_append, -map_reverse, -map_take, -map_drop, -map_tail, -any_map, -all_map, -mapM_map, -map_map, Tryz.f180]
theorem run_l08Copy (p : Int) (a b : List Int) (ha : a.length ≤ 1048576) (hb : b.length ≤ 1048576) : runv E0 109 [(V.agg [V.int .i64 (p), (V.list (List.length (a)) (List.map (V.int .i64) (a))), (V.list (List.length (b)) (List.map (V.int .i64) (b)))])] = some ⟨true, (V.agg [V.int .i64 (p), (V.uniq 1 (List.length (a)) (List.map (V.int .i64) (a))), (V.uniq 1 (List.length (b)) (List.map (V.int .i64) (b)))]), [.agg [.undef, .undef, .undef]]⟩ := by
  have cdk : codeOk Tryz.f109.ntmps (Tryz.f109.body.getD .skip) = true := by kernel_rfl
  refine run_of_WL (fn := Tryz.f109) rfl Tryz.func109 rfl ⟨by simp [Tryz.ntmps109], by simp [wideA, ints], cdk, by simp [Tryz.f109]⟩ ?_
  have h1 := run_l01Own a ha
  have h2 := run_l01Own b hb
  simp [go_sem, -map_replicate, -map_set, -map_append, -map_reverse, -map_take, -map_drop, -map_tail, -any_map, -all_map, -mapM_map, -map_map, slL, szI, ldI, zI, undL, apL, setI, rdI_get, Nat.add_one_le_iff, fillV, zeros1, zeros0, appendD, segV, lvO, goneOf, sliceD, bound, Nat.add_assoc, szL, ldL, setCs0, setCs1, setCs2, setCsA2, setCsA3, ldM, fM0, fM1, szM, zM, plM0, plM1, agM, paM, ldJ, fJ0, fJ1, fJ2, szJ, zJ, plJ0, plJ1, plJ2, agJ, paJ, h1, h2, fillV]
  refine ⟨by kernel_rfl, by kernel_rfl, ?_⟩
  simp [mvcgen_simp, -map_replicate, -map_set, -map_append, -map_reverse, -map_take, -map_drop, -map_tail, -any_map, -all_map, -mapM_map, -map_map, Tryz.f109, szL, ldL, setCs0, setCs1, setCs2, setCsA2, setCsA3, ldM, fM0, fM1, szM, zM, plM0, plM1, agM, paM, ldJ, fJ0, fJ1, fJ2, szJ, zJ, plJ0, plJ1, plJ2, agJ, paJ, ctJ, loadD, viewN]
theorem run_part0 (p : Int) (a b : List Int) (ha : 1 ≤ a.length) (ha2 : a.length ≤ 1048576) (hb : b.length = a.length) :
    runv E0 107 [(V.agg [V.int .i64 (p), (V.list (List.length (a)) (List.map (V.int .i64) (a))), (V.list (List.length (b)) (List.map (V.int .i64) (b)))]), .int .i64 0, .int .i64 a.length] = some ⟨true, (V.agg [V.int .i64 (p), (V.uniq 1 (List.length (a)) (List.map (V.int .i64) (a))), (V.uniq 1 (List.length (b)) (List.map (V.int .i64) (b)))]), [.agg [.undef, .undef, .undef], .undef, .undef]⟩ := by
  have cdk : codeOk Tryz.f107.ntmps (Tryz.f107.body.getD .skip) = true := by kernel_rfl
  refine run_of_WL (fn := Tryz.f107) rfl Tryz.func107 rfl ⟨by simp [Tryz.ntmps107], by simp [wideA, ints], cdk, by simp [Tryz.f107]⟩ ?_
  have h1 := run_Clone a (by omega) ha2
  have h2 := run_Clone b (by omega) (by omega)
  have t1 : List.take a.length (List.map (V.int .i64) a) = List.map (V.int .i64) a := take_map_full (Nat.le_refl _)
  have t2 : List.take a.length (List.map (V.int .i64) b) = List.map (V.int .i64) b := take_map_full (by omega)
  rw [hb] at h2
  simp [go_sem, -map_replicate, -map_set, -map_append, -map_reverse, -map_take, -map_drop, -map_tail, -any_map, -all_map, -mapM_map, -map_map, slL, szI, ldI, zI, undL, apL, setI, rdI_get, Nat.add_one_le_iff, fillV, zeros1, zeros0, appendD, segV, lvO, goneOf, sliceD, bound, Nat.add_assoc, szL, ldL, setCs0, setCs1, setCs2, setCsA2, setCsA3, ldM, fM0, fM1, szM, zM, plM0, plM1, agM, paM, ldJ, fJ0, fJ1, fJ2, szJ, zJ, plJ0, plJ1, plJ2, agJ, paJ, h1, h2, hb, t1, t2, fillV]
  refine ⟨by kernel_rfl, by kernel_rfl, ?_⟩
  simp [mvcgen_simp, -map_replicate, -map_set, -map_append, -map_reverse, -map_take, -map_drop, -map_tail, -any_map, -all_map, -mapM_map, -map_map, Tryz.f107, szL, ldL, setCs0, setCs1, setCs2, setCsA2, setCsA3, ldM, fM0, fM1, szM, zM, plM0, plM1, agM, paM, ldJ, fJ0, fJ1, fJ2, szJ, zJ, plJ0, plJ1, plJ2, agJ, paJ, ctJ, loadD, viewN, hb]

def unitW (p x : Int) : Bool := decide (1 ≤ x) && decide (x ≤ IntKind.i64.wrap (p - 1))
theorem run_isUnitW (p x : Int) : runv E0 106 [.int .i64 p, .int .i64 x] = some ⟨true, .bool (unitW p x), [.undef, .undef]⟩ := by
  have cdk : codeOk Tryz.f106.ntmps (Tryz.f106.body.getD .skip) = true := by kernel_rfl
  refine run_of_WL (fn := Tryz.f106) rfl Tryz.func106 rfl ⟨by simp [Tryz.ntmps106], by simp [wideA, ints], cdk, by simp [Tryz.f106]⟩ ?_
  simp [go_sem, -map_replicate, -map_set, -map_append, -map_reverse, -map_take, -map_drop, -map_tail, -any_map, -all_map, -mapM_map, -map_map, slL, szI, ldI, zI, undL, apL, setI, rdI_get, Nat.add_one_le_iff, fillV, zeros1, zeros0, appendD, segV, lvO, goneOf, sliceD, bound, Nat.add_assoc, run_within]
  simp [mvcgen_simp, -map_replicate, -map_set, -map_append, -map_reverse, -map_take, -map_drop, -map_tail, -any_map, -all_map, -mapM_map, -map_map, Tryz.f106, unitW]
theorem unitW_eq {p x : Int} (hp : 2 ≤ p ∧ p ≤ 10007) : unitW p x = unitB p x := by
  unfold unitW unitB
  rw [IntWalk.i64_in _ (by omega)]
  congr 1
  rw [decide_eq_decide]; omega
def scaleL (p : Int) (b : List Int) (w : Int) : List Int := b.set 0 (rdI b 0 * w % p)
def scaleJ (p : Int) (a b : List Int) (w : Int) : Int × List Int × List Int × Int :=
  if jacB p a b then (if unitB p w then (p, a, scaleL p b w, 0) else (0, [], [], 2)) else (0, [], [], 1)
theorem scaleJ_len (p : Int) (a b : List Int) (w : Int) (ha : a.length ≤ 1048576) (hb : b.length ≤ 1048576) : (scaleJ p a b w).2.1.length ≤ 1048576 ∧ (scaleJ p a b w).2.2.1.length ≤ 1048576 := by
  unfold scaleJ scaleL
  (repeat' split) <;> simp <;> omega

theorem run_implScaleJacobi (p : Int) (a b : List Int) (w : Int) (ha : a.length ≤ 1048576) (hb : b.length ≤ 1048576) :
    runv E0 32 [(V.agg [V.int .i64 (p), (V.list (List.length (a)) (List.map (V.int .i64) (a))), (V.list (List.length (b)) (List.map (V.int .i64) (b)))]), .int .i64 w] = some ⟨true, .tup [(V.agg [V.int .i64 ((scaleJ p a b w).1), (V.uniq 1 (List.length ((scaleJ p a b w).2.1)) (List.map (V.int .i64) ((scaleJ p a b w).2.1))), (V.uniq 1 (List.length ((scaleJ p a b w).2.2.1)) (List.map (V.int .i64) ((scaleJ p a b w).2.2.1)))]), .int .i64 (scaleJ p a b w).2.2.2], [.agg [.undef, .undef, .undef], .undef]⟩ := by
  have cdk : codeOk Tryz.f32.ntmps (Tryz.f32.body.getD .skip) = true := by kernel_rfl
  refine run_of_WL (fn := Tryz.f32) rfl Tryz.func32 rfl ⟨by simp [Tryz.ntmps32], by simp [wideA, ints], cdk, by simp [Tryz.f32]⟩ ?_
  have h1 := run_jacobiCode p a b (unitW p w) (by omega) (by omega)
  have h2 := run_isUnitW p w
  cases e : jacB p a b with
  | false =>
    rw [e] at h1
    simp only [Bool.false_eq_true, if_false] at h1
    simp [go_sem, -map_replicate, -map_set, -map_append, -map_reverse, -map_take, -map_drop, -map_tail, -any_map, -all_map, -mapM_map, -map_map, slL, szI, ldI, zI, undL, apL, setI, rdI_get, Nat.add_one_le_iff, fillV, zeros1, zeros0, appendD, segV, lvO, goneOf, sliceD, bound, Nat.add_assoc, szL, ldL, setCs0, setCs1, setCs2, setCsA2, setCsA3, ldM, fM0, fM1, szM, zM, plM0, plM1, agM, paM, ldJ, fJ0, fJ1, fJ2, szJ, zJ, plJ0, plJ1, plJ2, agJ, paJ, run_Jfield, h2, h1, fillV]
    repeat refine ⟨by kernel_rfl, by kernel_rfl, ?_⟩
    simp [mvcgen_simp, -map_replicate, -map_set, -map_append, -map_reverse, -map_take, -map_drop, -map_tail, -any_map, -all_map, -mapM_map, -map_map, Tryz.f32, scaleJ, e, szL, ldL, setCs0, setCs1, setCs2, setCsA2, setCsA3, ldM, fM0, fM1, szM, zM, plM0, plM1, agM, paM, ldJ, fJ0, fJ1, fJ2, szJ, zJ, plJ0, plJ1, plJ2, agJ, paJ, ctJ, loadD, viewN]
  | true =>
    have hp := jacB_prime e
    have hl := jacB_len e
    rw [e, unitW_eq hp] at h1
    rw [unitW_eq hp] at h2
    cases e2 : unitB p w with
    | false =>
      rw [e2] at h1 h2
      simp [go_sem, -map_replicate, -map_set, -map_append, -map_reverse, -map_take, -map_drop, -map_tail, -any_map, -all_map, -mapM_map, -map_map, slL, szI, ldI, zI, undL, apL, setI, rdI_get, Nat.add_one_le_iff, fillV, zeros1, zeros0, appendD, segV, lvO, goneOf, sliceD, bound, Nat.add_assoc, szL, ldL, setCs0, setCs1, setCs2, setCsA2, setCsA3, ldM, fM0, fM1, szM, zM, plM0, plM1, agM, paM, ldJ, fJ0, fJ1, fJ2, szJ, zJ, plJ0, plJ1, plJ2, agJ, paJ, run_Jfield, h2, h1, fillV]
      repeat refine ⟨by kernel_rfl, by kernel_rfl, ?_⟩
      simp [mvcgen_simp, -map_replicate, -map_set, -map_append, -map_reverse, -map_take, -map_drop, -map_tail, -any_map, -all_map, -mapM_map, -map_map, Tryz.f32, scaleJ, e, e2, szL, ldL, setCs0, setCs1, setCs2, setCsA2, setCsA3, ldM, fM0, fM1, szM, zM, plM0, plM1, agM, paM, ldJ, fJ0, fJ1, fJ2, szJ, zJ, plJ0, plJ1, plJ2, agJ, paJ, ctJ, loadD, viewN]
    | true =>
      rw [e2] at h1 h2
      have hw := unitB_range e2
      have rb := jacB_b e (show 0 < a.length by omega)
      have hm := mul_small hp (show 0 ≤ rdI b 0 ∧ rdI b 0 < p by omega) (show 0 ≤ w ∧ w < p by omega)
      have h3 := run_mul p (rdI b 0) w hp (IntWalk.i64_in _ (by omega))
      have h4 := run_part0 p a b hl.1 ha hl.2.2
      have h5 := run_Jsize p a b
      have hb0 : 0 < b.length := by omega
      simp [go_sem, -map_replicate, -map_set, -map_append, -map_reverse, -map_take, -map_drop, -map_tail, -any_map, -all_map, -mapM_map, -map_map, slL, szI, ldI, zI, undL, apL, setI, rdI_get, Nat.add_one_le_iff, fillV, zeros1, zeros0, appendD, segV, lvO, goneOf, sliceD, bound, Nat.add_assoc, szL, ldL, setCs0, setCs1, setCs2, setCsA2, setCsA3, ldM, fM0, fM1, szM, zM, plM0, plM1, agM, paM, ldJ, fJ0, fJ1, fJ2, szJ, zJ, plJ0, plJ1, plJ2, agJ, paJ, run_Jfield, h2, h1, h3, h4, h5, hb0, fillV]
      repeat refine ⟨by kernel_rfl, by kernel_rfl, ?_⟩
      simp [mvcgen_simp, -map_replicate, -map_set, -map_append, -map_reverse, -map_take, -map_drop, -map_tail, -any_map, -all_map, -mapM_map, -map_map, Tryz.f32, scaleJ, scaleL, e, e2, szL, ldL, setCs0, setCs1, setCs2, setCsA2, setCsA3, ldM, fM0, fM1, szM, zM, plM0, plM1, agM, paM, ldJ, fJ0, fJ1, fJ2, szJ, zJ, plJ0, plJ1, plJ2, agJ, paJ, ctJ, loadD, viewN]
theorem run_specScaleJacobi (p : Int) (a b : List Int) (w : Int) (ha : a.length ≤ 1048576) (hb : b.length ≤ 1048576) :
    runv E0 33 [(V.agg [V.int .i64 (p), (V.list (List.length (a)) (List.map (V.int .i64) (a))), (V.list (List.length (b)) (List.map (V.int .i64) (b)))]), .int .i64 w] = some ⟨true, .tup [(V.agg [V.int .i64 ((scaleJ p a b w).1), (V.uniq 1 (List.length ((scaleJ p a b w).2.1)) (List.map (V.int .i64) ((scaleJ p a b w).2.1))), (V.uniq 1 (List.length ((scaleJ p a b w).2.2.1)) (List.map (V.int .i64) ((scaleJ p a b w).2.2.1)))]), .int .i64 (scaleJ p a b w).2.2.2], [.agg [.undef, .undef, .undef], .undef]⟩ := by
  have cdk : codeOk Tryz.f33.ntmps (Tryz.f33.body.getD .skip) = true := by kernel_rfl
  refine run_of_WL (fn := Tryz.f33) rfl Tryz.func33 rfl ⟨by simp [Tryz.ntmps33], by simp [wideA, ints], cdk, by simp [Tryz.f33]⟩ ?_
  have h1 := run_l08Code1 p 1 w a b (by omega) (by omega)
  rw [show (decide (1 ≤ w) && decide (w < p)) = unitB p w from rfl] at h1
  unfold jcode at h1
  cases e : jacB p a b with
  | false =>
    rw [e] at h1
    simp [go_sem, -map_replicate, -map_set, -map_append, -map_reverse, -map_take, -map_drop, -map_tail, -any_map, -all_map, -mapM_map, -map_map, slL, szI, ldI, zI, undL, apL, setI, rdI_get, Nat.add_one_le_iff, fillV, zeros1, zeros0, appendD, segV, lvO, goneOf, sliceD, bound, Nat.add_assoc, szL, ldL, setCs0, setCs1, setCs2, setCsA2, setCsA3, ldM, fM0, fM1, szM, zM, plM0, plM1, agM, paM, ldJ, fJ0, fJ1, fJ2, szJ, zJ, plJ0, plJ1, plJ2, agJ, paJ, h1, fillV]
    repeat refine ⟨by kernel_rfl, by kernel_rfl, ?_⟩
    simp [mvcgen_simp, -map_replicate, -map_set, -map_append, -map_reverse, -map_take, -map_drop, -map_tail, -any_map, -all_map, -mapM_map, -map_map, Tryz.f33, scaleJ, e, szL, ldL, setCs0, setCs1, setCs2, setCsA2, setCsA3, ldM, fM0, fM1, szM, zM, plM0, plM1, agM, paM, ldJ, fJ0, fJ1, fJ2, szJ, zJ, plJ0, plJ1, plJ2, agJ, paJ, ctJ, loadD, viewN]
  | true =>
    have hp := jacB_prime e
    have hl := jacB_len e
    rw [e] at h1
    cases e2 : unitB p w with
    | false =>
      rw [e2] at h1
      simp [go_sem, -map_replicate, -map_set, -map_append, -map_reverse, -map_take, -map_drop, -map_tail, -any_map, -all_map, -mapM_map, -map_map, slL, szI, ldI, zI, undL, apL, setI, rdI_get, Nat.add_one_le_iff, fillV, zeros1, zeros0, appendD, segV, lvO, goneOf, sliceD, bound, Nat.add_assoc, szL, ldL, setCs0, setCs1, setCs2, setCsA2, setCsA3, ldM, fM0, fM1, szM, zM, plM0, plM1, agM, paM, ldJ, fJ0, fJ1, fJ2, szJ, zJ, plJ0, plJ1, plJ2, agJ, paJ, h1, fillV]
      repeat refine ⟨by kernel_rfl, by kernel_rfl, ?_⟩
      simp [mvcgen_simp, -map_replicate, -map_set, -map_append, -map_reverse, -map_take, -map_drop, -map_tail, -any_map, -all_map, -mapM_map, -map_map, Tryz.f33, scaleJ, e, e2, szL, ldL, setCs0, setCs1, setCs2, setCsA2, setCsA3, ldM, fM0, fM1, szM, zM, plM0, plM1, agM, paM, ldJ, fJ0, fJ1, fJ2, szJ, zJ, plJ0, plJ1, plJ2, agJ, paJ, ctJ, loadD, viewN]
    | true =>
      rw [e2] at h1
      have hw := unitB_range e2
      have rb := jacB_b e (show 0 < a.length by omega)
      have hm := mul_small hp (show 0 ≤ w ∧ w < p by omega) (show 0 ≤ rdI b 0 ∧ rdI b 0 < p by omega)
      have v1 : IntKind.i64.wrap (w * rdI b 0) = w * rdI b 0 := IntWalk.i64_in _ (by omega)
      have v2 : (w * rdI b 0).tmod p = rdI b 0 * w % p := by rw [Int.tmod_eq_emod_of_nonneg hm.1, Int.mul_comm]
      have hpn : ¬ p = 0 := by omega
      have h4 := run_l08Copy p a b ha hb
      have hb0 : 0 < b.length := by omega
      simp [go_sem, -map_replicate, -map_set, -map_append, -map_reverse, -map_take, -map_drop, -map_tail, -any_map, -all_map, -mapM_map, -map_map, slL, szI, ldI, zI, undL, apL, setI, rdI_get, Nat.add_one_le_iff, fillV, zeros1, zeros0, appendD, segV, lvO, goneOf, sliceD, bound, Nat.add_assoc, szL, ldL, setCs0, setCs1, setCs2, setCsA2, setCsA3, ldM, fM0, fM1, szM, zM, plM0, plM1, agM, paM, ldJ, fJ0, fJ1, fJ2, szJ, zJ, plJ0, plJ1, plJ2, agJ, paJ, h1, h4, hb0, v1, v2, hpn, fillV]
      repeat refine ⟨by kernel_rfl, by kernel_rfl, ?_⟩
      simp [mvcgen_simp, -map_replicate, -map_set, -map_append, -map_reverse, -map_take, -map_drop, -map_tail, -any_map, -all_map, -mapM_map, -map_map, Tryz.f33, scaleJ, scaleL, e, e2, szL, ldL, setCs0, setCs1, setCs2, setCsA2, setCsA3, ldM, fM0, fM1, szM, zM, plM0, plM1, agM, paM, ldJ, fJ0, fJ1, fJ2, szJ, zJ, plJ0, plJ1, plJ2, agJ, paJ, ctJ, loadD, viewN]

end Go.Proofs.YtabnganndcmcnaaGreat.Ev
