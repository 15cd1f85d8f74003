/- Powers and inverses: both texts. Conditions: none. -/
import Derived.Test.YtabnganndcmcnaaFnS
set_option linter.unusedSimpArgs false
set_option linter.unusedVariables false
namespace Go.Proofs.Ytabnganndcmcnaa.Ev
open Go Go.Proofs
open List (map_replicate map_set map_append map_reverse map_take map_drop map_tail any_map all_map mapM_map map_map)
set_option maxRecDepth 4000
set_option maxHeartbeats 4000000

/-- The inverse of a number, as a power. -/
def invP (p x : Int) : Int := x ^ (p - 2).toNat % p
def divP (p x y : Int) : Int := x * invP p y % p
theorem invP_range {p : Int} (hp : 2 ≤ p ∧ p ≤ 10007) (x : Int) : 0 ≤ invP p x ∧ invP p x < p := mod_small hp _
theorem divP_range {p : Int} (hp : 2 ≤ p ∧ p ≤ 10007) (x y : Int) : 0 ≤ divP p x y ∧ divP p x y < p := mod_small hp _

theorem run_inverse (p x : Int) (hp : 2 ≤ p ∧ p ≤ 10007) (hx : 0 ≤ x ∧ x < p) :
    runv E0 242 [.int .i64 p, .int .i64 x] = some ⟨true, .int .i64 (invP p x), [.undef, .undef]⟩ := by
  have cdk : codeOk Try.f242.ntmps (Try.f242.body.getD .skip) = true := by kernel_rfl
  refine run_of_WL (fn := Try.f242) rfl Try.func242 rfl ⟨by simp [Try.ntmps242], by simp [wideA, ints], cdk, by simp [Try.f242]⟩ ?_
  have w : IntKind.i64.wrap (p - 2) = p - 2 := IntWalk.i64_in _ (by omega)
  have h := run_power p x (p - 2).toNat hp hx (by omega)
  rw [show (((p - 2).toNat : Nat) : Int) = p - 2 by omega] at h
  simp [go_sem, -map_replicate, -map_set, -map_append, -map_reverse, -map_take, -map_drop, -map_tail, -any_map, -all_map, -mapM_map, -map_map, slL, szI, ldI, zI, undL, apL, setI, rdI_get, Nat.add_one_le_iff, fillV, zeros1, zeros0, appendD, segV, lvO, goneOf, sliceD, bound, Nat.add_assoc, w, h]
  simp [mvcgen_simp, -map_replicate, -map_set, -map_append, -map_reverse, -map_take, -map_drop, -map_tail, -any_map, -all_map, -mapM_map, -map_map, Try.f242, invP]
theorem run_div (p x y : Int) (hp : 2 ≤ p ∧ p ≤ 10007) (hx : 0 ≤ x ∧ x < p) (hy : 0 ≤ y ∧ y < p) :
    runv E0 149 [.int .i64 p, .int .i64 x, .int .i64 y] = some ⟨true, .int .i64 (divP p x y), [.undef, .undef, .undef]⟩ := by
  have cdk : codeOk Try.f149.ntmps (Try.f149.body.getD .skip) = true := by kernel_rfl
  refine run_of_WL (fn := Try.f149) rfl Try.func149 rfl ⟨by simp [Try.ntmps149], by simp [wideA, ints], cdk, by simp [Try.f149]⟩ ?_
  have h := run_inverse p y hp hy
  have hi := invP_range hp y
  have hm := mul_small hp hx hi
  have h2 := run_mul p x (invP p y) hp (IntWalk.i64_in _ (by omega))
  simp [go_sem, -map_replicate, -map_set, -map_append, -map_reverse, -map_take, -map_drop, -map_tail, -any_map, -all_map, -mapM_map, -map_map, slL, szI, ldI, zI, undL, apL, setI, rdI_get, Nat.add_one_le_iff, fillV, zeros1, zeros0, appendD, segV, lvO, goneOf, sliceD, bound, Nat.add_assoc, h, h2]
  simp [mvcgen_simp, -map_replicate, -map_set, -map_append, -map_reverse, -map_take, -map_drop, -map_tail, -any_map, -all_map, -mapM_map, -map_map, Try.f149, divP]

theorem run_l01Power (p x : Int) (n : Nat) (hp : 2 ≤ p ∧ p ≤ 10007) (hn : n ≤ 9223372036854775807) :
    runv E0 241 [.int .i64 p, .int .i64 x, .int .i64 (n : Int)] = some ⟨true, .int .i64 (x ^ n % p), [.undef, .undef, .undef]⟩ := by
  have cdk : codeOk Try.f241.ntmps (Try.f241.body.getD .skip) = true := by kernel_rfl
  refine run_of_WL (fn := Try.f241) rfl Try.func241 rfl ⟨by simp [Try.ntmps241], by simp [wideA, ints], cdk, by simp [Try.f241]⟩ ?_
  have h1 := run_l01Mod p x hp
  have hx := mod_small hp x
  have hpn : ¬ p = 0 := by omega
  simp [go_sem, -map_replicate, -map_set, -map_append, -map_reverse, -map_take, -map_drop, -map_tail, -any_map, -all_map, -mapM_map, -map_map, slL, szI, ldI, zI, undL, apL, setI, rdI_get, Nat.add_one_le_iff, fillV, zeros1, zeros0, appendD, segV, lvO, goneOf, sliceD, bound, Nat.add_assoc, h1]
  rw [WL_loop]
  refine WL_rounds (I := fun j st => ∃ (y o : Int), st.fr 0 = .int .i64 p ∧ st.fr 8 = .int .i64 y ∧ st.fr 2 = .int .i64 j ∧ st.fr 7 = .int .i64 o ∧ 0 ≤ y ∧ y < p ∧ 0 ≤ o ∧ o < p ∧ o * y ^ j % p = x ^ n % p ∧ j ≤ n) ?_ n _ ?_
  · rintro j st ⟨y, o, he0, he1, he2, he3, he4, he5, he6, he7, he8, he9⟩ next
    have hy := mul_small hp (show 0 ≤ y ∧ y < p by omega) (show 0 ≤ y ∧ y < p by omega)
    have ho := mul_small hp (show 0 ≤ o ∧ o < p by omega) (show 0 ≤ y ∧ y < p by omega)
    have q1 := mod_small hp (y * y)
    have q2 := mod_small hp (o * y)
    have w1 : IntKind.i64.wrap ((j : Int) / 2) = ((j / 2 : Nat) : Int) := by rw [IntWalk.i64_in _ (by omega)]; omega
    have w2 : IntKind.i64.wrap (y * y) = y * y := IntWalk.i64_in _ (by omega)
    have w3 : IntKind.i64.wrap (o * y) = o * y := IntWalk.i64_in _ (by omega)
    have t1 : (y * y).tmod p = y * y % p := Int.tmod_eq_emod_of_nonneg hy.1
    have t2 : (o * y).tmod p = o * y % p := Int.tmod_eq_emod_of_nonneg ho.1
    have d1 : (j : Int).tdiv 2 = (j : Int) / 2 := Int.tdiv_eq_ediv_of_nonneg (by omega)
    have d2 : (j : Int).tmod 2 = (j : Int) % 2 := Int.tmod_eq_emod_of_nonneg (by omega)
    by_cases hj : 0 < j
    · by_cases hodd : j % 2 = 1
      · have hodd' : (j : Int) % 2 = 1 := by omega
        simp [go_sem, -map_replicate, -map_set, -map_append, -map_reverse, -map_take, -map_drop, -map_tail, -any_map, -all_map, -mapM_map, -map_map, slL, szI, ldI, zI, undL, apL, setI, rdI_get, Nat.add_one_le_iff, fillV, zeros1, zeros0, appendD, segV, lvO, goneOf, sliceD, bound, Nat.add_assoc, he0, he1, he2, he3, hj, d1, d2, hodd', w1, w2, w3, t1, t2, hpn]
        refine next (j / 2) _ (by omega) ⟨y * y % p, o * y % p, ?_⟩
        simp [upd, he0, he1, he2, he3, q1, q2]
        refine ⟨?_, by omega⟩
        rw [pow_odd, show 2 * (j / 2) + 1 = j by omega]
        exact he8
      · have hodd' : ¬ (j : Int) % 2 = 1 := by omega
        simp [go_sem, -map_replicate, -map_set, -map_append, -map_reverse, -map_take, -map_drop, -map_tail, -any_map, -all_map, -mapM_map, -map_map, slL, szI, ldI, zI, undL, apL, setI, rdI_get, Nat.add_one_le_iff, fillV, zeros1, zeros0, appendD, segV, lvO, goneOf, sliceD, bound, Nat.add_assoc, he0, he1, he2, he3, hj, d1, d2, hodd', w1, w2, t1, hpn]
        refine next (j / 2) _ (by omega) ⟨y * y % p, o, ?_⟩
        simp [upd, he0, he1, he2, he3, q1, he6, he7]
        refine ⟨?_, by omega⟩
        rw [pow_even, show 2 * (j / 2) = j by omega]
        exact he8
    · have : j = 0 := by omega
      subst this
      have ho' : o = x ^ n % p := by rw [← he8, Int.pow_zero, Int.mul_one, Int.emod_eq_of_lt he6 he7]
      have ht : o.tmod p = x ^ n % p := by rw [Int.tmod_eq_emod_of_nonneg he6, Int.emod_eq_of_lt he6 he7, ho']
      simp [go_sem, -map_replicate, -map_set, -map_append, -map_reverse, -map_take, -map_drop, -map_tail, -any_map, -all_map, -mapM_map, -map_map, slL, szI, ldI, zI, undL, apL, setI, rdI_get, Nat.add_one_le_iff, fillV, zeros1, zeros0, appendD, segV, lvO, goneOf, sliceD, bound, Nat.add_assoc, he0, he1, he2, he3, hpn, ht]
      simp [mvcgen_simp, -map_replicate, -map_set, -map_append, -map_reverse, -map_take, -map_drop, -map_tail, -any_map, -all_map, -mapM_map, -map_map, Try.f241]
  · refine ⟨x % p, 1, rfl, rfl, rfl, rfl, hx.1, hx.2, by omega, by omega, ?_, Nat.le_refl _⟩
    rw [Int.one_mul]
    exact pow_mod_congr (emod_emod' _ _) n
theorem run_l01Inverse (p x : Int) (hp : 2 ≤ p ∧ p ≤ 10007) :
    runv E0 130 [.int .i64 p, .int .i64 x] = some ⟨true, .int .i64 (invP p x), [.undef, .undef]⟩ := by
  have cdk : codeOk Try.f130.ntmps (Try.f130.body.getD .skip) = true := by kernel_rfl
  refine run_of_WL (fn := Try.f130) rfl Try.func130 rfl ⟨by simp [Try.ntmps130], by simp [wideA, ints], cdk, by simp [Try.f130]⟩ ?_
  have w : IntKind.i64.wrap (p - 2) = p - 2 := IntWalk.i64_in _ (by omega)
  have h := run_l01Power p x (p - 2).toNat hp (by omega)
  rw [show (((p - 2).toNat : Nat) : Int) = p - 2 by omega] at h
  simp [go_sem, -map_replicate, -map_set, -map_append, -map_reverse, -map_take, -map_drop, -map_tail, -any_map, -all_map, -mapM_map, -map_map, slL, szI, ldI, zI, undL, apL, setI, rdI_get, Nat.add_one_le_iff, fillV, zeros1, zeros0, appendD, segV, lvO, goneOf, sliceD, bound, Nat.add_assoc, w, h]
  simp [mvcgen_simp, -map_replicate, -map_set, -map_append, -map_reverse, -map_take, -map_drop, -map_tail, -any_map, -all_map, -mapM_map, -map_map, Try.f130, invP]

/-! ### Codes of data -/
/-- What a test of numbers from low on comes to for data. -/
def jcode (p : Int) (a b : List Int) (r : Bool) : Int := if jacB p a b then (if r then 0 else 2) else 1
theorem run_l08Code1 (p low x : Int) (a b : List Int) (ha : a.length ≤ 9223372036854775807) (hb : b.length ≤ 9223372036854775807) :
    runv E0 146 [(V.agg [V.int .i64 (p), (V.list (List.length (a)) (List.map (V.int .i64) (a))), (V.list (List.length (b)) (List.map (V.int .i64) (b)))]), .int .i64 low, .list 1 [.int .i64 x]] = some ⟨true, .int .i64 (jcode p a b (decide (low ≤ x) && decide (x < p))), [.agg [.undef, .undef, .undef], .undef, .undef]⟩ := by
  have cdk : codeOk Try.f146.ntmps (Try.f146.body.getD .skip) = true := by kernel_rfl
  refine run_of_WL (fn := Try.f146) rfl Try.func146 rfl ⟨by simp [Try.ntmps146], by simp [wideA, ints], cdk, by simp [Try.f146]⟩ ?_
  have h1 := run_l03Is p a b ha hb
  cases e : jacB p a b with
  | false =>
    rw [e] at h1
    simp [go_sem, -map_replicate, -map_set, -map_append, -map_reverse, -map_take, -map_drop, -map_tail, -any_map, -all_map, -mapM_map, -map_map, slL, szI, ldI, zI, undL, apL, setI, rdI_get, Nat.add_one_le_iff, fillV, zeros1, zeros0, appendD, segV, lvO, goneOf, sliceD, bound, Nat.add_assoc, szL, ldL, setCs0, setCs1, setCs2, setCsA2, setCsA3, ldM, fM0, fM1, szM, zM, plM0, plM1, agM, paM, ldJ, fJ0, fJ1, fJ2, szJ, zJ, plJ0, plJ1, plJ2, agJ, paJ, h1]
    simp [mvcgen_simp, -map_replicate, -map_set, -map_append, -map_reverse, -map_take, -map_drop, -map_tail, -any_map, -all_map, -mapM_map, -map_map, Try.f146, jcode, e]
  | true =>
    rw [e] at h1
    have hp := jacB_prime e
    have w : IntKind.i64.wrap (p - 1) = p - 1 := IntWalk.i64_in _ (by omega)
    have h2 := run_l01In' x low (p - 1)
    rw [show decide (x ≤ p - 1) = decide (x < p) by rw [decide_eq_decide]; omega] at h2
    simp [go_sem, -map_replicate, -map_set, -map_append, -map_reverse, -map_take, -map_drop, -map_tail, -any_map, -all_map, -mapM_map, -map_map, slL, szI, ldI, zI, undL, apL, setI, rdI_get, Nat.add_one_le_iff, fillV, zeros1, zeros0, appendD, segV, lvO, goneOf, sliceD, bound, Nat.add_assoc, szL, ldL, setCs0, setCs1, setCs2, setCsA2, setCsA3, ldM, fM0, fM1, szM, zM, plM0, plM1, agM, paM, ldJ, fJ0, fJ1, fJ2, szJ, zJ, plJ0, plJ1, plJ2, agJ, paJ, h1]
    rw [WL_loop, WL_inLoop (E := E0) rfl]
    cases e2 : (decide (low ≤ x) && decide (x < p)) with
    | false =>
      rw [e2] at h2
      simp [go_sem, -map_replicate, -map_set, -map_append, -map_reverse, -map_take, -map_drop, -map_tail, -any_map, -all_map, -mapM_map, -map_map, slL, szI, ldI, zI, undL, apL, setI, rdI_get, Nat.add_one_le_iff, fillV, zeros1, zeros0, appendD, segV, lvO, goneOf, sliceD, bound, Nat.add_assoc, szL, ldL, setCs0, setCs1, setCs2, setCsA2, setCsA3, ldM, fM0, fM1, szM, zM, plM0, plM1, agM, paM, ldJ, fJ0, fJ1, fJ2, szJ, zJ, plJ0, plJ1, plJ2, agJ, paJ, w, h2]
      refine ⟨by kernel_rfl, by kernel_rfl, ?_⟩
      simp [mvcgen_simp, -map_replicate, -map_set, -map_append, -map_reverse, -map_take, -map_drop, -map_tail, -any_map, -all_map, -mapM_map, -map_map, Try.f146, jcode, e, e2]
    | true =>
      rw [e2] at h2
      simp [go_sem, -map_replicate, -map_set, -map_append, -map_reverse, -map_take, -map_drop, -map_tail, -any_map, -all_map, -mapM_map, -map_map, slL, szI, ldI, zI, undL, apL, setI, rdI_get, Nat.add_one_le_iff, fillV, zeros1, zeros0, appendD, segV, lvO, goneOf, sliceD, bound, Nat.add_assoc, szL, ldL, setCs0, setCs1, setCs2, setCsA2, setCsA3, ldM, fM0, fM1, szM, zM, plM0, plM1, agM, paM, ldJ, fJ0, fJ1, fJ2, szJ, zJ, plJ0, plJ1, plJ2, agJ, paJ, w, h2]
      refine ⟨by kernel_rfl, by kernel_rfl, ?_⟩
      rw [WL_inLoop (E := E0) rfl]
      have w1 : IntKind.i64.wrap 1 = 1 := IntWalk.i64_in _ (by omega)
      simp [go_sem, -map_replicate, -map_set, -map_append, -map_reverse, -map_take, -map_drop, -map_tail, -any_map, -all_map, -mapM_map, -map_map, slL, szI, ldI, zI, undL, apL, setI, rdI_get, Nat.add_one_le_iff, fillV, zeros1, zeros0, appendD, segV, lvO, goneOf, sliceD, bound, Nat.add_assoc, szL, ldL, setCs0, setCs1, setCs2, setCsA2, setCsA3, ldM, fM0, fM1, szM, zM, plM0, plM1, agM, paM, ldJ, fJ0, fJ1, fJ2, szJ, zJ, plJ0, plJ1, plJ2, agJ, paJ, w1]
      simp [mvcgen_simp, -map_replicate, -map_set, -map_append, -map_reverse, -map_take, -map_drop, -map_tail, -any_map, -all_map, -mapM_map, -map_map, Try.f146, jcode, e, e2]
end Go.Proofs.Ytabnganndcmcnaa.Ev
